/- Joined texts: S11, S12, S13, S14, S15, PA4, PB1, W0, PB2, PU, PB3, PB4, PA3. -/
import Derived.Test.YtlekonngbmkdbaaGreatJ02
import Derived.KernelRfl
import Derived.Test.YtlekonngbmkdbaaGreatB0
import Derived.RangeFuncNested
import Derived.Deep.LoopGhost
import Derived.WideKeyPair
import Derived.Maps.OwnSet
namespace Go.Proofs.Pow

/-- group g (numbers): weaver k marks (s, h) -/
def usesI (m : PM) (s h : Nat) (k : Int) : Bool := (m.line (m.wv k.toNat).shaft).contains (s : Int) && (m.wv k.toNat).hours.contains (h : Int)
def mkG (m : PM) (g : List Int) (s h : Nat) : Bool := g.any (usesI m s h)
/-- within the round of k: the hours hs are done, in the hour cur the shafts ls -/
def mk3 (m : PM) (g : List Int) (k : Int) (hs : List Int) (cur : Int) (ls : List Int) (s h : Nat) : Bool :=
  mkG m g s h || (hs.contains (h : Int) && (m.line (m.wv k.toNat).shaft).contains (s : Int)) || (decide ((h : Int) = cur) && ls.contains (s : Int))
def InG (m : PM) (g : List Int) : Prop := ∀ k, k ∈ g → 0 ≤ k ∧ k < m.wvs.length
theorem mkG_hit {m : PM} {g : List Int} (hg : InG m g) (s h : Nat) : mkG m g s h = hitQ m.wvs.length (usesB m s h) fun k => g.contains (k : Int) := by
  rw [Bool.eq_iff_iff, hitQ_iff]
  unfold mkG
  rw [List.any_eq_true]
  constructor
  · rintro ⟨k, hk, hu⟩
    obtain ⟨h0, h1⟩ := hg k hk
    obtain ⟨n, rfl⟩ := Int.eq_ofNat_of_zero_le h0
    exact ⟨n, by omega, hu, List.contains_iff_mem.2 hk⟩
  · rintro ⟨k, hk, hu, hc⟩
    exact ⟨k, List.contains_iff_mem.1 hc, hu⟩
theorem cost_mkG {m : PM} {g : List Int} (hg : InG m g) : sumM m (mkG m g) = costF m fun k => g.contains (k : Int) := by
  rw [costF_sumM]
  exact sumM_congr fun s h _ _ => mkG_hit hg s h
theorem mkG_nil (m : PM) : mkG m [] = fun _ _ => false := rfl
theorem mkG_snoc (m : PM) (g : List Int) (k : Int) : mkG m (g ++ [k]) = fun s h => mkG m g s h || ((m.wv k.toNat).hours.contains (h : Int) && (m.line (m.wv k.toNat).shaft).contains (s : Int)) := by
  funext s h
  unfold mkG
  rw [List.any_append]
  simp [usesI, Bool.and_comm]
theorem mk3_start (m : PM) (g : List Int) (k : Int) : mk3 m g k [] 0 [] = mkG m g := by
  funext s h; simp [mk3]
theorem mk3_cur (m : PM) (g : List Int) (k : Int) (hs : List Int) (c c' : Int) : mk3 m g k hs c [] = mk3 m g k hs c' [] := by
  funext s h; simp [mk3]
theorem mk3_hour (m : PM) (g : List Int) (k : Int) (hs : List Int) (c c' : Int) : mk3 m g k (hs ++ [c]) c' [] = mk3 m g k hs c (m.line (m.wv k.toNat).shaft) := by
  funext s h
  unfold mk3
  rw [Bool.eq_iff_iff]
  simp
  constructor
  · rintro (h | ⟨h1 | h1, h2⟩)
    · exact .inl (.inl h)
    · exact .inl (.inr ⟨h1, h2⟩)
    · exact .inr ⟨h1, h2⟩
  · rintro ((h | ⟨h1, h2⟩) | ⟨h1, h2⟩)
    · exact .inl h
    · exact .inr ⟨.inl h1, h2⟩
    · exact .inr ⟨.inr h1, h2⟩
theorem mk3_end (m : PM) (g : List Int) (k : Int) (c : Int) : mk3 m g k (m.wv k.toNat).hours c [] = mkG m (g ++ [k]) := by
  rw [mkG_snoc]
  funext s h; simp [mk3]
/-- a spot comes: it is marked already, or it is marked now and its price is added -/
theorem mk3_old {m : PM} {g : List Int} {k : Int} {hs : List Int} {c : Nat} {ls : List Int} {x : Nat} (h : mk3 m g k hs c ls x c = true) : mk3 m g k hs c (ls ++ [(x : Int)]) = mk3 m g k hs c ls := by
  funext s t
  by_cases e : s = x ∧ t = c
  · obtain ⟨rfl, rfl⟩ := e
    rw [h]
    unfold mk3 at h ⊢
    rw [Bool.or_eq_true] at h ⊢
    rcases h with h | h
    · exact .inl h
    · refine .inr ?_
      rw [Bool.and_eq_true] at h ⊢
      exact ⟨h.1, by simp⟩
  · unfold mk3
    congr 1
    rw [Bool.eq_iff_iff]
    simp
    intro h1 h2
    exact absurd ⟨by omega, by omega⟩ e
theorem mk3_new (m : PM) (g : List Int) (k : Int) (hs : List Int) (c : Nat) (ls : List Int) (x : Nat) (s t : Nat) :
    mk3 m g k hs c (ls ++ [(x : Int)]) s t = (mk3 m g k hs c ls s t || (decide (s = x) && decide (t = c))) := by
  unfold mk3
  rw [Bool.eq_iff_iff]
  simp
  constructor
  · rintro (h | ⟨h1, h2 | h2⟩)
    · exact .inl (.inl h)
    · exact .inl (.inr ⟨h1, h2⟩)
    · exact .inr ⟨by omega, by omega⟩
  · rintro ((h | ⟨h1, h2⟩) | ⟨h1, h2⟩)
    · exact .inl h
    · exact .inr ⟨h1, .inl h2⟩
    · exact .inr ⟨by omega, .inr (by omega)⟩
theorem sum_new {m : PM} {g : List Int} {k : Int} {hs : List Int} {c : Nat} {ls : List Int} {x : Nat} (hx : x < m.shafts.length) (hc : c < 24) (h : mk3 m g k hs c ls x c = false) :
    sumM m (mk3 m g k hs c (ls ++ [(x : Int)])) = sumM m (mk3 m g k hs c ls) + (m.sh x).price := sumM_mark hx hc h fun s t => mk3_new m g k hs c ls x s t
/-- bounds of sums -/
theorem sumM_bounds {m : PM} (hm : POk m) (mk : Nat → Nat → Bool) : 0 ≤ sumM m mk ∧ sumM m mk ≤ 12960 := by
  have key : ∀ l : List (Nat × Nat), (∀ x, x ∈ l → x.1 < m.shafts.length) → 0 ≤ (l.map fun x => if mk x.1 x.2 then (m.sh x.1).price else 0).sum ∧ (l.map fun x => if mk x.1 x.2 then (m.sh x.1).price else 0).sum ≤ 60 * (l.length : Int) := by
    intro l
    induction l with
    | nil => intro _; simp
    | cons a l ih =>
      intro h
      have h1 := ih fun x hx => h x (List.mem_cons_of_mem _ hx)
      have h2 := hm.price a.1 (h a List.mem_cons_self)
      simp only [List.map_cons, List.sum_cons, List.length_cons]
      split <;> omega
  have hl : (spotL m.shafts.length).length = m.shafts.length * 24 := by
    generalize m.shafts.length = S
    induction S with
    | zero => rfl
    | succ S ih => rw [spotL_succ, List.length_append, ih]; simp; omega
  have := key (spotL m.shafts.length) fun x hx => (mem_spotL.1 hx).1
  rw [hl] at this
  have h9 := hm.sz
  unfold sumM
  omega
theorem cost_bounds {m : PM} (hm : POk m) (p : Nat → Bool) : 0 ≤ costF m p ∧ costF m p ≤ 12960 := by
  rw [costF_sumM]; exact sumM_bounds hm _
end Go.Proofs.Pow

namespace Go.Proofs.Pow

/-! The search, as nested rounds run it. -/
/-- lists of r more numbers from a on, behind l -/
def goR (n : Nat) (p : List Nat → Bool) (r : Nat) (l : List Nat) (a : Nat) : Option (List Nat) := ((cmb n r a).map (l ++ ·)).find? p
/-- .. those whose next number is below b alone -/
def goT (n : Nat) (p : List Nat → Bool) (r : Nat) (l : List Nat) (a b : Nat) : Option (List Nat) := (((List.range' a (b - a)).flatMap fun k => (cmb n r (k + 1)).map (k :: ·)).map (l ++ ·)).find? p
theorem goR_zero (n : Nat) (p : List Nat → Bool) (l : List Nat) (a : Nat) : goR n p 0 l a = if p l then some l else none := by
  unfold goR cmb
  simp [List.find?_cons]
  cases p l <;> rfl
theorem goR_succ (n : Nat) (p : List Nat → Bool) (r : Nat) (l : List Nat) (a : Nat) : goR n p (r + 1) l a = goT n p r l a n := rfl
theorem goT_start (n : Nat) (p : List Nat → Bool) (r : Nat) (l : List Nat) (a : Nat) : goT n p r l a a = none := by
  unfold goT
  rw [Nat.sub_self]
  rfl
theorem goT_step (n : Nat) (p : List Nat → Bool) (r : Nat) (l : List Nat) {a b : Nat} (h : a ≤ b) : goT n p r l a (b + 1) = (goT n p r l a b).or (goR n p r (l ++ [b]) (b + 1)) := by
  unfold goT goR
  rw [show b + 1 - a = (b - a) + 1 by omega, List.range'_concat, List.flatMap_append, List.map_append, List.find?_append, show a + 1 * (b - a) = b by omega]
  congr 1
  simp only [List.flatMap_cons, List.flatMap_nil, List.append_nil, List.map_map]
  congr 2
  funext x
  simp
/-- lists of fewer than c numbers -/
def lenF (n : Nat) (p : List Nat → Bool) (c : Nat) : Option (List Nat) := ((List.range c).flatMap fun r => cmb n r 0).find? p
theorem lenF_zero (n : Nat) (p : List Nat → Bool) : lenF n p 0 = none := rfl
theorem lenF_succ (n : Nat) (p : List Nat → Bool) (c : Nat) : lenF n p (c + 1) = (lenF n p c).or (goR n p c [] 0) := by
  unfold lenF goR
  rw [List.range_succ, List.flatMap_append, List.find?_append]
  congr 1
  simp
theorem lenF_first (n : Nat) (p : List Nat → Bool) : lenF n p (n + 1) = firstF n p := rfl
/-! Shares on their way. -/
def shr (m : PM) (k : Nat) (x : Nat × Nat) : Int := if usesB m x.1 x.2 k then 60 * (m.sh x.1).price / (cntU m.wvs.length (usesB m x.1 x.2) : Int) else 0
def shareTo (m : PM) (L : List (Nat × Nat)) (k : Nat) : Int := (L.map (shr m k)).sum
theorem share_to (m : PM) (k : Nat) : shareP m k = shareTo m (spotL m.shafts.length) k := by
  unfold shareP shareH spots shareTo
  rw [List.map_map]
  rfl
theorem shareTo_snoc (m : PM) (L : List (Nat × Nat)) (x : Nat × Nat) (k : Nat) : shareTo m (L ++ [x]) k = shareTo m L k + shr m k x := by
  unfold shareTo
  rw [List.map_append, List.sum_append]; simp
def spotT (s h : Nat) : List (Nat × Nat) := spotL s ++ (List.range h).map fun t => (s, t)
theorem spotT_zero (s : Nat) : spotT s 0 = spotL s := by simp [spotT]
theorem spotT_succ (s h : Nat) : spotT s (h + 1) = spotT s h ++ [(s, h)] := by
  unfold spotT
  rw [List.range_succ, List.map_append, ← List.append_assoc]; rfl
theorem spotT_full (s : Nat) : spotT s 24 = spotL (s + 1) := (spotL_succ s).symm
/-- a shaft that drives nobody -/
theorem share_nobody {m : PM} {s : Nat} (h : ∀ k, k < m.wvs.length → m.drv s k = false) {k : Nat} (hk : k < m.wvs.length) : shareTo m (spotL (s + 1)) k = shareTo m (spotL s) k := by
  rw [spotL_succ]
  unfold shareTo
  rw [List.map_append, List.sum_append]
  have : ((List.map (shr m k) ((List.range 24).map fun h => (s, h))).sum) = 0 := by
    refine sum_zero' _ _ ?_
    intro x hx
    obtain ⟨t, _, rfl⟩ := List.mem_map.1 hx
    unfold shr usesB
    rw [h k hk]; rfl
  omega
theorem shr_bounds {m : PM} (hm : POk m) (k : Nat) {x : Nat × Nat} (hx : x.1 < m.shafts.length) : 0 ≤ shr m k x ∧ shr m k x ≤ 3600 := by
  unfold shr
  have hp := hm.price x.1 hx
  split
  · refine ⟨Int.ediv_nonneg (by omega) (by omega), ?_⟩
    refine Int.le_trans (Int.ediv_le_self _ (by omega)) (by omega)
  · omega
theorem shareTo_bounds {m : PM} (hm : POk m) (k : Nat) : ∀ L : List (Nat × Nat), (∀ x, x ∈ L → x.1 < m.shafts.length) → 0 ≤ shareTo m L k ∧ shareTo m L k ≤ 3600 * (L.length : Int)
  | [], _ => ⟨Int.le_refl _, Int.le_refl _⟩
  | x :: L, h => by
    have h1 := shareTo_bounds hm k L fun y hy => h y (List.mem_cons_of_mem _ hy)
    have h2 := shr_bounds hm k (h x List.mem_cons_self)
    have e : shareTo m (x :: L) k = shr m k x + shareTo m L k := rfl
    rw [e, List.length_cons]
    omega

/-! The first least of some numbers that are there. -/
def leastF (f : Nat → Option Int) : Nat → Option (Nat × Int)
  | 0 => none
  | h + 1 => match f h, leastF f h with
    | some x, some b => if x < b.2 then some (h, x) else some b
    | some x, none => some (h, x)
    | none, b => b
theorem leastF_none {f : Nat → Option Int} : ∀ {n : Nat}, leastF f n = none ↔ ∀ h, h < n → f h = none
  | 0 => ⟨fun _ h hh => by omega, fun _ => rfl⟩
  | n + 1 => by
    have ih := leastF_none (f := f) (n := n)
    unfold leastF
    constructor
    · intro h
      cases e : f n with
      | some x =>
        rw [e] at h
        cases e2 : leastF f n with
        | none => rw [e2] at h; cases h
        | some b => rw [e2] at h; simp only at h; split at h <;> cases h
      | none =>
        rw [e] at h
        intro k hk
        by_cases e3 : k = n
        · rw [e3, e]
        · exact ih.1 h k (by omega)
    · intro h
      rw [h n (by omega)]
      exact ih.2 fun k hk => h k (by omega)
end Go.Proofs.Pow

namespace Go.Proofs.Pow

def sortL (xs : List Int) : List Int := xs.mergeSort fun x y => decide (x ≤ y)
theorem sortL_perm (xs : List Int) : (sortL xs).Perm xs := List.mergeSort_perm xs _
theorem sortL_le (xs : List Int) : (sortL xs).Pairwise (· ≤ ·) := by
  have := List.pairwise_mergeSort (le := fun x y : Int => decide (x ≤ y)) (fun a b c h1 h2 => by simp only [decide_eq_true_eq] at *; omega) (fun a b => by simp only [Bool.or_eq_true, decide_eq_true_eq]; omega) xs
  exact this.imp fun h => by simpa using h
/-- weaver k uses power in the hour h, too -/
def useP (m : PM) (k : Nat) (h : Int) : PM := { m with wvs := (List.range m.wvs.length).map fun i => if i = k then { shaft := (m.wv i).shaft, hours := sortL ((m.wv i).hours ++ [h]) } else m.wv i }
theorem useP_len (m : PM) (k : Nat) (h : Int) : (useP m k h).wvs.length = m.wvs.length := by simp [useP]
theorem useP_wv (m : PM) (k : Nat) (h : Int) {i : Nat} (hi : i < m.wvs.length) : (useP m k h).wv i = if i = k then { shaft := (m.wv i).shaft, hours := sortL ((m.wv i).hours ++ [h]) } else m.wv i := by
  unfold PM.wv useP
  simp [hi, PM.wv]
theorem use_used {m : PM} {k h : Nat} (hk : k < m.wvs.length) : Used m (useP m k (h : Int)) k h := by
  refine ⟨rfl, useP_len _ _ _, hk, fun j hj => ?_, ?_, fun x => ?_⟩
  · by_cases hl : j < m.wvs.length
    · rw [useP_wv m k h hl, if_neg hj]
    · unfold PM.wv
      rw [List.getElem?_eq_none (by rw [useP_len]; omega), List.getElem?_eq_none (by omega)]
  · rw [useP_wv m k h hk, if_pos rfl]
  · rw [useP_wv m k h hk, if_pos rfl, Bool.eq_iff_iff, Bool.or_eq_true, List.contains_iff_mem, List.contains_iff_mem, decide_eq_true_eq]
    show x ∈ sortL _ ↔ _
    rw [(sortL_perm _).mem_iff, List.mem_append, List.mem_singleton]
theorem use_ok {m : PM} (hm : POk m) {k h : Nat} (hk : k < m.wvs.length) (hh : h < 24) (hn : (m.wv k).hours.contains (h : Int) = false) : POk (useP m k (h : Int)) := by
  have hl := useP_len m k (h : Int)
  have hw : ∀ i, i < m.wvs.length → ((useP m k (h : Int)).wv i).shaft = (m.wv i).shaft := fun i hi => by rw [useP_wv m k h hi]; split <;> rfl
  refine ⟨hm.sz, by rw [hl]; exact hm.few, hm.price, fun i hi x hx => ?_, hm.up, fun i hi => ?_, fun i hi => ?_⟩
  · rw [hl] at hi
    rw [useP_wv m k h hi] at hx
    split at hx
    · have hx' : x ∈ sortL ((m.wv i).hours ++ [(h : Int)]) := hx
      rw [(sortL_perm _).mem_iff, List.mem_append, List.mem_singleton] at hx'
      rcases hx' with hx' | rfl
      · exact hm.hour i hi x hx'
      · omega
    · exact hm.hour i hi x hx
  · rw [hl] at hi
    rw [hw i hi]
    exact hm.at_ i hi
  · rw [hl] at hi
    rw [useP_wv m k h hi]
    split
    · rename_i e
      subst e
      show (sortL _).Pairwise _
      have h1 := sortL_le ((m.wv i).hours ++ [(h : Int)])
      have h2 : (sortL ((m.wv i).hours ++ [(h : Int)])).Nodup := by
        rw [(sortL_perm _).nodup_iff, List.nodup_append]
        refine ⟨hm.nodup hi, by simp, fun a ha b hb e => ?_⟩
        rw [List.mem_singleton] at hb
        subst hb; subst e
        rw [List.contains_iff_mem.2 ha] at hn
        cases hn
      exact (h1.and (List.nodup_iff_pairwise_ne.1 h2)).imp fun h => by omega
    · exact hm.rise i hi
def extraF (m : PM) (k h : Nat) : Int := costF (useP m k (h : Int)) (fun _ => true) - costF m fun _ => true
def offerF (m : PM) (k h : Nat) : Option Int := if (m.wv k).hours.contains (h : Int) then none else some (extraF m k h)
def cheapF (m : PM) (k : Nat) : Option (Nat × Int) := leastF (offerF m k) 24
/-- what each adds in an order of coming -/
def addsF (m : PM) (l : List Nat) : List Int := (List.range m.wvs.length).map fun k => addF m l (l.findIdx fun x => decide (x = k))
theorem findIdx_at {l : List Nat} (hn : l.Nodup) {i : Nat} (hi : i < l.length) : l.findIdx (fun x => decide (x = l[i])) = i := by
  rw [List.findIdx_eq hi]
  refine ⟨by simp, fun j hj => ?_⟩
  rw [decide_eq_false_iff_not]
  intro e
  have := List.pairwise_iff_getElem.1 (List.nodup_iff_pairwise_ne.1 hn) j i (by omega) hi hj
  exact this e
theorem addsF_at {m : PM} {l : List Nat} (hn : l.Nodup) {i : Nat} (hi : i < l.length) (hk : l[i] < m.wvs.length) : (addsF m l)[l[i]]?.getD 0 = addF m l i := by
  unfold addsF
  rw [List.getElem?_map, List.getElem?_range hk]
  simp only [Option.map_some, Option.getD_some]
  rw [findIdx_at hn hi]
end Go.Proofs.Pow

namespace Go.Proofs.Pow

/-- how many of a group use power of shaft s in the hour h -/
def useI (m : PM) (g : List Int) (s h : Nat) : Nat := (g.filter fun k => m.drv s k.toNat && (m.wv k.toNat).hours.contains (h : Int)).length
def allI (n : Nat) : List Int := (List.range n).map fun k : Nat => (k : Int)
theorem useI_nil (m : PM) (s h : Nat) : useI m [] s h = 0 := rfl
theorem useI_snoc (m : PM) (g : List Int) (k : Nat) (s h : Nat) : useI m (g ++ [(k : Int)]) s h = useI m g s h + if usesB m s h k then 1 else 0 := by
  unfold useI
  rw [List.filter_append, List.length_append]
  congr 1
  show (List.filter _ [(k : Int)]).length = _
  rw [List.filter_cons]
  show (if usesB m s h k = true then _ else _ : List Int).length = _
  split <;> rfl
theorem useI_le (m : PM) (g : List Int) (s h : Nat) : useI m g s h ≤ g.length := List.length_filter_le _ _
theorem useI_all (m : PM) (n s h : Nat) : useI m (allI n) s h = cntU n (usesB m s h) := by
  unfold useI allI cntU
  rw [List.filter_map, List.length_map]
  rfl
theorem useI_one (m : PM) (s h k : Nat) : 0 < useI m [(k : Int)] s h ↔ usesB m s h k = true := by
  have := useI_snoc m [] k s h
  rw [useI_nil, List.nil_append] at this
  rw [this]
  split
  · rename_i e; simp [e]
  · rename_i e; simp [e]
/-- a group of all -/
theorem all_group (m : PM) : costF m (fun k => (allI m.wvs.length).contains (k : Int)) = costF m fun _ => true := by
  refine costQ_congr fun k hk => ?_
  rw [List.contains_iff_mem]
  exact List.mem_map.2 ⟨k, List.mem_range.2 hk, rfl⟩
theorem all_in (m : PM) : InG m (allI m.wvs.length) := by
  intro k hk
  obtain ⟨i, hi, rfl⟩ := List.mem_map.1 hk
  have := List.mem_range.1 hi
  omega
end Go.Proofs.Pow

namespace Go.Proofs.Pow
def threeM : PM := ⟨[⟨-1, 6⟩, ⟨0, 4⟩, ⟨0, 3⟩], [⟨1, [0, 1]⟩, ⟨1, [1, 2]⟩, ⟨2, [1]⟩]⟩
def sightF (l : List Int) (k : Nat) : Int := l[k]?.getD 0
theorem three_shares : (List.range 3).map (shareP threeM) = [840, 840, 300] := by kernel_rfl
theorem three_adds : addsF threeM [2, 1, 0] = [10, 14, 9] := by kernel_rfl
theorem three_sure : clashB threeM (sightF [2, 2, 1]) = false ∧ sureL threeM (sightF [2, 2, 1]) = [1, 1] := ⟨by kernel_rfl, by kernel_rfl⟩
theorem leastF_congr {f g : Nat → Option Int} : ∀ {n : Nat}, (∀ h, h < n → f h = g h) → leastF f n = leastF g n
  | 0, _ => rfl
  | n + 1, h => by
    unfold leastF
    rw [h n (by omega), leastF_congr (n := n) fun x hx => h x (by omega)]
/-- what one hour more costs, by the line -/
def extraL (m : PM) (k h : Nat) : Int := ((m.line (m.wv k).shaft).map fun x => if runsB m x.toNat h then 0 else (m.sh x.toNat).price).sum
theorem extra_line {m : PM} (hm : POk m) {k h : Nat} (hk : k < m.wvs.length) (hh : h < 24) : extraF m k h = extraL m k h := (use_used hk).extra hm hh
theorem cheap_line {m : PM} (hm : POk m) {k : Nat} (hk : k < m.wvs.length) : cheapF m k = leastF (fun h => if (m.wv k).hours.contains (h : Int) then none else some (extraL m k h)) 24 :=
  leastF_congr fun h hh => by
    unfold offerF
    rw [extra_line hm hk hh]
theorem three_ok : POk threeM where
  sz := by decide
  few := by decide
  price := by decide
  hour := by decide
  up := by unfold UpOk; decide
  at_ := by unfold AtOk; decide
  rise := by decide
theorem three_cheap : cheapF threeM 2 = some (0, 3) := (cheap_line three_ok (by decide)).trans (by kernel_rfl)
end Go.Proofs.Pow

namespace Go.Proofs.Pet
open Go Go.RowKit
open Go.Proofs.Pow (PM Sh Wv POk)

def deskC (v1 v2 : Value) (f : Nat → Nat → Bool) : Array Value := (v1 :: v2 :: (List.range 54).map fun j => Value.bool (f (j / 6) (j % 6))).toArray
theorem deskC_size (v1 v2 : Value) (f : Nat → Nat → Bool) : (deskC v1 v2 f).size = 56 := by simp [deskC]
theorem deskC_cell (v1 v2 : Value) (f : Nat → Nat → Bool) {s k : Nat} (hs : s < 9) (hk : k < 6) : (deskC v1 v2 f)[2 + s * 6 + k]? = some (.bool (f s k)) := by
  unfold deskC
  have h1 : s * 6 + k < 54 := by omega
  have h2 : (s * 6 + k) / 6 = s := by omega
  have h3 : (s * 6 + k) % 6 = k := by omega
  rw [List.getElem?_toArray, show 2 + s * 6 + k = (s * 6 + k) + 1 + 1 by omega, List.getElem?_cons_succ, List.getElem?_cons_succ, List.getElem?_map, List.getElem?_range h1, Option.map_some, h2, h3]
theorem deskC_congr {v1 v2 : Value} {f g : Nat → Nat → Bool} (h : ∀ s k, s < 9 → k < 6 → f s k = g s k) : deskC v1 v2 f = deskC v1 v2 g := by
  unfold deskC
  congr 3
  refine List.map_congr_left fun j hj => ?_
  rw [List.mem_range] at hj
  rw [h (j / 6) (j % 6) (by omega) (by omega)]
theorem deskC_set (v1 v2 : Value) (f : Nat → Nat → Bool) {s k : Nat} (hs : s < 9) (hk : k < 6) (b : Bool) : (deskC v1 v2 f).setIfInBounds (2 + s * 6 + k) (.bool b) = deskC v1 v2 (fun x y => if x = s ∧ y = k then b else f x y) := by
  apply Array.ext_getElem?
  intro i
  rw [Array.getElem?_setIfInBounds, deskC_size]
  by_cases hi : 2 + s * 6 + k = i
  · subst hi
    rw [if_pos rfl, if_pos (by omega), deskC_cell _ _ _ hs hk, if_pos ⟨rfl, rfl⟩]
  · rw [if_neg hi]
    unfold deskC
    simp only [List.getElem?_toArray]
    match i with
    | 0 => rfl
    | 1 => rfl
    | i + 2 =>
      simp only [List.getElem?_cons_succ, List.getElem?_map]
      by_cases h54 : i < 54
      · rw [List.getElem?_range h54]
        simp only [Option.map_some]
        rw [if_neg (by omega)]
      · rw [List.getElem?_eq_none (by simp; omega)]; rfl
def drvC (m : PM) (s k : Nat) : Bool := decide (k < m.wvs.length) && m.drv s k
def DeskAt (w : World) (D : Nat) (m : PM) : Prop :=
  ∃ A1 c1 A2 c2, Blk w D 191 (deskC (.slice A1 m.shafts.length c1) (.slice A2 m.wvs.length c2) (drvC m)) ∧ m.shafts.length ≤ c1 ∧ c1 ≤ maxLen ∧ m.wvs.length ≤ c2 ∧ c2 ≤ maxLen ∧ ShsAt w A1 m.shafts ∧ WvsAt w A2 m.wvs
section
variable {w w' : World} {D : Nat} {m : PM}
theorem DeskAt.ext (h : DeskAt w D m) (he : Ext w w') : DeskAt w' D m := by
  obtain ⟨A1, c1, A2, c2, h1, h2, h3, h4, h5, h6, h7⟩ := h
  exact ⟨A1, c1, A2, c2, h1.ext he, h2, h3, h4, h5, h6.ext he, h7.ext he⟩
instance : Lift (DeskAt w D m) w w' (DeskAt w' D m) := ⟨fun he h => h.ext he⟩
theorem DeskAt.drv (h : DeskAt w D m) {s k : Nat} (hs : s < 9) (hk : k < 6) : w.cell? ⟨D, 2 + s * 6 + k, none⟩ = some (.bool (drvC m s k)) := by
  obtain ⟨A1, c1, A2, c2, h1, _⟩ := h
  rw [h1.cell, deskC_cell _ _ _ hs hk]
theorem DeskAt.slices (h : DeskAt w D m) : ∃ A1 c1 A2 c2, w.cell? ⟨D, 0, none⟩ = some (.slice A1 m.shafts.length c1) ∧ w.cell? ⟨D, 1, none⟩ = some (.slice A2 m.wvs.length c2) ∧ PMVal w (.agg #[.slice A1 m.shafts.length c1, .slice A2 m.wvs.length c2]) m ∧ ShsAt w A1 m.shafts ∧ WvsAt w A2 m.wvs := by
  obtain ⟨A1, c1, A2, c2, h1, h2, h3, h4, h5, h6, h7⟩ := h
  exact ⟨A1, c1, A2, c2, h1.cell 0, h1.cell 1, ⟨A1, c1, A2, c2, rfl, h2, h3, h4, h5, h6, h7⟩, h6, h7⟩
theorem DeskAt.lt (h : DeskAt w D m) : D < w.heap.size := by
  obtain ⟨A1, c1, A2, c2, h1, _⟩ := h
  exact h1.lt
end
/-- a shaft of a line -/
theorem line_lt {m : PM} (hm : POk m) {k : Nat} (hk : k < m.wvs.length) {x : Int} (hx : x ∈ m.line (m.wv k).shaft) : 0 ≤ x ∧ x < m.shafts.length := by
  obtain ⟨h1, h2⟩ := hm.at_ k hk
  obtain ⟨s, hs⟩ : ∃ s : Nat, (m.wv k).shaft = s := ⟨_, (Int.toNat_of_nonneg h1).symm⟩
  rw [hs] at hx h2
  have := Pow.line_mem m hm.up s (by omega) x hx
  omega
end Go.Proofs.Pet

namespace Go.Proofs.Pet
open Go Go.RowKit
open Go.Proofs.Pow (PM Sh Wv POk)

theorem pweaver_any (v : Value) (m : PM) (n : Int) (q : Bool) (hq : inB n 0 (m.wvs.length - 1) = q) (w : World) (hv : PMVal w v m) :
    Calls Tryz.prog 206 #[v, .int .i64 n] w fun e w' => e = .returned (.bool q) ∧ Ext w w' := by
  obtain ⟨A1, c1, A2, c2, rfl, h2, h3, h4, h5, h6, h7⟩ := hv
  unfold maxLen at h5
  have Hc := Lib.hid (in_anyP n 0 (m.wvs.length - 1) q hq)
  have hE := Ext.alloc w (.cells #[.slice A1 m.shafts.length c1, .slice A2 m.wvs.length c2] 56)
  obtain ⟨k0, k1⟩ := (Blk.new w 56 #[.slice A1 m.shafts.length c1, .slice A2 m.wvs.length c2]).c2
  clear hq h6 h7
  go_enter Tryz.func206, Tryz.ntmps206
  go_wp2_with fail
  refine (Hc.out _).mono ?_
  rintro e w' ⟨rfl, rfl⟩
  go_wp2
  go_ret
  exact ⟨rfl, hE⟩
theorem pshaft_any (v : Value) (m : PM) (n : Int) (q : Bool) (hq : inB n 0 (m.shafts.length - 1) = q) (w : World) (hv : PMVal w v m) :
    Calls Tryz.prog 152 #[v, .int .i64 n] w fun e w' => e = .returned (.bool q) ∧ Ext w w' := by
  obtain ⟨A1, c1, A2, c2, rfl, h2, h3, h4, h5, h6, h7⟩ := hv
  unfold maxLen at h3
  have Hc := Lib.hid (in_anyP n 0 (m.shafts.length - 1) q hq)
  have hE := Ext.alloc w (.cells #[.slice A1 m.shafts.length c1, .slice A2 m.wvs.length c2] 56)
  obtain ⟨k0, k1⟩ := (Blk.new w 56 #[.slice A1 m.shafts.length c1, .slice A2 m.wvs.length c2]).c2
  clear hq h6 h7
  go_enter Tryz.func152, Tryz.ntmps152
  go_wp2_with fail
  refine (Hc.out _).mono ?_
  rintro e w' ⟨rfl, rfl⟩
  go_wp2
  go_ret
  exact ⟨rfl, hE⟩
theorem hour_any (n : Int) (q : Bool) (hq : inB n 0 23 = q) (w : World) :
    Calls Tryz.prog 150 #[.int .i64 n] w fun e w' => e = .returned (.bool q) ∧ w = w' := by
  have Hc := Lib.hid (in_anyP n 0 23 q hq)
  clear hq
  go_enter Tryz.func150, Tryz.ntmps150
  go_wp2_with fail
  refine (Hc.out _).mono ?_
  rintro e w' ⟨rfl, rfl⟩
  go_wp2
  go_ret
  exact ⟨rfl, rfl⟩
theorem pcheck1 (w : World) (x : Sh) : Tells Tryz.prog w 146 #[] #[] ShVal x (inB x.price 0 60) := by
  intro W v hW hv
  obtain rfl := hv
  have Hc := Lib.hid (in_anyP x.price 0 60 _ rfl)
  have hE := Ext.alloc W (.cells #[.int .i64 x.up, .int .i64 x.price] 84)
  obtain ⟨k0, k1⟩ := (Blk.new W 84 #[.int .i64 x.up, .int .i64 x.price]).c2
  generalize inB x.price 0 60 = q at Hc ⊢
  show Calls Tryz.prog 146 #[_] W _
  go_enter Tryz.func146, Tryz.ntmps146
  go_wp2_with fail
  refine (Hc.out _).mono ?_
  rintro e w' ⟨rfl, rfl⟩
  go_wp2
  go_ret
  exact ⟨rfl, hE⟩
theorem pcheck2 (w : World) (x : Wv) : Tells Tryz.prog w 148 #[] #[] WvVal x (x.hours.all fun h => inB h 0 23) := by
  intro W v hW hv
  obtain ⟨A, c, h1, rfl, h3⟩ := hv
  have hE := Ext.alloc W (.cells #[.int .i64 x.shaft, .slice A x.hours.length c] 86)
  obtain ⟨k0, k1⟩ := (Blk.new W 86 #[.int .i64 x.shaft, .slice A x.hours.length c]).c2
  have H := Lib.hid (everyIP 150 #[] #[] (enters_of Tryz.func150 (by kernel_rfl) rfl) (fun h => inB h 0 23) A c x.hours _ (Nat.le_trans h1.1 h1.2) (h3.ext hE)
    (fun y _ => fun W' v' _ hv' => by
      obtain rfl : v' = .int .i64 y := hv'
      exact (hour_any y _ rfl W').mono fun e w' h => ⟨h.1, h.2 ▸ Ext.refl _⟩))
  generalize (x.hours.all fun h => inB h 0 23) = q at H ⊢
  show Calls Tryz.prog 148 #[_] W _
  go_enter Tryz.func148, Tryz.ntmps148
  go_wp2_with fail
  refine H.out.mono ?_
  rintro e w' ⟨rfl, he⟩
  go_wp2
  go_ret
  exact ⟨rfl, hE.trans he⟩
theorem pcheck4 (w : World) (x : Wv) : Tells Tryz.prog w 153 #[] #[] WvVal x (risingB x.hours) := by
  intro W v hW hv
  obtain ⟨A, c, h1, rfl, h3⟩ := hv
  have hE := Ext.alloc W (.cells #[.int .i64 x.shaft, .slice A x.hours.length c] 86)
  obtain ⟨k0, k1⟩ := (Blk.new W 86 #[.int .i64 x.shaft, .slice A x.hours.length c]).c2
  have H := Lib.hid (rising_anyP A c x.hours _ rfl _ (Nat.le_trans h1.1 h1.2) (h3.ext hE))
  generalize risingB x.hours = q at H ⊢
  show Calls Tryz.prog 153 #[_] W _
  go_enter Tryz.func153, Tryz.ntmps153
  go_wp2_with fail
  refine H.out.mono ?_
  rintro e w' ⟨rfl, he⟩
  go_wp2
  go_ret
  exact ⟨rfl, hE.trans he⟩
theorem pcheck3 (w : World) (B : Nat) (s1 s2 : Value) (m : PM) (hB : Blk w B 56 #[s1, s2]) (hm : PMVal w (.agg #[s1, s2]) m) (x : Wv) :
    Tells Tryz.prog w 151 #[] #[.pointer (some ⟨B, 0, none⟩)] WvVal x (inB x.shaft 0 (m.shafts.length - 1)) := by
  intro W v hW hv
  obtain ⟨A, c, h1, rfl, h3⟩ := hv
  have hE := Ext.alloc W (.cells #[.int .i64 x.shaft, .slice A x.hours.length c] 86)
  obtain ⟨k0, k1⟩ := (Blk.new W 86 #[.int .i64 x.shaft, .slice A x.hours.length c]).c2
  have hb := (hB.ext hW).ext hE
  have hf := hb.frozen 0
  obtain ⟨j0, j1⟩ := hb.c2
  have H := Lib.hid (pshaft_any _ m x.shaft _ rfl _ ((hm.ext hW).ext hE))
  obtain ⟨A1, c1, A2, c2, he, _⟩ := hm
  simp only [Value.agg.injEq, Array.mk.injEq, List.cons.injEq, and_true] at he
  obtain ⟨rfl, rfl⟩ := he
  clear hB hb
  generalize inB x.shaft 0 (m.shafts.length - 1) = q at H ⊢
  show Calls Tryz.prog 151 #[_, .pointer (some ⟨B, 0, none⟩)] W _
  go_enter Tryz.func151, Tryz.ntmps151
  go_wp2_with fail
  refine H.out.mono ?_
  rintro e w' ⟨rfl, he⟩
  go_wp2
  go_ret
  exact ⟨rfl, hE.trans he⟩

set_option maxHeartbeats 1000000 in
theorem pcheck_any (v : Value) (m : PM) (w : World) (hv : PMVal w v m) :
    Calls Tryz.prog 45 #[v] w fun e w' => e = .returned (.int .i64 (checkP m)) ∧ Ext w w' := by
  have hmf : ∀ (fn : Fn) (first cap : Array Value) (w : World), (Instr.makeFunc fn first cap).run Tryz.prog w = .ok (.func fn first cap) w := fun _ _ _ _ => rfl
  have Hv := Lib.hid hv
  obtain ⟨A1, c1, A2, c2, rfl, h2, h3, h4, h5, h6, h7⟩ := hv
  unfold maxLen at h3 h5
  have g1 : m.shafts.length ≤ maxLen := by unfold maxLen; omega
  have g2 : m.wvs.length ≤ maxLen := by unfold maxLen; omega
  unfold checkP
  have hin := in_anyP m.shafts.length 1 9 _ rfl
  have hE1 := Ext.alloc w (.cells #[.slice A1 m.shafts.length c1, .slice A2 m.wvs.length c2] 56)
  have hB1 := Blk.new w 56 #[.slice A1 m.shafts.length c1, .slice A2 m.wvs.length c2]
  have e1 := fun W (hW : Ext w W) => everyS 146 #[] #[] (enters_of Tryz.func146 (by kernel_rfl) rfl) _ A1 c1 m.shafts W g1 (h6.ext hW) (fun x _ => pcheck1 W x)
  have e2 := fun W (hW : Ext w W) => everyW 148 #[] #[] (enters_of Tryz.func148 (by kernel_rfl) rfl) _ A2 c2 m.wvs W g2 (h7.ext hW) (fun x _ => pcheck2 W x)
  have e4 := fun W (hW : Ext w W) => everyW 153 #[] #[] (enters_of Tryz.func153 (by kernel_rfl) rfl) _ A2 c2 m.wvs W g2 (h7.ext hW) (fun x _ => pcheck4 W x)
  have e3 := fun W B (hW : Ext w W) (hB : Blk W B 56 #[.slice A1 m.shafts.length c1, .slice A2 m.wvs.length c2]) =>
    everyW 151 #[] #[.pointer (some ⟨B, 0, none⟩)] (enters_of Tryz.func151 (by kernel_rfl) rfl) _ A2 c2 m.wvs W g2 (h7.ext hW) (fun x _ => pcheck3 W B _ _ m hB (Hv.out.ext hW) x)
  have Hup : Hid (∀ q, ((List.range m.shafts.length).all fun i => inB (m.sh i).up (-1) ((i : Int) - 1)) = q → (q = true ↔ ∀ i, i < m.shafts.length → inB (m.sh i).up (-1) ((i : Int) - 1) = true)) := by
    intro q hq
    rw [← hq, List.all_eq_true]
    exact ⟨fun h i hi => h i (List.mem_range.2 hi), fun h i hi => h i (List.mem_range.1 hi)⟩
  generalize inB m.shafts.length 1 9 = q1 at hin ⊢
  generalize (m.shafts.all fun s => inB s.price 0 60) = q2 at e1 ⊢
  generalize (m.wvs.all fun w => w.hours.all fun h => inB h 0 23) = q3 at e2 ⊢
  generalize hq4 : ((List.range m.shafts.length).all fun i => inB (m.sh i).up (-1) ((i : Int) - 1)) = q4
  generalize (m.wvs.all fun w => inB w.shaft 0 (m.shafts.length - 1)) = q5 at e3 ⊢
  generalize (m.wvs.all fun w => risingB w.hours) = q6 at e4 ⊢
  have Hin := Lib.hid hin
  have E1 := Lib.hid e1
  have E2 := Lib.hid e2
  have E3 := Lib.hid e3
  have E4 := Lib.hid e4
  have Hq4 := Lib.hid (Hup.out q4 hq4)
  have H6 := Lib.hid h6; have H7 := Lib.hid h7
  clear hin e1 e2 e3 e4 hq4 Hup h6 h7
  obtain ⟨k0, k1⟩ := hB1.c2
  go_enter Tryz.func45, Tryz.ntmps45
  go_wp2_with fail
  refine (Hin.out _).mono ?_
  rintro e w' ⟨rfl, rfl⟩
  cases q1 with
  | false =>
    go_wp2
    go_ret
    exact ⟨by simp, hE1⟩
  | true =>
    by_cases hlen : 6 < m.wvs.length
    · go_wp2
      go_ret
      exact ⟨by simp, hE1⟩
    · have hlen' : decide (6 < (m.wvs.length : Int)) = false := by simp; omega
      go_wp2_with fail
      refine (E1.out _ hE1).mono ?_
      rintro e w3 ⟨rfl, hE3⟩
      have hE3' := hE1.trans hE3
      have hB3 := hB1.ext hE3
      clear k0 k1 hB1 hE1 hE3
      obtain ⟨k0, k1⟩ := hB3.c2
      cases q2 with
      | false =>
        go_wp2
        go_ret
        exact ⟨by simp, hE3'⟩
      | true =>
        go_wp2_with fail
        refine (E2.out _ hE3').mono ?_
        rintro e w4 ⟨rfl, hE4⟩
        have hE4' := hE3'.trans hE4
        have hB4 := hB3.ext hE4
        clear k0 k1 hB3 hE3' hE4
        obtain ⟨k0, k1⟩ := hB4.c2
        cases q3 with
        | false =>
          go_wp2
          go_ret
          exact ⟨by simp, hE4'⟩
        | true =>
          go_wp2_with fail
          have HB4 := Lib.hid hB4
          clear k0 k1 hB4
          have hs9 : m.shafts.length ≤ maxLen := g1
          go_loopw [31] (fun i wr => ∃ k : Nat, k ≤ m.shafts.length ∧ i = .int .i64 k ∧ Hid (∀ j, j < k → inB (m.sh j).up (-1) ((j : Int) - 1) = true) ∧ Ext w4 wr) (fun i _ => m.shafts.length - (intOf i).toNat)
          case atStart => exact ⟨0, Nat.zero_le _, rfl, fun j hj => absurd hj (by omega), Ext.refl _⟩
          case round =>
            obtain ⟨k, hk, rfl, hm, he⟩ := hrel
            by_cases hlt : k < m.shafts.length
            · obtain ⟨b, o, rfl, s1, s2⟩ := H6.out.ext (hE4'.trans he) k hlt
              have hX := Ext.alloc wr (.cells #[.int .i64 (m.shafts[k]?.getD default).up, .int .i64 (m.shafts[k]?.getD default).price] 84)
              obtain ⟨j0, j1⟩ := (Blk.new wr 84 #[.int .i64 (m.shafts[k]?.getD default).up, .int .i64 (m.shafts[k]?.getD default).price]).c2
              obtain ⟨q, hq⟩ : ∃ q, inB (m.sh k).up (-1) ((k : Int) - 1) = q := ⟨_, rfl⟩
              have Hc := Lib.hid (in_anyP (m.shafts[k]?.getD default).up (-1) ((k : Int) - 1) q hq)
              have Hq := Lib.hid hq; clear hq
              generalize m.shafts[k]?.getD default = x at *
              have hkb : (k : Int) ≤ maxLen := by omega
              unfold maxLen at hkb
              go_wp2_with fail
              refine (Hc.out _).mono ?_
              rintro e w' ⟨rfl, rfl⟩
              cases q with
              | false =>
                have h4 : q4 = false := by
                  cases q4 with
                  | false => rfl
                  | true => rw [Hq4.out.1 rfl k hlt] at Hq; exact absurd Hq.out (by simp)
                subst h4
                go_wp2
                go_ret
                exact ⟨by simp, (hE4'.trans he).trans hX⟩
              | true =>
                go_wp2_with fail
                go_roundw
                case rel =>
                  refine ⟨k + 1, by omega, by go_num, fun j hj => ?_, he.trans hX⟩
                  by_cases ej : j = k
                  · subst ej; exact Hq.out
                  · exact hm.out j (by omega)
                case measure => simp [intOf]; omega
            · have h4 : q4 = true := Hq4.out.2 fun j hj => hm.out j (by omega)
              subst h4
              have hE5 := hE4'.trans he
              have hB5 := HB4.out.ext he
              have hB6 := Lib.hid hB5
              obtain ⟨k0, k1⟩ := hB5.c2
              go_wp2_with fail
              refine (E3.out _ _ hE5 hB6.out).mono ?_
              rintro e w6 ⟨rfl, hE6⟩
              have hE6' := hE5.trans hE6
              have hB7 := hB6.out.ext hE6
              clear k0 k1 hB5 hB6
              obtain ⟨k0, k1⟩ := hB7.c2
              cases q5 with
              | false =>
                go_wp2
                go_ret
                exact ⟨by simp, hE6'⟩
              | true =>
                go_wp2_with fail
                refine (E4.out _ hE6').mono ?_
                rintro e w7 ⟨rfl, hE7⟩
                have hE7' := hE6'.trans hE7
                cases q6 with
                | false =>
                  go_wp2
                  go_ret
                  exact ⟨by simp, hE7'⟩
                | true =>
                  go_wp2
                  all_goals
                    go_ret
                    exact ⟨by first | rfl | simp [hlen], hE7'⟩
end Go.Proofs.Pet

namespace Go.Proofs.Pet
open Go Go.RowKit

/-- what such an iterator does: some elements come, one by one; what the rounds carry on may say nothing of what the iterator turns (Tn) -/
def SeqT {α : Type} (F : Fence) (n : Nat) (P : Program) (g : Nat) (lb : Array Value) (encs : α → Array Value) (Kp Tn : World → World → Prop) (S : List α → Prop) (N : Nat) (w : World) : Prop :=
  ∀ (l : Nat) (J : List α → World → Prop) (W : World), Below w.heap.size w W → AbidesFrom W.heap.size J → (∀ s X Y, J s X → Tn X Y → J s Y) →
    (∀ pre x W1, J pre W1 → pre.length < N → YieldAt F (n - 1) P l (encs x) W1 fun e W' => e = .returned (.bool true) ∧ J (pre ++ [x]) W' ∧ Kp W1 W') → J [] W →
    CallsIn F n P g (#[.func (.yield l) #[] #[]] ++ lb) W fun e W' => (∃ v, e = .returned v) ∧ ∃ xs, S xs ∧ J xs W'
section
variable {α : Type} {F : Fence} {n : Nat} {P : Program} {encs : α → Array Value} {Kp Tn : World → World → Prop} {S : List α → Prop} {N : Nat}
/-- the loop's record -/
def recT (fn : FuncId) (tmps : Array Value) (ps : Array Tmp) (assign body : Code) (D : Nat) (st : LoopState) : Loop :=
  { state := st, pending := none, fn, tmps, params := ps, assign, body, defers := D }
theorem wpIn_rangeT {g : Operand} {ps : Array Tmp} {assign body : Code} {Q : Exit → Act → World → Prop} {a : Act} {w w0 : World} {gf : Nat} {lb : Array Value}
    (hro : F.round = none) (h1 : 1 ≤ n) (hg : a.eval g = .func (.func gf) #[] lb) (hFg : F.fn gf) (eg : Enters P gf) (hseq : SeqT F (n - 1) P gf lb encs Kp Tn S N w0) (hb0 : Below w0.heap.size w0 w)
    (hKt : ∀ {A B C : World}, Kp A B → Kp B C → Kp A C) (hKb : ∀ (W : World) (l : Nat) (o o' : Obj), w.heap.size ≤ l → W.heap[l]? = some o → o.isCells = false → o.isWalk = false → Kp W (W.putObj l o'))
    (hTw : ∀ X Y, Tn X Y → ∀ k, w.heap.size ≤ k → Y.heap[k]? = X.heap[k]?) (hps : ∀ x, (encs x).size = ps.size)
    (I : List α → World → Prop) (hI : OwnFrom w.heap.size I) (hIT : ∀ s X Y, I s X → Tn X Y → I s Y) (h0 : I [] w) (a₁ : α → Act)
    (hassign : ∀ (l : Nat) (x : α) (W : World) (K : Act → World → Prop), K (a₁ x) W →
      assign.wpIn (F.inRound l) (n - 1 - 1) P (Exit.then K (fun _ _ _ => False)) { tmps := (ps.zip (encs x)).foldl (fun t (p, v) => t.setIfInBounds p v) a.tmps, defers := [] } W)
    (hbody : ∀ (l : Nat) (pre : List α) (x : α) (W : World), I pre W → pre.length < N → body.wpIn (F.inRound l) (n - 1 - 1) P (ownPostG w.heap.size Kp I (fun _ _ _ => False) (pre ++ [x]) W) (a₁ x) W)
    (hdone : ∀ (D : Nat) (xs : List α) (W : World), w.heap.size ≤ D → S xs → I xs W → W.heap[D]? = some (.deferred (some [])) → Q .normal { a with defers := { target := .collected D, args := #[] } :: a.defers } W) :
    (Code.rangeFunc g ps assign body).wpIn F n P Q a w := by
  refine wpIn_rangeFunc fun fn hfn => ?_
  rw [hro]
  -- the two blocks that the loop lays: what the rounds defer, and its record
  let D := w.heap.size
  let wd := w.alloc (.deferred (some []))
  let rc := recT fn a.tmps ps assign body D
  obtain ⟨V, hV⟩ : ∃ V, wd.alloc (.loop (rc .ready)) = V := ⟨_, rfl⟩
  have hsz : wd.heap.size = D + 1 := World.size_alloc ..
  have hrec : V.heap[D + 1]? = some (.loop (rc .ready)) := by
    rw [← hV, ← hsz]; exact World.alloc_heap_new wd _
  have hdef : V.heap[D]? = some (.deferred (some [])) := by
    rw [← hV]; exact (Below.heap_alloc wd _ D (by omega)).trans (World.alloc_heap_new w _)
  have hIV : I [] V := by rw [← hV]; exact hI.alloc _ (hI.alloc _ h0)
  have hbV : Below w0.heap.size w0 V := by
    rw [← hV]
    exact hb0.trans (((Ext.alloc w _).trans (Ext.alloc wd _)).mono hb0.size)
  have hVD : D + 2 ≤ V.heap.size := by rw [← hV, World.size_alloc, hsz]; omega
  refine ⟨D + 1, [{ target := .collected D, args := #[] }], V, { target := .fn (.func gf) lb, args := #[.func (.yield (D + 1)) #[] #[]] }, V, gf, #[.func (.yield (D + 1)) #[] #[]] ++ lb, V, ?_, ?_, ?_, ?_, fun _ => h1, ?_⟩
  · rw [← hV]; exact run_enterLoop_outer _ _ _ _ _
  · simp only [resolve, hg]
    simp [go_sem]
  · intro f' hf'
    simp [Target.leads] at hf'
    subst hf'; exact hFg
  · simp [invoke, go_sem, eg _ _]
  · -- what is carried on: the caller's invariant and the two blocks
    have hwalk : ∀ {A B : World} {row : Option Nat}, A.grownBy B row → (∀ r, row = some r → V.heap.size ≤ r ∧ ∃ o : Obj, A.heap[r]? = some o ∧ o.isWalk = true) → ∀ s, I s A → I s B :=
      fun hgr hr s hs => hI s _ _ _ hs hgr fun r e => by
        obtain ⟨q, o, ho, hw⟩ := hr r e
        exact ⟨by omega, o, ho, Obj.not_cells_of_walk hw⟩
    refine (hseq (D + 1) (fun pre W => I pre W ∧ W.heap[D + 1]? = some (.loop (rc .ready)) ∧ W.heap[D]? = some (.deferred (some []))) V hbV ?_ ?_ ?_ ⟨hIV, hrec, hdef⟩).mono ?_
    · intro s A B row ⟨g1, g2, g3⟩ hgr hr
      exact ⟨hwalk hgr hr s g1, (grownBy_keeps hgr (fun r e => (hr r e).2) g2 rfl).trans g2, (grownBy_keeps hgr (fun r e => (hr r e).2) g3 rfl).trans g3⟩
    · intro s X Y ⟨g1, g2, g3⟩ ht
      exact ⟨hIT s X Y g1 ht, (hTw X Y ht _ (by omega)).trans g2, (hTw X Y ht _ (Nat.le_refl _)).trans g3⟩
    · -- a round
      intro pre x W ⟨g1, g2, g3⟩ hlen
      have hlt : D + 1 < W.heap.size := (Array.getElem?_eq_some_iff.1 g2).1
      refine ⟨fn, _, assign, body, run_yield (P := P) (args := encs x) g2 (hps x), roundIn_of_wpIn hfn (hassign _ x W _ ⟨_, run_beginRound g2 rfl, ?_⟩)⟩
      obtain ⟨B, hB⟩ : ∃ B, W.putObj (D + 1) (.loop (rc .busy)) = B := ⟨_, rfl⟩
      have hB' : W.putObj (D + 1) (.loop { rc .ready with state := .busy }) = B := hB
      rw [hB']
      have p2 : B.heap[D + 1]? = some (.loop (rc .busy)) := by rw [← hB]; exact World.putObj_heap_same hlt
      have p3 : B.heap[D]? = some (.deferred (some [])) := by rw [← hB]; exact (World.putObj_heap_other (by omega)).trans g3
      have pK : Kp W B := by rw [← hB]; exact hKb _ _ _ _ (by omega) g2 rfl rfl
      have pI : I pre B := by rw [← hB]; exact hI.putObj _ g1 (by omega) g2 rfl
      clear hB hB'
      refine wpIn_mono (hbody _ pre x B pI hlen) ?_
      intro e a3 W3 hp
      cases e with
      | normal =>
        obtain ⟨k1, k2, k3⟩ := hp
        have q2 := k1.same _ _ (by omega) p2 rfl
        have q3 := k1.same _ _ (Nat.le_refl _) p3 rfl
        have hend := run_endRound (P := P) none q2
        refine ⟨_, _, hend, rfl, ⟨hI.putObj _ k3 (by omega) q2 rfl, World.putObj_heap_same (Array.getElem?_eq_some_iff.1 q2).1, (World.putObj_heap_other (by omega)).trans q3⟩, hKt (hKt pK k2) (hKb _ _ _ _ (by omega) q2 rfl rfl)⟩
      | ret => exact hp.2.elim
      | exit id => exact hp.2.elim
      | goto t => exact hp.2.elim
      | panic ch => exact hp.elim
      | outgrown => exact hp.elim
    · -- behind the iterator
      rintro e W2 ⟨⟨v, rfl⟩, xs, hS, g1, g2, g3⟩
      exact ⟨none, _, run_endLoop (P := P) g2 (show LoopState.ready ≠ LoopState.busy by decide), hdone D xs _ (Nat.le_refl _) hS (hI.putObj _ g1 (by omega) g2 rfl) ((World.putObj_heap_other (by omega)).trans g3)⟩
end
end Go.Proofs.Pet

namespace Go.Proofs.Pet
open Go Go.RowKit Go.Maps Go.Shelf
open Go.Proofs.Pow (PM Sh Wv POk)

/-- a shaft of a line -/
abbrev OnLine (m : PM) (s : Int) := { x : Int // x ∈ m.line s }
def encO (m : PM) (s : Int) (x : OnLine m s) : Array Value := #[.int .i64 x.1]
/-- what a round keeps: what lay at first, and the two boxes -/
def KeepsLine (n1 B : Nat) (X Y : World) : Prop := (∀ k, k < n1 → Y.heap[k]? = X.heap[k]?) ∧ Y.heap[B]? = X.heap[B]? ∧ Y.heap[B + 1]? = X.heap[B + 1]?
def TurnsLine (B : Nat) (X Y : World) : Prop := ∃ v, Y = X.setCell ⟨B + 1, 0, none⟩ v
theorem KeepsLine.t {n1 B : Nat} {X Y Z : World} (h : KeepsLine n1 B X Y) (k : KeepsLine n1 B Y Z) : KeepsLine n1 B X Z := ⟨fun j hj => (k.1 j hj).trans (h.1 j hj), k.2.1.trans h.2.1, k.2.2.trans h.2.2⟩
theorem KeepsLine.b {n1 B : Nat} {w : World} (h1 : n1 ≤ w.heap.size) (hB : B + 1 < w.heap.size) (W : World) (l : Nat) (o o' : Obj) (hl : w.heap.size ≤ l) (_h : W.heap[l]? = some o) (_h1 : o.isCells = false) (_h2 : o.isWalk = false) : KeepsLine n1 B W (W.putObj l o') :=
  ⟨fun k hk => World.putObj_heap_other (by omega), World.putObj_heap_other (by omega), World.putObj_heap_other (by omega)⟩
theorem TurnsLine.w {B : Nat} {w : World} (hB : B + 1 < w.heap.size) (X Y : World) (h : TurnsLine B X Y) (k : Nat) (hk : w.heap.size ≤ k) : Y.heap[k]? = X.heap[k]? := by
  obtain ⟨v, rfl⟩ := h
  exact Below.heap_setCell X ⟨B + 1, 0, none⟩ v k (by show k ≠ B + 1; omega)
theorem cell_of_blocks {X Y : World} {p : Addr} {v : Value} (h : Y.heap[p.block]? = X.heap[p.block]?) (hc : X.cell? p = some v) : Y.cell? p = some v := (World.cell?_of_block h).trans hc
theorem ShsAt.low {n1 : Nat} {X Y : World} {A : Option Addr} {xs : List Sh} (h : ShsAt X A xs) (hn : ∀ k, k < xs.length → ∀ ad, A = some ad → ad.block < n1) (hk : ∀ k, k < n1 → Y.heap[k]? = X.heap[k]?) : ShsAt Y A xs := by
  intro k hlt
  obtain ⟨b, o, rfl, h1, h2⟩ := h k hlt
  have hb := hn k hlt _ rfl
  exact ⟨b, o, rfl, cell_of_blocks (hk b hb) h1, cell_of_blocks (hk b hb) h2⟩
theorem ShsAt.low_lt {w : World} {A : Option Addr} {xs : List Sh} (h : ShsAt w A xs) : ∀ k, k < xs.length → ∀ ad, A = some ad → ad.block < w.heap.size := by
  intro k hlt ad e
  obtain ⟨b, o, rfl, h1, h2⟩ := h k hlt
  cases e
  show b < _
  exact cell_lt h1

theorem pline_any (A1 A2 : Option Addr) (n1 c1 n2 c2 : Nat) (s : Int) (w : World) :
    Calls Tryz.prog 208 #[.agg #[.slice A1 n1 c1, .slice A2 n2 c2], .int .i64 s] w fun e w' =>
      e = .returned (.func (.func 256) #[] #[.pointer (some ⟨w.heap.size + 1, 0, none⟩), .pointer (some ⟨w.heap.size, 0, none⟩)]) ∧ Ext w w' ∧ Blk w' w.heap.size 56 #[.slice A1 n1 c1, .slice A2 n2 c2] ∧ Blk w' (w.heap.size + 1) 3 #[.int .i64 s] ∧ w'.heap.size = w.heap.size + 2 := by
  have hmf : ∀ (fn : Fn) (first cap : Array Value) (w : World), (Instr.makeFunc fn first cap).run Tryz.prog w = .ok (.func fn first cap) w := fun _ _ _ _ => rfl
  have hE := (Ext.alloc w (.cells #[.slice A1 n1 c1, .slice A2 n2 c2] 56)).trans (Ext.alloc _ (.cells #[.int .i64 s] 3))
  have b1 := (Blk.new w 56 #[.slice A1 n1 c1, .slice A2 n2 c2]).alloc (.cells #[.int .i64 s] 3)
  have b2 := Blk.new (w.alloc (.cells #[.slice A1 n1 c1, .slice A2 n2 c2] 56)) 3 #[.int .i64 s]
  rw [World.size_alloc] at b2
  go_enter Tryz.func208, Tryz.ntmps208
  go_wp2_with fail
  go_ret
  exact ⟨rfl, hE, b1, b2, by rw [World.size_alloc, World.size_alloc]⟩

def curOf (B : Nat) (wr : World) : Int := match wr.cell? ⟨B + 1, 0, none⟩ with | some v => intOf v | none => 0

set_option maxRecDepth 20000 in
set_option maxHeartbeats 1000000 in
theorem line1_in (F : Fence) (n0 : Nat) (hF : F.fn 256) (hro : F.round = none) (hn : 1 ≤ n0) (l B n1 : Nat) (m : PM) (hu : Pow.UpOk m) (hB : n1 ≤ B) (A1 : Option Addr) (c1 : Nat) (v2 : Value) (_hl : m.shafts.length ≤ maxLen) (s : Int) (hs : -1 ≤ s ∧ s < m.shafts.length)
    (J : List (OnLine m s) → World → Prop) (hJT : ∀ s X Y, J s X → TurnsLine B X Y → J s Y)
    (hY : ∀ pre x W, J pre W → pre.length < (m.line s).length → YieldAt F (n0 - 1) Tryz.prog l (encO m s x) W fun e W' => e = .returned (.bool true) ∧ J (pre ++ [x]) W' ∧ KeepsLine n1 B W W')
    (W : World) (hB1 : Blk W B 56 #[.slice A1 m.shafts.length c1, v2]) (hB2 : Blk W (B + 1) 3 #[.int .i64 s]) (hA : ShsAt W A1 m.shafts) (hA1 : ∀ k, k < m.shafts.length → ∀ ad, A1 = some ad → ad.block < n1) (h0 : J [] W) :
    CallsIn F n0 Tryz.prog 256 #[.func (.yield l) #[] #[], .pointer (some ⟨B + 1, 0, none⟩), .pointer (some ⟨B, 0, none⟩)] W fun e W' => (∃ v, e = .returned v) ∧ ∃ xs, xs.map (fun x : OnLine m s => x.1) = m.line s ∧ J xs W' := by
  unfold maxLen at _hl
  refine callsIn_of_wp Tryz.func256 rfl hF ?_ hro
  simp only [Tryz.ntmps256, List.size_toArray, List.length_cons, List.length_nil, Nat.reduceAdd, Nat.reduceSub, Array.replicate_succ, Array.replicate_zero, List.push_toArray, List.append_toArray, List.nil_append, List.cons_append]
  gi_wp2
  gi_loopw [] (fun wr => ∃ (pre : List (OnLine m s)) (cur : Int), Hid (pre.map (fun x : OnLine m s => x.1) ++ m.line cur = m.line s) ∧ (-1 ≤ cur ∧ cur < m.shafts.length) ∧ Blk wr B 56 #[.slice A1 m.shafts.length c1, v2] ∧ Blk wr (B + 1) 3 #[.int .i64 cur] ∧ Hid (ShsAt wr A1 m.shafts) ∧ Hid (J pre wr))
    (fun wr => (curOf B wr + 1).toNat)
  case atStart => exact ⟨[], s, rfl, hs, hB1, hB2, Lib.hid hA, Lib.hid h0⟩
  case round =>
    clear hB1 hB2 hA h0
    obtain ⟨pre, cur, hpre, hc, hB1, hB2, hA, hJs⟩ := hrel
    have u0 := hB2.c1
    have hcur : Hid (curOf B wr = cur) := by unfold Hid curOf; rw [u0]; rfl
    by_cases hneg : cur = -1
    · subst hneg
      gi_wp2
      go_end0
      have := hpre.out
      rw [Pow.line_neg m (s := -1) (by decide), List.append_nil] at this
      exact ⟨⟨_, rfl⟩, pre, this, hJs.out⟩
    · obtain ⟨c, rfl⟩ : ∃ c : Nat, cur = c := ⟨cur.toNat, by omega⟩
      have hcl : c < m.shafts.length := by omega
      have hline := Pow.line_cons m hu hcl
      have hmem : (c : Int) ∈ m.line s := by rw [← hpre.out, hline]; simp
      obtain ⟨b, o, rfl, s1, s2⟩ := hA.out c hcl
      have hup := hu c hcl
      have hlen : pre.length < (m.line s).length := by rw [← hpre.out, hline]; simp
      obtain ⟨fn, tmps, assign, body, hy, hR⟩ := hY pre ⟨c, hmem⟩ wr hJs.out hlen
      have hsh : m.shafts[c]?.getD default = m.sh c := rfl
      rw [hsh] at s1 s2
      have Hline := Lib.hid hline
      have HA := Lib.hid hA
      have hd : ((c : Int) != -1) = true := by simp
      unfold encO at hy
      clear s1 s2 hline hlen hneg hA
      gi_wp2
      refine hR.mono ?_
      rintro e W3 ⟨rfl, hJ3, hk3⟩
      have hB3 : Blk W3 B 56 #[.slice (some ⟨b, o, none⟩) m.shafts.length c1, v2] := hk3.2.1.trans hB1
      have hB4 : Blk W3 (B + 1) 3 #[.int .i64 (c : Int)] := hk3.2.2.trans hB2
      have hA3 := HA.out.out.low hA1 hk3.1
      obtain ⟨b', o', e', s1, s2⟩ := hA3 c hcl
      cases e'
      rw [hsh] at s1 s2
      clear u0
      have u0 := hB4.c1
      have f0 := hB4.frozen 0
      obtain ⟨k0, k1⟩ := hB3.c2
      generalize hux : (m.sh c).up = ux at *
      have Hux := Lib.hid hux
      clear hux s2 hB1 hB2
      gi_wp2
      go_roundw
      case rel =>
        refine ⟨pre ++ [⟨c, by rw [← hpre.out, Hline.out]; simp⟩], ux, ?_, by omega, hB3.far (by show B ≠ B + 1; omega) _, by simpa using hB4.set_ 0 (.int .i64 ux), Lib.hid (hA3.low (n1 := n1) hA1 fun k hk => Below.heap_setCell W3 ⟨B + 1, 0, none⟩ _ k (by show k ≠ B + 1; omega)), Lib.hid (hJT _ _ _ hJ3 ⟨_, rfl⟩)⟩
        unfold Hid
        rw [List.map_append, List.map_singleton, List.append_assoc, List.singleton_append]
        have h9 := hpre.out
        rw [Hline.out] at h9
        exact h9
      case measure =>
        have : curOf B (W3.setCell ⟨B + 1, 0, none⟩ (.int .i64 ux)) = ux := by
          have := (show Blk (W3.setCell ⟨B + 1, 0, none⟩ (.int .i64 ux)) (B + 1) 3 #[.int .i64 ux] by simpa using hB4.set_ 0 (.int .i64 ux)).c1
          unfold curOf; rw [this]; rfl
        rw [this, hcur.out]
        omega

theorem line_seq (F : Fence) (n0 : Nat) (hF : F.fn 256) (hro : F.round = none) (hn : 1 ≤ n0) (B n1 : Nat) (m : PM) (hu : Pow.UpOk m) (hB : n1 ≤ B) (A1 : Option Addr) (c1 : Nat) (v2 : Value) (hl : m.shafts.length ≤ maxLen) (s : Int) (hs : -1 ≤ s ∧ s < m.shafts.length)
    (w : World) (hB1 : Blk w B 56 #[.slice A1 m.shafts.length c1, v2]) (hB2 : Blk w (B + 1) 3 #[.int .i64 s]) (hA : ShsAt w A1 m.shafts) (hA1 : ∀ k, k < m.shafts.length → ∀ ad, A1 = some ad → ad.block < n1) :
    SeqT F n0 Tryz.prog 256 #[.pointer (some ⟨B + 1, 0, none⟩), .pointer (some ⟨B, 0, none⟩)] (encO m s) (KeepsLine n1 B) (TurnsLine B) (fun xs => xs.map (fun x : OnLine m s => x.1) = m.line s) (m.line s).length w :=
  fun l J W hW _ hJT hY h0 => line1_in F n0 hF hro hn l B n1 m hu hB A1 c1 v2 hl s hs J hJT hY W (Blk.ext hB1 hW) (Blk.ext hB2 hW) (hA.ext hW) hA1 h0

/-- a range over a line -/
theorem wp_line {g : Operand} {ps : Array Tmp} {assign body : Code} {Q : Exit → Act → World → Prop} {a : Act} {w : World} {B n1 : Nat} {m : PM} (hu : Pow.UpOk m) (hB : n1 ≤ B) {A1 : Option Addr} {c1 : Nat} {v2 : Value} (hl : m.shafts.length ≤ maxLen) {s : Int} (hs : -1 ≤ s ∧ s < m.shafts.length)
    (hB1 : Blk w B 56 #[.slice A1 m.shafts.length c1, v2]) (hB2 : Blk w (B + 1) 3 #[.int .i64 s]) (hA : ShsAt w A1 m.shafts) (hA1 : ∀ k, k < m.shafts.length → ∀ ad, A1 = some ad → ad.block < n1)
    (hg : a.eval g = .func (.func 256) #[] #[.pointer (some ⟨B + 1, 0, none⟩), .pointer (some ⟨B, 0, none⟩)]) (hps : ps.size = 1)
    (I : List (OnLine m s) → World → Prop) (hI : ∀ p W W', I p W → Loops w.heap.size W W' → I p W') (hIT : ∀ p W W', I p W → TurnsLine B W W' → I p W') (h0 : I [] w) (a₁ : OnLine m s → Act)
    (hassign : ∀ (l : Nat) (x : OnLine m s) (W : World) (K : Act → World → Prop), K (a₁ x) W →
      assign.wpIn (Fence.wide.inRound l) 3 Tryz.prog (Exit.then K (fun _ _ _ => False)) { tmps := (ps.zip (encO m s x)).foldl (fun t (p, v) => t.setIfInBounds p v) a.tmps, defers := [] } W)
    (hbody : ∀ (l : Nat) (pre : List (OnLine m s)) (x : OnLine m s) (W : World), I pre W → pre.length < (m.line s).length → body.wpIn (Fence.wide.inRound l) 3 Tryz.prog (ownPostG w.heap.size (KeepsLine n1 B) I (fun _ _ _ => False) (pre ++ [x]) W) (a₁ x) W)
    (hdone : ∀ (D : Nat) (xs : List (OnLine m s)) (W : World), w.heap.size ≤ D → xs.map (fun x : OnLine m s => x.1) = m.line s → I xs W → W.heap[D]? = some (.deferred (some [])) → Q .normal { a with defers := { target := .collected D, args := #[] } :: a.defers } W) :
    (Code.rangeFunc g ps assign body).wp Tryz.prog Q a w := by
  have hBlt := hB2.lt
  exact (wpIn_wide (n := 5)).1 (wpIn_rangeT (n := 5) (by rfl) (by omega) hg trivial (enters_of Tryz.func256 (by kernel_rfl) rfl)
    (line_seq Fence.wide 4 trivial (by rfl) (by omega) B n1 m hu hB A1 c1 v2 hl s hs w hB1 hB2 hA hA1) (Below.refl _ _) KeepsLine.t (KeepsLine.b (by omega) hBlt) (TurnsLine.w hBlt) (fun x => by rw [hps]; rfl) I
    (ownFrom_keep hI) hIT h0 a₁ hassign hbody (fun D xs W hD hxs hi hK => hdone D xs W hD hxs hi hK))
end Go.Proofs.Pet

namespace Go.Proofs.Pet
open Go
theorem wp_loop_ghost_u {P : Program} {Q : Exit → Act → World → Prop} {a : Act} {w : World} {c : Code} (I : (Nat → Value) → Nat → Act → World → Prop) (n₀ : Nat) (h₀ : I (fun k => a.tmps.getD k undef) n₀ a w)
    (round : ∀ u n a w, I u n a w → ∀ (J : Nat → Act → World → Prop) (K : Act → World → Prop), (∀ k a' w', I (fun j => a'.tmps.getD j undef) k a' w' → J k a' w') → (∀ a' w', Handed J n a' w' → K a' w') → c.wp P (Exit.then K Q) a w) : (Code.loop c).wp P Q a w :=
  wp_loop_ghost_k (fun n a w => ∃ u, I u n a w) n₀ ⟨_, h₀⟩ fun n a w ⟨u, h⟩ J K hJ hK => round u n a w h J K (fun k a' w' h' => hJ k a' w' ⟨_, h'⟩) hK
end Go.Proofs.Pet

namespace Go.Proofs.Pet
set_option linter.unusedSimpArgs false
open Go Go.RowKit Go.Maps Go.Shelf
open Go.Proofs.Pow (PM Sh Wv POk)
attribute [local go_sem] Oper.semAt_some

/-- what has been marked: the weavers before i, and those shafts of i's line that have come -/
def drvU (m : PM) (i : Nat) (l : List Int) (s k : Nat) : Bool := (decide (k < i) && m.drv s k) || (decide (k = i) && l.contains (s : Int))
theorem drvU_nil (m : PM) (s k : Nat) : drvU m 0 [] s k = false := by simp [drvU]
theorem drvU_next (m : PM) (i : Nat) (s k : Nat) : drvU m i (m.line (m.wv i).shaft) s k = drvU m (i + 1) [] s k := by
  unfold drvU PM.drv
  by_cases h : k = i
  · subst h; simp
  · have h1 : decide (k < i + 1) = decide (k < i) := by
      rw [decide_eq_decide]; omega
    simp [h, h1]
theorem drvU_snoc (m : PM) (i : Nat) (l : List Int) (c s k : Nat) : (if s = c ∧ k = i then true else drvU m i l s k) = drvU m i (l ++ [(c : Int)]) s k := by
  unfold drvU
  by_cases h : k = i
  · subst h
    by_cases h2 : s = c
    · subst h2; simp
    · have : ¬ ((s : Int) = (c : Int)) := by omega
      simp [h2, List.contains_eq_mem]
      intro h; omega
  · simp [h]
theorem drvU_all (m : PM) (s k : Nat) : drvU m m.wvs.length [] s k = drvC m s k := by
  unfold drvU drvC; simp

theorem Marks.above {W : World} {lo hi : Nat} {ds : List Deferred} {p : Addr} (h : Marks W lo hi ds) (hp : hi ≤ p.block) (v : Value) : Marks (W.setCell p v) lo hi ds := by
  obtain ⟨l, h1, h2, h3⟩ := h
  refine ⟨l, h1, h2, fun D hD => ⟨(h3 D hD).1, (h3 D hD).2.1, ?_⟩⟩
  exact (Below.heap_setCell W p v D fun e => by have := (h3 D hD).2.1; omega).trans (h3 D hD).2.2

set_option maxRecDepth 20000 in
theorem openedErrP (v : Value) (m : PM) (r : Int) (hr : checkP m = r) (h0 : r ≠ 0) (w : World) (hv : PMVal w v m) :
    Calls Tryz.prog 111 #[v] w fun e w' => e = .returned (.tuple #[.pointer none, .int .i64 r]) ∧ Ext w w' := by
  have Hv := Lib.hid hv
  obtain ⟨A1, c1, A2, c2, rfl, h2, h3, h4, h5, h6, h7⟩ := hv
  have hE := Ext.alloc w (.cells #[.slice A1 m.shafts.length c1, .slice A2 m.wvs.length c2] 56)
  have hM := Blk.new w 56 #[.slice A1 m.shafts.length c1, .slice A2 m.wvs.length c2]
  have f0 := hM.frozen 0
  obtain ⟨k0, k1⟩ := hM.c2
  have hck := pcheck_any _ m _ (Hv.out.ext hE)
  rw [hr] at hck
  have Hck := Lib.hid hck
  have hd : (r != 0) = true := by simpa using h0
  clear hck h6 h7 hM
  go_enter Tryz.func111, Tryz.ntmps111
  go_wp2_with fail
  refine Hck.out.mono ?_
  rintro e w' ⟨rfl, he⟩
  go_wp2_with fail
  go_ret2
  exact ⟨rfl, hE.trans he⟩


set_option maxRecDepth 20000 in
set_option maxHeartbeats 2000000 in
theorem opened_anyP (v : Value) (m : PM) (hr : checkP m = 0) (w : World) (hv : PMVal w v m) :
    Calls Tryz.prog 111 #[v] w fun e w' => ∃ D, e = .returned (.tuple #[.pointer (some ⟨D, 0, none⟩), .int .i64 0]) ∧ DeskAt w' D m ∧ w.heap.size ≤ D ∧ Ext w w' := by
  have hok := (checkP_iff m).1 hr
  have hok' := Lib.hid hok
  obtain ⟨⟨l1, l2⟩, l3, -, -, hup, hat, -⟩ := hok
  have Hv := Lib.hid hv
  obtain ⟨A1, c1, A2, c2, rfl, h2, h3, h4, h5, h6, h7⟩ := hv
  have hE := Ext.alloc w (.cells #[.slice A1 m.shafts.length c1, .slice A2 m.wvs.length c2] 56)
  have hM := Blk.new w 56 #[.slice A1 m.shafts.length c1, .slice A2 m.wvs.length c2]
  have f0 := hM.frozen 0
  obtain ⟨k0, k1⟩ := hM.c2
  have hck := pcheck_any _ m _ (Hv.out.ext hE)
  rw [hr] at hck
  have Hck := Lib.hid hck
  have HM := Lib.hid hM
  have H6 := Lib.hid h6; have H7 := Lib.hid h7; have Hup := Lib.hid hup; have Hat := Lib.hid hat
  clear hck h6 h7 hM hup hat
  refine (callsIn_wide (n := 5)).1 ?_
  refine callsIn_of_wp_marks Tryz.func111 rfl trivial ?_ rfl
  simp only [Tryz.ntmps111, List.size_toArray, List.length_nil, Nat.reduceSub, Array.replicate_succ, Array.replicate_zero, List.push_toArray, List.append_toArray, List.nil_append, List.cons_append, List.length_cons, Nat.reduceAdd]
  refine wpIn_wide.2 ?_
  go_wp2_with fail
  refine Hck.out.mono ?_
  rintro e w1 ⟨rfl, he1⟩
  have hM1 := HM.out.ext he1
  have hE1 := hE.trans he1
  have hMlt : w.heap.size < w1.heap.size := hM1.lt
  have f1 := hM1.frozen 0
  clear k0 k1 f0 hE he1 HM Hck
  obtain ⟨k0, k1⟩ := hM1.c2
  go_wp2_with fail
  have hlit : (#[.slice A1 m.shafts.length c1, .slice A2 m.wvs.length c2, .bool false, .bool false, .bool false, .bool false, .bool false, .bool false, .bool false, .bool false, .bool false, .bool false, .bool false, .bool false, .bool false, .bool false, .bool false, .bool false, .bool false, .bool false, .bool false, .bool false, .bool false, .bool false, .bool false, .bool false, .bool false, .bool false, .bool false, .bool false, .bool false, .bool false, .bool false, .bool false, .bool false, .bool false, .bool false, .bool false, .bool false, .bool false, .bool false, .bool false, .bool false, .bool false, .bool false, .bool false, .bool false, .bool false, .bool false, .bool false, .bool false, .bool false, .bool false, .bool false, .bool false, .bool false] : Array Value) = deskC (.slice A1 m.shafts.length c1) (.slice A2 m.wvs.length c2) (drvU m 0 []) := by
    rw [deskC_congr (g := fun _ _ => false) fun s k _ _ => drvU_nil m s k]
    rfl
  rw [hlit]
  have hD := (Blk.new w1 191 (deskC (.slice A1 m.shafts.length c1) (.slice A2 m.wvs.length c2) (drvU m 0 []))).alloc (.cells #[.pointer (some ⟨w1.heap.size, 0, none⟩)] 175)
  have hP := Blk.new (w1.alloc (.cells (deskC (.slice A1 m.shafts.length c1) (.slice A2 m.wvs.length c2) (drvU m 0 [])) 191)) 175 #[.pointer (some ⟨w1.heap.size, 0, none⟩)]
  have hE2 : Ext w1 ((w1.alloc (.cells (deskC (.slice A1 m.shafts.length c1) (.slice A2 m.wvs.length c2) (drvU m 0 [])) 191)).alloc (.cells #[.pointer (some ⟨w1.heap.size, 0, none⟩)] 175)) := (Ext.alloc _ _).trans (Ext.alloc _ _)
  rw [World.size_alloc] at hP
  clear hlit k0 k1 f1
  generalize (w1.alloc _).alloc _ = W2 at *
  generalize hDe : w1.heap.size = D at *
  have hlen2 : m.wvs.length ≤ maxLen := Nat.le_trans h4 h5
  have hlen1 : m.shafts.length ≤ maxLen := Nat.le_trans h2 h3
  unfold maxLen at hlen2
  refine wp_loop_ghost_u (fun u gn a W => ∃ (i : Nat) (ds : List Deferred), a = ⟨#[.agg #[.slice A1 m.shafts.length c1, .slice A2 m.wvs.length c2], .pointer (some ⟨w.heap.size, 0, none⟩), .pointer none, .int .i64 0, .int .i64 0, .pointer (some ⟨D + 1, 0, none⟩), u 6, u 7, u 8, u 9, u 10, u 11, u 12, u 13, u 14, u 15, u 16, u 17, .slice A2 m.wvs.length c2, .int .i64 (m.wvs.length : Int), u 20, u 21, u 22, u 23, u 24, u 25, u 26, u 27, u 28, u 29, u 30, u 31, u 32, u 33, u 34, u 35, u 36, u 37, u 38], ds⟩ ∧ gn = m.wvs.length - i ∧ u 20 = .int .i64 (i : Int) ∧ i ≤ m.wvs.length ∧ Ext w1 W ∧ Blk W D 191 (deskC (.slice A1 m.shafts.length c1) (.slice A2 m.wvs.length c2) (drvU m i [])) ∧ Blk W (D + 1) 175 #[.pointer (some ⟨D, 0, none⟩)] ∧ Marks W w.heap.size W.heap.size ds) (m.wvs.length) ⟨0, [], rfl, by omega, rfl, by omega, hE2, hD, hP, Marks.nil _ _ _⟩ ?_
  rintro uA gn a W ⟨i, ds, rfl, rfl, hu20, hi, he2, hD2, hP2, hm2⟩ JA KA hJA hKA
  rw [hu20]
  clear hE2 hD hP
  have hM2 := hM1.ext he2
  obtain ⟨k0, k1⟩ := hM2.c2
  have f0 := hM2.frozen 0
  have hszW := he2.size
  by_cases hlt : i < m.wvs.length
  · obtain ⟨b, o, rfl, A3, c3, h3', s1, s2, s3⟩ := H7.out.ext (hE1.trans he2) i hlt
    have hwv : m.wvs[i]?.getD default = m.wv i := rfl
    rw [hwv] at s1 s2 s3 h3'
    have hat := Hat.out i hlt
    obtain ⟨sf, hsf⟩ : ∃ sf, (m.wv i).shaft = sf := ⟨_, rfl⟩
    rw [hsf] at s1 hat
    obtain ⟨hl, hhl⟩ : ∃ hl, (m.wv i).hours.length = hl := ⟨_, rfl⟩
    rw [hhl] at s2
    have hX : Ext W ((W.alloc (.cells #[.int .i64 (i : Int)] 3)).alloc (.cells #[.int .i64 sf, .slice A3 hl c3] 86)) := (Ext.alloc _ _).trans (Ext.alloc _ _)
    have hK := (Blk.new W 3 #[.int .i64 (i : Int)]).alloc (.cells #[.int .i64 sf, .slice A3 hl c3] 86)
    have hV := Blk.new (W.alloc (.cells #[.int .i64 (i : Int)] 3)) 86 #[.int .i64 sf, .slice A3 hl c3]
    rw [World.size_alloc] at hV
    obtain ⟨v0, v1⟩ := hV.c2
    have hline := Lib.hid (pline_any A1 (some ⟨b, o, none⟩) m.shafts.length c1 m.wvs.length c2 sf)
    have S3 := Lib.hid s3; have Hhl := Lib.hid hhl
    have k0' := hX.cell k0
    have k1' := hX.cell k1
    clear s3 hhl hwv h3' k0 k1
    go_wp2_with fail
    refine (hline.out _).mono ?_
    rintro e W5 ⟨hv5, he5, hL1, hL2, hsz5⟩
    simp only [World.size_alloc] at hv5 hL1 hL2 hsz5
    subst hv5
    have hXW := hX.trans he5
    have heW := he2.trans hXW
    have hD5 := hD2.ext hXW
    have hP5 := hP2.ext hXW
    have hK5 := hK.ext he5
    have hV5 := hV.ext he5
    have hm5 := hm2.ext hXW
    have hA5 := H6.out.ext (hE1.trans heW)
    have hDlt : D + 1 < W.heap.size := hP2.lt
    clear hX hXW hD2 hP2 hK hV hm2 hM2 k0' k1' f0 v0 v1 he5 hszW
    generalize W.heap.size = L at *
    have hL5 : L + 2 + 1 < W5.heap.size := hL2.lt
    have hlow : ∀ k, k < m.shafts.length → ∀ ad, A1 = some ad → ad.block < D := fun k hk ad e => by
      have := H6.out.low_lt k hk ad e
      omega
    go_wp2_with fail
    apply wp_line (n1 := D) (B := L + 2) Hup.out (by omega) hlen1 (s := sf) (by omega) hL1 hL2 hA5 hlow rfl rfl
      (fun pre W => W5.heap.size ≤ W.heap.size ∧ Ext w1 W ∧ Blk W D 191 (deskC (.slice A1 m.shafts.length c1) (.slice (some ⟨b, o, none⟩) m.wvs.length c2) (drvU m i (pre.map fun y : OnLine m sf => y.1))) ∧ Blk W (D + 1) 175 #[.pointer (some ⟨D, 0, none⟩)] ∧ Blk W L 3 #[.int .i64 (i : Int)] ∧ Marks W w.heap.size L ds)
      (fun pre W W' ⟨h0, h1, h2, h3, h4, h5⟩ hl => ⟨Nat.le_trans h0 hl.size, h1.loops hl heW.size, h2.loops hl, h3.loops hl, h4.loops hl, h5.loops hl (by omega)⟩)
      (fun pre W W' ⟨h0, h1, h2, h3, h4, h5⟩ ht => ?hturn) ⟨Nat.le_refl _, heW, hD5, hP5, hK5, hm5⟩
    case hturn =>
      obtain ⟨v, rfl⟩ := ht
      have hlt2 : L + 2 + 1 < W5.heap.size := hL2.lt
      have hsP : D + 1 < L := hDlt
      exact ⟨by rw [World.size_setCell]; exact h0, Below.setCell h1 (by show _ ≤ L + 2 + 1; omega) _, h2.far (by show D ≠ L + 2 + 1; omega) _, h3.far (by show D + 1 ≠ L + 2 + 1; omega) _, h4.far (by show L ≠ L + 2 + 1; omega) _, h5.above (by show L ≤ L + 2 + 1; omega) _⟩
    case hassign =>
      intro l x W K hK
      simp only [encO]
      gi_wp2
      exact hK
    case hbody =>
      rintro l pre x W ⟨i0, i1, i2, i3, i4, i5⟩ -
      obtain ⟨xv, hxm⟩ := x
      have hxl := line_lt hok'.out hlt (hsf ▸ hxm)
      obtain ⟨c, rfl⟩ : ∃ c : Nat, xv = c := ⟨xv.toNat, by omega⟩
      have hc9 : c < 9 := by omega
      have hi6 : i < 6 := by omega
      have p0 := i3.c1
      have q0 := i4.c1
      gi_wp2_with fail
      refine wpIn_region_chain 7 [] [] (by kernel_rfl) (by kernel_rfl) (by kernel_rfl) ?_
      simp only [List.take, List.drop, fill, Act.put, List.setIfInBounds_toArray, List.set_cons_zero, List.set_cons_succ, Nat.reduceAdd]
      repeat (first
        | refine FloatsIn.mut rfl ?_
        | (apply FloatsIn.float rfl
           · intro x W he hd K Q hK
             try (have he := he (by decide); have p0 := he.cell p0; have q0 := he.cell q0)
             try simp only [edges, DepsE, List.filter_cons, List.filter_nil, Region.binds, if_true, and_true, true_and, upd, Nat.reduceEqDiff, if_false] at hd
             try simp only [hd] at hK ⊢
             have HK := Lib.hid hK; clear hK
             gi_wp2_with fail
             exact HK.out))
      refine FloatsIn.done fun W he hG => ?_
      refine ChainIn.nil ?_
      simp only [upd, Nat.reduceEqDiff, if_false, if_true]
      have hDW := i2.ext he
      have hcell : W.cell? ⟨D, 2 + c * 6 + i, none⟩ = some (.bool (drvU m i (pre.map fun y : OnLine m sf => y.1) c i)) := by rw [hDW.cell, deskC_cell _ _ _ hc9 hi6]
      have hfr := hDW.frozen (2 + c * 6 + i)
      gi_wp2_with fail
      have hszX := he.size
      have hsP : D + 1 < L := hDlt
      have hnh : ∀ j, j ≠ D → (W.setCell ⟨D, 2 + c * 6 + i, none⟩ (.bool true)).heap[j]? = W.heap[j]? := fun j hj => Below.heap_setCell W _ _ j hj
      refine ⟨(keepsFrom_ext he).trans ((KeepsOthers.setCell _ _ _).from _), ⟨fun k hk => (hnh k (by omega)).trans (Below.block he k (by omega)), (hnh (L + 2) (by omega)).trans (Below.block he _ (by omega)), (hnh (L + 2 + 1) (by omega)).trans (Below.block he _ (by omega))⟩, ?_, ?_, ?_, ?_, ?_, ?_⟩
      · rw [World.size_setCell]; omega
      · exact Below.setCell (i1.trans he) (by show _ ≤ D; omega) _
      · have h9 := hDW.set_ (2 + c * 6 + i) (.bool true)
        rw [deskC_set _ _ _ hc9 hi6] at h9
        rw [List.map_append, List.map_singleton]
        rw [deskC_congr fun s k _ _ => drvU_snoc m i _ c s k] at h9
        exact h9
      · exact (i3.ext he).far (by show _ ≠ D; omega) _
      · exact (i4.ext he).far (by show _ ≠ D; omega) _
      · exact (i5.ext he).set_ (p := ⟨D, 2 + c * 6 + i, none⟩) hDW _
    case hdone =>
      intro Dd xs W hDd hxs ⟨i0, i1, i2, i3, i4, i5⟩ hdef
      rw [hxs, ← hsf, deskC_congr fun s k _ _ => drvU_next m i s k] at i2
      have hp := i5.push (by have := hE1.size; have := heW.size; omega) (by omega) hdef
      have hDlt := (Array.getElem?_eq_some_iff.1 hdef).1
      clear hdef i5 i4
      go_wp2_with fail
      refine Handed.intro (m.wvs.length - (i + 1)) (by omega) (hJA _ _ _ ⟨i + 1, _, rfl, rfl, by show Value.int .i64 _ = _; go_num, by omega, i1, i2, i3, hp.mono (by omega)⟩)
  · obtain rfl : i = m.wvs.length := by omega
    rw [deskC_congr fun s k _ _ => drvU_all m s k] at hD2
    have p0 := hP2.c1
    go_wp2_with fail
    refine leaves_marks' ds W hm2 (fun W' => results_tmp2 rfl _ _ _) (fun W' hq => ⟨D, rfl, ⟨A1, c1, A2, c2, hq.blk hD2, h2, h3, h4, h5, H6.out.ext (hq.ext (hE1.trans he2) (Nat.le_refl _)), H7.out.ext (hq.ext (hE1.trans he2) (Nat.le_refl _))⟩, by omega, hq.ext (hE1.trans he2) (Nat.le_refl _)⟩)
end Go.Proofs.Pet

namespace Go.Proofs.Pet
open Go Go.RowKit Go.Maps Go.Shelf
open Go.Proofs.Pow (PM Sh Wv POk)

theorem useI_take (m : PM) (g : List Int) (s h k : Nat) (hk : k < g.length) (kk : Nat) (e : g[k]?.getD 0 = (kk : Int)) : Pow.useI m (g.take (k + 1)) s h = Pow.useI m (g.take k) s h + if Pow.usesB m s h kk then 1 else 0 := by
  have : g.take (k + 1) = g.take k ++ [(kk : Int)] := by
    rw [List.take_add_one, List.getElem?_eq_getElem hk]
    rw [List.getElem?_eq_getElem hk] at e
    simp only [Option.getD_some] at e
    rw [e]; rfl
  rw [this, Pow.useI_snoc]

set_option maxRecDepth 20000 in
set_option maxHeartbeats 1000000 in
theorem use_any (D : Nat) (m : PM) (hm : POk m) (A : Option Addr) (c n : Nat) (g : List Int) (hn : g.length = n) (hg : Pow.InG m g) (s h : Nat) (hs : s < m.shafts.length) (r : Int) (hr : (Pow.useI m g s h : Int) = r) (w : World) (hD : DeskAt w D m) (hl : n ≤ maxLen) (hA : IntsAt w A g) :
    Calls Tryz.prog 117 #[.pointer (some ⟨D, 0, none⟩), .slice A n c, .int .i64 s, .int .i64 h] w fun e w' => e = .returned (.int .i64 r) ∧ w = w' := by
  subst hr
  subst hn
  have hs9 : s < 9 := by have := hm.sz; omega
  have hml := hm.few
  unfold maxLen at hl
  go_enter Tryz.func117, Tryz.ntmps117
  go_wp2
  go_loopw [9, 14] (fun u i wr => ∃ k : Nat, k ≤ g.length ∧ i = .int .i64 k ∧ (∃ n : Nat, n ≤ k ∧ u = .int .i64 (n : Int) ∧ Hid (Pow.useI m (g.take k) s h = n)) ∧ w = wr) (fun _ i _ => g.length - (intOf i).toNat)
  case atStart => exact ⟨0, Nat.zero_le _, rfl, ⟨0, Nat.le_refl _, rfl, rfl⟩, rfl⟩
  case round =>
    obtain ⟨k, hk, rfl, ⟨nn, hnk, rfl, hnn⟩, rfl⟩ := hrel
    by_cases hlt : k < g.length
    · obtain ⟨b, o, rfl, c1⟩ := hA k hlt
      have hgk := hg (g[k]?.getD 0) (by simp [hlt])
      obtain ⟨kk, hkk⟩ : ∃ kk : Nat, g[k]?.getD 0 = kk := ⟨_, (Int.toNat_of_nonneg hgk.1).symm⟩
      have Hst := Lib.hid (useI_take m g s h k hlt kk hkk)
      rw [hkk] at c1 hgk
      have hkl : kk < m.wvs.length := by omega
      have hk6 : kk < 6 := by omega
      have Hkk := Lib.hid hkk; clear hkk
      have d1 := hD.drv hs9 hk6
      obtain ⟨A1, c1', A2, c2', d2, d3, -, -, d4⟩ := hD.slices
      obtain ⟨b2, o2, rfl, A3, c3, h3, j1, j2, j3⟩ := d4 kk hkl
      have hwv : m.wvs[kk]?.getD default = m.wv kk := rfl
      rw [hwv] at h3 j1 j2 j3
      obtain ⟨q, hq⟩ : ∃ q, drvC m s kk = q := ⟨_, rfl⟩
      obtain ⟨q2, hq2⟩ : ∃ q2, (m.wv kk).hours.contains (h : Int) = q2 := ⟨_, rfl⟩
      have hqq : Hid (Pow.usesB m s h kk = (q && q2)) := by
        unfold Hid Pow.usesB
        rw [hq2, ← hq]
        simp [drvC, hkl]
      rw [hq] at d1
      have Ho := Lib.hid (contains_any (h : Int) A3 c3 _ (m.wv kk).hours rfl q2 hq2 w (Nat.le_trans h3.1 h3.2) j3)
      clear d2 d4 j1 j3 hq hq2
      generalize (m.wv kk).hours.length = hl at *
      cases q with
      | false =>
        go_wp2_with fail
        go_roundw
        case rel =>
          refine ⟨k + 1, by omega, by go_num, ⟨nn, by omega, rfl, ?_⟩, by trivial⟩
          unfold Hid
          rw [Hst.out, hnn.out, hqq.out]; simp
        case measure => simp [intOf]; omega
      | true =>
        go_wp2_with fail
        refine Ho.out.mono ?_
        rintro e w' ⟨rfl, rfl⟩
        cases q2 with
        | false =>
          go_wp2_with fail
          go_roundw
          case rel =>
            refine ⟨k + 1, by omega, by go_num, ⟨nn, by omega, rfl, ?_⟩, by trivial⟩
            unfold Hid
            rw [Hst.out, hnn.out, hqq.out]; simp
          case measure => simp [intOf]; omega
        | true =>
          go_wp2_with fail
          go_roundw
          case rel =>
            refine ⟨k + 1, by omega, by go_num, ⟨nn + 1, by omega, by go_num, ?_⟩, by trivial⟩
            unfold Hid
            rw [Hst.out, hnn.out, hqq.out]; simp
          case measure => simp [intOf]; omega
    · obtain rfl : k = g.length := by omega
      have hr := hnn.out
      rw [List.take_of_length_le (Nat.le_refl _)] at hr
      have Hr := Lib.hid hr; clear hr hnn
      go_wp2
      go_ret
      exact ⟨by rw [Hr.out]; rfl, rfl⟩

theorem allI_succ (k : Nat) : Pow.allI (k + 1) = Pow.allI k ++ [(k : Int)] := by
  unfold Pow.allI; rw [List.range_succ, List.map_append]; rfl
theorem allI_len (k : Nat) : (Pow.allI k).length = k := by simp [Pow.allI]
set_option maxRecDepth 20000 in
set_option maxHeartbeats 1000000 in
theorem allg_any (D : Nat) (m : PM) (hm : POk m) (w : World) (hD : DeskAt w D m) :
    Calls Tryz.prog 112 #[.pointer (some ⟨D, 0, none⟩)] w fun e w' => ∃ v, e = .returned v ∧ OwnI w' w.heap.size 3 v (Pow.allI m.wvs.length) ∧ Ext w w' := by
  obtain ⟨ti, hi, hz0, hz1, hz2⟩ := info_parts info_int
  have hml := hm.few
  obtain ⟨A1, c1', A2, c2', d2, d3, -, -, -⟩ := hD.slices
  go_enter Tryz.func112, Tryz.ntmps112
  go_wp2
  go_loopw [3, 11] (fun v i wr => ∃ k : Nat, k ≤ m.wvs.length ∧ i = .int .i64 k ∧ Hid (OwnI wr w.heap.size 3 v (Pow.allI k)) ∧ Ext w wr) (fun _ i _ => m.wvs.length - (intOf i).toNat)
  case atStart => exact ⟨0, Nat.zero_le _, rfl, Lib.hid (OwnI.nil _ _ _), Ext.refl _⟩
  case round =>
    obtain ⟨k, hk, rfl, hO, he⟩ := hrel
    by_cases hlt : k < m.wvs.length
    · have hX := Ext.alloc wr (.cells #[.int .i64 (k : Int)] 3)
      have hsrc := Src.one wr (.int .i64 (k : Int)) 3
      have hOX := hO.out.ext hX
      have hsz := he.size
      have hszX := hX.size
      obtain ⟨A3, c3, rfl, r1, r2, r3, r4, r5⟩ := hO.out.open_
      have hlen := allI_len k
      have Hw : Hid (∀ v' w', w'.ownsRow w.heap.size 3 1 v' ((Pow.allI k).length + 1) ((Pow.allI k).map (Value.int .i64) ++ [.int .i64 (k : Int)]) → (wr.alloc (.cells #[.int .i64 (k : Int)] 3)).grownBy w' (Value.slice A3 (Pow.allI k).length c3).ownBlock → OwnI w' w.heap.size 3 v' (Pow.allI (k + 1)) ∧ Ext w w') := by
        intro v' w' hown hg
        refine ⟨by unfold OwnI; rw [allI_succ, List.length_append, List.map_append]; exact hown, ext_grown he hg fun j hj => (hO.out.own_lt j hj).1⟩
      clear r3 r4 r5 hO
      go_wp2_with (at_builtin; refine wpList_app rfl _ _ 22 rfl w.heap.size 3 ti (.int .i64 0) 1 8 Tryz.underlying22 hi hz0 hz1 hz2 rfl (by decide) (.slice A3 (Pow.allI k).length c3) (Pow.allI k).length _ rfl hOX (some ⟨wr.heap.size, 0, none⟩) 1 1 [.int .i64 (k : Int)] rfl rfl hsrc ?c2 ?c3 ?c4 ?c5 ?_; (case c2 => (intro u hu; rw [List.mem_singleton] at hu; subst hu; rfl)); (case c3 => (unfold maxLen; omega)); (case c4 => omega); (case c5 => omega); intro v' w5 hown hg hblk; have HO := Lib.hid (Hw.out v' w5 hown hg); clear hown hg hblk)
      go_roundw
      case rel => exact ⟨k + 1, by omega, by go_num, HO.out.1, HO.out.2⟩
      case measure => simp [intOf]; omega
    · obtain rfl : k = m.wvs.length := by omega
      go_wp2
      go_ret
      exact ⟨_, rfl, hO.out, he⟩
end Go.Proofs.Pet

namespace Go.Proofs.Pet
open Go Go.RowKit Go.Maps Go.WideMaps
open Go.Proofs.Pow (PM Sh Wv)

theorem spotRow : (257 : TypeId) < Tryz.prog.types.size := of_decide_eq_true (by kernel_rfl)
theorem spotLaw : KeyLaw Tryz.prog 257 := deep_law_laid laidOut_ (m := 2) (by omega) spotRow (by kernel_rfl) (by rw [Tryz.underlying257])
theorem spotKeyed : Keyed Tryz.prog 257 := Keyed.of_law spotLaw
def spotKey (s h : Nat) : Lit := .string (keyBytes [.int .i64 (s : Int), .int .i64 (h : Int)])
theorem keyOf_spot {s h : Nat} (hs : s ≤ 1048576) (hh : h ≤ 1048576) : keyOf Tryz.prog 257 (.agg #[.int .i64 (s : Int), .int .i64 (h : Int)]) = some (spotKey s h) := by
  have wa := WalkArith.wf_i64 (n := (s : Int)) (by omega)
  have wb := WalkArith.wf_i64 (n := (h : Int)) (by omega)
  have hc : Tryz.prog.cellsOf 257 = 2 := by kernel_rfl
  have hci : Tryz.prog.cellsOf 3 = 1 := by kernel_rfl
  have hkt : Tryz.prog.keyType 257 = true := by kernel_rfl
  have hpos : 0 < Tryz.prog.types.size := Nat.lt_of_le_of_lt (Nat.zero_le _) spotRow
  obtain ⟨m, hm⟩ := Nat.exists_eq_add_of_lt hpos
  unfold keyOf
  simp only [Tryz.underlying257]
  rw [if_pos (by simp [hkt, Value.formed, Tryz.underlying257, hc]), hm]
  unfold Program.keyLits
  simp [Tryz.underlying257, Value.cells, hc, hci, Program.keyLits, Tryz.underlying3, wa, wb, spotKey]
theorem spotKey_inj {s h s' h' : Nat} (hs : s ≤ 1048576) (hh : h ≤ 1048576) (hs' : s' ≤ 1048576) (hh' : h' ≤ 1048576) (e : spotKey s h = spotKey s' h') : s = s' ∧ h = h' := by
  have h1 := keyOf_spot hs hh
  rw [e] at h1
  have h2 := spotKeyed.inj h1 (keyOf_spot hs' hh')
  simp at h2
  omega
theorem zero_boolP (w : World) : (zeroValue 4).run Tryz.prog w = .ok (.bool false) w := by kernel_rfl
def MarkMap (w : World) (M cnt : Nat) (f : Nat → Nat → Bool) : Prop :=
  ∃ D : DataW Unit, w.ownsMap Tryz.prog 257 (plainElem Tryz.prog 4) M cnt D ∧ ∀ s h : Nat, s ≤ 1048576 → h ≤ 1048576 → D.atKey (spotKey s h) (.lit (.bool false)) = .lit (.bool (f s h))
theorem plainElem_bool_invP {P : Program} {e : TypeId} (he : P.underlying e = some .bool) {v : Value} {z : DataW Unit × List MemPlace} (h : plainElem P e v = some z) : ∃ a, v = .bool a ∧ z = (.lit (.bool a), []) := by
  unfold plainElem at h
  rw [he] at h
  cases v <;> simp at h
  exact ⟨_, rfl, h.symm⟩
theorem blit_injP {a b : Bool} (h : (DataW.lit (.bool a) : DataW Unit) = .lit (.bool b)) : a = b := by
  injection h with h
  injection h
theorem MarkMap.made (w : World) : MarkMap (w.alloc (.map #[] 0)) w.heap.size 0 (fun _ _ => false) := ⟨.map [], World.ownsMap_made w _ _ _, fun s h _ _ => by rfl⟩
theorem MarkMap.ext {w w' : World} {M cnt : Nat} {f : Nat → Nat → Bool} (h : MarkMap w M cnt f) (he : Ext w w') : MarkMap w' M cnt f := by
  obtain ⟨D, h1, h2⟩ := h
  exact ⟨D, h1.kept ⟨he.os, he.tape, he.output, he.size, fun k hk _ => Below.block he k hk⟩ (by simp : some M ≠ none), h2⟩
theorem MarkMap.look {w : World} {M cnt : Nat} {f : Nat → Nat → Bool} (h : MarkMap w M cnt f) (s t : Nat) (hs : s ≤ 1048576) (ht : t ≤ 1048576) :
    (Instr.lookup 252 (.map (some M)) (.agg #[.int .i64 (s : Int), .int .i64 (t : Int)]) false).run Tryz.prog w = .ok (.bool (f s t)) w := by
  obtain ⟨D, h1, h2⟩ := h
  obtain ⟨v, ps, hr, hv⟩ := h1.lookup spotKeyed Tryz.underlying252 (zero_boolP w) (plainElem_bool Tryz.underlying4 false) (keyOf_spot hs ht)
  obtain ⟨a, rfl, e⟩ := plainElem_bool_invP Tryz.underlying4 hv
  simp only [Prod.mk.injEq] at e
  have hq := (h2 s t hs ht).symm.trans e.1
  rw [hr, blit_injP hq]
theorem MarkMap.store {w : World} {M cnt : Nat} {f : Nat → Nat → Bool} (h : MarkMap w M cnt f) (s t : Nat) (hs : s ≤ 1048576) (ht : t ≤ 1048576) (hc : cnt ≤ 1048576) (v : Bool) :
    ∃ w', (Instr.mapUpdate 252 (.map (some M)) (.agg #[.int .i64 (s : Int), .int .i64 (t : Int)]) (.bool v)).run Tryz.prog w = .ok () w' ∧ MarkMap w' M (cnt + 1) (fun x y => if x = s ∧ y = t then v else f x y) ∧ w.grownBy w' (some M) := by
  obtain ⟨D, h1, h2⟩ := h
  have hD : IsMap D := by obtain ⟨es, clock, hb, F, hs, rfl⟩ := h1; exact ⟨_, rfl⟩
  obtain ⟨w', hr, ho, hg⟩ := h1.update spotKeyed Tryz.underlying252 (by unfold maxLen; omega) (keyOf_spot hs ht) (plainElem_bool Tryz.underlying4 v)
  refine ⟨w', hr, ⟨_, ho, fun x y hx hy => ?_⟩, hg⟩
  by_cases e : x = s ∧ y = t
  · obtain ⟨rfl, rfl⟩ := e
    rw [atKey_put_same hD (by simp [spotKey, WideAt.IsKeyLit])]
    simp
  · rw [atKey_put_other (fun e' => e (spotKey_inj hx hy hs ht e')), h2 x y hx hy]
    show _ = DataW.lit (.bool (if x = s ∧ y = t then v else f x y))
    rw [if_neg e]
end Go.Proofs.Pet
