/-
  A region that draws its order: operations that float, a forced chain of some, and late ones, which come behind the whole chain and change nothing.
-/
import Derived.Test.YtfglamdbnclcaaaGreatV0
namespace Go.Proofs.Pet
open Go Go.RowKit

def LateOk (P : Program) (ops : Array Oper) (fr : (Nat → Value) → Act) (o : Oper) (y : Nat → Value) (W : World) (v : Value) : Prop :=
  ∀ (x : Nat → Value), DepsE y x (edges o) → ∀ (K : Act → World → Prop) (Q : Exit → Act → World → Prop), K ((fr x).put o.dst v) W → wpList P ops (Exit.then K Q) [o] (fr x) W
def Lates (P : Program) (ops : Array Oper) (tl : List Oper) (fr : (Nat → Value) → Act) (Q : Exit → Act → World → Prop) (ls : List Nat) (W : World) : List Oper → Nat → (Nat → Value) → Prop
  | [], _, y => wpList P ops Q tl (fr y) W
  | o :: l, k, y => if ls.contains k then ∃ v, LateOk P ops fr o y W v ∧ Lates P ops tl fr Q ls W l (k + 1) (upd y k v) else Lates P ops tl fr Q ls W l (k + 1) y
def ChainL (P : Program) (ops : Array Oper) (G : World → Prop) (hd tl : List Oper) (fr : (Nat → Value) → Act) (Q : Exit → Act → World → Prop) (ls : List Nat) : List (Nat × Bool) → (Nat → Value) → World → Prop
  | [], y, W => Lates P ops tl fr Q ls W hd 0 y
  | (k, e) :: ms, y, W => ∀ x, DepsE y x ((hd[k]?.map edges).getD []) → ∀ (K : Act → World → Prop) (Q' : Exit → Act → World → Prop),
      (∀ v W', (e = true → G W') → ChainL P ops G hd tl fr Q ls ms (upd y k v) W' → K ((fr x).put ((hd[k]?.map (·.dst)).getD none) v) W') → wpList P ops (Exit.then K Q') ((hd[k]?.map fun o => [o]).getD []) (fr x) W
def FloatsL (P : Program) (ops : Array Oper) (w : World) (G : World → Prop) (hd tl : List Oper) (fr : (Nat → Value) → Act) (Q : Exit → Act → World → Prop) (ms : List (Nat × Bool)) (rs ls : List Nat) : List Oper → Nat → (Nat → Value) → Prop
  | [], _, y => ∀ W, Ext w W → G W → ChainL P ops G hd tl fr Q ls ms y W
  | o :: l, k, y => if ms.any (fun p => p.1 == k) || ls.contains k then FloatsL P ops w G hd tl fr Q ms rs ls l (k + 1) y else ∃ v, FloatOk P ops G fr (rs.contains k) o y v ∧ FloatsL P ops w G hd tl fr Q ms rs ls l (k + 1) (upd y k v)
/-- all but ms and ls float, those of rs in whatever memory; those of ls come behind all of ms -/
def chainB3 (l : List Oper) (n : Nat) (ms : List (Nat × Bool)) (rs ls : List Nat) : Bool :=
  ((List.range n).all fun k => ms.any (fun p => p.1 == k) || ls.contains k || ((l[k]?.map edges).getD []).all fun e => !(ms.any fun p => p.1 == e.on) && !ls.contains e.on) && chainOrd l ms &&
    (ms.all fun p => decide (p.1 < n) && !ls.contains p.1 && (((l[p.1]?.map edges).getD []).all fun e => !ls.contains e.on) && (p.2 || (List.range n).all fun j => ms.any (fun q => q.1 == j) || rs.contains j || ls.contains j || (anc l p.1).contains j)) &&
    ls.all fun k => ms.all fun p => (anc l k).contains p.1
theorem Lates.split {P : Program} {ops : Array Oper} {tl : List Oper} {fr : (Nat → Value) → Act} {Q : Exit → Act → World → Prop} {ls : List Nat} {W : World} :
    ∀ (l : List Oper) (k : Nat) (y : Nat → Value), (∀ i o, l[i]? = some o → ∀ e ∈ edges o, e.on < k + i) → Lates P ops tl fr Q ls W l k y →
      ∃ z, (∀ j, j < k → z j = y j) ∧ (∀ j, ls.contains j = false → z j = y j) ∧ (∀ i o, l[i]? = some o → ls.contains (k + i) = true → LateOk P ops fr o z W (z (k + i))) ∧ wpList P ops Q tl (fr z) W
  | [], k, y, _, h => ⟨y, fun _ _ => rfl, fun _ _ => rfl, fun i o hi => by simp at hi, h⟩
  | o :: l, k, y, hlow, h => by
    have hlow' : ∀ i o', l[i]? = some o' → ∀ e ∈ edges o', e.on < k + 1 + i := fun i o' hi e he => by
      have := hlow (i + 1) o' (by simpa using hi) e he
      omega
    unfold Lates at h
    by_cases hm : ls.contains k = true
    · rw [if_pos hm] at h
      obtain ⟨v, hv, h⟩ := h
      obtain ⟨z, h1, h0, h2, h3⟩ := Lates.split l (k + 1) _ hlow' h
      have hzk : z k = v := by rw [h1 k (by omega)]; simp [upd]
      refine ⟨z, fun j hj => by rw [h1 j (by omega)]; unfold upd; rw [if_neg (by omega)], fun j hj => ?_, fun i o' hi hf => ?_, h3⟩
      · rw [h0 j hj]; unfold upd; rw [if_neg (fun e => by rw [e, hm] at hj; cases hj)]
      · rcases i with _ | i
        · simp only [List.getElem?_cons_zero, Option.some.injEq] at hi
          subst hi
          rw [Nat.add_zero, hzk]
          intro x hd' K Q' hK
          refine hv x (DepsE.congr (fun e he => ?_) hd') K Q' hK
          have hlt := hlow 0 o rfl e he
          rw [h1 e.on (by omega)]; unfold upd; rw [if_neg (by omega)]
        · rw [show k + (i + 1) = k + 1 + i by omega] at hf ⊢
          exact h2 i o' (by simpa using hi) hf
    · rw [if_neg hm] at h
      obtain ⟨z, h1, h0, h2, h3⟩ := Lates.split l (k + 1) y hlow' h
      refine ⟨z, fun j hj => h1 j (by omega), h0, fun i o' hi hf => ?_, h3⟩
      rcases i with _ | i
      · rw [Nat.add_zero] at hf; exact absurd hf hm
      · rw [show k + (i + 1) = k + 1 + i by omega] at hf ⊢
        exact h2 i o' (by simpa using hi) hf
theorem FloatsL.split {P : Program} {ops : Array Oper} {w : World} {G : World → Prop} {hd tl : List Oper} {fr : (Nat → Value) → Act} {Q : Exit → Act → World → Prop} {ms : List (Nat × Bool)} {rs ls : List Nat} :
    ∀ (l : List Oper) (k : Nat) (y : Nat → Value), (∀ i o, l[i]? = some o → ∀ e ∈ edges o, e.on < k + i) → FloatsL P ops w G hd tl fr Q ms rs ls l k y →
      ∃ z, (∀ j, j < k → z j = y j) ∧ (∀ i o, l[i]? = some o → ms.any (fun p => p.1 == k + i) = false → ls.contains (k + i) = false → FloatOk P ops G fr (rs.contains (k + i)) o z (z (k + i))) ∧ ∀ W, Ext w W → G W → ChainL P ops G hd tl fr Q ls ms z W
  | [], k, y, _, h => ⟨y, fun _ _ => rfl, fun i o hi => by simp at hi, h⟩
  | o :: l, k, y, hlow, h => by
    have hlow' : ∀ i o', l[i]? = some o' → ∀ e ∈ edges o', e.on < k + 1 + i := fun i o' hi e he => by
      have := hlow (i + 1) o' (by simpa using hi) e he
      omega
    unfold FloatsL at h
    by_cases hm : (ms.any (fun p => p.1 == k) || ls.contains k) = true
    · rw [if_pos hm] at h
      obtain ⟨z, h1, h2, h3⟩ := FloatsL.split l (k + 1) y hlow' h
      refine ⟨z, fun j hj => h1 j (by omega), fun i o' hi hf hf2 => ?_, h3⟩
      rcases i with _ | i
      · rw [Nat.add_zero] at hf hf2; rw [hf, hf2] at hm; cases hm
      · rw [show k + (i + 1) = k + 1 + i by omega] at hf hf2 ⊢
        exact h2 i o' (by simpa using hi) hf hf2
    · rw [if_neg hm] at h
      obtain ⟨v, hv, h⟩ := h
      obtain ⟨z, h1, h2, h3⟩ := FloatsL.split l (k + 1) _ hlow' h
      have hzk : z k = v := by rw [h1 k (by omega)]; simp [upd]
      refine ⟨z, fun j hj => by rw [h1 j (by omega)]; unfold upd; rw [if_neg (by omega)], fun i o' hi hf hf2 => ?_, h3⟩
      rcases i with _ | i
      · simp only [List.getElem?_cons_zero, Option.some.injEq] at hi
        subst hi
        rw [Nat.add_zero, hzk]
        intro x W he hd' K Q' hK
        refine hv x W he (DepsE.congr (fun e he => ?_) hd') K Q' hK
        have hlt := hlow 0 o rfl e he
        rw [h1 e.on (by omega)]; unfold upd; rw [if_neg (by omega)]
      · rw [show k + (i + 1) = k + 1 + i by omega] at hf hf2 ⊢
        exact h2 i o' (by simpa using hi) hf hf2
/-- what is known while such a region goes on -/
def ChainSL (P : Program) (ops : Array Oper) (G : World → Prop) (hd tl : List Oper) (fr : (Nat → Value) → Act) (Q : Exit → Act → World → Prop) (ms : List (Nat × Bool)) (rs ls : List Nat) (n : Nat) (z : Nat → Value) (Ld : Nat → Prop) (x : Nat → Value) (W : World) : Prop :=
  (∀ i, i < n → ms.any (fun p => p.1 == i) = false → ls.contains i = false → Ld i → x i = z i) ∧ ∃ pre ms' y, ms = pre ++ ms' ∧ (∀ p ∈ pre, Ld p.1) ∧ (∀ p ∈ ms', ¬ Ld p.1) ∧ (∀ i, ms.any (fun p => p.1 == i) = false → y i = z i) ∧ (∀ p ∈ pre, x p.1 = y p.1) ∧
    (ms' ≠ [] → (∀ i, ls.contains i = true → ¬ Ld i) ∧ ChainL P ops G hd tl fr Q ls ms' y W) ∧
    (ms' = [] → ∃ z2, (∀ j, ls.contains j = false → z2 j = y j) ∧ (∀ i o, hd[i]? = some o → ls.contains i = true → LateOk P ops fr o z2 W (z2 i)) ∧ wpList P ops Q tl (fr z2) W ∧ ∀ i, ls.contains i = true → Ld i → x i = z2 i) ∧
    ((∀ p ∈ pre, p.2 = true) → G W) ∧ ((∀ p ∈ pre, p.2 = true) ∨ ∀ j, j < n → ms.any (fun p => p.1 == j) = false → rs.contains j = false → ls.contains j = false → Ld j)
section
variable {P : Program} {ops : Array Oper} {w : World} {G : World → Prop} {hd tl : List Oper} {fr : (Nat → Value) → Act} {Q : Exit → Act → World → Prop} {ms : List (Nat × Bool)} {rs ls : List Nat} {l : List Oper} {o : Oper} {k : Nat} {y : Nat → Value} {e : Bool} {W : World}
theorem FloatsL.mut (hk : (ms.any (fun p => p.1 == k) || ls.contains k) = true) (h : FloatsL P ops w G hd tl fr Q ms rs ls l (k + 1) y) : FloatsL P ops w G hd tl fr Q ms rs ls (o :: l) k y := by
  unfold FloatsL; rw [if_pos hk]; exact h
theorem FloatsL.float {v : Value} (hk : (ms.any (fun p => p.1 == k) || ls.contains k) = false) (hf : FloatOk P ops G fr (rs.contains k) o y v) (h : FloatsL P ops w G hd tl fr Q ms rs ls l (k + 1) (upd y k v)) : FloatsL P ops w G hd tl fr Q ms rs ls (o :: l) k y := by
  unfold FloatsL; rw [if_neg (by rw [hk]; decide)]; exact ⟨v, hf, h⟩
theorem FloatsL.done (h : ∀ W, Ext w W → G W → ChainL P ops G hd tl fr Q ls ms y W) : FloatsL P ops w G hd tl fr Q ms rs ls [] k y := h
theorem ChainL.cons (o : Oper) (ho : hd[k]? = some o) (h : ∀ x, DepsE y x (edges o) → ∀ (K : Act → World → Prop) (Q' : Exit → Act → World → Prop),
      (∀ v W', (e = true → G W') → ChainL P ops G hd tl fr Q ls ms (upd y k v) W' → K ((fr x).put o.dst v) W') → wpList P ops (Exit.then K Q') [o] (fr x) W) : ChainL P ops G hd tl fr Q ls ((k, e) :: ms) y W := by
  unfold ChainL; rw [ho]; exact h
theorem ChainL.nil (h : Lates P ops tl fr Q ls W hd 0 y) : ChainL P ops G hd tl fr Q ls [] y W := h
theorem Lates.skip (hk : ls.contains k = false) (h : Lates P ops tl fr Q ls W l (k + 1) y) : Lates P ops tl fr Q ls W (o :: l) k y := by
  unfold Lates; rw [if_neg (by rw [hk]; decide)]; exact h
theorem Lates.late {v : Value} (hk : ls.contains k = true) (hf : LateOk P ops fr o y W v) (h : Lates P ops tl fr Q ls W l (k + 1) (upd y k v)) : Lates P ops tl fr Q ls W (o :: l) k y := by
  unfold Lates; rw [if_pos hk]; exact ⟨v, hf, h⟩
theorem Lates.done (h : wpList P ops Q tl (fr y) W) : Lates P ops tl fr Q ls W [] k y := h
end
theorem wp_region_chainLG {P : Program} {id : Nat} {Q : Exit → Act → World → Prop} {a : Act} {w : World} {l : List Oper} (G : World → Prop) (hG : G w.drew) (n : Nat) (ms : List (Nat × Bool)) (rs ls : List Nat) (hm : P.follows .mixedOrders = true) (hB : headB2 l n = true) (hC : chainB3 l n ms rs ls = true)
    (h : FloatsL P l.toArray w G (l.take n) (l.drop n) (fun x => fill (l.take n) 0 x a) Q ms rs ls (l.take n) 0 (fun _ => undef)) :
    (Code.region id l.toArray true).wp P Q a w := by
  have hB' := hB
  simp only [headB2, Bool.and_eq_true, decide_eq_true_eq, Bool.or_eq_true, List.all_eq_true, List.mem_range] at hB'
  obtain ⟨⟨⟨⟨hn, hdist⟩, _⟩, _⟩, hlow⟩ := hB'
  have hlow2 : ∀ i o, (l.take n)[i]? = some o → ∀ e ∈ edges o, e.on < 0 + i := fun i o hi e he => by
    have hin : i < n := by have := (List.getElem?_eq_some_iff.1 hi).1; simp at this; omega
    have ho : l[i]? = some o := by rw [List.getElem?_take] at hi; simpa [hin] using hi
    have h1 := hlow i hin
    rw [ho] at h1
    obtain ⟨he, hbe⟩ := List.mem_filter.1 he
    have h2 := Array.all_eq_true'.1 h1 e (by simpa using he)
    simp only [hbe, Bool.not_true, Bool.false_or, decide_eq_true_eq] at h2
    omega
  obtain ⟨z, _, hfl, hch⟩ := FloatsL.split (l.take n) 0 _ hlow2 h
  simp only [chainB3, Bool.and_eq_true, List.all_eq_true, List.mem_range] at hC
  obtain ⟨⟨⟨hc1, hc2⟩, hc3⟩, hc4⟩ := hC
  have late : ∀ (y : Nat → Value) (W : World), ChainL P l.toArray G (l.take n) (l.drop n) (fun x => fill (l.take n) 0 x a) Q ls [] y W → ∃ z2, (∀ j, ls.contains j = false → z2 j = y j) ∧ (∀ i o, (l.take n)[i]? = some o → ls.contains i = true → LateOk P l.toArray (fun x => fill (l.take n) 0 x a) o z2 W (z2 i)) ∧ wpList P l.toArray Q (l.drop n) (fill (l.take n) 0 z2 a) W := fun y W h => by
    unfold ChainL at h
    obtain ⟨z2, _, h1, h2, h3⟩ := Lates.split (l.take n) 0 y hlow2 h
    exact ⟨z2, h1, fun i o hi hl => by have := h2 i o hi (by rw [Nat.zero_add]; exact hl); rwa [Nat.zero_add] at this, h3⟩
  refine wp_region_stage n hm hB (ChainSL P l.toArray G (l.take n) (l.drop n) (fun x => fill (l.take n) 0 x a) Q ms rs ls n z) (fun _ _ => True)
    (fun x => ⟨fun i _ _ _ h => h.elim, [], ms, z, rfl, fun p hp => by simp at hp, fun p _ h => h, fun _ _ => rfl, fun p hp => by simp at hp, fun _ => ⟨fun _ _ h => h, hch _ (Ext.drew w) hG⟩, fun he => ?_, fun _ => hG, .inl fun p hp => by simp at hp⟩) ?_ ?_
  · subst he
    obtain ⟨z2, h1, h2, h3⟩ := late z _ (hch _ (Ext.drew w) hG)
    exact ⟨z2, h1, h2, h3, fun i _ h => h.elim⟩
  · refine allOps3_mk (l.take n) 0 fun i o hi Ld x W hS hcl hnl hdl _ K Q' hK => ?_
    rw [Nat.zero_add] at hnl hK
    have hin : i < n := by have := (List.getElem?_eq_some_iff.1 hi).1; simp at this; omega
    have ho : l[i]? = some o := by rw [List.getElem?_take] at hi; simpa [hin] using hi
    obtain ⟨hxf, pre, ms', y, hms, hpre, hsuf, hyz, hxy, hchn, hlt2, hext, hrd⟩ := hS
    have hanc : ∀ j, (anc l i).contains j = true → Ld j := fun j hj => by
      unfold anc at hj
      rw [ho] at hj
      refine closeB_ok (l := l) (n := n) hcl (by omega) ?_ j hj
      intro j hj
      simp only [Option.map_some, Option.getD_some, List.mem_map] at hj
      obtain ⟨e, he, rfl⟩ := hj
      exact depsL_mem hdl e he
    by_cases hmi : ms.any (fun p => p.1 == i) = true
    · -- an operation of the chain
      obtain ⟨⟨i', e⟩, hp, hpi⟩ := List.any_eq_true.1 hmi
      simp only [beq_iff_eq] at hpi
      subst hpi
      have hps : (i', e) ∈ ms' := by
        rw [hms] at hp
        rcases List.mem_append.1 hp with h1 | h1
        · exact absurd (hpre _ h1) hnl
        · exact h1
      have hc3i := hc3 (i', e) hp
      simp only [decide_eq_true_eq, Bool.not_eq_true'] at hc3i
      obtain ⟨⟨⟨_, hli⟩, hle⟩, hc3j⟩ := hc3i
      obtain ⟨⟨k0, e0⟩, r, rfl⟩ : ∃ p r, ms' = p :: r := by cases ms' with | nil => simp at hps | cons p r => exact ⟨p, r, rfl⟩
      obtain ⟨hnol, hchn⟩ := hchn (by simp)
      have hk0 : (i', e) = (k0, e0) := by
        rcases List.mem_cons.1 hps with h1 | h1
        · exact h1
        · exfalso
          obtain ⟨p, hp1, hp2⟩ := chainOrd_pred (chainOrd_suffix pre (hms ▸ hc2)) h1
          exact hsuf p hp1 (hanc _ hp2)
      simp only [Prod.mk.injEq] at hk0
      obtain ⟨rfl, rfl⟩ := hk0
      have hdeps : DepsE y x ((((l.take n)[i']?).map edges).getD []) := by
        rw [hi]
        refine depsE_mk fun e' he' => ?_
        have hld := depsL_mem hdl e' he'
        have hle' : ls.contains e'.on = false := hle e' (by rw [ho]; exact he')
        by_cases hmj : ms.any (fun p => p.1 == e'.on) = true
        · obtain ⟨p, hpm, hpe⟩ := List.any_eq_true.1 hmj
          simp only [beq_iff_eq] at hpe
          rw [hms] at hpm
          rcases List.mem_append.1 hpm with h1 | h1
          · rw [← hpe]; exact hxy p h1
          · exact absurd (hpe ▸ hld) (hsuf p h1)
        · have hmj' : ms.any (fun p => p.1 == e'.on) = false := Bool.eq_false_iff.2 hmj
          have hlt : e'.on < n := by have := hlow2 i' o hi e' he'; omega
          rw [hyz _ hmj', hxf _ hlt hmj' hle' hld]
      have hrun := hchn x hdeps K Q'
      rw [hi] at hrun
      simp only [Option.map_some, Option.getD_some] at hrun
      refine hrun fun v W' hev hrest => hK v W' trivial ?_
      have hnd : ∀ p ∈ r, p.1 ≠ i' := fun p hp hpe => by
        obtain ⟨q, hq1, hq2⟩ := chainOrd_pred (chainOrd_suffix pre (hms ▸ hc2)) hp
        have : (anc l i').contains q.1 = true := hpe ▸ hq2
        exact hsuf q hq1 (hanc _ this)
      refine ⟨fun j hj hmj hlj hl => ?_, pre ++ [(i', e)], r, upd y i' v, by simp [hms], ?_, ?_, ?_, ?_, fun _ => ⟨fun j hj hl => ?_, hrest⟩, fun hr => ?_, ?_, ?_⟩
      · have hji : j ≠ i' := fun h => by subst h; rw [hmj] at hmi; cases hmi
        unfold upd; rw [if_neg hji]
        exact hxf j hj hmj hlj (hl.resolve_right hji)
      · intro p hp
        rcases List.mem_append.1 hp with h1 | h1
        · exact .inl (hpre p h1)
        · rw [List.mem_singleton] at h1; subst h1; exact .inr rfl
      · intro p hp h1
        exact h1.elim (hsuf p (by simp [hp])) (hnd p hp)
      · intro j hmj
        have hji : j ≠ i' := fun h => by subst h; rw [hmj] at hmi; cases hmi
        unfold upd; rw [if_neg hji]; exact hyz j hmj
      · intro p hp
        rcases List.mem_append.1 hp with h1 | h1
        · have hpi : p.1 ≠ i' := fun h => hnl (h ▸ hpre p h1)
          unfold upd; rw [if_neg hpi, if_neg hpi]; exact hxy p h1
        · rw [List.mem_singleton] at h1; subst h1; simp [upd]
      · rcases hl with hl | hl
        · exact hnol j hj hl
        · subst hl; rw [hli] at hj; cases hj
      · subst hr
        obtain ⟨z2, h1, h2, h3⟩ := late _ _ hrest
        refine ⟨z2, h1, h2, h3, fun j hj hl => ?_⟩
        rcases hl with hl | hl
        · exact absurd hl (hnol j hj)
        · subst hl; rw [hli] at hj; cases hj
      · intro hall
        exact hev (hall (i', e) (by simp))
      · cases e with
        | true =>
          rcases hrd with h1 | h1
          · refine .inl fun p hp => ?_
            rcases List.mem_append.1 hp with h2 | h2
            · exact h1 p h2
            · rw [List.mem_singleton] at h2; subst h2; rfl
          · exact .inr fun j hj hmj hrj hlj => .inl (h1 j hj hmj hrj hlj)
        | false =>
          refine .inr fun j hj hmj hrj hlj => .inl ?_
          simp only [Bool.false_or, List.all_eq_true, List.mem_range] at hc3j
          have h5 := hc3j j hj
          rw [hmj, hrj, hlj] at h5
          exact hanc j (by simpa using h5)
    have hmi' : ms.any (fun p => p.1 == i) = false := Bool.eq_false_iff.2 hmi
    by_cases hli : ls.contains i = true
    · -- a late one
      have hnil : ms' = [] := by
        cases ms' with
        | nil => rfl
        | cons p r =>
          have h4 := hc4 i (by simpa using hli) p (hms ▸ by simp)
          exact absurd (hanc _ h4) (hsuf p (by simp))
      subst hnil
      obtain ⟨z2, hz1, hz2, hz3, hz4⟩ := hlt2 rfl
      refine hz2 i o hi hli x (depsE_mk fun e he => ?_) K Q' (hK (z2 i) W trivial ⟨fun j hj hmj hlj hl => ?_, pre, [], y, hms, fun p hp => .inl (hpre p hp), fun p hp => by simp at hp, hyz, fun p hp => ?_, fun h => absurd rfl h, fun _ => ⟨z2, hz1, hz2, hz3, fun j hj hl => ?_⟩, hext, hrd.imp (fun h => h) fun h1 j hj hmj hrj hlj => .inl (h1 j hj hmj hrj hlj)⟩)
      · have hlt : e.on < n := by have := hlow2 i o hi e he; omega
        have hld := depsL_mem hdl e he
        by_cases hmj : ms.any (fun p => p.1 == e.on) = true
        · obtain ⟨p, hpm, hpe⟩ := List.any_eq_true.1 hmj
          simp only [beq_iff_eq] at hpe
          have hp3 := hc3 p hpm
          simp only [decide_eq_true_eq, Bool.not_eq_true'] at hp3
          rw [hms, List.append_nil] at hpm
          rw [← hpe, hz1 _ hp3.1.1.2]; exact hxy p hpm
        · have hmj' : ms.any (fun p => p.1 == e.on) = false := Bool.eq_false_iff.2 hmj
          by_cases hlj : ls.contains e.on = true
          · exact hz4 _ hlj hld
          · have hlj' : ls.contains e.on = false := Bool.eq_false_iff.2 hlj
            rw [hz1 _ hlj', hyz _ hmj', hxf _ hlt hmj' hlj' hld]
      · have hji : j ≠ i := fun h => by subst h; rw [hlj] at hli; cases hli
        unfold upd; rw [if_neg hji]; exact hxf j hj hmj hlj (hl.resolve_right hji)
      · have hpi : p.1 ≠ i := fun h2 => by
          have : ms.any (fun q => q.1 == i) = true := List.any_eq_true.2 ⟨p, hms ▸ by simp [hp], by simp [h2]⟩
          rw [hmi'] at this; cases this
        unfold upd; rw [if_neg hpi]; exact hxy p hp
      · by_cases hji : j = i
        · subst hji; simp [upd]
        · unfold upd; rw [if_neg hji]; exact hz4 j hj (hl.resolve_right hji)
    · -- a floating one
      have hli' : ls.contains i = false := Bool.eq_false_iff.2 hli
      have hf := hfl i o hi (by rw [Nat.zero_add]; exact hmi') (by rw [Nat.zero_add]; exact hli')
      rw [Nat.zero_add] at hf
      refine hf x W (fun hr => ?_) (depsE_mk fun e he => ?_) K Q' (hK (z i) W trivial ⟨fun j hj hmj hlj hl => ?_, pre, ms', y, hms, fun p hp => .inl (hpre p hp), fun p hp h1 => ?_, hyz, fun p hp => ?_, fun hne => ⟨fun j hj hl => ?_, (hchn hne).2⟩, fun he => ?_, hext, hrd.imp (fun h => h) fun h1 j hj hmj hrj hlj => .inl (h1 j hj hmj hrj hlj)⟩)
      · rcases hrd with h1 | h1
        · exact hext h1
        · exact absurd (h1 i hin hmi' hr hli') hnl
      · have hlt : e.on < n := by have := hlow2 i o hi e he; omega
        have h4 := hc1 i hin
        rw [hmi', hli', ho] at h4
        simp only [Bool.false_or, List.all_eq_true] at h4
        have h5 := h4 e he
        simp only [Bool.and_eq_true, Bool.not_eq_true'] at h5
        exact hxf _ hlt h5.1 h5.2 (depsL_mem hdl e he)
      · by_cases hji : j = i
        · subst hji; simp [upd]
        · unfold upd; rw [if_neg hji]; exact hxf j hj hmj hlj (hl.resolve_right hji)
      · refine h1.elim (hsuf p hp) fun h2 => ?_
        have : ms.any (fun q => q.1 == i) = true := List.any_eq_true.2 ⟨p, hms ▸ by simp [hp], by simp [h2]⟩
        rw [hmi'] at this; cases this
      · have hpi : p.1 ≠ i := fun h2 => by
          have : ms.any (fun q => q.1 == i) = true := List.any_eq_true.2 ⟨p, hms ▸ by simp [hp], by simp [h2]⟩
          rw [hmi'] at this; cases this
        unfold upd; rw [if_neg hpi]; exact hxy p hp
      · rcases hl with hl | hl
        · exact (hchn hne).1 j hj hl
        · subst hl; rw [hli'] at hj; cases hj
      · obtain ⟨z2, hz1, hz2, hz3, hz4⟩ := hlt2 he
        refine ⟨z2, hz1, hz2, hz3, fun j hj hl => ?_⟩
        have hji : j ≠ i := fun h => by subst h; rw [hli'] at hj; cases hj
        unfold upd; rw [if_neg hji]; exact hz4 j hj (hl.resolve_right hji)
  · intro x W hS _
    obtain ⟨hxf, pre, ms', y, hms, hpre, hsuf, hyz, hxy, hchn, hlt2, _, _⟩ := hS
    have hnil : ms' = [] := by
      cases ms' with
      | nil => rfl
      | cons p r =>
        have h4 := hc3 p (hms ▸ by simp)
        simp only [decide_eq_true_eq] at h4
        exact absurd h4.1.1.1 (hsuf p (by simp))
    subst hnil
    obtain ⟨z2, hz1, hz2, hz3, hz4⟩ := hlt2 rfl
    rw [List.append_nil] at hms
    subst hms
    have hxy' : ∀ j, j < n → x j = z2 j := fun j hj => by
      by_cases hlj : ls.contains j = true
      · exact hz4 j hlj hj
      have hlj' : ls.contains j = false := Bool.eq_false_iff.2 hlj
      rw [hz1 j hlj']
      by_cases hmj : ms.any (fun p => p.1 == j) = true
      · obtain ⟨p, hpm, hpe⟩ := List.any_eq_true.1 hmj
        simp only [beq_iff_eq] at hpe
        rw [← hpe]; exact hxy p hpm
      · have hmj' : ms.any (fun p => p.1 == j) = false := Bool.eq_false_iff.2 hmj
        rw [hyz _ hmj']; exact hxf j hj hmj' hlj' hj
    rw [fill_congr' (l.take n) 0 x z2 a fun j _ hj => hxy' j (by simp at hj; omega)]
    exact hz3
theorem wp_region_chainL {P : Program} {id : Nat} {Q : Exit → Act → World → Prop} {a : Act} {w : World} {l : List Oper} (n : Nat) (ms : List (Nat × Bool)) (rs ls : List Nat) (hm : P.follows .mixedOrders = true) (hB : headB2 l n = true) (hC : chainB3 l n ms rs ls = true)
    (h : FloatsL P l.toArray w (Ext w) (l.take n) (l.drop n) (fun x => fill (l.take n) 0 x a) Q ms rs ls (l.take n) 0 (fun _ => undef)) :
    (Code.region id l.toArray true).wp P Q a w := wp_region_chainLG (Ext w) (Ext.drew w) n ms rs ls hm hB hC h
end Go.Proofs.Pet
