/-
  A mill whose orders are some of another one's: its plans are those of the other one that have just these orders. No program is named here.
  What LoomLate says of a mill without some orders. No program is named here.
-/
import Derived.Test.YtknokjnplbdmeaaR2
import Derived.Test.YtknokjnplbdmeaaT5
namespace Go.Proofs.Pet
open Go

theorem nodup_of_map {f : Nat → Nat} {l : List Nat} (h : (l.map f).Nodup) : l.Nodup := by
  rw [List.nodup_iff_pairwise_ne, List.pairwise_map] at h
  exact List.nodup_iff_pairwise_ne.2 (h.imp fun hne e => hne (by rw [e]))
/-- order j of p is order f j of m -/
structure Emb (p m : Mill) (f : Nat → Nat) : Prop where
  laced : p.laced = m.laced
  change : p.change = m.change
  lt : ∀ j, j < p.orders.length → f j < m.orders.length
  same : ∀ j, j < p.orders.length → (m.orders[f j]?.getD default) = (p.orders[j]?.getD default)
  inj : ∀ a b, a < p.orders.length → b < p.orders.length → f a = f b → a = b
theorem Emb.last {p m : Mill} {f : Nat → Nat} (h : Emb p m f) (l : Nat) : ∀ r, (∀ j, j ∈ r → j < p.orders.length) → lastPat m l (r.map f) = lastPat p l r
  | [], _ => by simp [lastPat, h.laced]
  | k :: _, hr => by
    show m.pat (f k) = p.pat k
    unfold Mill.pat; rw [h.same k (hr k (by simp))]
theorem Emb.ch {p m : Mill} {f : Nat → Nat} (h : Emb p m f) (l : Nat) : ∀ r, (∀ j, j ∈ r → j < p.orders.length) → chR m l (r.map f) = chR p l r
  | [], _ => rfl
  | k :: r, hr => by
    have hr' : ∀ j, j ∈ r → j < p.orders.length := fun j hj => hr j (by simp [hj])
    have e : m.pat (f k) = p.pat k := by unfold Mill.pat; rw [h.same k (hr k (by simp))]
    rw [List.map_cons, chR, chR, h.ch l r hr', h.last l r hr', e]
theorem Emb.sd {p m : Mill} {f : Nat → Nat} (h : Emb p m f) : ∀ r, (∀ j, j ∈ r → j < p.orders.length) → sdR m (r.map f) = sdR p r
  | [], _ => rfl
  | k :: r, hr => by
    have e : m.dys (f k) = p.dys k := by unfold Mill.dys; rw [h.same k (hr k (by simp))]
    rw [List.map_cons, sdR, sdR, h.sd r (fun j hj => hr j (by simp [hj])), e]
theorem Emb.dy {p m : Mill} {f : Nat → Nat} (h : Emb p m f) (l : Nat) (r : List Nat) (hr : ∀ j, j ∈ r → j < p.orders.length) : dyR m l (r.map f) = dyR p l r := by
  rw [dyR_eq, dyR_eq, h.sd r hr, h.ch l r hr, h.change]
theorem Emb.tm {p m : Mill} {f : Nat → Nat} (h : Emb p m f) (l : Nat) : ∀ r, (∀ j, j ∈ r → j < p.orders.length) → tmR m l (r.map f) = tmR p l r
  | [], _ => rfl
  | k :: r, hr => by
    have hd := h.dy l (k :: r) hr
    rw [List.map_cons] at hd ⊢
    have e : m.byy (f k) = p.byy k := by unfold Mill.byy; rw [h.same k (hr k (by simp))]
    rw [tmR, tmR, h.tm l r (fun j hj => hr j (by simp [hj])), hd, e]
theorem Emb.wv {p m : Mill} {f : Nat → Nat} (h : Emb p m f) (l j : Nat) (hj : j < p.orders.length) : m.weaves l (f j) = p.weaves l j := by
  unfold Mill.weaves; rw [h.same j hj]
theorem Emb.morph {p m : Mill} {f : Nat → Nat} (h : Emb p m f) : Morph p m id f :=
  ⟨by rw [h.laced], by simp, h.inj, h.lt, fun i _ j hj hw => by rw [h.wv i j hj]; exact hw, fun i _ r hr => h.ch i r hr, fun i _ r hr ht => by rw [h.tm i r hr]; exact ht⟩
/-- a plan of p is one of m -/
theorem Emb.up {p m : Mill} {f : Nat → Nat} (h : Emb p m f) {S : Nat → Prop} {R : Nat → List Nat} (hR : PlanOf p S R) : PlanOf m (fun k => ∃ j, S j ∧ f j = k) (fun i => (R i).map f) ∧ totC m (fun i => (R i).map f) m.laced.length = totC p R p.laced.length :=
  hR.map h.morph
/-- a plan of m that has p's orders alone is one of p -/
theorem Emb.down {p m : Mill} {f : Nat → Nat} (h : Emb p m f) {T : Nat → Prop} {R : Nat → List Nat} (hR : PlanOf m T R) (hT : ∀ k, T k → ∃ j, j < p.orders.length ∧ f j = k) :
    ∃ R', PlanOf p (fun j => j < p.orders.length ∧ T (f j)) R' ∧ totC p R' p.laced.length = totC m R m.laced.length := by
  have hg : ∃ g : Nat → Nat, ∀ j, j < p.orders.length → g (f j) = j := by
    refine ⟨fun k => if hk : ∃ j, j < p.orders.length ∧ f j = k then hk.choose else 0, fun j hj => ?_⟩
    have hk : ∃ i, i < p.orders.length ∧ f i = f j := ⟨j, hj, rfl⟩
    simp only [dif_pos hk]
    exact h.inj _ _ hk.choose_spec.1 hj hk.choose_spec.2
  obtain ⟨g, hg⟩ := hg
  have hL : p.laced.length = m.laced.length := by rw [h.laced]
  have hmem : ∀ i, i < m.laced.length → ∀ k, k ∈ R i → g k < p.orders.length ∧ f (g k) = k := fun i hi k hk => by
    obtain ⟨j, hj, rfl⟩ := hT k ((hR.all k).2 ⟨i, hi, hk⟩)
    rw [hg j hj]; exact ⟨hj, rfl⟩
  have hmap : ∀ i, i < m.laced.length → ((R i).map g).map f = R i := fun i hi => by
    rw [List.map_map]
    conv => rhs; rw [← List.map_id (R i)]
    exact List.map_congr_left fun k hk => (hmem i hi k hk).2
  have hlt : ∀ i, i < m.laced.length → ∀ j, j ∈ (R i).map g → j < p.orders.length := fun i hi j hj => by
    obtain ⟨k, hk, rfl⟩ := List.mem_map.1 hj
    exact (hmem i hi k hk).1
  refine ⟨fun i => (R i).map g, ⟨fun i hi => ?_, fun i hi j hj => ?_, fun i hi => ?_, fun j => ?_, fun i i' j hi hi' g1 g2 => ?_⟩, ?_⟩
  · rw [hL] at hi
    have := hR.nodup i hi
    rw [← hmap i hi] at this
    exact nodup_of_map this
  · rw [hL] at hi
    have h1 := hlt i hi j hj
    obtain ⟨k, hk, rfl⟩ := List.mem_map.1 hj
    refine ⟨h1, ?_⟩
    rw [← h.wv i (g k) h1, (hmem i hi k hk).2]
    exact (hR.mem i hi k hk).2
  · rw [hL] at hi
    rw [← h.tm i _ (hlt i hi), hmap i hi]
    exact hR.tm i hi
  · constructor
    · rintro ⟨hj, ht⟩
      obtain ⟨i, hi, hk⟩ := (hR.all (f j)).1 ht
      exact ⟨i, by rw [hL]; exact hi, List.mem_map.2 ⟨f j, hk, hg j hj⟩⟩
    · rintro ⟨i, hi, hj⟩
      rw [hL] at hi
      refine ⟨hlt i hi j hj, ?_⟩
      obtain ⟨k, hk, rfl⟩ := List.mem_map.1 hj
      rw [(hmem i hi k hk).2]
      exact (hR.all k).2 ⟨i, hi, hk⟩
  · rw [hL] at hi hi'
    obtain ⟨k, hk, rfl⟩ := List.mem_map.1 g1
    obtain ⟨k', hk', e⟩ := List.mem_map.1 g2
    have : k' = k := by rw [← (hmem i' hi' k' hk').2, e, (hmem i hi k hk).2]
    subst this
    exact hR.once i i' k' hi hi' hk hk'
  · rw [hL]
    have : ∀ n, n ≤ m.laced.length → totC p (fun i => (R i).map g) n = totC m R n := fun n => by
      induction n with
      | zero => intro _; rfl
      | succ n ih =>
        intro hn
        rw [totC, totC, ih (by omega), ← h.ch n _ (hlt n (by omega)), hmap n (by omega)]
    exact this _ (Nat.le_refl _)
/-- which orders of m can be woven together, said by a mill that has just these -/
theorem Emb.feas {p m : Mill} {f : Nat → Nat} (h : Emb p m f) {off : Nat} (ho : ∀ k, k < m.orders.length → (off.testBit k = false ↔ ∃ j, j < p.orders.length ∧ f j = k)) : Feas p 0 ↔ Feas m off := by
  constructor
  · rintro ⟨R, hR⟩
    have h1 := (h.up hR).1
    refine ⟨_, h1.nodup, h1.mem, h1.tm, fun k => ?_, h1.once⟩
    rw [← h1.all k]
    constructor
    · rintro ⟨hk, hb⟩
      obtain ⟨j, hj, rfl⟩ := (ho k hk).1 hb
      exact ⟨j, ⟨hj, by simp⟩, rfl⟩
    · rintro ⟨j, ⟨hj, _⟩, rfl⟩
      exact ⟨h.lt j hj, (ho _ (h.lt j hj)).2 ⟨j, hj, rfl⟩⟩
  · rintro ⟨R, hR⟩
    obtain ⟨R', h1, _⟩ := h.down hR (fun k hk => (ho k hk.1).1 hk.2)
    refine ⟨R', h1.nodup, h1.mem, h1.tm, fun j => ?_, h1.once⟩
    rw [← h1.all j]
    constructor
    · rintro ⟨hj, _⟩
      exact ⟨hj, h.lt j hj, (ho _ (h.lt j hj)).2 ⟨j, hj, rfl⟩⟩
    · rintro ⟨hj, _⟩
      exact ⟨hj, by simp⟩
/-- a mill with fewer orders needs no more changes -/
theorem Emb.few {p m : Mill} {f : Nat → Nat} (h : Emb p m f) (hok : MillOk m) (hp : checkE p = 0) (hm : checkE m = 0) (hF : Feas m 0) : Feas p 0 ∧ fewR p (2 ^ p.orders.length - 1) ≤ fewR m (2 ^ m.orders.length - 1) := by
  obtain ⟨R, hR, ht⟩ := few_feas hm hF
  obtain ⟨h1, h2⟩ := hR.filter hok (fun k => decide (∃ j, j < p.orders.length ∧ f j = k))
  obtain ⟨R', h3, h4⟩ := h.down h1 (fun k hk => by simpa using hk.2)
  have h5 : PlanOf p (fun j => j < p.orders.length) R' := ⟨h3.nodup, h3.mem, h3.tm, fun j => by
    rw [← h3.all j]
    exact ⟨fun hj => ⟨hj, h.lt j hj, by simp only [decide_eq_true_eq]; exact ⟨j, hj, rfl⟩⟩, fun hj => hj.1⟩, h3.once⟩
  have h6 := few_le hp h5
  refine ⟨⟨R', h3.nodup, h3.mem, h3.tm, fun j => ?_, h3.once⟩, by omega⟩
  rw [← h5.all j]; simp
/-- a mill with one order more -/
def Mill.more (m : Mill) (o : Ord) : Mill := ⟨m.laced, m.change, m.orders ++ [o]⟩
theorem more_emb (m : Mill) (o : Ord) : Emb m (m.more o) id := by
  refine ⟨rfl, rfl, fun j hj => ?_, fun j hj => ?_, fun _ _ _ _ e => e⟩
  · show j < (m.orders ++ [o]).length
    rw [List.length_append]; simp; omega
  · show ((m.orders ++ [o])[j]?.getD default) = _
    rw [List.getElem?_append_left hj]
theorem more_ok {m : Mill} (h : MillOk m) {o : Ord} (ho : OrdOk m.laced.length o) (hn : m.orders.length < 7) : MillOk (m.more o) := by
  refine ⟨h.looms, ?_, h.laced, h.change, fun x hx => ?_⟩
  · show (m.orders ++ [o]).length ≤ 7
    rw [List.length_append]; simp; omega
  · rcases List.mem_append.1 hx with h1 | h1
    · exact h.ords x h1
    · rw [List.mem_singleton] at h1
      subst h1; exact ho
theorem more_len (m : Mill) (o : Ord) : (m.more o).orders.length = m.orders.length + 1 := by
  show (m.orders ++ [o]).length = _
  simp
theorem bits_filter {n n' s s' : Nat} (hn : n ≤ n') (h : ∀ k, k < n → s.testBit k = true → s'.testBit k = true) : (bits n s).length ≤ (bits n' s').length := by
  unfold bits
  rw [← List.countP_eq_length_filter, ← List.countP_eq_length_filter, List.range_eq_range' (n := n'), show n' = n + (n' - n) by omega, ← List.range'_append_1, List.countP_append, ← List.range_eq_range']
  have := List.countP_mono_left (p := fun k => s.testBit k) (q := fun k => s'.testBit k) (l := List.range n) fun k hk hb => h k (List.mem_range.1 hk) hb
  omega
theorem lateL_len {m : Mill} {off : Nat} (h : lateL m = intsOf (bits m.orders.length off)) : (lateL m).length = (bits m.orders.length off).length := by rw [h]; unfold intsOf; simp
/-- one order more: as many late, or one more -/
theorem more_late {m : Mill} {o : Ord} (hok : MillOk m) (hok' : MillOk (m.more o)) : (lateL m).length ≤ (lateL (m.more o)).length ∧ (lateL (m.more o)).length ≤ (lateL m).length + 1 := by
  have hm := (check_iff m).2 hok
  have hu := (check_iff _).2 hok'
  have hE := more_emb m o
  have hlen := more_len m o
  have hlc : (m.more o).laced.length = m.laced.length := rfl
  constructor
  · obtain ⟨off', h1, ⟨R, hR⟩, h3⟩ := late_feas hu
    rw [lateL_len h3]
    obtain ⟨g1, _⟩ := hR.filter hok' (fun k => decide (k < m.orders.length))
    obtain ⟨R', g3, _⟩ := hE.down g1 (fun k hk => ⟨k, by simpa using hk.2, rfl⟩)
    have hf : Feas m (setN (bits m.orders.length off')) := by
      refine ⟨R', g3.nodup, g3.mem, g3.tm, fun j => ?_, g3.once⟩
      rw [← g3.all j]
      simp only [id_eq, decide_eq_true_eq, hlen]
      constructor
      · rintro ⟨hj, hb⟩
        refine ⟨hj, ⟨by omega, ?_⟩, hj⟩
        rw [Bool.eq_false_iff] at hb ⊢
        intro e
        exact hb (setN_mem.2 (mem_bits.2 ⟨hj, e⟩))
      · rintro ⟨hj, ⟨_, hb⟩, _⟩
        refine ⟨hj, ?_⟩
        rw [Bool.eq_false_iff] at hb ⊢
        intro e
        exact hb (mem_bits.1 (setN_mem.1 e)).2
    have h4 := late_len hm (setN_lt fun j hj => (mem_bits.1 hj).1) hf
    refine Nat.le_trans h4 (bits_filter (by omega) fun k hk hb => (mem_bits.1 (setN_mem.1 hb)).2)
  · obtain ⟨off, h1, ⟨R, hR⟩, h3⟩ := late_feas hm
    rw [lateL_len h3]
    obtain ⟨g1, _⟩ := hE.up hR
    have hb1 : ∀ j, j < m.orders.length → (2 ^ m.orders.length + off).testBit j = off.testBit j := fun j hj => Nat.testBit_two_pow_add_gt hj off
    have hb2 : (2 ^ m.orders.length + off).testBit m.orders.length = true := by
      rw [Nat.testBit_two_pow_add_eq, Nat.testBit_lt_two_pow h1]; rfl
    have hf : Feas (m.more o) (2 ^ m.orders.length + off) := by
      refine ⟨_, g1.nodup, g1.mem, g1.tm, fun k => ?_, g1.once⟩
      rw [← g1.all k, hlen]
      constructor
      · rintro ⟨hk, hb⟩
        rcases Nat.lt_or_ge k m.orders.length with h5 | h5
        · exact ⟨k, ⟨h5, by rw [← hb1 k h5]; exact hb⟩, rfl⟩
        · obtain rfl : k = m.orders.length := by omega
          rw [hb2] at hb; cases hb
      · rintro ⟨j, ⟨hj, hb⟩, rfl⟩
        exact ⟨by show j < _; omega, by show (2 ^ m.orders.length + off).testBit j = false; rw [hb1 j hj]; exact hb⟩
    have h4 := late_len hu (off := 2 ^ m.orders.length + off) (by rw [hlen, Nat.pow_succ]; omega) hf
    refine Nat.le_trans h4 ?_
    rw [hlen]
    unfold bits
    rw [List.range_succ, List.filter_append, List.length_append]
    have e1 : (List.range m.orders.length).filter (fun k => (2 ^ m.orders.length + off).testBit k) = (List.range m.orders.length).filter (fun k => off.testBit k) :=
      List.filter_congr fun k hk => hb1 k (List.mem_range.1 hk)
    rw [e1]
    have : ([m.orders.length].filter fun k => (2 ^ m.orders.length + off).testBit k).length ≤ 1 := by
      exact List.length_filter_le _ _
    omega
end Go.Proofs.Pet

namespace Go.Proofs.Pet
open Go Go.RowKit Go.Maps Go.Shelf

theorem kept_mem {m : Mill} {xs : List Int} {k : Nat} : k ∈ (List.range m.orders.length).filter (fun k : Nat => !xs.contains (k : Int)) ↔ k < m.orders.length ∧ xs.contains (k : Int) = false := by
  rw [List.mem_filter, List.mem_range]; simp
theorem without_emb (m : Mill) (xs : List Int) : Emb (m.without xs) m (fun j => ((List.range m.orders.length).filter fun k : Nat => !xs.contains (k : Int))[j]?.getD 0) := by
  have hlen : (m.without xs).orders.length = ((List.range m.orders.length).filter fun k : Nat => !xs.contains (k : Int)).length := by
    show (withoutL m xs m.orders.length).length = _
    unfold withoutL; simp
  refine ⟨rfl, rfl, fun j hj => ?_, fun j hj => ?_, fun a b ha hb e => ?_⟩
  · rw [hlen] at hj
    rw [List.getElem?_eq_getElem hj, Option.getD_some]
    exact (kept_mem.1 (List.getElem_mem hj)).1
  · rw [hlen] at hj
    show _ = ((withoutL m xs m.orders.length)[j]?.getD default)
    unfold withoutL
    rw [List.getElem?_map, List.getElem?_eq_getElem hj]; rfl
  · rw [hlen] at ha hb
    rw [List.getElem?_eq_getElem ha, List.getElem?_eq_getElem hb, Option.getD_some, Option.getD_some] at e
    have hn : ((List.range m.orders.length).filter fun k : Nat => !xs.contains (k : Int)).Nodup := List.nodup_range.filter _
    rw [List.nodup_iff_pairwise_ne, List.pairwise_iff_getElem] at hn
    rcases Nat.lt_trichotomy a b with h | h | h
    · exact absurd e (hn a b ha hb h)
    · exact h
    · exact absurd e.symm (hn b a hb ha h)
theorem without_feas {m : Mill} {xs : List Int} {off : Nat} (h : ∀ k, k < m.orders.length → off.testBit k = xs.contains (k : Int)) : Feas (m.without xs) 0 ↔ Feas m off := by
  refine (without_emb m xs).feas fun k hk => ?_
  have hlen : (m.without xs).orders.length = ((List.range m.orders.length).filter fun k : Nat => !xs.contains (k : Int)).length := by
    show (withoutL m xs m.orders.length).length = _
    unfold withoutL; simp
  rw [h k hk]
  constructor
  · intro hc
    obtain ⟨j, hj, e⟩ := List.mem_iff_getElem.1 (kept_mem.2 ⟨hk, hc⟩)
    exact ⟨j, by rw [hlen]; exact hj, by rw [List.getElem?_eq_getElem hj]; exact e⟩
  · rintro ⟨j, hj, e⟩
    rw [hlen] at hj
    rw [List.getElem?_eq_getElem hj, Option.getD_some] at e
    have := kept_mem.1 (List.getElem_mem hj)
    rw [e] at this
    exact this.2
theorem without_mok {m : Mill} (h : MillOk m) (xs : List Int) : MillOk (m.without xs) := by
  refine ⟨h.looms, Nat.le_trans (withoutL_len m xs _) h.few, h.laced, h.change, fun o ho => ?_⟩
  have ho : o ∈ withoutL m xs m.orders.length := ho
  unfold withoutL at ho
  obtain ⟨k, hk, rfl⟩ := List.mem_map.1 ho
  exact h.ords _ (by simp [(kept_mem.1 hk).1])
theorem bits_contains {n s k : Nat} (hk : k < n) : (intsOf (bits n s)).contains (k : Int) = s.testBit k := by
  rw [Bool.eq_iff_iff, List.contains_iff_mem]
  unfold intsOf
  rw [List.mem_map]
  constructor
  · rintro ⟨j, hj, e⟩
    have : j = k := by have : (j : Int) = k := e; omega
    subst this
    exact (mem_bits.1 hj).2
  · intro h
    exact ⟨k, mem_bits.2 ⟨hk, h⟩, rfl⟩
theorem bits_listed (m : Mill) (s : Nat) : listedE m (intsOf (bits m.orders.length s)) = 0 := by
  unfold listedE
  rw [if_neg, if_neg]
  · have : twiceB (intsOf (bits m.orders.length s)) = false := twice_of_nodup (nodup_ints (nodup_bits _ _))
    rw [this]; simp
  · rw [Bool.not_eq_false, List.all_eq_true]
    intro x hx
    obtain ⟨k, hk, rfl⟩ := ints_mem.1 hx
    have := (mem_bits.1 hk).1
    unfold inB; simp; omega
theorem bits_off_len (n s : Nat) : ((List.range n).filter fun k : Nat => !(intsOf (bits n s)).contains (k : Int)).length + (bits n s).length = n := by
  have h1 : (List.range n).filter (fun k : Nat => !(intsOf (bits n s)).contains (k : Int)) = (List.range n).filter fun k => ¬ s.testBit k = true :=
    List.filter_congr fun k hk => by rw [bits_contains (List.mem_range.1 hk)]; simp
  rw [h1]
  have h2 := List.length_eq_countP_add_countP (fun k : Nat => s.testBit k) (l := List.range n)
  rw [List.length_range, List.countP_eq_length_filter, List.countP_eq_length_filter] at h2
  unfold bits
  omega
theorem bits_keep {j s : Nat} (h : s < 2 ^ j) : bits (j + 1) s = bits j s := by
  rw [bits_succ, Nat.testBit_lt_two_pow h]; simp
theorem bits_plus {j s : Nat} (h : s < 2 ^ j) : bits (j + 1) (2 ^ j + s) = bits j s ++ [j] := by
  rw [bits_succ, Nat.testBit_two_pow_add_eq, Nat.testBit_lt_two_pow h]
  have : bits j (2 ^ j + s) = bits j s := by
    unfold bits
    exact List.filter_congr fun k hk => Nat.testBit_two_pow_add_gt (List.mem_range.1 hk) s
  rw [this]; simp
theorem bits_sorted (n s : Nat) : (intsOf (bits n s)).Pairwise (· ≤ ·) := by
  unfold intsOf bits
  rw [List.pairwise_map]
  exact (List.pairwise_lt_range.filter _).imp fun {a b} h => by show (a : Int) ≤ b; omega
theorem late_law {m : Mill} (hok : MillOk m) : ∃ off, off < 2 ^ m.orders.length ∧ lateL m = intsOf (bits m.orders.length off) ∧ planF (m.without (lateL m)) ≠ none ∧ (m.without (lateL m)).orders.length + (lateL m).length = m.orders.length ∧
    ∀ s, s < 2 ^ m.orders.length → beforeB (intsOf (bits m.orders.length s)) (lateL m) = true → planF (m.without (intsOf (bits m.orders.length s))) = none := by
  have hch := (check_iff m).2 hok
  obtain ⟨off, h1, h2, h3, h4⟩ := late_some hch
  have e : lateL m = intsOf (bits m.orders.length off) := by unfold lateL; rw [h2]; rfl
  rw [e]
  have hc := (check_iff _).2 (without_mok hok (intsOf (bits m.orders.length off)))
  refine ⟨off, h1, rfl, ?_, ?_, fun s hs hb => ?_⟩
  · intro hn
    exact (planF_feas hc).1 hn ((without_feas fun k hk => (bits_contains hk).symm).2 h3)
  · have := bits_off_len m.orders.length off
    show (withoutL m _ m.orders.length).length + _ = _
    unfold withoutL
    rw [List.length_map]
    have e2 : (intsOf (bits m.orders.length off)).length = (bits m.orders.length off).length := by unfold intsOf; simp
    rw [e2]; exact this
  · have hc := (check_iff _).2 (without_mok hok (intsOf (bits m.orders.length s)))
    rw [planF_feas hc, without_feas fun k hk => (bits_contains hk).symm]
    intro hF
    have := h4 s hs hF
    rw [hb] at this; cases this
end Go.Proofs.Pet
