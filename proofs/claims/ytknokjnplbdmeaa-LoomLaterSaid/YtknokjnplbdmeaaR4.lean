/-
  A mill of which an order may be woven later, or on one loom more, or whose changes take fewer days. No program is named here.
-/
import Derived.Test.YtknokjnplbdmeaaR0
import Derived.Test.YtknokjnplbdmeaaR3
namespace Go.Proofs.Pet
open Go

/-- u lets all that m lets -/
structure Eased (m u : Mill) : Prop where
  laced : u.laced = m.laced
  len : u.orders.length = m.orders.length
  change : 0 ≤ u.change ∧ u.change ≤ m.change
  ords : ∀ k, k < m.orders.length → (u.orders[k]?.getD default).pattern = (m.orders[k]?.getD default).pattern ∧ (u.orders[k]?.getD default).days = (m.orders[k]?.getD default).days ∧
    (m.orders[k]?.getD default).by_ ≤ (u.orders[k]?.getD default).by_ ∧ ∀ x, x ∈ (m.orders[k]?.getD default).on → x ∈ (u.orders[k]?.getD default).on
theorem Eased.pat {m u : Mill} (h : Eased m u) {k : Nat} (hk : k < m.orders.length) : u.pat k = m.pat k := (h.ords k hk).1
theorem Eased.last {m u : Mill} (h : Eased m u) (l : Nat) : ∀ r, (∀ j, j ∈ r → j < m.orders.length) → lastPat u l r = lastPat m l r
  | [], _ => by unfold lastPat; rw [h.laced]
  | k :: _, hr => h.pat (hr k (by simp))
theorem Eased.ch {m u : Mill} (h : Eased m u) (l : Nat) : ∀ r, (∀ j, j ∈ r → j < m.orders.length) → chR u l r = chR m l r
  | [], _ => rfl
  | k :: r, hr => by
    have hr' : ∀ j, j ∈ r → j < m.orders.length := fun j hj => hr j (by simp [hj])
    rw [chR, chR, h.ch l r hr', h.last l r hr', h.pat (hr k (by simp))]
theorem Eased.sd {m u : Mill} (h : Eased m u) : ∀ r, (∀ j, j ∈ r → j < m.orders.length) → sdR u r = sdR m r
  | [], _ => rfl
  | k :: r, hr => by
    have : u.dys k = m.dys k := (h.ords k (hr k (by simp))).2.1
    rw [sdR, sdR, h.sd r (fun j hj => hr j (by simp [hj])), this]
theorem Eased.dy {m u : Mill} (h : Eased m u) (l : Nat) (r : List Nat) (hr : ∀ j, j ∈ r → j < m.orders.length) : dyR u l r ≤ dyR m l r := by
  rw [dyR_eq, dyR_eq, h.sd r hr, h.ch l r hr]
  have := Int.mul_le_mul_of_nonneg_right h.change.2 (chR_bd m l r).1
  omega
theorem Eased.tm {m u : Mill} (h : Eased m u) (l : Nat) : ∀ r, (∀ j, j ∈ r → j < m.orders.length) → tmR m l r = true → tmR u l r = true
  | [], _, _ => rfl
  | k :: r, hr, ht => by
    rw [tmR, Bool.and_eq_true, decide_eq_true_eq] at ht ⊢
    have h1 := h.dy l (k :: r) hr
    have h2 : m.byy k ≤ u.byy k := (h.ords k (hr k (by simp))).2.2.1
    exact ⟨h.tm l r (fun j hj => hr j (by simp [hj])) ht.1, by omega⟩
theorem Eased.morph {m u : Mill} (h : Eased m u) : Morph m u id id := by
  refine ⟨by rw [h.laced], by simp, fun a b _ _ e => e, fun a ha => by rw [h.len]; exact ha, fun i _ j hj hw => ?_, fun i _ r hr => by rw [List.map_id]; exact h.ch i r hr, fun i _ r hr ht => by rw [List.map_id]; exact h.tm i r hr ht⟩
  unfold Mill.weaves at hw ⊢
  rw [List.contains_iff_mem] at hw ⊢
  exact (h.ords j hj).2.2.2 _ hw
theorem Eased.all {m u : Mill} (h : Eased m u) : ∀ k, k < u.orders.length → ∃ j, j < m.orders.length ∧ id j = k := fun k hk => ⟨k, by rw [← h.len]; exact hk, rfl⟩
theorem Eased.late {m u : Mill} (h : Eased m u) (hm : checkE m = 0) (hu : checkE u = 0) : (lateL u).length ≤ (lateL m).length := morph_late hm hu h.morph h.all
theorem plan_late {m : Mill} (hm : checkE m = 0) : planF m = none ↔ (lateL m).length ≠ 0 := by
  rw [planF_feas hm, ← late_nil hm]
theorem Eased.few {m u : Mill} (h : Eased m u) (hm : checkE m = 0) (hu : checkE u = 0) (hp : planF m ≠ none) : fewR u (2 ^ u.orders.length - 1) ≤ fewR m (2 ^ m.orders.length - 1) :=
  (morph_few hm hu h.morph h.all (Classical.not_not.1 (fun g => hp ((planF_feas hm).2 g)))).2
theorem Eased.refl {m : Mill} (hm : checkE m = 0) : Eased m m := ⟨rfl, rfl, ⟨check_change hm, Int.le_refl _⟩, fun _ _ => ⟨rfl, rfl, Int.le_refl _, fun _ h => h⟩⟩
/-- a mill with one order turned -/
def Mill.put (m : Mill) (k : Nat) (o : Ord) : Mill := ⟨m.laced, m.change, m.orders.set k o⟩
theorem set_get (os : List Ord) (k : Nat) (o : Ord) (j : Nat) (hk : k < os.length) : ((os.set k o)[j]?.getD default) = if j = k then o else os[j]?.getD default := by
  rw [List.getElem?_set]
  by_cases e : k = j
  · subst e; rw [if_pos rfl, if_pos rfl, if_pos hk]; rfl
  · rw [if_neg e, if_neg (fun h => e h.symm)]
theorem Eased.put {m u : Mill} (h : Eased m u) {k : Nat} (hk : k < u.orders.length) {o : Ord} (h1 : o.pattern = (u.orders[k]?.getD default).pattern) (h2 : o.days = (u.orders[k]?.getD default).days) (h3 : (u.orders[k]?.getD default).by_ ≤ o.by_) (h4 : ∀ x, x ∈ (u.orders[k]?.getD default).on → x ∈ o.on) : Eased m (u.put k o) := by
  refine ⟨h.laced, by unfold Mill.put; simp [h.len], h.change, fun j hj => ?_⟩
  have hg := set_get u.orders k o j hk
  obtain ⟨g1, g2, g3, g4⟩ := h.ords j hj
  show ((u.orders.set k o)[j]?.getD default).pattern = _ ∧ ((u.orders.set k o)[j]?.getD default).days = _ ∧ _ ≤ ((u.orders.set k o)[j]?.getD default).by_ ∧ ∀ x, _ → x ∈ ((u.orders.set k o)[j]?.getD default).on
  rw [hg]
  split
  · rename_i e
    subst e
    exact ⟨by rw [h1, g1], by rw [h2, g2], by omega, fun x hx => h4 x (g4 x hx)⟩
  · exact ⟨g1, g2, g3, g4⟩
theorem MillOk.put {m : Mill} (h : MillOk m) {k : Nat} {o : Ord} (ho : OrdOk m.laced.length o) : MillOk (m.put k o) := by
  refine ⟨h.looms, by unfold Mill.put; simpa using h.few, h.laced, h.change, fun x hx => ?_⟩
  rcases List.mem_or_eq_of_mem_set hx with h1 | h1
  · exact h.ords x h1
  · subst h1; exact ho
theorem Eased.faster {m u : Mill} (h : Eased m u) {c : Int} (hc : 0 ≤ c ∧ c ≤ u.change) : Eased m ⟨u.laced, c, u.orders⟩ :=
  ⟨h.laced, h.len, ⟨hc.1, Int.le_trans hc.2 h.change.2⟩, h.ords⟩
theorem MillOk.faster {u : Mill} (h : MillOk u) {c : Int} (hc : 0 ≤ c ∧ c ≤ u.change) : MillOk ⟨u.laced, c, u.orders⟩ :=
  ⟨h.looms, h.few, h.laced, ⟨hc.1, Int.le_trans hc.2 h.change.2⟩, h.ords⟩
theorem rising_of {l : List Int} (h1 : l.Pairwise (· ≤ ·)) (h2 : l.Nodup) : risingB l = true := by
  rw [risingB_iff]
  intro i hi hl
  rw [List.pairwise_iff_getElem] at h1
  rw [List.nodup_iff_pairwise_ne, List.pairwise_iff_getElem] at h2
  have g1 := h1 (i - 1) i (by omega) hl (by omega)
  have g2 := h2 (i - 1) i (by omega) hl (by omega)
  rw [List.getElem?_eq_getElem hl, List.getElem?_eq_getElem (show i - 1 < l.length by omega)]
  simp only [Option.getD_some]
  omega
theorem nodup_of_rising {l : List Int} (h : risingB l = true) : l.Nodup := by
  have hp : l.Pairwise (· < ·) := by
    induction l with
    | nil => exact List.Pairwise.nil
    | cons a l ih =>
      cases l with
      | nil => simp
      | cons b l =>
        rw [risingB, Bool.and_eq_true, decide_eq_true_eq] at h
        have ih := ih h.2
        rw [List.pairwise_cons] at ih ⊢
        refine ⟨fun x hx => ?_, List.pairwise_cons.2 ih⟩
        rcases List.mem_cons.1 hx with e | e
        · omega
        · have := ih.1 x e; omega
  exact List.nodup_iff_pairwise_ne.2 (hp.imp fun h => by omega)
theorem rising_sorted {l : List Int} (h : l.Nodup) : risingB (l.mergeSort fun x y => decide (x ≤ y)) = true :=
  rising_of (sorted_pw l) ((List.mergeSort_perm l _).symm.nodup_iff.1 h)
theorem rising_len {l : List Int} {L : Nat} (h : risingB l = true) (hb : ∀ x, x ∈ l → 0 ≤ x ∧ x < L) : l.length ≤ L := by
  rw [risingB_iff] at h
  have h1 : ∀ i, i < l.length → (i : Int) ≤ l[i]?.getD 0 := fun i => by
    induction i with
    | zero =>
      intro hi
      have := hb (l[0]?.getD 0) (by simp [hi])
      omega
    | succ i ih =>
      intro hi
      have := ih (by omega)
      have h2 := h (i + 1) (by omega) hi
      simp only [Nat.add_sub_cancel] at h2
      omega
  rcases Nat.eq_zero_or_pos l.length with h0 | h0
  · omega
  · have h2 := h1 (l.length - 1) (by omega)
    have h3 := (hb (l[l.length - 1]?.getD 0) (by simp [show l.length - 1 < l.length by omega])).2
    omega
theorem MillOk.great {m : Mill} (h : MillOk m) : greatB m = false := by
  have h1 := h.looms.2
  have h2 := h.few
  unfold greatB
  simp only [Bool.or_eq_false_iff, List.any_eq_false, decide_eq_true_eq, decide_eq_false_iff_not]
  refine ⟨⟨fun o ho => ?_, by omega⟩, by omega⟩
  have := rising_len (h.ords o ho).up (h.ords o ho).on
  omega
end Go.Proofs.Pet
