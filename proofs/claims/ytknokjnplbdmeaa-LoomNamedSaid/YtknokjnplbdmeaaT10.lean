/-
  A mill named otherwise, as LoomNamed makes it. No program is named here.
-/
import Derived.Test.YtknokjnplbdmeaaT3
import Derived.Test.YtknokjnplbdmeaaT5
import Derived.Test.YtknokjnplbdmeaaR1
namespace Go.Proofs.Pet
open Go Go.RowKit Go.Maps Go.Shelf

theorem PermOf.shuffle {n : Nat} {f : Nat → Int} (h : PermOf n (lst f n)) : ∃ lo : Nat → Nat, Shuffle n lo ∧ (∀ i, i < n → f i = (lo i : Int)) ∧ ∀ i, i < n → lo i < n := by
  have h1 : ∀ i, i < n → 0 ≤ f i ∧ f i < n := fun i hi => by
    have hm : f i ∈ lst f n := by unfold lst; exact List.mem_map.2 ⟨i, List.mem_range.2 hi, rfl⟩
    obtain ⟨k, hk, e⟩ := ints_mem.1 (h.mem_iff.1 hm)
    have := List.mem_range.1 hk
    omega
  have h2 : Shuffle n fun i => (f i).toNat := by
    have h3 := h.map Int.toNat
    unfold lst ints at h3
    rw [List.map_map, List.map_map] at h3
    have e : (List.range n).map (Int.toNat ∘ fun k : Nat => (k : Int)) = List.range n := by
      conv => rhs; rw [← List.map_id (List.range n)]
      exact List.map_congr_left fun x _ => by simp
    rw [e] at h3
    exact h3
  exact ⟨_, h2, fun i hi => by have := h1 i hi; show f i = ((f i).toNat : Int); omega, fun i hi => h2.lt hi⟩
/-- the new number of a pattern -/
def phi (pt : Nat → Nat) (p : Int) : Int := if p = -1 then -1 else (pt p.toNat : Int)
theorem phi_iff {pt : Nat → Nat} (h : Shuffle 10 pt) {a b : Int} (ha : -1 ≤ a ∧ a ≤ 9) (hb : -1 ≤ b ∧ b ≤ 9) : phi pt a = phi pt b ↔ a = b := by
  unfold phi
  by_cases e1 : a = -1 <;> by_cases e2 : b = -1
  · simp [e1, e2]
  · rw [if_pos e1, if_neg e2]; omega
  · rw [if_neg e1, if_pos e2]; omega
  · rw [if_neg e1, if_neg e2]
    constructor
    · intro e
      have := h.inj (i := a.toNat) (j := b.toNat) (by omega) (by omega) (by omega)
      omega
    · intro e; rw [e]
theorem phi_bd {pt : Nat → Nat} (h : Shuffle 10 pt) {a : Int} (ha : -1 ≤ a ∧ a ≤ 9) : -1 ≤ phi pt a ∧ phi pt a ≤ 9 ∧ (0 ≤ a → 0 ≤ phi pt a) := by
  unfold phi
  by_cases e : a = -1
  · rw [if_pos e]; omega
  · rw [if_neg e]
    have := h.lt (j := a.toNat) (by omega)
    omega
theorem ren_mk {m u : Mill} (hok : MillOk m) {lo fo pt : Nat → Nat} (hlo : Shuffle m.laced.length lo) (hfo : Shuffle m.orders.length fo) (hpt : Shuffle 10 pt) (h1 : u.laced.length = m.laced.length) (h2 : u.orders.length = m.orders.length) (h3 : u.change = m.change)
    (h4 : ∀ k, k < m.laced.length → u.laced[lo k]?.getD 0 = phi pt (m.laced[k]?.getD 0))
    (h5 : ∀ j, j < m.orders.length → u.orders[fo j]?.getD default = ⟨phi pt (m.pat j), m.dys j, m.byy j, ((((m.orders[j]?.getD default).on).map fun x => (lo x.toNat : Int)).mergeSort fun x y => decide (x ≤ y))⟩) :
    Ren m u lo fo ∧ MillOk u := by
  have hmp : ∀ j, j < m.orders.length → OrdOk m.laced.length (m.orders[j]?.getD default) := fun j hj => hok.ords _ (by simp [hj])
  have hml : ∀ k, k < m.laced.length → -1 ≤ m.laced[k]?.getD 0 ∧ m.laced[k]?.getD 0 ≤ 9 := fun k hk => hok.laced _ (by simp [hk])
  have hpat : ∀ j, j < m.orders.length → -1 ≤ m.pat j ∧ m.pat j ≤ 9 := fun j hj => by have := (hmp j hj).pat; unfold Mill.pat; omega
  have hon : ∀ j, j < m.orders.length → ∀ x, x ∈ (u.orders[fo j]?.getD default).on ↔ ∃ y, y ∈ (m.orders[j]?.getD default).on ∧ (lo y.toNat : Int) = x := fun j hj x => by
    rw [h5 j hj, (List.mergeSort_perm _ _).mem_iff, List.mem_map]
  refine ⟨⟨h1, h2, h3, hlo, hfo, fun i j hi hj => ?_, fun k j hk hj => ?_, fun j hj => ?_, fun j hj => ?_, fun k j hk hj => ?_⟩, ⟨by rw [h1]; exact hok.looms, by rw [h2]; exact hok.few, fun x hx => ?_, by rw [h3]; exact hok.change, fun o ho => ?_⟩⟩
  · have e1 : u.pat (fo i) = phi pt (m.pat i) := by unfold Mill.pat at *; rw [h5 i hi]
    have e2 : u.pat (fo j) = phi pt (m.pat j) := by unfold Mill.pat at *; rw [h5 j hj]
    rw [e1, e2]
    exact phi_iff hpt (hpat i hi) (hpat j hj)
  · have e2 : u.pat (fo j) = phi pt (m.pat j) := by unfold Mill.pat at *; rw [h5 j hj]
    rw [h4 k hk, e2]
    exact phi_iff hpt (hml k hk) (hpat j hj)
  · unfold Mill.dys at *; rw [h5 j hj]
  · unfold Mill.byy at *; rw [h5 j hj]
  · unfold Mill.weaves
    rw [Bool.eq_iff_iff, List.contains_iff_mem, List.contains_iff_mem, hon j hj]
    constructor
    · rintro ⟨y, hy, e⟩
      have hb := (hmp j hj).on y hy
      have := hlo.inj (i := y.toNat) (j := k) (by omega) hk (by omega)
      have : y = (k : Int) := by omega
      rw [← this]; exact hy
    · intro hk'
      exact ⟨_, hk', by simp⟩
  · obtain ⟨k, hk, rfl⟩ := List.mem_iff_getElem.1 hx
    obtain ⟨i, hi, rfl⟩ := hlo.onto (by rw [← h1]; exact hk)
    have := h4 i hi
    rw [List.getElem?_eq_getElem hk, Option.getD_some] at this
    rw [this]
    have := phi_bd hpt (hml i hi)
    exact ⟨this.1, this.2.1⟩
  · obtain ⟨k, hk, rfl⟩ := List.mem_iff_getElem.1 ho
    obtain ⟨j, hj, rfl⟩ := hfo.onto (by rw [← h2]; exact hk)
    have e := h5 j hj
    rw [List.getElem?_eq_getElem hk, Option.getD_some] at e
    have hm := hmp j hj
    have hx := hon j hj
    rw [List.getElem?_eq_getElem hk, Option.getD_some] at hx
    rw [e] at hx ⊢
    have hp := phi_bd hpt (hpat j hj)
    refine ⟨⟨hp.2.2 (by have := hm.pat; unfold Mill.pat; omega), hp.2.1⟩, hm.dys, hm.byy, ?_, fun x hxx => ?_, rising_sorted ?_⟩
    · intro e0
      have hl := (List.mergeSort_perm ((((m.orders[j]?.getD default).on).map fun x => (lo x.toNat : Int))) fun x y => decide (x ≤ y)).length_eq
      have e1 : ((((m.orders[j]?.getD default).on).map fun x => (lo x.toNat : Int)).mergeSort fun x y => decide (x ≤ y)) = [] := e0
      rw [e1, List.length_map] at hl
      have := List.length_pos_iff.2 hm.ne
      rw [List.length_nil] at hl
      omega
    · obtain ⟨y, hy, rfl⟩ := (hx x).1 hxx
      have hb := hm.on y hy
      have := hlo.lt (j := y.toNat) (by omega)
      rw [h1]; omega
    · rw [List.nodup_iff_pairwise_ne, List.pairwise_map]
      refine (List.nodup_iff_pairwise_ne.1 (nodup_of_rising hm.up)).imp_of_mem fun {a b} ha hb hab e => hab ?_
      have h6 := hm.on a ha; have h7 := hm.on b hb
      have := hlo.inj (i := a.toNat) (j := b.toNat) (by omega) (by omega) (by omega)
      omega
end Go.Proofs.Pet
