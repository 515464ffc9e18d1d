/-
  PowerCame walked.
-/
import Derived.Test.YtjlglbhafopomaaGreatPC4
namespace Go.Proofs.Pet
open Go Go.RowKit Go.Maps Go.Shelf
open Go.Proofs.Pow (PM Sh Wv POk Up)

theorem ext_grown0 {w wr w' : World} {row : Option Nat} (he : Ext w wr) (hg : wr.grownBy w' row) (hr : ∀ k, row = some k → w.heap.size ≤ k) : Ext w w' :=
  ⟨hg.os.trans he.os, hg.tape.trans he.tape, hg.output.trans he.output, Nat.le_trans he.size hg.size, fun k hk => (hg.block k (Nat.lt_of_lt_of_le hk he.size) (fun e => by have := hr k e.symm; omega)).trans (Below.block he k hk)⟩
theorem perm_nat {n : Nat} {l : List Int} (h : PermOf n l) : (natL l).Perm (List.range n) := by
  have := h.map Int.toNat
  have e : (ints (List.range n)).map Int.toNat = List.range n := natL_ints _
  rw [e] at this
  exact this
theorem perm_len {n : Nat} {l : List Int} (h : PermOf n l) : l.length = n := by
  have := h.length_eq
  rw [this]; simp [ints]
theorem perm_in {n : Nat} {l : List Int} (h : PermOf n l) : ∀ x, x ∈ l → 0 ≤ x ∧ x < n := by
  intro x hx
  obtain ⟨k, hk, rfl⟩ := ints_mem.1 (h.mem_iff.1 hx)
  have := List.mem_range.1 hk
  omega
theorem perm_all {n : Nat} {l : List Int} (h : PermOf n l) {k : Nat} (hk : k < n) : (k : Int) ∈ l := h.mem_iff.2 (ints_mem.2 ⟨k, List.mem_range.2 hk, rfl⟩)
theorem perm_nodup {n : Nat} {l : List Int} (h : PermOf n l) : l.Nodup := h.symm.nodup (nodup_ints List.nodup_range)
theorem perm_adds {m : PM} (hm : POk m) {l : List Int} (h : PermOf m.wvs.length l) : groupE m l = 0 ∧ addsE m l = 0 := by
  have hc : checkP m = 0 := (checkP_iff m).2 hm
  have hg : groupE m l = 0 := by
    unfold groupE
    have a1 : (l.all fun k => inB k 0 ((m.wvs.length : Int) - 1)) = true := List.all_eq_true.2 fun x hx => inB_iff.2 (by have := perm_in h x hx; omega)
    have a2 : twiceB l = false := twiceB_false fun k hk => by
      rw [← Bool.not_eq_true, List.contains_iff_mem]
      intro hmem
      rw [List.getElem?_eq_getElem hk, Option.getD_some, List.mem_take_iff_getElem] at hmem
      obtain ⟨j, hj, e⟩ := hmem
      have := List.pairwise_iff_getElem.1 (List.nodup_iff_pairwise_ne.1 (perm_nodup h)) j k (by omega) hk (by omega)
      exact this e
    rw [if_neg (by rw [hc]; decide), if_neg (by rw [a1]; decide), if_neg (by rw [a2]; decide)]
  refine ⟨hg, ?_⟩
  unfold addsE
  rw [if_neg (by rw [hc]; decide), if_neg (by rw [perm_len h]; exact fun h => h rfl), hg]
theorem perm_cost {m : PM} {l : List Int} (h : PermOf m.wvs.length l) : Pow.costF m (fun k => l.contains (k : Int)) = Pow.costF m fun _ => true :=
  Pow.costQ_congr fun _ hk => List.contains_iff_mem.2 (perm_all h hk)
/-- an order in which one comes later -/
def laterL (l : List Int) (i k : Nat) : List Int := (l.take i ++ l.drop (i + 1)).take k ++ l[i]?.getD 0 :: (l.take i ++ l.drop (i + 1)).drop k
theorem later_parts {l : List Int} {i k : Nat} (hi : i < l.length) (hik : i ≤ k) (_hk : k < l.length) : ∃ a b c w, l = a ++ w :: (b ++ c) ∧ laterL l i k = a ++ b ++ w :: c ∧ w = l[i]?.getD 0 := by
  refine ⟨l.take i, (l.drop (i + 1)).take (k - i), (l.drop (i + 1)).drop (k - i), l[i]?.getD 0, ?_, ?_, rfl⟩
  · rw [List.take_append_drop, List.getElem?_eq_getElem hi, Option.getD_some, ← List.drop_eq_getElem_cons hi, List.take_append_drop]
  · unfold laterL
    have hl : (l.take i).length = i := by rw [List.length_take]; omega
    rw [List.take_append, List.drop_append, hl, List.take_of_length_le (by omega), show (l.take i).drop k = [] from List.drop_eq_nil_of_le (by omega), List.nil_append]
theorem later_perm {n : Nat} {l : List Int} (h : PermOf n l) {i k : Nat} (hi : i < l.length) (hik : i ≤ k) (hk : k < l.length) : PermOf n (laterL l i k) := by
  obtain ⟨a, b, c, w, e1, e2, -⟩ := later_parts hi hik hk
  have : (laterL l i k).Perm l := by
    rw [e2, List.append_assoc]
    exact (List.Perm.append_left a List.perm_middle).trans (List.Perm.of_eq e1.symm)
  exact this.trans h
theorem adds_get {m : PM} {l : List Nat} {x : Nat} (hx : x < m.wvs.length) : (Pow.addsF m l)[x]?.getD 0 = Pow.addF m l (l.findIdx fun y => decide (y = x)) := by
  unfold Pow.addsF
  rw [List.getElem?_map, List.getElem?_range hx]
  rfl
theorem came_law {m : PM} (hm : POk m) {l : List Int} (h : PermOf m.wvs.length l) {i k : Nat} (hi : i < l.length) (hik : i ≤ k) (hk : k < l.length) {w : Nat} (hw : l[i]?.getD 0 = (w : Int)) {x : Nat} (hx : x < m.wvs.length) :
    (x = w → (Pow.addsF m (natL (laterL l i k)))[x]?.getD 0 ≤ (Pow.addsF m (natL l))[x]?.getD 0) ∧ (x ≠ w → (Pow.addsF m (natL l))[x]?.getD 0 ≤ (Pow.addsF m (natL (laterL l i k)))[x]?.getD 0) := by
  obtain ⟨a, b, c, w', e1, e2, e3⟩ := later_parts hi hik hk
  rw [hw] at e3
  subst e3
  have f1 : natL l = natL a ++ w :: (natL b ++ natL c) := by conv => lhs; rw [e1]
                                                             simp [natL]
  have f2 : natL (laterL l i k) = natL a ++ natL b ++ w :: natL c := by rw [e2]; simp [natL]
  rw [adds_get hx, adds_get hx, f2, f1]
  have hp := perm_nat h
  rw [f1] at hp
  exact Pow.later_le hm (hp.symm.nodup List.nodup_range) hx (hp.mem_iff.2 (List.mem_range.2 hx))
theorem addsF_len (m : PM) (l : List Nat) : (Pow.addsF m l).length = m.wvs.length := by simp [Pow.addsF]
end Go.Proofs.Pet
