/-
  LoomRun, walked.
-/
import Derived.Test.YtknokjnplbdmeaaGreatZS
import Derived.Test.YtknokjnplbdmeaaGreatO3
import Derived.Test.YtknokjnplbdmeaaGreatO7
import Derived.Test.YtknokjnplbdmeaaGreatT1
import Derived.Test.YtknokjnplbdmeaaGreatU1
import Derived.Test.YtknokjnplbdmeaaGreatV1
import Derived.Test.YtknokjnplbdmeaaGreatV4
import Derived.Test.YtknokjnplbdmeaaGreatQ1
import Derived.Deep.DeepCutAuto
namespace Go.Proofs.Pet
open Go Go.RowKit Go.Maps Go.Shelf Go.Sort

theorem deleteI (base : Nat) (v : Value) (xs : List Int) (w : World) (h : OwnI w base 3 v xs) (hl : xs.length ≤ 100000) (i : Nat) (hi : i < xs.length) :
    Calls Tryz.prog 42 #[v, .int .i64 (i : Int), .int .i64 ((i : Int) + 1)] w fun e w' => ∃ v', e = .returned v' ∧ OwnI w' base 3 v' (xs.take i ++ xs.drop (i + 1)) ∧ v'.ownBlock = v.ownBlock ∧ w.grownBy w' v.ownBlock := by
  rcases h.2 with ⟨rfl, h0⟩ | ⟨g, cap, cur, rfl, hg, hb, hn, hm, hs, hc⟩
  · omega
  · have hc' : cur.toList.take xs.length = xs.map (Value.int .i64) := by rwa [Nat.mul_one] at hc
    have hcall := Tryz.slices_Delete_int g 0 cap i (i + 1) xs w (holds_of_blockI hb hc') hn (by unfold maxLen at hm; omega) (by omega) (by omega)
    have ei : ((i + 1 : Nat) : Int) = (i : Int) + 1 := by omega
    rw [ei] at hcall
    refine hcall.mono fun e w' ⟨h1, q, h2⟩ => ?_
    subst h2
    obtain ⟨ts, hts⟩ : ∃ ts, xs.take i ++ xs.drop (i + 1) ++ List.replicate (i + 1 - i) (0 : Int) = ts := ⟨_, rfl⟩
    have hdl : (xs.take i ++ xs.drop (i + 1)).length = xs.length - 1 := by rw [List.length_append, List.length_take, List.length_drop]; omega
    have hlen : ts.length = xs.length := by rw [← hts, List.length_append, hdl, List.length_replicate]; omega
    have ho : (grow (putRow (Value.int .i64) (Sort.ahead w q) g 0 ts.toArray) #[]).ownsRow base 3 1 (.slice (some ⟨g, 0, none⟩) xs.length cap) xs.length (ts.map (Value.int .i64)) := ownsRow_sortedI hlen hg hb hn hm hs
    rw [hts]
    rw [grow_empty] at ho
    refine ⟨_, h1, ?_, rfl, by have := grownBy_sortedI (w := w) (g := g) (n := q) (os := #[]) ts.toArray; rwa [grow_empty] at this⟩
    rcases ho.2 with ⟨h3, _⟩ | ⟨g', cap', cur', h3, k1, k2, k3, k4, k5, k6⟩
    · cases h3
    · simp only [Value.slice.injEq, Option.some.injEq, Addr.mk.injEq, and_true, true_and] at h3
      obtain ⟨rfl, rfl⟩ := h3
      have e1 : xs.length - (i + 1 - i) = (xs.take i ++ xs.drop (i + 1)).length := by rw [hdl]; omega
      rw [e1]
      refine ⟨by simp, .inr ⟨g, cap, cur', rfl, k1, k2, by omega, k4, k5, ?_⟩⟩
      rw [Nat.mul_one] at k6 ⊢
      have : cur'.toList.take (xs.take i ++ xs.drop (i + 1)).length = (cur'.toList.take xs.length).take (xs.take i ++ xs.drop (i + 1)).length := by rw [List.take_take, Nat.min_eq_left (by omega)]
      rw [this, k6, ← hts, List.map_append, List.take_append_of_le_length (by simp), List.take_of_length_le (by simp)]
theorem sorted_perm {xs ys : List Int} (h : xs.Perm ys) : (xs.mergeSort fun x y => decide (x ≤ y)) = ys.mergeSort fun x y => decide (x ≤ y) := by
  have hs : ∀ l : List Int, (l.mergeSort fun x y => decide (x ≤ y)).Pairwise (· ≤ ·) := fun l =>
    (List.pairwise_mergeSort (fun a b c h1 h2 => by simp only [decide_eq_true_eq] at *; omega) (fun a b => by simp only [Bool.or_eq_true, decide_eq_true_eq]; omega) l).imp fun {a b} h => by simpa using h
  exact List.Perm.eq_of_pairwise (le := fun a b : Int => a ≤ b) (fun a b _ _ h1 h2 => by omega) (hs xs) (hs ys) (((List.mergeSort_perm xs _).trans h).trans (List.mergeSort_perm ys _).symm)
theorem permOf_some {m : Mill} {l : List Int} (h : PermOf m.orders.length l) (r : Nat) : Some1 m (l.take r) := by
  have hn : (ints (List.range m.orders.length)).Nodup := by
    unfold ints
    rw [List.nodup_iff_pairwise_ne, List.pairwise_map]
    exact List.pairwise_lt_range.imp fun h => by omega
  refine ⟨fun x hx => ?_, (h.symm.nodup_iff.1 hn).sublist (List.take_sublist _ _)⟩
  obtain ⟨k, hk, rfl⟩ := ints_mem.1 (h.mem_iff.1 (List.mem_of_mem_take hx))
  have := List.mem_range.1 hk
  omega
/-- a list of a list's elements, by a list of their places -/
def pickI (xs : List Int) (ps : List Int) : List Int := ps.map fun p => xs[p.toNat]?.getD 0
theorem pickI_perm {xs ps : List Int} (h : PermOf xs.length ps) : (pickI xs ps).Perm xs := by
  have h2 := h.map fun p : Int => xs[p.toNat]?.getD 0
  refine h2.trans ?_
  have : (ints (List.range xs.length)).map (fun p : Int => xs[p.toNat]?.getD 0) = xs := by
    unfold ints
    rw [List.map_map]
    apply List.ext_getElem
    · simp
    · intro i h1 h3
      simp at h1
      simp [h1]
  rw [this]
/-- what is asked of the first best run -/
structure RunLaw (m : Mill) (xs : List Int) (n e : Int) (b : List Int) : Prop where
  pair : costE m 0 xs = (n, e)
  best : bestL m 0 xs = b
  cases_ : (e = 6 ∧ b = [] ∧ ∀ ys, ys.Perm xs → okW m 0 ys = false) ∨ (e = 0 ∧ BestOf m xs n b ∧ ∀ ys, ys.Perm xs → okW m 0 ys = true → n ≤ chR m 0 (rvI ys))
theorem runLaw {m : Mill} (hok : MillOk m) (h1 : m.laced.length = 1) {xs : List Int} (h : Some1 m xs) : ∃ n e b, RunLaw m xs n e b := by
  have hc := h.cost hok h1
  by_cases h9 : numC m 0 (setF xs) = 99
  · rw [if_pos h9] at hc
    refine ⟨0, 6, [], hc, by unfold bestL; rw [hc]; rfl, .inl ⟨rfl, rfl, fun ys hy => ?_⟩⟩
    cases ht : okW m 0 ys with
    | false => rfl
    | true => exact absurd h9 (h.le hok h1 hy ht).2
  · rw [if_neg h9] at hc
    exact ⟨_, 0, _, hc, rfl, .inr ⟨rfl, h.best hok h1 h9, fun ys hy ht => (h.le hok h1 hy ht).1⟩⟩
end Go.Proofs.Pet
