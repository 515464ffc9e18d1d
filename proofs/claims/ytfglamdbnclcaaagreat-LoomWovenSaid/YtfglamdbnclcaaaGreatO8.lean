/-
  The library's sorts, at slices of ints in rows of the call's own.
-/
import Derived.Test.YtfglamdbnclcaaaGreatLy
import Derived.Test.YtfglamdbnclcaaaGreatO1
import Derived.Sort.OwnSortedInts
namespace Go.Proofs.Pet
open Go Go.RowKit Go.Maps Go.Shelf Go.Sort

theorem sortI (base : Nat) (v : Value) (xs : List Int) (w : World) (h : OwnI w base 3 v xs) (hl : xs.length ≤ 100000) :
    Calls Tryz.prog 83 #[v] w fun e w' => e = .returned (.tuple #[]) ∧ OwnI w' base 3 v (xs.mergeSort fun x y => decide (x ≤ y)) ∧ w.grownBy w' v.ownBlock := by
  rcases h.2 with ⟨rfl, h0⟩ | ⟨g, cap, cur, rfl, hg, hb, hn, hm, hs, hc⟩
  · have hx : xs = [] := List.length_eq_zero_iff.1 h0
    subst hx
    refine (Tryz.slices_Sort_int_none none 0 w).mono fun e w' ⟨h1, h2⟩ => ?_
    subst h2
    exact ⟨h1, by simpa using OwnI.nil w' base 3, ⟨rfl, rfl, rfl, Nat.le_refl _, fun _ _ _ => rfl⟩⟩
  · have hc' : cur.toList.take xs.length = xs.map (Value.int .i64) := by rwa [Nat.mul_one] at hc
    refine (Tryz.slices_Sort_int g 0 cap xs w (holds_of_blockI hb hc') (Array.getElem?_eq_some_iff.1 hb).1 (by omega)).mono fun e w' ⟨h1, n, os, h2⟩ => ?_
    subst h2
    refine ⟨h1, ?_, grownBy_sortedI _⟩
    have hlen : (xs.mergeSort fun x y => decide (x ≤ y)).length = xs.length := by simp
    unfold OwnI
    rw [hlen]
    exact ownsRow_sortedI hlen hg hb hn hm hs
theorem compactI (base : Nat) (v : Value) (xs : List Int) (w : World) (h : OwnI w base 3 v xs) (hl : xs.length ≤ 100000) :
    Calls Tryz.prog 84 #[v] w fun e w' => ∃ v', e = .returned v' ∧ OwnI w' base 3 v' (Lib.compact xs) ∧ v'.ownBlock = v.ownBlock ∧ w.grownBy w' v.ownBlock := by
  rcases h.2 with ⟨rfl, h0⟩ | ⟨g, cap, cur, rfl, hg, hb, hn, hm, hs, hc⟩
  · have hx : xs = [] := List.length_eq_zero_iff.1 h0
    subst hx
    refine (Tryz.slices_Compact_int_empty none 0 w).mono fun e w' ⟨h1, h2⟩ => ?_
    subst h2
    exact ⟨_, h1, OwnI.nil _ _ _, rfl, ⟨rfl, rfl, rfl, Nat.le_refl _, fun _ _ _ => rfl⟩⟩
  · have hc' : cur.toList.take xs.length = xs.map (Value.int .i64) := by rwa [Nat.mul_one] at hc
    refine (Tryz.slices_Compact_int g 0 cap xs w (holds_of_blockI hb hc') (by omega) hn).mono fun e w' ⟨h1, q, h2⟩ => ?_
    subst h2
    have hle := Lib.compact_length_le xs
    obtain ⟨ts, hts⟩ : ∃ ts, Lib.compact xs ++ List.replicate (xs.length - (Lib.compact xs).length) 0 = ts := ⟨_, rfl⟩
    have hlen : ts.length = xs.length := by rw [← hts, List.length_append, List.length_replicate]; omega
    have ho : (grow (putRow (Value.int .i64) (Sort.ahead w q) g 0 ts.toArray) #[]).ownsRow base 3 1 (.slice (some ⟨g, 0, none⟩) xs.length cap) xs.length (ts.map (Value.int .i64)) := ownsRow_sortedI hlen hg hb hn hm hs
    rw [hts]
    rw [grow_empty] at ho
    refine ⟨_, h1, ?_, rfl, by have := grownBy_sortedI (w := w) (g := g) (n := q) (os := #[]) ts.toArray; rwa [grow_empty] at this⟩
    rcases ho.2 with ⟨h3, _⟩ | ⟨g', cap', cur', h3, k1, k2, k3, k4, k5, k6⟩
    · cases h3
    · simp only [Value.slice.injEq, Option.some.injEq, Addr.mk.injEq, and_true, true_and] at h3
      obtain ⟨rfl, rfl⟩ := h3
      refine ⟨by simp, .inr ⟨g, cap, cur', rfl, k1, k2, by omega, k4, k5, ?_⟩⟩
      rw [Nat.mul_one] at k6 ⊢
      have : cur'.toList.take (Lib.compact xs).length = (cur'.toList.take xs.length).take (Lib.compact xs).length := by rw [List.take_take, Nat.min_eq_left hle]
      rw [this, k6, ← hts, List.map_append, List.take_append_of_le_length (by simp), List.take_of_length_le (by simp)]
/-- the values of some numbers below n -/
def vals {n : Nat} (xs : List (Fin n)) : List Int := xs.map fun k => (k.val : Int)
end Go.Proofs.Pet
