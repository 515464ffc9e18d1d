/-
  Rows of a table, as the law compares them.
-/
import Derived.Test.YtknokjnplbdmeaaU10
namespace Go.Proofs.Pet
open Go Go.RowKit Go.Maps Go.Shelf

def rowsC (m : Mill) (i N : Nat) : List (List Int) := (List.range N).map fun s => lst (costC m i s) m.orders.length
theorem rowsC_len (m : Mill) (i N : Nat) : (rowsC m i N).length = N := by unfold rowsC; simp
theorem rowsC_succ (m : Mill) (i N : Nat) : rowsC m i (N + 1) = rowsC m i N ++ [lst (costC m i N) m.orders.length] := by
  unfold rowsC; rw [List.range_succ, List.map_append]; rfl
theorem rowsC_get (m : Mill) (i : Nat) {N s : Nat} (hs : s < N) : (rowsC m i N)[s]?.getD [] = lst (costC m i s) m.orders.length := by
  unfold rowsC; rw [List.getElem?_map, List.getElem?_range hs]; rfl
theorem Rows2.rows {w : World} {base s : Nat} {v : Value} {R : Nat → Nat} {m : Mill} {i : Nat} (h : Rows2 w base v s m.orders.length R (costC m i)) (h0 : 0 < s) (hn : m.orders.length ≤ maxLen) (_hs : s ≤ maxLen) : RowsI w v (rowsC m i s) := by
  rcases h.own.2 with ⟨_, e⟩ | ⟨g, cap, cur, rfl, hg, hb, hn1, hm1, hs1, hc1⟩
  · omega
  refine ⟨some ⟨g, 0, none⟩, cap, by rw [rowsC_len], by rw [rowsC_len]; exact hn1, hm1, fun j hj => ?_⟩
  rw [rowsC_len] at hj
  obtain ⟨b, c, e1, _, e2⟩ := ownsRow_at h.own hj
  simp only [Value.slice.injEq, Option.some.injEq, Addr.mk.injEq, and_true, true_and] at e1
  obtain ⟨rfl, rfl⟩ := e1
  have hr := (h.row j hj).2
  refine ⟨g, 0, .slice (some ⟨R j, 0, none⟩) m.orders.length m.orders.length, rfl, ?_, some ⟨R j, 0, none⟩, m.orders.length, ?_, ?_, hn, ?_⟩
  · rw [Nat.zero_add, e2, List.getElem?_map, List.getElem?_range hj]; rfl
  · rw [rowsC_get m i hj, lst_len]
  · rw [rowsC_get m i hj, lst_len]; exact Nat.le_refl _
  · rw [rowsC_get m i hj]; exact hr.ints
theorem OwnR.far {w : World} {base b : Nat} {v u : Value} {k : Nat} {xss : List (List Int)} {cs : Array Value} (h : OwnR w base v xss) (hb : Blk w b 62 cs) : OwnR (w.setCell ⟨b, k, none⟩ u) base v xss := by
  have hI : ∀ x xs, OwnI w base 3 x xs → OwnI (w.setCell ⟨b, k, none⟩ u) base 3 x xs := fun x xs hx => by
    obtain ⟨h1, h2⟩ := hx
    refine ⟨h1, ?_⟩
    rcases h2 with h2 | ⟨q, cap, cur, rfl, hg, hB, r⟩
    · exact .inl h2
    · exact .inr ⟨q, cap, cur, rfl, hg, Blk.far (p := ⟨b, k, none⟩) hB (Blk.ne_ hB hb (by decide)) u, r⟩
  obtain ⟨vs, ⟨h1, h2⟩, h3, h4⟩ := h
  refine ⟨vs, ⟨h1, ?_⟩, h3, fun i hi => hI _ _ (h4 i hi)⟩
  rcases h2 with h2 | ⟨q, cap, cur, rfl, hg, hB, r⟩
  · exact .inl h2
  · exact .inr ⟨q, cap, cur, rfl, hg, Blk.far (p := ⟨b, k, none⟩) hB (Blk.ne_ hB hb (by decide)) u, r⟩
end Go.Proofs.Pet
