/-
  Rows of ints of the call's own, in which one is set.
-/
import Derived.Test.YtknokjnplbdmeaaGreatP16
namespace Go.Proofs.Pet
open Go Go.RowKit Go.Maps Go.Shelf

def lst (f : Nat → Int) (n : Nat) : List Int := (List.range n).map f
theorem lst_len (f : Nat → Int) (n : Nat) : (lst f n).length = n := by unfold lst; simp
theorem lst_succ (f : Nat → Int) (n : Nat) : lst f (n + 1) = lst f n ++ [f n] := by unfold lst; rw [List.range_succ, List.map_append]; rfl
theorem lst_get (f : Nat → Int) {n k : Nat} (hk : k < n) : (lst f n)[k]?.getD 0 = f k := by unfold lst; rw [List.getElem?_map, List.getElem?_range hk]; rfl
theorem OwnI.own_lt {w : World} {base : Nat} {e : TypeId} {v : Value} {xs : List Int} (h : OwnI w base e v xs) (b : Nat) (hb : v.ownBlock = some b) : base ≤ b ∧ b < w.heap.size := by
  obtain ⟨A, c, rfl, _, _, _, h5, _⟩ := h.open_
  cases A with
  | none => cases hb
  | some ad =>
    obtain ⟨h6, h7, h8⟩ := h5 ad rfl
    rw [h8] at hb
    have := Option.some.inj hb
    omega
theorem OwnI.setF {w : World} {base N k : Nat} {v : Value} {f : Nat → Int} (h : OwnI w base 3 v (lst f N)) (hk : k < N) (u : Int) :
    ∃ b c u0, v = .slice (some ⟨b, 0, none⟩) N c ∧ base ≤ b ∧ b < w.heap.size ∧ w.cell? ⟨b, k, none⟩ = some u0 ∧ w.frozen? ⟨b, k, none⟩ = false ∧
      OwnI (w.setCell ⟨b, k, none⟩ (.int .i64 u)) base 3 v (lst (fun j => if j = k then u else f j) N) := by
  obtain ⟨h1, h2⟩ := h
  rw [lst_len] at h2
  rcases h2 with ⟨rfl, h0⟩ | ⟨g, cap, cur, rfl, hg, hb, hn, hm, hs, hc⟩
  · omega
  have hB : Blk w g 3 cur := hb
  have hlt : k < cur.size := by omega
  refine ⟨g, cap, cur[k], rfl, hg, hB.lt, by rw [hB.cell, Array.getElem?_eq_getElem hlt], hB.frozen k, ?_, ?_⟩
  · simp [lst_len]
  · rw [lst_len]
    refine .inr ⟨g, cap, cur.setIfInBounds k (.int .i64 u), rfl, hg, hB.set_ k _, hn, hm, by simpa using hs, ?_⟩
    apply List.ext_getElem?
    intro j
    have hcj : (cur.toList.take (N * 1))[j]? = ((lst f N).map (Value.int .i64))[j]? := by rw [hc]
    rw [List.getElem?_take] at hcj ⊢
    by_cases hj : j < N * 1
    · rw [if_pos hj] at hcj ⊢
      rw [Array.toList_setIfInBounds, List.getElem?_set]
      have hl1 : ((lst f N).map (Value.int .i64))[j]? = some (.int .i64 (f j)) := by
        unfold lst; rw [List.getElem?_map, List.getElem?_map, List.getElem?_range (by omega)]; rfl
      have hl2 : ((lst (fun j => if j = k then u else f j) N).map (Value.int .i64))[j]? = some (.int .i64 (if j = k then u else f j)) := by
        unfold lst; rw [List.getElem?_map, List.getElem?_map, List.getElem?_range (by omega)]; rfl
      rw [hl2]
      by_cases ej : k = j
      · subst ej
        rw [if_pos rfl, if_pos rfl, if_pos (by simpa using hlt)]
      · rw [if_neg ej, if_neg (fun h => ej h.symm), hcj, hl1]
    · rw [if_neg hj]
      symm
      rw [List.getElem?_eq_none_iff]
      simp [lst_len]; omega
theorem Row.made {w : World} {S n : Nat} (h : Blk w S 3 (madeCells #[.int .i64 0] n)) : Row w S n (fun _ => 0) := by
  have e : madeCells #[Value.int .i64 0] n = Array.replicate n (.int .i64 0) := by
    apply Array.toList_inj.1
    simp [madeCells, Nat.mod_one, List.map_const']
  rw [e] at h
  exact Row.const h
end Go.Proofs.Pet
