/-
  Rows of a table, as the law compares them.
  loom.Made, walked.
  loom.Made, walked: the table.
-/
import Derived.Test.YtknokjnplbdmeaaGreatU10
namespace Go.Proofs.Pet
open Go Go.RowKit Go.Maps Go.Shelf

def rowsC (m : Mill) (i N : Nat) : List (List Int) := (List.range N).map fun s => lst (costC m i s) m.orders.length
theorem rowsC_len (m : Mill) (i N : Nat) : (rowsC m i N).length = N := by unfold rowsC; simp
theorem rowsC_succ (m : Mill) (i N : Nat) : rowsC m i (N + 1) = rowsC m i N ++ [lst (costC m i N) m.orders.length] := by
  unfold rowsC; rw [List.range_succ, List.map_append]; rfl
theorem rowsC_get (m : Mill) (i : Nat) {N s : Nat} (hs : s < N) : (rowsC m i N)[s]?.getD [] = lst (costC m i s) m.orders.length := by
  unfold rowsC; rw [List.getElem?_map, List.getElem?_range hs]; rfl
theorem Rows2.rows {w : World} {base s : Nat} {v : Value} {R : Nat → Nat} {m : Mill} {i : Nat} (h : Rows2 w base v s m.orders.length R (costC m i)) (h0 : 0 < s) (hn : m.orders.length ≤ maxLen) (_hs : s ≤ maxLen) : RowsI w v (rowsC m i s) := by
  rcases h.own.2 with ⟨_, e⟩ | ⟨g, cap, cur, rfl, hg, hb, hn1, hm1, hs1, hc1⟩
  · omega
  refine ⟨some ⟨g, 0, none⟩, cap, by rw [rowsC_len], by rw [rowsC_len]; exact hn1, hm1, fun j hj => ?_⟩
  rw [rowsC_len] at hj
  obtain ⟨b, c, e1, _, e2⟩ := ownsRow_at h.own hj
  simp only [Value.slice.injEq, Option.some.injEq, Addr.mk.injEq, and_true, true_and] at e1
  obtain ⟨rfl, rfl⟩ := e1
  have hr := (h.row j hj).2
  refine ⟨g, 0, .slice (some ⟨R j, 0, none⟩) m.orders.length m.orders.length, rfl, ?_, some ⟨R j, 0, none⟩, m.orders.length, ?_, ?_, hn, ?_⟩
  · rw [Nat.zero_add, e2, List.getElem?_map, List.getElem?_range hj]; rfl
  · rw [rowsC_get m i hj, lst_len]
  · rw [rowsC_get m i hj, lst_len]; exact Nat.le_refl _
  · rw [rowsC_get m i hj]; exact hr.ints
theorem OwnR.far {w : World} {base b : Nat} {v u : Value} {k : Nat} {xss : List (List Int)} {cs : Array Value} (h : OwnR w base v xss) (hb : Blk w b 30 cs) : OwnR (w.setCell ⟨b, k, none⟩ u) base v xss := by
  have hI : ∀ x xs, OwnI w base 3 x xs → OwnI (w.setCell ⟨b, k, none⟩ u) base 3 x xs := fun x xs hx => by
    obtain ⟨h1, h2⟩ := hx
    refine ⟨h1, ?_⟩
    rcases h2 with h2 | ⟨q, cap, cur, rfl, hg, hB, r⟩
    · exact .inl h2
    · exact .inr ⟨q, cap, cur, rfl, hg, Blk.far (p := ⟨b, k, none⟩) hB (Blk.ne_ hB hb (by decide)) u, r⟩
  obtain ⟨vs, ⟨h1, h2⟩, h3, h4⟩ := h
  refine ⟨vs, ⟨h1, ?_⟩, h3, fun i hi => hI _ _ (h4 i hi)⟩
  rcases h2 with h2 | ⟨q, cap, cur, rfl, hg, hB, r⟩
  · exact .inl h2
  · exact .inr ⟨q, cap, cur, rfl, hg, Blk.far (p := ⟨b, k, none⟩) hB (Blk.ne_ hB hb (by decide)) u, r⟩
end Go.Proofs.Pet

namespace Go.Proofs.Pet
open Go Go.RowKit Go.Maps Go.Shelf

set_option maxRecDepth 20000 in
theorem madeErr_any (v : Value) (m : Mill) (r : Int) (hr : checkE m = r) (h0 : r ≠ 0) (w : World) (hv : MillVal w v m) :
    Calls Tryz.prog 22 #[v] w fun e w' => e = .returned (.tuple #[.slice none 0 0, .int .i64 r]) ∧ Ext w w' := by
  have Hv := Lib.hid hv
  obtain ⟨A1, c1, A2, c2, rfl, h2, h3, h4, h5, h6, h7⟩ := hv
  have hE := Ext.alloc w (.cells #[.slice A1 m.laced.length c1, .int .i64 m.change, .slice A2 m.orders.length c2] 25)
  have hM := Blk.new w 25 #[.slice A1 m.laced.length c1, .int .i64 m.change, .slice A2 m.orders.length c2]
  have hop := Lib.hid (openedErr _ m r hr h0 _ (Hv.out.ext hE))
  have hd : (r != 0) = true := by simpa using h0
  have H0 := Lib.hid h0
  clear h2 h3 h4 h5 h6 h7 h0 hr
  obtain ⟨k0, k1, k2⟩ := hM.c3
  go_enter Tryz.func22, Tryz.ntmps22
  go_wp2_with fail
  refine hop.out.mono ?_
  rintro e w1 ⟨rfl, he1⟩
  have hE1 := hE.trans he1
  go_wp2_with fail
  go_ret2
  exact ⟨rfl, hE1⟩
end Go.Proofs.Pet

namespace Go.Proofs.Pet
open Go Go.RowKit Go.Maps Go.Shelf

/-- a table being made: the array of tables, each of its own rows, no two in one array -/
def TabIn (w : World) (base S L : Nat) (X : Nat → List (List Int)) : Prop :=
  ∃ cs : Array Value, Blk w S 30 cs ∧ cs.size = L ∧ (∀ i, i < L → ∃ u, cs[i]? = some u ∧ OwnR w base u (X i)) ∧
    ∀ i j u v, i < L → j < L → i ≠ j → cs[i]? = some u → cs[j]? = some v → ∀ g, u.ownBlock = some g → v.ownBlock ≠ some g
theorem TabIn.ext {w w' : World} {base S L : Nat} {X : Nat → List (List Int)} (h : TabIn w base S L X) (he : Ext w w') : TabIn w' base S L X := by
  obtain ⟨cs, h1, h2, h3, h4⟩ := h
  exact ⟨cs, h1.ext he, h2, fun i hi => by obtain ⟨u, g1, g2⟩ := h3 i hi; exact ⟨u, g1, g2.ext he⟩, h4⟩
theorem TabIn.mono {w : World} {base base' S L : Nat} {X : Nat → List (List Int)} (h : TabIn w base S L X) (hb : base' ≤ base) : TabIn w base' S L X := by
  obtain ⟨cs, h1, h2, h3, h4⟩ := h
  exact ⟨cs, h1, h2, fun i hi => by obtain ⟨u, g1, g2⟩ := h3 i hi; exact ⟨u, g1, g2.mono hb⟩, h4⟩
theorem TabIn.congr {w : World} {base S L : Nat} {X Y : Nat → List (List Int)} (h : TabIn w base S L X) (e : ∀ i, i < L → X i = Y i) : TabIn w base S L Y := by
  obtain ⟨cs, h1, h2, h3, h4⟩ := h
  exact ⟨cs, h1, h2, fun i hi => by obtain ⟨u, g1, g2⟩ := h3 i hi; exact ⟨u, g1, e i hi ▸ g2⟩, h4⟩
theorem TabIn.at {w : World} {base S L : Nat} {X : Nat → List (List Int)} (h : TabIn w base S L X) {i : Nat} (hi : i < L) : ∃ u, w.cell? ⟨S, i, none⟩ = some u ∧ w.frozen? ⟨S, i, none⟩ = false ∧ OwnR w base u (X i) := by
  obtain ⟨cs, h1, h2, h3, _⟩ := h
  obtain ⟨u, g1, g2⟩ := h3 i hi
  exact ⟨u, by rw [h1.cell, g1], h1.frozen i, g2⟩
/-- a row more in one of the tables -/
theorem TabIn.push {w w' : World} {base S L n : Nat} {X : Nat → List (List Int)} (h : TabIn w base S L X) {i : Nat} (hi : i < L) {u v' r : Value} {row : List Int} {vs : List Value} (hu : w.cell? ⟨S, i, none⟩ = some u) (hn : (X i).length = n)
    (hv : w.ownsRow base 22 1 u n vs) (hl : vs.length = n) (hr : ∀ j, j < n → OwnI w base 3 (vs[j]?.getD undef) ((X i)[j]?.getD [])) (hrow : OwnI w base 3 r row)
    (hown : w'.ownsRow base 22 1 v' (n + 1) (vs ++ [r])) (hg : w.grownBy w' u.ownBlock) (hblk : v'.ownBlock = u.ownBlock ∨ v'.ownBlock = some w.heap.size) :
    w'.cell? ⟨S, i, none⟩ = some u ∧ w'.frozen? ⟨S, i, none⟩ = false ∧ TabIn (w'.setCell ⟨S, i, none⟩ v') base S L (fun j => if j = i then X i ++ [row] else X j) := by
  obtain ⟨cs, h1, h2, h3, h4⟩ := h
  have hS : some S ≠ u.ownBlock := ownsRow_ne_blk hv h1 (by decide)
  have h1' := h1.grown hg hS
  have hui : cs[i]? = some u := by rw [← h1.cell]; exact hu
  refine ⟨by rw [h1'.cell, hui], h1'.frozen i, cs.setIfInBounds i v', h1'.set_ i v', by simpa using h2, fun j hj => ?_, ?_⟩
  · by_cases e : j = i
    · subst e
      refine ⟨v', by rw [Array.getElem?_setIfInBounds, if_pos rfl, if_pos (by omega)], ?_⟩
      show OwnR _ _ _ (if j = j then X j ++ [row] else X j)
      rw [if_pos rfl]
      exact (OwnR.push hn hv hl hr hrow hown hg).far h1'
    · obtain ⟨x, g1, g2⟩ := h3 j hj
      refine ⟨x, by rw [Array.getElem?_setIfInBounds, if_neg (fun h => e h.symm)]; exact g1, ?_⟩
      show OwnR _ _ _ (if j = i then X i ++ [row] else X j)
      rw [if_neg e]
      exact (g2.grown hg hv fun g hg' he => h4 j i x u hj hi e g1 hui g hg' he.symm).far h1'
  · have hlt : ∀ j x, j < L → cs[j]? = some x → x.ownBlock ≠ some w.heap.size := fun j x hj hx he => by
      obtain ⟨y, g1, ys, g2, _⟩ := h3 j hj
      rw [hx] at g1
      cases g1
      have := (own_ge2 g2 _ he).2
      omega
    intro j k x y hj hk hne hx hy g hg1 hg2
    rw [Array.getElem?_setIfInBounds] at hx hy
    by_cases e1 : i = j
    · subst e1
      rw [if_pos rfl, if_pos (by omega)] at hx
      rw [if_neg hne] at hy
      cases hx
      rcases hblk with hb | hb
      · rw [hb] at hg1
        exact h4 i k u y hj hk hne hui hy g hg1 hg2
      · rw [hb] at hg1
        exact hlt k y hk hy (hg1 ▸ hg2)
    · rw [if_neg e1] at hx
      by_cases e2 : i = k
      · subst e2
        rw [if_pos rfl, if_pos (by omega)] at hy
        cases hy
        rcases hblk with hb | hb
        · rw [hb] at hg2
          exact h4 j i x u hj hk hne hx hui g hg1 hg2
        · rw [hb] at hg2
          exact hlt j x hj hx (hg2 ▸ hg1)
      · rw [if_neg e2] at hy
        exact h4 j k x y hj hk hne hx hy g hg1 hg2
end Go.Proofs.Pet
