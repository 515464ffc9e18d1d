/-
  loom.Made, walked: the table.
-/
import Derived.Test.YtknokjnplbdmeaaU12
namespace Go.Proofs.Pet
open Go Go.RowKit Go.Maps Go.Shelf

/-- a table being made: the array of tables, each of its own rows, no two in one array -/
def TabIn (w : World) (base S L : Nat) (X : Nat → List (List Int)) : Prop :=
  ∃ cs : Array Value, Blk w S 62 cs ∧ cs.size = L ∧ (∀ i, i < L → ∃ u, cs[i]? = some u ∧ OwnR w base u (X i)) ∧
    ∀ i j u v, i < L → j < L → i ≠ j → cs[i]? = some u → cs[j]? = some v → ∀ g, u.ownBlock = some g → v.ownBlock ≠ some g
theorem TabIn.ext {w w' : World} {base S L : Nat} {X : Nat → List (List Int)} (h : TabIn w base S L X) (he : Ext w w') : TabIn w' base S L X := by
  obtain ⟨cs, h1, h2, h3, h4⟩ := h
  exact ⟨cs, h1.ext he, h2, fun i hi => by obtain ⟨u, g1, g2⟩ := h3 i hi; exact ⟨u, g1, g2.ext he⟩, h4⟩
theorem TabIn.mono {w : World} {base base' S L : Nat} {X : Nat → List (List Int)} (h : TabIn w base S L X) (hb : base' ≤ base) : TabIn w base' S L X := by
  obtain ⟨cs, h1, h2, h3, h4⟩ := h
  exact ⟨cs, h1, h2, fun i hi => by obtain ⟨u, g1, g2⟩ := h3 i hi; exact ⟨u, g1, g2.mono hb⟩, h4⟩
theorem TabIn.congr {w : World} {base S L : Nat} {X Y : Nat → List (List Int)} (h : TabIn w base S L X) (e : ∀ i, i < L → X i = Y i) : TabIn w base S L Y := by
  obtain ⟨cs, h1, h2, h3, h4⟩ := h
  exact ⟨cs, h1, h2, fun i hi => by obtain ⟨u, g1, g2⟩ := h3 i hi; exact ⟨u, g1, e i hi ▸ g2⟩, h4⟩
theorem TabIn.at {w : World} {base S L : Nat} {X : Nat → List (List Int)} (h : TabIn w base S L X) {i : Nat} (hi : i < L) : ∃ u, w.cell? ⟨S, i, none⟩ = some u ∧ w.frozen? ⟨S, i, none⟩ = false ∧ OwnR w base u (X i) := by
  obtain ⟨cs, h1, h2, h3, _⟩ := h
  obtain ⟨u, g1, g2⟩ := h3 i hi
  exact ⟨u, by rw [h1.cell, g1], h1.frozen i, g2⟩
/-- a row more in one of the tables -/
theorem TabIn.push {w w' : World} {base S L n : Nat} {X : Nat → List (List Int)} (h : TabIn w base S L X) {i : Nat} (hi : i < L) {u v' r : Value} {row : List Int} {vs : List Value} (hu : w.cell? ⟨S, i, none⟩ = some u) (hn : (X i).length = n)
    (hv : w.ownsRow base 22 1 u n vs) (hl : vs.length = n) (hr : ∀ j, j < n → OwnI w base 3 (vs[j]?.getD undef) ((X i)[j]?.getD [])) (hrow : OwnI w base 3 r row)
    (hown : w'.ownsRow base 22 1 v' (n + 1) (vs ++ [r])) (hg : w.grownBy w' u.ownBlock) (hblk : v'.ownBlock = u.ownBlock ∨ v'.ownBlock = some w.heap.size) :
    w'.cell? ⟨S, i, none⟩ = some u ∧ w'.frozen? ⟨S, i, none⟩ = false ∧ TabIn (w'.setCell ⟨S, i, none⟩ v') base S L (fun j => if j = i then X i ++ [row] else X j) := by
  obtain ⟨cs, h1, h2, h3, h4⟩ := h
  have hS : some S ≠ u.ownBlock := ownsRow_ne_blk hv h1 (by decide)
  have h1' := h1.grown hg hS
  have hui : cs[i]? = some u := by rw [← h1.cell]; exact hu
  refine ⟨by rw [h1'.cell, hui], h1'.frozen i, cs.setIfInBounds i v', h1'.set_ i v', by simpa using h2, fun j hj => ?_, ?_⟩
  · by_cases e : j = i
    · subst e
      refine ⟨v', by rw [Array.getElem?_setIfInBounds, if_pos rfl, if_pos (by omega)], ?_⟩
      show OwnR _ _ _ (if j = j then X j ++ [row] else X j)
      rw [if_pos rfl]
      exact (OwnR.push hn hv hl hr hrow hown hg).far h1'
    · obtain ⟨x, g1, g2⟩ := h3 j hj
      refine ⟨x, by rw [Array.getElem?_setIfInBounds, if_neg (fun h => e h.symm)]; exact g1, ?_⟩
      show OwnR _ _ _ (if j = i then X i ++ [row] else X j)
      rw [if_neg e]
      exact (g2.grown hg hv fun g hg' he => h4 j i x u hj hi e g1 hui g hg' he.symm).far h1'
  · have hlt : ∀ j x, j < L → cs[j]? = some x → x.ownBlock ≠ some w.heap.size := fun j x hj hx he => by
      obtain ⟨y, g1, ys, g2, _⟩ := h3 j hj
      rw [hx] at g1
      cases g1
      have := (own_ge2 g2 _ he).2
      omega
    intro j k x y hj hk hne hx hy g hg1 hg2
    rw [Array.getElem?_setIfInBounds] at hx hy
    by_cases e1 : i = j
    · subst e1
      rw [if_pos rfl, if_pos (by omega)] at hx
      rw [if_neg hne] at hy
      cases hx
      rcases hblk with hb | hb
      · rw [hb] at hg1
        exact h4 i k u y hj hk hne hui hy g hg1 hg2
      · rw [hb] at hg1
        exact hlt k y hk hy (hg1 ▸ hg2)
    · rw [if_neg e1] at hx
      by_cases e2 : i = k
      · subst e2
        rw [if_pos rfl, if_pos (by omega)] at hy
        cases hy
        rcases hblk with hb | hb
        · rw [hb] at hg2
          exact h4 j i x u hj hk hne hx hui g hg1 hg2
        · rw [hb] at hg2
          exact hlt j x hj hx (hg2 ▸ hg1)
      · rw [if_neg e2] at hy
        exact h4 j k x y hj hk hne hx hy g hg1 hg2
end Go.Proofs.Pet
