/-
  The opening of the laws of power that look at the reference: Own and theirs, in whatever order the boxes are made.
-/
import Derived.Test.YtjlglbhafopomaaGreatPE8
namespace Go.Proofs.Pet
open Go Go.RowKit Go.Maps Go.Shelf
open Go.Proofs.Pow (PM Sh Wv POk Up)

/-- what is known of the operations done so far: F k of the value of the operation k -/
def StgF (w0 : World) (F : Nat → World → Value → Prop) (Ld : Nat → Prop) (x : Nat → Value) (W : World) : Prop := Ext w0 W ∧ ∀ k, Ld k → F k W (x k)
theorem StgF.start {w0 : World} {F : Nat → World → Value → Prop} (x : Nat → Value) : StgF w0 F (fun _ => False) x w0.drew := ⟨Ext.drew _, fun _ h => h.elim⟩
theorem StgF.step {w0 W W' : World} {F : Nat → World → Value → Prop} {Ld : Nat → Prop} {x : Nat → Value} (hF : ∀ k W W' v, Ext W W' → F k W v → F k W' v) (h : StgF w0 F Ld x W) (he : Ext W W') (k : Nat) (v : Value) (hv : F k W' v) : StgF w0 F (fun j => Ld j ∨ j = k) (upd x k v) W' := by
  refine ⟨h.1.trans he, fun j hj => ?_⟩
  by_cases e : j = k
  · subst e
    have : upd x j v j = v := by unfold upd; rw [if_pos rfl]
    rw [this]; exact hv
  · have : upd x k v j = x j := by unfold upd; rw [if_neg e]
    rw [this]
    exact hF j _ _ _ he (h.2 j (hj.resolve_right e))
def BoxP (t : TypeId) (b : Nat) (W : World) (v : Value) : Prop := ∃ g, v = .pointer (some ⟨g, 0, none⟩) ∧ b ≤ g ∧ Blk W g t #[.slice none 0 0, .slice none 0 0]
theorem BoxP.ext {t : TypeId} {b : Nat} {W W' : World} {v : Value} (h : BoxP t b W v) (he : Ext W W') : BoxP t b W' v := by
  obtain ⟨g, e, h1, h2⟩ := h
  exact ⟨g, e, h1, h2.ext he⟩
theorem BoxP.new {t : TypeId} {b : Nat} {W : World} (h : b ≤ W.heap.size) : BoxP t b (W.alloc (.cells #[.slice none 0 0, .slice none 0 0] t)) (.pointer (some ⟨W.heap.size, 0, none⟩)) := ⟨_, rfl, h, Blk.new W t _⟩
/-- the operations of the opening: own copy a, the reference's b, the boxes c and d -/
def OpenF (a b c d : Nat) (w0 : World) (m : PM) (k : Nat) (W : World) (v : Value) : Prop :=
  (k = a → OwnPM W w0.heap.size v m) ∧ (k = b → TheirM w0 W w0.heap.size v m) ∧ (k = c → BoxP 26 w0.heap.size W v) ∧ (k = d → BoxP 54 w0.heap.size W v)
/-- both boxes written: what then stands -/
theorem opened_stored {w0 W : World} {g g' : Nat} {m : PM} {s1 s2 r1 r2 : Value} (hX : Ext w0 W) (hg : w0.heap.size ≤ g) (hg' : w0.heap.size ≤ g') (b4 : Blk W g 26 #[.slice none 0 0, .slice none 0 0]) (b5 : Blk W g' 54 #[.slice none 0 0, .slice none 0 0])
    (hO : OwnPM W w0.heap.size (.agg #[s1, s2]) m) (hT : TheirM w0 W w0.heap.size (.agg #[r1, r2]) m) :
    ∃ W2, W2 = (((W.setCell ⟨g, 0, none⟩ s1).setCell ⟨g, 1, none⟩ s2).setCell ⟨g', 0, none⟩ r1).setCell ⟨g', 1, none⟩ r2 ∧ Ext w0 W2 ∧ Blk W2 g 26 #[s1, s2] ∧ Blk W2 g' 54 #[r1, r2] ∧ OwnPM W2 w0.heap.size (.agg #[s1, s2]) m ∧ TheirM w0 W2 w0.heap.size (.agg #[r1, r2]) m := by
  have hne : g ≠ g' := b4.ne_ b5 (by decide)
  have hap1 : Apart g W ((W.setCell ⟨g, 0, none⟩ s1).setCell ⟨g, 1, none⟩ s2) := ((Apart.refl g W).set_ 0 _).set_ 1 _
  have p4 : Blk ((W.setCell ⟨g, 0, none⟩ s1).setCell ⟨g, 1, none⟩ s2) g 26 #[s1, s2] := by simpa using (b4.set_ 0 s1).set_ 1 s2
  have p5 : Blk ((W.setCell ⟨g, 0, none⟩ s1).setCell ⟨g, 1, none⟩ s2) g' 54 #[.slice none 0 0, .slice none 0 0] := (b5.far (by show g' ≠ g; exact fun h => hne h.symm) _).far (by show g' ≠ g; exact fun h => hne h.symm) _
  have hE1 := Below.setCell (Below.setCell hX (p := ⟨g, 0, none⟩) hg s1) (p := ⟨g, 1, none⟩) hg s2
  have hO1 : OwnPM ((W.setCell ⟨g, 0, none⟩ s1).setCell ⟨g, 1, none⟩ s2) w0.heap.size (.agg #[s1, s2]) m := by
    obtain ⟨x1, x2, e, h1, cs, h2, h3⟩ := hO
    exact ⟨x1, x2, e, ownsRow_apart h1 (fun e => ownsRow_ne_blk h1 b4 (by decide) e.symm) hap1, cs, ownsRow_apart h2 (fun e => ownsRow_ne_blk h2 b4 (by decide) e.symm) hap1, h3.map fun _ _ q => OwnI.apart q (fun e => OwnI.ne_blk q b4 (by decide) e.symm) hap1⟩
  have hT1 := hT.apart b4 (by decide) (by decide) hap1
  generalize (W.setCell _ _).setCell _ _ = W1 at *
  have hap2 : Apart g' W1 ((W1.setCell ⟨g', 0, none⟩ r1).setCell ⟨g', 1, none⟩ r2) := ((Apart.refl g' W1).set_ 0 _).set_ 1 _
  refine ⟨_, rfl, Below.setCell (Below.setCell hE1 (p := ⟨g', 0, none⟩) hg' r1) (p := ⟨g', 1, none⟩) hg' r2, (p4.far (by show g ≠ g'; exact hne) _).far (by show g ≠ g'; exact hne) _, by simpa using (p5.set_ 0 r1).set_ 1 r2, ?_, hT1.apart p5 (by decide) (by decide) hap2⟩
  obtain ⟨x1, x2, e, h1, cs, h2, h3⟩ := hO1
  exact ⟨x1, x2, e, ownsRow_apart h1 (fun e => ownsRow_ne_blk h1 p5 (by decide) e.symm) hap2, cs, ownsRow_apart h2 (fun e => ownsRow_ne_blk h2 p5 (by decide) e.symm) hap2, h3.map fun _ _ q => OwnI.apart q (fun e => OwnI.ne_blk q p5 (by decide) e.symm) hap2⟩
end Go.Proofs.Pet
