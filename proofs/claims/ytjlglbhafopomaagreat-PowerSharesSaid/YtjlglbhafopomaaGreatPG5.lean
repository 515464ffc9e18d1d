/-
  Dup, Equal, Eq of sights, walked; the opening of a statement that compares: own copy, the reference's mill, copies of the lists, boxes.
-/
import Derived.Test.YtjlglbhafopomaaGreatPF0
import Derived.Test.YtjlglbhafopomaaGreatPD7
namespace Go.Proofs.Pet
open Go Go.RowKit Go.Maps Go.Shelf
open Go.Proofs.Pow (PM Sh Wv POk Up)

theorem great_bd {m : PM} (h : greatP m = false) : m.shafts.length ≤ 14 ∧ m.wvs.length ≤ 10 ∧ ∀ k, k < m.wvs.length → (m.wv k).hours.length ≤ 30 := by
  unfold greatP at h
  simp only [Bool.or_eq_false_iff, decide_eq_false_iff_not] at h
  refine ⟨by omega, by omega, fun k hk => ?_⟩
  have := List.any_eq_false.1 h.1.1 (m.wv k) (wv_mem hk)
  simpa using this
/-- the operations of the opening: own copy a, the reference's b, the boxes c and d, copies of lists by D -/
def OpenG (a b c d : Nat) (D : Nat → Option (TypeId × List Int)) (w0 : World) (m : PM) (k : Nat) (W : World) (v : Value) : Prop :=
  (k = a → OwnPM W w0.heap.size v m) ∧ (k = b → TheirM w0 W w0.heap.size v m) ∧ (k = c → BoxP 26 w0.heap.size W v) ∧ (k = d → BoxP 54 w0.heap.size W v) ∧ ∀ t l, D k = some (t, l) → OwnI W w0.heap.size t v l
theorem OpenG.ext {a b c d : Nat} {D : Nat → Option (TypeId × List Int)} {w0 : World} {m : PM} : ∀ k W W' v, Ext W W' → OpenG a b c d D w0 m k W v → OpenG a b c d D w0 m k W' v :=
  fun _ _ _ _ he ⟨h1, h2, h3, h4, h5⟩ => ⟨fun e => (h1 e).ext he, fun e => (h2 e).ext he, fun e => (h3 e).ext he, fun e => (h4 e).ext he, fun t l e => (h5 t l e).ext he⟩
theorem OwnI.opened {W : World} {base g g' : Nat} {t : TypeId} {v s1 s2 r1 r2 : Value} {xs : List Int} {c4 c5 : Array Value} (h : OwnI W base t v xs) (b4 : Blk W g 26 c4) (b5 : Blk W g' 54 c5) (n1 : 26 ≠ t) (n2 : 54 ≠ t) :
    OwnI ((((W.setCell ⟨g, 0, none⟩ s1).setCell ⟨g, 1, none⟩ s2).setCell ⟨g', 0, none⟩ r1).setCell ⟨g', 1, none⟩ r2) base t v xs := by
  have hne : g ≠ g' := b4.ne_ b5 (by decide)
  have hap1 : Apart g W ((W.setCell ⟨g, 0, none⟩ s1).setCell ⟨g, 1, none⟩ s2) := ((Apart.refl g W).set_ 0 _).set_ 1 _
  have p5 : Blk ((W.setCell ⟨g, 0, none⟩ s1).setCell ⟨g, 1, none⟩ s2) g' 54 c5 := (b5.far (by show g' ≠ g; exact fun h => hne h.symm) _).far (by show g' ≠ g; exact fun h => hne h.symm) _
  have h1 := OwnI.apart h (fun e => OwnI.ne_blk h b4 n1 e.symm) hap1
  generalize (W.setCell _ _).setCell _ _ = W1 at *
  have hap2 : Apart g' W1 ((W1.setCell ⟨g', 0, none⟩ r1).setCell ⟨g', 1, none⟩ r2) := ((Apart.refl g' W1).set_ 0 _).set_ 1 _
  exact OwnI.apart h1 (fun e => OwnI.ne_blk h1 p5 n2 e.symm) hap2
end Go.Proofs.Pet
