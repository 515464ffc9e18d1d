/-
  Rows of the call's own that are cleared, a map of numbers that are met; mills of power whose hours are whatever they are.
-/
import Derived.Test.YtjlglbhafopomaaGreatPE9
import Derived.Test.YtjlglbhafopomaaGreatPDK
namespace Go.Proofs.Pet
open Go Go.RowKit Go.Maps Go.Shelf
open Go.Proofs.Pow (PM Sh Wv POk Up)

def GoneMap (w : World) (M cnt : Nat) (f : Nat → Bool) : Prop :=
  ∃ D : DataW Unit, w.ownsMap Tryz.prog 3 (plainElem Tryz.prog 4) M cnt D ∧ ∀ s : Nat, D.atKey (.int .i64 s) (.lit (.bool false)) = .lit (.bool (f s))
/-! clear -/
/-- a row that is the call's own is overwritten -/
def Wiped (w w' : World) (v : Value) (e : TypeId) : Prop :=
  w' = w ∨ ∃ (g : Nat) (cur cur' : Array Value), v.ownBlock = some g ∧ w.heap[g]? = some (.cells cur e (0, 0)) ∧ cur'.size = cur.size ∧ w' = w.setRow g cur'
/-- a list of numbers of the call's own, whatever they are -/
def RowN (w : World) (base : Nat) (v : Value) (n : Nat) : Prop := ∃ xs, w.ownsRow base 3 1 v n xs
/-- weavers of the call's own, whose hours are whatever they are -/
def ClrW (w : World) (base : Nat) (v : Value) (ys : List Wv) : Prop := ∃ cs, w.ownsRow base 82 2 v ys.length cs ∧ WvF (fun u x => RowN w base u x.hours.length) cs ys
end Go.Proofs.Pet
