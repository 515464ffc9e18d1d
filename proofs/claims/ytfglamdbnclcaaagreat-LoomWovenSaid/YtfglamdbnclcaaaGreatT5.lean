/-
  A mill that shares no memory with another one: owned.
  loom.Without: a mill without some orders.
-/
import Derived.Test.YtfglamdbnclcaaaGreatR2
import Derived.Test.YtfglamdbnclcaaaGreatR5
import Derived.Test.YtfglamdbnclcaaaGreatV4
import Derived.Test.YtfglamdbnclcaaaGreatO3
namespace Go.Proofs.Pet
set_option linter.unusedSimpArgs false
open Go Go.RowKit Go.Maps Go.Shelf

/-- a copy of orders in a row of the call's own, of which the first K have lists of their own -/
structure OwnedAt (w W : World) (base S : Nat) (os : List Ord) (cs : List Value) (K : Nat) (cur : Array Value) (f : Nat → Value) : Prop where
  blk : Blk W S 28 cur
  size : cur.size = (os.length + 1) * 4
  cells : OrdCur cur os f K
  rest : ∀ j, K ≤ j → j < os.length → cur[j * 4 + 3]? = cs[j * 4 + 3]?
  lists : ∀ j, j < K → OwnI W base 3 (f j) (os[j]?.getD default).on
end Go.Proofs.Pet

namespace Go.Proofs.Pet
set_option linter.unusedSimpArgs false
open Go Go.RowKit Go.Maps Go.Shelf

/-- the orders below n that are not listed -/
def withoutL (m : Mill) (xs : List Int) (n : Nat) : List Ord := ((List.range n).filter fun k : Nat => !xs.contains (k : Int)).map fun k => m.orders[k]?.getD default
def Mill.without (m : Mill) (xs : List Int) : Mill := ⟨m.laced, m.change, withoutL m xs m.orders.length⟩
end Go.Proofs.Pet
