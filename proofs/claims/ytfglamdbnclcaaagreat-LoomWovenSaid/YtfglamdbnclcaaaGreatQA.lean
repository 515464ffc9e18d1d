/-
  Contracts of functions, each proved once.
-/
import Derived.Test.YtfglamdbnclcaaaGreatP17
namespace Go.Proofs.Pet
open Go Go.RowKit Go.Maps Go.Shelf

theorem all_take_snoc (xs : List Int) (p : Int → Bool) {k : Nat} (hk : k < xs.length) : (xs.take (k + 1)).all p = ((xs.take k).all p && p (xs[k]?.getD 0)) := by
  rw [List.take_succ_eq_append_getElem hk, List.all_append]
  simp [hk]
end Go.Proofs.Pet

namespace Go.Proofs.Pet
open Go Go.RowKit Go.Maps Go.Shelf

/-- the errors of looms and a day -/
def crowdC (m : Mill) (looms : List Int) (b : Int) : Int :=
  if (looms.all fun k => inB k 0 (m.laced.length - 1)) = false then 1 else if looms.length = 0 ∨ risingB looms = false then 4 else if inB b 1 99 = false then 3 else 0
/-- what Over answers -/
def overE (m : Mill) (looms : List Int) (b : Int) : Int × Int :=
  if checkE m ≠ 0 then (0, checkE m) else if crowdC m looms b ≠ 0 then (0, crowdC m looms b) else if overF m looms b m.orders.length < 1 then (0, 6) else (overF m looms b m.orders.length, 0)
/-- what Crowded answers, whatever the mill -/
def crowE (m : Mill) : Nat × Nat := if checkE m = 0 then crBy m (2 ^ m.laced.length - 1) 99 else (0, 0)
end Go.Proofs.Pet
