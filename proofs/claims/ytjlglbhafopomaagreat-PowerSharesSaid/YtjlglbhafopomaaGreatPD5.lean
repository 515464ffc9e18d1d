/-
  law7's Stopped walked: sights of belts that really slipped.
-/
import Derived.Test.YtjlglbhafopomaaGreatPCJ
import Derived.Test.YtjlglbhafopomaaGreatSJ
namespace Go.Proofs.Pet
open Go Go.RowKit Go.Maps Go.Shelf
open Go.Proofs.Pow (PM Sh Wv POk Up sightF explB hitL)

/-- sights as they are made -/
def SawT (m : PM) (real : List Nat) (l : List Int) : Prop := ∀ k, k < l.length → l[k]?.getD 0 = 0 ∨ l[k]?.getD 0 = if hitL m real k then 2 else 1
end Go.Proofs.Pet
