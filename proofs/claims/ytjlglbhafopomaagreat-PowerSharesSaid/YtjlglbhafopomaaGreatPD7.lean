/-
  slices.ContainsFunc at [][]int, slices.Clone at []power.Sight; PowerSeen walked.
-/
import Derived.Test.YtjlglbhafopomaaGreatPD6
namespace Go.Proofs.Pet
set_option linter.unusedSimpArgs false
open Go Go.RowKit Go.Maps Go.Shelf
open Go.Proofs.Pow (PM Sh Wv POk Up sightF explB hitL clrB clashB)

/-- a list of sights in a block of its own -/
def SRow (w : World) (g W : Nat) (l : List Int) : Prop := ∃ cs, Blk w g 36 cs ∧ W ≤ cs.size ∧ l.length = W ∧ ∀ j, j < W → cs[j]? = some (.int .i64 (l[j]?.getD 0))
end Go.Proofs.Pet
