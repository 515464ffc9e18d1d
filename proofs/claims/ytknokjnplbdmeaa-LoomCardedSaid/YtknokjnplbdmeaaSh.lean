/-
  What each law's row asks of the program as a whole.
-/
import Derived.Test.YtknokjnplbdmeaaP20
import Derived.Test.YtknokjnplbdmeaaRows
namespace Go.Proofs.Pet
open Go Go.ChangeShapes Go.WideShapes Go.ChangeAt Go.RowKit
theorem ownKnob_ : ownKnob Try.prog.godebug = none := by kernel_rfl
theorem laidOut_ : laidOutB Try.prog = true := by kernel_rfl
end Go.Proofs.Pet
