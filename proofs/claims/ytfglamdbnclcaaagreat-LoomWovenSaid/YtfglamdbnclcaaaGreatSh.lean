/-
  What each law's row asks of the program as a whole.
-/
import Derived.Test.YtfglamdbnclcaaaGreatP20
import Derived.Test.YtfglamdbnclcaaaGreatRows
namespace Go.Proofs.Pet
open Go Go.ChangeShapes Go.WideShapes Go.ChangeAt Go.RowKit
theorem ownKnob_ : ownKnob Tryz.prog.godebug = none := by kernel_rfl
theorem laidOut_ : laidOutB Tryz.prog = true := by kernel_rfl
end Go.Proofs.Pet
