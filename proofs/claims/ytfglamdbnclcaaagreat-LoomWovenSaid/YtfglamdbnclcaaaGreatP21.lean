/-
  Contracts of functions, each proved once.
-/
import Derived.Test.YtfglamdbnclcaaaGreatP19
import Derived.Test.YtfglamdbnclcaaaGreatP20
import Derived.Test.YtfglamdbnclcaaaGreatP04
namespace Go.Proofs.Pet
open Go Go.RowKit Go.Maps Go.Shelf

end Go.Proofs.Pet
