/-
  Orders in the order of their days: if one loom can weave them in time at all, it can so. No program is named here.
-/
import Derived.Test.YtfglamdbnclcaaaGreatOA
import Derived.Test.YtfglamdbnclcaaaGreatQ1
namespace Go.Proofs.Pet
open Go

end Go.Proofs.Pet
