import Derived.Test.YtfglamdbnclcaaaGreatP21
import Derived.Test.YtfglamdbnclcaaaGreatQ1
namespace Go.Proofs.Pet
open Go Go.RowKit Go.Maps Go.Shelf

end Go.Proofs.Pet
