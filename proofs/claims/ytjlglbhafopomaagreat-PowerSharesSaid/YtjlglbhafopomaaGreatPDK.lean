/- Joined texts: PDA, PDB. -/
import Derived.Test.YtjlglbhafopomaaGreatPD9
import Derived.Deep.DeepAppendRoom
import Derived.Test.YtjlglbhafopomaaGreatPCJ
import Derived.Test.YtjlglbhafopomaaGreatSJ
namespace Go.Proofs.Pet
set_option linter.unusedSimpArgs false
open Go Go.RowKit Go.Maps Go.Shelf
open Go.Proofs.Pow (PM Sh Wv POk Up)

end Go.Proofs.Pet

namespace Go.Proofs.Pet
set_option linter.unusedSimpArgs false
open Go Go.RowKit Go.Maps Go.Shelf
open Go.Proofs.Pow (PM Sh Wv POk Up)

end Go.Proofs.Pet
