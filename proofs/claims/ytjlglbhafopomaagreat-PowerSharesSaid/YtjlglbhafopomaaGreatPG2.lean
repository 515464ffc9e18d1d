/-
  The reference's Cleared and Explains, walked.
-/
import Derived.Test.YtjlglbhafopomaaGreatPG1
import Derived.Test.YtjlglbhafopomaaGreatS19
import Derived.Test.YtjlglbhafopomaaGreatPBH
namespace Go.Proofs.Pet
open Go Go.RowKit Go.Maps Go.Shelf
open Go.Proofs.Pow (PM Sh Wv POk Up sightF clrB explB)

/-- cleared by one of the first k -/
def clrK (m : PM) (s : Nat → Int) (i k : Nat) : Bool := (List.range k).any fun j => decide (s j = 1) && m.drv i j
/-- whether one of the listed shafts stops the weaver -/
def hitG (m : PM) (g : List Int) (k : Nat) : Bool := (m.line (m.wv k).shaft).any fun x => g.contains x
def okG (m : PM) (s : Nat → Int) (g : List Int) (k : Nat) : Bool := !(decide (s k = 1) && hitG m g k) && !(decide (s k = 2) && !hitG m g k)
def explG (m : PM) (s : Nat → Int) (g : List Int) : Bool := (List.range m.wvs.length).all (okG m s g)
end Go.Proofs.Pet
