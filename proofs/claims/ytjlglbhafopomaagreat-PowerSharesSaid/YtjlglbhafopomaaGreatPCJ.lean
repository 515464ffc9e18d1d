/- Joined texts: PC2, PC3, PC4, PC5. -/
import Derived.Test.YtjlglbhafopomaaGreatPL1
import Derived.Shelf.Spec.SlicesInsertGrow
namespace Go.Proofs.Pet
set_option linter.unusedSimpArgs false
open Go Go.RowKit Go.Maps Go.Shelf
open Go.Proofs.Pow (PM Sh Wv POk Up)

/-- what law7's cost has summed up when it has seen the spots of a list -/
def lsum (m : PM) (g : List Int) (L : List (Nat × Nat)) : Int := (L.map fun x => if g.any (fun k => Pow.usesB m x.1 x.2 k.toNat) then (m.sh x.1).price else 0).sum
/-- weavers -/
def InW (m : PM) (g : List Int) : Prop := ∀ x, x ∈ g → 0 ≤ x ∧ x < m.wvs.length
end Go.Proofs.Pet

namespace Go.Proofs
open Go.Shelf
def Pet.insRen : Go.Shelf.Ren := ⟨fun | 21 => 87 | 27 => 151 | 28 => 152 | 35 => 179 | 39 => 207 | n => n, fun | 22 => 31 | 3 => 3 | 4 => 4 | 0 => 0 | n => n, fun | n => n⟩
end Go.Proofs

namespace Go.Proofs.Pet
open Go Go.RowKit Go.Maps Go.Shelf

end Go.Proofs.Pet
namespace Go.Proofs.Pet
open Go Go.RowKit Go.Maps Go.Shelf Go.Sort
end Go.Proofs.Pet

namespace Go.Proofs.Pow
end Go.Proofs.Pow

namespace Go.Proofs.Pet
open Go Go.RowKit Go.Maps Go.Shelf
open Go.Proofs.Pow (PM Sh Wv POk Up)

/-- an order in which one comes later -/
def laterL (l : List Int) (i k : Nat) : List Int := (l.take i ++ l.drop (i + 1)).take k ++ l[i]?.getD 0 :: (l.take i ++ l.drop (i + 1)).drop k
end Go.Proofs.Pet
