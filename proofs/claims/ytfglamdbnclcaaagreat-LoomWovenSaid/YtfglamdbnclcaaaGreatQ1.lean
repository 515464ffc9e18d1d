import Derived.Test.YtfglamdbnclcaaaGreatP18
namespace Go.Proofs.Pet
open Go Go.RowKit Go.Maps Go.Shelf

/-- what Best answers -/
def bestL (m : Mill) (l : Int) (xs : List Int) : List Int :=
  if (costE m l xs).2 = 0 then ints ((moreF m l.toNat (costE m l xs).1 7 [] (setF xs)).getD []) else []
end Go.Proofs.Pet
