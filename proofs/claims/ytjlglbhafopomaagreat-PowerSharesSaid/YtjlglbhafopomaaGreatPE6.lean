/-
  The reference's Use, walked.
-/
import Derived.Test.YtjlglbhafopomaaGreatPE5
import Derived.Test.YtjlglbhafopomaaGreatPBD
namespace Go.Proofs.Pow
/-- does weaver i use power in the hour t, once k does in h, too -/
def hF (m : PM) (k h i t : Nat) : Bool := (m.wv i).hours.contains (t : Int) || (decide (i = k) && decide (t = h))
def hrsW (m : PM) (k h i t : Nat) : List Int := ((List.range t).filter (hF m k h i)).map fun x : Nat => (x : Int)
def newWv (m : PM) (k h i : Nat) : Wv := { shaft := (m.wv i).shaft, hours := hrsW m k h i 24 }
end Go.Proofs.Pow
namespace Go.Proofs.Pet
open Go Go.RowKit Go.Maps Go.Shelf
open Go.Proofs.Pow (PM Sh Wv POk Up)

def useE7 (m : PM) (k : Nat) (h : Int) : Int := if inB h 0 23 = false then 3 else if (m.wv k).hours.contains h = true then 5 else 0
def OwnWvsT (w : World) (base : Nat) (v : Value) (ys : List Wv) : Prop := ∃ cs, w.ownsRow base 104 2 v ys.length cs ∧ WvF (ownW w base) cs ys
/-- what the reference's Use gives: the same shafts, weavers of the call's own -/
def UsedV (w' : World) (base : Nat) (s1 u : Value) (m : PM) (k : Nat) (h r : Int) : Prop := (r ≠ 0 → u = .agg #[.slice none 0 0, .slice none 0 0]) ∧ (r = 0 → ∃ u2, u = .agg #[s1, u2] ∧ OwnWvsT w' base u2 (Pow.useP m k h).wvs)
end Go.Proofs.Pet
