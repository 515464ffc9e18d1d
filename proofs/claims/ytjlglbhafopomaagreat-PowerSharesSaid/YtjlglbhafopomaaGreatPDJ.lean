/- Joined texts: PD1, PD2, PD3. -/
import Derived.Test.YtjlglbhafopomaaGreatPCJ
import Derived.Test.YtjlglbhafopomaaGreatSJ
namespace Go.Proofs.Pet
open Go Go.RowKit Go.Maps Go.Shelf
open Go.Proofs.Pow (PM Sh Wv POk Up)

/-- all groups, as lists of ints -/
def groupsI (n : Nat) : List (List Int) := (Pow.groupsF n).map ints
/-- a number put into a list -/
def insI (k : Nat) (l : List Int) (a : Nat) : List Int := l.take a ++ (k : Int) :: l.drop a
def insL (k : Nat) (l : List Int) : List (List Int) := (List.range (l.length + 1)).map (insI k l)
/-- all orders, as lists of ints -/
def permsI (n : Nat) : List (List Int) := (Pow.permsF n).map ints
end Go.Proofs.Pet

namespace Go.Proofs.Pet
open Go Go.RowKit Go.Maps Go.Shelf
open Go.Proofs.Pow (PM Sh Wv POk Up)

/-- what the shares of the first ones of a list come to -/
def shT (f : Nat → Int) (l : List Int) (t : Nat) : Int := ((l.take t).map fun k => f k.toNat).sum
theorem shT_succ {f : Nat → Int} {l : List Int} {t : Nat} {x : Int} (h : l[t]? = some x) : shT f l (t + 1) = shT f l t + f x.toNat := by
  unfold shT
  rw [List.take_add_one, h]
  simp
/-- the shares of the mill as a list -/
def shareL (m : PM) : List Int := (List.range m.wvs.length).map (Pow.shareP m)
end Go.Proofs.Pet

namespace Go.Proofs.Pet
open Go Go.RowKit Go.Maps Go.Shelf
open Go.Proofs.Pow (PM Sh Wv POk Up)
attribute [local go_sem] Oper.semAt_some

def cmpI (a b : Int) : Int := if a < b then -1 else if b < a then 1 else 0
def cmpL : List Int → List Int → Int
  | [], [] => 0
  | [], _ :: _ => -1
  | _ :: _, [] => 1
  | a :: l, b :: r => if cmpI a b = 0 then cmpL l r else cmpI a b
/-! All weavers, collected. -/
def encK1 (x : Int) : Array Value := #[.int .i64 x]
end Go.Proofs.Pet
