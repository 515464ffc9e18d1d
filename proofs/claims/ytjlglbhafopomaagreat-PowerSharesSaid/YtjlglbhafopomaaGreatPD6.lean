/-
  slices.IsSorted at []int; PowerFound walked.
-/
import Derived.Test.YtjlglbhafopomaaGreatPD5
import Derived.Test.YtjlglbhafopomaaGreatPDJ
namespace Go.Proofs.Pet
set_option linter.unusedSimpArgs false
open Go Go.RowKit Go.Maps Go.Shelf
open Go.Proofs.Pow (PM Sh Wv POk Up sightF explB hitL clrB FoundP)

/-- what is found out from sights of belts that really slipped -/
structure SeenP (m : PM) (l : List Int) (real few prf : List Nat) (sure : List Int) : Prop where
  s0 : sightE m l = 0
  e1 : explE m l (ints real) = 0
  e2 : explQ m l (ints real) = true
  f1 : slipE m l = 0
  f2 : slipL m l = ints few
  g1 : sureE m l = 0
  g2 : sureV m l = sure
  p2 : provL m l = ints prf
  q1 : provE m l (ints prf) = 0
  h1 : explE m l (ints few) = 0
  h2 : explQ m l (ints few) = true
  F : FoundP m (sightF l) real few prf
  su : sure = Pow.sureC m (sightF l)
end Go.Proofs.Pet
