/-
  Mills of power made of numbers, walked.
-/
import Derived.Test.YtjlglbhafopomaaGreatPBL
import Derived.Test.YtjlglbhafopomaaGreatO0
import Derived.Deep.DeepCutAuto
namespace Go.Proofs.Pet
set_option linter.unusedSimpArgs false
open Go Go.RowKit Go.Maps Go.Shelf
open Go.Proofs.Pow (PM Sh Wv POk Up)

def zeroPM : Array Value := #[.slice none 0 0, .slice none 0 0]
/-- a mill being made: w0 is the world at first, b the spool's block, R the result's, M the mill's -/
structure MkP (w0 : World) (b R M B0 : Nat) (ss : List Sh) (ws : List Wv) (k : Nat) (v1 v2 : Value) (W : World) : Prop where
  ap : Apart b w0 W
  sp : SpoolAt W b k
  br : Blk W R 26 zeroPM
  bm : Blk W M 26 #[v1, v2]
  o1 : OwnShs W B0 v1 ss
  o2 : OwnWvs W B0 v2 ws
  lt : b < w0.heap.size ∧ w0.heap.size ≤ R ∧ R < M ∧ M < B0
section
variable {w0 W W' : World} {b R M B0 k k' : Nat} {ss : List Sh} {ws : List Wv} {v1 v2 : Value}
theorem Src.listP (w : World) (cs : List Value) (t : TypeId) : Src (w.alloc (.cells cs.toArray t)) (some ⟨w.heap.size, 0, none⟩) cs := .inr ⟨_, rfl, fun j u hj => by
  have hb := Blk.new w t cs.toArray
  rw [addr_off, Nat.zero_add, hb.cell, List.getElem?_toArray]
  exact hj⟩
end
/-- shafts as they are made -/
def SsOk (ss : List Sh) : Prop := ∀ j, j < ss.length → (-1 ≤ (ss[j]?.getD default).up ∧ (ss[j]?.getD default).up < j) ∧ (0 ≤ (ss[j]?.getD default).price ∧ (ss[j]?.getD default).price ≤ 20)
/-- a weaver as it is made -/
def WvOk (n : Nat) (x : Wv) : Prop := (0 ≤ x.shaft ∧ x.shaft < n) ∧ (∀ h, h ∈ x.hours → 0 ≤ h ∧ h ≤ 11) ∧ x.hours.Pairwise (· < ·)
def MadeOk (m : PM) : Prop := POk m ∧ ∀ k, k < m.wvs.length → ∀ h, h ∈ (m.wv k).hours → h ≤ 11
end Go.Proofs.Pet
