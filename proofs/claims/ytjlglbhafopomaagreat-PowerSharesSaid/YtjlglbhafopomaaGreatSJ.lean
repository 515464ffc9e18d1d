/- Joined texts: S16, S17, S18. -/
import Derived.Test.YtjlglbhafopomaaGreatSM
import Derived.Lib.SlicesCompact
namespace Go.Proofs.Pow
theorem addsF_bd {m : PM} (hm : POk m) {l : List Nat} (hl : l.Perm (List.range m.wvs.length)) {k : Nat} (hk : k < m.wvs.length) : 0 ≤ (addsF m l)[k]?.getD 0 ∧ (addsF m l)[k]?.getD 0 ≤ 12960 := by
  have hn : l.Nodup := hl.symm.nodup List.nodup_range
  have hkl : k ∈ l := hl.mem_iff.2 (List.mem_range.2 hk)
  obtain ⟨i, hi, rfl⟩ := List.getElem_of_mem hkl
  rw [addsF_at hn hi hk]
  refine ⟨addF_nonneg hm hi hk, ?_⟩
  have h1 := (cost_bounds hm (befB l (i + 1))).2
  have h2 := (cost_bounds hm (befB l i)).1
  unfold addF
  omega
/-- what is added in the orders of a list -/
def sumA (m : PM) (L : List (List Nat)) (k : Nat) : Int := (L.map fun l => (addsF m l)[k]?.getD 0).sum
theorem share_le {m : PM} (hm : POk m) {k : Nat} (hk : k < m.wvs.length) : 0 ≤ shareP m k ∧ shareP m k ≤ 777600 := by
  have h1 := hm.own hk
  have h2 := (cost_bounds hm (fun i => decide (i = k))).2
  exact ⟨hm.nonneg k, by omega⟩
end Go.Proofs.Pow

namespace Go.Proofs.Pow
/-- what surely slipped, as a list without doubles -/
def sureC (m : PM) (s : Nat → Int) : List Int := Lib.compact (sortL (sureL m s))
/-- all that belts which really slipped bring about -/
structure FoundP (m : PM) (s : Nat → Int) (real few prf : List Nat) : Prop where
  clash : clashB m s = false
  few_ : firstF m.shafts.length (explB m s) = some few
  prf_ : proveF m.wvs.length (proofB m s) = prf
  fewUp : Up m.shafts.length 0 few
  prfUp : Up m.wvs.length 0 prf
  fewOk : explB m s few = true
  prfOk : proofB m s prf = true
  le : few.length ≤ real.length
  same : few.length = prf.length
  sure : ∀ x, x ∈ sureC m s → ∃ i : Nat, x = i ∧ i ∈ real ∧ i ∈ few
  clr : ∀ i, clrB m s i = true → i ∉ real ∧ i ∉ few
  apart : ∀ a b, a ∈ prf → b ∈ prf → a ≠ b → ∀ v, m.drv v a = true → m.drv v b = true → clrB m s v = true
end Go.Proofs.Pow

namespace Go.Proofs.Pow
/-- a group of one weaver, who ran, and whom a shaft drives -/
def ranB (m : PM) (s : Nat → Int) (i : Nat) (l : List Nat) : Bool := decide (l.length = 1) && (decide (s (l[0]?.getD 0) = 1) && m.drv i (l[0]?.getD 0))
/-- is a shaft that is not cleared met among the first ones? -/
def freeT (m : PM) (s : Nat → Int) (k t : Nat) : Bool := (List.range t).any fun i => m.drv i k && !clrB m s i
/-- is a loom that stopped without such a shaft met among the first ones? -/
def clashT (m : PM) (s : Nat → Int) (t : Nat) : Bool := (List.range t).any fun k => decide (s k = 2) && (opnS m s k).isEmpty
end Go.Proofs.Pow
