/- Joined texts: S16, S17, S18. -/
import Derived.Test.YtjlglbhafopomaaGreatSM
import Derived.Lib.SlicesCompact
namespace Go.Proofs.Pow
theorem addsF_bd {m : PM} (hm : POk m) {l : List Nat} (hl : l.Perm (List.range m.wvs.length)) {k : Nat} (hk : k < m.wvs.length) : 0 ≤ (addsF m l)[k]?.getD 0 ∧ (addsF m l)[k]?.getD 0 ≤ 12960 := by
  have hn : l.Nodup := hl.symm.nodup List.nodup_range
  have hkl : k ∈ l := hl.mem_iff.2 (List.mem_range.2 hk)
  obtain ⟨i, hi, rfl⟩ := List.getElem_of_mem hkl
  rw [addsF_at hn hi hk]
  refine ⟨addF_nonneg hm hi hk, ?_⟩
  have h1 := (cost_bounds hm (befB l (i + 1))).2
  have h2 := (cost_bounds hm (befB l i)).1
  unfold addF
  omega
/-- what is added in the orders of a list -/
def sumA (m : PM) (L : List (List Nat)) (k : Nat) : Int := (L.map fun l => (addsF m l)[k]?.getD 0).sum
end Go.Proofs.Pow

namespace Go.Proofs.Pow
theorem compact_from (zs : List Int) : ∀ j, j < zs.length → ∃ i, i ≤ j ∧ Lib.keeps zs.toArray i = true ∧ zs.toArray[i]! = zs.toArray[j]! := by
  intro j
  induction j with
  | zero => intro _; exact ⟨0, Nat.le_refl _, by simp [Lib.keeps], rfl⟩
  | succ j ih =>
    intro hj
    by_cases h : zs.toArray[j + 1]! = zs.toArray[j]!
    · obtain ⟨i, h1, h2, h3⟩ := ih (by omega)
      exact ⟨i, by omega, h2, by rw [h3, h]⟩
    · exact ⟨j + 1, Nat.le_refl _, Lib.keeps_pos (by simpa using h), rfl⟩
theorem compact_mem {zs : List Int} {x : Int} : x ∈ Lib.compact zs ↔ x ∈ zs := by
  unfold Lib.compact Lib.compactUpTo
  constructor
  · intro h
    obtain ⟨j, hj, rfl⟩ := List.mem_map.1 h
    have := List.mem_range.1 (List.mem_filter.1 hj).1
    have e : zs.toArray[j]! = zs[j] := by simp [this]
    rw [e]; exact List.getElem_mem _
  · intro h
    obtain ⟨j, hj, rfl⟩ := List.getElem_of_mem h
    obtain ⟨i, h1, h2, h3⟩ := compact_from zs j hj
    refine List.mem_map.2 ⟨i, List.mem_filter.2 ⟨List.mem_range.2 (by omega), h2⟩, ?_⟩
    rw [h3]; simp [hj]
/-- what surely slipped, as a list without doubles -/
def sureC (m : PM) (s : Nat → Int) : List Int := Lib.compact (sortL (sureL m s))
theorem mem_sureC {m : PM} {s : Nat → Int} {x : Int} : x ∈ sureC m s ↔ x ∈ sureL m s := by
  unfold sureC
  rw [compact_mem]
  exact (sortL_perm _).mem_iff
/-- all that belts which really slipped bring about -/
structure FoundP (m : PM) (s : Nat → Int) (real few prf : List Nat) : Prop where
  clash : clashB m s = false
  few_ : firstF m.shafts.length (explB m s) = some few
  prf_ : proveF m.wvs.length (proofB m s) = prf
  fewUp : Up m.shafts.length 0 few
  prfUp : Up m.wvs.length 0 prf
  fewOk : explB m s few = true
  prfOk : proofB m s prf = true
  le : few.length ≤ real.length
  same : few.length = prf.length
  sure : ∀ x, x ∈ sureC m s → ∃ i : Nat, x = i ∧ i ∈ real ∧ i ∈ few
  clr : ∀ i, clrB m s i = true → i ∉ real ∧ i ∉ few
  apart : ∀ a b, a ∈ prf → b ∈ prf → a ≠ b → ∀ v, m.drv v a = true → m.drv v b = true → clrB m s v = true
theorem proof_nil (m : PM) (s : Nat → Int) : proofB m s [] = true := by simp [proofB]
end Go.Proofs.Pow

namespace Go.Proofs.Pow
/-- a group of one weaver, who ran, and whom a shaft drives -/
def ranB (m : PM) (s : Nat → Int) (i : Nat) (l : List Nat) : Bool := decide (l.length = 1) && (decide (s (l[0]?.getD 0) = 1) && m.drv i (l[0]?.getD 0))
/-- is a shaft that is not cleared met among the first ones? -/
def freeT (m : PM) (s : Nat → Int) (k t : Nat) : Bool := (List.range t).any fun i => m.drv i k && !clrB m s i
/-- is a loom that stopped without such a shaft met among the first ones? -/
def clashT (m : PM) (s : Nat → Int) (t : Nat) : Bool := (List.range t).any fun k => decide (s k = 2) && (opnS m s k).isEmpty
end Go.Proofs.Pow
