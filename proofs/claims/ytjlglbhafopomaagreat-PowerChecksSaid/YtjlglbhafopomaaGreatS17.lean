/-
  Sights: plain laws as the statements ask them; sorted lists without doubles.
-/
import Derived.Test.YtjlglbhafopomaaGreatS16
import Derived.Lib.SlicesCompact
namespace Go.Proofs.Pow
theorem compact_from (zs : List Int) : ∀ j, j < zs.length → ∃ i, i ≤ j ∧ Lib.keeps zs.toArray i = true ∧ zs.toArray[i]! = zs.toArray[j]! := by
  intro j
  induction j with
  | zero => intro _; exact ⟨0, Nat.le_refl _, by simp [Lib.keeps], rfl⟩
  | succ j ih =>
    intro hj
    by_cases h : zs.toArray[j + 1]! = zs.toArray[j]!
    · obtain ⟨i, h1, h2, h3⟩ := ih (by omega)
      exact ⟨i, by omega, h2, by rw [h3, h]⟩
    · exact ⟨j + 1, Nat.le_refl _, Lib.keeps_pos (by simpa using h), rfl⟩
theorem compact_mem {zs : List Int} {x : Int} : x ∈ Lib.compact zs ↔ x ∈ zs := by
  unfold Lib.compact Lib.compactUpTo
  constructor
  · intro h
    obtain ⟨j, hj, rfl⟩ := List.mem_map.1 h
    have := List.mem_range.1 (List.mem_filter.1 hj).1
    have e : zs.toArray[j]! = zs[j] := by simp [this]
    rw [e]; exact List.getElem_mem _
  · intro h
    obtain ⟨j, hj, rfl⟩ := List.getElem_of_mem h
    obtain ⟨i, h1, h2, h3⟩ := compact_from zs j hj
    refine List.mem_map.2 ⟨i, List.mem_filter.2 ⟨List.mem_range.2 (by omega), h2⟩, ?_⟩
    rw [h3]; simp [hj]
theorem compact_sorted {zs : List Int} (h : zs.Pairwise (· ≤ ·)) : (Lib.compact zs).Pairwise (· ≤ ·) := by
  unfold Lib.compact Lib.compactUpTo
  rw [List.pairwise_map]
  refine (List.pairwise_lt_range.filter _).imp_of_mem fun {a b} ha hb hab => ?_
  have h1 := List.mem_range.1 (List.mem_filter.1 ha).1
  have h2 := List.mem_range.1 (List.mem_filter.1 hb).1
  have e1 : zs.toArray[a]! = zs[a] := by simp [h1]
  have e2 : zs.toArray[b]! = zs[b] := by simp [h2]
  rw [e1, e2]
  exact List.pairwise_iff_getElem.1 h a b h1 h2 hab
/-- what surely slipped, as a list without doubles -/
def sureC (m : PM) (s : Nat → Int) : List Int := Lib.compact (sortL (sureL m s))
theorem mem_sureC {m : PM} {s : Nat → Int} {x : Int} : x ∈ sureC m s ↔ x ∈ sureL m s := by
  unfold sureC
  rw [compact_mem]
  exact (sortL_perm _).mem_iff
theorem sureC_sorted (m : PM) (s : Nat → Int) : (sureC m s).Pairwise (· ≤ ·) := compact_sorted (sortL_le _)
theorem sureC_len {m : PM} {s : Nat → Int} : (sureC m s).length ≤ m.wvs.length := by
  have h1 : (sureC m s).length ≤ (sortL (sureL m s)).length := by
    unfold sureC Lib.compact Lib.compactUpTo
    rw [List.length_map]
    exact Nat.le_trans (List.length_filter_le _ _) (by simp)
  have h2 := (sortL_perm (sureL m s)).length_eq
  have h3 : (sureL m s).length ≤ m.wvs.length := by
    unfold sureL
    rw [List.length_map]
    exact Nat.le_trans (List.length_filter_le _ _) (by simp)
  omega
/-- all that belts which really slipped bring about -/
structure FoundP (m : PM) (s : Nat → Int) (real few prf : List Nat) : Prop where
  clash : clashB m s = false
  few_ : firstF m.shafts.length (explB m s) = some few
  prf_ : proveF m.wvs.length (proofB m s) = prf
  fewUp : Up m.shafts.length 0 few
  prfUp : Up m.wvs.length 0 prf
  fewOk : explB m s few = true
  prfOk : proofB m s prf = true
  le : few.length ≤ real.length
  same : few.length = prf.length
  sure : ∀ x, x ∈ sureC m s → ∃ i : Nat, x = i ∧ i ∈ real ∧ i ∈ few
  clr : ∀ i, clrB m s i = true → i ∉ real ∧ i ∉ few
  apart : ∀ a b, a ∈ prf → b ∈ prf → a ≠ b → ∀ v, m.drv v a = true → m.drv v b = true → clrB m s v = true
theorem proof_nil (m : PM) (s : Nat → Int) : proofB m s [] = true := by simp [proofB]
theorem found_all {m : PM} (hm : POk m) {s : Nat → Int} {real : List Nat} (hr : Up m.shafts.length 0 real) (he : explB m s real = true) : ∃ few prf, FoundP m s real few prf := by
  obtain ⟨h1, h2, h3, h4⟩ := found_law hm hr he
  cases hf : firstF m.shafts.length (explB m s) with
  | none => rw [firstF_none.1 hf real hr] at he; cases he
  | some few =>
    obtain ⟨g1, g2, g3⟩ := h2 few hf
    obtain ⟨k1, k2, -⟩ := firstF_some.1 hf
    obtain ⟨p1, p2, -⟩ := proveF_ok (n := m.wvs.length) (proof_nil m s)
    refine ⟨few, proveF m.wvs.length (proofB m s), h1, hf, rfl, k2, p2, k1, p1, g1, few_proof hm hf, fun x hx => ?_, fun i hi => ⟨fun h => ?_, fun h => ?_⟩, fun a b ha hb hab v hva hvb => ?_⟩
    · have hx2 := mem_sureC.1 hx
      obtain ⟨i, k, rfl, -⟩ := (mem_sureL hm.up hm.at_).1 hx2
      exact ⟨i, rfl, h3 i hx2, g3 i hx2⟩
    · rw [h4 i h] at hi; cases hi
    · rw [g2 i h] at hi; cases hi
    · have hq := (proofB_iff hm.up hm.at_ (fun k hk => (p2.2 k hk).2) (up_nodup p2)).1 p1
      cases hc : clrB m s v with
      | true => rfl
      | false => exact absurd ((mem_opnS (s := s)).2 ⟨hvb, hc⟩) (hq.2 a b ha hb hab v ((mem_opnS (s := s)).2 ⟨hva, hc⟩))
end Go.Proofs.Pow
