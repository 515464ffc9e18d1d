/-
  One loom more that is seen: plain laws as the statement asks them.
-/
import Derived.Test.YtjlglbhafopomaaGreatS17
namespace Go.Proofs.Pow
/-- a group of one weaver, who ran, and whom a shaft drives -/
def ranB (m : PM) (s : Nat → Int) (i : Nat) (l : List Nat) : Bool := decide (l.length = 1) && (decide (s (l[0]?.getD 0) = 1) && m.drv i (l[0]?.getD 0))
theorem ran_any (m : PM) (s : Nat → Int) (i : Nat) : (groupsF m.wvs.length).any (ranB m s i) = clrB m s i := by
  rw [Bool.eq_iff_iff, List.any_eq_true, clrB_iff]
  constructor
  · rintro ⟨l, hl, h⟩
    have hu := (mem_groupsF _ _).1 hl
    unfold ranB at h
    simp only [Bool.and_eq_true, decide_eq_true_eq] at h
    obtain ⟨h1, h2, h3⟩ := h
    match l, h1 with
    | [k], _ => exact ⟨k, (hu.2 k (List.mem_singleton.2 rfl)).2, h2, h3⟩
  · rintro ⟨k, hk, h1, h2⟩
    refine ⟨[k], (mem_groupsF _ _).2 ⟨List.pairwise_singleton _ _, fun x hx => ?_⟩, ?_⟩
    · rw [List.mem_singleton] at hx; omega
    · unfold ranB; simp [h1, h2]
/-- is a shaft that is not cleared met among the first ones? -/
def freeT (m : PM) (s : Nat → Int) (k t : Nat) : Bool := (List.range t).any fun i => m.drv i k && !clrB m s i
theorem freeT_succ (m : PM) (s : Nat → Int) (k t : Nat) : freeT m s k (t + 1) = (freeT m s k t || (m.drv t k && !clrB m s t)) := by simp [freeT, List.range_succ]
theorem freeT_opn {m : PM} (hm : POk m) (s : Nat → Int) {k : Nat} (hk : k < m.wvs.length) : freeT m s k m.shafts.length = !(opnS m s k).isEmpty := by
  rw [Bool.eq_iff_iff, Bool.not_eq_true', List.isEmpty_eq_false_iff, ne_eq]
  unfold freeT
  rw [List.any_eq_true]
  constructor
  · rintro ⟨i, hi, h⟩ e
    rw [Bool.and_eq_true, Bool.not_eq_true'] at h
    have := mem_opnS.2 h
    rw [e] at this; cases this
  · intro h
    obtain ⟨x, hx⟩ := List.exists_mem_of_ne_nil _ h
    obtain ⟨i, rfl, hi, hc⟩ := opnS_nat hm.up hm.at_ hk hx
    exact ⟨i, List.mem_range.2 hi, by rw [(mem_opnS.1 hx).1, hc]; rfl⟩
/-- is a loom that stopped without such a shaft met among the first ones? -/
def clashT (m : PM) (s : Nat → Int) (t : Nat) : Bool := (List.range t).any fun k => decide (s k = 2) && (opnS m s k).isEmpty
theorem clashT_succ (m : PM) (s : Nat → Int) (t : Nat) : clashT m s (t + 1) = (clashT m s t || (decide (s t = 2) && (opnS m s t).isEmpty)) := by simp [clashT, List.range_succ]
theorem clashT_full (m : PM) (s : Nat → Int) : clashT m s m.wvs.length = clashB m s := rfl
end Go.Proofs.Pow
