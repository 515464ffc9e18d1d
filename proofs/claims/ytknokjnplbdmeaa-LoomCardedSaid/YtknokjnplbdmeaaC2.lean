/-
  The mill whose patterns are numbered by chains: its run has as many changes as its ribbons. No program is named here.
-/
import Derived.Test.YtknokjnplbdmeaaC1
import Derived.Test.YtknokjnplbdmeaaT1
namespace Go.Proofs.Pet
open Go

/-- the mill that weaves ribbons of chains, one order each -/
def cardM (cs : List (List Int)) (oc : List Nat) : Mill := ⟨[0], 2, oc.map fun c => ⟨(numB cs c : Int), 1, 99, [0]⟩⟩
theorem cardM_len (cs : List (List Int)) (oc : List Nat) : (cardM cs oc).orders.length = oc.length := by unfold cardM; simp
theorem cardM_at (cs : List (List Int)) (oc : List Nat) {k : Nat} (hk : k < oc.length) : (cardM cs oc).orders[k]?.getD default = ⟨(numB cs oc[k] : Int), 1, 99, [0]⟩ := by
  unfold cardM
  simp [List.getElem?_eq_getElem hk]
theorem numB_le (cs : List (List Int)) (i : Nat) : numB cs i ≤ i := numU_le cs i 0 (by omega)
theorem cardM_ok (cs : List (List Int)) (oc : List Nat) (hn : oc.length ≤ 7) (hc : ∀ c, c ∈ oc → c ≤ 9) : MillOk (cardM cs oc) := by
  refine ⟨⟨Nat.le_refl _, by show (1 : Nat) ≤ 3; omega⟩, by rw [cardM_len]; exact hn, fun x hx => ?_, ⟨by show (0 : Int) ≤ 2; omega, by show (2 : Int) ≤ 5; omega⟩, fun o ho => ?_⟩
  · obtain rfl : x = 0 := by simpa [cardM] using hx
    omega
  · obtain ⟨c, hm, rfl⟩ := List.mem_map.1 ho
    have h1 := hc c hm; have h2 := numB_le cs c
    refine ⟨⟨by show (0 : Int) ≤ (numB cs c : Int); omega, by show (numB cs c : Int) ≤ 9; omega⟩, ⟨by show (1 : Int) ≤ 1; omega, by show (1 : Int) ≤ 20; omega⟩, ⟨by show (1 : Int) ≤ 99; omega, by show (99 : Int) ≤ 99; omega⟩, by simp, fun y hy => ?_, rfl⟩
    obtain rfl : y = 0 := by simpa using hy
    exact ⟨Int.le_refl _, by show (0 : Int) < ((1 : Nat) : Int); omega⟩
theorem range_rev_succ (n : Nat) : (List.range (n + 1)).reverse = n :: (List.range n).reverse := by
  rw [List.range_succ, List.reverse_append]; rfl
theorem cardM_run {cs : List (List Int)} (hcs : ∀ c, c ∈ cs → ChainOk c) (h0 : 0 < cs.length) {oc : List Nat} (hoc : ∀ c, c ∈ oc → c < cs.length) : ∀ n, n ≤ oc.length →
    chR (cardM cs oc) 0 (List.range n).reverse = wantC cs 0 (oc.take n) ∧ lastPat (cardM cs oc) 0 (List.range n).reverse = (numB cs (((oc.take n).getLast?).getD 0) : Int) ∧ sdR (cardM cs oc) (List.range n).reverse = n
  | 0, _ => by
    refine ⟨rfl, ?_, rfl⟩
    simp [lastPat, cardM, numB_zero]
  | n + 1, hn => by
    obtain ⟨h1, h2, h3⟩ := cardM_run hcs h0 hoc n (by omega)
    have hlt : n < oc.length := by omega
    have hp : (cardM cs oc).pat n = (numB cs oc[n] : Int) := by unfold Mill.pat; rw [cardM_at cs oc hlt]
    have hd : (cardM cs oc).dys n = 1 := by unfold Mill.dys; rw [cardM_at cs oc hlt]
    rw [range_rev_succ, chR, lastPat, sdR, h1, h2, h3, hp, hd, List.take_succ_eq_append_getElem hlt, wantC_snoc]
    refine ⟨?_, by rw [List.getLast?_concat]; rfl, by omega⟩
    have hl : ((oc.take n).getLast?).getD 0 < cs.length := by
      cases h : (oc.take n).getLast? with
      | none => exact h0
      | some c => exact hoc c (List.mem_of_mem_take (List.mem_of_getLast? h))
    have hk := numB_iff hcs hl (hoc _ (List.getElem_mem hlt))
    unfold chg
    by_cases e : numB cs (((oc.take n).getLast?).getD 0) = numB cs oc[n]
    · rw [if_pos (by rw [e]), if_pos (hk.1 e)]
    · rw [if_neg (by omega), if_neg fun g => e (hk.2 g)]
/-- what Run and Cost answer of that mill -/
theorem cardM_law {cs : List (List Int)} (hcs : ∀ c, c ∈ cs → ChainOk c) (h0 : 0 < cs.length) (h9 : cs.length ≤ 10) {oc : List Nat} (hn : oc.length ≤ 7) (hoc : ∀ c, c ∈ oc → c < cs.length) :
    MillOk (cardM cs oc) ∧ runE (cardM cs oc) 0 (ints (List.range oc.length)) = 0 ∧ chR (cardM cs oc) 0 (rvI (ints (List.range oc.length))) = wantC cs 0 oc ∧
      dyR (cardM cs oc) 0 (rvI (ints (List.range oc.length))) = oc.length + 2 * wantC cs 0 oc ∧
      ∃ n, costE (cardM cs oc) 0 (ints (List.range oc.length)) = (n, 0) ∧ n ≤ wantC cs 0 oc := by
  have hok := cardM_ok cs oc hn fun c hc => by have := hoc c hc; omega
  have hS : Some1 (cardM cs oc) (ints (List.range oc.length)) := by
    refine ⟨fun x hx => ?_, ?_⟩
    · obtain ⟨k, hk, rfl⟩ := ints_mem.1 hx
      have := List.mem_range.1 hk
      rw [cardM_len]; omega
    · unfold ints
      rw [List.nodup_iff_pairwise_ne, List.pairwise_map]
      exact List.pairwise_lt_range.imp fun h => by omega
  have hr := fun n hn => cardM_run hcs h0 hoc n hn
  obtain ⟨g1, g2, g3⟩ := hr oc.length (Nat.le_refl _)
  rw [List.take_length] at g1 g2
  have hdy : dyR (cardM cs oc) 0 (rvI (ints (List.range oc.length))) = oc.length + 2 * wantC cs 0 oc := by
    rw [rvI_intsOf', dyR_eq, g1, g3]; rfl
  have htm : ∀ n, n ≤ oc.length → tmR (cardM cs oc) 0 (List.range n).reverse = true := fun n => by
    induction n with
    | zero => intro _; rfl
    | succ n ih =>
      intro hn'
      have hlt : n < oc.length := by omega
      obtain ⟨f1, f2, f3⟩ := hr (n + 1) hn'
      have hw := wantC_bd cs (oc.take (n + 1)) 0
      have hb : (cardM cs oc).byy n = 99 := by unfold Mill.byy; rw [cardM_at cs oc hlt]
      rw [range_rev_succ] at f1 f3 ⊢
      rw [tmR, ih (by omega), hb, dyR_eq, f1, f3, Bool.true_and]
      have hl : (oc.take (n + 1)).length = n + 1 := by rw [List.length_take]; omega
      rw [hl] at hw
      refine decide_eq_true ?_
      show ((n + 1 : Nat) : Int) + 2 * _ ≤ 99
      omega
  have hle := hS.le hok rfl (List.Perm.refl _) (by rw [hS.isOk hok rfl, rvI_intsOf']; exact htm _ (Nat.le_refl _))
  have hch : chR (cardM cs oc) 0 (rvI (ints (List.range oc.length))) = wantC cs 0 oc := by rw [rvI_intsOf']; exact g1
  refine ⟨hok, hS.run hok rfl, hch, hdy, numC (cardM cs oc) 0 (setF (ints (List.range oc.length))), ?_, ?_⟩
  · rw [hS.cost hok rfl, if_neg hle.2]
  · rw [← hch]; exact hle.1
end Go.Proofs.Pet
