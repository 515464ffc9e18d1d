/-
  Contracts of functions, each proved once.
-/
import Derived.Test.YtfglamdbnclcaaaGreatP03
namespace Go.Proofs.Pet
open Go Go.RowKit

/-- a loom can weave an order -/
def Mill.weaves (m : Mill) (l k : Nat) : Bool := ((m.orders[k]?.getD default).on).contains (l : Int)

theorem weaves_any (v : Value) (m : Mill) (l : Int) (k : Nat) (hk : k < m.orders.length) (q : Bool) (hq : ((m.orders[k]?.getD default).on).contains l = q) (w : World) (hv : MillVal w v m) :
    Calls Tryz.prog 146 #[v, .int .i64 l, .int .i64 k] w fun e w' => e = .returned (.bool q) ∧ Ext w w' := by
  obtain ⟨A1, c1, A2, c2, rfl, h2, h3, h4, h5, h6, h7⟩ := hv
  unfold maxLen at h5
  have hE := Ext.alloc w (.cells #[.slice A1 m.laced.length c1, .int .i64 m.change, .slice A2 m.orders.length c2] 25)
  obtain ⟨b, o, rfl, A, ca, hca, q1, q2, q3, q4, q5⟩ := h7.ext hE k hk
  have Hc := Lib.hid (contains_any l A ca _ _ rfl q hq _ (Nat.le_trans hca.1 hca.2) q5)
  clear hq h7 h6 q5
  generalize m.orders[k]?.getD default = x0 at *
  go_enter Tryz.func146, Tryz.ntmps146
  go_wp2_with fail
  refine Hc.out.mono ?_
  rintro e w' ⟨rfl, rfl⟩
  go_wp2
  go_ret
  exact ⟨rfl, hE⟩

theorem wrap64_pow (n : Nat) (hn : n ≤ 62) : wrap64 (2 ^ n) = ((2 ^ n : Nat) : Int) := by
  have h1 : 2 ^ n ≤ 2 ^ 62 := Nat.pow_le_pow_right (by omega) hn
  have h2 : (2 : Nat) ^ 62 = 4611686018427387904 := by decide
  have h3 : ((2 ^ n : Nat) : Int) = (2 : Int) ^ n := by simp
  have h4 : ∀ p : Nat, p ≤ 4611686018427387904 → wrap64 (p : Int) = p := fun p hp => IntWalk.wrap64_in _ (by omega)
  have h5 := h4 (2 ^ n) (by omega)
  rw [h3] at h5 ⊢
  exact h5
theorem sets_any (v : Value) (m : Mill) (hn : m.orders.length ≤ 60) (s : Nat) (hs : s = 2 ^ m.orders.length) (w : World) (hv : MillVal w v m) :
    Calls Tryz.prog 38 #[v] w fun e w' => e = .returned (.int .i64 s) ∧ Ext w w' := by
  have Hs := Lib.hid hs; clear hs
  obtain ⟨A1, c1, A2, c2, rfl, h2, h3, h4, h5, h6, h7⟩ := hv
  have hE := Ext.alloc w (.cells #[.slice A1 m.laced.length c1, .int .i64 m.change, .slice A2 m.orders.length c2] 25)
  clear h6 h7 h3 h5
  go_enter Tryz.func38, Tryz.ntmps38
  go_wp2
  rw [wrap64_pow m.orders.length (by omega)]
  rw [← Hs.out]
  go_ret
  exact ⟨rfl, hE⟩

/-- the numbers whose bits are in a set, below n -/
def bits (n s : Nat) : List Nat := (List.range n).filter fun k => s.testBit k
def ints (l : List Nat) : List Int := l.map fun k : Nat => (k : Int)
theorem bits_succ (n s : Nat) : bits (n + 1) s = if s.testBit n then bits n s ++ [n] else bits n s := by
  unfold bits
  rw [List.range_succ, List.filter_append]
  by_cases h : s.testBit n <;> simp [h]
theorem ints_append (a b : List Nat) : ints (a ++ b) = ints a ++ ints b := by unfold ints; simp
theorem bits_length_le (n s : Nat) : (bits n s).length ≤ n := by
  unfold bits
  have := List.length_filter_le (fun k => s.testBit k) (List.range n)
  simpa using this

theorem ownsRow_alloc_of {w : World} {base : Nat} {e : TypeId} {v : Value} {xs : List Int} {L : Nat} {o : Obj} (hL : xs.length = L) (h : OwnI w base e v xs) : (w.alloc o).ownsRow base e 1 v L (xs.map (Value.int .i64)) := by
  subst hL; exact World.ownsRow.alloc h o
end Go.Proofs.Pet

namespace Go.Proofs.Pet
open Go Go.RowKit

theorem IntsAt.take {w : World} {A : Option Addr} {xs : List Int} (h : IntsAt w A xs) (i : Nat) : IntsAt w A (xs.take i) := by
  intro k hk
  have hk' : k < xs.length := by have := List.length_take_le i xs; have := List.length_take (i := i) (l := xs); omega
  have hki : k < i := by have := List.length_take (i := i) (l := xs); omega
  obtain ⟨b, o, e, hc⟩ := h k hk'
  exact ⟨b, o, e, by rw [List.getElem?_take, if_pos hki]; exact hc⟩
def listedE (m : Mill) (l : List Int) : Int :=
  if (l.all fun k => inB k 0 (m.orders.length - 1)) = false then 1 else if twiceB l = true then 5 else 0
def weavesI (m : Mill) (loom k : Int) : Bool := ((m.orders[k.toNat]?.getD default).on).contains loom
def runningE (m : Mill) (loom : Int) (l : List Int) : Int :=
  if inB loom 0 (m.laced.length - 1) = false then 1 else if listedE m l ≠ 0 then listedE m l else if (l.all fun k => weavesI m loom k) = false then 8 else 0

theorem twiceB_true {xs : List Int} {k : Nat} (hk : k < xs.length) (h : (xs.take k).contains (xs[k]?.getD 0) = true) : twiceB xs = true := by
  unfold twiceB
  rw [List.any_eq_true]
  exact ⟨k, List.mem_range.2 hk, h⟩
theorem twiceB_false {xs : List Int} (h : ∀ k, k < xs.length → (xs.take k).contains (xs[k]?.getD 0) = false) : twiceB xs = false := by
  unfold twiceB
  rw [List.any_eq_false]
  intro k hk
  rw [h k (List.mem_range.1 hk)]
  simp

end Go.Proofs.Pet

namespace Go.Proofs.Pet
open Go Go.RowKit

end Go.Proofs.Pet
