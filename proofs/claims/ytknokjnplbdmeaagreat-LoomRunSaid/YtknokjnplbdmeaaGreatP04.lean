/-
  Contracts of functions, each proved once.
-/
import Derived.Test.YtknokjnplbdmeaaGreatP03
namespace Go.Proofs.Pet
open Go Go.RowKit

theorem off_any (n lo hi : Int) (q : Bool) (hq : (!inB n lo hi) = q) (w : World) :
    Calls Tryz.prog 58 #[.int .i64 n, .int .i64 lo, .int .i64 hi] w fun e w' => e = .returned (.bool q) ∧ w = w' := by
  subst hq
  unfold inB
  by_cases h1 : n < lo
  · go_enter Tryz.func58, Tryz.ntmps58
    go_wp2
    go_ret
    have hd : decide (lo ≤ n) = false := by simp; omega
    exact ⟨by simp [hd], rfl⟩
  · have hd : decide (n < lo) = false := by simp; omega
    have hd2 : decide (lo ≤ n) = true := by simp; omega
    have H1 := Lib.hid h1; clear h1
    by_cases h2 : hi < n
    · have hd3 : decide (n ≤ hi) = false := by simp; omega
      have Hd := Lib.hid hd3; have Hd2 := Lib.hid hd2; clear hd3 hd2
      go_enter Tryz.func58, Tryz.ntmps58
      go_wp2
      go_ret
      exact ⟨by rw [Hd.out]; simp, rfl⟩
    · have hd3 : decide (n ≤ hi) = true := by simp; omega
      have hd4 : decide (hi < n) = false := by simp; omega
      have Hd := Lib.hid hd3; have Hd2 := Lib.hid hd2; clear hd3 hd2 h2
      go_enter Tryz.func58, Tryz.ntmps58
      go_wp2
      go_ret
      exact ⟨by rw [Hd.out, Hd2.out]; simp, rfl⟩

set_option maxHeartbeats 400000 in
theorem has_any (x : Int) (A : Option Addr) (c n : Nat) (xs : List Int) (hn : xs.length = n) (q : Bool) (hq : xs.contains x = q) (w : World) (hb : xs.length ≤ maxLen) (hx : IntsAt w A xs) :
    Calls Tryz.prog 134 #[.slice A n c, .int .i64 x] w fun e w' => e = .returned (.bool q) ∧ w = w' := by
  subst hn
  unfold maxLen at hb
  have Hq : Hid (q = decide (x ∈ xs)) := by unfold Hid; rw [← hq]; simp
  clear hq
  go_enter Tryz.func134, Tryz.ntmps134
  go_wp2
  go_loop [5] (fun i => ∃ k : Nat, k ≤ xs.length ∧ i = .int .i64 k ∧ Hid (∀ j, j < k → xs[j]?.getD 0 ≠ x)) (fun i => xs.length - (intOf i).toNat)
  case atStart => exact ⟨0, by omega, rfl, fun j hj => absurd hj (by omega)⟩
  case round =>
    obtain ⟨k, hk, rfl, hm⟩ := hrel
    by_cases hlt : k < xs.length
    · obtain ⟨b, o, rfl, h1⟩ := hx k hlt
      have hmem0 : (xs[k]?.getD 0) ∈ xs := by simp [hlt]
      have hmem := Lib.hid hmem0; clear hmem0
      generalize hgx : xs[k]?.getD 0 = y at *
      have Hgx := Lib.hid hgx; clear hgx
      by_cases he : y = x
      · subst he
        go_wp2
        go_ret
        exact ⟨by rw [Hq.out, decide_eq_true hmem.out]; rfl, rfl⟩
      · have hd : (y == x) = false := by simpa using he
        have He := Lib.hid he; clear he
        go_wp2
        go_round
        case rel =>
          refine ⟨k + 1, by omega, by go_num, fun j hj => ?_⟩
          by_cases ej : j = k
          · subst ej; rw [Hgx.out]; exact He.out
          · exact hm.out j (by omega)
        case measure => simp [intOf]; omega
    · go_wp2
      go_ret
      refine ⟨?_, rfl⟩
      have : x ∉ xs := fun h => by
        obtain ⟨j, hj, rfl⟩ := List.mem_iff_getElem.1 h
        have := hm.out j (by omega)
        simp [hj] at this
      rw [Hq.out, decide_eq_false this]; rfl

set_option maxHeartbeats 400000 in
theorem rising5_any (A : Option Addr) (c : Nat) (xs : List Int) (q : Bool) (hq : risingB xs = q) (w : World) (hl : xs.length ≤ maxLen) (hx : IntsAt w A xs) :
    Calls Tryz.prog 59 #[.slice A xs.length c] w fun e w' => e = .returned (.bool q) ∧ Ext w w' := by
  unfold maxLen at hl
  have Hq : Hid (q = true ↔ risingTo xs xs.length) := by unfold Hid; rw [← hq]; exact risingB_iff xs
  clear hq
  go_enter Tryz.func59, Tryz.ntmps59
  go_wp2
  go_loopw [3] (fun i wr => ∃ k : Nat, 1 ≤ k ∧ (k ≤ xs.length ∨ k = 1) ∧ i = .int .i64 k ∧ Hid (risingTo xs k) ∧ Ext w wr) (fun i _ => xs.length + 1 - (intOf i).toNat)
  case atStart => exact ⟨1, by omega, by omega, rfl, by intro i h1 h2; omega, Ext.refl _⟩
  case round =>
    obtain ⟨k, hk1, hk2, rfl, hr, he⟩ := hrel
    by_cases hlt : k < xs.length
    · obtain ⟨b, o, rfl, c1⟩ := hx.ext he k hlt
      obtain ⟨b', o', e', c2⟩ := hx.ext he (k-1) (by omega)
      simp only [Option.some.injEq, Addr.mk.injEq, and_true] at e'
      obtain ⟨rfl, rfl⟩ := e'
      have e1 : ((k : Int) - 1).toNat = k - 1 := by omega
      have b1 : (0:Int) ≤ (k : Int) - 1 := by omega
      have b2 : (k : Int) - 1 < xs.length := by omega
      have hk2' := Lib.hid hk2; clear hk2
      generalize hga : xs[k]?.getD 0 = x at *
      generalize hgb : xs[k-1]?.getD 0 = y at *
      have Hga := Lib.hid hga; clear hga
      have Hgb := Lib.hid hgb; clear hgb
      by_cases hle : x ≤ y
      · go_wp2_with fail
        go_quiet (fail)
        go_wp2
        go_ret
        refine ⟨?_, he.trans (Ext.drewN _ _)⟩
        have : ¬ risingTo xs xs.length := fun h => by
          have := h k hk1 hlt
          rw [Hga.out, Hgb.out] at this
          omega
        cases q with
        | true => exact absurd (Hq.out.1 rfl) this
        | false => rfl
      · have hd : decide (x ≤ y) = false := by simpa using hle
        have Hle := Lib.hid hle; clear hle
        go_wp2_with fail
        go_quiet (fail)
        go_wp2
        go_roundw
        case rel =>
          refine ⟨k + 1, by omega, by omega, by go_num, fun i h1 h2 => ?_, he.trans (Ext.drewN _ _)⟩
          by_cases ei : i = k
          · subst ei; rw [Hga.out, Hgb.out]; have := Hle.out; omega
          · exact hr.out i h1 (by omega)
        case measure => simp [intOf]; omega
    · go_wp2
      go_ret
      refine ⟨?_, he⟩
      have : risingTo xs xs.length := by
        rcases hk2 with h | h
        · have : k = xs.length := by omega
          rw [← this]; exact hr.out
        · intro i h1 h2; omega
      rw [Hq.out.2 this]; rfl

/-- a loom can weave an order -/
def Mill.weaves (m : Mill) (l k : Nat) : Bool := ((m.orders[k]?.getD default).on).contains (l : Int)

theorem weaves5_any (v : Value) (m : Mill) (l : Int) (k : Nat) (hk : k < m.orders.length) (q : Bool) (hq : ((m.orders[k]?.getD default).on).contains l = q) (w : World) (hv : MillVal w v m) :
    Calls Tryz.prog 115 #[v, .int .i64 l, .int .i64 k] w fun e w' => e = .returned (.bool q) ∧ Ext w w' := by
  obtain ⟨A1, c1, A2, c2, rfl, h2, h3, h4, h5, h6, h7⟩ := hv
  unfold maxLen at h5
  have hE := Ext.alloc w (.cells #[.slice A1 m.laced.length c1, .int .i64 m.change, .slice A2 m.orders.length c2] 35)
  obtain ⟨b, o, rfl, A, ca, hca, q1, q2, q3, q4, q5⟩ := h7.ext hE k hk
  have Hc := Lib.hid (has_any l A ca _ _ rfl q hq _ (Nat.le_trans hca.1 hca.2) q5)
  clear hq h7 h6 q5
  generalize m.orders[k]?.getD default = x0 at *
  go_enter Tryz.func115, Tryz.ntmps115
  go_wp2_with fail
  refine Hc.out.mono ?_
  rintro e w' ⟨rfl, rfl⟩
  go_wp2
  go_ret
  exact ⟨rfl, hE⟩

theorem weaves_any (v : Value) (m : Mill) (l : Int) (k : Nat) (hk : k < m.orders.length) (q : Bool) (hq : ((m.orders[k]?.getD default).on).contains l = q) (w : World) (hv : MillVal w v m) :
    Calls Tryz.prog 146 #[v, .int .i64 l, .int .i64 k] w fun e w' => e = .returned (.bool q) ∧ Ext w w' := by
  obtain ⟨A1, c1, A2, c2, rfl, h2, h3, h4, h5, h6, h7⟩ := hv
  unfold maxLen at h5
  have hE := Ext.alloc w (.cells #[.slice A1 m.laced.length c1, .int .i64 m.change, .slice A2 m.orders.length c2] 25)
  obtain ⟨b, o, rfl, A, ca, hca, q1, q2, q3, q4, q5⟩ := h7.ext hE k hk
  have Hc := Lib.hid (contains_any l A ca _ _ rfl q hq _ (Nat.le_trans hca.1 hca.2) q5)
  clear hq h7 h6 q5
  generalize m.orders[k]?.getD default = x0 at *
  go_enter Tryz.func146, Tryz.ntmps146
  go_wp2_with fail
  refine Hc.out.mono ?_
  rintro e w' ⟨rfl, rfl⟩
  go_wp2
  go_ret
  exact ⟨rfl, hE⟩

set_option maxHeartbeats 400000 in
theorem sets5_any (v : Value) (m : Mill) (hn : m.orders.length ≤ 60) (s : Nat) (hs : s = 2 ^ m.orders.length) (w : World) (hv : MillVal w v m) :
    Calls Tryz.prog 60 #[v] w fun e w' => e = .returned (.int .i64 s) ∧ Ext w w' := by
  have Hs := Lib.hid hs; clear hs
  obtain ⟨A1, c1, A2, c2, rfl, h2, h3, h4, h5, h6, h7⟩ := hv
  have hE := Ext.alloc w (.cells #[.slice A1 m.laced.length c1, .int .i64 m.change, .slice A2 m.orders.length c2] 35)
  have hM := Blk.new w 35 #[.slice A1 m.laced.length c1, .int .i64 m.change, .slice A2 m.orders.length c2]
  obtain ⟨k0, k1, k2⟩ := hM.c3
  clear h6 h7 h3 h5
  go_enter Tryz.func60, Tryz.ntmps60
  go_wp2
  generalize w.alloc _ = W at *
  go_loop [3, 4] (fun n i => ∃ k : Nat, k ≤ m.orders.length ∧ i = .int .i64 k ∧ ∃ p : Nat, Hid (p = 2 ^ k) ∧ p ≤ 1152921504606846976 ∧ n = .int .i64 p) (fun _ i => m.orders.length - (intOf i).toNat)
  case atStart => exact ⟨0, by omega, rfl, 1, rfl, by omega, rfl⟩
  case round =>
    obtain ⟨k, hk, rfl, p, hp, hpb, rfl⟩ := hrel
    by_cases hlt : k < m.orders.length
    · have hp2 : p * 2 ≤ 1152921504606846976 := by
        have h1 : p * 2 = 2 ^ (k + 1) := by rw [hp.out, Nat.pow_succ]
        have h2 : 2 ^ (k + 1) ≤ 2 ^ 60 := Nat.pow_le_pow_right (by omega) (by omega)
        have h3 : (2 : Nat) ^ 60 = 1152921504606846976 := by decide
        omega
      go_wp2
      go_round
      case rel => exact ⟨k + 1, by omega, by go_num, 2 * p, (by unfold Hid; rw [hp.out, Nat.pow_succ]; omega), by omega, by congr 1⟩
      case measure => simp [intOf]; omega
    · have : k = m.orders.length := by omega
      subst this
      go_wp2
      go_ret
      exact ⟨by rw [Hs.out, ← hp.out]; rfl, hE⟩

theorem wrap64_pow (n : Nat) (hn : n ≤ 62) : wrap64 (2 ^ n) = ((2 ^ n : Nat) : Int) := by
  have h1 : 2 ^ n ≤ 2 ^ 62 := Nat.pow_le_pow_right (by omega) hn
  have h2 : (2 : Nat) ^ 62 = 4611686018427387904 := by decide
  have h3 : ((2 ^ n : Nat) : Int) = (2 : Int) ^ n := by simp
  have h4 : ∀ p : Nat, p ≤ 4611686018427387904 → wrap64 (p : Int) = p := fun p hp => IntWalk.wrap64_in _ (by omega)
  have h5 := h4 (2 ^ n) (by omega)
  rw [h3] at h5 ⊢
  exact h5
theorem sets_any (v : Value) (m : Mill) (hn : m.orders.length ≤ 60) (s : Nat) (hs : s = 2 ^ m.orders.length) (w : World) (hv : MillVal w v m) :
    Calls Tryz.prog 70 #[v] w fun e w' => e = .returned (.int .i64 s) ∧ Ext w w' := by
  have Hs := Lib.hid hs; clear hs
  obtain ⟨A1, c1, A2, c2, rfl, h2, h3, h4, h5, h6, h7⟩ := hv
  have hE := Ext.alloc w (.cells #[.slice A1 m.laced.length c1, .int .i64 m.change, .slice A2 m.orders.length c2] 25)
  clear h6 h7 h3 h5
  go_enter Tryz.func70, Tryz.ntmps70
  go_wp2
  rw [wrap64_pow m.orders.length (by omega)]
  rw [← Hs.out]
  go_ret
  exact ⟨rfl, hE⟩

/-- the numbers whose bits are in a set, below n -/
def bits (n s : Nat) : List Nat := (List.range n).filter fun k => s.testBit k
def ints (l : List Nat) : List Int := l.map fun k : Nat => (k : Int)
theorem bits_succ (n s : Nat) : bits (n + 1) s = if s.testBit n then bits n s ++ [n] else bits n s := by
  unfold bits
  rw [List.range_succ, List.filter_append]
  by_cases h : s.testBit n <;> simp [h]
theorem ints_append (a b : List Nat) : ints (a ++ b) = ints a ++ ints b := by unfold ints; simp
theorem bits_length_le (n s : Nat) : (bits n s).length ≤ n := by
  unfold bits
  have := List.length_filter_le (fun k => s.testBit k) (List.range n)
  simpa using this

theorem ownsRow_alloc_of {w : World} {base : Nat} {e : TypeId} {v : Value} {xs : List Int} {L : Nat} {o : Obj} (hL : xs.length = L) (h : OwnI w base e v xs) : (w.alloc o).ownsRow base e 1 v L (xs.map (Value.int .i64)) := by
  subst hL; exact World.ownsRow.alloc h o
set_option maxHeartbeats 400000 in
theorem list5_any (v : Value) (m : Mill) (s : Nat) (hn : m.orders.length ≤ 60) (hs : s ≤ 1152921504606846976) (w : World) (hv : MillVal w v m) :
    Calls Tryz.prog 61 #[v, .int .i64 s] w fun e w' => ∃ r, e = .returned r ∧ OwnI w' w.heap.size 3 r (ints (bits m.orders.length s)) ∧ Ext w w' := by
  obtain ⟨A1, c1, A2, c2, rfl, h2, h3, h4, h5, h6, h7⟩ := hv
  have hE := Ext.alloc w (.cells #[.slice A1 m.laced.length c1, .int .i64 m.change, .slice A2 m.orders.length c2] 35)
  have hM := Blk.new w 35 #[.slice A1 m.laced.length c1, .int .i64 m.change, .slice A2 m.orders.length c2]
  obtain ⟨i, hi, hz0, hz1, hz2⟩ := info_parts info_int
  clear h6 h7 h3 h5
  go_enter Tryz.func61, Tryz.ntmps61
  go_wp2
  have hsz : w.heap.size + 1 ≤ (w.alloc (.cells #[.slice A1 m.laced.length c1, .int .i64 m.change, .slice A2 m.orders.length c2] 35)).heap.size := by simp
  generalize w.alloc _ = W at *
  go_loopw [1, 5, 6] (fun sv v i wr => ∃ k q : Nat, k ≤ m.orders.length ∧ i = .int .i64 k ∧ sv = .int .i64 q ∧ q ≤ 1152921504606846976 ∧ Hid (q = s >>> k) ∧ Ext w wr ∧ w.heap.size + 1 ≤ wr.heap.size ∧ Blk wr w.heap.size 35 #[.slice A1 m.laced.length c1, .int .i64 m.change, .slice A2 m.orders.length c2] ∧
      Hid (OwnI wr (w.heap.size + 1) 3 v (ints (bits k s)))) (fun _ _ i _ => m.orders.length - (intOf i).toNat)
  case atStart => exact ⟨0, s, by omega, rfl, rfl, hs, rfl, hE, hsz, hM, OwnI.nil _ _ _⟩
  case round =>
    obtain ⟨k, q, hk, rfl, rfl, hqb, hq, he, hsw, hM', ho⟩ := hrel
    obtain ⟨B, cB, rfl, o1, o2, o3, o4, o5⟩ := ho.out.open_
    have O4 := Lib.hid o4; clear o3 o4 o5
    have hbl := bits_length_le k s
    have hil : (ints (bits k s)).length = (bits k s).length := by unfold ints; simp
    have hq2 : Hid (q / 2 = s >>> (k + 1)) := by unfold Hid; rw [hq.out, Nat.shiftRight_succ]
    have hodd : Hid (s.testBit k = decide (q % 2 = 1)) := by
      unfold Hid
      rw [hq.out, Nat.testBit_eq_decide_div_mod_eq, Nat.shiftRight_eq_div_pow]
    generalize hln : (ints (bits k s)).length = L at *
    have HL := Lib.hid hln; clear hln
    obtain ⟨k0, k1, k2⟩ := hM'.c3
    by_cases hlt : k < m.orders.length
    · by_cases h1 : q % 2 = 1
      · have hd : ((q : Int) % 2 == 1) = true := by simp; omega
        have h1' := Lib.hid h1; clear h1
        go_wp2_with (at_builtin; refine wpList_app rfl _ _ 22 rfl (w.heap.size + 1) 3 i (.int .i64 0) 1 8 Tryz.underlying22 hi hz0 hz1 hz2 rfl (by decide) _ _ _ rfl (ownsRow_alloc_of HL.out ho.out) (some ⟨wr.heap.size, 0, none⟩) 1 1 [.int .i64 k] rfl rfl (Src.one _ _ _) ?c2 ?c3 ?c4 ?c5 ?_; (case c2 => (intro u hu; simp at hu; subst hu; rfl)); (case c3 => (unfold maxLen; omega)); (case c4 => omega); (case c5 => (simp; omega)); intro v' w' hown' hg hblk)
        go_roundw
        case rel =>
          have hge := own_ge O4.out (L := L) (c := cB)
          refine ⟨k + 1, q / 2, by omega, by go_num, by congr 1, by omega, hq2, ext_grown he hg (fun j hj => by have := hge j hj; omega), ?_, (hM'.alloc _).grown hg (fun e => by have := hge _ e.symm; omega), ?_⟩
          · have := hg.size; simp at this; omega
          · unfold Hid
            rw [bits_succ, hodd.out, decide_eq_true h1'.out, if_pos rfl, ints_append]
            unfold OwnI
            rw [List.map_append, List.length_append, HL.out]
            exact hown'
        case measure => simp [intOf]; omega
      · have hd : ((q : Int) % 2 == 1) = false := by simp; omega
        have h1' := Lib.hid h1; clear h1
        go_wp2
        go_roundw
        case rel => exact ⟨k + 1, q / 2, by omega, by go_num, by congr 1, by omega, hq2, he, hsw, hM', by unfold Hid; rw [bits_succ, hodd.out, decide_eq_false h1'.out]; exact ho.out⟩
        case measure => simp [intOf]; omega
    · go_wp2
      go_ret
      have : k = m.orders.length := by omega
      subst this
      exact ⟨_, rfl, ho.out.mono (by omega), he⟩
end Go.Proofs.Pet

namespace Go.Proofs.Pet
open Go Go.RowKit

theorem IntsAt.take {w : World} {A : Option Addr} {xs : List Int} (h : IntsAt w A xs) (i : Nat) : IntsAt w A (xs.take i) := by
  intro k hk
  have hk' : k < xs.length := by have := List.length_take_le i xs; have := List.length_take (i := i) (l := xs); omega
  have hki : k < i := by have := List.length_take (i := i) (l := xs); omega
  obtain ⟨b, o, e, hc⟩ := h k hk'
  exact ⟨b, o, e, by rw [List.getElem?_take, if_pos hki]; exact hc⟩
def listedE (m : Mill) (l : List Int) : Int :=
  if (l.all fun k => inB k 0 (m.orders.length - 1)) = false then 1 else if twiceB l = true then 5 else 0
def weavesI (m : Mill) (loom k : Int) : Bool := ((m.orders[k.toNat]?.getD default).on).contains loom
def runningE (m : Mill) (loom : Int) (l : List Int) : Int :=
  if inB loom 0 (m.laced.length - 1) = false then 1 else if listedE m l ≠ 0 then listedE m l else if (l.all fun k => weavesI m loom k) = false then 8 else 0

theorem all_false {α : Type} {p : α → Bool} {xs : List α} {x : α} (hx : x ∈ xs) (hp : p x = false) : xs.all p = false := by
  rw [List.all_eq_false]; exact ⟨x, hx, by simp [hp]⟩
theorem all_true_of {p : Int → Bool} {xs : List Int} (h : ∀ j, j < xs.length → p (xs[j]?.getD 0) = true) : xs.all p = true := by
  rw [List.all_eq_true]
  intro x hx
  obtain ⟨j, hj, rfl⟩ := List.mem_iff_getElem.1 hx
  have := h j hj
  simpa [hj] using this
theorem twiceB_true {xs : List Int} {k : Nat} (hk : k < xs.length) (h : (xs.take k).contains (xs[k]?.getD 0) = true) : twiceB xs = true := by
  unfold twiceB
  rw [List.any_eq_true]
  exact ⟨k, List.mem_range.2 hk, h⟩
theorem twiceB_false {xs : List Int} (h : ∀ k, k < xs.length → (xs.take k).contains (xs[k]?.getD 0) = false) : twiceB xs = false := by
  unfold twiceB
  rw [List.any_eq_false]
  intro k hk
  rw [h k (List.mem_range.1 hk)]
  simp

set_option maxHeartbeats 1000000 in
theorem listed5_any (v : Value) (m : Mill) (A : Option Addr) (c : Nat) (l : List Int) (r : Int) (hr : listedE m l = r) (w : World) (hv : MillVal w v m) (hlc : l.length ≤ c) (hl : c ≤ maxLen) (hx : IntsAt w A l) :
    Calls Tryz.prog 80 #[v, .slice A l.length c] w fun e w' => e = .returned (.int .i64 r) ∧ Ext w w' := by
  have Hr := Lib.hid hr; clear hr
  obtain ⟨A1, c1, A2, c2, rfl, h2, h3, h4, h5, h6, h7⟩ := hv
  unfold maxLen at h5 hl
  have hE := Ext.alloc w (.cells #[.slice A1 m.laced.length c1, .int .i64 m.change, .slice A2 m.orders.length c2] 35)
  have hM := Blk.new w 35 #[.slice A1 m.laced.length c1, .int .i64 m.change, .slice A2 m.orders.length c2]
  clear h6 h7
  go_enter Tryz.func80, Tryz.ntmps80
  go_wp2
  generalize w.alloc _ = W at *
  go_loopw [5] (fun i wr => ∃ k : Nat, k ≤ l.length ∧ i = .int .i64 k ∧ Ext w wr ∧ Blk wr w.heap.size 35 #[.slice A1 m.laced.length c1, .int .i64 m.change, .slice A2 m.orders.length c2] ∧
      Hid (∀ j, j < k → inB (l[j]?.getD 0) 0 (m.orders.length - 1) = true)) (fun i _ => l.length - (intOf i).toNat)
  case atStart => exact ⟨0, by omega, rfl, hE, hM, fun j hj => absurd hj (by omega)⟩
  case round =>
    obtain ⟨k, hk, rfl, he, hM', hm⟩ := hrel
    obtain ⟨k0, k1, k2⟩ := hM'.c3
    by_cases hlt : k < l.length
    · obtain ⟨b, o, rfl, q1⟩ := hx.ext he k hlt
      have hmem0 : (l[k]?.getD 0) ∈ l := by simp [hlt]
      have hmem := Lib.hid hmem0; clear hmem0
      generalize hgx : l[k]?.getD 0 = y at *
      have Hgx := Lib.hid hgx; clear hgx
      obtain ⟨q, hq⟩ : ∃ q, inB y 0 (m.orders.length - 1) = q := ⟨_, rfl⟩
      have Ho := Lib.hid (off_any y 0 (m.orders.length - 1) (!q) (by rw [hq]))
      have Hq := Lib.hid hq; clear hq
      go_wp2_with fail
      cases q with
      | false =>
        go_quiet ((go_at_call 58; exact quiet_same (Ho.out _)))
        go_wp2
        go_ret
        exact ⟨by rw [← Hr.out]; unfold listedE; rw [if_pos (all_false hmem.out Hq.out)]; rfl, he.trans (Ext.drewN _ _)⟩
      | true =>
        go_quiet ((go_at_call 58; exact quiet_same (Ho.out _)))
        go_wp2
        go_roundw
        case rel =>
          refine ⟨k + 1, by omega, by go_num, he.trans (Ext.drewN _ _), hM', fun j hj => ?_⟩
          by_cases ej : j = k
          · subst ej; rw [Hgx.out]; exact Hq.out
          · exact hm.out j (by omega)
        case measure => simp [intOf]; omega
    · have hall := Lib.hid (all_true_of (p := fun k => inB k 0 (m.orders.length - 1)) (xs := l) fun j hj => hm.out j (by omega))
      clear hm
      go_wp2
      obtain ⟨w2, hw2⟩ : ∃ w2, w2 = wr := ⟨_, rfl⟩
      rw [← hw2] at he hM' ⊢
      clear hw2
      go_loopw [6] (fun i wr => ∃ k : Nat, k ≤ l.length ∧ i = .int .i64 k ∧ Ext w wr ∧ Hid (∀ j, j < k → (l.take j).contains (l[j]?.getD 0) = false)) (fun i _ => l.length - (intOf i).toNat)
      case atStart => exact ⟨0, by omega, rfl, he, fun j hj => absurd hj (by omega)⟩
      case round =>
        obtain ⟨k, hk, rfl, he2, hm⟩ := hrel
        by_cases hlt : k < l.length
        · obtain ⟨b, o, rfl, q1⟩ := hx.ext he2 k hlt
          obtain ⟨q, hq⟩ : ∃ q, (l.take k).contains (l[k]?.getD 0) = q := ⟨_, rfl⟩
          have hlk : (l.take k).length = k := by rw [List.length_take]; omega
          have Ho := fun W (hW : Ext w W) => has_any (l[k]?.getD 0) (some ⟨b, o, none⟩) c k (l.take k) hlk q hq W (by unfold maxLen; omega) ((hx.ext hW).take k)
          have Ho' := Lib.hid Ho; clear Ho
          have Hq := Lib.hid hq; clear hq hlk
          generalize hgx : l[k]?.getD 0 = y at *
          have Hgx := Lib.hid hgx; clear hgx
          go_wp2_with fail
          cases q with
          | true =>
            go_quiet ((go_at_call 134; exact quiet_same (Ho'.out _ (he2.trans (Ext.drewN _ _)))))
            go_wp2
            go_ret
            refine ⟨?_, he2.trans (Ext.drewN _ _)⟩
            rw [← Hr.out]
            unfold listedE
            rw [hall.out, twiceB_true hlt (by rw [Hgx.out]; exact Hq.out)]; rfl
          | false =>
            go_quiet ((go_at_call 134; exact quiet_same (Ho'.out _ (he2.trans (Ext.drewN _ _)))))
            go_wp2
            go_roundw
            case rel =>
              refine ⟨k + 1, by omega, by go_num, he2.trans (Ext.drewN _ _), fun j hj => ?_⟩
              by_cases ej : j = k
              · subst ej; rw [Hgx.out]; exact Hq.out
              · exact hm.out j (by omega)
            case measure => simp [intOf]; omega
        · go_wp2
          go_ret
          refine ⟨?_, he2⟩
          rw [← Hr.out]
          unfold listedE
          rw [hall.out, twiceB_false fun j hj => hm.out j (by omega)]; rfl

set_option maxRecDepth 20000 in
set_option maxHeartbeats 1000000 in
theorem running5_any (v : Value) (m : Mill) (n : Int) (A : Option Addr) (c : Nat) (l : List Int) (r : Int) (hr : runningE m n l = r) (w : World) (hv : MillVal w v m) (hlc : l.length ≤ c) (hl : c ≤ maxLen) (hx : IntsAt w A l) :
    Calls Tryz.prog 83 #[v, .int .i64 n, .slice A l.length c] w fun e w' => e = .returned (.int .i64 r) ∧ Ext w w' := by
  have Hr := Lib.hid hr; clear hr
  have Hv := Lib.hid hv
  obtain ⟨A1, c1, A2, c2, rfl, h2, h3, h4, h5, h6, h7⟩ := hv
  unfold maxLen at h3 h5
  have hl' := Lib.hid hl
  unfold maxLen at hl
  have hE := Ext.alloc w (.cells #[.slice A1 m.laced.length c1, .int .i64 m.change, .slice A2 m.orders.length c2] 35)
  have hM := Blk.new w 35 #[.slice A1 m.laced.length c1, .int .i64 m.change, .slice A2 m.orders.length c2]
  clear h6 h7
  obtain ⟨q, hq⟩ : ∃ q, inB n 0 (m.laced.length - 1) = q := ⟨_, rfl⟩
  have Ho := Lib.hid (off_any n 0 (m.laced.length - 1) (!q) (by rw [hq]))
  have Hq0 := Lib.hid hq; clear hq
  go_enter Tryz.func83, Tryz.ntmps83
  go_wp2_with fail
  refine (Ho.out _).mono ?_
  rintro e w' ⟨rfl, rfl⟩
  cases q with
  | false =>
    go_wp2
    go_ret
    exact ⟨by rw [← Hr.out]; unfold runningE; rw [if_pos Hq0.out]; rfl, hE⟩
  | true =>
    obtain ⟨r1, hr1⟩ : ∃ r1, listedE m l = r1 := ⟨_, rfl⟩
    have Hl := Lib.hid (listed5_any _ m A c l r1 hr1 _ (Hv.out.ext hE) hlc hl'.out (hx.ext hE))
    have Hr1 := Lib.hid hr1; clear hr1
    generalize w.alloc _ = W at *
    obtain ⟨k0, k1, k2⟩ := hM.c3
    go_wp2_with fail
    refine Hl.out.mono ?_
    rintro e w2 ⟨rfl, he2⟩
    clear k0 k1 k2
    have hM2 := hM.ext he2
    have hE2 := hE.trans he2
    by_cases h0 : r1 = 0
    · have hd : (r1 != 0) = false := by simp [h0]
      have H0 := Lib.hid h0; clear h0 hM
      go_wp2
      go_loopw [8] (fun i wr => ∃ k : Nat, k ≤ l.length ∧ i = .int .i64 k ∧ Ext w wr ∧ Blk wr w.heap.size 35 #[.slice A1 m.laced.length c1, .int .i64 m.change, .slice A2 m.orders.length c2] ∧
          Hid (∀ j, j < k → weavesI m n (l[j]?.getD 0) = true)) (fun i _ => l.length - (intOf i).toNat)
      case atStart => exact ⟨0, by omega, rfl, hE2, hM2, fun j hj => absurd hj (by omega)⟩
      case round =>
        obtain ⟨k, hk, rfl, he, hM', hm⟩ := hrel
        obtain ⟨k0, k1, k2⟩ := hM'.c3
        by_cases hlt : k < l.length
        · obtain ⟨b, o, rfl, q1⟩ := hx.ext he k hlt
          have hmem0 : (l[k]?.getD 0) ∈ l := by simp [hlt]
          have hmem := Lib.hid hmem0
          -- the order is one
          have hin : inB (l[k]?.getD 0) 0 (m.orders.length - 1) = true := by
            have h1 : listedE m l = 0 := by rw [Hr1.out]; exact H0.out
            unfold listedE at h1
            cases ha : l.all fun k => inB k 0 (m.orders.length - 1) with
            | true => exact List.all_eq_true.1 ha _ hmem0
            | false => rw [ha] at h1; simp at h1
          clear hmem0
          generalize hgx : l[k]?.getD 0 = y at *
          have Hgx := Lib.hid hgx; clear hgx
          obtain ⟨j, rfl, hj⟩ : ∃ j : Nat, y = j ∧ j < m.orders.length := ⟨y.toNat, by unfold inB at hin; simp at hin; omega, by unfold inB at hin; simp at hin; omega⟩
          clear hin
          obtain ⟨q, hq⟩ : ∃ q, weavesI m n j = q := ⟨_, rfl⟩
          have hw := fun W (hW : Ext w W) => weaves5_any _ m n j hj q (by rw [← hq]; unfold weavesI; rw [Int.toNat_natCast]) W (Hv.out.ext hW)
          have Hw := Lib.hid hw; clear hw
          have Hq := Lib.hid hq; clear hq
          go_wp2_with fail
          go_still_tail 6, (by kernel_rfl)
          change wpList _ _ _ _ _ wr.drew
          go_wp2_with fail
          refine (Hw.out _ (he.trans (Ext.drew _))).mono ?_
          rintro e w3 ⟨rfl, he3⟩
          have he4 := he.trans ((Ext.drew _).trans he3)
          cases q with
          | false =>
            go_wp2
            go_ret
            refine ⟨?_, he4⟩
            rw [← Hr.out]
            unfold runningE
            rw [Hq0.out, Hr1.out, H0.out, all_false (p := fun k => weavesI m n k) hmem.out Hq.out]; rfl
          | true =>
            go_wp2
            go_roundw
            case rel =>
              refine ⟨k + 1, by omega, by go_num, he4, hM'.ext ((Ext.drew _).trans he3), fun j' hj' => ?_⟩
              by_cases ej : j' = k
              · subst ej; rw [Hgx.out]; exact Hq.out
              · exact hm.out j' (by omega)
            case measure => simp [intOf]; omega
        · go_wp2
          go_ret
          refine ⟨?_, he⟩
          rw [← Hr.out]
          unfold runningE
          rw [Hq0.out, Hr1.out, H0.out, all_true_of (p := fun k => weavesI m n k) (fun j hj => hm.out j (by omega))]; rfl
    · have hd : (r1 != 0) = true := by simpa using h0
      have H0 := Lib.hid h0; clear h0
      go_wp2
      go_ret
      refine ⟨?_, hE2⟩
      rw [← Hr.out]
      unfold runningE
      rw [Hq0.out, Hr1.out, if_neg (by simp), if_pos H0.out]; rfl
end Go.Proofs.Pet

namespace Go.Proofs.Pet
open Go Go.RowKit

theorem allO_true {p : Ord → Bool} {xs : List Ord} (h : ∀ j, j < xs.length → p (xs[j]?.getD default) = true) : xs.all p = true := by
  rw [List.all_eq_true]
  intro x hx
  obtain ⟨j, hj, rfl⟩ := List.mem_iff_getElem.1 hx
  have := h j hj
  simpa [hj] using this
theorem upto_succ {α : Type} {p : α → Bool} {f : Nat → α} {k : Nat} {x : α} (hx : f k = x) (hp : p x = true) (h : ∀ j, j < k → p (f j) = true) : ∀ j, j < k + 1 → p (f j) = true := by
  intro j hj
  by_cases e : j = k
  · subst e; rw [hx]; exact hp
  · exact h j (by omega)

set_option maxRecDepth 20000 in
set_option maxHeartbeats 4000000 in
theorem check5_any (v : Value) (m : Mill) (r : Int) (hr : checkE m = r) (w : World) (hv : MillVal w v m) :
    Calls Tryz.prog 13 #[v] w fun e w' => e = .returned (.int .i64 r) ∧ Ext w w' := by
  have Hr := Lib.hid hr; clear hr
  obtain ⟨A1, c1, A2, c2, rfl, h2, h3, h4, h5, h6, h7⟩ := hv
  unfold maxLen at h3 h5
  have hE := Ext.alloc w (.cells #[.slice A1 m.laced.length c1, .int .i64 m.change, .slice A2 m.orders.length c2] 35)
  have hM := Blk.new w 35 #[.slice A1 m.laced.length c1, .int .i64 m.change, .slice A2 m.orders.length c2]
  obtain ⟨q1, hq1⟩ : ∃ q, inB m.laced.length 1 3 = q := ⟨_, rfl⟩
  obtain ⟨q2, hq2⟩ : ∃ q, inB m.change 0 5 = q := ⟨_, rfl⟩
  have H1 := Lib.hid (off_any m.laced.length 1 3 (!q1) (by rw [hq1]))
  have H2 := Lib.hid (off_any m.change 0 5 (!q2) (by rw [hq2]))
  have Q1 := Lib.hid hq1
  have Q2 := Lib.hid hq2
  clear hq1 hq2
  go_enter Tryz.func13, Tryz.ntmps13
  go_wp2_with fail
  refine (H1.out _).mono ?_
  rintro e w' ⟨rfl, rfl⟩
  cases q1 with
  | false =>
    go_wp2
    go_ret
    exact ⟨by rw [← Hr.out]; unfold checkE; rw [if_pos (.inl Q1.out)]; rfl, hE⟩
  | true =>
  by_cases h8 : 7 < m.orders.length
  · go_wp2
    go_ret
    exact ⟨by rw [← Hr.out]; unfold checkE; rw [if_pos (.inr h8)]; rfl, hE⟩
  have hd8 : decide (7 < (m.orders.length : Int)) = false := by simp; omega
  have F1 : Hid (¬ (inB m.laced.length 1 3 = false ∨ 7 < m.orders.length)) := by unfold Hid; rw [Q1.out]; simp; omega
  have hM0 := hM.c3
  generalize w.alloc _ = W at *
  obtain ⟨k0, k1, k2⟩ := hM0
  have h8' := Lib.hid h8; clear h8
  go_wp2
  clear k0 k1 k2
  go_loopw [3] (fun i wr => ∃ k : Nat, k ≤ m.laced.length ∧ i = .int .i64 k ∧ Ext w wr ∧ Blk wr w.heap.size 35 #[.slice A1 m.laced.length c1, .int .i64 m.change, .slice A2 m.orders.length c2] ∧
      Hid (∀ j, j < k → inB (m.laced[j]?.getD 0) (-1) 9 = true)) (fun i _ => m.laced.length - (intOf i).toNat)
  case atStart => exact ⟨0, by omega, rfl, hE, hM, fun j hj => absurd hj (by omega)⟩
  case round =>
    obtain ⟨k, hk, rfl, he, hM', hm⟩ := hrel
    obtain ⟨k0, k1, k2⟩ := hM'.c3
    by_cases hlt : k < m.laced.length
    · obtain ⟨b, o, rfl, p1⟩ := h6.ext he k hlt
      have hmem0 : (m.laced[k]?.getD 0) ∈ m.laced := by simp [hlt]
      have hmem := Lib.hid hmem0; clear hmem0
      generalize hgx : m.laced[k]?.getD 0 = y at *
      have Hgx := Lib.hid hgx; clear hgx
      obtain ⟨q, hq⟩ : ∃ q, inB y (-1) 9 = q := ⟨_, rfl⟩
      have Ho := Lib.hid (off_any y (-1) 9 (!q) (by rw [hq]))
      have Hq := Lib.hid hq; clear hq
      go_wp2_with fail
      refine (Ho.out _).mono ?_
      rintro e w' ⟨rfl, rfl⟩
      cases q with
      | false =>
        go_wp2
        go_ret
        exact ⟨by rw [← Hr.out]; unfold checkE; rw [if_neg F1.out, if_pos (.inl (all_false (p := fun n => inB n (-1) 9) hmem.out Hq.out))]; rfl, he⟩
      | true =>
        go_wp2
        go_roundw
        case rel => exact ⟨k + 1, by omega, by go_num, he, hM', upto_succ (p := fun n => inB n (-1) 9) (f := fun j => m.laced[j]?.getD 0) Hgx.out Hq.out hm.out⟩
        case measure => simp [intOf]; omega
    · have F2 := Lib.hid (all_true_of (p := fun n => inB n (-1) 9) (xs := m.laced) fun j hj => hm.out j (by omega))
      clear hm
      go_wp2_with fail
      refine (H2.out _).mono ?_
      rintro e w' ⟨rfl, rfl⟩
      cases q2 with
      | false =>
        go_wp2
        go_ret
        exact ⟨by rw [← Hr.out]; unfold checkE; rw [if_neg F1.out, if_pos (.inr Q2.out)]; rfl, he⟩
      | true =>
      have F3 : Hid (¬ ((m.laced.all fun n => inB n (-1) 9) = false ∨ inB m.change 0 5 = false)) := by unfold Hid; rw [F2.out, Q2.out]; simp
      go_wp2
      obtain ⟨w1, hw1⟩ : ∃ w1, w1 = wr := ⟨_, rfl⟩
      rw [← hw1] at he hM' ⊢
      clear hw1 k0 k1 k2 hM
      go_loopw [4, 5] (fun i _ wr => ∃ k : Nat, k ≤ m.orders.length ∧ i = .int .i64 k ∧ Ext w wr ∧ Blk wr w.heap.size 35 #[.slice A1 m.laced.length c1, .int .i64 m.change, .slice A2 m.orders.length c2] ∧
          Hid (∀ j, j < k → (fun o : Ord => inB o.pattern 0 9 && inB o.days 1 20 && inB o.by_ 1 99) (m.orders[j]?.getD default) = true)) (fun i _ _ => m.orders.length - (intOf i).toNat)
      case atStart => exact ⟨0, by omega, rfl, he, hM', fun j hj => absurd hj (by omega)⟩
      case round =>
        obtain ⟨k, hk, rfl, he, hM', hm⟩ := hrel
        obtain ⟨k0, k1, k2⟩ := hM'.c3
        by_cases hlt : k < m.orders.length
        · obtain ⟨b, o, rfl, A, ca, hca, p1, p2, p3, p4, p5⟩ := h7.ext he k hlt
          have hmem0 : (m.orders[k]?.getD default) ∈ m.orders := by simp [hlt]
          have hmem := Lib.hid hmem0; clear hmem0
          generalize hgx : m.orders[k]?.getD default = x at *
          have Hgx := Lib.hid hgx; clear hgx
          obtain ⟨r1, hr1⟩ : ∃ q, inB x.pattern 0 9 = q := ⟨_, rfl⟩
          obtain ⟨r2, hr2⟩ : ∃ q, inB x.days 1 20 = q := ⟨_, rfl⟩
          obtain ⟨r3, hr3⟩ : ∃ q, inB x.by_ 1 99 = q := ⟨_, rfl⟩
          have O1 := Lib.hid (off_any x.pattern 0 9 (!r1) (by rw [hr1]))
          have O2 := Lib.hid (off_any x.days 1 20 (!r2) (by rw [hr2]))
          have O3 := Lib.hid (off_any x.by_ 1 99 (!r3) (by rw [hr3]))
          have R1 := Lib.hid hr1; have R2 := Lib.hid hr2; have R3 := Lib.hid hr3
          clear hr1 hr2 hr3
          have bad : (inB x.pattern 0 9 && inB x.days 1 20 && inB x.by_ 1 99) = false → checkE m = 3 := fun h => by
            unfold checkE; rw [if_neg F1.out, if_neg F3.out, if_pos (all_false (p := fun o : Ord => inB o.pattern 0 9 && inB o.days 1 20 && inB o.by_ 1 99) hmem.out h)]
          have Bad := Lib.hid bad; clear bad
          go_wp2_with fail
          refine (O1.out _).mono ?_
          rintro e w' ⟨rfl, rfl⟩
          cases r1 with
          | false =>
            go_wp2
            go_ret
            exact ⟨by rw [← Hr.out, Bad.out (by rw [R1.out]; rfl)]; rfl, he.trans (Ext.alloc _ _)⟩
          | true =>
          go_wp2_with fail
          refine (O2.out _).mono ?_
          rintro e w' ⟨rfl, rfl⟩
          cases r2 with
          | false =>
            go_wp2
            go_ret
            exact ⟨by rw [← Hr.out, Bad.out (by rw [R1.out, R2.out]; rfl)]; rfl, he.trans (Ext.alloc _ _)⟩
          | true =>
          go_wp2_with fail
          refine (O3.out _).mono ?_
          rintro e w' ⟨rfl, rfl⟩
          cases r3 with
          | false =>
            go_wp2
            go_ret
            exact ⟨by rw [← Hr.out, Bad.out (by rw [R1.out, R2.out, R3.out]; rfl)]; rfl, he.trans (Ext.alloc _ _)⟩
          | true =>
          go_wp2
          go_roundw
          case rel => exact ⟨k + 1, by omega, by go_num, he.trans (Ext.alloc _ _), hM'.alloc _, upto_succ (p := fun o : Ord => inB o.pattern 0 9 && inB o.days 1 20 && inB o.by_ 1 99) (f := fun j => m.orders[j]?.getD default) Hgx.out (by show (inB x.pattern 0 9 && inB x.days 1 20 && inB x.by_ 1 99) = true; rw [R1.out, R2.out, R3.out]; rfl) hm.out⟩
          case measure => simp [intOf]; omega
        · have F4 := Lib.hid (allO_true (p := fun o : Ord => inB o.pattern 0 9 && inB o.days 1 20 && inB o.by_ 1 99) (xs := m.orders) fun j hj => hm.out j (by omega))
          clear hm
          have F4' : Hid (¬ (m.orders.all fun o => inB o.pattern 0 9 && inB o.days 1 20 && inB o.by_ 1 99) = false) := by unfold Hid; rw [F4.out]; simp
          go_wp2
          obtain ⟨w1, hw1⟩ : ∃ w1, w1 = wr := ⟨_, rfl⟩
          rw [← hw1] at he hM' ⊢
          clear hw1 k0 k1 k2
          go_loopw [6] (fun i wr => ∃ k : Nat, k ≤ m.orders.length ∧ i = .int .i64 k ∧ Ext w wr ∧ Blk wr w.heap.size 35 #[.slice A1 m.laced.length c1, .int .i64 m.change, .slice A2 m.orders.length c2] ∧
              Hid (∀ j, j < k → (fun o : Ord => decide (0 < o.on.length)) (m.orders[j]?.getD default) = true)) (fun i _ => m.orders.length - (intOf i).toNat)
          case atStart => exact ⟨0, by omega, rfl, he, hM', fun j hj => absurd hj (by omega)⟩
          case round =>
            obtain ⟨k, hk, rfl, he, hM', hm⟩ := hrel
            obtain ⟨k0, k1, k2⟩ := hM'.c3
            by_cases hlt : k < m.orders.length
            · obtain ⟨b, o, rfl, A, ca, hca, p1, p2, p3, p4, p5⟩ := h7.ext he k hlt
              have hmem0 : (m.orders[k]?.getD default) ∈ m.orders := by simp [hlt]
              have hmem := Lib.hid hmem0; clear hmem0
              generalize hgx : m.orders[k]?.getD default = x at *
              have Hgx := Lib.hid hgx; clear hgx
              by_cases h0 : x.on.length = 0
              · have hd : ((x.on.length : Int) == 0) = true := by simp; exact List.length_eq_zero_iff.1 h0
                have H0 := Lib.hid h0; clear h0
                go_wp2
                go_ret
                exact ⟨by rw [← Hr.out]; unfold checkE; rw [if_neg F1.out, if_neg F3.out, if_neg F4'.out, if_pos (all_false (p := fun o : Ord => decide (0 < o.on.length)) hmem.out (by show decide (0 < x.on.length) = false; rw [H0.out]; rfl))]; rfl, he⟩
              · have hd : ((x.on.length : Int) == 0) = false := by simp; exact fun h => h0 (by rw [h]; rfl)
                have H0 := Lib.hid h0; clear h0
                go_wp2
                go_roundw
                case rel => exact ⟨k + 1, by omega, by go_num, he, hM', upto_succ (p := fun o : Ord => decide (0 < o.on.length)) (f := fun j => m.orders[j]?.getD default) Hgx.out (by have := H0.out; simp only [decide_eq_true_eq]; omega) hm.out⟩
                case measure => simp [intOf]; omega
            · have F5 := Lib.hid (allO_true (p := fun o : Ord => decide (0 < o.on.length)) (xs := m.orders) fun j hj => hm.out j (by omega))
              clear hm
              have F5' : Hid (¬ (m.orders.all fun o => decide (0 < o.on.length)) = false) := by unfold Hid; rw [F5.out]; simp
              go_wp2
              obtain ⟨w1, hw1⟩ : ∃ w1, w1 = wr := ⟨_, rfl⟩
              rw [← hw1] at he hM' ⊢
              clear hw1 k0 k1 k2
              go_loopw [7, 8] (fun i _ wr => ∃ k : Nat, k ≤ m.orders.length ∧ i = .int .i64 k ∧ Ext w wr ∧ Blk wr w.heap.size 35 #[.slice A1 m.laced.length c1, .int .i64 m.change, .slice A2 m.orders.length c2] ∧
                  Hid (∀ j, j < k → (fun o : Ord => o.on.all fun n => inB n 0 (m.laced.length - 1)) (m.orders[j]?.getD default) = true)) (fun i _ _ => m.orders.length - (intOf i).toNat)
              case atStart => exact ⟨0, by omega, rfl, he, hM', fun j hj => absurd hj (by omega)⟩
              case round =>
                obtain ⟨k, hk, rfl, he, hM', hm⟩ := hrel
                obtain ⟨k0, k1, k2⟩ := hM'.c3
                by_cases hlt : k < m.orders.length
                · have hmem0 : (m.orders[k]?.getD default) ∈ m.orders := by simp [hlt]
                  have hmem := Lib.hid hmem0; clear hmem0
                  go_wp2
                  obtain ⟨w1, hw1⟩ : ∃ w1, w1 = wr := ⟨_, rfl⟩
                  rw [← hw1] at he hM' ⊢
                  clear hw1 k0 k1 k2
                  go_loopw [8] (fun i wr => ∃ k' : Nat, k' ≤ (m.orders[k]?.getD default).on.length ∧ i = .int .i64 k' ∧ Ext w wr ∧ Blk wr w.heap.size 35 #[.slice A1 m.laced.length c1, .int .i64 m.change, .slice A2 m.orders.length c2] ∧
                      Hid (∀ j, j < k' → (fun n => inB n 0 (m.laced.length - 1)) ((m.orders[k]?.getD default).on[j]?.getD 0) = true)) (fun i _ => (m.orders[k]?.getD default).on.length - (intOf i).toNat)
                  case atStart => exact ⟨0, by omega, rfl, he, hM', fun j hj => absurd hj (by omega)⟩
                  case round =>
                    obtain ⟨k', hk', rfl, he, hM', hm'⟩ := hrel
                    obtain ⟨k0, k1, k2⟩ := hM'.c3
                    obtain ⟨b, o, rfl, A, ca, hca, p1, p2, p3, p4, p5⟩ := h7.ext he k hlt
                    obtain ⟨hca1, hca2⟩ := hca
                    unfold maxLen at hca2
                    generalize hgx : m.orders[k]?.getD default = x at *
                    have Hgx := Lib.hid hgx; clear hgx
                    by_cases hlt' : k' < x.on.length
                    · obtain ⟨b', o', rfl, s1⟩ := p5 k' hlt'
                      have hmem1 : (x.on[k']?.getD 0) ∈ x.on := by simp [hlt']
                      have hmem' := Lib.hid hmem1; clear hmem1
                      generalize hgy : x.on[k']?.getD 0 = y at *
                      have Hgy := Lib.hid hgy; clear hgy
                      obtain ⟨q, hq⟩ : ∃ q, inB y 0 (m.laced.length - 1) = q := ⟨_, rfl⟩
                      have Ho := Lib.hid (off_any y 0 (m.laced.length - 1) (!q) (by rw [hq]))
                      have Hq := Lib.hid hq; clear hq
                      clear p5
                      go_wp2_with fail
                      cases q with
                      | false =>
                        go_quiet ((go_at_call 58; exact quiet_same (Ho.out _)))
                        go_wp2
                        go_ret
                        refine ⟨?_, he.trans (Ext.drewN _ _)⟩
                        rw [← Hr.out]; unfold checkE
                        rw [if_neg F1.out, if_neg F3.out, if_neg F4'.out, if_neg F5'.out, if_pos (all_false (p := fun o : Ord => o.on.all fun n => inB n 0 (m.laced.length - 1)) hmem.out (all_false (p := fun n => inB n 0 (m.laced.length - 1)) hmem'.out Hq.out))]; rfl
                      | true =>
                        go_quiet ((go_at_call 58; exact quiet_same (Ho.out _)))
                        go_wp2
                        go_roundw
                        case rel => exact ⟨k' + 1, by omega, by go_num, he.trans (Ext.drewN _ _), hM', upto_succ (p := fun n => inB n 0 (m.laced.length - 1)) (f := fun j => x.on[j]?.getD 0) Hgy.out Hq.out hm'.out⟩
                        case measure => simp [intOf]; omega
                    · have F6 := Lib.hid (all_true_of (p := fun n => inB n 0 (m.laced.length - 1)) (xs := x.on) fun j hj => hm'.out j (by omega))
                      clear p5
                      go_wp2
                      go_roundw
                      case rel => exact ⟨k + 1, by omega, by go_num, he, hM', upto_succ (p := fun o : Ord => o.on.all fun n => inB n 0 (m.laced.length - 1)) (f := fun j => m.orders[j]?.getD default) Hgx.out F6.out hm.out⟩
                      case measure => simp [intOf]; omega
                · have F6 := Lib.hid (allO_true (p := fun o : Ord => o.on.all fun n => inB n 0 (m.laced.length - 1)) (xs := m.orders) fun j hj => hm.out j (by omega))
                  clear hm
                  have F6' : Hid (¬ (m.orders.all fun o => o.on.all fun n => inB n 0 (m.laced.length - 1)) = false) := by unfold Hid; rw [F6.out]; simp
                  go_wp2
                  obtain ⟨w1, hw1⟩ : ∃ w1, w1 = wr := ⟨_, rfl⟩
                  rw [← hw1] at he hM' ⊢
                  clear hw1 k0 k1 k2
                  go_loopw [9] (fun i wr => ∃ k : Nat, k ≤ m.orders.length ∧ i = .int .i64 k ∧ Ext w wr ∧ Blk wr w.heap.size 35 #[.slice A1 m.laced.length c1, .int .i64 m.change, .slice A2 m.orders.length c2] ∧
                      Hid (∀ j, j < k → (fun o : Ord => risingB o.on) (m.orders[j]?.getD default) = true)) (fun i _ => m.orders.length - (intOf i).toNat)
                  case atStart => exact ⟨0, by omega, rfl, he, hM', fun j hj => absurd hj (by omega)⟩
                  case round =>
                    obtain ⟨k, hk, rfl, he, hM', hm⟩ := hrel
                    obtain ⟨k0, k1, k2⟩ := hM'.c3
                    by_cases hlt : k < m.orders.length
                    · obtain ⟨b, o, rfl, A, ca, hca, p1, p2, p3, p4, p5⟩ := h7.ext he k hlt
                      have hmem0 : (m.orders[k]?.getD default) ∈ m.orders := by simp [hlt]
                      have hmem := Lib.hid hmem0; clear hmem0
                      generalize hgx : m.orders[k]?.getD default = x at *
                      have Hgx := Lib.hid hgx; clear hgx
                      obtain ⟨q, hq⟩ : ∃ q, risingB x.on = q := ⟨_, rfl⟩
                      have Ho := Lib.hid (rising5_any A ca x.on q hq wr (Nat.le_trans hca.1 hca.2) p5)
                      have Hq := Lib.hid hq; clear hq p5
                      go_wp2_with fail
                      refine Ho.out.mono ?_
                      rintro e w' ⟨rfl, he2⟩
                      cases q with
                      | false =>
                        go_wp2
                        go_ret
                        refine ⟨?_, he.trans he2⟩
                        rw [← Hr.out]; unfold checkE
                        rw [if_neg F1.out, if_neg F3.out, if_neg F4'.out, if_neg F5'.out, if_neg F6'.out, if_pos (all_false (p := fun o : Ord => risingB o.on) hmem.out Hq.out)]; rfl
                      | true =>
                        go_wp2
                        go_roundw
                        case rel => exact ⟨k + 1, by omega, by go_num, he.trans he2, hM'.ext he2, upto_succ (p := fun o : Ord => risingB o.on) (f := fun j => m.orders[j]?.getD default) Hgx.out Hq.out hm.out⟩
                        case measure => simp [intOf]; omega
                    · have F7 := Lib.hid (allO_true (p := fun o : Ord => risingB o.on) (xs := m.orders) fun j hj => hm.out j (by omega))
                      go_wp2
                      go_ret
                      refine ⟨?_, he⟩
                      rw [← Hr.out]; unfold checkE
                      rw [if_neg F1.out, if_neg F3.out, if_neg F4'.out, if_neg F5'.out, if_neg F6'.out, F7.out]; rfl
end Go.Proofs.Pet
