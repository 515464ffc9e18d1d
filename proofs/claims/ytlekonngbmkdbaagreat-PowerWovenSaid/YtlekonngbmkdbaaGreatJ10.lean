/- Joined texts: PA2, PVC, S9, S10, S11, S12, S13, S14, S15, PA4, PB1, W0, PB2, PU. -/
import Derived.Test.YtlekonngbmkdbaaGreatJ09
import Derived.Test.YtlekonngbmkdbaaGreatJ07
import Derived.KernelRfl
import Derived.Test.YtlekonngbmkdbaaGreatP01
import Derived.RangeFuncNested
import Derived.Deep.LoopGhost
namespace Go.Proofs.Pet
open Go Go.RowKit
open Go.Proofs.Pow (PM Sh Wv)

theorem everyI1P (g : Nat) (fs lb : Array Value) (eg : Enters Tryz.prog g) (B : Nat) (x : Int) (q : Bool) (w : World) (hp : Tells Tryz.prog w g fs lb IntVal x q) (hB : w.cell? ⟨B, 0, none⟩ = some (.func (.func g) fs lb)) :
    Tells Tryz.prog w 229 #[] #[.pointer (some ⟨B, 0, none⟩)] IntVal x (!q) := by
  intro W v hW hv
  have hB' := hW.cell hB
  obtain rfl : v = .int .i64 x := hv
  have hW' : Ext W W := Ext.refl W
  have Hp := Lib.hid hp
  clear hp hB
  have eg' := eg
  unfold Enters at eg'
  have hB2 := hW'.cell hB'
  show Calls Tryz.prog 229 #[_, .pointer (some ⟨B, 0, none⟩)] W _
  go_enter Tryz.func229, Tryz.ntmps229
  cases q with
  | true =>
    go_wp2_with fail
    refine (Hp.out _ _ (hW.trans hW') rfl).mono ?_
    rintro e w' ⟨rfl, he⟩
    go_wp2
    go_ret
    exact ⟨rfl, hW'.trans he⟩
  | false =>
    go_wp2_with fail
    refine (Hp.out _ _ (hW.trans hW') rfl).mono ?_
    rintro e w' ⟨rfl, he⟩
    go_wp2
    go_ret
    exact ⟨rfl, hW'.trans he⟩


theorem everyIP (g : Nat) (fs lb : Array Value) (eg : Enters Tryz.prog g) (p : Int → Bool) (A : Option Addr) (c : Nat) (xs : List Int) (w : World) (hb : xs.length ≤ maxLen)
    (hx : IntsAt w A xs) (hp : ∀ x ∈ xs, Tells Tryz.prog w g fs lb IntVal x (p x)) :
    Calls Tryz.prog 149 #[.slice A xs.length c, .func (.func g) fs lb] w fun e w' => e = .returned (.bool (xs.all p)) ∧ Ext w w' := by
  have hmf : ∀ (fn : Fn) (first cap : Array Value) (w : World), (Instr.makeFunc fn first cap).run Tryz.prog w = .ok (.func fn first cap) w := fun _ _ _ _ => rfl
  have hq0 : xs.all p = !(xs.any fun x => !p x) := by rw [List.not_any_eq_all_not]; simp
  obtain ⟨q, hq⟩ : ∃ q, xs.any (fun x => !p x) = q := ⟨_, rfl⟩
  rw [hq0, hq]
  have hE : Ext w (w.alloc (.cells #[.func (.func g) fs lb] 156)) := Ext.alloc _ _
  have h := containsFuncI 229 #[] #[.pointer (some ⟨w.heap.size, 0, none⟩)] (enters_of Tryz.func229 (by kernel_rfl) rfl) (fun x => !p x) A c xs _ hb (hx.ext hE) (fun x hxm => everyI1P g fs lb eg w.heap.size x (p x) _ ((hp x hxm).ext hE) (cell_new_l w _ _).1)
  rw [hq] at h
  have H := Lib.hid h; clear h hx hp hq hq0
  go_enter Tryz.func149, Tryz.ntmps149
  go_wp2_with fail
  refine H.out.mono ?_
  rintro e w' ⟨rfl, he⟩
  cases q with
  | true =>
    go_wp2
    go_ret
    exact ⟨rfl, hE.trans he⟩
  | false =>
    go_wp2
    go_ret
    exact ⟨rfl, hE.trans he⟩



theorem in_anyP (n lo hi : Int) (q : Bool) (hq : inB n lo hi = q) (w : World) :
    Calls Tryz.prog 144 #[.int .i64 n, .int .i64 lo, .int .i64 hi] w fun e w' => e = .returned (.bool q) ∧ w = w' := by
  subst hq
  unfold inB
  by_cases h1 : lo ≤ n
  · by_cases h2 : n ≤ hi
    · go_enter Tryz.func144, Tryz.ntmps144
      go_wp2
      go_ret
      exact ⟨by simp [h1, h2], rfl⟩
    · have hd : decide (n ≤ hi) = false := by simp; omega
      go_enter Tryz.func144, Tryz.ntmps144
      go_wp2
      go_ret
      exact ⟨by simp, rfl⟩
  · have hd : decide (lo ≤ n) = false := by simp; omega
    go_enter Tryz.func144, Tryz.ntmps144
    go_wp2
    go_ret
    exact ⟨by simp, rfl⟩


set_option maxHeartbeats 400000 in
theorem rising_anyP (A : Option Addr) (c : Nat) (xs : List Int) (q : Bool) (hq : risingB xs = q) (w : World) (hl : xs.length ≤ maxLen) (hx : IntsAt w A xs) :
    Calls Tryz.prog 154 #[.slice A xs.length c] w fun e w' => e = .returned (.bool q) ∧ Ext w w' := by
  unfold maxLen at hl
  have Hq : Hid (q = true ↔ risingTo xs xs.length) := by unfold Hid; rw [← hq]; exact risingB_iff xs
  clear hq
  go_enter Tryz.func154, Tryz.ntmps154
  go_wp2
  go_loopw [3] (fun i wr => ∃ k : Nat, 1 ≤ k ∧ (k ≤ xs.length ∨ k = 1) ∧ i = .int .i64 k ∧ Hid (risingTo xs k) ∧ Ext w wr) (fun i _ => xs.length + 1 - (intOf i).toNat)
  case atStart => exact ⟨1, by omega, by omega, rfl, by intro i h1 h2; omega, Ext.refl _⟩
  case round =>
    obtain ⟨k, hk1, hk2, rfl, hr, he⟩ := hrel
    by_cases hlt : k < xs.length
    · obtain ⟨b, o, rfl, c1⟩ := hx.ext he k hlt
      obtain ⟨b', o', e', c2⟩ := hx.ext he (k-1) (by omega)
      simp only [Option.some.injEq, Addr.mk.injEq, and_true] at e'
      obtain ⟨rfl, rfl⟩ := e'
      have e1 : ((k : Int) - 1).toNat = k - 1 := by omega
      have b1 : (0:Int) ≤ (k : Int) - 1 := by omega
      have b2 : (k : Int) - 1 < xs.length := by omega
      have hk2' := Lib.hid hk2; clear hk2
      generalize hga : xs[k]?.getD 0 = x at *
      generalize hgb : xs[k-1]?.getD 0 = y at *
      have Hga := Lib.hid hga; clear hga
      have Hgb := Lib.hid hgb; clear hgb
      by_cases hle : x ≤ y
      · go_wp2_with fail
        go_quiet (fail)
        go_wp2
        go_ret
        refine ⟨?_, he.trans (Ext.drewN _ _)⟩
        have : ¬ risingTo xs xs.length := fun h => by
          have := h k hk1 hlt
          rw [Hga.out, Hgb.out] at this
          omega
        cases q with
        | true => exact absurd (Hq.out.1 rfl) this
        | false => rfl
      · have hd : decide (x ≤ y) = false := by simpa using hle
        have Hle := Lib.hid hle; clear hle
        go_wp2_with fail
        go_quiet (fail)
        go_wp2
        go_roundw
        case rel =>
          refine ⟨k + 1, by omega, by omega, by go_num, fun i h1 h2 => ?_, he.trans (Ext.drewN _ _)⟩
          by_cases ei : i = k
          · subst ei; rw [Hga.out, Hgb.out]; have := Hle.out; omega
          · exact hr.out i h1 (by omega)
        case measure => simp [intOf]; omega
    · go_wp2
      go_ret
      refine ⟨?_, he⟩
      have : risingTo xs xs.length := by
        rcases hk2 with h | h
        · have : k = xs.length := by omega
          rw [← this]; exact hr.out
        · intro i h1 h2; omega
      rw [Hq.out.2 this]; rfl
set_option maxRecDepth 20000 in
theorem twice_anyP (A : Option Addr) (c : Nat) (l : List Int) (q : Bool) (hq : twiceB l = q) (w : World) (hl : l.length ≤ maxLen) (hlc : l.length ≤ c) (hx : IntsAt w A l) :
    Calls Tryz.prog 207 #[.slice A l.length c] w fun e w' => e = .returned (.bool q) ∧ w = w' := by
  unfold maxLen at hl
  have Hq0 := Lib.hid hq; clear hq
  go_enter Tryz.func207, Tryz.ntmps207
  go_wp2_with fail
  go_loopw [7] (fun i wr => ∃ k : Nat, k ≤ l.length ∧ i = .int .i64 k ∧ w = wr ∧ Hid (∀ j, j < k → (l.take j).contains (l[j]?.getD 0) = false)) (fun i _ => l.length - (intOf i).toNat)
  case atStart => exact ⟨0, by omega, rfl, rfl, fun j hj => absurd hj (by omega)⟩
  case round =>
    obtain ⟨k, hk, rfl, rfl, hm⟩ := hrel
    by_cases hlt : k < l.length
    · obtain ⟨b, o, rfl, q1⟩ := hx k hlt
      obtain ⟨q', hq'⟩ : ∃ q, (l.take k).contains (l[k]?.getD 0) = q := ⟨_, rfl⟩
      have hlk : (l.take k).length = k := by rw [List.length_take]; omega
      have Ho := Lib.hid (contains_any (l[k]?.getD 0) (some ⟨b, o, none⟩) c k (l.take k) hlk q' hq' w (by unfold maxLen; omega) (hx.take k))
      have Hq := Lib.hid hq'; clear hq' hlk
      have htw : Hid (q' = true → q = true) := fun h => by rw [← Hq0.out]; exact twiceB_true hlt (by rw [← h]; exact Hq.out)
      generalize hgx : l[k]?.getD 0 = y at *
      have Hgx := Lib.hid hgx; clear hgx
      go_wp2_with fail
      refine Ho.out.mono ?_
      rintro e w' ⟨rfl, rfl⟩
      cases q' with
      | true =>
        have hr := htw.out rfl
        subst hr
        go_wp2_with fail
        go_ret
        exact ⟨rfl, rfl⟩
      | false =>
        go_wp2_with fail
        go_roundw
        case rel =>
          refine ⟨k + 1, by omega, by go_num, by trivial, fun j hj => ?_⟩
          by_cases ej : j = k
          · subst ej; rw [Hgx.out]; exact Hq.out
          · exact hm.out j (by omega)
        case measure => simp [intOf]; omega
    · have hr : q = false := by rw [← Hq0.out]; exact twiceB_false fun j hj => hm.out j (by omega)
      subst hr
      go_wp2_with fail
      go_ret
      exact ⟨rfl, rfl⟩
set_option maxHeartbeats 400000 in
theorem indexFuncW (g : Nat) (fs lb : Array Value) (eg : Enters Tryz.prog g) (p : Wv → Bool) (A : Option Addr) (c : Nat) (xs : List Wv) (w : World) (hb : xs.length ≤ maxLen)
    (hx : WvsAt w A xs) (hp : ∀ x ∈ xs, Tells Tryz.prog w g fs lb WvVal x (p x)) :
    Calls Tryz.prog 261 #[.slice A xs.length c, .func (.func g) fs lb] w fun e w' => (∃ i : Int, (0 ≤ i ↔ xs.any p = true) ∧ e = .returned (.int .i64 i)) ∧ Ext w w' := by
  unfold maxLen at hb
  go_enter Tryz.func261, Tryz.ntmps261
  go_wp2
  go_loopw [5, 8] (fun _ i wr => ∃ k : Nat, k ≤ xs.length ∧ i = .int .i64 k ∧ Hid (∀ j, j < k → p (xs[j]?.getD default) = false) ∧ Ext w wr) (fun _ i _ => xs.length - (intOf i).toNat)
  case atStart => exact ⟨0, by omega, rfl, fun j hj => absurd hj (by omega), Ext.refl _⟩
  case round =>
    obtain ⟨k, hk, rfl, hm, he⟩ := hrel
    by_cases hlt : k < xs.length
    · obtain ⟨b, o, rfl, A, ca, hca, h1, h2, h5⟩ := hx.ext he k hlt
      have hmem0 : (xs[k]?.getD default) ∈ xs := by simp [hlt]
      have hmem := Lib.hid hmem0
      generalize hgx : xs[k]?.getD default = x at *
      have Hgx := Lib.hid hgx; clear hgx
      have hc := hp x hmem0 wr _ he ⟨A, ca, hca, rfl, h5⟩
      clear hmem0
      obtain ⟨q, hq⟩ : ∃ q, p x = q := ⟨_, rfl⟩
      rw [hq] at hc
      have Hc := Lib.hid hc; clear hc
      have Hq := Lib.hid hq; clear hq
      have eg' := eg
      unfold Enters at eg'
      cases q with
      | true =>
        go_wp2_with fail
        refine Hc.out.mono ?_
        rintro e w' ⟨rfl, he'⟩
        go_wp2
        go_ret
        have ha : xs.any p = true := List.any_eq_true.2 ⟨x, hmem.out, Hq.out⟩
        exact ⟨⟨_, ⟨fun _ => ha, fun _ => by omega⟩, rfl⟩, he.trans he'⟩
      | false =>
        go_wp2_with fail
        refine Hc.out.mono ?_
        rintro e w' ⟨rfl, he'⟩
        go_wp2
        go_roundw
        case rel =>
          refine ⟨k + 1, by omega, by go_num, fun j hj => ?_, he.trans he'⟩
          by_cases ej : j = k
          · subst ej; rw [Hgx.out]; exact Hq.out
          · exact hm.out j (by omega)
        case measure => simp [intOf]; omega
    · go_wp2
      go_ret
      have hn : xs.any p = false := by
        rw [List.any_eq_false]
        intro y hy hpy
        obtain ⟨j, hj, rfl⟩ := List.mem_iff_getElem.1 hy
        have := hm.out j (by omega)
        simp [hj, hpy] at this
      exact ⟨⟨-1, ⟨fun h => absurd h (by omega), fun h => by rw [hn] at h; cases h⟩, rfl⟩, he⟩


theorem containsFuncW (g : Nat) (fs lb : Array Value) (eg : Enters Tryz.prog g) (p : Wv → Bool) (A : Option Addr) (c : Nat) (xs : List Wv) (w : World) (hb : xs.length ≤ maxLen)
    (hx : WvsAt w A xs) (hp : ∀ x ∈ xs, Tells Tryz.prog w g fs lb WvVal x (p x)) :
    Calls Tryz.prog 227 #[.slice A xs.length c, .func (.func g) fs lb] w fun e w' => e = .returned (.bool (xs.any p)) ∧ Ext w w' := by
  have h := indexFuncW g fs lb eg p A c xs w hb hx hp
  clear hx hp
  obtain ⟨q, hq⟩ : ∃ q, xs.any p = q := ⟨_, rfl⟩
  rw [hq] at h ⊢
  have H := Lib.hid h; clear h hq
  go_enter Tryz.func227, Tryz.ntmps227
  go_wp2_with fail
  refine H.out.mono ?_
  rintro e w' ⟨⟨i, hi, rfl⟩, he⟩
  cases q with
  | true =>
    have h0 : 0 ≤ i := hi.2 rfl
    clear hi
    go_wp2
    go_ret
    exact ⟨rfl, he⟩
  | false =>
    have h0 : decide (0 ≤ i) = false := by
      rw [decide_eq_false_iff_not]
      exact fun h => absurd (hi.1 h) (by simp)
    clear hi
    go_wp2
    go_ret
    exact ⟨rfl, he⟩


theorem everyW1 (g : Nat) (fs lb : Array Value) (eg : Enters Tryz.prog g) (B : Nat) (x : Wv) (q : Bool) (w : World) (hp : Tells Tryz.prog w g fs lb WvVal x q) (hB : w.cell? ⟨B, 0, none⟩ = some (.func (.func g) fs lb)) :
    Tells Tryz.prog w 228 #[] #[.pointer (some ⟨B, 0, none⟩)] WvVal x (!q) := by
  intro W v hW hv
  have hB' := hW.cell hB
  obtain ⟨A, ca, hca, rfl, h5⟩ := hv
  have hW' := Ext.alloc W (.cells #[.int .i64 x.shaft, .slice A x.hours.length ca] 86)
  have Hp := Lib.hid hp
  clear hp hB
  have eg' := eg
  unfold Enters at eg'
  have hB2 := hW'.cell hB'
  show Calls Tryz.prog 228 #[_, .pointer (some ⟨B, 0, none⟩)] W _
  go_enter Tryz.func228, Tryz.ntmps228
  cases q with
  | true =>
    go_wp2_with fail
    refine (Hp.out _ _ (hW.trans hW') ⟨A, ca, hca, rfl, h5.ext hW'⟩).mono ?_
    rintro e w' ⟨rfl, he⟩
    go_wp2
    go_ret
    exact ⟨rfl, hW'.trans he⟩
  | false =>
    go_wp2_with fail
    refine (Hp.out _ _ (hW.trans hW') ⟨A, ca, hca, rfl, h5.ext hW'⟩).mono ?_
    rintro e w' ⟨rfl, he⟩
    go_wp2
    go_ret
    exact ⟨rfl, hW'.trans he⟩


theorem everyW (g : Nat) (fs lb : Array Value) (eg : Enters Tryz.prog g) (p : Wv → Bool) (A : Option Addr) (c : Nat) (xs : List Wv) (w : World) (hb : xs.length ≤ maxLen)
    (hx : WvsAt w A xs) (hp : ∀ x ∈ xs, Tells Tryz.prog w g fs lb WvVal x (p x)) :
    Calls Tryz.prog 147 #[.slice A xs.length c, .func (.func g) fs lb] w fun e w' => e = .returned (.bool (xs.all p)) ∧ Ext w w' := by
  have hmf : ∀ (fn : Fn) (first cap : Array Value) (w : World), (Instr.makeFunc fn first cap).run Tryz.prog w = .ok (.func fn first cap) w := fun _ _ _ _ => rfl
  have hq0 : xs.all p = !(xs.any fun x => !p x) := by rw [List.not_any_eq_all_not]; simp
  obtain ⟨q, hq⟩ : ∃ q, xs.any (fun x => !p x) = q := ⟨_, rfl⟩
  rw [hq0, hq]
  have hE : Ext w (w.alloc (.cells #[.func (.func g) fs lb] 218)) := Ext.alloc _ _
  have h := containsFuncW 228 #[] #[.pointer (some ⟨w.heap.size, 0, none⟩)] (enters_of Tryz.func228 (by kernel_rfl) rfl) (fun x => !p x) A c xs _ hb (hx.ext hE) (fun x hxm => everyW1 g fs lb eg w.heap.size x (p x) _ ((hp x hxm).ext hE) (cell_new_l w _ _).1)
  rw [hq] at h
  have H := Lib.hid h; clear h hx hp hq hq0
  go_enter Tryz.func147, Tryz.ntmps147
  go_wp2_with fail
  refine H.out.mono ?_
  rintro e w' ⟨rfl, he⟩
  cases q with
  | true =>
    go_wp2
    go_ret
    exact ⟨rfl, hE.trans he⟩
  | false =>
    go_wp2
    go_ret
    exact ⟨rfl, hE.trans he⟩


set_option maxHeartbeats 400000 in
theorem indexFuncS (g : Nat) (fs lb : Array Value) (eg : Enters Tryz.prog g) (p : Sh → Bool) (A : Option Addr) (c : Nat) (xs : List Sh) (w : World) (hb : xs.length ≤ maxLen)
    (hx : ShsAt w A xs) (hp : ∀ x ∈ xs, Tells Tryz.prog w g fs lb ShVal x (p x)) :
    Calls Tryz.prog 260 #[.slice A xs.length c, .func (.func g) fs lb] w fun e w' => (∃ i : Int, (0 ≤ i ↔ xs.any p = true) ∧ e = .returned (.int .i64 i)) ∧ Ext w w' := by
  unfold maxLen at hb
  go_enter Tryz.func260, Tryz.ntmps260
  go_wp2
  go_loopw [5, 8] (fun _ i wr => ∃ k : Nat, k ≤ xs.length ∧ i = .int .i64 k ∧ Hid (∀ j, j < k → p (xs[j]?.getD default) = false) ∧ Ext w wr) (fun _ i _ => xs.length - (intOf i).toNat)
  case atStart => exact ⟨0, by omega, rfl, fun j hj => absurd hj (by omega), Ext.refl _⟩
  case round =>
    obtain ⟨k, hk, rfl, hm, he⟩ := hrel
    by_cases hlt : k < xs.length
    · obtain ⟨b, o, rfl, h1, h2⟩ := hx.ext he k hlt
      have hmem0 : (xs[k]?.getD default) ∈ xs := by simp [hlt]
      have hmem := Lib.hid hmem0
      generalize hgx : xs[k]?.getD default = x at *
      have Hgx := Lib.hid hgx; clear hgx
      have hc := hp x hmem0 wr _ he rfl
      clear hmem0
      obtain ⟨q, hq⟩ : ∃ q, p x = q := ⟨_, rfl⟩
      rw [hq] at hc
      have Hc := Lib.hid hc; clear hc
      have Hq := Lib.hid hq; clear hq
      have eg' := eg
      unfold Enters at eg'
      cases q with
      | true =>
        go_wp2_with fail
        refine Hc.out.mono ?_
        rintro e w' ⟨rfl, he'⟩
        go_wp2
        go_ret
        have ha : xs.any p = true := List.any_eq_true.2 ⟨x, hmem.out, Hq.out⟩
        exact ⟨⟨_, ⟨fun _ => ha, fun _ => by omega⟩, rfl⟩, he.trans he'⟩
      | false =>
        go_wp2_with fail
        refine Hc.out.mono ?_
        rintro e w' ⟨rfl, he'⟩
        go_wp2
        go_roundw
        case rel =>
          refine ⟨k + 1, by omega, by go_num, fun j hj => ?_, he.trans he'⟩
          by_cases ej : j = k
          · subst ej; rw [Hgx.out]; exact Hq.out
          · exact hm.out j (by omega)
        case measure => simp [intOf]; omega
    · go_wp2
      go_ret
      have hn : xs.any p = false := by
        rw [List.any_eq_false]
        intro y hy hpy
        obtain ⟨j, hj, rfl⟩ := List.mem_iff_getElem.1 hy
        have := hm.out j (by omega)
        simp [hj, hpy] at this
      exact ⟨⟨-1, ⟨fun h => absurd h (by omega), fun h => by rw [hn] at h; cases h⟩, rfl⟩, he⟩


theorem containsFuncS (g : Nat) (fs lb : Array Value) (eg : Enters Tryz.prog g) (p : Sh → Bool) (A : Option Addr) (c : Nat) (xs : List Sh) (w : World) (hb : xs.length ≤ maxLen)
    (hx : ShsAt w A xs) (hp : ∀ x ∈ xs, Tells Tryz.prog w g fs lb ShVal x (p x)) :
    Calls Tryz.prog 225 #[.slice A xs.length c, .func (.func g) fs lb] w fun e w' => e = .returned (.bool (xs.any p)) ∧ Ext w w' := by
  have h := indexFuncS g fs lb eg p A c xs w hb hx hp
  clear hx hp
  obtain ⟨q, hq⟩ : ∃ q, xs.any p = q := ⟨_, rfl⟩
  rw [hq] at h ⊢
  have H := Lib.hid h; clear h hq
  go_enter Tryz.func225, Tryz.ntmps225
  go_wp2_with fail
  refine H.out.mono ?_
  rintro e w' ⟨⟨i, hi, rfl⟩, he⟩
  cases q with
  | true =>
    have h0 : 0 ≤ i := hi.2 rfl
    clear hi
    go_wp2
    go_ret
    exact ⟨rfl, he⟩
  | false =>
    have h0 : decide (0 ≤ i) = false := by
      rw [decide_eq_false_iff_not]
      exact fun h => absurd (hi.1 h) (by simp)
    clear hi
    go_wp2
    go_ret
    exact ⟨rfl, he⟩


theorem everyS1 (g : Nat) (fs lb : Array Value) (eg : Enters Tryz.prog g) (B : Nat) (x : Sh) (q : Bool) (w : World) (hp : Tells Tryz.prog w g fs lb ShVal x q) (hB : w.cell? ⟨B, 0, none⟩ = some (.func (.func g) fs lb)) :
    Tells Tryz.prog w 226 #[] #[.pointer (some ⟨B, 0, none⟩)] ShVal x (!q) := by
  intro W v hW hv
  have hB' := hW.cell hB
  obtain rfl := hv
  have hW' := Ext.alloc W (.cells #[.int .i64 x.up, .int .i64 x.price] 84)
  have Hp := Lib.hid hp
  clear hp hB
  have eg' := eg
  unfold Enters at eg'
  have hB2 := hW'.cell hB'
  show Calls Tryz.prog 226 #[_, .pointer (some ⟨B, 0, none⟩)] W _
  go_enter Tryz.func226, Tryz.ntmps226
  cases q with
  | true =>
    go_wp2_with fail
    refine (Hp.out _ _ (hW.trans hW') rfl).mono ?_
    rintro e w' ⟨rfl, he⟩
    go_wp2
    go_ret
    exact ⟨rfl, hW'.trans he⟩
  | false =>
    go_wp2_with fail
    refine (Hp.out _ _ (hW.trans hW') rfl).mono ?_
    rintro e w' ⟨rfl, he⟩
    go_wp2
    go_ret
    exact ⟨rfl, hW'.trans he⟩


theorem everyS (g : Nat) (fs lb : Array Value) (eg : Enters Tryz.prog g) (p : Sh → Bool) (A : Option Addr) (c : Nat) (xs : List Sh) (w : World) (hb : xs.length ≤ maxLen)
    (hx : ShsAt w A xs) (hp : ∀ x ∈ xs, Tells Tryz.prog w g fs lb ShVal x (p x)) :
    Calls Tryz.prog 145 #[.slice A xs.length c, .func (.func g) fs lb] w fun e w' => e = .returned (.bool (xs.all p)) ∧ Ext w w' := by
  have hmf : ∀ (fn : Fn) (first cap : Array Value) (w : World), (Instr.makeFunc fn first cap).run Tryz.prog w = .ok (.func fn first cap) w := fun _ _ _ _ => rfl
  have hq0 : xs.all p = !(xs.any fun x => !p x) := by rw [List.not_any_eq_all_not]; simp
  obtain ⟨q, hq⟩ : ∃ q, xs.any (fun x => !p x) = q := ⟨_, rfl⟩
  rw [hq0, hq]
  have hE : Ext w (w.alloc (.cells #[.func (.func g) fs lb] 216)) := Ext.alloc _ _
  have h := containsFuncS 226 #[] #[.pointer (some ⟨w.heap.size, 0, none⟩)] (enters_of Tryz.func226 (by kernel_rfl) rfl) (fun x => !p x) A c xs _ hb (hx.ext hE) (fun x hxm => everyS1 g fs lb eg w.heap.size x (p x) _ ((hp x hxm).ext hE) (cell_new_l w _ _).1)
  rw [hq] at h
  have H := Lib.hid h; clear h hx hp hq hq0
  go_enter Tryz.func145, Tryz.ntmps145
  go_wp2_with fail
  refine H.out.mono ?_
  rintro e w' ⟨rfl, he⟩
  cases q with
  | true =>
    go_wp2
    go_ret
    exact ⟨rfl, hE.trans he⟩
  | false =>
    go_wp2
    go_ret
    exact ⟨rfl, hE.trans he⟩


set_option maxHeartbeats 400000 in
theorem indexFuncX (g : Nat) (fs lb : Array Value) (eg : Enters Tryz.prog g) (p : Int → Bool) (A : Option Addr) (c : Nat) (xs : List Int) (w : World) (hb : xs.length ≤ maxLen)
    (hx : IntsAt w A xs) (hp : ∀ x ∈ xs, Tells Tryz.prog w g fs lb IntVal x (p x)) :
    Calls Tryz.prog 280 #[.slice A xs.length c, .func (.func g) fs lb] w fun e w' => (∃ i : Int, (0 ≤ i ↔ xs.any p = true) ∧ e = .returned (.int .i64 i)) ∧ Ext w w' := by
  unfold maxLen at hb
  go_enter Tryz.func280, Tryz.ntmps280
  go_wp2
  go_loopw [5, 8] (fun _ i wr => ∃ k : Nat, k ≤ xs.length ∧ i = .int .i64 k ∧ Hid (∀ j, j < k → p (xs[j]?.getD 0) = false) ∧ Ext w wr) (fun _ i _ => xs.length - (intOf i).toNat)
  case atStart => exact ⟨0, by omega, rfl, fun j hj => absurd hj (by omega), Ext.refl _⟩
  case round =>
    obtain ⟨k, hk, rfl, hm, he⟩ := hrel
    by_cases hlt : k < xs.length
    · obtain ⟨b, o, rfl, h1⟩ := hx.ext he k hlt
      have hmem0 : (xs[k]?.getD 0) ∈ xs := by simp [hlt]
      have hmem := Lib.hid hmem0
      generalize hgx : xs[k]?.getD 0 = x at *
      have Hgx := Lib.hid hgx; clear hgx
      have hc := hp x hmem0 wr _ he rfl
      clear hmem0
      obtain ⟨q, hq⟩ : ∃ q, p x = q := ⟨_, rfl⟩
      rw [hq] at hc
      have Hc := Lib.hid hc; clear hc
      have Hq := Lib.hid hq; clear hq
      have eg' := eg
      unfold Enters at eg'
      cases q with
      | true =>
        go_wp2_with fail
        refine Hc.out.mono ?_
        rintro e w' ⟨rfl, he'⟩
        go_wp2
        go_ret
        have ha : xs.any p = true := List.any_eq_true.2 ⟨x, hmem.out, Hq.out⟩
        exact ⟨⟨_, ⟨fun _ => ha, fun _ => by omega⟩, rfl⟩, he.trans he'⟩
      | false =>
        go_wp2_with fail
        refine Hc.out.mono ?_
        rintro e w' ⟨rfl, he'⟩
        go_wp2
        go_roundw
        case rel =>
          refine ⟨k + 1, by omega, by go_num, fun j hj => ?_, he.trans he'⟩
          by_cases ej : j = k
          · subst ej; rw [Hgx.out]; exact Hq.out
          · exact hm.out j (by omega)
        case measure => simp [intOf]; omega
    · go_wp2
      go_ret
      have hn : xs.any p = false := by
        rw [List.any_eq_false]
        intro y hy hpy
        obtain ⟨j, hj, rfl⟩ := List.mem_iff_getElem.1 hy
        have := hm.out j (by omega)
        simp [hj, hpy] at this
      exact ⟨⟨-1, ⟨fun h => absurd h (by omega), fun h => by rw [hn] at h; cases h⟩, rfl⟩, he⟩


theorem containsFuncX (g : Nat) (fs lb : Array Value) (eg : Enters Tryz.prog g) (p : Int → Bool) (A : Option Addr) (c : Nat) (xs : List Int) (w : World) (hb : xs.length ≤ maxLen)
    (hx : IntsAt w A xs) (hp : ∀ x ∈ xs, Tells Tryz.prog w g fs lb IntVal x (p x)) :
    Calls Tryz.prog 257 #[.slice A xs.length c, .func (.func g) fs lb] w fun e w' => e = .returned (.bool (xs.any p)) ∧ Ext w w' := by
  have h := indexFuncX g fs lb eg p A c xs w hb hx hp
  clear hx hp
  obtain ⟨q, hq⟩ : ∃ q, xs.any p = q := ⟨_, rfl⟩
  rw [hq] at h ⊢
  have H := Lib.hid h; clear h hq
  go_enter Tryz.func257, Tryz.ntmps257
  go_wp2_with fail
  refine H.out.mono ?_
  rintro e w' ⟨⟨i, hi, rfl⟩, he⟩
  cases q with
  | true =>
    have h0 : 0 ≤ i := hi.2 rfl
    clear hi
    go_wp2
    go_ret
    exact ⟨rfl, he⟩
  | false =>
    have h0 : decide (0 ≤ i) = false := by
      rw [decide_eq_false_iff_not]
      exact fun h => absurd (hi.1 h) (by simp)
    clear hi
    go_wp2
    go_ret
    exact ⟨rfl, he⟩


theorem everyX1 (g : Nat) (fs lb : Array Value) (eg : Enters Tryz.prog g) (B : Nat) (x : Int) (q : Bool) (w : World) (hp : Tells Tryz.prog w g fs lb IntVal x q) (hB : w.cell? ⟨B, 0, none⟩ = some (.func (.func g) fs lb)) :
    Tells Tryz.prog w 258 #[] #[.pointer (some ⟨B, 0, none⟩)] IntVal x (!q) := by
  intro W v hW hv
  have hB' := hW.cell hB
  obtain rfl : v = .int .i64 x := hv
  have hW' : Ext W W := Ext.refl W
  have Hp := Lib.hid hp
  clear hp hB
  have eg' := eg
  unfold Enters at eg'
  have hB2 := hW'.cell hB'
  show Calls Tryz.prog 258 #[_, .pointer (some ⟨B, 0, none⟩)] W _
  go_enter Tryz.func258, Tryz.ntmps258
  cases q with
  | true =>
    go_wp2_with fail
    refine (Hp.out _ _ (hW.trans hW') rfl).mono ?_
    rintro e w' ⟨rfl, he⟩
    go_wp2
    go_ret
    exact ⟨rfl, hW'.trans he⟩
  | false =>
    go_wp2_with fail
    refine (Hp.out _ _ (hW.trans hW') rfl).mono ?_
    rintro e w' ⟨rfl, he⟩
    go_wp2
    go_ret
    exact ⟨rfl, hW'.trans he⟩


theorem everyX (g : Nat) (fs lb : Array Value) (eg : Enters Tryz.prog g) (p : Int → Bool) (A : Option Addr) (c : Nat) (xs : List Int) (w : World) (hb : xs.length ≤ maxLen)
    (hx : IntsAt w A xs) (hp : ∀ x ∈ xs, Tells Tryz.prog w g fs lb IntVal x (p x)) :
    Calls Tryz.prog 212 #[.slice A xs.length c, .func (.func g) fs lb] w fun e w' => e = .returned (.bool (xs.all p)) ∧ Ext w w' := by
  have hmf : ∀ (fn : Fn) (first cap : Array Value) (w : World), (Instr.makeFunc fn first cap).run Tryz.prog w = .ok (.func fn first cap) w := fun _ _ _ _ => rfl
  have hq0 : xs.all p = !(xs.any fun x => !p x) := by rw [List.not_any_eq_all_not]; simp
  obtain ⟨q, hq⟩ : ∃ q, xs.any (fun x => !p x) = q := ⟨_, rfl⟩
  rw [hq0, hq]
  have hE : Ext w (w.alloc (.cells #[.func (.func g) fs lb] 259)) := Ext.alloc _ _
  have h := containsFuncX 258 #[] #[.pointer (some ⟨w.heap.size, 0, none⟩)] (enters_of Tryz.func258 (by kernel_rfl) rfl) (fun x => !p x) A c xs _ hb (hx.ext hE) (fun x hxm => everyX1 g fs lb eg w.heap.size x (p x) _ ((hp x hxm).ext hE) (cell_new_l w _ _).1)
  rw [hq] at h
  have H := Lib.hid h; clear h hx hp hq hq0
  go_enter Tryz.func212, Tryz.ntmps212
  go_wp2_with fail
  refine H.out.mono ?_
  rintro e w' ⟨rfl, he⟩
  cases q with
  | true =>
    go_wp2
    go_ret
    exact ⟨rfl, hE.trans he⟩
  | false =>
    go_wp2
    go_ret
    exact ⟨rfl, hE.trans he⟩



end Go.Proofs.Pet

namespace Go.Proofs.Pet
open Go Go.RowKit
open Go.Proofs.Pow (PM Sh Wv)

section
variable {w w' : World}
instance {A : Option Addr} {xs : List Sh} : Lift (ShsAt w A xs) w w' (ShsAt w' A xs) := ⟨fun he h => h.ext he⟩
instance {A : Option Addr} {xs : List Wv} : Lift (WvsAt w A xs) w w' (WvsAt w' A xs) := ⟨fun he h => h.ext he⟩
instance {v : Value} {x : Wv} : Lift (WvVal w v x) w w' (WvVal w' v x) := ⟨fun he h => h.ext he⟩
instance {v : Value} {m : PM} : Lift (PMVal w v m) w w' (PMVal w' v m) := ⟨fun he h => h.ext he⟩
end
end Go.Proofs.Pet

namespace Go.Proofs.Pow

/-- all groups of the numbers below n -/
def groupsF : Nat → List (List Nat)
  | 0 => [[]]
  | k + 1 => groupsF k ++ (groupsF k).map (· ++ [k])
theorem up_snoc {n : Nat} {l : List Nat} (h : Up n 0 l) : Up (n + 1) 0 (l ++ [n]) := by
  refine ⟨?_, fun x hx => ⟨Nat.zero_le _, ?_⟩⟩
  · rw [List.pairwise_append]
    exact ⟨h.1, List.pairwise_singleton _ _, fun a ha b hb => by rw [List.mem_singleton] at hb; subst hb; exact (h.2 a ha).2⟩
  · rcases List.mem_append.1 hx with h1 | h1
    · have := (h.2 x h1).2; omega
    · rw [List.mem_singleton] at h1; omega
/-- a group has more parts than sixty times its cost -/
def moreB (m : PM) (sh : List Int) (l : List Nat) : Bool := decide (60 * costF m (fun k => l.contains k) < (l.map fun k => sh[k]?.getD 0).sum)
def betterF (m : PM) (sh : List Int) : Option (List Nat) := firstF m.wvs.length (moreB m sh)
end Go.Proofs.Pow

namespace Go.Proofs.Pow

/-- each shaft is driven by the one before it -/
def ChainOk (m : PM) : Prop := ∀ s, s < m.shafts.length → (m.sh s).up = (s : Int) - 1
theorem ChainOk.up {m : PM} (h : ChainOk m) : UpOk m := fun s hs => by rw [h s hs]; omega
theorem ChainOk.line {m : PM} (h : ChainOk m) : ∀ s : Nat, s < m.shafts.length → ∀ x : Int, x ∈ m.line s ↔ 0 ≤ x ∧ x ≤ s
  | 0, hs, x => by
    rw [line_cons m h.up hs, h 0 hs, line_neg m (by omega), List.mem_singleton]
    omega
  | s + 1, hs, x => by
    rw [line_cons m h.up hs, h (s + 1) hs]
    have e : ((s + 1 : Nat) : Int) - 1 = (s : Int) := by omega
    rw [e, List.mem_cons, ChainOk.line h s (by omega) x]
    omega
theorem ChainOk.drv {m : PM} (h : ChainOk m) (hm : AtOk m) {s k : Nat} (hk : k < m.wvs.length) : m.drv s k = decide ((s : Int) ≤ (m.wv k).shaft) := by
  obtain ⟨h1, h2⟩ := hm k hk
  obtain ⟨t, ht⟩ : ∃ t : Nat, (m.wv k).shaft = t := ⟨(m.wv k).shaft.toNat, by omega⟩
  rw [Bool.eq_iff_iff, drv_iff, ht, h.line t (by omega), decide_eq_true_eq]
  omega
/-- the most hours of the looms that a shaft drives -/
def mostF (m : PM) (s : Nat) : Nat := m.wvs.foldl (fun a w => if (s : Int) ≤ w.shaft then max a w.hours.length else a) 0
theorem most_fold (s : Nat) : ∀ (l : List Wv) (a h : Nat), h < l.foldl (fun a w => if (s : Int) ≤ w.shaft then max a w.hours.length else a) a ↔ h < a ∨ ∃ w, w ∈ l ∧ (s : Int) ≤ w.shaft ∧ h < w.hours.length
  | [], a, h => by simp
  | w :: l, a, h => by
    rw [List.foldl_cons, most_fold s l]
    constructor
    · rintro (h1 | ⟨v, hv, h1⟩)
      · split at h1
        · rcases Nat.lt_or_ge h a with e | e
          · exact .inl e
          · exact .inr ⟨w, by simp, by assumption, by omega⟩
        · exact .inl h1
      · exact .inr ⟨v, by simp [hv], h1⟩
    · rintro (h1 | ⟨v, hv, h1, h2⟩)
      · refine .inl ?_
        split <;> omega
      · rcases List.mem_cons.1 hv with rfl | hv
        · refine .inl ?_
          rw [if_pos h1]; omega
        · exact .inr ⟨v, hv, h1, h2⟩
theorem sum_below (p : Int) : ∀ (n c : Nat), c ≤ n → ((List.range n).map fun h => if h < c then p else 0).sum = (c : Int) * p
  | 0, c, h => by
    obtain rfl : c = 0 := by omega
    simp
  | n + 1, c, h => by
    rw [List.range_succ, List.map_append, List.sum_append]
    by_cases e : c = n + 1
    · subst e
      have : ((List.range n).map fun h => if h < n + 1 then p else 0).sum = ((List.range n).map fun h => if h < n then p else 0).sum := sum_eq _ _ _ fun x hx => by
        have := List.mem_range.1 hx
        rw [if_pos (by omega), if_pos this]
      rw [this, sum_below p n n (Nat.le_refl _)]
      simp only [List.map_cons, List.map_nil, List.sum_cons, List.sum_nil, if_pos (Nat.lt_succ_self n), Int.add_zero, Int.natCast_add, Int.add_mul]
      simp
    · rw [sum_below p n c (by omega)]
      simp only [List.map_cons, List.map_nil, List.sum_cons, List.sum_nil, if_neg (show ¬ n < c by omega), Int.add_zero]
/-- all pay together, for each shaft, the most hours of the looms that it drives -/
theorem woven_cost {m : PM} (h : ChainOk m) (ha : AtOk m) (hh : ∀ k, k < m.wvs.length → ∃ c : Nat, c ≤ 24 ∧ (m.wv k).hours = (List.range c).map fun i : Nat => (i : Int)) :
    costF m (fun _ => true) = ((List.range m.shafts.length).map fun s => (mostF m s : Int) * (m.sh s).price).sum := by
  have hwv : ∀ w, w ∈ m.wvs → ∃ k, k < m.wvs.length ∧ m.wv k = w := fun w hw => by
    obtain ⟨k, hk, rfl⟩ := List.mem_iff_getElem.1 hw
    exact ⟨k, hk, by unfold PM.wv; rw [List.getElem?_eq_getElem hk]; rfl⟩
  have hmem : ∀ k, k < m.wvs.length → m.wv k ∈ m.wvs := fun k hk => by unfold PM.wv; rw [List.getElem?_eq_getElem hk]; exact List.getElem_mem hk
  have hc : ∀ k, k < m.wvs.length → ∀ t : Nat, (m.wv k).hours.contains (t : Int) = decide (t < (m.wv k).hours.length) := fun k hk t => by
    obtain ⟨c, _, e⟩ := hh k hk
    rw [Bool.eq_iff_iff, List.contains_iff_mem, decide_eq_true_eq, e, List.length_map, List.length_range, List.mem_map]
    constructor
    · rintro ⟨i, hi, e2⟩
      have := List.mem_range.1 hi; omega
    · intro ht; exact ⟨t, List.mem_range.2 ht, rfl⟩
  have hr : ∀ s t, hitQ m.wvs.length (usesB m s t) (fun _ => true) = decide (t < mostF m s) := fun s t => by
    rw [Bool.eq_iff_iff, hitQ_iff, decide_eq_true_eq]
    unfold mostF
    rw [most_fold]
    constructor
    · rintro ⟨k, hk, h1, _⟩
      unfold usesB at h1
      rw [Bool.and_eq_true, h.drv ha hk, hc k hk, decide_eq_true_eq, decide_eq_true_eq] at h1
      exact .inr ⟨_, hmem k hk, h1⟩
    · rintro (h1 | ⟨w, hw, h1⟩)
      · omega
      · obtain ⟨k, hk, rfl⟩ := hwv w hw
        refine ⟨k, hk, ?_, rfl⟩
        unfold usesB
        rw [Bool.and_eq_true, h.drv ha hk, hc k hk, decide_eq_true_eq, decide_eq_true_eq]
        exact h1
  have hle : ∀ s, mostF m s ≤ 24 := fun s => by
    refine Nat.le_of_not_lt fun hlt => ?_
    unfold mostF at hlt
    rw [most_fold] at hlt
    rcases hlt with h1 | ⟨w, hw, _, h1⟩
    · omega
    · obtain ⟨k, hk, rfl⟩ := hwv w hw
      obtain ⟨c, h2, e⟩ := hh k hk
      rw [e, List.length_map, List.length_range] at h1
      omega
  rw [costF_sumM]
  unfold sumM
  rw [sum_flat]
  refine sum_eq _ _ _ fun s _ => ?_
  rw [← sum_below _ 24 _ (hle s)]
  refine sum_eq _ _ _ fun t _ => ?_
  simp only [hr, decide_eq_true_eq]
end Go.Proofs.Pow

namespace Go.Proofs.Pow

/-- group g (numbers): weaver k marks (s, h) -/
def usesI (m : PM) (s h : Nat) (k : Int) : Bool := (m.line (m.wv k.toNat).shaft).contains (s : Int) && (m.wv k.toNat).hours.contains (h : Int)
def mkG (m : PM) (g : List Int) (s h : Nat) : Bool := g.any (usesI m s h)
/-- within the round of k: the hours hs are done, in the hour cur the shafts ls -/
def mk3 (m : PM) (g : List Int) (k : Int) (hs : List Int) (cur : Int) (ls : List Int) (s h : Nat) : Bool :=
  mkG m g s h || (hs.contains (h : Int) && (m.line (m.wv k.toNat).shaft).contains (s : Int)) || (decide ((h : Int) = cur) && ls.contains (s : Int))
def InG (m : PM) (g : List Int) : Prop := ∀ k, k ∈ g → 0 ≤ k ∧ k < m.wvs.length
theorem mkG_hit {m : PM} {g : List Int} (hg : InG m g) (s h : Nat) : mkG m g s h = hitQ m.wvs.length (usesB m s h) fun k => g.contains (k : Int) := by
  rw [Bool.eq_iff_iff, hitQ_iff]
  unfold mkG
  rw [List.any_eq_true]
  constructor
  · rintro ⟨k, hk, hu⟩
    obtain ⟨h0, h1⟩ := hg k hk
    obtain ⟨n, rfl⟩ := Int.eq_ofNat_of_zero_le h0
    exact ⟨n, by omega, hu, List.contains_iff_mem.2 hk⟩
  · rintro ⟨k, hk, hu, hc⟩
    exact ⟨k, List.contains_iff_mem.1 hc, hu⟩
theorem cost_mkG {m : PM} {g : List Int} (hg : InG m g) : sumM m (mkG m g) = costF m fun k => g.contains (k : Int) := by
  rw [costF_sumM]
  exact sumM_congr fun s h _ _ => mkG_hit hg s h
theorem mkG_nil (m : PM) : mkG m [] = fun _ _ => false := rfl
theorem mkG_snoc (m : PM) (g : List Int) (k : Int) : mkG m (g ++ [k]) = fun s h => mkG m g s h || ((m.wv k.toNat).hours.contains (h : Int) && (m.line (m.wv k.toNat).shaft).contains (s : Int)) := by
  funext s h
  unfold mkG
  rw [List.any_append]
  simp [usesI, Bool.and_comm]
theorem mk3_start (m : PM) (g : List Int) (k : Int) : mk3 m g k [] 0 [] = mkG m g := by
  funext s h; simp [mk3]
theorem mk3_cur (m : PM) (g : List Int) (k : Int) (hs : List Int) (c c' : Int) : mk3 m g k hs c [] = mk3 m g k hs c' [] := by
  funext s h; simp [mk3]
theorem mk3_hour (m : PM) (g : List Int) (k : Int) (hs : List Int) (c c' : Int) : mk3 m g k (hs ++ [c]) c' [] = mk3 m g k hs c (m.line (m.wv k.toNat).shaft) := by
  funext s h
  unfold mk3
  rw [Bool.eq_iff_iff]
  simp
  constructor
  · rintro (h | ⟨h1 | h1, h2⟩)
    · exact .inl (.inl h)
    · exact .inl (.inr ⟨h1, h2⟩)
    · exact .inr ⟨h1, h2⟩
  · rintro ((h | ⟨h1, h2⟩) | ⟨h1, h2⟩)
    · exact .inl h
    · exact .inr ⟨.inl h1, h2⟩
    · exact .inr ⟨.inr h1, h2⟩
theorem mk3_end (m : PM) (g : List Int) (k : Int) (c : Int) : mk3 m g k (m.wv k.toNat).hours c [] = mkG m (g ++ [k]) := by
  rw [mkG_snoc]
  funext s h; simp [mk3]
/-- a spot comes: it is marked already, or it is marked now and its price is added -/
theorem mk3_old {m : PM} {g : List Int} {k : Int} {hs : List Int} {c : Nat} {ls : List Int} {x : Nat} (h : mk3 m g k hs c ls x c = true) : mk3 m g k hs c (ls ++ [(x : Int)]) = mk3 m g k hs c ls := by
  funext s t
  by_cases e : s = x ∧ t = c
  · obtain ⟨rfl, rfl⟩ := e
    rw [h]
    unfold mk3 at h ⊢
    rw [Bool.or_eq_true] at h ⊢
    rcases h with h | h
    · exact .inl h
    · refine .inr ?_
      rw [Bool.and_eq_true] at h ⊢
      exact ⟨h.1, by simp⟩
  · unfold mk3
    congr 1
    rw [Bool.eq_iff_iff]
    simp
    intro h1 h2
    exact absurd ⟨by omega, by omega⟩ e
theorem mk3_new (m : PM) (g : List Int) (k : Int) (hs : List Int) (c : Nat) (ls : List Int) (x : Nat) (s t : Nat) :
    mk3 m g k hs c (ls ++ [(x : Int)]) s t = (mk3 m g k hs c ls s t || (decide (s = x) && decide (t = c))) := by
  unfold mk3
  rw [Bool.eq_iff_iff]
  simp
  constructor
  · rintro (h | ⟨h1, h2 | h2⟩)
    · exact .inl (.inl h)
    · exact .inl (.inr ⟨h1, h2⟩)
    · exact .inr ⟨by omega, by omega⟩
  · rintro ((h | ⟨h1, h2⟩) | ⟨h1, h2⟩)
    · exact .inl h
    · exact .inr ⟨h1, .inl h2⟩
    · exact .inr ⟨by omega, .inr (by omega)⟩
theorem sum_new {m : PM} {g : List Int} {k : Int} {hs : List Int} {c : Nat} {ls : List Int} {x : Nat} (hx : x < m.shafts.length) (hc : c < 24) (h : mk3 m g k hs c ls x c = false) :
    sumM m (mk3 m g k hs c (ls ++ [(x : Int)])) = sumM m (mk3 m g k hs c ls) + (m.sh x).price := sumM_mark hx hc h fun s t => mk3_new m g k hs c ls x s t
/-- bounds of sums -/
theorem sumM_bounds {m : PM} (hm : POk m) (mk : Nat → Nat → Bool) : 0 ≤ sumM m mk ∧ sumM m mk ≤ 12960 := by
  have key : ∀ l : List (Nat × Nat), (∀ x, x ∈ l → x.1 < m.shafts.length) → 0 ≤ (l.map fun x => if mk x.1 x.2 then (m.sh x.1).price else 0).sum ∧ (l.map fun x => if mk x.1 x.2 then (m.sh x.1).price else 0).sum ≤ 60 * (l.length : Int) := by
    intro l
    induction l with
    | nil => intro _; simp
    | cons a l ih =>
      intro h
      have h1 := ih fun x hx => h x (List.mem_cons_of_mem _ hx)
      have h2 := hm.price a.1 (h a List.mem_cons_self)
      simp only [List.map_cons, List.sum_cons, List.length_cons]
      split <;> omega
  have hl : (spotL m.shafts.length).length = m.shafts.length * 24 := by
    generalize m.shafts.length = S
    induction S with
    | zero => rfl
    | succ S ih => rw [spotL_succ, List.length_append, ih]; simp; omega
  have := key (spotL m.shafts.length) fun x hx => (mem_spotL.1 hx).1
  rw [hl] at this
  have h9 := hm.sz
  unfold sumM
  omega
theorem cost_bounds {m : PM} (hm : POk m) (p : Nat → Bool) : 0 ≤ costF m p ∧ costF m p ≤ 12960 := by
  rw [costF_sumM]; exact sumM_bounds hm _
end Go.Proofs.Pow

namespace Go.Proofs.Pow

/-! The search, as nested rounds run it. -/
/-- lists of r more numbers from a on, behind l -/
def goR (n : Nat) (p : List Nat → Bool) (r : Nat) (l : List Nat) (a : Nat) : Option (List Nat) := ((cmb n r a).map (l ++ ·)).find? p
/-- .. those whose next number is below b alone -/
def goT (n : Nat) (p : List Nat → Bool) (r : Nat) (l : List Nat) (a b : Nat) : Option (List Nat) := (((List.range' a (b - a)).flatMap fun k => (cmb n r (k + 1)).map (k :: ·)).map (l ++ ·)).find? p
theorem goR_zero (n : Nat) (p : List Nat → Bool) (l : List Nat) (a : Nat) : goR n p 0 l a = if p l then some l else none := by
  unfold goR cmb
  simp [List.find?_cons]
  cases p l <;> rfl
theorem goR_succ (n : Nat) (p : List Nat → Bool) (r : Nat) (l : List Nat) (a : Nat) : goR n p (r + 1) l a = goT n p r l a n := rfl
theorem goT_start (n : Nat) (p : List Nat → Bool) (r : Nat) (l : List Nat) (a : Nat) : goT n p r l a a = none := by
  unfold goT
  rw [Nat.sub_self]
  rfl
theorem goT_step (n : Nat) (p : List Nat → Bool) (r : Nat) (l : List Nat) {a b : Nat} (h : a ≤ b) : goT n p r l a (b + 1) = (goT n p r l a b).or (goR n p r (l ++ [b]) (b + 1)) := by
  unfold goT goR
  rw [show b + 1 - a = (b - a) + 1 by omega, List.range'_concat, List.flatMap_append, List.map_append, List.find?_append, show a + 1 * (b - a) = b by omega]
  congr 1
  simp only [List.flatMap_cons, List.flatMap_nil, List.append_nil, List.map_map]
  congr 2
  funext x
  simp
/-- lists of fewer than c numbers -/
def lenF (n : Nat) (p : List Nat → Bool) (c : Nat) : Option (List Nat) := ((List.range c).flatMap fun r => cmb n r 0).find? p
theorem lenF_zero (n : Nat) (p : List Nat → Bool) : lenF n p 0 = none := rfl
theorem lenF_succ (n : Nat) (p : List Nat → Bool) (c : Nat) : lenF n p (c + 1) = (lenF n p c).or (goR n p c [] 0) := by
  unfold lenF goR
  rw [List.range_succ, List.flatMap_append, List.find?_append]
  congr 1
  simp
theorem lenF_first (n : Nat) (p : List Nat → Bool) : lenF n p (n + 1) = firstF n p := rfl
/-! Shares on their way. -/
def shr (m : PM) (k : Nat) (x : Nat × Nat) : Int := if usesB m x.1 x.2 k then 60 * (m.sh x.1).price / (cntU m.wvs.length (usesB m x.1 x.2) : Int) else 0
def shareTo (m : PM) (L : List (Nat × Nat)) (k : Nat) : Int := (L.map (shr m k)).sum
theorem share_to (m : PM) (k : Nat) : shareP m k = shareTo m (spotL m.shafts.length) k := by
  unfold shareP shareH spots shareTo
  rw [List.map_map]
  rfl
theorem shareTo_snoc (m : PM) (L : List (Nat × Nat)) (x : Nat × Nat) (k : Nat) : shareTo m (L ++ [x]) k = shareTo m L k + shr m k x := by
  unfold shareTo
  rw [List.map_append, List.sum_append]; simp
def spotT (s h : Nat) : List (Nat × Nat) := spotL s ++ (List.range h).map fun t => (s, t)
theorem spotT_zero (s : Nat) : spotT s 0 = spotL s := by simp [spotT]
theorem spotT_succ (s h : Nat) : spotT s (h + 1) = spotT s h ++ [(s, h)] := by
  unfold spotT
  rw [List.range_succ, List.map_append, ← List.append_assoc]; rfl
theorem spotT_full (s : Nat) : spotT s 24 = spotL (s + 1) := (spotL_succ s).symm
/-- a shaft that drives nobody -/
theorem share_nobody {m : PM} {s : Nat} (h : ∀ k, k < m.wvs.length → m.drv s k = false) {k : Nat} (hk : k < m.wvs.length) : shareTo m (spotL (s + 1)) k = shareTo m (spotL s) k := by
  rw [spotL_succ]
  unfold shareTo
  rw [List.map_append, List.sum_append]
  have : ((List.map (shr m k) ((List.range 24).map fun h => (s, h))).sum) = 0 := by
    refine sum_zero' _ _ ?_
    intro x hx
    obtain ⟨t, _, rfl⟩ := List.mem_map.1 hx
    unfold shr usesB
    rw [h k hk]; rfl
  omega
theorem shr_bounds {m : PM} (hm : POk m) (k : Nat) {x : Nat × Nat} (hx : x.1 < m.shafts.length) : 0 ≤ shr m k x ∧ shr m k x ≤ 3600 := by
  unfold shr
  have hp := hm.price x.1 hx
  split
  · refine ⟨Int.ediv_nonneg (by omega) (by omega), ?_⟩
    refine Int.le_trans (Int.ediv_le_self _ (by omega)) (by omega)
  · omega
theorem shareTo_bounds {m : PM} (hm : POk m) (k : Nat) : ∀ L : List (Nat × Nat), (∀ x, x ∈ L → x.1 < m.shafts.length) → 0 ≤ shareTo m L k ∧ shareTo m L k ≤ 3600 * (L.length : Int)
  | [], _ => ⟨Int.le_refl _, Int.le_refl _⟩
  | x :: L, h => by
    have h1 := shareTo_bounds hm k L fun y hy => h y (List.mem_cons_of_mem _ hy)
    have h2 := shr_bounds hm k (h x List.mem_cons_self)
    have e : shareTo m (x :: L) k = shr m k x + shareTo m L k := rfl
    rw [e, List.length_cons]
    omega

/-! The first least of some numbers that are there. -/
def leastF (f : Nat → Option Int) : Nat → Option (Nat × Int)
  | 0 => none
  | h + 1 => match f h, leastF f h with
    | some x, some b => if x < b.2 then some (h, x) else some b
    | some x, none => some (h, x)
    | none, b => b
theorem leastF_none {f : Nat → Option Int} : ∀ {n : Nat}, leastF f n = none ↔ ∀ h, h < n → f h = none
  | 0 => ⟨fun _ h hh => by omega, fun _ => rfl⟩
  | n + 1 => by
    have ih := leastF_none (f := f) (n := n)
    unfold leastF
    constructor
    · intro h
      cases e : f n with
      | some x =>
        rw [e] at h
        cases e2 : leastF f n with
        | none => rw [e2] at h; cases h
        | some b => rw [e2] at h; simp only at h; split at h <;> cases h
      | none =>
        rw [e] at h
        intro k hk
        by_cases e3 : k = n
        · rw [e3, e]
        · exact ih.1 h k (by omega)
    · intro h
      rw [h n (by omega)]
      exact ih.2 fun k hk => h k (by omega)
end Go.Proofs.Pow

namespace Go.Proofs.Pow

def sortL (xs : List Int) : List Int := xs.mergeSort fun x y => decide (x ≤ y)
theorem sortL_perm (xs : List Int) : (sortL xs).Perm xs := List.mergeSort_perm xs _
theorem sortL_le (xs : List Int) : (sortL xs).Pairwise (· ≤ ·) := by
  have := List.pairwise_mergeSort (le := fun x y : Int => decide (x ≤ y)) (fun a b c h1 h2 => by simp only [decide_eq_true_eq] at *; omega) (fun a b => by simp only [Bool.or_eq_true, decide_eq_true_eq]; omega) xs
  exact this.imp fun h => by simpa using h
/-- weaver k uses power in the hour h, too -/
def useP (m : PM) (k : Nat) (h : Int) : PM := { m with wvs := (List.range m.wvs.length).map fun i => if i = k then { shaft := (m.wv i).shaft, hours := sortL ((m.wv i).hours ++ [h]) } else m.wv i }
theorem useP_len (m : PM) (k : Nat) (h : Int) : (useP m k h).wvs.length = m.wvs.length := by simp [useP]
theorem useP_wv (m : PM) (k : Nat) (h : Int) {i : Nat} (hi : i < m.wvs.length) : (useP m k h).wv i = if i = k then { shaft := (m.wv i).shaft, hours := sortL ((m.wv i).hours ++ [h]) } else m.wv i := by
  unfold PM.wv useP
  simp [hi, PM.wv]
theorem use_used {m : PM} {k h : Nat} (hk : k < m.wvs.length) : Used m (useP m k (h : Int)) k h := by
  refine ⟨rfl, useP_len _ _ _, hk, fun j hj => ?_, ?_, fun x => ?_⟩
  · by_cases hl : j < m.wvs.length
    · rw [useP_wv m k h hl, if_neg hj]
    · unfold PM.wv
      rw [List.getElem?_eq_none (by rw [useP_len]; omega), List.getElem?_eq_none (by omega)]
  · rw [useP_wv m k h hk, if_pos rfl]
  · rw [useP_wv m k h hk, if_pos rfl, Bool.eq_iff_iff, Bool.or_eq_true, List.contains_iff_mem, List.contains_iff_mem, decide_eq_true_eq]
    show x ∈ sortL _ ↔ _
    rw [(sortL_perm _).mem_iff, List.mem_append, List.mem_singleton]
theorem use_ok {m : PM} (hm : POk m) {k h : Nat} (hk : k < m.wvs.length) (hh : h < 24) (hn : (m.wv k).hours.contains (h : Int) = false) : POk (useP m k (h : Int)) := by
  have hl := useP_len m k (h : Int)
  have hw : ∀ i, i < m.wvs.length → ((useP m k (h : Int)).wv i).shaft = (m.wv i).shaft := fun i hi => by rw [useP_wv m k h hi]; split <;> rfl
  refine ⟨hm.sz, by rw [hl]; exact hm.few, hm.price, fun i hi x hx => ?_, hm.up, fun i hi => ?_, fun i hi => ?_⟩
  · rw [hl] at hi
    rw [useP_wv m k h hi] at hx
    split at hx
    · have hx' : x ∈ sortL ((m.wv i).hours ++ [(h : Int)]) := hx
      rw [(sortL_perm _).mem_iff, List.mem_append, List.mem_singleton] at hx'
      rcases hx' with hx' | rfl
      · exact hm.hour i hi x hx'
      · omega
    · exact hm.hour i hi x hx
  · rw [hl] at hi
    rw [hw i hi]
    exact hm.at_ i hi
  · rw [hl] at hi
    rw [useP_wv m k h hi]
    split
    · rename_i e
      subst e
      show (sortL _).Pairwise _
      have h1 := sortL_le ((m.wv i).hours ++ [(h : Int)])
      have h2 : (sortL ((m.wv i).hours ++ [(h : Int)])).Nodup := by
        rw [(sortL_perm _).nodup_iff, List.nodup_append]
        refine ⟨hm.nodup hi, by simp, fun a ha b hb e => ?_⟩
        rw [List.mem_singleton] at hb
        subst hb; subst e
        rw [List.contains_iff_mem.2 ha] at hn
        cases hn
      exact (h1.and (List.nodup_iff_pairwise_ne.1 h2)).imp fun h => by omega
    · exact hm.rise i hi
def extraF (m : PM) (k h : Nat) : Int := costF (useP m k (h : Int)) (fun _ => true) - costF m fun _ => true
def offerF (m : PM) (k h : Nat) : Option Int := if (m.wv k).hours.contains (h : Int) then none else some (extraF m k h)
def cheapF (m : PM) (k : Nat) : Option (Nat × Int) := leastF (offerF m k) 24
/-- what each adds in an order of coming -/
def addsF (m : PM) (l : List Nat) : List Int := (List.range m.wvs.length).map fun k => addF m l (l.findIdx fun x => decide (x = k))
theorem findIdx_at {l : List Nat} (hn : l.Nodup) {i : Nat} (hi : i < l.length) : l.findIdx (fun x => decide (x = l[i])) = i := by
  rw [List.findIdx_eq hi]
  refine ⟨by simp, fun j hj => ?_⟩
  rw [decide_eq_false_iff_not]
  intro e
  have := List.pairwise_iff_getElem.1 (List.nodup_iff_pairwise_ne.1 hn) j i (by omega) hi hj
  exact this e
theorem addsF_at {m : PM} {l : List Nat} (hn : l.Nodup) {i : Nat} (hi : i < l.length) (hk : l[i] < m.wvs.length) : (addsF m l)[l[i]]?.getD 0 = addF m l i := by
  unfold addsF
  rw [List.getElem?_map, List.getElem?_range hk]
  simp only [Option.map_some, Option.getD_some]
  rw [findIdx_at hn hi]
end Go.Proofs.Pow

namespace Go.Proofs.Pow

/-- how many of a group use power of shaft s in the hour h -/
def useI (m : PM) (g : List Int) (s h : Nat) : Nat := (g.filter fun k => m.drv s k.toNat && (m.wv k.toNat).hours.contains (h : Int)).length
def allI (n : Nat) : List Int := (List.range n).map fun k : Nat => (k : Int)
theorem useI_nil (m : PM) (s h : Nat) : useI m [] s h = 0 := rfl
theorem useI_snoc (m : PM) (g : List Int) (k : Nat) (s h : Nat) : useI m (g ++ [(k : Int)]) s h = useI m g s h + if usesB m s h k then 1 else 0 := by
  unfold useI
  rw [List.filter_append, List.length_append]
  congr 1
  show (List.filter _ [(k : Int)]).length = _
  rw [List.filter_cons]
  show (if usesB m s h k = true then _ else _ : List Int).length = _
  split <;> rfl
theorem useI_le (m : PM) (g : List Int) (s h : Nat) : useI m g s h ≤ g.length := List.length_filter_le _ _
theorem useI_all (m : PM) (n s h : Nat) : useI m (allI n) s h = cntU n (usesB m s h) := by
  unfold useI allI cntU
  rw [List.filter_map, List.length_map]
  rfl
theorem useI_one (m : PM) (s h k : Nat) : 0 < useI m [(k : Int)] s h ↔ usesB m s h k = true := by
  have := useI_snoc m [] k s h
  rw [useI_nil, List.nil_append] at this
  rw [this]
  split
  · rename_i e; simp [e]
  · rename_i e; simp [e]
/-- a group of all -/
theorem all_group (m : PM) : costF m (fun k => (allI m.wvs.length).contains (k : Int)) = costF m fun _ => true := by
  refine costQ_congr fun k hk => ?_
  rw [List.contains_iff_mem]
  exact List.mem_map.2 ⟨k, List.mem_range.2 hk, rfl⟩
theorem all_in (m : PM) : InG m (allI m.wvs.length) := by
  intro k hk
  obtain ⟨i, hi, rfl⟩ := List.mem_map.1 hk
  have := List.mem_range.1 hi
  omega
end Go.Proofs.Pow

namespace Go.Proofs.Pow
def threeM : PM := ⟨[⟨-1, 6⟩, ⟨0, 4⟩, ⟨0, 3⟩], [⟨1, [0, 1]⟩, ⟨1, [1, 2]⟩, ⟨2, [1]⟩]⟩
def sightF (l : List Int) (k : Nat) : Int := l[k]?.getD 0
theorem three_shares : (List.range 3).map (shareP threeM) = [840, 840, 300] := by kernel_rfl
theorem three_adds : addsF threeM [2, 1, 0] = [10, 14, 9] := by kernel_rfl
theorem three_sure : clashB threeM (sightF [2, 2, 1]) = false ∧ sureL threeM (sightF [2, 2, 1]) = [1, 1] := ⟨by kernel_rfl, by kernel_rfl⟩
theorem leastF_congr {f g : Nat → Option Int} : ∀ {n : Nat}, (∀ h, h < n → f h = g h) → leastF f n = leastF g n
  | 0, _ => rfl
  | n + 1, h => by
    unfold leastF
    rw [h n (by omega), leastF_congr (n := n) fun x hx => h x (by omega)]
/-- what one hour more costs, by the line -/
def extraL (m : PM) (k h : Nat) : Int := ((m.line (m.wv k).shaft).map fun x => if runsB m x.toNat h then 0 else (m.sh x.toNat).price).sum
theorem extra_line {m : PM} (hm : POk m) {k h : Nat} (hk : k < m.wvs.length) (hh : h < 24) : extraF m k h = extraL m k h := (use_used hk).extra hm hh
theorem cheap_line {m : PM} (hm : POk m) {k : Nat} (hk : k < m.wvs.length) : cheapF m k = leastF (fun h => if (m.wv k).hours.contains (h : Int) then none else some (extraL m k h)) 24 :=
  leastF_congr fun h hh => by
    unfold offerF
    rw [extra_line hm hk hh]
theorem three_ok : POk threeM where
  sz := by decide
  few := by decide
  price := by decide
  hour := by decide
  up := by unfold UpOk; decide
  at_ := by unfold AtOk; decide
  rise := by decide
theorem three_cheap : cheapF threeM 2 = some (0, 3) := (cheap_line three_ok (by decide)).trans (by kernel_rfl)
end Go.Proofs.Pow

namespace Go.Proofs.Pet
open Go Go.RowKit
open Go.Proofs.Pow (PM Sh Wv POk)

def deskC (v1 v2 : Value) (f : Nat → Nat → Bool) : Array Value := (v1 :: v2 :: (List.range 54).map fun j => Value.bool (f (j / 6) (j % 6))).toArray
theorem deskC_size (v1 v2 : Value) (f : Nat → Nat → Bool) : (deskC v1 v2 f).size = 56 := by simp [deskC]
theorem deskC_cell (v1 v2 : Value) (f : Nat → Nat → Bool) {s k : Nat} (hs : s < 9) (hk : k < 6) : (deskC v1 v2 f)[2 + s * 6 + k]? = some (.bool (f s k)) := by
  unfold deskC
  have h1 : s * 6 + k < 54 := by omega
  have h2 : (s * 6 + k) / 6 = s := by omega
  have h3 : (s * 6 + k) % 6 = k := by omega
  rw [List.getElem?_toArray, show 2 + s * 6 + k = (s * 6 + k) + 1 + 1 by omega, List.getElem?_cons_succ, List.getElem?_cons_succ, List.getElem?_map, List.getElem?_range h1, Option.map_some, h2, h3]
theorem deskC_congr {v1 v2 : Value} {f g : Nat → Nat → Bool} (h : ∀ s k, s < 9 → k < 6 → f s k = g s k) : deskC v1 v2 f = deskC v1 v2 g := by
  unfold deskC
  congr 3
  refine List.map_congr_left fun j hj => ?_
  rw [List.mem_range] at hj
  rw [h (j / 6) (j % 6) (by omega) (by omega)]
theorem deskC_set (v1 v2 : Value) (f : Nat → Nat → Bool) {s k : Nat} (hs : s < 9) (hk : k < 6) (b : Bool) : (deskC v1 v2 f).setIfInBounds (2 + s * 6 + k) (.bool b) = deskC v1 v2 (fun x y => if x = s ∧ y = k then b else f x y) := by
  apply Array.ext_getElem?
  intro i
  rw [Array.getElem?_setIfInBounds, deskC_size]
  by_cases hi : 2 + s * 6 + k = i
  · subst hi
    rw [if_pos rfl, if_pos (by omega), deskC_cell _ _ _ hs hk, if_pos ⟨rfl, rfl⟩]
  · rw [if_neg hi]
    unfold deskC
    simp only [List.getElem?_toArray]
    match i with
    | 0 => rfl
    | 1 => rfl
    | i + 2 =>
      simp only [List.getElem?_cons_succ, List.getElem?_map]
      by_cases h54 : i < 54
      · rw [List.getElem?_range h54]
        simp only [Option.map_some]
        rw [if_neg (by omega)]
      · rw [List.getElem?_eq_none (by simp; omega)]; rfl
def drvC (m : PM) (s k : Nat) : Bool := decide (k < m.wvs.length) && m.drv s k
def DeskAt (w : World) (D : Nat) (m : PM) : Prop :=
  ∃ A1 c1 A2 c2, Blk w D 191 (deskC (.slice A1 m.shafts.length c1) (.slice A2 m.wvs.length c2) (drvC m)) ∧ m.shafts.length ≤ c1 ∧ c1 ≤ maxLen ∧ m.wvs.length ≤ c2 ∧ c2 ≤ maxLen ∧ ShsAt w A1 m.shafts ∧ WvsAt w A2 m.wvs
section
variable {w w' : World} {D : Nat} {m : PM}
theorem DeskAt.ext (h : DeskAt w D m) (he : Ext w w') : DeskAt w' D m := by
  obtain ⟨A1, c1, A2, c2, h1, h2, h3, h4, h5, h6, h7⟩ := h
  exact ⟨A1, c1, A2, c2, h1.ext he, h2, h3, h4, h5, h6.ext he, h7.ext he⟩
instance : Lift (DeskAt w D m) w w' (DeskAt w' D m) := ⟨fun he h => h.ext he⟩
theorem DeskAt.drv (h : DeskAt w D m) {s k : Nat} (hs : s < 9) (hk : k < 6) : w.cell? ⟨D, 2 + s * 6 + k, none⟩ = some (.bool (drvC m s k)) := by
  obtain ⟨A1, c1, A2, c2, h1, _⟩ := h
  rw [h1.cell, deskC_cell _ _ _ hs hk]
theorem DeskAt.slices (h : DeskAt w D m) : ∃ A1 c1 A2 c2, w.cell? ⟨D, 0, none⟩ = some (.slice A1 m.shafts.length c1) ∧ w.cell? ⟨D, 1, none⟩ = some (.slice A2 m.wvs.length c2) ∧ PMVal w (.agg #[.slice A1 m.shafts.length c1, .slice A2 m.wvs.length c2]) m ∧ ShsAt w A1 m.shafts ∧ WvsAt w A2 m.wvs := by
  obtain ⟨A1, c1, A2, c2, h1, h2, h3, h4, h5, h6, h7⟩ := h
  exact ⟨A1, c1, A2, c2, h1.cell 0, h1.cell 1, ⟨A1, c1, A2, c2, rfl, h2, h3, h4, h5, h6, h7⟩, h6, h7⟩
theorem DeskAt.lt (h : DeskAt w D m) : D < w.heap.size := by
  obtain ⟨A1, c1, A2, c2, h1, _⟩ := h
  exact h1.lt
end
/-- a shaft of a line -/
theorem line_lt {m : PM} (hm : POk m) {k : Nat} (hk : k < m.wvs.length) {x : Int} (hx : x ∈ m.line (m.wv k).shaft) : 0 ≤ x ∧ x < m.shafts.length := by
  obtain ⟨h1, h2⟩ := hm.at_ k hk
  obtain ⟨s, hs⟩ : ∃ s : Nat, (m.wv k).shaft = s := ⟨_, (Int.toNat_of_nonneg h1).symm⟩
  rw [hs] at hx h2
  have := Pow.line_mem m hm.up s (by omega) x hx
  omega
end Go.Proofs.Pet

namespace Go.Proofs.Pet
open Go Go.RowKit
open Go.Proofs.Pow (PM Sh Wv POk)

theorem pweaver_any (v : Value) (m : PM) (n : Int) (q : Bool) (hq : inB n 0 (m.wvs.length - 1) = q) (w : World) (hv : PMVal w v m) :
    Calls Tryz.prog 206 #[v, .int .i64 n] w fun e w' => e = .returned (.bool q) ∧ Ext w w' := by
  obtain ⟨A1, c1, A2, c2, rfl, h2, h3, h4, h5, h6, h7⟩ := hv
  unfold maxLen at h5
  have Hc := Lib.hid (in_anyP n 0 (m.wvs.length - 1) q hq)
  have hE := Ext.alloc w (.cells #[.slice A1 m.shafts.length c1, .slice A2 m.wvs.length c2] 56)
  obtain ⟨k0, k1⟩ := (Blk.new w 56 #[.slice A1 m.shafts.length c1, .slice A2 m.wvs.length c2]).c2
  clear hq h6 h7
  go_enter Tryz.func206, Tryz.ntmps206
  go_wp2_with fail
  refine (Hc.out _).mono ?_
  rintro e w' ⟨rfl, rfl⟩
  go_wp2
  go_ret
  exact ⟨rfl, hE⟩
theorem pshaft_any (v : Value) (m : PM) (n : Int) (q : Bool) (hq : inB n 0 (m.shafts.length - 1) = q) (w : World) (hv : PMVal w v m) :
    Calls Tryz.prog 152 #[v, .int .i64 n] w fun e w' => e = .returned (.bool q) ∧ Ext w w' := by
  obtain ⟨A1, c1, A2, c2, rfl, h2, h3, h4, h5, h6, h7⟩ := hv
  unfold maxLen at h3
  have Hc := Lib.hid (in_anyP n 0 (m.shafts.length - 1) q hq)
  have hE := Ext.alloc w (.cells #[.slice A1 m.shafts.length c1, .slice A2 m.wvs.length c2] 56)
  obtain ⟨k0, k1⟩ := (Blk.new w 56 #[.slice A1 m.shafts.length c1, .slice A2 m.wvs.length c2]).c2
  clear hq h6 h7
  go_enter Tryz.func152, Tryz.ntmps152
  go_wp2_with fail
  refine (Hc.out _).mono ?_
  rintro e w' ⟨rfl, rfl⟩
  go_wp2
  go_ret
  exact ⟨rfl, hE⟩
theorem hour_any (n : Int) (q : Bool) (hq : inB n 0 23 = q) (w : World) :
    Calls Tryz.prog 150 #[.int .i64 n] w fun e w' => e = .returned (.bool q) ∧ w = w' := by
  have Hc := Lib.hid (in_anyP n 0 23 q hq)
  clear hq
  go_enter Tryz.func150, Tryz.ntmps150
  go_wp2_with fail
  refine (Hc.out _).mono ?_
  rintro e w' ⟨rfl, rfl⟩
  go_wp2
  go_ret
  exact ⟨rfl, rfl⟩
theorem pcheck1 (w : World) (x : Sh) : Tells Tryz.prog w 146 #[] #[] ShVal x (inB x.price 0 60) := by
  intro W v hW hv
  obtain rfl := hv
  have Hc := Lib.hid (in_anyP x.price 0 60 _ rfl)
  have hE := Ext.alloc W (.cells #[.int .i64 x.up, .int .i64 x.price] 84)
  obtain ⟨k0, k1⟩ := (Blk.new W 84 #[.int .i64 x.up, .int .i64 x.price]).c2
  generalize inB x.price 0 60 = q at Hc ⊢
  show Calls Tryz.prog 146 #[_] W _
  go_enter Tryz.func146, Tryz.ntmps146
  go_wp2_with fail
  refine (Hc.out _).mono ?_
  rintro e w' ⟨rfl, rfl⟩
  go_wp2
  go_ret
  exact ⟨rfl, hE⟩
theorem pcheck2 (w : World) (x : Wv) : Tells Tryz.prog w 148 #[] #[] WvVal x (x.hours.all fun h => inB h 0 23) := by
  intro W v hW hv
  obtain ⟨A, c, h1, rfl, h3⟩ := hv
  have hE := Ext.alloc W (.cells #[.int .i64 x.shaft, .slice A x.hours.length c] 86)
  obtain ⟨k0, k1⟩ := (Blk.new W 86 #[.int .i64 x.shaft, .slice A x.hours.length c]).c2
  have H := Lib.hid (everyIP 150 #[] #[] (enters_of Tryz.func150 (by kernel_rfl) rfl) (fun h => inB h 0 23) A c x.hours _ (Nat.le_trans h1.1 h1.2) (h3.ext hE)
    (fun y _ => fun W' v' _ hv' => by
      obtain rfl : v' = .int .i64 y := hv'
      exact (hour_any y _ rfl W').mono fun e w' h => ⟨h.1, h.2 ▸ Ext.refl _⟩))
  generalize (x.hours.all fun h => inB h 0 23) = q at H ⊢
  show Calls Tryz.prog 148 #[_] W _
  go_enter Tryz.func148, Tryz.ntmps148
  go_wp2_with fail
  refine H.out.mono ?_
  rintro e w' ⟨rfl, he⟩
  go_wp2
  go_ret
  exact ⟨rfl, hE.trans he⟩
theorem pcheck4 (w : World) (x : Wv) : Tells Tryz.prog w 153 #[] #[] WvVal x (risingB x.hours) := by
  intro W v hW hv
  obtain ⟨A, c, h1, rfl, h3⟩ := hv
  have hE := Ext.alloc W (.cells #[.int .i64 x.shaft, .slice A x.hours.length c] 86)
  obtain ⟨k0, k1⟩ := (Blk.new W 86 #[.int .i64 x.shaft, .slice A x.hours.length c]).c2
  have H := Lib.hid (rising_anyP A c x.hours _ rfl _ (Nat.le_trans h1.1 h1.2) (h3.ext hE))
  generalize risingB x.hours = q at H ⊢
  show Calls Tryz.prog 153 #[_] W _
  go_enter Tryz.func153, Tryz.ntmps153
  go_wp2_with fail
  refine H.out.mono ?_
  rintro e w' ⟨rfl, he⟩
  go_wp2
  go_ret
  exact ⟨rfl, hE.trans he⟩
theorem pcheck3 (w : World) (B : Nat) (s1 s2 : Value) (m : PM) (hB : Blk w B 56 #[s1, s2]) (hm : PMVal w (.agg #[s1, s2]) m) (x : Wv) :
    Tells Tryz.prog w 151 #[] #[.pointer (some ⟨B, 0, none⟩)] WvVal x (inB x.shaft 0 (m.shafts.length - 1)) := by
  intro W v hW hv
  obtain ⟨A, c, h1, rfl, h3⟩ := hv
  have hE := Ext.alloc W (.cells #[.int .i64 x.shaft, .slice A x.hours.length c] 86)
  obtain ⟨k0, k1⟩ := (Blk.new W 86 #[.int .i64 x.shaft, .slice A x.hours.length c]).c2
  have hb := (hB.ext hW).ext hE
  have hf := hb.frozen 0
  obtain ⟨j0, j1⟩ := hb.c2
  have H := Lib.hid (pshaft_any _ m x.shaft _ rfl _ ((hm.ext hW).ext hE))
  obtain ⟨A1, c1, A2, c2, he, _⟩ := hm
  simp only [Value.agg.injEq, Array.mk.injEq, List.cons.injEq, and_true] at he
  obtain ⟨rfl, rfl⟩ := he
  clear hB hb
  generalize inB x.shaft 0 (m.shafts.length - 1) = q at H ⊢
  show Calls Tryz.prog 151 #[_, .pointer (some ⟨B, 0, none⟩)] W _
  go_enter Tryz.func151, Tryz.ntmps151
  go_wp2_with fail
  refine H.out.mono ?_
  rintro e w' ⟨rfl, he⟩
  go_wp2
  go_ret
  exact ⟨rfl, hE.trans he⟩

set_option maxHeartbeats 1000000 in
theorem pcheck_any (v : Value) (m : PM) (w : World) (hv : PMVal w v m) :
    Calls Tryz.prog 45 #[v] w fun e w' => e = .returned (.int .i64 (checkP m)) ∧ Ext w w' := by
  have hmf : ∀ (fn : Fn) (first cap : Array Value) (w : World), (Instr.makeFunc fn first cap).run Tryz.prog w = .ok (.func fn first cap) w := fun _ _ _ _ => rfl
  have Hv := Lib.hid hv
  obtain ⟨A1, c1, A2, c2, rfl, h2, h3, h4, h5, h6, h7⟩ := hv
  unfold maxLen at h3 h5
  have g1 : m.shafts.length ≤ maxLen := by unfold maxLen; omega
  have g2 : m.wvs.length ≤ maxLen := by unfold maxLen; omega
  unfold checkP
  have hin := in_anyP m.shafts.length 1 9 _ rfl
  have hE1 := Ext.alloc w (.cells #[.slice A1 m.shafts.length c1, .slice A2 m.wvs.length c2] 56)
  have hB1 := Blk.new w 56 #[.slice A1 m.shafts.length c1, .slice A2 m.wvs.length c2]
  have e1 := fun W (hW : Ext w W) => everyS 146 #[] #[] (enters_of Tryz.func146 (by kernel_rfl) rfl) _ A1 c1 m.shafts W g1 (h6.ext hW) (fun x _ => pcheck1 W x)
  have e2 := fun W (hW : Ext w W) => everyW 148 #[] #[] (enters_of Tryz.func148 (by kernel_rfl) rfl) _ A2 c2 m.wvs W g2 (h7.ext hW) (fun x _ => pcheck2 W x)
  have e4 := fun W (hW : Ext w W) => everyW 153 #[] #[] (enters_of Tryz.func153 (by kernel_rfl) rfl) _ A2 c2 m.wvs W g2 (h7.ext hW) (fun x _ => pcheck4 W x)
  have e3 := fun W B (hW : Ext w W) (hB : Blk W B 56 #[.slice A1 m.shafts.length c1, .slice A2 m.wvs.length c2]) =>
    everyW 151 #[] #[.pointer (some ⟨B, 0, none⟩)] (enters_of Tryz.func151 (by kernel_rfl) rfl) _ A2 c2 m.wvs W g2 (h7.ext hW) (fun x _ => pcheck3 W B _ _ m hB (Hv.out.ext hW) x)
  have Hup : Hid (∀ q, ((List.range m.shafts.length).all fun i => inB (m.sh i).up (-1) ((i : Int) - 1)) = q → (q = true ↔ ∀ i, i < m.shafts.length → inB (m.sh i).up (-1) ((i : Int) - 1) = true)) := by
    intro q hq
    rw [← hq, List.all_eq_true]
    exact ⟨fun h i hi => h i (List.mem_range.2 hi), fun h i hi => h i (List.mem_range.1 hi)⟩
  generalize inB m.shafts.length 1 9 = q1 at hin ⊢
  generalize (m.shafts.all fun s => inB s.price 0 60) = q2 at e1 ⊢
  generalize (m.wvs.all fun w => w.hours.all fun h => inB h 0 23) = q3 at e2 ⊢
  generalize hq4 : ((List.range m.shafts.length).all fun i => inB (m.sh i).up (-1) ((i : Int) - 1)) = q4
  generalize (m.wvs.all fun w => inB w.shaft 0 (m.shafts.length - 1)) = q5 at e3 ⊢
  generalize (m.wvs.all fun w => risingB w.hours) = q6 at e4 ⊢
  have Hin := Lib.hid hin
  have E1 := Lib.hid e1
  have E2 := Lib.hid e2
  have E3 := Lib.hid e3
  have E4 := Lib.hid e4
  have Hq4 := Lib.hid (Hup.out q4 hq4)
  have H6 := Lib.hid h6; have H7 := Lib.hid h7
  clear hin e1 e2 e3 e4 hq4 Hup h6 h7
  obtain ⟨k0, k1⟩ := hB1.c2
  go_enter Tryz.func45, Tryz.ntmps45
  go_wp2_with fail
  refine (Hin.out _).mono ?_
  rintro e w' ⟨rfl, rfl⟩
  cases q1 with
  | false =>
    go_wp2
    go_ret
    exact ⟨by simp, hE1⟩
  | true =>
    by_cases hlen : 6 < m.wvs.length
    · go_wp2
      go_ret
      exact ⟨by simp, hE1⟩
    · have hlen' : decide (6 < (m.wvs.length : Int)) = false := by simp; omega
      go_wp2_with fail
      refine (E1.out _ hE1).mono ?_
      rintro e w3 ⟨rfl, hE3⟩
      have hE3' := hE1.trans hE3
      have hB3 := hB1.ext hE3
      clear k0 k1 hB1 hE1 hE3
      obtain ⟨k0, k1⟩ := hB3.c2
      cases q2 with
      | false =>
        go_wp2
        go_ret
        exact ⟨by simp, hE3'⟩
      | true =>
        go_wp2_with fail
        refine (E2.out _ hE3').mono ?_
        rintro e w4 ⟨rfl, hE4⟩
        have hE4' := hE3'.trans hE4
        have hB4 := hB3.ext hE4
        clear k0 k1 hB3 hE3' hE4
        obtain ⟨k0, k1⟩ := hB4.c2
        cases q3 with
        | false =>
          go_wp2
          go_ret
          exact ⟨by simp, hE4'⟩
        | true =>
          go_wp2_with fail
          have HB4 := Lib.hid hB4
          clear k0 k1 hB4
          have hs9 : m.shafts.length ≤ maxLen := g1
          go_loopw [31] (fun i wr => ∃ k : Nat, k ≤ m.shafts.length ∧ i = .int .i64 k ∧ Hid (∀ j, j < k → inB (m.sh j).up (-1) ((j : Int) - 1) = true) ∧ Ext w4 wr) (fun i _ => m.shafts.length - (intOf i).toNat)
          case atStart => exact ⟨0, Nat.zero_le _, rfl, fun j hj => absurd hj (by omega), Ext.refl _⟩
          case round =>
            obtain ⟨k, hk, rfl, hm, he⟩ := hrel
            by_cases hlt : k < m.shafts.length
            · obtain ⟨b, o, rfl, s1, s2⟩ := H6.out.ext (hE4'.trans he) k hlt
              have hX := Ext.alloc wr (.cells #[.int .i64 (m.shafts[k]?.getD default).up, .int .i64 (m.shafts[k]?.getD default).price] 84)
              obtain ⟨j0, j1⟩ := (Blk.new wr 84 #[.int .i64 (m.shafts[k]?.getD default).up, .int .i64 (m.shafts[k]?.getD default).price]).c2
              obtain ⟨q, hq⟩ : ∃ q, inB (m.sh k).up (-1) ((k : Int) - 1) = q := ⟨_, rfl⟩
              have Hc := Lib.hid (in_anyP (m.shafts[k]?.getD default).up (-1) ((k : Int) - 1) q hq)
              have Hq := Lib.hid hq; clear hq
              generalize m.shafts[k]?.getD default = x at *
              have hkb : (k : Int) ≤ maxLen := by omega
              unfold maxLen at hkb
              go_wp2_with fail
              refine (Hc.out _).mono ?_
              rintro e w' ⟨rfl, rfl⟩
              cases q with
              | false =>
                have h4 : q4 = false := by
                  cases q4 with
                  | false => rfl
                  | true => rw [Hq4.out.1 rfl k hlt] at Hq; exact absurd Hq.out (by simp)
                subst h4
                go_wp2
                go_ret
                exact ⟨by simp, (hE4'.trans he).trans hX⟩
              | true =>
                go_wp2_with fail
                go_roundw
                case rel =>
                  refine ⟨k + 1, by omega, by go_num, fun j hj => ?_, he.trans hX⟩
                  by_cases ej : j = k
                  · subst ej; exact Hq.out
                  · exact hm.out j (by omega)
                case measure => simp [intOf]; omega
            · have h4 : q4 = true := Hq4.out.2 fun j hj => hm.out j (by omega)
              subst h4
              have hE5 := hE4'.trans he
              have hB5 := HB4.out.ext he
              have hB6 := Lib.hid hB5
              obtain ⟨k0, k1⟩ := hB5.c2
              go_wp2_with fail
              refine (E3.out _ _ hE5 hB6.out).mono ?_
              rintro e w6 ⟨rfl, hE6⟩
              have hE6' := hE5.trans hE6
              have hB7 := hB6.out.ext hE6
              clear k0 k1 hB5 hB6
              obtain ⟨k0, k1⟩ := hB7.c2
              cases q5 with
              | false =>
                go_wp2
                go_ret
                exact ⟨by simp, hE6'⟩
              | true =>
                go_wp2_with fail
                refine (E4.out _ hE6').mono ?_
                rintro e w7 ⟨rfl, hE7⟩
                have hE7' := hE6'.trans hE7
                cases q6 with
                | false =>
                  go_wp2
                  go_ret
                  exact ⟨by simp, hE7'⟩
                | true =>
                  go_wp2
                  all_goals
                    go_ret
                    exact ⟨by first | rfl | simp [hlen], hE7'⟩
end Go.Proofs.Pet

namespace Go.Proofs.Pet
open Go Go.RowKit

/-- what such an iterator does: some elements come, one by one; what the rounds carry on may say nothing of what the iterator turns (Tn) -/
def SeqT {α : Type} (F : Fence) (n : Nat) (P : Program) (g : Nat) (lb : Array Value) (encs : α → Array Value) (Kp Tn : World → World → Prop) (S : List α → Prop) (N : Nat) (w : World) : Prop :=
  ∀ (l : Nat) (J : List α → World → Prop) (W : World), Below w.heap.size w W → AbidesFrom W.heap.size J → (∀ s X Y, J s X → Tn X Y → J s Y) →
    (∀ pre x W1, J pre W1 → pre.length < N → YieldAt F (n - 1) P l (encs x) W1 fun e W' => e = .returned (.bool true) ∧ J (pre ++ [x]) W' ∧ Kp W1 W') → J [] W →
    CallsIn F n P g (#[.func (.yield l) #[] #[]] ++ lb) W fun e W' => (∃ v, e = .returned v) ∧ ∃ xs, S xs ∧ J xs W'
section
variable {α : Type} {F : Fence} {n : Nat} {P : Program} {encs : α → Array Value} {Kp Tn : World → World → Prop} {S : List α → Prop} {N : Nat}
/-- the loop's record -/
def recT (fn : FuncId) (tmps : Array Value) (ps : Array Tmp) (assign body : Code) (D : Nat) (st : LoopState) : Loop :=
  { state := st, pending := none, fn, tmps, params := ps, assign, body, defers := D }
theorem wpIn_rangeT {g : Operand} {ps : Array Tmp} {assign body : Code} {Q : Exit → Act → World → Prop} {a : Act} {w w0 : World} {gf : Nat} {lb : Array Value}
    (hro : F.round = none) (h1 : 1 ≤ n) (hg : a.eval g = .func (.func gf) #[] lb) (hFg : F.fn gf) (eg : Enters P gf) (hseq : SeqT F (n - 1) P gf lb encs Kp Tn S N w0) (hb0 : Below w0.heap.size w0 w)
    (hKt : ∀ {A B C : World}, Kp A B → Kp B C → Kp A C) (hKb : ∀ (W : World) (l : Nat) (o o' : Obj), w.heap.size ≤ l → W.heap[l]? = some o → o.isCells = false → o.isWalk = false → Kp W (W.putObj l o'))
    (hTw : ∀ X Y, Tn X Y → ∀ k, w.heap.size ≤ k → Y.heap[k]? = X.heap[k]?) (hps : ∀ x, (encs x).size = ps.size)
    (I : List α → World → Prop) (hI : OwnFrom w.heap.size I) (hIT : ∀ s X Y, I s X → Tn X Y → I s Y) (h0 : I [] w) (a₁ : α → Act)
    (hassign : ∀ (l : Nat) (x : α) (W : World) (K : Act → World → Prop), K (a₁ x) W →
      assign.wpIn (F.inRound l) (n - 1 - 1) P (Exit.then K (fun _ _ _ => False)) { tmps := (ps.zip (encs x)).foldl (fun t (p, v) => t.setIfInBounds p v) a.tmps, defers := [] } W)
    (hbody : ∀ (l : Nat) (pre : List α) (x : α) (W : World), I pre W → pre.length < N → body.wpIn (F.inRound l) (n - 1 - 1) P (ownPostG w.heap.size Kp I (fun _ _ _ => False) (pre ++ [x]) W) (a₁ x) W)
    (hdone : ∀ (D : Nat) (xs : List α) (W : World), w.heap.size ≤ D → S xs → I xs W → W.heap[D]? = some (.deferred (some [])) → Q .normal { a with defers := { target := .collected D, args := #[] } :: a.defers } W) :
    (Code.rangeFunc g ps assign body).wpIn F n P Q a w := by
  refine wpIn_rangeFunc fun fn hfn => ?_
  rw [hro]
  -- the two blocks that the loop lays: what the rounds defer, and its record
  let D := w.heap.size
  let wd := w.alloc (.deferred (some []))
  let rc := recT fn a.tmps ps assign body D
  obtain ⟨V, hV⟩ : ∃ V, wd.alloc (.loop (rc .ready)) = V := ⟨_, rfl⟩
  have hsz : wd.heap.size = D + 1 := World.size_alloc ..
  have hrec : V.heap[D + 1]? = some (.loop (rc .ready)) := by
    rw [← hV, ← hsz]; exact World.alloc_heap_new wd _
  have hdef : V.heap[D]? = some (.deferred (some [])) := by
    rw [← hV]; exact (Below.heap_alloc wd _ D (by omega)).trans (World.alloc_heap_new w _)
  have hIV : I [] V := by rw [← hV]; exact hI.alloc _ (hI.alloc _ h0)
  have hbV : Below w0.heap.size w0 V := by
    rw [← hV]
    exact hb0.trans (((Ext.alloc w _).trans (Ext.alloc wd _)).mono hb0.size)
  have hVD : D + 2 ≤ V.heap.size := by rw [← hV, World.size_alloc, hsz]; omega
  refine ⟨D + 1, [{ target := .collected D, args := #[] }], V, { target := .fn (.func gf) lb, args := #[.func (.yield (D + 1)) #[] #[]] }, V, gf, #[.func (.yield (D + 1)) #[] #[]] ++ lb, V, ?_, ?_, ?_, ?_, fun _ => h1, ?_⟩
  · rw [← hV]; exact run_enterLoop_outer _ _ _ _ _
  · simp only [resolve, hg]
    simp [go_sem]
  · intro f' hf'
    simp [Target.leads] at hf'
    subst hf'; exact hFg
  · simp [invoke, go_sem, eg _ _]
  · -- what is carried on: the caller's invariant and the two blocks
    have hwalk : ∀ {A B : World} {row : Option Nat}, A.grownBy B row → (∀ r, row = some r → V.heap.size ≤ r ∧ ∃ o : Obj, A.heap[r]? = some o ∧ o.isWalk = true) → ∀ s, I s A → I s B :=
      fun hgr hr s hs => hI s _ _ _ hs hgr fun r e => by
        obtain ⟨q, o, ho, hw⟩ := hr r e
        exact ⟨by omega, o, ho, Obj.not_cells_of_walk hw⟩
    refine (hseq (D + 1) (fun pre W => I pre W ∧ W.heap[D + 1]? = some (.loop (rc .ready)) ∧ W.heap[D]? = some (.deferred (some []))) V hbV ?_ ?_ ?_ ⟨hIV, hrec, hdef⟩).mono ?_
    · intro s A B row ⟨g1, g2, g3⟩ hgr hr
      exact ⟨hwalk hgr hr s g1, (grownBy_keeps hgr (fun r e => (hr r e).2) g2 rfl).trans g2, (grownBy_keeps hgr (fun r e => (hr r e).2) g3 rfl).trans g3⟩
    · intro s X Y ⟨g1, g2, g3⟩ ht
      exact ⟨hIT s X Y g1 ht, (hTw X Y ht _ (by omega)).trans g2, (hTw X Y ht _ (Nat.le_refl _)).trans g3⟩
    · -- a round
      intro pre x W ⟨g1, g2, g3⟩ hlen
      have hlt : D + 1 < W.heap.size := (Array.getElem?_eq_some_iff.1 g2).1
      refine ⟨fn, _, assign, body, run_yield (P := P) (args := encs x) g2 (hps x), roundIn_of_wpIn hfn (hassign _ x W _ ⟨_, run_beginRound g2 rfl, ?_⟩)⟩
      obtain ⟨B, hB⟩ : ∃ B, W.putObj (D + 1) (.loop (rc .busy)) = B := ⟨_, rfl⟩
      have hB' : W.putObj (D + 1) (.loop { rc .ready with state := .busy }) = B := hB
      rw [hB']
      have p2 : B.heap[D + 1]? = some (.loop (rc .busy)) := by rw [← hB]; exact World.putObj_heap_same hlt
      have p3 : B.heap[D]? = some (.deferred (some [])) := by rw [← hB]; exact (World.putObj_heap_other (by omega)).trans g3
      have pK : Kp W B := by rw [← hB]; exact hKb _ _ _ _ (by omega) g2 rfl rfl
      have pI : I pre B := by rw [← hB]; exact hI.putObj _ g1 (by omega) g2 rfl
      clear hB hB'
      refine wpIn_mono (hbody _ pre x B pI hlen) ?_
      intro e a3 W3 hp
      cases e with
      | normal =>
        obtain ⟨k1, k2, k3⟩ := hp
        have q2 := k1.same _ _ (by omega) p2 rfl
        have q3 := k1.same _ _ (Nat.le_refl _) p3 rfl
        have hend := run_endRound (P := P) none q2
        refine ⟨_, _, hend, rfl, ⟨hI.putObj _ k3 (by omega) q2 rfl, World.putObj_heap_same (Array.getElem?_eq_some_iff.1 q2).1, (World.putObj_heap_other (by omega)).trans q3⟩, hKt (hKt pK k2) (hKb _ _ _ _ (by omega) q2 rfl rfl)⟩
      | ret => exact hp.2.elim
      | exit id => exact hp.2.elim
      | goto t => exact hp.2.elim
      | panic ch => exact hp.elim
      | outgrown => exact hp.elim
    · -- behind the iterator
      rintro e W2 ⟨⟨v, rfl⟩, xs, hS, g1, g2, g3⟩
      exact ⟨none, _, run_endLoop (P := P) g2 (show LoopState.ready ≠ LoopState.busy by decide), hdone D xs _ (Nat.le_refl _) hS (hI.putObj _ g1 (by omega) g2 rfl) ((World.putObj_heap_other (by omega)).trans g3)⟩
end
end Go.Proofs.Pet

namespace Go.Proofs.Pet
open Go Go.RowKit Go.Maps Go.Shelf
open Go.Proofs.Pow (PM Sh Wv POk)

/-- a shaft of a line -/
abbrev OnLine (m : PM) (s : Int) := { x : Int // x ∈ m.line s }
def encO (m : PM) (s : Int) (x : OnLine m s) : Array Value := #[.int .i64 x.1]
/-- what a round keeps: what lay at first, and the two boxes -/
def KeepsLine (n1 B : Nat) (X Y : World) : Prop := (∀ k, k < n1 → Y.heap[k]? = X.heap[k]?) ∧ Y.heap[B]? = X.heap[B]? ∧ Y.heap[B + 1]? = X.heap[B + 1]?
def TurnsLine (B : Nat) (X Y : World) : Prop := ∃ v, Y = X.setCell ⟨B + 1, 0, none⟩ v
theorem KeepsLine.t {n1 B : Nat} {X Y Z : World} (h : KeepsLine n1 B X Y) (k : KeepsLine n1 B Y Z) : KeepsLine n1 B X Z := ⟨fun j hj => (k.1 j hj).trans (h.1 j hj), k.2.1.trans h.2.1, k.2.2.trans h.2.2⟩
theorem KeepsLine.b {n1 B : Nat} {w : World} (h1 : n1 ≤ w.heap.size) (hB : B + 1 < w.heap.size) (W : World) (l : Nat) (o o' : Obj) (hl : w.heap.size ≤ l) (_h : W.heap[l]? = some o) (_h1 : o.isCells = false) (_h2 : o.isWalk = false) : KeepsLine n1 B W (W.putObj l o') :=
  ⟨fun k hk => World.putObj_heap_other (by omega), World.putObj_heap_other (by omega), World.putObj_heap_other (by omega)⟩
theorem TurnsLine.w {B : Nat} {w : World} (hB : B + 1 < w.heap.size) (X Y : World) (h : TurnsLine B X Y) (k : Nat) (hk : w.heap.size ≤ k) : Y.heap[k]? = X.heap[k]? := by
  obtain ⟨v, rfl⟩ := h
  exact Below.heap_setCell X ⟨B + 1, 0, none⟩ v k (by show k ≠ B + 1; omega)
theorem cell_of_blocks {X Y : World} {p : Addr} {v : Value} (h : Y.heap[p.block]? = X.heap[p.block]?) (hc : X.cell? p = some v) : Y.cell? p = some v := (World.cell?_of_block h).trans hc
theorem ShsAt.low {n1 : Nat} {X Y : World} {A : Option Addr} {xs : List Sh} (h : ShsAt X A xs) (hn : ∀ k, k < xs.length → ∀ ad, A = some ad → ad.block < n1) (hk : ∀ k, k < n1 → Y.heap[k]? = X.heap[k]?) : ShsAt Y A xs := by
  intro k hlt
  obtain ⟨b, o, rfl, h1, h2⟩ := h k hlt
  have hb := hn k hlt _ rfl
  exact ⟨b, o, rfl, cell_of_blocks (hk b hb) h1, cell_of_blocks (hk b hb) h2⟩
theorem ShsAt.low_lt {w : World} {A : Option Addr} {xs : List Sh} (h : ShsAt w A xs) : ∀ k, k < xs.length → ∀ ad, A = some ad → ad.block < w.heap.size := by
  intro k hlt ad e
  obtain ⟨b, o, rfl, h1, h2⟩ := h k hlt
  cases e
  show b < _
  exact cell_lt h1

theorem pline_any (A1 A2 : Option Addr) (n1 c1 n2 c2 : Nat) (s : Int) (w : World) :
    Calls Tryz.prog 208 #[.agg #[.slice A1 n1 c1, .slice A2 n2 c2], .int .i64 s] w fun e w' =>
      e = .returned (.func (.func 256) #[] #[.pointer (some ⟨w.heap.size + 1, 0, none⟩), .pointer (some ⟨w.heap.size, 0, none⟩)]) ∧ Ext w w' ∧ Blk w' w.heap.size 56 #[.slice A1 n1 c1, .slice A2 n2 c2] ∧ Blk w' (w.heap.size + 1) 3 #[.int .i64 s] ∧ w'.heap.size = w.heap.size + 2 := by
  have hmf : ∀ (fn : Fn) (first cap : Array Value) (w : World), (Instr.makeFunc fn first cap).run Tryz.prog w = .ok (.func fn first cap) w := fun _ _ _ _ => rfl
  have hE := (Ext.alloc w (.cells #[.slice A1 n1 c1, .slice A2 n2 c2] 56)).trans (Ext.alloc _ (.cells #[.int .i64 s] 3))
  have b1 := (Blk.new w 56 #[.slice A1 n1 c1, .slice A2 n2 c2]).alloc (.cells #[.int .i64 s] 3)
  have b2 := Blk.new (w.alloc (.cells #[.slice A1 n1 c1, .slice A2 n2 c2] 56)) 3 #[.int .i64 s]
  rw [World.size_alloc] at b2
  go_enter Tryz.func208, Tryz.ntmps208
  go_wp2_with fail
  go_ret
  exact ⟨rfl, hE, b1, b2, by rw [World.size_alloc, World.size_alloc]⟩

def curOf (B : Nat) (wr : World) : Int := match wr.cell? ⟨B + 1, 0, none⟩ with | some v => intOf v | none => 0

set_option maxRecDepth 20000 in
set_option maxHeartbeats 1000000 in
theorem line1_in (F : Fence) (n0 : Nat) (hF : F.fn 256) (hro : F.round = none) (hn : 1 ≤ n0) (l B n1 : Nat) (m : PM) (hu : Pow.UpOk m) (hB : n1 ≤ B) (A1 : Option Addr) (c1 : Nat) (v2 : Value) (_hl : m.shafts.length ≤ maxLen) (s : Int) (hs : -1 ≤ s ∧ s < m.shafts.length)
    (J : List (OnLine m s) → World → Prop) (hJT : ∀ s X Y, J s X → TurnsLine B X Y → J s Y)
    (hY : ∀ pre x W, J pre W → pre.length < (m.line s).length → YieldAt F (n0 - 1) Tryz.prog l (encO m s x) W fun e W' => e = .returned (.bool true) ∧ J (pre ++ [x]) W' ∧ KeepsLine n1 B W W')
    (W : World) (hB1 : Blk W B 56 #[.slice A1 m.shafts.length c1, v2]) (hB2 : Blk W (B + 1) 3 #[.int .i64 s]) (hA : ShsAt W A1 m.shafts) (hA1 : ∀ k, k < m.shafts.length → ∀ ad, A1 = some ad → ad.block < n1) (h0 : J [] W) :
    CallsIn F n0 Tryz.prog 256 #[.func (.yield l) #[] #[], .pointer (some ⟨B + 1, 0, none⟩), .pointer (some ⟨B, 0, none⟩)] W fun e W' => (∃ v, e = .returned v) ∧ ∃ xs, xs.map (fun x : OnLine m s => x.1) = m.line s ∧ J xs W' := by
  unfold maxLen at _hl
  refine callsIn_of_wp Tryz.func256 rfl hF ?_ hro
  simp only [Tryz.ntmps256, List.size_toArray, List.length_cons, List.length_nil, Nat.reduceAdd, Nat.reduceSub, Array.replicate_succ, Array.replicate_zero, List.push_toArray, List.append_toArray, List.nil_append, List.cons_append]
  gi_wp2
  gi_loopw [] (fun wr => ∃ (pre : List (OnLine m s)) (cur : Int), Hid (pre.map (fun x : OnLine m s => x.1) ++ m.line cur = m.line s) ∧ (-1 ≤ cur ∧ cur < m.shafts.length) ∧ Blk wr B 56 #[.slice A1 m.shafts.length c1, v2] ∧ Blk wr (B + 1) 3 #[.int .i64 cur] ∧ Hid (ShsAt wr A1 m.shafts) ∧ Hid (J pre wr))
    (fun wr => (curOf B wr + 1).toNat)
  case atStart => exact ⟨[], s, rfl, hs, hB1, hB2, Lib.hid hA, Lib.hid h0⟩
  case round =>
    clear hB1 hB2 hA h0
    obtain ⟨pre, cur, hpre, hc, hB1, hB2, hA, hJs⟩ := hrel
    have u0 := hB2.c1
    have hcur : Hid (curOf B wr = cur) := by unfold Hid curOf; rw [u0]; rfl
    by_cases hneg : cur = -1
    · subst hneg
      gi_wp2
      go_end0
      have := hpre.out
      rw [Pow.line_neg m (s := -1) (by decide), List.append_nil] at this
      exact ⟨⟨_, rfl⟩, pre, this, hJs.out⟩
    · obtain ⟨c, rfl⟩ : ∃ c : Nat, cur = c := ⟨cur.toNat, by omega⟩
      have hcl : c < m.shafts.length := by omega
      have hline := Pow.line_cons m hu hcl
      have hmem : (c : Int) ∈ m.line s := by rw [← hpre.out, hline]; simp
      obtain ⟨b, o, rfl, s1, s2⟩ := hA.out c hcl
      have hup := hu c hcl
      have hlen : pre.length < (m.line s).length := by rw [← hpre.out, hline]; simp
      obtain ⟨fn, tmps, assign, body, hy, hR⟩ := hY pre ⟨c, hmem⟩ wr hJs.out hlen
      have hsh : m.shafts[c]?.getD default = m.sh c := rfl
      rw [hsh] at s1 s2
      have Hline := Lib.hid hline
      have HA := Lib.hid hA
      have hd : ((c : Int) != -1) = true := by simp
      unfold encO at hy
      clear s1 s2 hline hlen hneg hA
      gi_wp2
      refine hR.mono ?_
      rintro e W3 ⟨rfl, hJ3, hk3⟩
      have hB3 : Blk W3 B 56 #[.slice (some ⟨b, o, none⟩) m.shafts.length c1, v2] := hk3.2.1.trans hB1
      have hB4 : Blk W3 (B + 1) 3 #[.int .i64 (c : Int)] := hk3.2.2.trans hB2
      have hA3 := HA.out.out.low hA1 hk3.1
      obtain ⟨b', o', e', s1, s2⟩ := hA3 c hcl
      cases e'
      rw [hsh] at s1 s2
      clear u0
      have u0 := hB4.c1
      have f0 := hB4.frozen 0
      obtain ⟨k0, k1⟩ := hB3.c2
      generalize hux : (m.sh c).up = ux at *
      have Hux := Lib.hid hux
      clear hux s2 hB1 hB2
      gi_wp2
      go_roundw
      case rel =>
        refine ⟨pre ++ [⟨c, by rw [← hpre.out, Hline.out]; simp⟩], ux, ?_, by omega, hB3.far (by show B ≠ B + 1; omega) _, by simpa using hB4.set_ 0 (.int .i64 ux), Lib.hid (hA3.low (n1 := n1) hA1 fun k hk => Below.heap_setCell W3 ⟨B + 1, 0, none⟩ _ k (by show k ≠ B + 1; omega)), Lib.hid (hJT _ _ _ hJ3 ⟨_, rfl⟩)⟩
        unfold Hid
        rw [List.map_append, List.map_singleton, List.append_assoc, List.singleton_append]
        have h9 := hpre.out
        rw [Hline.out] at h9
        exact h9
      case measure =>
        have : curOf B (W3.setCell ⟨B + 1, 0, none⟩ (.int .i64 ux)) = ux := by
          have := (show Blk (W3.setCell ⟨B + 1, 0, none⟩ (.int .i64 ux)) (B + 1) 3 #[.int .i64 ux] by simpa using hB4.set_ 0 (.int .i64 ux)).c1
          unfold curOf; rw [this]; rfl
        rw [this, hcur.out]
        omega

theorem line_seq (F : Fence) (n0 : Nat) (hF : F.fn 256) (hro : F.round = none) (hn : 1 ≤ n0) (B n1 : Nat) (m : PM) (hu : Pow.UpOk m) (hB : n1 ≤ B) (A1 : Option Addr) (c1 : Nat) (v2 : Value) (hl : m.shafts.length ≤ maxLen) (s : Int) (hs : -1 ≤ s ∧ s < m.shafts.length)
    (w : World) (hB1 : Blk w B 56 #[.slice A1 m.shafts.length c1, v2]) (hB2 : Blk w (B + 1) 3 #[.int .i64 s]) (hA : ShsAt w A1 m.shafts) (hA1 : ∀ k, k < m.shafts.length → ∀ ad, A1 = some ad → ad.block < n1) :
    SeqT F n0 Tryz.prog 256 #[.pointer (some ⟨B + 1, 0, none⟩), .pointer (some ⟨B, 0, none⟩)] (encO m s) (KeepsLine n1 B) (TurnsLine B) (fun xs => xs.map (fun x : OnLine m s => x.1) = m.line s) (m.line s).length w :=
  fun l J W hW _ hJT hY h0 => line1_in F n0 hF hro hn l B n1 m hu hB A1 c1 v2 hl s hs J hJT hY W (Blk.ext hB1 hW) (Blk.ext hB2 hW) (hA.ext hW) hA1 h0

/-- a range over a line -/
theorem wp_line {g : Operand} {ps : Array Tmp} {assign body : Code} {Q : Exit → Act → World → Prop} {a : Act} {w : World} {B n1 : Nat} {m : PM} (hu : Pow.UpOk m) (hB : n1 ≤ B) {A1 : Option Addr} {c1 : Nat} {v2 : Value} (hl : m.shafts.length ≤ maxLen) {s : Int} (hs : -1 ≤ s ∧ s < m.shafts.length)
    (hB1 : Blk w B 56 #[.slice A1 m.shafts.length c1, v2]) (hB2 : Blk w (B + 1) 3 #[.int .i64 s]) (hA : ShsAt w A1 m.shafts) (hA1 : ∀ k, k < m.shafts.length → ∀ ad, A1 = some ad → ad.block < n1)
    (hg : a.eval g = .func (.func 256) #[] #[.pointer (some ⟨B + 1, 0, none⟩), .pointer (some ⟨B, 0, none⟩)]) (hps : ps.size = 1)
    (I : List (OnLine m s) → World → Prop) (hI : ∀ p W W', I p W → Loops w.heap.size W W' → I p W') (hIT : ∀ p W W', I p W → TurnsLine B W W' → I p W') (h0 : I [] w) (a₁ : OnLine m s → Act)
    (hassign : ∀ (l : Nat) (x : OnLine m s) (W : World) (K : Act → World → Prop), K (a₁ x) W →
      assign.wpIn (Fence.wide.inRound l) 3 Tryz.prog (Exit.then K (fun _ _ _ => False)) { tmps := (ps.zip (encO m s x)).foldl (fun t (p, v) => t.setIfInBounds p v) a.tmps, defers := [] } W)
    (hbody : ∀ (l : Nat) (pre : List (OnLine m s)) (x : OnLine m s) (W : World), I pre W → pre.length < (m.line s).length → body.wpIn (Fence.wide.inRound l) 3 Tryz.prog (ownPostG w.heap.size (KeepsLine n1 B) I (fun _ _ _ => False) (pre ++ [x]) W) (a₁ x) W)
    (hdone : ∀ (D : Nat) (xs : List (OnLine m s)) (W : World), w.heap.size ≤ D → xs.map (fun x : OnLine m s => x.1) = m.line s → I xs W → W.heap[D]? = some (.deferred (some [])) → Q .normal { a with defers := { target := .collected D, args := #[] } :: a.defers } W) :
    (Code.rangeFunc g ps assign body).wp Tryz.prog Q a w := by
  have hBlt := hB2.lt
  exact (wpIn_wide (n := 5)).1 (wpIn_rangeT (n := 5) (by rfl) (by omega) hg trivial (enters_of Tryz.func256 (by kernel_rfl) rfl)
    (line_seq Fence.wide 4 trivial (by rfl) (by omega) B n1 m hu hB A1 c1 v2 hl s hs w hB1 hB2 hA hA1) (Below.refl _ _) KeepsLine.t (KeepsLine.b (by omega) hBlt) (TurnsLine.w hBlt) (fun x => by rw [hps]; rfl) I
    (ownFrom_keep hI) hIT h0 a₁ hassign hbody (fun D xs W hD hxs hi hK => hdone D xs W hD hxs hi hK))
end Go.Proofs.Pet

namespace Go.Proofs.Pet
open Go
theorem wp_loop_ghost_u {P : Program} {Q : Exit → Act → World → Prop} {a : Act} {w : World} {c : Code} (I : (Nat → Value) → Nat → Act → World → Prop) (n₀ : Nat) (h₀ : I (fun k => a.tmps.getD k undef) n₀ a w)
    (round : ∀ u n a w, I u n a w → ∀ (J : Nat → Act → World → Prop) (K : Act → World → Prop), (∀ k a' w', I (fun j => a'.tmps.getD j undef) k a' w' → J k a' w') → (∀ a' w', Handed J n a' w' → K a' w') → c.wp P (Exit.then K Q) a w) : (Code.loop c).wp P Q a w :=
  wp_loop_ghost_k (fun n a w => ∃ u, I u n a w) n₀ ⟨_, h₀⟩ fun n a w ⟨u, h⟩ J K hJ hK => round u n a w h J K (fun k a' w' h' => hJ k a' w' ⟨_, h'⟩) hK
end Go.Proofs.Pet
