/-
  Contracts of functions, each proved once.
-/
import Derived.Test.YtfglamdbnclcaaaGreatChecked
import Derived.Test.YtfglamdbnclcaaaGreatP01
namespace Go.Proofs.Pet
open Go Go.RowKit

set_option maxHeartbeats 400000 in
theorem indexFuncI (g : Nat) (fs lb : Array Value) (eg : Enters Tryz.prog g) (p : Int → Bool) (A : Option Addr) (c : Nat) (xs : List Int) (w : World) (hb : xs.length ≤ maxLen)
    (hx : IntsAt w A xs) (hp : ∀ x ∈ xs, Tells Tryz.prog w g fs lb IntVal x (p x)) :
    Calls Tryz.prog 153 #[.slice A xs.length c, .func (.func g) fs lb] w fun e w' => (∃ i : Int, (0 ≤ i ↔ xs.any p = true) ∧ e = .returned (.int .i64 i)) ∧ Ext w w' := by
  unfold maxLen at hb
  go_enter Tryz.func153, Tryz.ntmps153
  go_wp2
  go_loopw [5, 8] (fun _ i wr => ∃ k : Nat, k ≤ xs.length ∧ i = .int .i64 k ∧ Hid (∀ j, j < k → p (xs[j]?.getD 0) = false) ∧ Ext w wr) (fun _ i _ => xs.length - (intOf i).toNat)
  case atStart => exact ⟨0, by omega, rfl, fun j hj => absurd hj (by omega), Ext.refl _⟩
  case round =>
    obtain ⟨k, hk, rfl, hm, he⟩ := hrel
    by_cases hlt : k < xs.length
    · obtain ⟨b, o, rfl, h1⟩ := hx.ext he k hlt
      have hmem0 : (xs[k]?.getD 0) ∈ xs := by simp [hlt]
      have hmem := Lib.hid hmem0
      generalize hgx : xs[k]?.getD 0 = x at *
      have Hgx := Lib.hid hgx; clear hgx
      have hc := hp x hmem0 wr _ he rfl
      clear hmem0
      obtain ⟨q, hq⟩ : ∃ q, p x = q := ⟨_, rfl⟩
      rw [hq] at hc
      have Hc := Lib.hid hc; clear hc
      have Hq := Lib.hid hq; clear hq
      have eg' := eg
      unfold Enters at eg'
      cases q with
      | true =>
        go_wp2_with fail
        refine Hc.out.mono ?_
        rintro e w' ⟨rfl, he'⟩
        go_wp2
        go_ret
        have ha : xs.any p = true := List.any_eq_true.2 ⟨x, hmem.out, Hq.out⟩
        exact ⟨⟨_, ⟨fun _ => ha, fun _ => by omega⟩, rfl⟩, he.trans he'⟩
      | false =>
        go_wp2_with fail
        refine Hc.out.mono ?_
        rintro e w' ⟨rfl, he'⟩
        go_wp2
        go_roundw
        case rel =>
          refine ⟨k + 1, by omega, by go_num, fun j hj => ?_, he.trans he'⟩
          by_cases ej : j = k
          · subst ej; rw [Hgx.out]; exact Hq.out
          · exact hm.out j (by omega)
        case measure => simp [intOf]; omega
    · go_wp2
      go_ret
      have hn : xs.any p = false := by
        rw [List.any_eq_false]
        intro y hy hpy
        obtain ⟨j, hj, rfl⟩ := List.mem_iff_getElem.1 hy
        have := hm.out j (by omega)
        simp [hj, hpy] at this
      exact ⟨⟨-1, ⟨fun h => absurd h (by omega), fun h => by rw [hn] at h; cases h⟩, rfl⟩, he⟩

theorem containsFuncI (g : Nat) (fs lb : Array Value) (eg : Enters Tryz.prog g) (p : Int → Bool) (A : Option Addr) (c : Nat) (xs : List Int) (w : World) (hb : xs.length ≤ maxLen)
    (hx : IntsAt w A xs) (hp : ∀ x ∈ xs, Tells Tryz.prog w g fs lb IntVal x (p x)) :
    Calls Tryz.prog 124 #[.slice A xs.length c, .func (.func g) fs lb] w fun e w' => e = .returned (.bool (xs.any p)) ∧ Ext w w' := by
  have h := indexFuncI g fs lb eg p A c xs w hb hx hp
  clear hx hp
  obtain ⟨q, hq⟩ : ∃ q, xs.any p = q := ⟨_, rfl⟩
  rw [hq] at h ⊢
  have H := Lib.hid h; clear h hq
  go_enter Tryz.func124, Tryz.ntmps124
  go_wp2_with fail
  refine H.out.mono ?_
  rintro e w' ⟨⟨i, hi, rfl⟩, he⟩
  cases q with
  | true =>
    have h0 : 0 ≤ i := hi.2 rfl
    clear hi
    go_wp2
    go_ret
    exact ⟨rfl, he⟩
  | false =>
    have h0 : decide (0 ≤ i) = false := by
      rw [decide_eq_false_iff_not]
      exact fun h => absurd (hi.1 h) (by simp)
    clear hi
    go_wp2
    go_ret
    exact ⟨rfl, he⟩

theorem everyI1 (g : Nat) (fs lb : Array Value) (eg : Enters Tryz.prog g) (B : Nat) (x : Int) (q : Bool) (w : World) (hp : Tells Tryz.prog w g fs lb IntVal x q) (hB : w.cell? ⟨B, 0, none⟩ = some (.func (.func g) fs lb)) :
    Tells Tryz.prog w 125 #[] #[.pointer (some ⟨B, 0, none⟩)] IntVal x (!q) := by
  intro W v hW hv
  have hB' := hW.cell hB
  obtain rfl : v = .int .i64 x := hv
  have hW' : Ext W W := Ext.refl W
  have Hp := Lib.hid hp
  clear hp hB
  have eg' := eg
  unfold Enters at eg'
  have hB2 := hW'.cell hB'
  show Calls Tryz.prog 125 #[_, .pointer (some ⟨B, 0, none⟩)] W _
  go_enter Tryz.func125, Tryz.ntmps125
  cases q with
  | true =>
    go_wp2_with fail
    refine (Hp.out _ _ (hW.trans hW') rfl).mono ?_
    rintro e w' ⟨rfl, he⟩
    go_wp2
    go_ret
    exact ⟨rfl, hW'.trans he⟩
  | false =>
    go_wp2_with fail
    refine (Hp.out _ _ (hW.trans hW') rfl).mono ?_
    rintro e w' ⟨rfl, he⟩
    go_wp2
    go_ret
    exact ⟨rfl, hW'.trans he⟩

theorem everyI (g : Nat) (fs lb : Array Value) (eg : Enters Tryz.prog g) (p : Int → Bool) (A : Option Addr) (c : Nat) (xs : List Int) (w : World) (hb : xs.length ≤ maxLen)
    (hx : IntsAt w A xs) (hp : ∀ x ∈ xs, Tells Tryz.prog w g fs lb IntVal x (p x)) :
    Calls Tryz.prog 70 #[.slice A xs.length c, .func (.func g) fs lb] w fun e w' => e = .returned (.bool (xs.all p)) ∧ Ext w w' := by
  have hmf : ∀ (fn : Fn) (first cap : Array Value) (w : World), (Instr.makeFunc fn first cap).run Tryz.prog w = .ok (.func fn first cap) w := fun _ _ _ _ => rfl
  have hq0 : xs.all p = !(xs.any fun x => !p x) := by rw [List.not_any_eq_all_not]; simp
  obtain ⟨q, hq⟩ : ∃ q, xs.any (fun x => !p x) = q := ⟨_, rfl⟩
  rw [hq0, hq]
  have hE : Ext w (w.alloc (.cells #[.func (.func g) fs lb] 126)) := Ext.alloc _ _
  have h := containsFuncI 125 #[] #[.pointer (some ⟨w.heap.size, 0, none⟩)] (enters_of Tryz.func125 (by kernel_rfl) rfl) (fun x => !p x) A c xs _ hb (hx.ext hE) (fun x hxm => everyI1 g fs lb eg w.heap.size x (p x) _ ((hp x hxm).ext hE) (cell_new_l w _ _).1)
  rw [hq] at h
  have H := Lib.hid h; clear h hx hp hq hq0
  go_enter Tryz.func70, Tryz.ntmps70
  go_wp2_with fail
  refine H.out.mono ?_
  rintro e w' ⟨rfl, he⟩
  cases q with
  | true =>
    go_wp2
    go_ret
    exact ⟨rfl, hE.trans he⟩
  | false =>
    go_wp2
    go_ret
    exact ⟨rfl, hE.trans he⟩


set_option maxHeartbeats 400000 in
theorem indexFuncO (g : Nat) (fs lb : Array Value) (eg : Enters Tryz.prog g) (p : Ord → Bool) (A : Option Addr) (c : Nat) (xs : List Ord) (w : World) (hb : xs.length ≤ maxLen)
    (hx : OrdsAt w A xs) (hp : ∀ x ∈ xs, Tells Tryz.prog w g fs lb OrdVal x (p x)) :
    Calls Tryz.prog 154 #[.slice A xs.length c, .func (.func g) fs lb] w fun e w' => (∃ i : Int, (0 ≤ i ↔ xs.any p = true) ∧ e = .returned (.int .i64 i)) ∧ Ext w w' := by
  unfold maxLen at hb
  go_enter Tryz.func154, Tryz.ntmps154
  go_wp2
  go_loopw [5, 8] (fun _ i wr => ∃ k : Nat, k ≤ xs.length ∧ i = .int .i64 k ∧ Hid (∀ j, j < k → p (xs[j]?.getD default) = false) ∧ Ext w wr) (fun _ i _ => xs.length - (intOf i).toNat)
  case atStart => exact ⟨0, by omega, rfl, fun j hj => absurd hj (by omega), Ext.refl _⟩
  case round =>
    obtain ⟨k, hk, rfl, hm, he⟩ := hrel
    by_cases hlt : k < xs.length
    · obtain ⟨b, o, rfl, A, ca, hca, h1, h2, h3, h4, h5⟩ := hx.ext he k hlt
      have hmem0 : (xs[k]?.getD default) ∈ xs := by simp [hlt]
      have hmem := Lib.hid hmem0
      generalize hgx : xs[k]?.getD default = x at *
      have Hgx := Lib.hid hgx; clear hgx
      have hc := hp x hmem0 wr _ he ⟨A, ca, hca, rfl, h5⟩
      clear hmem0
      obtain ⟨q, hq⟩ : ∃ q, p x = q := ⟨_, rfl⟩
      rw [hq] at hc
      have Hc := Lib.hid hc; clear hc
      have Hq := Lib.hid hq; clear hq
      have eg' := eg
      unfold Enters at eg'
      cases q with
      | true =>
        go_wp2_with fail
        refine Hc.out.mono ?_
        rintro e w' ⟨rfl, he'⟩
        go_wp2
        go_ret
        have ha : xs.any p = true := List.any_eq_true.2 ⟨x, hmem.out, Hq.out⟩
        exact ⟨⟨_, ⟨fun _ => ha, fun _ => by omega⟩, rfl⟩, he.trans he'⟩
      | false =>
        go_wp2_with fail
        refine Hc.out.mono ?_
        rintro e w' ⟨rfl, he'⟩
        go_wp2
        go_roundw
        case rel =>
          refine ⟨k + 1, by omega, by go_num, fun j hj => ?_, he.trans he'⟩
          by_cases ej : j = k
          · subst ej; rw [Hgx.out]; exact Hq.out
          · exact hm.out j (by omega)
        case measure => simp [intOf]; omega
    · go_wp2
      go_ret
      have hn : xs.any p = false := by
        rw [List.any_eq_false]
        intro y hy hpy
        obtain ⟨j, hj, rfl⟩ := List.mem_iff_getElem.1 hy
        have := hm.out j (by omega)
        simp [hj, hpy] at this
      exact ⟨⟨-1, ⟨fun h => absurd h (by omega), fun h => by rw [hn] at h; cases h⟩, rfl⟩, he⟩

theorem containsFuncO (g : Nat) (fs lb : Array Value) (eg : Enters Tryz.prog g) (p : Ord → Bool) (A : Option Addr) (c : Nat) (xs : List Ord) (w : World) (hb : xs.length ≤ maxLen)
    (hx : OrdsAt w A xs) (hp : ∀ x ∈ xs, Tells Tryz.prog w g fs lb OrdVal x (p x)) :
    Calls Tryz.prog 126 #[.slice A xs.length c, .func (.func g) fs lb] w fun e w' => e = .returned (.bool (xs.any p)) ∧ Ext w w' := by
  have h := indexFuncO g fs lb eg p A c xs w hb hx hp
  clear hx hp
  obtain ⟨q, hq⟩ : ∃ q, xs.any p = q := ⟨_, rfl⟩
  rw [hq] at h ⊢
  have H := Lib.hid h; clear h hq
  go_enter Tryz.func126, Tryz.ntmps126
  go_wp2_with fail
  refine H.out.mono ?_
  rintro e w' ⟨⟨i, hi, rfl⟩, he⟩
  cases q with
  | true =>
    have h0 : 0 ≤ i := hi.2 rfl
    clear hi
    go_wp2
    go_ret
    exact ⟨rfl, he⟩
  | false =>
    have h0 : decide (0 ≤ i) = false := by
      rw [decide_eq_false_iff_not]
      exact fun h => absurd (hi.1 h) (by simp)
    clear hi
    go_wp2
    go_ret
    exact ⟨rfl, he⟩

theorem everyO1 (g : Nat) (fs lb : Array Value) (eg : Enters Tryz.prog g) (B : Nat) (x : Ord) (q : Bool) (w : World) (hp : Tells Tryz.prog w g fs lb OrdVal x q) (hB : w.cell? ⟨B, 0, none⟩ = some (.func (.func g) fs lb)) :
    Tells Tryz.prog w 127 #[] #[.pointer (some ⟨B, 0, none⟩)] OrdVal x (!q) := by
  intro W v hW hv
  have hB' := hW.cell hB
  obtain ⟨A, ca, hca, rfl, h5⟩ := hv
  have hW' := Ext.alloc W (.cells #[.int .i64 x.pattern, .int .i64 x.days, .int .i64 x.by_, .slice A x.on.length ca] 28)
  have Hp := Lib.hid hp
  clear hp hB
  have eg' := eg
  unfold Enters at eg'
  have hB2 := hW'.cell hB'
  show Calls Tryz.prog 127 #[_, .pointer (some ⟨B, 0, none⟩)] W _
  go_enter Tryz.func127, Tryz.ntmps127
  cases q with
  | true =>
    go_wp2_with fail
    refine (Hp.out _ _ (hW.trans hW') ⟨A, ca, hca, rfl, h5.ext hW'⟩).mono ?_
    rintro e w' ⟨rfl, he⟩
    go_wp2
    go_ret
    exact ⟨rfl, hW'.trans he⟩
  | false =>
    go_wp2_with fail
    refine (Hp.out _ _ (hW.trans hW') ⟨A, ca, hca, rfl, h5.ext hW'⟩).mono ?_
    rintro e w' ⟨rfl, he⟩
    go_wp2
    go_ret
    exact ⟨rfl, hW'.trans he⟩

theorem everyO (g : Nat) (fs lb : Array Value) (eg : Enters Tryz.prog g) (p : Ord → Bool) (A : Option Addr) (c : Nat) (xs : List Ord) (w : World) (hb : xs.length ≤ maxLen)
    (hx : OrdsAt w A xs) (hp : ∀ x ∈ xs, Tells Tryz.prog w g fs lb OrdVal x (p x)) :
    Calls Tryz.prog 72 #[.slice A xs.length c, .func (.func g) fs lb] w fun e w' => e = .returned (.bool (xs.all p)) ∧ Ext w w' := by
  have hmf : ∀ (fn : Fn) (first cap : Array Value) (w : World), (Instr.makeFunc fn first cap).run Tryz.prog w = .ok (.func fn first cap) w := fun _ _ _ _ => rfl
  have hq0 : xs.all p = !(xs.any fun x => !p x) := by rw [List.not_any_eq_all_not]; simp
  obtain ⟨q, hq⟩ : ∃ q, xs.any (fun x => !p x) = q := ⟨_, rfl⟩
  rw [hq0, hq]
  have hE : Ext w (w.alloc (.cells #[.func (.func g) fs lb] 130)) := Ext.alloc _ _
  have h := containsFuncO 127 #[] #[.pointer (some ⟨w.heap.size, 0, none⟩)] (enters_of Tryz.func127 (by kernel_rfl) rfl) (fun x => !p x) A c xs _ hb (hx.ext hE) (fun x hxm => everyO1 g fs lb eg w.heap.size x (p x) _ ((hp x hxm).ext hE) (cell_new_l w _ _).1)
  rw [hq] at h
  have H := Lib.hid h; clear h hx hp hq hq0
  go_enter Tryz.func72, Tryz.ntmps72
  go_wp2_with fail
  refine H.out.mono ?_
  rintro e w' ⟨rfl, he⟩
  cases q with
  | true =>
    go_wp2
    go_ret
    exact ⟨rfl, hE.trans he⟩
  | false =>
    go_wp2
    go_ret
    exact ⟨rfl, hE.trans he⟩

end Go.Proofs.Pet

namespace Go.Proofs.Pet
open Go Go.RowKit

theorem in_any (n lo hi : Int) (q : Bool) (hq : inB n lo hi = q) (w : World) :
    Calls Tryz.prog 69 #[.int .i64 n, .int .i64 lo, .int .i64 hi] w fun e w' => e = .returned (.bool q) ∧ w = w' := by
  subst hq
  unfold inB
  by_cases h1 : lo ≤ n
  · by_cases h2 : n ≤ hi
    · go_enter Tryz.func69, Tryz.ntmps69
      go_wp2
      go_ret
      exact ⟨by simp [h1, h2], rfl⟩
    · have hd : decide (n ≤ hi) = false := by simp; omega
      go_enter Tryz.func69, Tryz.ntmps69
      go_wp2
      go_ret
      exact ⟨by simp, rfl⟩
  · have hd : decide (lo ≤ n) = false := by simp; omega
    go_enter Tryz.func69, Tryz.ntmps69
    go_wp2
    go_ret
    exact ⟨by simp, rfl⟩

theorem loom_any (v : Value) (m : Mill) (n : Int) (q : Bool) (hq : inB n 0 (m.laced.length - 1) = q) (w : World) (hv : MillVal w v m) :
    Calls Tryz.prog 68 #[v, .int .i64 n] w fun e w' => e = .returned (.bool q) ∧ Ext w w' := by
  obtain ⟨A1, c1, A2, c2, rfl, h2, h3, h4, h5, h6, h7⟩ := hv
  unfold maxLen at h3
  have hE := Ext.alloc w (.cells #[.slice A1 m.laced.length c1, .int .i64 m.change, .slice A2 m.orders.length c2] 25)
  have Hc := Lib.hid (in_any n 0 (m.laced.length - 1) q hq)
  clear hq
  go_enter Tryz.func68, Tryz.ntmps68
  go_wp2_with fail
  refine (Hc.out _).mono ?_
  rintro e w' ⟨rfl, rfl⟩
  go_wp2
  go_ret
  exact ⟨rfl, hE⟩

theorem order_any (v : Value) (m : Mill) (n : Int) (q : Bool) (hq : inB n 0 (m.orders.length - 1) = q) (w : World) (hv : MillVal w v m) :
    Calls Tryz.prog 151 #[v, .int .i64 n] w fun e w' => e = .returned (.bool q) ∧ Ext w w' := by
  obtain ⟨A1, c1, A2, c2, rfl, h2, h3, h4, h5, h6, h7⟩ := hv
  unfold maxLen at h5
  have hE := Ext.alloc w (.cells #[.slice A1 m.laced.length c1, .int .i64 m.change, .slice A2 m.orders.length c2] 25)
  have Hc := Lib.hid (in_any n 0 (m.orders.length - 1) q hq)
  clear hq
  go_enter Tryz.func151, Tryz.ntmps151
  go_wp2_with fail
  refine (Hc.out _).mono ?_
  rintro e w' ⟨rfl, rfl⟩
  go_wp2
  go_ret
  exact ⟨rfl, hE⟩

theorem changed_any (a b : Int) (w : World) :
    Calls Tryz.prog 147 #[.int .i64 a, .int .i64 b] w fun e w' => e = .returned (.int .i64 (if a = b then 0 else 1)) ∧ w = w' := by
  by_cases h : a = b
  · subst h
    go_enter Tryz.func147, Tryz.ntmps147
    go_wp2
    go_ret
    exact ⟨by simp, rfl⟩
  · have hd : (a == b) = false := by simpa using h
    rw [if_neg h]
    clear h
    go_enter Tryz.func147, Tryz.ntmps147
    go_wp2
    go_ret
    exact ⟨rfl, rfl⟩

set_option maxHeartbeats 400000 in
theorem index_any (x : Int) (A : Option Addr) (c n : Nat) (xs : List Int) (hn : xs.length = n) (w : World) (hb : xs.length ≤ maxLen) (hx : IntsAt w A xs) :
    Calls Tryz.prog 143 #[.slice A n c, .int .i64 x] w fun e w' => (∃ i : Int, (0 ≤ i ↔ x ∈ xs) ∧ e = .returned (.int .i64 i)) ∧ w = w' := by
  subst hn
  unfold maxLen at hb
  go_enter Tryz.func143, Tryz.ntmps143
  go_wp2
  go_loop [5, 8] (fun _ i => ∃ k : Nat, k ≤ xs.length ∧ i = .int .i64 k ∧ Hid (∀ j, j < k → xs[j]?.getD 0 ≠ x)) (fun _ i => xs.length - (intOf i).toNat)
  case atStart => exact ⟨0, by omega, rfl, fun j hj => absurd hj (by omega)⟩
  case round =>
    obtain ⟨k, hk, rfl, hm⟩ := hrel
    by_cases hlt : k < xs.length
    · obtain ⟨b, o, rfl, h1⟩ := hx k hlt
      have hmem0 : (xs[k]?.getD 0) ∈ xs := by simp [hlt]
      have hmem := Lib.hid hmem0; clear hmem0
      generalize hgx : xs[k]?.getD 0 = y at *
      have Hgx := Lib.hid hgx; clear hgx
      by_cases he : x = y
      · subst he
        go_wp2
        go_ret
        exact ⟨⟨_, ⟨fun _ => hmem.out, fun _ => by omega⟩, rfl⟩, rfl⟩
      · have hd : (x == y) = false := by simpa using he
        have He := Lib.hid he; clear he
        go_wp2
        go_round
        case rel =>
          refine ⟨k + 1, by omega, by go_num, fun j hj => ?_⟩
          by_cases ej : j = k
          · subst ej; rw [Hgx.out]; exact fun h => He.out h.symm
          · exact hm.out j (by omega)
        case measure => simp [intOf]; omega
    · go_wp2
      go_ret
      refine ⟨⟨-1, ⟨fun h => absurd h (by omega), fun h => ?_⟩, rfl⟩, rfl⟩
      obtain ⟨j, hj, rfl⟩ := List.mem_iff_getElem.1 h
      have := hm.out j (by omega)
      simp [hj] at this

theorem contains_any (x : Int) (A : Option Addr) (c n : Nat) (xs : List Int) (hn : xs.length = n) (q : Bool) (hq : xs.contains x = q) (w : World) (hb : xs.length ≤ maxLen) (hx : IntsAt w A xs) :
    Calls Tryz.prog 94 #[.slice A n c, .int .i64 x] w fun e w' => e = .returned (.bool q) ∧ w = w' := by
  subst hn
  have H := Lib.hid (index_any x A c _ xs rfl w hb hx)
  have Hq : Hid (q = decide (x ∈ xs)) := by unfold Hid; rw [← hq]; simp
  clear hq hx
  go_enter Tryz.func94, Tryz.ntmps94
  go_wp2_with fail
  refine H.out.mono ?_
  rintro e w' ⟨⟨i, hi, rfl⟩, rfl⟩
  by_cases h0 : 0 ≤ i
  · have Hi := Lib.hid hi; clear hi
    go_wp2
    go_ret
    exact ⟨by rw [Hq.out, decide_eq_true (Hi.out.1 h0)]; rfl, rfl⟩
  · have hd : decide (0 ≤ i) = false := by simpa using h0
    have Hi := Lib.hid hi; clear hi
    have H0 := Lib.hid h0; clear h0
    go_wp2
    go_ret
    exact ⟨by rw [Hq.out, decide_eq_false (fun h => absurd (Hi.out.2 h) (by have := H0.out; omega))]; rfl, rfl⟩

set_option maxHeartbeats 400000 in
theorem rising_any (A : Option Addr) (c : Nat) (xs : List Int) (q : Bool) (hq : risingB xs = q) (w : World) (hl : xs.length ≤ maxLen) (hx : IntsAt w A xs) :
    Calls Tryz.prog 77 #[.slice A xs.length c] w fun e w' => e = .returned (.bool q) ∧ Ext w w' := by
  unfold maxLen at hl
  have Hq : Hid (q = true ↔ risingTo xs xs.length) := by unfold Hid; rw [← hq]; exact risingB_iff xs
  clear hq
  go_enter Tryz.func77, Tryz.ntmps77
  go_wp2
  go_loopw [3] (fun i wr => ∃ k : Nat, 1 ≤ k ∧ (k ≤ xs.length ∨ k = 1) ∧ i = .int .i64 k ∧ Hid (risingTo xs k) ∧ Ext w wr) (fun i _ => xs.length + 1 - (intOf i).toNat)
  case atStart => exact ⟨1, by omega, by omega, rfl, by intro i h1 h2; omega, Ext.refl _⟩
  case round =>
    obtain ⟨k, hk1, hk2, rfl, hr, he⟩ := hrel
    by_cases hlt : k < xs.length
    · obtain ⟨b, o, rfl, c1⟩ := hx.ext he k hlt
      obtain ⟨b', o', e', c2⟩ := hx.ext he (k-1) (by omega)
      simp only [Option.some.injEq, Addr.mk.injEq, and_true] at e'
      obtain ⟨rfl, rfl⟩ := e'
      have e1 : ((k : Int) - 1).toNat = k - 1 := by omega
      have b1 : (0:Int) ≤ (k : Int) - 1 := by omega
      have b2 : (k : Int) - 1 < xs.length := by omega
      have hk2' := Lib.hid hk2; clear hk2
      generalize hga : xs[k]?.getD 0 = x at *
      generalize hgb : xs[k-1]?.getD 0 = y at *
      have Hga := Lib.hid hga; clear hga
      have Hgb := Lib.hid hgb; clear hgb
      by_cases hle : x ≤ y
      · go_wp2_with fail
        go_quiet (fail)
        go_wp2
        go_ret
        refine ⟨?_, he.trans (Ext.drewN _ _)⟩
        have : ¬ risingTo xs xs.length := fun h => by
          have := h k hk1 hlt
          rw [Hga.out, Hgb.out] at this
          omega
        cases q with
        | true => exact absurd (Hq.out.1 rfl) this
        | false => rfl
      · have hd : decide (x ≤ y) = false := by simpa using hle
        have Hle := Lib.hid hle; clear hle
        go_wp2_with fail
        go_quiet (fail)
        go_wp2
        go_roundw
        case rel =>
          refine ⟨k + 1, by omega, by omega, by go_num, fun i h1 h2 => ?_, he.trans (Ext.drewN _ _)⟩
          by_cases ei : i = k
          · subst ei; rw [Hga.out, Hgb.out]; have := Hle.out; omega
          · exact hr.out i h1 (by omega)
        case measure => simp [intOf]; omega
    · go_wp2
      go_ret
      refine ⟨?_, he⟩
      have : risingTo xs xs.length := by
        rcases hk2 with h | h
        · have : k = xs.length := by omega
          rw [← this]; exact hr.out
        · intro i h1 h2; omega
      rw [Hq.out.2 this]; rfl
end Go.Proofs.Pet

namespace Go.Proofs.Pet
open Go Go.RowKit

theorem check1 (w : World) (x : Int) : Tells Tryz.prog w 71 #[] #[] IntVal x (inB x (-1) 9) := by
  intro W v hW hv
  obtain rfl : v = .int .i64 x := hv
  have Hc := Lib.hid (in_any x (-1) 9 _ rfl)
  generalize inB x (-1) 9 = q at Hc ⊢
  show Calls Tryz.prog 71 #[_] W _
  go_enter Tryz.func71, Tryz.ntmps71
  go_wp2_with fail
  refine (Hc.out _).mono ?_
  rintro e w' ⟨rfl, rfl⟩
  go_wp2
  go_ret
  exact ⟨rfl, Ext.refl _⟩

theorem check2 (w : World) (x : Ord) : Tells Tryz.prog w 73 #[] #[] OrdVal x (inB x.pattern 0 9 && inB x.days 1 20 && inB x.by_ 1 99) := by
  intro W v hW hv
  obtain ⟨A, c, h1, rfl, h3⟩ := hv
  have H1 := Lib.hid (in_any x.pattern 0 9 _ rfl)
  have H2 := Lib.hid (in_any x.days 1 20 _ rfl)
  have H3 := Lib.hid (in_any x.by_ 1 99 _ rfl)
  have hE := Ext.alloc W (.cells #[.int .i64 x.pattern, .int .i64 x.days, .int .i64 x.by_, .slice A x.on.length c] 28)
  generalize inB x.pattern 0 9 = q1 at H1 ⊢
  generalize inB x.days 1 20 = q2 at H2 ⊢
  generalize inB x.by_ 1 99 = q3 at H3 ⊢
  show Calls Tryz.prog 73 #[_] W _
  go_enter Tryz.func73, Tryz.ntmps73
  go_wp2_with fail
  refine (H1.out _).mono ?_
  rintro e w' ⟨rfl, rfl⟩
  cases q1 with
  | false =>
    go_wp2
    go_ret
    exact ⟨rfl, hE⟩
  | true =>
    go_wp2_with fail
    refine (H2.out _).mono ?_
    rintro e w' ⟨rfl, rfl⟩
    cases q2 with
    | false =>
      go_wp2
      go_ret
      exact ⟨rfl, hE⟩
    | true =>
      go_wp2_with fail
      refine (H3.out _).mono ?_
      rintro e w' ⟨rfl, rfl⟩
      go_wp2
      go_ret
      exact ⟨rfl, hE⟩

theorem check3 (w : World) (x : Ord) : Tells Tryz.prog w 74 #[] #[] OrdVal x (decide (0 < x.on.length)) := by
  intro W v hW hv
  obtain ⟨A, c, h1, rfl, h3⟩ := hv
  have hE := Ext.alloc W (.cells #[.int .i64 x.pattern, .int .i64 x.days, .int .i64 x.by_, .slice A x.on.length c] 28)
  show Calls Tryz.prog 74 #[_] W _
  go_enter Tryz.func74, Tryz.ntmps74
  go_wp2
  go_ret
  exact ⟨by simp, hE⟩

theorem check5 (w : World) (x : Ord) : Tells Tryz.prog w 76 #[] #[] OrdVal x (risingB x.on) := by
  intro W v hW hv
  obtain ⟨A, c, h1, rfl, h3⟩ := hv
  have hE := Ext.alloc W (.cells #[.int .i64 x.pattern, .int .i64 x.days, .int .i64 x.by_, .slice A x.on.length c] 28)
  have H := Lib.hid (rising_any A c x.on _ rfl _ (Nat.le_trans h1.1 h1.2) (h3.ext hE))
  generalize risingB x.on = q at H ⊢
  show Calls Tryz.prog 76 #[_] W _
  go_enter Tryz.func76, Tryz.ntmps76
  go_wp2_with fail
  refine H.out.mono ?_
  rintro e w' ⟨rfl, he⟩
  go_wp2
  go_ret
  exact ⟨rfl, hE.trans he⟩

theorem check4 (w : World) (B : Nat) (mv : Value) (m : Mill) (hB : w.cell? ⟨B, 0, none⟩ = some (.func (.func 68) #[mv] #[])) (hm : MillVal w mv m) (x : Ord) :
    Tells Tryz.prog w 75 #[] #[.pointer (some ⟨B, 0, none⟩)] OrdVal x (x.on.all fun n => inB n 0 (m.laced.length - 1)) := by
  intro W v hW hv
  obtain ⟨A, c, h1, rfl, h3⟩ := hv
  have hB' := hW.cell hB
  have hE := Ext.alloc W (.cells #[.int .i64 x.pattern, .int .i64 x.days, .int .i64 x.by_, .slice A x.on.length c] 28)
  have hB2 := hE.cell hB'
  have h := everyI 68 #[mv] #[] (enters_of Tryz.func68 (by kernel_rfl) rfl) (fun n => inB n 0 (m.laced.length - 1)) A c x.on _ (Nat.le_trans h1.1 h1.2) (h3.ext hE)
    (fun y _ => fun W' v' hW' hv' => by
      obtain rfl : v' = .int .i64 y := hv'
      exact loom_any mv m y _ rfl W' (hm.ext (hW.trans (hE.trans hW'))))
  have H := Lib.hid h; clear h
  generalize (x.on.all fun n => inB n 0 (m.laced.length - 1)) = q at H ⊢
  clear hB
  show Calls Tryz.prog 75 #[_, .pointer (some ⟨B, 0, none⟩)] W _
  go_enter Tryz.func75, Tryz.ntmps75
  go_wp2_with fail
  refine H.out.mono ?_
  rintro e w' ⟨rfl, he⟩
  go_wp2
  go_ret
  exact ⟨rfl, hE.trans he⟩

set_option maxHeartbeats 1000000 in
theorem check_any (v : Value) (m : Mill) (w : World) (hv : MillVal w v m) :
    Calls Tryz.prog 16 #[v] w fun e w' => e = .returned (.int .i64 (checkE m)) ∧ Ext w w' := by
  have hmf : ∀ (fn : Fn) (first cap : Array Value) (w : World), (Instr.makeFunc fn first cap).run Tryz.prog w = .ok (.func fn first cap) w := fun _ _ _ _ => rfl
  have Hv := Lib.hid hv
  obtain ⟨A1, c1, A2, c2, rfl, h2, h3, h4, h5, h6, h7⟩ := hv
  have h3' := Lib.hid h3
  have h5' := Lib.hid h5
  unfold maxLen at h3 h5
  have g1 : m.laced.length ≤ maxLen := by unfold maxLen; omega
  have g2 : m.orders.length ≤ maxLen := by unfold maxLen; omega
  unfold checkE
  have hin := in_any m.laced.length 1 3 _ rfl
  have hch := in_any m.change 0 5 _ rfl
  -- the three worlds at which all is asked
  have hE1 := Ext.alloc w (.cells #[.slice A1 m.laced.length c1, .int .i64 m.change, .slice A2 m.orders.length c2] 25)
  have hB1 := cell_new_l (w.alloc (.cells #[.slice A1 m.laced.length c1, .int .i64 m.change, .slice A2 m.orders.length c2] 25)) (.func (.func 68) #[.agg #[.slice A1 m.laced.length c1, .int .i64 m.change, .slice A2 m.orders.length c2]] #[]) 126
  have hE2 := hE1.trans (Ext.alloc _ (.cells #[.func (.func 68) #[.agg #[.slice A1 m.laced.length c1, .int .i64 m.change, .slice A2 m.orders.length c2]] #[]] 126))
  simp only [World.size_alloc] at hB1
  have hM := Lib.hid ((Blk.new w 25 #[.slice A1 m.laced.length c1, .int .i64 m.change, .slice A2 m.orders.length c2]).alloc (.cells #[.func (.func 68) #[.agg #[.slice A1 m.laced.length c1, .int .i64 m.change, .slice A2 m.orders.length c2]] #[]] 126))
  have hB1' := Lib.hid hB1.1; clear hB1
  have e1 := fun W (hW : Ext w W) => everyI 71 #[] #[] (enters_of Tryz.func71 (by kernel_rfl) rfl) _ A1 c1 m.laced W g1 (h6.ext hW) (fun x _ => check1 W x)
  have e2 := fun W (hW : Ext w W) => everyO 73 #[] #[] (enters_of Tryz.func73 (by kernel_rfl) rfl) _ A2 c2 m.orders W g2 (h7.ext hW) (fun x _ => check2 W x)
  have e3 := fun W (hW : Ext w W) => everyO 74 #[] #[] (enters_of Tryz.func74 (by kernel_rfl) rfl) _ A2 c2 m.orders W g2 (h7.ext hW) (fun x _ => check3 W x)
  have e5 := fun W (hW : Ext w W) => everyO 76 #[] #[] (enters_of Tryz.func76 (by kernel_rfl) rfl) _ A2 c2 m.orders W g2 (h7.ext hW) (fun x _ => check5 W x)
  have e4 := fun W B (hW : Ext w W) (hB : W.cell? ⟨B, 0, none⟩ = some (.func (.func 68) #[.agg #[.slice A1 m.laced.length c1, .int .i64 m.change, .slice A2 m.orders.length c2]] #[])) =>
    everyO 75 #[] #[.pointer (some ⟨B, 0, none⟩)] (enters_of Tryz.func75 (by kernel_rfl) rfl) _ A2 c2 m.orders W g2 (h7.ext hW) (fun x _ => check4 W B _ m hB (Hv.out.ext hW) x)
  generalize inB m.laced.length 1 3 = q1 at hin ⊢
  generalize inB m.change 0 5 = q2 at hch ⊢
  generalize (m.laced.all fun n => inB n (-1) 9) = q3 at e1 ⊢
  generalize (m.orders.all fun o => inB o.pattern 0 9 && inB o.days 1 20 && inB o.by_ 1 99) = q4 at e2 ⊢
  generalize (m.orders.all fun o => decide (0 < o.on.length)) = q5 at e3 ⊢
  generalize (m.orders.all fun o => o.on.all fun n => inB n 0 (m.laced.length - 1)) = q6 at e4 ⊢
  generalize (m.orders.all fun o => risingB o.on) = q7 at e5 ⊢
  have Hin := Lib.hid hin
  have Hch := Lib.hid hch
  have E1 := Lib.hid e1
  have E2 := Lib.hid e2
  have E3 := Lib.hid e3
  have E4 := Lib.hid e4
  have E5 := Lib.hid e5
  clear hin hch e1 e2 e3 e4 e5
  go_enter Tryz.func16, Tryz.ntmps16
  go_wp2_with fail
  refine (Hin.out _).mono ?_
  rintro e w' ⟨rfl, rfl⟩
  cases q1 with
  | false =>
    go_wp2
    go_ret
    exact ⟨by simp, hE2⟩
  | true =>
    by_cases hlen : 7 < m.orders.length
    · go_wp2
      go_ret
      exact ⟨by simp, hE2⟩
    · have hlen' : decide (7 < (m.orders.length : Int)) = false := by simp; omega
      go_wp2_with fail
      refine (E1.out _ hE2).mono ?_
      rintro e w3 ⟨rfl, hE3⟩
      have hE3' := hE2.trans hE3
      have hB3 := Lib.hid (hE3.cell hB1'.out)
      obtain ⟨k0, k1, k2⟩ := (hM.out.ext hE3).c3
      cases q3 with
      | false =>
        go_wp2
        go_ret
        exact ⟨by simp, hE3'⟩
      | true =>
        go_wp2_with fail
        refine (Hch.out _).mono ?_
        rintro e w' ⟨rfl, rfl⟩
        cases q2 with
        | false =>
          go_wp2
          go_ret
          exact ⟨by simp, hE3'⟩
        | true =>
          go_wp2_with fail
          refine (E2.out _ hE3').mono ?_
          rintro e w4 ⟨rfl, hE4⟩
          have hE4' := hE3'.trans hE4
          have hM4 := hM.out.ext (hE3.trans hE4)
          have hB4 := Lib.hid (hE4.cell hB3.out)
          clear k0 k1 k2
          obtain ⟨k0, k1, k2⟩ := hM4.c3
          cases q4 with
          | false =>
            go_wp2
            go_ret
            exact ⟨by simp, hE4'⟩
          | true =>
            go_wp2_with fail
            refine (E3.out _ hE4').mono ?_
            rintro e w5 ⟨rfl, hE5⟩
            have hE5' := hE4'.trans hE5
            have hM5 := hM4.ext hE5
            have hB5 := Lib.hid (hE5.cell hB4.out)
            clear k0 k1 k2
            obtain ⟨k0, k1, k2⟩ := hM5.c3
            cases q5 with
            | false =>
              go_wp2
              go_ret
              exact ⟨by simp, hE5'⟩
            | true =>
              go_wp2_with fail
              refine (E4.out _ _ hE5' hB5.out).mono ?_
              rintro e w6 ⟨rfl, hE6⟩
              have hE6' := hE5'.trans hE6
              have hM6 := hM5.ext hE6
              clear k0 k1 k2
              obtain ⟨k0, k1, k2⟩ := hM6.c3
              cases q6 with
              | false =>
                go_wp2
                go_ret
                exact ⟨by simp, hE6'⟩
              | true =>
                go_wp2_with fail
                refine (E5.out _ hE6').mono ?_
                rintro e w7 ⟨rfl, hE7⟩
                have hE7' := hE6'.trans hE7
                cases q7 with
                | false =>
                  go_wp2
                  go_ret
                  exact ⟨by simp, hE7'⟩
                | true =>
                  go_wp2
                  all_goals
                    go_ret
                    exact ⟨by first | rfl | simp, hE7'⟩
end Go.Proofs.Pet
