/- Joined texts: P02, P03, P04, P05. -/
import Derived.Test.YtlekonngbmkdbaaChecked
import Derived.Test.YtlekonngbmkdbaaP01
namespace Go.Proofs.Pet
open Go Go.RowKit

set_option maxHeartbeats 400000 in
theorem indexFuncI (g : Nat) (fs lb : Array Value) (eg : Enters Try.prog g) (p : Int → Bool) (A : Option Addr) (c : Nat) (xs : List Int) (w : World) (hb : xs.length ≤ maxLen)
    (hx : IntsAt w A xs) (hp : ∀ x ∈ xs, Tells Try.prog w g fs lb IntVal x (p x)) :
    Calls Try.prog 153 #[.slice A xs.length c, .func (.func g) fs lb] w fun e w' => (∃ i : Int, (0 ≤ i ↔ xs.any p = true) ∧ e = .returned (.int .i64 i)) ∧ Ext w w' := by
  unfold maxLen at hb
  go_enter Try.func153, Try.ntmps153
  go_wp2
  go_loopw [5, 8] (fun _ i wr => ∃ k : Nat, k ≤ xs.length ∧ i = .int .i64 k ∧ Hid (∀ j, j < k → p (xs[j]?.getD 0) = false) ∧ Ext w wr) (fun _ i _ => xs.length - (intOf i).toNat)
  case atStart => exact ⟨0, by omega, rfl, fun j hj => absurd hj (by omega), Ext.refl _⟩
  case round =>
    obtain ⟨k, hk, rfl, hm, he⟩ := hrel
    by_cases hlt : k < xs.length
    · obtain ⟨b, o, rfl, h1⟩ := hx.ext he k hlt
      have hmem0 : (xs[k]?.getD 0) ∈ xs := by simp [hlt]
      have hmem := Lib.hid hmem0
      generalize hgx : xs[k]?.getD 0 = x at *
      have Hgx := Lib.hid hgx; clear hgx
      have hc := hp x hmem0 wr _ he rfl
      clear hmem0
      obtain ⟨q, hq⟩ : ∃ q, p x = q := ⟨_, rfl⟩
      rw [hq] at hc
      have Hc := Lib.hid hc; clear hc
      have Hq := Lib.hid hq; clear hq
      have eg' := eg
      unfold Enters at eg'
      cases q with
      | true =>
        go_wp2_with fail
        refine Hc.out.mono ?_
        rintro e w' ⟨rfl, he'⟩
        go_wp2
        go_ret
        have ha : xs.any p = true := List.any_eq_true.2 ⟨x, hmem.out, Hq.out⟩
        exact ⟨⟨_, ⟨fun _ => ha, fun _ => by omega⟩, rfl⟩, he.trans he'⟩
      | false =>
        go_wp2_with fail
        refine Hc.out.mono ?_
        rintro e w' ⟨rfl, he'⟩
        go_wp2
        go_roundw
        case rel =>
          refine ⟨k + 1, by omega, by go_num, fun j hj => ?_, he.trans he'⟩
          by_cases ej : j = k
          · subst ej; rw [Hgx.out]; exact Hq.out
          · exact hm.out j (by omega)
        case measure => simp [intOf]; omega
    · go_wp2
      go_ret
      have hn : xs.any p = false := by
        rw [List.any_eq_false]
        intro y hy hpy
        obtain ⟨j, hj, rfl⟩ := List.mem_iff_getElem.1 hy
        have := hm.out j (by omega)
        simp [hj, hpy] at this
      exact ⟨⟨-1, ⟨fun h => absurd h (by omega), fun h => by rw [hn] at h; cases h⟩, rfl⟩, he⟩

theorem containsFuncI (g : Nat) (fs lb : Array Value) (eg : Enters Try.prog g) (p : Int → Bool) (A : Option Addr) (c : Nat) (xs : List Int) (w : World) (hb : xs.length ≤ maxLen)
    (hx : IntsAt w A xs) (hp : ∀ x ∈ xs, Tells Try.prog w g fs lb IntVal x (p x)) :
    Calls Try.prog 111 #[.slice A xs.length c, .func (.func g) fs lb] w fun e w' => e = .returned (.bool (xs.any p)) ∧ Ext w w' := by
  have h := indexFuncI g fs lb eg p A c xs w hb hx hp
  clear hx hp
  obtain ⟨q, hq⟩ : ∃ q, xs.any p = q := ⟨_, rfl⟩
  rw [hq] at h ⊢
  have H := Lib.hid h; clear h hq
  go_enter Try.func111, Try.ntmps111
  go_wp2_with fail
  refine H.out.mono ?_
  rintro e w' ⟨⟨i, hi, rfl⟩, he⟩
  cases q with
  | true =>
    have h0 : 0 ≤ i := hi.2 rfl
    clear hi
    go_wp2
    go_ret
    exact ⟨rfl, he⟩
  | false =>
    have h0 : decide (0 ≤ i) = false := by
      rw [decide_eq_false_iff_not]
      exact fun h => absurd (hi.1 h) (by simp)
    clear hi
    go_wp2
    go_ret
    exact ⟨rfl, he⟩

theorem everyI1 (g : Nat) (fs lb : Array Value) (eg : Enters Try.prog g) (B : Nat) (x : Int) (q : Bool) (w : World) (hp : Tells Try.prog w g fs lb IntVal x q) (hB : w.cell? ⟨B, 0, none⟩ = some (.func (.func g) fs lb)) :
    Tells Try.prog w 152 #[] #[.pointer (some ⟨B, 0, none⟩)] IntVal x (!q) := by
  intro W v hW hv
  have hB' := hW.cell hB
  obtain rfl : v = .int .i64 x := hv
  have hW' : Ext W W := Ext.refl W
  have Hp := Lib.hid hp
  clear hp hB
  have eg' := eg
  unfold Enters at eg'
  have hB2 := hW'.cell hB'
  show Calls Try.prog 152 #[_, .pointer (some ⟨B, 0, none⟩)] W _
  go_enter Try.func152, Try.ntmps152
  cases q with
  | true =>
    go_wp2_with fail
    refine (Hp.out _ _ (hW.trans hW') rfl).mono ?_
    rintro e w' ⟨rfl, he⟩
    go_wp2
    go_ret
    exact ⟨rfl, hW'.trans he⟩
  | false =>
    go_wp2_with fail
    refine (Hp.out _ _ (hW.trans hW') rfl).mono ?_
    rintro e w' ⟨rfl, he⟩
    go_wp2
    go_ret
    exact ⟨rfl, hW'.trans he⟩

theorem everyI (g : Nat) (fs lb : Array Value) (eg : Enters Try.prog g) (p : Int → Bool) (A : Option Addr) (c : Nat) (xs : List Int) (w : World) (hb : xs.length ≤ maxLen)
    (hx : IntsAt w A xs) (hp : ∀ x ∈ xs, Tells Try.prog w g fs lb IntVal x (p x)) :
    Calls Try.prog 107 #[.slice A xs.length c, .func (.func g) fs lb] w fun e w' => e = .returned (.bool (xs.all p)) ∧ Ext w w' := by
  have hmf : ∀ (fn : Fn) (first cap : Array Value) (w : World), (Instr.makeFunc fn first cap).run Try.prog w = .ok (.func fn first cap) w := fun _ _ _ _ => rfl
  have hq0 : xs.all p = !(xs.any fun x => !p x) := by rw [List.not_any_eq_all_not]; simp
  obtain ⟨q, hq⟩ : ∃ q, xs.any (fun x => !p x) = q := ⟨_, rfl⟩
  rw [hq0, hq]
  have hE : Ext w (w.alloc (.cells #[.func (.func g) fs lb] 87)) := Ext.alloc _ _
  have h := containsFuncI 152 #[] #[.pointer (some ⟨w.heap.size, 0, none⟩)] (enters_of Try.func152 (by kernel_rfl) rfl) (fun x => !p x) A c xs _ hb (hx.ext hE) (fun x hxm => everyI1 g fs lb eg w.heap.size x (p x) _ ((hp x hxm).ext hE) (cell_new_l w _ _).1)
  rw [hq] at h
  have H := Lib.hid h; clear h hx hp hq hq0
  go_enter Try.func107, Try.ntmps107
  go_wp2_with fail
  refine H.out.mono ?_
  rintro e w' ⟨rfl, he⟩
  cases q with
  | true =>
    go_wp2
    go_ret
    exact ⟨rfl, hE.trans he⟩
  | false =>
    go_wp2
    go_ret
    exact ⟨rfl, hE.trans he⟩


set_option maxHeartbeats 400000 in
theorem indexFuncO (g : Nat) (fs lb : Array Value) (eg : Enters Try.prog g) (p : Ord → Bool) (A : Option Addr) (c : Nat) (xs : List Ord) (w : World) (hb : xs.length ≤ maxLen)
    (hx : OrdsAt w A xs) (hp : ∀ x ∈ xs, Tells Try.prog w g fs lb OrdVal x (p x)) :
    Calls Try.prog 167 #[.slice A xs.length c, .func (.func g) fs lb] w fun e w' => (∃ i : Int, (0 ≤ i ↔ xs.any p = true) ∧ e = .returned (.int .i64 i)) ∧ Ext w w' := by
  unfold maxLen at hb
  go_enter Try.func167, Try.ntmps167
  go_wp2
  go_loopw [5, 8] (fun _ i wr => ∃ k : Nat, k ≤ xs.length ∧ i = .int .i64 k ∧ Hid (∀ j, j < k → p (xs[j]?.getD default) = false) ∧ Ext w wr) (fun _ i _ => xs.length - (intOf i).toNat)
  case atStart => exact ⟨0, by omega, rfl, fun j hj => absurd hj (by omega), Ext.refl _⟩
  case round =>
    obtain ⟨k, hk, rfl, hm, he⟩ := hrel
    by_cases hlt : k < xs.length
    · obtain ⟨b, o, rfl, A, ca, hca, h1, h2, h3, h4, h5⟩ := hx.ext he k hlt
      have hmem0 : (xs[k]?.getD default) ∈ xs := by simp [hlt]
      have hmem := Lib.hid hmem0
      generalize hgx : xs[k]?.getD default = x at *
      have Hgx := Lib.hid hgx; clear hgx
      have hc := hp x hmem0 wr _ he ⟨A, ca, hca, rfl, h5⟩
      clear hmem0
      obtain ⟨q, hq⟩ : ∃ q, p x = q := ⟨_, rfl⟩
      rw [hq] at hc
      have Hc := Lib.hid hc; clear hc
      have Hq := Lib.hid hq; clear hq
      have eg' := eg
      unfold Enters at eg'
      cases q with
      | true =>
        go_wp2_with fail
        refine Hc.out.mono ?_
        rintro e w' ⟨rfl, he'⟩
        go_wp2
        go_ret
        have ha : xs.any p = true := List.any_eq_true.2 ⟨x, hmem.out, Hq.out⟩
        exact ⟨⟨_, ⟨fun _ => ha, fun _ => by omega⟩, rfl⟩, he.trans he'⟩
      | false =>
        go_wp2_with fail
        refine Hc.out.mono ?_
        rintro e w' ⟨rfl, he'⟩
        go_wp2
        go_roundw
        case rel =>
          refine ⟨k + 1, by omega, by go_num, fun j hj => ?_, he.trans he'⟩
          by_cases ej : j = k
          · subst ej; rw [Hgx.out]; exact Hq.out
          · exact hm.out j (by omega)
        case measure => simp [intOf]; omega
    · go_wp2
      go_ret
      have hn : xs.any p = false := by
        rw [List.any_eq_false]
        intro y hy hpy
        obtain ⟨j, hj, rfl⟩ := List.mem_iff_getElem.1 hy
        have := hm.out j (by omega)
        simp [hj, hpy] at this
      exact ⟨⟨-1, ⟨fun h => absurd h (by omega), fun h => by rw [hn] at h; cases h⟩, rfl⟩, he⟩

theorem containsFuncO (g : Nat) (fs lb : Array Value) (eg : Enters Try.prog g) (p : Ord → Bool) (A : Option Addr) (c : Nat) (xs : List Ord) (w : World) (hb : xs.length ≤ maxLen)
    (hx : OrdsAt w A xs) (hp : ∀ x ∈ xs, Tells Try.prog w g fs lb OrdVal x (p x)) :
    Calls Try.prog 162 #[.slice A xs.length c, .func (.func g) fs lb] w fun e w' => e = .returned (.bool (xs.any p)) ∧ Ext w w' := by
  have h := indexFuncO g fs lb eg p A c xs w hb hx hp
  clear hx hp
  obtain ⟨q, hq⟩ : ∃ q, xs.any p = q := ⟨_, rfl⟩
  rw [hq] at h ⊢
  have H := Lib.hid h; clear h hq
  go_enter Try.func162, Try.ntmps162
  go_wp2_with fail
  refine H.out.mono ?_
  rintro e w' ⟨⟨i, hi, rfl⟩, he⟩
  cases q with
  | true =>
    have h0 : 0 ≤ i := hi.2 rfl
    clear hi
    go_wp2
    go_ret
    exact ⟨rfl, he⟩
  | false =>
    have h0 : decide (0 ≤ i) = false := by
      rw [decide_eq_false_iff_not]
      exact fun h => absurd (hi.1 h) (by simp)
    clear hi
    go_wp2
    go_ret
    exact ⟨rfl, he⟩

theorem everyO1 (g : Nat) (fs lb : Array Value) (eg : Enters Try.prog g) (B : Nat) (x : Ord) (q : Bool) (w : World) (hp : Tells Try.prog w g fs lb OrdVal x q) (hB : w.cell? ⟨B, 0, none⟩ = some (.func (.func g) fs lb)) :
    Tells Try.prog w 163 #[] #[.pointer (some ⟨B, 0, none⟩)] OrdVal x (!q) := by
  intro W v hW hv
  have hB' := hW.cell hB
  obtain ⟨A, ca, hca, rfl, h5⟩ := hv
  have hW' := Ext.alloc W (.cells #[.int .i64 x.pattern, .int .i64 x.days, .int .i64 x.by_, .slice A x.on.length ca] 107)
  have Hp := Lib.hid hp
  clear hp hB
  have eg' := eg
  unfold Enters at eg'
  have hB2 := hW'.cell hB'
  show Calls Try.prog 163 #[_, .pointer (some ⟨B, 0, none⟩)] W _
  go_enter Try.func163, Try.ntmps163
  cases q with
  | true =>
    go_wp2_with fail
    refine (Hp.out _ _ (hW.trans hW') ⟨A, ca, hca, rfl, h5.ext hW'⟩).mono ?_
    rintro e w' ⟨rfl, he⟩
    go_wp2
    go_ret
    exact ⟨rfl, hW'.trans he⟩
  | false =>
    go_wp2_with fail
    refine (Hp.out _ _ (hW.trans hW') ⟨A, ca, hca, rfl, h5.ext hW'⟩).mono ?_
    rintro e w' ⟨rfl, he⟩
    go_wp2
    go_ret
    exact ⟨rfl, hW'.trans he⟩

theorem everyO (g : Nat) (fs lb : Array Value) (eg : Enters Try.prog g) (p : Ord → Bool) (A : Option Addr) (c : Nat) (xs : List Ord) (w : World) (hb : xs.length ≤ maxLen)
    (hx : OrdsAt w A xs) (hp : ∀ x ∈ xs, Tells Try.prog w g fs lb OrdVal x (p x)) :
    Calls Try.prog 141 #[.slice A xs.length c, .func (.func g) fs lb] w fun e w' => e = .returned (.bool (xs.all p)) ∧ Ext w w' := by
  have hmf : ∀ (fn : Fn) (first cap : Array Value) (w : World), (Instr.makeFunc fn first cap).run Try.prog w = .ok (.func fn first cap) w := fun _ _ _ _ => rfl
  have hq0 : xs.all p = !(xs.any fun x => !p x) := by rw [List.not_any_eq_all_not]; simp
  obtain ⟨q, hq⟩ : ∃ q, xs.any (fun x => !p x) = q := ⟨_, rfl⟩
  rw [hq0, hq]
  have hE : Ext w (w.alloc (.cells #[.func (.func g) fs lb] 212)) := Ext.alloc _ _
  have h := containsFuncO 163 #[] #[.pointer (some ⟨w.heap.size, 0, none⟩)] (enters_of Try.func163 (by kernel_rfl) rfl) (fun x => !p x) A c xs _ hb (hx.ext hE) (fun x hxm => everyO1 g fs lb eg w.heap.size x (p x) _ ((hp x hxm).ext hE) (cell_new_l w _ _).1)
  rw [hq] at h
  have H := Lib.hid h; clear h hx hp hq hq0
  go_enter Try.func141, Try.ntmps141
  go_wp2_with fail
  refine H.out.mono ?_
  rintro e w' ⟨rfl, he⟩
  cases q with
  | true =>
    go_wp2
    go_ret
    exact ⟨rfl, hE.trans he⟩
  | false =>
    go_wp2
    go_ret
    exact ⟨rfl, hE.trans he⟩

end Go.Proofs.Pet

namespace Go.Proofs.Pet
open Go Go.RowKit

theorem in_any (n lo hi : Int) (q : Bool) (hq : inB n lo hi = q) (w : World) :
    Calls Try.prog 139 #[.int .i64 n, .int .i64 lo, .int .i64 hi] w fun e w' => e = .returned (.bool q) ∧ w = w' := by
  subst hq
  unfold inB
  by_cases h1 : lo ≤ n
  · by_cases h2 : n ≤ hi
    · go_enter Try.func139, Try.ntmps139
      go_wp2
      go_ret
      exact ⟨by simp [h1, h2], rfl⟩
    · have hd : decide (n ≤ hi) = false := by simp; omega
      go_enter Try.func139, Try.ntmps139
      go_wp2
      go_ret
      exact ⟨by simp, rfl⟩
  · have hd : decide (lo ≤ n) = false := by simp; omega
    go_enter Try.func139, Try.ntmps139
    go_wp2
    go_ret
    exact ⟨by simp, rfl⟩

theorem loom_any (v : Value) (m : Mill) (n : Int) (q : Bool) (hq : inB n 0 (m.laced.length - 1) = q) (w : World) (hv : MillVal w v m) :
    Calls Try.prog 138 #[v, .int .i64 n] w fun e w' => e = .returned (.bool q) ∧ Ext w w' := by
  obtain ⟨A1, c1, A2, c2, rfl, h2, h3, h4, h5, h6, h7⟩ := hv
  unfold maxLen at h3
  have hE := Ext.alloc w (.cells #[.slice A1 m.laced.length c1, .int .i64 m.change, .slice A2 m.orders.length c2] 64)
  have Hc := Lib.hid (in_any n 0 (m.laced.length - 1) q hq)
  clear hq
  go_enter Try.func138, Try.ntmps138
  go_wp2_with fail
  refine (Hc.out _).mono ?_
  rintro e w' ⟨rfl, rfl⟩
  go_wp2
  go_ret
  exact ⟨rfl, hE⟩

theorem order_any (v : Value) (m : Mill) (n : Int) (q : Bool) (hq : inB n 0 (m.orders.length - 1) = q) (w : World) (hv : MillVal w v m) :
    Calls Try.prog 149 #[v, .int .i64 n] w fun e w' => e = .returned (.bool q) ∧ Ext w w' := by
  obtain ⟨A1, c1, A2, c2, rfl, h2, h3, h4, h5, h6, h7⟩ := hv
  unfold maxLen at h5
  have hE := Ext.alloc w (.cells #[.slice A1 m.laced.length c1, .int .i64 m.change, .slice A2 m.orders.length c2] 64)
  have Hc := Lib.hid (in_any n 0 (m.orders.length - 1) q hq)
  clear hq
  go_enter Try.func149, Try.ntmps149
  go_wp2_with fail
  refine (Hc.out _).mono ?_
  rintro e w' ⟨rfl, rfl⟩
  go_wp2
  go_ret
  exact ⟨rfl, hE⟩

theorem changed_any (a b : Int) (w : World) :
    Calls Try.prog 110 #[.int .i64 a, .int .i64 b] w fun e w' => e = .returned (.int .i64 (if a = b then 0 else 1)) ∧ w = w' := by
  by_cases h : a = b
  · subst h
    go_enter Try.func110, Try.ntmps110
    go_wp2
    go_ret
    exact ⟨by simp, rfl⟩
  · have hd : (a == b) = false := by simpa using h
    rw [if_neg h]
    clear h
    go_enter Try.func110, Try.ntmps110
    go_wp2
    go_ret
    exact ⟨rfl, rfl⟩

set_option maxHeartbeats 400000 in
theorem index_any (x : Int) (A : Option Addr) (c n : Nat) (xs : List Int) (hn : xs.length = n) (w : World) (hb : xs.length ≤ maxLen) (hx : IntsAt w A xs) :
    Calls Try.prog 42 #[.slice A n c, .int .i64 x] w fun e w' => (∃ i : Int, (0 ≤ i ↔ x ∈ xs) ∧ e = .returned (.int .i64 i)) ∧ w = w' := by
  subst hn
  unfold maxLen at hb
  go_enter Try.func42, Try.ntmps42
  go_wp2
  go_loop [5, 8] (fun _ i => ∃ k : Nat, k ≤ xs.length ∧ i = .int .i64 k ∧ Hid (∀ j, j < k → xs[j]?.getD 0 ≠ x)) (fun _ i => xs.length - (intOf i).toNat)
  case atStart => exact ⟨0, by omega, rfl, fun j hj => absurd hj (by omega)⟩
  case round =>
    obtain ⟨k, hk, rfl, hm⟩ := hrel
    by_cases hlt : k < xs.length
    · obtain ⟨b, o, rfl, h1⟩ := hx k hlt
      have hmem0 : (xs[k]?.getD 0) ∈ xs := by simp [hlt]
      have hmem := Lib.hid hmem0; clear hmem0
      generalize hgx : xs[k]?.getD 0 = y at *
      have Hgx := Lib.hid hgx; clear hgx
      by_cases he : x = y
      · subst he
        go_wp2
        go_ret
        exact ⟨⟨_, ⟨fun _ => hmem.out, fun _ => by omega⟩, rfl⟩, rfl⟩
      · have hd : (x == y) = false := by simpa using he
        have He := Lib.hid he; clear he
        go_wp2
        go_round
        case rel =>
          refine ⟨k + 1, by omega, by go_num, fun j hj => ?_⟩
          by_cases ej : j = k
          · subst ej; rw [Hgx.out]; exact fun h => He.out h.symm
          · exact hm.out j (by omega)
        case measure => simp [intOf]; omega
    · go_wp2
      go_ret
      refine ⟨⟨-1, ⟨fun h => absurd h (by omega), fun h => ?_⟩, rfl⟩, rfl⟩
      obtain ⟨j, hj, rfl⟩ := List.mem_iff_getElem.1 h
      have := hm.out j (by omega)
      simp [hj] at this

theorem contains_any (x : Int) (A : Option Addr) (c n : Nat) (xs : List Int) (hn : xs.length = n) (q : Bool) (hq : xs.contains x = q) (w : World) (hb : xs.length ≤ maxLen) (hx : IntsAt w A xs) :
    Calls Try.prog 41 #[.slice A n c, .int .i64 x] w fun e w' => e = .returned (.bool q) ∧ w = w' := by
  subst hn
  have H := Lib.hid (index_any x A c _ xs rfl w hb hx)
  have Hq : Hid (q = decide (x ∈ xs)) := by unfold Hid; rw [← hq]; simp
  clear hq hx
  go_enter Try.func41, Try.ntmps41
  go_wp2_with fail
  refine H.out.mono ?_
  rintro e w' ⟨⟨i, hi, rfl⟩, rfl⟩
  by_cases h0 : 0 ≤ i
  · have Hi := Lib.hid hi; clear hi
    go_wp2
    go_ret
    exact ⟨by rw [Hq.out, decide_eq_true (Hi.out.1 h0)]; rfl, rfl⟩
  · have hd : decide (0 ≤ i) = false := by simpa using h0
    have Hi := Lib.hid hi; clear hi
    have H0 := Lib.hid h0; clear h0
    go_wp2
    go_ret
    exact ⟨by rw [Hq.out, decide_eq_false (fun h => absurd (Hi.out.2 h) (by have := H0.out; omega))]; rfl, rfl⟩

set_option maxHeartbeats 400000 in
theorem rising_any (A : Option Addr) (c : Nat) (xs : List Int) (q : Bool) (hq : risingB xs = q) (w : World) (hl : xs.length ≤ maxLen) (hx : IntsAt w A xs) :
    Calls Try.prog 146 #[.slice A xs.length c] w fun e w' => e = .returned (.bool q) ∧ Ext w w' := by
  unfold maxLen at hl
  have Hq : Hid (q = true ↔ risingTo xs xs.length) := by unfold Hid; rw [← hq]; exact risingB_iff xs
  clear hq
  go_enter Try.func146, Try.ntmps146
  go_wp2
  go_loopw [3] (fun i wr => ∃ k : Nat, 1 ≤ k ∧ (k ≤ xs.length ∨ k = 1) ∧ i = .int .i64 k ∧ Hid (risingTo xs k) ∧ Ext w wr) (fun i _ => xs.length + 1 - (intOf i).toNat)
  case atStart => exact ⟨1, by omega, by omega, rfl, by intro i h1 h2; omega, Ext.refl _⟩
  case round =>
    obtain ⟨k, hk1, hk2, rfl, hr, he⟩ := hrel
    by_cases hlt : k < xs.length
    · obtain ⟨b, o, rfl, c1⟩ := hx.ext he k hlt
      obtain ⟨b', o', e', c2⟩ := hx.ext he (k-1) (by omega)
      simp only [Option.some.injEq, Addr.mk.injEq, and_true] at e'
      obtain ⟨rfl, rfl⟩ := e'
      have e1 : ((k : Int) - 1).toNat = k - 1 := by omega
      have b1 : (0:Int) ≤ (k : Int) - 1 := by omega
      have b2 : (k : Int) - 1 < xs.length := by omega
      have hk2' := Lib.hid hk2; clear hk2
      generalize hga : xs[k]?.getD 0 = x at *
      generalize hgb : xs[k-1]?.getD 0 = y at *
      have Hga := Lib.hid hga; clear hga
      have Hgb := Lib.hid hgb; clear hgb
      by_cases hle : x ≤ y
      · go_wp2_with fail
        go_quiet (fail)
        go_wp2
        go_ret
        refine ⟨?_, he.trans (Ext.drewN _ _)⟩
        have : ¬ risingTo xs xs.length := fun h => by
          have := h k hk1 hlt
          rw [Hga.out, Hgb.out] at this
          omega
        cases q with
        | true => exact absurd (Hq.out.1 rfl) this
        | false => rfl
      · have hd : decide (x ≤ y) = false := by simpa using hle
        have Hle := Lib.hid hle; clear hle
        go_wp2_with fail
        go_quiet (fail)
        go_wp2
        go_roundw
        case rel =>
          refine ⟨k + 1, by omega, by omega, by go_num, fun i h1 h2 => ?_, he.trans (Ext.drewN _ _)⟩
          by_cases ei : i = k
          · subst ei; rw [Hga.out, Hgb.out]; have := Hle.out; omega
          · exact hr.out i h1 (by omega)
        case measure => simp [intOf]; omega
    · go_wp2
      go_ret
      refine ⟨?_, he⟩
      have : risingTo xs xs.length := by
        rcases hk2 with h | h
        · have : k = xs.length := by omega
          rw [← this]; exact hr.out
        · intro i h1 h2; omega
      rw [Hq.out.2 this]; rfl
end Go.Proofs.Pet

namespace Go.Proofs.Pet
open Go Go.RowKit

theorem check1 (w : World) (x : Int) : Tells Try.prog w 140 #[] #[] IntVal x (inB x (-1) 9) := by
  intro W v hW hv
  obtain rfl : v = .int .i64 x := hv
  have Hc := Lib.hid (in_any x (-1) 9 _ rfl)
  generalize inB x (-1) 9 = q at Hc ⊢
  show Calls Try.prog 140 #[_] W _
  go_enter Try.func140, Try.ntmps140
  go_wp2_with fail
  refine (Hc.out _).mono ?_
  rintro e w' ⟨rfl, rfl⟩
  go_wp2
  go_ret
  exact ⟨rfl, Ext.refl _⟩

theorem check2 (w : World) (x : Ord) : Tells Try.prog w 142 #[] #[] OrdVal x (inB x.pattern 0 9 && inB x.days 1 20 && inB x.by_ 1 99) := by
  intro W v hW hv
  obtain ⟨A, c, h1, rfl, h3⟩ := hv
  have H1 := Lib.hid (in_any x.pattern 0 9 _ rfl)
  have H2 := Lib.hid (in_any x.days 1 20 _ rfl)
  have H3 := Lib.hid (in_any x.by_ 1 99 _ rfl)
  have hE := Ext.alloc W (.cells #[.int .i64 x.pattern, .int .i64 x.days, .int .i64 x.by_, .slice A x.on.length c] 107)
  generalize inB x.pattern 0 9 = q1 at H1 ⊢
  generalize inB x.days 1 20 = q2 at H2 ⊢
  generalize inB x.by_ 1 99 = q3 at H3 ⊢
  show Calls Try.prog 142 #[_] W _
  go_enter Try.func142, Try.ntmps142
  go_wp2_with fail
  refine (H1.out _).mono ?_
  rintro e w' ⟨rfl, rfl⟩
  cases q1 with
  | false =>
    go_wp2
    go_ret
    exact ⟨rfl, hE⟩
  | true =>
    go_wp2_with fail
    refine (H2.out _).mono ?_
    rintro e w' ⟨rfl, rfl⟩
    cases q2 with
    | false =>
      go_wp2
      go_ret
      exact ⟨rfl, hE⟩
    | true =>
      go_wp2_with fail
      refine (H3.out _).mono ?_
      rintro e w' ⟨rfl, rfl⟩
      go_wp2
      go_ret
      exact ⟨rfl, hE⟩

theorem check3 (w : World) (x : Ord) : Tells Try.prog w 143 #[] #[] OrdVal x (decide (0 < x.on.length)) := by
  intro W v hW hv
  obtain ⟨A, c, h1, rfl, h3⟩ := hv
  have hE := Ext.alloc W (.cells #[.int .i64 x.pattern, .int .i64 x.days, .int .i64 x.by_, .slice A x.on.length c] 107)
  show Calls Try.prog 143 #[_] W _
  go_enter Try.func143, Try.ntmps143
  go_wp2
  go_ret
  exact ⟨by simp, hE⟩

theorem check5 (w : World) (x : Ord) : Tells Try.prog w 145 #[] #[] OrdVal x (risingB x.on) := by
  intro W v hW hv
  obtain ⟨A, c, h1, rfl, h3⟩ := hv
  have hE := Ext.alloc W (.cells #[.int .i64 x.pattern, .int .i64 x.days, .int .i64 x.by_, .slice A x.on.length c] 107)
  have H := Lib.hid (rising_any A c x.on _ rfl _ (Nat.le_trans h1.1 h1.2) (h3.ext hE))
  generalize risingB x.on = q at H ⊢
  show Calls Try.prog 145 #[_] W _
  go_enter Try.func145, Try.ntmps145
  go_wp2_with fail
  refine H.out.mono ?_
  rintro e w' ⟨rfl, he⟩
  go_wp2
  go_ret
  exact ⟨rfl, hE.trans he⟩

theorem check4 (w : World) (B : Nat) (mv : Value) (m : Mill) (hB : w.cell? ⟨B, 0, none⟩ = some (.func (.func 138) #[mv] #[])) (hm : MillVal w mv m) (x : Ord) :
    Tells Try.prog w 144 #[] #[.pointer (some ⟨B, 0, none⟩)] OrdVal x (x.on.all fun n => inB n 0 (m.laced.length - 1)) := by
  intro W v hW hv
  obtain ⟨A, c, h1, rfl, h3⟩ := hv
  have hB' := hW.cell hB
  have hE := Ext.alloc W (.cells #[.int .i64 x.pattern, .int .i64 x.days, .int .i64 x.by_, .slice A x.on.length c] 107)
  have hB2 := hE.cell hB'
  have h := everyI 138 #[mv] #[] (enters_of Try.func138 (by kernel_rfl) rfl) (fun n => inB n 0 (m.laced.length - 1)) A c x.on _ (Nat.le_trans h1.1 h1.2) (h3.ext hE)
    (fun y _ => fun W' v' hW' hv' => by
      obtain rfl : v' = .int .i64 y := hv'
      exact loom_any mv m y _ rfl W' (hm.ext (hW.trans (hE.trans hW'))))
  have H := Lib.hid h; clear h
  generalize (x.on.all fun n => inB n 0 (m.laced.length - 1)) = q at H ⊢
  clear hB
  show Calls Try.prog 144 #[_, .pointer (some ⟨B, 0, none⟩)] W _
  go_enter Try.func144, Try.ntmps144
  go_wp2_with fail
  refine H.out.mono ?_
  rintro e w' ⟨rfl, he⟩
  go_wp2
  go_ret
  exact ⟨rfl, hE.trans he⟩

set_option maxHeartbeats 1000000 in
theorem check_any (v : Value) (m : Mill) (w : World) (hv : MillVal w v m) :
    Calls Try.prog 98 #[v] w fun e w' => e = .returned (.int .i64 (checkE m)) ∧ Ext w w' := by
  have hmf : ∀ (fn : Fn) (first cap : Array Value) (w : World), (Instr.makeFunc fn first cap).run Try.prog w = .ok (.func fn first cap) w := fun _ _ _ _ => rfl
  have Hv := Lib.hid hv
  obtain ⟨A1, c1, A2, c2, rfl, h2, h3, h4, h5, h6, h7⟩ := hv
  have h3' := Lib.hid h3
  have h5' := Lib.hid h5
  unfold maxLen at h3 h5
  have g1 : m.laced.length ≤ maxLen := by unfold maxLen; omega
  have g2 : m.orders.length ≤ maxLen := by unfold maxLen; omega
  unfold checkE
  have hin := in_any m.laced.length 1 3 _ rfl
  have hch := in_any m.change 0 5 _ rfl
  -- the three worlds at which all is asked
  have hE1 := Ext.alloc w (.cells #[.slice A1 m.laced.length c1, .int .i64 m.change, .slice A2 m.orders.length c2] 64)
  have hB1 := cell_new_l (w.alloc (.cells #[.slice A1 m.laced.length c1, .int .i64 m.change, .slice A2 m.orders.length c2] 64)) (.func (.func 138) #[.agg #[.slice A1 m.laced.length c1, .int .i64 m.change, .slice A2 m.orders.length c2]] #[]) 87
  have hE2 := hE1.trans (Ext.alloc _ (.cells #[.func (.func 138) #[.agg #[.slice A1 m.laced.length c1, .int .i64 m.change, .slice A2 m.orders.length c2]] #[]] 87))
  simp only [World.size_alloc] at hB1
  have hM := Lib.hid ((Blk.new w 64 #[.slice A1 m.laced.length c1, .int .i64 m.change, .slice A2 m.orders.length c2]).alloc (.cells #[.func (.func 138) #[.agg #[.slice A1 m.laced.length c1, .int .i64 m.change, .slice A2 m.orders.length c2]] #[]] 87))
  have hB1' := Lib.hid hB1.1; clear hB1
  have e1 := fun W (hW : Ext w W) => everyI 140 #[] #[] (enters_of Try.func140 (by kernel_rfl) rfl) _ A1 c1 m.laced W g1 (h6.ext hW) (fun x _ => check1 W x)
  have e2 := fun W (hW : Ext w W) => everyO 142 #[] #[] (enters_of Try.func142 (by kernel_rfl) rfl) _ A2 c2 m.orders W g2 (h7.ext hW) (fun x _ => check2 W x)
  have e3 := fun W (hW : Ext w W) => everyO 143 #[] #[] (enters_of Try.func143 (by kernel_rfl) rfl) _ A2 c2 m.orders W g2 (h7.ext hW) (fun x _ => check3 W x)
  have e5 := fun W (hW : Ext w W) => everyO 145 #[] #[] (enters_of Try.func145 (by kernel_rfl) rfl) _ A2 c2 m.orders W g2 (h7.ext hW) (fun x _ => check5 W x)
  have e4 := fun W B (hW : Ext w W) (hB : W.cell? ⟨B, 0, none⟩ = some (.func (.func 138) #[.agg #[.slice A1 m.laced.length c1, .int .i64 m.change, .slice A2 m.orders.length c2]] #[])) =>
    everyO 144 #[] #[.pointer (some ⟨B, 0, none⟩)] (enters_of Try.func144 (by kernel_rfl) rfl) _ A2 c2 m.orders W g2 (h7.ext hW) (fun x _ => check4 W B _ m hB (Hv.out.ext hW) x)
  generalize inB m.laced.length 1 3 = q1 at hin ⊢
  generalize inB m.change 0 5 = q2 at hch ⊢
  generalize (m.laced.all fun n => inB n (-1) 9) = q3 at e1 ⊢
  generalize (m.orders.all fun o => inB o.pattern 0 9 && inB o.days 1 20 && inB o.by_ 1 99) = q4 at e2 ⊢
  generalize (m.orders.all fun o => decide (0 < o.on.length)) = q5 at e3 ⊢
  generalize (m.orders.all fun o => o.on.all fun n => inB n 0 (m.laced.length - 1)) = q6 at e4 ⊢
  generalize (m.orders.all fun o => risingB o.on) = q7 at e5 ⊢
  have Hin := Lib.hid hin
  have Hch := Lib.hid hch
  have E1 := Lib.hid e1
  have E2 := Lib.hid e2
  have E3 := Lib.hid e3
  have E4 := Lib.hid e4
  have E5 := Lib.hid e5
  clear hin hch e1 e2 e3 e4 e5
  go_enter Try.func98, Try.ntmps98
  go_wp2_with fail
  refine (Hin.out _).mono ?_
  rintro e w' ⟨rfl, rfl⟩
  cases q1 with
  | false =>
    go_wp2
    go_ret
    exact ⟨by simp, hE2⟩
  | true =>
    by_cases hlen : 7 < m.orders.length
    · go_wp2
      go_ret
      exact ⟨by simp, hE2⟩
    · have hlen' : decide (7 < (m.orders.length : Int)) = false := by simp; omega
      go_wp2_with fail
      refine (E1.out _ hE2).mono ?_
      rintro e w3 ⟨rfl, hE3⟩
      have hE3' := hE2.trans hE3
      have hB3 := Lib.hid (hE3.cell hB1'.out)
      obtain ⟨k0, k1, k2⟩ := (hM.out.ext hE3).c3
      cases q3 with
      | false =>
        go_wp2
        go_ret
        exact ⟨by simp, hE3'⟩
      | true =>
        go_wp2_with fail
        refine (Hch.out _).mono ?_
        rintro e w' ⟨rfl, rfl⟩
        cases q2 with
        | false =>
          go_wp2
          go_ret
          exact ⟨by simp, hE3'⟩
        | true =>
          go_wp2_with fail
          refine (E2.out _ hE3').mono ?_
          rintro e w4 ⟨rfl, hE4⟩
          have hE4' := hE3'.trans hE4
          have hM4 := hM.out.ext (hE3.trans hE4)
          have hB4 := Lib.hid (hE4.cell hB3.out)
          clear k0 k1 k2
          obtain ⟨k0, k1, k2⟩ := hM4.c3
          cases q4 with
          | false =>
            go_wp2
            go_ret
            exact ⟨by simp, hE4'⟩
          | true =>
            go_wp2_with fail
            refine (E3.out _ hE4').mono ?_
            rintro e w5 ⟨rfl, hE5⟩
            have hE5' := hE4'.trans hE5
            have hM5 := hM4.ext hE5
            have hB5 := Lib.hid (hE5.cell hB4.out)
            clear k0 k1 k2
            obtain ⟨k0, k1, k2⟩ := hM5.c3
            cases q5 with
            | false =>
              go_wp2
              go_ret
              exact ⟨by simp, hE5'⟩
            | true =>
              go_wp2_with fail
              refine (E4.out _ _ hE5' hB5.out).mono ?_
              rintro e w6 ⟨rfl, hE6⟩
              have hE6' := hE5'.trans hE6
              have hM6 := hM5.ext hE6
              clear k0 k1 k2
              obtain ⟨k0, k1, k2⟩ := hM6.c3
              cases q6 with
              | false =>
                go_wp2
                go_ret
                exact ⟨by simp, hE6'⟩
              | true =>
                go_wp2_with fail
                refine (E5.out _ hE6').mono ?_
                rintro e w7 ⟨rfl, hE7⟩
                have hE7' := hE6'.trans hE7
                cases q7 with
                | false =>
                  go_wp2
                  go_ret
                  exact ⟨by simp, hE7'⟩
                | true =>
                  go_wp2
                  all_goals
                    go_ret
                    exact ⟨by first | rfl | simp, hE7'⟩
end Go.Proofs.Pet

namespace Go.Proofs.Pet
open Go Go.RowKit

theorem info_int : (Try.prog.info? 3).map (fun i => (i.zero, i.size, i.bytes)) = some (some (.int .i64 0), 1, 8) := by kernel_rfl

set_option maxHeartbeats 400000 in
theorem cloneI (A : Option Addr) (c : Nat) (xs : List Int) (w : World) (hb : xs.length * 8 ≤ 140737488355328) (hx : IntsAt w A xs) :
    Calls Try.prog 44 #[.slice A xs.length c] w fun e w' => ∃ v, e = .returned v ∧ OwnI w' w.heap.size 3 v xs ∧ Ext w w' := by
  obtain ⟨i, hi, hz0, hz1, hz2⟩ := info_parts info_int
  have hnil : ∀ W : World, (binOp .eql 28 (.slice A xs.length c) (.slice none 0 0)).run Try.prog W = .ok (.bool A.isNone) W := fun W => Lib.run_eql_slice_nil W 28 _ A _ _ 0 0 Try.underlying28
  cases A with
  | none =>
    have hx0 : xs = [] := by
      cases xs with
      | nil => rfl
      | cons x l => obtain ⟨b, o, e, _⟩ := hx 0 (by simp); cases e
    subst hx0
    have hnil' : ∀ W : World, (binOp .eql 28 (.slice none 0 c) (.slice none 0 0)).run Try.prog W = .ok (.bool true) W := fun W => hnil W
    clear hnil hx hb
    go_enter Try.func44, Try.ntmps44
    go_wp2
    go_ret
    exact ⟨_, rfl, OwnI.nil _ _ _, Ext.refl _⟩
  | some ad =>
    have hnil' : ∀ W : World, (binOp .eql 28 (.slice (some ad) xs.length c) (.slice none 0 0)).run Try.prog W = .ok (.bool false) W := fun W => hnil W
    clear hnil
    have hE := Ext.alloc w (.cells #[] 3)
    have hsrc := Lib.hid (hx.ext hE).src
    have hown := Lib.hid (World.ownsRow_made (w := w) (e := 3) (size := 1) #[] 0 (Nat.le_refl _) (by unfold maxLen; omega) (by simp))
    clear hx
    go_enter Try.func44, Try.ntmps44
    go_wp2_with (at_builtin; go_must (refine wpList_app rfl _ _ 28 rfl w.heap.size 3 i (.int .i64 0) 1 8 Try.underlying28 hi hz0 hz1 hz2 rfl (by decide) _ _ _ rfl hown.out (some ad) xs.length c (xs.map (Value.int .i64)) rfl ?c1 hsrc.out ?c2 ?c3 ?c4 ?c5 ?_); (case c1 => simp); (case c2 => (intro u hu; obtain ⟨y, _, rfl⟩ := List.mem_map.1 hu; rfl)); (case c3 => (unfold maxLen; omega)); (case c4 => omega); (case c5 => simp); intro v' w' hown' hg hblk)
    go_ret
    refine ⟨_, rfl, ?_, ext_alloc_grown hg (fun k hk => Nat.le_of_eq (Option.some.inj hk))⟩
    simp only [Nat.zero_add, List.nil_append] at hown'
    exact hown'

def greatB (m : Mill) : Bool := (m.orders.any fun o => decide (8 < o.on.length)) || decide (8 < m.laced.length) || decide (12 < m.orders.length)

end Go.Proofs.Pet

namespace Go.Proofs.Pet
open Go Go.RowKit

theorem info_order : (Try.prog.info? 107).map (fun i => (i.zero, i.size, i.bytes)) = some (some (.agg #[.int .i64 0, .int .i64 0, .int .i64 0, .slice none 0 0]), 4, 48) := by kernel_rfl

/-- what the operations of 'out := loom.Mill{Laced: Dup(m.Laced), ..}' leave -/
def ownR (w0 : World) (s t : Nat) (m : Mill) (A1 A2 : Option Addr) (c1 c2 : Nat) : Nat → Value → World → Prop
  | 0 => fun v _ => v = .pointer (some ⟨s, 0, none⟩)
  | 1 => fun v _ => v = .slice A1 m.laced.length c1
  | 2 => fun v W => OwnI W t 3 v m.laced
  | 3 => fun v _ => v = .pointer (some ⟨s, 1, none⟩)
  | 4 => fun v _ => v = .int .i64 m.change
  | 5 => fun v _ => v = .pointer (some ⟨s, 2, none⟩)
  | 6 => fun v _ => v = .slice A2 m.orders.length c2
  | 7 => fun v W => ∃ cs, W.ownsRow t 107 4 v m.orders.length cs ∧ OrdList w0 cs m.orders
  | 8 => fun v W => ∃ a b, v = .agg #[a, .int .i64 m.change, b] ∧ OwnI W t 3 a m.laced ∧ ∃ cs, W.ownsRow t 107 4 b m.orders.length cs ∧ OrdList w0 cs m.orders
  | 9 => fun v W => ∃ g, v = .pointer (some ⟨g, 0, none⟩) ∧ t ≤ g ∧ Blk W g 64 #[.slice none 0 0, .int .i64 0, .slice none 0 0]
  | _ => fun _ _ => True
/-- what the operations of 'out.Orders[i].On = Dup(o.On)' leave -/
def ownR2 (g o t k : Nat) (r a : Value) (on : List Int) : Nat → Value → World → Prop
  | 0 => fun v _ => v = .pointer (some ⟨g, 2, none⟩)
  | 1 => fun v _ => v = r
  | 2 => fun v _ => v = .int .i64 k
  | 3 => fun v _ => v = .pointer (some ⟨o, 3, none⟩)
  | 4 => fun v _ => v = a
  | 5 => fun v W => ∃ A c, v = .slice A on.length c ∧ on.length ≤ c ∧ c ≤ maxLen ∧ IntsAt W A on ∧ ∀ ad, A = some ad → t ≤ ad.block
  | _ => fun _ _ => True
/-- a mill as a value, none of whose arrays lies in a block of S -/
def OrdCellsS (S : Nat → Prop) (w : World) (b o : Nat) (x : Ord) : Prop :=
  ∃ A c, (x.on.length ≤ c ∧ c ≤ maxLen) ∧ w.cell? ⟨b, o, none⟩ = some (.int .i64 x.pattern) ∧ w.cell? ⟨b, o + 1, none⟩ = some (.int .i64 x.days) ∧
    w.cell? ⟨b, o + 2, none⟩ = some (.int .i64 x.by_) ∧ w.cell? ⟨b, o + 3, none⟩ = some (.slice A x.on.length c) ∧ IntsAt w A x.on ∧ (x.on ≠ [] → ∀ ad, A = some ad → ¬ S ad.block)
def MillValS (S : Nat → Prop) (w : World) (v : Value) (m : Mill) : Prop :=
  ∃ A1 c1 A2 c2, v = .agg #[.slice A1 m.laced.length c1, .int .i64 m.change, .slice A2 m.orders.length c2] ∧ m.laced.length ≤ c1 ∧ c1 ≤ maxLen ∧ m.orders.length ≤ c2 ∧ c2 ≤ maxLen ∧
    IntsAt w A1 m.laced ∧ (m.laced ≠ [] → ∀ ad, A1 = some ad → ¬ S ad.block) ∧ ∀ k, k < m.orders.length → ∃ b o, A2 = some ⟨b, o, none⟩ ∧ ¬ S b ∧ OrdCellsS S w b (o + k * 4) (m.orders[k]?.getD default)
theorem MillValS.ext {S : Nat → Prop} {w w' : World} {v : Value} {m : Mill} (h : MillValS S w v m) (he : Ext w w') : MillValS S w' v m := by
  obtain ⟨A1, c1, A2, c2, h1, h2, h3, h4, h5, h6, h7, h8⟩ := h
  refine ⟨A1, c1, A2, c2, h1, h2, h3, h4, h5, h6.ext he, h7, fun k hk => ?_⟩
  obtain ⟨b, o, e, hb, A, c, g1, g2, g3, g4, g5, g6, g7⟩ := h8 k hk
  exact ⟨b, o, e, hb, A, c, g1, he.cell g2, he.cell g3, he.cell g4, he.cell g5, g6.ext he, g7⟩
/-- whatever is laid later is none of its blocks -/
theorem cell_lt {w : World} {p : Addr} {v : Value} (h : w.cell? p = some v) : p.block < w.heap.size := by
  rcases Nat.lt_or_ge p.block w.heap.size with g | g
  · exact g
  · unfold World.cell? at h
    simp [Array.getElem?_eq_none g] at h
end Go.Proofs.Pet

namespace Go.Proofs.Pet
open Go Go.RowKit

/-- a loom can weave an order -/
def Mill.weaves (m : Mill) (l k : Nat) : Bool := ((m.orders[k]?.getD default).on).contains (l : Int)

theorem weaves_any (v : Value) (m : Mill) (l : Int) (k : Nat) (hk : k < m.orders.length) (q : Bool) (hq : ((m.orders[k]?.getD default).on).contains l = q) (w : World) (hv : MillVal w v m) :
    Calls Try.prog 109 #[v, .int .i64 l, .int .i64 k] w fun e w' => e = .returned (.bool q) ∧ Ext w w' := by
  obtain ⟨A1, c1, A2, c2, rfl, h2, h3, h4, h5, h6, h7⟩ := hv
  unfold maxLen at h5
  have hE := Ext.alloc w (.cells #[.slice A1 m.laced.length c1, .int .i64 m.change, .slice A2 m.orders.length c2] 64)
  obtain ⟨b, o, rfl, A, ca, hca, q1, q2, q3, q4, q5⟩ := h7.ext hE k hk
  have Hc := Lib.hid (contains_any l A ca _ _ rfl q hq _ (Nat.le_trans hca.1 hca.2) q5)
  clear hq h7 h6 q5
  generalize m.orders[k]?.getD default = x0 at *
  go_enter Try.func109, Try.ntmps109
  go_wp2_with fail
  refine Hc.out.mono ?_
  rintro e w' ⟨rfl, rfl⟩
  go_wp2
  go_ret
  exact ⟨rfl, hE⟩

theorem wrap64_pow (n : Nat) (hn : n ≤ 62) : wrap64 (2 ^ n) = ((2 ^ n : Nat) : Int) := by
  have h1 : 2 ^ n ≤ 2 ^ 62 := Nat.pow_le_pow_right (by omega) hn
  have h2 : (2 : Nat) ^ 62 = 4611686018427387904 := by decide
  have h3 : ((2 ^ n : Nat) : Int) = (2 : Int) ^ n := by simp
  have h4 : ∀ p : Nat, p ≤ 4611686018427387904 → wrap64 (p : Int) = p := fun p hp => IntWalk.wrap64_in _ (by omega)
  have h5 := h4 (2 ^ n) (by omega)
  rw [h3] at h5 ⊢
  exact h5
theorem sets_any (v : Value) (m : Mill) (hn : m.orders.length ≤ 60) (s : Nat) (hs : s = 2 ^ m.orders.length) (w : World) (hv : MillVal w v m) :
    Calls Try.prog 51 #[v] w fun e w' => e = .returned (.int .i64 s) ∧ Ext w w' := by
  have Hs := Lib.hid hs; clear hs
  obtain ⟨A1, c1, A2, c2, rfl, h2, h3, h4, h5, h6, h7⟩ := hv
  have hE := Ext.alloc w (.cells #[.slice A1 m.laced.length c1, .int .i64 m.change, .slice A2 m.orders.length c2] 64)
  clear h6 h7 h3 h5
  go_enter Try.func51, Try.ntmps51
  go_wp2
  rw [wrap64_pow m.orders.length (by omega)]
  rw [← Hs.out]
  go_ret
  exact ⟨rfl, hE⟩

/-- the numbers whose bits are in a set, below n -/
def bits (n s : Nat) : List Nat := (List.range n).filter fun k => s.testBit k
def ints (l : List Nat) : List Int := l.map fun k : Nat => (k : Int)
theorem bits_succ (n s : Nat) : bits (n + 1) s = if s.testBit n then bits n s ++ [n] else bits n s := by
  unfold bits
  rw [List.range_succ, List.filter_append]
  by_cases h : s.testBit n <;> simp [h]
theorem ints_append (a b : List Nat) : ints (a ++ b) = ints a ++ ints b := by unfold ints; simp
theorem bits_length_le (n s : Nat) : (bits n s).length ≤ n := by
  unfold bits
  have := List.length_filter_le (fun k => s.testBit k) (List.range n)
  simpa using this

theorem ownsRow_alloc_of {w : World} {base : Nat} {e : TypeId} {v : Value} {xs : List Int} {L : Nat} {o : Obj} (hL : xs.length = L) (h : OwnI w base e v xs) : (w.alloc o).ownsRow base e 1 v L (xs.map (Value.int .i64)) := by
  subst hL; exact World.ownsRow.alloc h o
end Go.Proofs.Pet

namespace Go.Proofs.Pet
open Go Go.RowKit

theorem IntsAt.take {w : World} {A : Option Addr} {xs : List Int} (h : IntsAt w A xs) (i : Nat) : IntsAt w A (xs.take i) := by
  intro k hk
  have hk' : k < xs.length := by have := List.length_take_le i xs; have := List.length_take (i := i) (l := xs); omega
  have hki : k < i := by have := List.length_take (i := i) (l := xs); omega
  obtain ⟨b, o, e, hc⟩ := h k hk'
  exact ⟨b, o, e, by rw [List.getElem?_take, if_pos hki]; exact hc⟩
def listedE (m : Mill) (l : List Int) : Int :=
  if (l.all fun k => inB k 0 (m.orders.length - 1)) = false then 1 else if twiceB l = true then 5 else 0
def weavesI (m : Mill) (loom k : Int) : Bool := ((m.orders[k.toNat]?.getD default).on).contains loom
def runningE (m : Mill) (loom : Int) (l : List Int) : Int :=
  if inB loom 0 (m.laced.length - 1) = false then 1 else if listedE m l ≠ 0 then listedE m l else if (l.all fun k => weavesI m loom k) = false then 8 else 0

theorem twiceB_true {xs : List Int} {k : Nat} (hk : k < xs.length) (h : (xs.take k).contains (xs[k]?.getD 0) = true) : twiceB xs = true := by
  unfold twiceB
  rw [List.any_eq_true]
  exact ⟨k, List.mem_range.2 hk, h⟩
theorem twiceB_false {xs : List Int} (h : ∀ k, k < xs.length → (xs.take k).contains (xs[k]?.getD 0) = false) : twiceB xs = false := by
  unfold twiceB
  rw [List.any_eq_false]
  intro k hk
  rw [h k (List.mem_range.1 hk)]
  simp

end Go.Proofs.Pet

namespace Go.Proofs.Pet
open Go Go.RowKit

end Go.Proofs.Pet

namespace Go.Proofs.Pet
open Go Go.RowKit Go.Shelf
attribute [local go_sem] Oper.semAt_some

/-- an order of a set -/
abbrev In (s : Nat) : Type := { i : Nat // s.testBit i = true }
/-- the orders of a set, below k -/
def bitsS (s k : Nat) : List (In s) := (List.range k).filterMap fun i => if h : s.testBit i = true then some ⟨i, h⟩ else none
theorem bitsS_succ_in (s k : Nat) (h : s.testBit k = true) : bitsS s (k + 1) = bitsS s k ++ [⟨k, h⟩] := by
  unfold bitsS
  rw [List.range_succ, List.filterMap_append]
  simp [h]
theorem bitsS_succ_out (s k : Nat) (h : s.testBit k = false) : bitsS s (k + 1) = bitsS s k := by
  unfold bitsS
  rw [List.range_succ, List.filterMap_append]
  simp [h]
theorem bitsS_map (s k : Nat) : (bitsS s k).map (·.1) = bits k s := by
  induction k with
  | zero => rfl
  | succ k ih =>
    rw [bits_succ]
    cases h : s.testBit k with
    | true => rw [bitsS_succ_in s k h, List.map_append, ih]; simp
    | false => rw [bitsS_succ_out s k h, ih]; simp
theorem bitsS_length (s k : Nat) : (bitsS s k).length ≤ k := by
  have h := congrArg List.length (bitsS_map s k)
  rw [List.length_map] at h
  rw [h]
  exact bits_length_le k s
def encK (s : Nat) (x : In s) : Array Value := #[.int .i64 (x.1 : Int), .int .i64 (sdiff s (2 ^ x.1) : Nat)]
/-- what an iterator of lacking asks its rounds to keep: its two boxes -/
def KeepsTwo (B : Nat) (W W' : World) : Prop := W'.heap[B]? = W.heap[B]? ∧ W'.heap[B + 1]? = W.heap[B + 1]?

def lackR (s k p2 p3 p10 p11 : Nat) (l : Nat) (q : Bool) : Nat → Value → World → Prop
  | 0 => fun v _ => v = .int .i64 s
  | 1 => fun v _ => v = .int .i64 k
  | 2 => fun v _ => v = .int .i64 p2
  | 3 => fun v _ => v = .int .i64 p3
  | 4 => fun v _ => v = .bool q
  | 5 => fun v _ => v = .bool q
  | 6 => fun v _ => v = if q then .func (.yield l) #[] #[] else undef
  | 7 => fun v _ => v = if q then .int .i64 k else undef
  | 8 => fun v _ => v = if q then .int .i64 s else undef
  | 9 => fun v _ => v = if q then .int .i64 k else undef
  | 10 => fun v _ => v = if q then .int .i64 p10 else undef
  | 11 => fun v _ => v = if q then .int .i64 p11 else undef
  | _ => fun _ _ => True

set_option maxRecDepth 20000 in
set_option maxHeartbeats 1000000 in
theorem lacking1_in (F : Fence) (n0 : Nat) (hF : F.fn 147) (hro : F.round = none) (hn : 1 ≤ n0) (l B : Nat) (A1 : Value) (ch : Value) (A2 : Option Addr) (c2 : Nat) (n s : Nat) (hn7 : n ≤ 20) (hs : s ≤ 1048576)
    (J Jx : List (In s) → World → Prop)
    (hY : ∀ pre x W, J pre W → pre.length < n → YieldAt F (n0 - 1) Try.prog l (encK s x) W fun e W' =>
      (e = .returned (.bool true) ∧ J (pre ++ [x]) W' ∧ KeepsTwo B W W') ∨ (e = .returned (.bool false) ∧ Jx (pre ++ [x]) W'))
    (W : World) (hB1 : Blk W B 64 #[A1, ch, .slice A2 n c2]) (hB2 : Blk W (B + 1) 3 #[.int .i64 s]) (h0 : J [] W) (hJ : AbidesFrom W.heap.size J) (_hJx : AbidesFrom W.heap.size Jx) :
    CallsIn F n0 Try.prog 147 #[.func (.yield l) #[] #[], .pointer (some ⟨B, 0, none⟩), .pointer (some ⟨B + 1, 0, none⟩)] W fun e W' => (∃ v, e = .returned v) ∧
      ((∃ ys, ys = bitsS s n ∧ J ys W') ∨ (∃ pre, (∃ k, k ≤ n ∧ pre = bitsS s k) ∧ Jx pre W')) := by
  refine callsIn_of_wp Try.func147 rfl hF ?_ hro
  simp only [Try.ntmps147, List.size_toArray, List.length_cons, List.length_nil, Nat.reduceAdd, Nat.reduceSub, Array.replicate_succ, Array.replicate_zero, List.push_toArray, List.append_toArray, List.nil_append, List.cons_append]
  obtain ⟨k0, k1, k2⟩ := hB1.c3
  gi_wp2
  clear k0 k1 k2
  gi_loopw [4, 8] (fun _ i wr => ∃ k : Nat, k ≤ n ∧ i = .int .i64 k ∧ J (bitsS s k) wr ∧ Blk wr B 64 #[A1, ch, .slice A2 n c2] ∧ Blk wr (B + 1) 3 #[.int .i64 s])
    (fun _ i _ => n - (intOf i).toNat)
  case atStart => exact ⟨0, Nat.zero_le _, rfl, h0, hB1, hB2⟩
  case round =>
    obtain ⟨k, hk, rfl, hJs, hB1', hB2'⟩ := hrel
    have kc := hB2'.c1
    by_cases hlt : k < n
    · gi_wp2
      obtain ⟨q, hq⟩ : ∃ q, s.testBit k = q := ⟨_, rfl⟩
      obtain ⟨p2, hp2⟩ : ∃ p, p = s >>> k := ⟨_, rfl⟩
      obtain ⟨p3, hp3⟩ : ∃ p, p = p2 % 2 := ⟨_, rfl⟩
      obtain ⟨p10, hp10⟩ : ∃ p, p = 2 ^ k := ⟨_, rfl⟩
      obtain ⟨p11, hp11⟩ : ∃ p, p = sdiff s p10 := ⟨_, rfl⟩
      have b2 : p2 ≤ 1048576 := by rw [hp2, Nat.shiftRight_eq_div_pow]; exact Nat.le_trans (Nat.div_le_self _ _) hs
      have b10 : p10 ≤ 1048576 := by
        have h1 : 2 ^ k ≤ 2 ^ 20 := Nat.pow_le_pow_right (by omega) (by omega)
        have h2 : (2 : Nat) ^ 20 = 1048576 := by decide
        omega
      have hq3 : Hid (q = decide (p3 = 1)) := by unfold Hid; rw [← hq, hp3, hp2, Nat.testBit_eq_decide_div_mod_eq, Nat.shiftRight_eq_div_pow]
      have P2 := Lib.hid hp2; have P3 := Lib.hid hp3; have P10 := Lib.hid hp10; have P11 := Lib.hid hp11; have Hq := Lib.hid hq
      clear hp2 hp3 hp10 hp11 hq
      have hb3 : p3 ≤ 1 := by have := P3.out; omega
      refine wpIn_region_facts 12 (by kernel_rfl) (by kernel_rfl) (fun W' => W' = wr.drew) (lackR s k p2 p3 p10 p11 l q) ?_ ?_ ?_
      · rfl
      · simp only [List.take, AllOpsIn, fill, Act.put, List.setIfInBounds_toArray, List.set_cons_zero, List.set_cons_succ, Nat.reduceAdd, Deps, and_true]
        refine ⟨?_, ?_, ?_, ?_, ?_, ?_, ?_, ?_, ?_, ?_, ?_, ?_⟩
        all_goals
          rintro x W' rfl hd K Q hK
          try (simp only [lackR] at hd)
        · have HK := Lib.hid hK; clear hK
          gi_wp2; exact HK.out _ _ rfl rfl (fun _ _ h => h)
        · have HK := Lib.hid hK; clear hK
          gi_wp2; exact HK.out _ _ rfl rfl (fun _ _ h => h)
        · simp only [hd] at hK ⊢
          have HK := Lib.hid hK; clear hK
          gi_wp2
          exact HK.out _ _ (by show _ = Value.int .i64 (p2 : Int); rw [P2.out, Nat.shiftRight_eq_div_pow]; simp) rfl (fun _ _ h => h)
        · simp only [hd] at hK ⊢
          have HK := Lib.hid hK; clear hK
          gi_wp2
          exact HK.out _ _ (by show _ = Value.int .i64 (p3 : Int); rw [and_one p2 (by omega), P3.out]) rfl (fun _ _ h => h)
        · simp only [hd] at hK ⊢
          have HK := Lib.hid hK; clear hK
          gi_wp2
          exact HK.out _ _ (by show _ = Value.bool q; rw [hq3.out]; congr 1; rw [Bool.eq_iff_iff]; simp; omega) rfl (fun _ _ h => h)
        · simp only [hd] at hK ⊢
          have HK := Lib.hid hK; clear hK
          gi_wp2; exact HK.out _ _ rfl rfl (fun _ _ h => h)
        · cases q with
          | false =>
            simp only [hd] at hK ⊢
            have HK := Lib.hid hK; clear hK
            gi_wp2
            exact HK.out _ _ rfl rfl (fun _ _ h => h)
          | true =>
            simp only [hd] at hK ⊢
            have HK := Lib.hid hK; clear hK
            gi_wp2
            exact HK.out _ _ rfl rfl (fun _ _ h => h)
        · cases q with
          | false =>
            simp only [hd] at hK ⊢
            have HK := Lib.hid hK; clear hK
            gi_wp2
            exact HK.out _ _ rfl rfl (fun _ _ h => h)
          | true =>
            simp only [hd] at hK ⊢
            have HK := Lib.hid hK; clear hK
            gi_wp2
            exact HK.out _ _ rfl rfl (fun _ _ h => h)
        · cases q with
          | false =>
            simp only [hd] at hK ⊢
            have HK := Lib.hid hK; clear hK
            gi_wp2
            exact HK.out _ _ rfl rfl (fun _ _ h => h)
          | true =>
            simp only [hd] at hK ⊢
            have HK := Lib.hid hK; clear hK
            gi_wp2
            exact HK.out _ _ rfl rfl (fun _ _ h => h)
        · cases q with
          | false =>
            simp only [hd] at hK ⊢
            have HK := Lib.hid hK; clear hK
            gi_wp2
            exact HK.out _ _ rfl rfl (fun _ _ h => h)
          | true =>
            simp only [hd] at hK ⊢
            have HK := Lib.hid hK; clear hK
            gi_wp2
            exact HK.out _ _ rfl rfl (fun _ _ h => h)
        · obtain ⟨d9, d5⟩ := hd
          cases q with
          | false =>
            simp only [d5] at hK ⊢
            have HK := Lib.hid hK; clear hK d5
            gi_wp2
            exact HK.out _ _ rfl rfl (fun _ _ h => h)
          | true =>
            simp only [if_true] at d9
            simp only [d5, d9] at hK ⊢
            have HK := Lib.hid hK; clear hK d5 d9
            gi_wp2
            exact HK.out _ _ (by show _ = Value.int .i64 (p10 : Int); rw [P10.out, wrap64_pow' k (by omega)]) rfl (fun _ _ h => h)
        · obtain ⟨d8, d10, d5⟩ := hd
          cases q with
          | false =>
            simp only [d5] at hK ⊢
            have HK := Lib.hid hK; clear hK d5
            gi_wp2
            exact HK.out _ _ rfl rfl (fun _ _ h => h)
          | true =>
            simp only [if_true] at d8 d10
            simp only [d5, d8, d10] at hK ⊢
            have HK := Lib.hid hK; clear hK d5 d8 d10
            gi_wp2
            exact HK.out _ _ (by show _ = Value.int .i64 (p11 : Int); rw [andNot64 s p10 (by omega) (by omega), P11.out]) rfl (fun _ _ h => h)
      · rintro x W' rfl hR
        simp only [AllR, lackR, true_and] at hR
        have r11 := hR.2
        replace hR := hR.1
        have r10 := hR.2
        replace hR := hR.1
        have r9 := hR.2
        replace hR := hR.1
        have r8 := hR.2
        replace hR := hR.1
        have r7 := hR.2
        replace hR := hR.1
        have r6 := hR.2
        replace hR := hR.1
        have r5 := hR.2
        replace hR := hR.1
        have r4 := hR.2
        replace hR := hR.1
        have r3 := hR.2
        replace hR := hR.1
        have r2 := hR.2
        replace hR := hR.1
        have r1 := hR.2
        replace hR := hR.1
        have r0 := hR
        clear hR
        simp only [List.take, List.drop, fill, Act.put, List.setIfInBounds_toArray, List.set_cons_zero, List.set_cons_succ, Nat.reduceAdd]
        have hJd : J (bitsS s k) wr.drew := hJ _ wr wr.drew none hJs ⟨rfl, rfl, rfl, Nat.le_refl _, fun _ _ _ => rfl⟩ (fun r e => by cases e)
        cases q with
        | false =>
          simp only [r0, r1, r2, r3, r4, r5, r6, r7, r8, r9, r10, r11, Bool.false_eq_true, if_false]
          clear r0 r1 r2 r3 r4 r5 r6 r7 r8 r9 r10 r11
          gi_wp2
          refine ⟨fun _ h => (by cases h), ?_⟩
          gi_wp2
          go_roundw
          case rel => exact ⟨k + 1, by omega, by go_num, by rw [bitsS_succ_out s k Hq.out]; exact hJd, hB1', hB2'⟩
          case measure => simp [intOf]; omega
        | true =>
          simp only [r0, r1, r2, r3, r4, r5, r6, r7, r8, r9, r10, r11, if_true]
          clear r0 r1 r2 r3 r4 r5 r6 r7 r8 r9 r10 r11
          have hlen : (bitsS s k).length < n := by
            have := bitsS_length s k
            omega
          obtain ⟨fn, tmps, assign, body, hy, hR⟩ := hY _ ⟨k, Hq.out⟩ wr.drew hJd hlen
          simp only [encK, ← P10.out, ← P11.out] at hy
          have Hls := Lib.hid (bitsS_succ_in s k Hq.out)
          gi_wp2_with fail
          refine hR.mono ?_
          rintro e W3 (⟨rfl, hJ3, hk3⟩ | ⟨rfl, hJx3⟩)
          · gi_wp2
            go_roundw
            case rel => exact ⟨k + 1, by omega, by go_num, by rw [Hls.out]; exact hJ3, hk3.1.trans hB1', hk3.2.trans hB2'⟩
            case measure => simp [intOf]; omega
          · gi_wp2
            refine bodyPost_ret (results_none rfl _ _ _) rfl ?_
            exact ⟨⟨_, rfl⟩, .inr ⟨_, ⟨k + 1, by omega, Hls.out.symm⟩, hJx3⟩⟩
    · obtain rfl : k = n := by omega
      gi_wp2
      go_end0
      exact ⟨⟨_, rfl⟩, .inl ⟨_, rfl, hJs⟩⟩

theorem lacking_stops (F : Fence) (n0 : Nat) (hF : F.fn 147) (hro : F.round = none) (hn : 1 ≤ n0) (B : Nat) (A1 : Value) (ch : Value) (A2 : Option Addr) (c2 : Nat) (n s : Nat) (hn7 : n ≤ 20) (hs : s ≤ 1048576)
    (w : World) (hB1 : Blk w B 64 #[A1, ch, .slice A2 n c2]) (hB2 : Blk w (B + 1) 3 #[.int .i64 s]) :
    SeqStopsK F n0 Try.prog 147 #[.pointer (some ⟨B, 0, none⟩), .pointer (some ⟨B + 1, 0, none⟩)] (encK s) (KeepsTwo B) (fun ys => ys = bitsS s n) (fun pre => ∃ k, k ≤ n ∧ pre = bitsS s k) n w :=
  fun l J Jx W hW hJ hJx hY h0 => lacking1_in F n0 hF hro hn l B A1 ch A2 c2 n s hn7 hs J Jx hY W (Blk.below hB1 hW hB1.lt) (Blk.below hB2 hW hB2.lt) h0 hJ hJx

theorem lacking_any (v : Value) (m : Mill) (s : Int) (w : World) (hv : MillVal w v m) :
    Calls Try.prog 99 #[v, .int .i64 s] w fun e w' => e = .returned (.func (.func 147) #[] #[.pointer (some ⟨w.heap.size, 0, none⟩), .pointer (some ⟨w.heap.size + 1, 0, none⟩)]) ∧ Ext w w' ∧
      (∃ A1 A2 c2, Blk w' w.heap.size 64 #[A1, .int .i64 m.change, .slice A2 m.orders.length c2]) ∧ Blk w' (w.heap.size + 1) 3 #[.int .i64 s] := by
  have hmf : ∀ (fn : Fn) (first cap : Array Value) (w : World), (Instr.makeFunc fn first cap).run Try.prog w = .ok (.func fn first cap) w := fun _ _ _ _ => rfl
  obtain ⟨A1, c1, A2, c2, rfl, h2, h3, h4, h5, h6, h7⟩ := hv
  have hb1 := (Blk.new w 64 #[.slice A1 m.laced.length c1, .int .i64 m.change, .slice A2 m.orders.length c2]).alloc (.cells #[.int .i64 s] 3)
  have hb2 := Blk.new (w.alloc (.cells #[.slice A1 m.laced.length c1, .int .i64 m.change, .slice A2 m.orders.length c2] 64)) 3 #[.int .i64 s]
  rw [World.size_alloc] at hb2
  have hE := (Ext.alloc w (.cells #[.slice A1 m.laced.length c1, .int .i64 m.change, .slice A2 m.orders.length c2] 64)).trans (Ext.alloc _ (.cells #[.int .i64 s] 3))
  clear h6 h7 h3 h5
  have Hb1 := Lib.hid hb1; have Hb2 := Lib.hid hb2; clear hb1 hb2
  go_enter Try.func99, Try.ntmps99
  go_wp2
  go_ret
  exact ⟨rfl, hE, ⟨_, _, _, Hb1.out⟩, Hb2.out⟩

theorem KeepsTwo.t {B : Nat} {X Y Z : World} (h : KeepsTwo B X Y) (k : KeepsTwo B Y Z) : KeepsTwo B X Z := ⟨k.1.trans h.1, k.2.trans h.2⟩
theorem KeepsTwo.b {B : Nat} {w : World} (hB : B + 1 < w.heap.size) (W : World) (l : Nat) (o o' : Obj) (hl : w.heap.size ≤ l) (h : W.heap[l]? = some o) (_ : o.isCells = false) (_ : o.isWalk = false) : KeepsTwo B W (W.putObj l o') :=
  ⟨(grownBy_putObj' W l o').block B (by have := (Array.getElem?_eq_some_iff.1 h).1; omega) (fun e => by cases e; omega), (grownBy_putObj' W l o').block (B + 1) (by have := (Array.getElem?_eq_some_iff.1 h).1; omega) (fun e => by cases e; omega)⟩

/-- what the book-keeping of a range over a function leaves: cells, and whatever lay below B -/
structure Loops (B : Nat) (W W' : World) : Prop where
  os : W'.os = W.os
  tape : W'.tape = W.tape
  output : W'.output = W.output
  size : W.heap.size ≤ W'.heap.size
  cells : ∀ (k : Nat) (c : Array Value) (e : TypeId) (fz : Nat × Nat), W.heap[k]? = some (Obj.cells c e fz) → W'.heap[k]? = some (Obj.cells c e fz)
  low : ∀ (k : Nat), k < B → k < W.heap.size → W'.heap[k]? = W.heap[k]?
theorem Blk.loops {W W' : World} {B b : Nat} {t : TypeId} {cs : Array Value} (h : Blk W b t cs) (hk : Loops B W W') : Blk W' b t cs := hk.cells _ _ _ _ h
theorem Ext.loops {w W W' : World} {B : Nat} (h : Ext w W) (hk : Loops B W W') (hB : w.heap.size ≤ B) : Ext w W' :=
  ⟨hk.os.trans h.os, hk.tape.trans h.tape, hk.output.trans h.output, Nat.le_trans h.size hk.size, fun k hlt => (hk.low k (by omega) (by have := h.size; omega)).trans (Below.block h k hlt)⟩
theorem ownFrom_keep {β : Type} {B : Nat} {I : β → World → Prop} (h : ∀ s W W', I s W → Loops B W W' → I s W') : OwnFrom B I := by
  intro s W W' row hs hg hr
  refine h s W W' hs ⟨hg.os, hg.tape, hg.output, hg.size, fun k c e fz hc => ?_, fun k hk hlt => hg.block k hlt (fun e' => by have := (hr k e'.symm).1; omega)⟩
  rw [hg.block k (Array.getElem?_eq_some_iff.1 hc).1 (fun e' => by
    obtain ⟨_, o, ho, hw⟩ := hr k e'.symm
    rw [hc] at ho; cases ho; cases hw)]
  exact hc
theorem keepsFrom_ext {B : Nat} {W W' : World} (h : Ext W W') : KeepsFrom B W W' := ⟨h.size, fun _k _o _ hk _ => h.block hk⟩

/-- 'for k, rest := range m.lacking(s) { .. }' -/
theorem wp_lacking {g : Operand} {ps : Array Tmp} {assign body : Code} {Q : Exit → Act → World → Prop} {a : Act} {w : World} {B : Nat} {A1 ch : Value} {A2 : Option Addr} {c2 n s : Nat} (hn7 : n ≤ 20) (hs : s ≤ 1048576)
    (hB1 : Blk w B 64 #[A1, ch, .slice A2 n c2]) (hB2 : Blk w (B + 1) 3 #[.int .i64 s])
    (hg : a.eval g = .func (.func 147) #[] #[.pointer (some ⟨B, 0, none⟩), .pointer (some ⟨B + 1, 0, none⟩)]) (hps : ps.size = 2)
    (I : List (In s) → World → Prop) (Ix : Code → List (In s) → World → Prop) (hI : ∀ p W W', I p W → Loops w.heap.size W W' → I p W') (hIx : ∀ c p W W', Ix c p W → Loops w.heap.size W W' → Ix c p W') (h0 : I [] w) (a₁ : In s → Act)
    (hassign : ∀ (l : Nat) (x : In s) (W : World) (K : Act → World → Prop), K (a₁ x) W →
      assign.wpIn (Fence.wide.inRound l) 3 Try.prog (Exit.then K (fun _ _ _ => False)) { tmps := (ps.zip (encK s x)).foldl (fun t (p, v) => t.setIfInBounds p v) a.tmps, defers := [] } W)
    (hbody : ∀ (l : Nat) (pre : List (In s)) (x : In s) (W : World), I pre W → body.wpIn (Fence.wide.inRound l) 3 Try.prog (ownPostG w.heap.size (KeepsTwo B) I Ix (pre ++ [x]) W) (a₁ x) W)
    (hdone : ∀ (D : Nat) (W : World), w.heap.size ≤ D → I (bitsS s n) W → W.heap[D]? = some (.deferred (some [])) → Q .normal { a with defers := { target := .collected D, args := #[] } :: a.defers } W)
    (hstop : ∀ (D : Nat) (c : Code) (pre : List (In s)) (W : World), w.heap.size ≤ D → (∃ k, k ≤ n ∧ pre = bitsS s k) → Ix c pre W → W.heap[D]? = some (.deferred (some [])) → c.wp Try.prog Q { a with defers := { target := .collected D, args := #[] } :: a.defers } W) :
    (Code.rangeFunc g ps assign body).wp Try.prog Q a w := by
  refine (wpIn_wide (n := 5)).1 (wpIn_rangeFunc_ownG (n := 5) (by rfl) (by omega) hg trivial (enters_of Try.func147 (by kernel_rfl) rfl)
    (lacking_stops Fence.wide 4 trivial (by rfl) (by omega) B A1 ch A2 c2 n s hn7 hs w hB1 hB2) (KeepsTwo.t) (KeepsTwo.b hB2.lt) (Below.refl _ _) (fun x => by rw [hps]; rfl) I Ix
    (ownFrom_keep hI) (fun c => ownFrom_keep (hIx c)) h0 a₁ hassign (fun l pre x W hi _ => hbody l pre x W hi) (fun D xs W hD hxs hi hK => by subst hxs; exact hdone D W hD hi hK) (fun D c pre W hD hp hi hK => wpIn_wide.2 (hstop D c pre W hD hp hi hK)))
end Go.Proofs.Pet

namespace Go.Proofs.Pet
open Go Go.RowKit Go.Maps

/-- the days of the orders of a set, below k -/
def daysOf (m : Mill) : Nat → Nat → Int
  | 0, _ => 0
  | k + 1, s => daysOf m k s + if s.testBit k then (m.orders[k]?.getD default).days else 0
theorem keyed_int : Keyed Try.prog 3 := int_keyed Try.underlying3
theorem zero_int (w : World) : (zeroValue 3).run Try.prog w = .ok (.int .i64 0) w := by kernel_rfl
/-- a map from sets to numbers, 0 where there is nothing -/
def DaysMap (w : World) (M cnt : Nat) (f : Nat → Int) : Prop :=
  ∃ D : DataW Unit, w.ownsMap Try.prog 3 (plainElem Try.prog 3) M cnt D ∧ ∀ s : Nat, D.atKey (.int .i64 s) (.lit (.int .i64 0)) = .lit (.int .i64 (f s))
/-- a mill at work, in a block of its own -/
def Desk (w : World) (D : Nat) (m : Mill) : Prop :=
  ∃ A1 c1 A2 c2 M cnt, Blk w D 128 #[.slice A1 m.laced.length c1, .int .i64 m.change, .slice A2 m.orders.length c2, .map (some M)] ∧ m.laced.length ≤ c1 ∧ c1 ≤ maxLen ∧ m.orders.length ≤ c2 ∧ c2 ≤ maxLen ∧
    IntsAt w A1 m.laced ∧ OrdsAt w A2 m.orders ∧ M < w.heap.size ∧ DaysMap w M cnt (fun s => if s < 2 ^ m.orders.length then daysOf m m.orders.length s else 0)
theorem DaysMap.ext {w w' : World} {M cnt : Nat} {f : Nat → Int} (h : DaysMap w M cnt f) (_hM : M < w.heap.size) (he : Ext w w') : DaysMap w' M cnt f := by
  obtain ⟨D, h1, h2⟩ := h
  refine ⟨D, ?_, h2⟩
  exact h1.kept ⟨he.os, he.tape, he.output, he.size, fun k hk _ => Below.block he k hk⟩ (by simp : some M ≠ none)

theorem lit_inj {a b : Int} (h : (DataW.lit (.int .i64 a) : DataW Unit) = .lit (.int .i64 b)) : a = b := by
  injection h with h
  injection h
theorem lit_ne {a b : Int} (h : a ≠ b) : (Lit.int .i64 a) ≠ (Lit.int .i64 b) := by
  intro e
  injection e with _ e
  exact h e
theorem DaysMap.look {w : World} {M cnt : Nat} {f : Nat → Int} (h : DaysMap w M cnt f) (s : Nat) (hs : s ≤ 1048576) :
    (Instr.lookup 126 (.map (some M)) (.int .i64 (s : Int)) false).run Try.prog w = .ok (.int .i64 (f s)) w := by
  obtain ⟨D, h1, h2⟩ := h
  obtain ⟨c, hr, hat, _⟩ := h1.lookup_int keyed_int Try.underlying126 Try.underlying3 (zero_int w) (keyOf_int_mk Try.underlying3 (WalkArith.wf_i64 (n := (s : Int)) (by omega)))
  have hq := (h2 s).symm.trans hat
  have hc : f s = c := lit_inj hq
  rw [hr, hc]
theorem DaysMap.store {w : World} {M cnt : Nat} {f : Nat → Int} (h : DaysMap w M cnt f) (s : Nat) (hs : s ≤ 1048576) (hc : cnt ≤ 1048576) (v : Int) (hv : -1048576 ≤ v ∧ v ≤ 1048576) :
    ∃ w', (Instr.mapUpdate 126 (.map (some M)) (.int .i64 (s : Int)) (.int .i64 v)).run Try.prog w = .ok () w' ∧ DaysMap w' M (cnt + 1) (fun x => if x = s then v else f x) ∧ w.grownBy w' (some M) := by
  obtain ⟨D, h1, h2⟩ := h
  have hD : IsMap D := by obtain ⟨es, clock, hb, F, hs, rfl⟩ := h1; exact ⟨_, rfl⟩
  obtain ⟨w', hr, ho, hg⟩ := h1.update keyed_int Try.underlying126 (by unfold maxLen; omega) (keyOf_int_mk Try.underlying3 (WalkArith.wf_i64 (n := (s : Int)) (by omega))) (plainElem_int Try.underlying3 (WalkArith.wf_i64 (n := v) (by omega)))
  refine ⟨w', hr, ⟨_, ho, fun x => ?_⟩, hg⟩
  by_cases e : x = s
  · subst e
    rw [atKey_put_same hD (by simp [WideAt.IsKeyLit])]
    simp
  · rw [atKey_put_other (lit_ne (by omega)), h2 x]
    simp [e]

theorem DaysMap.congr {w : World} {M cnt cnt' : Nat} {f g : Nat → Int} (h : DaysMap w M cnt f) (hc : cnt ≤ cnt') (hfg : ∀ x, f x = g x) : DaysMap w M cnt' g := by
  obtain ⟨D, h1, h2⟩ := h
  exact ⟨D, h1.mono hc, fun s => by rw [h2 s, hfg s]⟩
theorem DaysMap.lt {w : World} {M cnt : Nat} {f : Nat → Int} (h : DaysMap w M cnt f) : M < w.heap.size := by
  obtain ⟨D, h1, _⟩ := h
  exact h1.lt
theorem check_len {m : Mill} (h : checkE m = 0) : 1 ≤ m.laced.length ∧ m.laced.length ≤ 3 ∧ m.orders.length ≤ 7 := by
  unfold checkE at h
  split at h
  · omega
  · rename_i h1
    simp only [not_or, inB, Bool.not_eq_false, Bool.and_eq_true, decide_eq_true_eq] at h1
    omega
theorem check_orders {m : Mill} (h : checkE m = 0) : (∀ o ∈ m.orders, (0 ≤ o.pattern ∧ o.pattern ≤ 9) ∧ (1 ≤ o.days ∧ o.days ≤ 20) ∧ (1 ≤ o.by_ ∧ o.by_ ≤ 99)) ∧ 0 ≤ m.change ∧ m.change ≤ 5 := by
  unfold checkE at h
  split at h
  · omega
  split at h
  · omega
  rename_i h2
  split at h
  · omega
  rename_i h3
  simp only [Bool.not_eq_false, not_or] at h2 h3
  refine ⟨fun o ho => ?_, ?_⟩
  · have := List.all_eq_true.1 h3 o ho
    simp only [inB, Bool.and_eq_true, decide_eq_true_eq] at this
    omega
  · have := h2.2
    simp only [inB, Bool.and_eq_true, decide_eq_true_eq] at this
    omega
theorem daysOf_bd {m : Mill} (h : checkE m = 0) : ∀ k s, k ≤ m.orders.length → 0 ≤ daysOf m k s ∧ daysOf m k s ≤ 20 * k
  | 0, s, _ => by simp [daysOf]
  | k + 1, s, hk => by
    have ih := daysOf_bd h k s (by omega)
    have := (check_orders h).1 (m.orders[k]?.getD default) (by simp [show k < m.orders.length by omega])
    simp only [daysOf]
    split <;> omega

def openR (D M o s : Nat) (c d : Int) : Nat → Value → World → Prop
  | 0 => fun v _ => v = .pointer (some ⟨D, 0, none⟩)
  | 1 => fun v _ => v = .pointer (some ⟨D, 0, none⟩)
  | 2 => fun v _ => v = .pointer (some ⟨D, 3, none⟩)
  | 3 => fun v _ => v = .map (some M)
  | 4 => fun v _ => v = .int .i64 s
  | 5 => fun v _ => v = .int .i64 c
  | 6 => fun v _ => v = .pointer (some ⟨o, 1, none⟩)
  | 7 => fun v _ => v = .int .i64 d
  | 8 => fun v _ => v = .int .i64 (c + d)
  | _ => fun _ _ => True

set_option maxRecDepth 20000 in
set_option maxHeartbeats 2000000 in
theorem opened_any (v : Value) (m : Mill) (hr : checkE m = 0) (w : World) (hv : MillVal w v m) :
    Calls Try.prog 47 #[v] w fun e w' => ∃ D, e = .returned (.tuple #[.pointer (some ⟨D, 0, none⟩), .int .i64 0]) ∧ w.heap.size ≤ D ∧ Desk w' D m ∧ Ext w w' := by
  have hmm := @run_makeMap Try.prog
  have Hv := Lib.hid hv
  obtain ⟨l1, l2, l3⟩ := check_len hr
  have Hdays := Lib.hid (daysOf_bd hr)
  have Hord := Lib.hid (check_orders hr).1
  obtain ⟨A1, c1, A2, c2, rfl, h2, h3, h4, h5, h6, h7⟩ := hv
  have Hcaps := Lib.hid (And.intro h2 (And.intro h3 (And.intro h4 h5)))
  have hE := Ext.alloc w (.cells #[.slice A1 m.laced.length c1, .int .i64 m.change, .slice A2 m.orders.length c2] 64)
  have hM := Blk.new w 64 #[.slice A1 m.laced.length c1, .int .i64 m.change, .slice A2 m.orders.length c2]
  have hC := check_any _ m _ (Hv.out.ext hE)
  rw [hr] at hC
  have HC := Lib.hid hC
  clear hC hr h3 h5
  have h6' := Lib.hid h6; clear h6
  go_enter Try.func47, Try.ntmps47
  go_wp2_with fail
  refine HC.out.mono ?_
  rintro e w2 ⟨rfl, he2⟩
  have hE2 := hE.trans he2
  have hM2 := hM.ext he2
  clear hM he2 hE
  obtain ⟨k0, k1, k2⟩ := hM2.c3
  go_wp2_with fail
  have hmap0 : DaysMap (w2.alloc (.map #[] 0)) w2.heap.size 0 (fun _ => 0) := ⟨.map [], World.ownsMap_made _ _ _ _, fun s => rfl⟩
  have hbD := Blk.new (w2.alloc (.map #[] 0)) 128 #[.slice A1 m.laced.length c1, .int .i64 m.change, .slice A2 m.orders.length c2, .map (some w2.heap.size)]
  rw [World.size_alloc] at hbD
  have hE3 : Ext w2 ((w2.alloc (.map #[] 0)).alloc (.cells #[.slice A1 m.laced.length c1, .int .i64 m.change, .slice A2 m.orders.length c2, .map (some w2.heap.size)] 128)) := (Ext.alloc _ _).trans (Ext.alloc _ _)
  have hmap3 := hmap0.ext (by simp) (Ext.alloc (w2.alloc (.map #[] 0)) (.cells #[.slice A1 m.laced.length c1, .int .i64 m.change, .slice A2 m.orders.length c2, .map (some w2.heap.size)] 128))
  clear hmap0
  generalize (w2.alloc _).alloc _ = w3 at *
  obtain ⟨N, hN⟩ : ∃ N, N = 2 ^ m.orders.length := ⟨_, rfl⟩
  have hNb : N ≤ 128 := by
    have h1 : 2 ^ m.orders.length ≤ 2 ^ 7 := Nat.pow_le_pow_right (by omega) l3
    have h2 : (2 : Nat) ^ 7 = 128 := by decide
    omega
  refine (sets_any _ m (by omega) N hN w3 (Hv.out.ext (hE2.trans hE3))).mono ?_
  rintro e w4 ⟨rfl, he4⟩
  have HN := Lib.hid hN; clear hN
  have hE4 := hE2.trans (hE3.trans he4)
  have hb4 := hbD.ext he4
  have hM4 := hM2.ext (hE3.trans he4)
  have hmap4 := hmap3.ext hmap3.lt he4
  have hszM : w.heap.size + 1 ≤ w2.heap.size := hM2.lt
  clear hmap3 hbD hM2 he4 hE3 k0 k1 k2 HC
  generalize hMd : w2.heap.size = M at *
  clear hMd
  have h7' := Lib.hid h7; clear h7
  go_wp2
  go_loopw [6, 7, 8, 23] (fun _ _ _ i wr => ∃ s cnt : Nat, s ≤ N ∧ i = .int .i64 s ∧ Ext w wr ∧ Blk wr w.heap.size 64 #[.slice A1 m.laced.length c1, .int .i64 m.change, .slice A2 m.orders.length c2] ∧
      Blk wr (M + 1) 128 #[.slice A1 m.laced.length c1, .int .i64 m.change, .slice A2 m.orders.length c2, .map (some M)] ∧ cnt ≤ s * 7 ∧ Hid (DaysMap wr M cnt (fun x => if x < s then daysOf m m.orders.length x else 0)))
    (fun _ _ _ i _ => N - (intOf i).toNat)
  case atStart => exact ⟨0, 0, by omega, rfl, hE4, hM4, hb4, by omega, hmap4.congr (Nat.le_refl _) (fun x => by simp)⟩
  case round =>
    obtain ⟨s, cnt, hs, rfl, he, hM5, hb5, hcnt, hmap⟩ := hrel
    obtain ⟨k0, k1, k2⟩ := hM5.c3
    by_cases hlt : s < N
    · go_wp2
      obtain ⟨w5, hw5⟩ : ∃ w5, w5 = wr := ⟨_, rfl⟩
      rw [← hw5] at he hM5 hb5 hmap ⊢
      clear hw5 k0 k1 k2
      go_loopw [7, 8, 29] (fun _ _ i wr => ∃ k cnt : Nat, k ≤ m.orders.length ∧ i = .int .i64 k ∧ Ext w wr ∧ Blk wr w.heap.size 64 #[.slice A1 m.laced.length c1, .int .i64 m.change, .slice A2 m.orders.length c2] ∧
          Blk wr (M + 1) 128 #[.slice A1 m.laced.length c1, .int .i64 m.change, .slice A2 m.orders.length c2, .map (some M)] ∧ cnt ≤ s * 7 + k ∧
          Hid (DaysMap wr M cnt (fun x => if x < s then daysOf m m.orders.length x else if x = s then daysOf m k s else 0)))
        (fun _ _ i _ => m.orders.length - (intOf i).toNat)
      case atStart => exact ⟨0, cnt, by omega, rfl, he, hM5, hb5, by omega, hmap.out.congr (Nat.le_refl _) (fun x => by simp [daysOf])⟩
      case round =>
        obtain ⟨k, cnt, hk, rfl, he, hM5, hb5, hcnt, hmap⟩ := hrel
        by_cases hltk : k < m.orders.length
        · obtain ⟨b, o, rfl, A, ca, hca, q1, q2, q3, q4, q5⟩ := h7'.out.ext he k hltk
          have hdb := Hord.out (m.orders[k]?.getD default) (by simp [hltk])
          have hsum := Hdays.out k s (by omega)
          obtain ⟨dk, hdk⟩ : ∃ d, daysOf m k s = d := ⟨_, rfl⟩
          rw [hdk] at hsum
          have hstep : Hid (daysOf m (k + 1) s = dk + if s.testBit k then (m.orders[k]?.getD default).days else 0) := by unfold Hid; rw [← hdk]; rfl
          generalize m.orders[k]?.getD default = x0 at *
          have Hdk := Lib.hid hdk; clear hdk
          obtain ⟨q, hq⟩ : ∃ q, s.testBit k = q := ⟨_, rfl⟩
          have hbit := bit_test s k (by omega) q hq
          have Hq := Lib.hid hq; clear hq
          cases q with
          | false =>
            go_wp2
            go_roundw
            case rel =>
              refine ⟨k + 1, cnt, by omega, by go_num, he.trans (Ext.alloc _ _), hM5.alloc _, hb5.alloc _, by omega, ?_⟩
              refine (hmap.out.ext hmap.out.lt (Ext.alloc _ _)).congr (Nat.le_refl _) fun x => ?_
              rw [hstep.out, Hq.out, Hdk.out]
              simp
            case measure => simp [intOf]; omega
          | true =>
            go_wp2_with fail
            have hb8 := Blk.new wr 107 #[.int .i64 x0.pattern, .int .i64 x0.days, .int .i64 x0.by_, .slice A x0.on.length ca]
            have hX := Ext.alloc wr (.cells #[.int .i64 x0.pattern, .int .i64 x0.days, .int .i64 x0.by_, .slice A x0.on.length ca] 107)
            have hmapX := hmap.out.ext hmap.out.lt hX
            have hMX := hM5.ext hX
            have hbX := hb5.ext hX
            have heX := he.trans hX
            clear hX q1 q2 q3 q4 q5 hM5 hb5 hmap
            generalize wr.alloc _ = W at *
            have hmd : DaysMap W.drew M cnt _ := hmapX.ext hmapX.lt (Ext.drew _)
            have hlook := hmd.look s (by omega)
            have hle : (if s < s then daysOf m m.orders.length s else if s = s then daysOf m k s else 0) = dk := by simp; exact Hdk.out
            simp only at hlook
            obtain ⟨w', hrun, hmap', hg⟩ := hmd.store s (by omega) (by omega) (dk + x0.days) (by omega)
            have Hmap := Lib.hid hmap'; clear hmap' hmd hle hmapX
            obtain ⟨d0, d1, d2, d3⟩ := hbX.c4
            obtain ⟨o0, o1, o2, o3⟩ := hb8.c4
            refine wp_region_facts 9 (by kernel_rfl) (by kernel_rfl) (fun W' => W' = W.drew) (openR (M + 1) M wr.heap.size s dk x0.days) rfl ?_ ?_
            · simp only [List.take, AllOps, fill, Act.put, List.setIfInBounds_toArray, List.set_cons_zero, List.set_cons_succ, Nat.reduceAdd, Deps, and_true]
              refine ⟨?_, ?_, ?_, ?_, ?_, ?_, ?_, ?_, ?_⟩
              all_goals
                rintro x W' rfl hd K Q hK
                try (simp only [openR] at hd; simp only [hd] at hK ⊢)
                have HK := Lib.hid hK
                clear hK
                go_wp2
                exact HK.out _ _ (by first | rfl | exact congrArg (Value.int .i64) Hdk.out) rfl (fun _ _ h => h)
            · rintro x W' rfl hR
              simp only [AllR, openR, true_and] at hR
              obtain ⟨⟨⟨⟨⟨⟨⟨⟨r0, r1⟩, r2⟩, r3⟩, r4⟩, r5⟩, r6⟩, r7⟩, r8⟩ := hR
              simp only [List.take, List.drop, fill, Act.put, List.setIfInBounds_toArray, List.set_cons_zero, List.set_cons_succ, Nat.reduceAdd, r0, r1, r2, r3, r4, r5, r6, r7, r8]
              clear r0 r1 r2 r3 r4 r5 r6 r7 r8
              go_wp2
              go_roundw
              case rel =>
                refine ⟨k + 1, cnt + 1, by omega, by go_num, Below.grown (heX.trans (Ext.drew _)) hg heX.size (fun j e => by cases e; omega), hMX.drew.grown hg (by intro e; have := Option.some.inj e; omega), hbX.drew.grown hg (by intro e; have := Option.some.inj e; omega), by omega, ?_⟩
                refine Hmap.out.congr (Nat.le_refl _) fun x => ?_
                rw [hstep.out, Hq.out]
                by_cases e : x = s
                · subst e; simp
                · simp [e]
              case measure => simp [intOf]; omega
        · go_wp2
          go_roundw
          case rel =>
            have hkn : k = m.orders.length := by omega
            refine ⟨s + 1, cnt, by omega, by go_num, he, hM5, hb5, by omega, hmap.out.congr (Nat.le_refl _) fun x => ?_⟩
            rw [hkn]
            by_cases e : x = s
            · subst e; simp
            · by_cases e2 : x < s
              · rw [if_pos e2, if_pos (by omega)]
              · rw [if_neg e2, if_neg e, if_neg (by omega)]
          case measure => simp [intOf]; omega
    · go_wp2
      go_ret2
      refine ⟨M + 1, rfl, by omega, ⟨A1, c1, A2, c2, M, cnt, hb5, Hcaps.out.1, Hcaps.out.2.1, Hcaps.out.2.2.1, Hcaps.out.2.2.2, h6'.out.ext he, h7'.out.ext he, hmap.out.lt, hmap.out.congr (Nat.le_refl _) (fun x => ?_)⟩, he⟩
      have : s = N := by omega
      rw [this, HN.out]
end Go.Proofs.Pet

namespace Go.Proofs.Pet
open Go Go.RowKit

def markOf (D : Nat) : Deferred := { target := .collected D, args := #[] }
/-- the marks that lie there, each at a block of its own, from lo on and ahead of hi -/
def Marks (W : World) (lo hi : Nat) (ds : List Deferred) : Prop :=
  ∃ l : List Nat, ds = l.map markOf ∧ l.Nodup ∧ ∀ D ∈ l, lo ≤ D ∧ D < hi ∧ W.heap[D]? = some (.deferred (some []))
theorem Marks.nil (W : World) (lo hi : Nat) : Marks W lo hi [] := ⟨[], rfl, List.nodup_nil, fun _ h => by cases h⟩
theorem Marks.ext {W W' : World} {lo hi : Nat} {ds : List Deferred} (h : Marks W lo hi ds) (he : Ext W W') : Marks W' lo hi ds := by
  obtain ⟨l, h1, h2, h3⟩ := h
  exact ⟨l, h1, h2, fun D hD => ⟨(h3 D hD).1, (h3 D hD).2.1, he.block (h3 D hD).2.2⟩⟩
theorem Marks.mono {W : World} {lo hi hi' : Nat} {ds : List Deferred} (h : Marks W lo hi ds) (hh : hi ≤ hi') : Marks W lo hi' ds := by
  obtain ⟨l, h1, h2, h3⟩ := h
  exact ⟨l, h1, h2, fun D hD => ⟨(h3 D hD).1, Nat.lt_of_lt_of_le (h3 D hD).2.1 hh, (h3 D hD).2.2⟩⟩
theorem Marks.set_ {W : World} {lo hi : Nat} {ds : List Deferred} {p : Addr} {t : TypeId} {cs : Array Value} (h : Marks W lo hi ds) (hb : Blk W p.block t cs) (v : Value) : Marks (W.setCell p v) lo hi ds := by
  obtain ⟨l, h1, h2, h3⟩ := h
  refine ⟨l, h1, h2, fun D hD => ⟨(h3 D hD).1, (h3 D hD).2.1, ?_⟩⟩
  refine (Below.heap_setCell W p v D fun e => ?_).trans (h3 D hD).2.2
  have h4 := (h3 D hD).2.2
  rw [e] at h4
  unfold Blk at hb
  rw [hb] at h4
  cases h4
theorem Marks.loops {W W' : World} {lo hi B : Nat} {ds : List Deferred} (h : Marks W lo hi ds) (hk : Loops B W W') (hB : hi ≤ B) : Marks W' lo hi ds := by
  obtain ⟨l, h1, h2, h3⟩ := h
  refine ⟨l, h1, h2, fun D hD => ⟨(h3 D hD).1, (h3 D hD).2.1, ?_⟩⟩
  have h4 := (h3 D hD).2.2
  exact (hk.low D (Nat.lt_of_lt_of_le (h3 D hD).2.1 hB) (Array.getElem?_eq_some_iff.1 h4).1).trans h4
theorem Marks.push {W : World} {lo hi : Nat} {ds : List Deferred} {D : Nat} (h : Marks W lo hi ds) (hlo : lo ≤ D) (hhi : hi ≤ D) (hD : W.heap[D]? = some (.deferred (some []))) : Marks W lo (D + 1) (markOf D :: ds) := by
  obtain ⟨l, h1, h2, h3⟩ := h
  refine ⟨D :: l, by rw [h1]; rfl, List.nodup_cons.2 ⟨fun hm => ?_, h2⟩, fun D' hD' => ?_⟩
  · have := (h3 D hm).2.1
    omega
  · rcases List.mem_cons.1 hD' with rfl | hm
    · exact ⟨hlo, by omega, hD⟩
    · exact ⟨(h3 D' hm).1, by have := (h3 D' hm).2.1; omega, (h3 D' hm).2.2⟩

theorem leaves_marks {F : Fence} {n : Nat} {P : Program} {fn : Func} {tmps : Array Value} {R : Ending → World → Prop} {lo hi : Nat} {v : Value} : ∀ (ds : List Deferred) (W : World), Marks W lo hi ds →
    (∀ W', (results fn tmps).run P W' = .ok v W') → (∀ W', (∀ k, (k < lo ∨ ∃ c e fz, W.heap[k]? = some (Obj.cells c e fz)) → W'.heap[k]? = W.heap[k]?) → W'.os = W.os → W'.tape = W.tape → W'.output = W.output → W.heap.size ≤ W'.heap.size → R (.returned v) W') → LeavesInM F n P fn tmps R ds .returning W
  | [], W, _, hr, hR => by
    unfold LeavesInM LeavesIn
    exact ⟨v, hr W, hR W (fun _ _ => rfl) rfl rfl rfl (Nat.le_refl _)⟩
  | d :: ds, W, hm, hr, hR => by
    obtain ⟨l, h1, h2, h3⟩ := hm
    cases l with
    | nil => cases h1
    | cons D l =>
      rw [List.map_cons] at h1
      injection h1 with h1a h1b
      subst h1a h1b
      have hD := h3 D (by simp)
      have hg := grownBy_putObj' W D (.deferred none)
      refine ⟨by simp, .inl ⟨D, _, rfl, run_takeDeferred hD.2.2, ?_⟩⟩
      refine leaves_marks (lo := lo) (hi := hi) (l.map markOf) _ ⟨l, rfl, (List.nodup_cons.1 h2).2, fun D' hD' => ?_⟩ hr (fun W' hk ho ht hp hs => hR W' (fun k hkk => ?_) (ho.trans hg.os) (ht.trans hg.tape) (hp.trans hg.output) (Nat.le_trans hg.size hs))
      · have h4 := h3 D' (List.mem_cons_of_mem _ hD')
        refine ⟨h4.1, h4.2.1, ?_⟩
        rw [World.putObj_heap_other (fun e : D' = D => (List.nodup_cons.1 h2).1 (by rw [← e]; exact hD'))]
        exact h4.2.2
      · have hne : k ≠ D := by
          rintro rfl
          rcases hkk with hlt | ⟨c, e, fz, hc⟩
          · have := hD.1; omega
          · rw [hD.2.2] at hc; cases hc
        have e1 : (W.putObj D (.deferred none)).heap[k]? = W.heap[k]? := World.putObj_heap_other hne
        rw [hk k ?_, e1]
        rw [e1]; exact hkk
/-- what a return through marks leaves -/
structure Quits (lo : Nat) (W W' : World) : Prop where
  same : ∀ k, (k < lo ∨ ∃ c e fz, W.heap[k]? = some (Obj.cells c e fz)) → W'.heap[k]? = W.heap[k]?
  os : W'.os = W.os
  tape : W'.tape = W.tape
  output : W'.output = W.output
  size : W.heap.size ≤ W'.heap.size
theorem Quits.blk {lo : Nat} {W W' : World} (h : Quits lo W W') {b : Nat} {t : TypeId} {cs : Array Value} (hb : Blk W b t cs) : Blk W' b t cs := (h.same b (.inr ⟨_, _, _, hb⟩)).trans hb
theorem Quits.ext {lo : Nat} {w W W' : World} (h : Quits lo W W') (he : Ext w W) (hlo : w.heap.size ≤ lo) : Ext w W' :=
  ⟨h.os.trans he.os, h.tape.trans he.tape, h.output.trans he.output, Nat.le_trans he.size h.size, fun k hk => (h.same k (.inl (by omega))).trans (Below.block he k hk)⟩
theorem leaves_marks' {F : Fence} {n : Nat} {P : Program} {fn : Func} {tmps : Array Value} {R : Ending → World → Prop} {lo hi : Nat} {v : Value} (ds : List Deferred) (W : World) (hm : Marks W lo hi ds)
    (hr : ∀ W', (results fn tmps).run P W' = .ok v W') (hR : ∀ W', Quits lo W W' → R (.returned v) W') : LeavesInM F n P fn tmps R ds .returning W :=
  leaves_marks ds W hm hr fun W' h1 h2 h3 h4 h5 => hR W' ⟨h1, h2, h3, h4, h5⟩
end Go.Proofs.Pet
