/- Joined texts: TC3, TC4, TC5, TC6, TC7, TC8, TC9, TCA. -/
import Derived.Test.YtnapmppdjlnbdaaJ04
import Derived.Test.YtnapmppdjlnbdaaB0
import Derived.Test.YtnapmppdjlnbdaaJ02
import Derived.Deep.MidRow
import Derived.DeepKeys2
import Derived.WideKeyPair
import Derived.Maps.OwnSet
import Derived.Deep.WholeRow
namespace Go.Proofs.Pet
open Go Go.RowKit
open Go.Proofs.Clk (Cl Rd Gp Att)

/-- one of clock.Clock in memory -/
def ClCells (w : World) (b o : Nat) (x : Cl) : Prop := w.cell? ⟨b, o, none⟩ = some (.int .i64 x.sl) ∧ w.cell? ⟨b, o + 1, none⟩ = some (.int .i64 x.sh) ∧ w.cell? ⟨b, o + 2, none⟩ = some (.int .i64 x.gl) ∧ w.cell? ⟨b, o + 3, none⟩ = some (.int .i64 x.gh)
def ClsAt (w : World) (A : Option Addr) (xs : List Cl) : Prop := ∀ k, k < xs.length → ∃ b o, A = some ⟨b, o, none⟩ ∧ ClCells w b (o + k * 4) (xs[k]?.getD default)
def ClVal (_w : World) (v : Value) (x : Cl) : Prop := v = .agg #[.int .i64 x.sl, .int .i64 x.sh, .int .i64 x.gl, .int .i64 x.gh]
theorem ClCells.ext {w w' : World} {b o : Nat} {x : Cl} (h : ClCells w b o x) (he : Ext w w') : ClCells w' b o x := ⟨he.cell h.1, he.cell h.2.1, he.cell h.2.2.1, he.cell h.2.2.2⟩
theorem ClsAt.ext {w w' : World} {A : Option Addr} {xs : List Cl} (h : ClsAt w A xs) (he : Ext w w') : ClsAt w' A xs := fun k hk => let ⟨b, o, e, hc⟩ := h k hk; ⟨b, o, e, hc.ext he⟩
/-- one of clock.Reading in memory -/
def RdCells (w : World) (b o : Nat) (x : Rd) : Prop := w.cell? ⟨b, o, none⟩ = some (.int .i64 x.clock) ∧ w.cell? ⟨b, o + 1, none⟩ = some (.int .i64 x.event) ∧ w.cell? ⟨b, o + 2, none⟩ = some (.int .i64 x.shows)
def RdsAt (w : World) (A : Option Addr) (xs : List Rd) : Prop := ∀ k, k < xs.length → ∃ b o, A = some ⟨b, o, none⟩ ∧ RdCells w b (o + k * 3) (xs[k]?.getD default)
def RdVal (_w : World) (v : Value) (x : Rd) : Prop := v = .agg #[.int .i64 x.clock, .int .i64 x.event, .int .i64 x.shows]
theorem RdCells.ext {w w' : World} {b o : Nat} {x : Rd} (h : RdCells w b o x) (he : Ext w w') : RdCells w' b o x := ⟨he.cell h.1, he.cell h.2.1, he.cell h.2.2⟩
theorem RdsAt.ext {w w' : World} {A : Option Addr} {xs : List Rd} (h : RdsAt w A xs) (he : Ext w w') : RdsAt w' A xs := fun k hk => let ⟨b, o, e, hc⟩ := h k hk; ⟨b, o, e, hc.ext he⟩
/-- one of clock.Gap in memory -/
def GpCells (w : World) (b o : Nat) (x : Gp) : Prop := w.cell? ⟨b, o, none⟩ = some (.int .i64 x.src) ∧ w.cell? ⟨b, o + 1, none⟩ = some (.int .i64 x.dst) ∧ w.cell? ⟨b, o + 2, none⟩ = some (.int .i64 x.lo) ∧ w.cell? ⟨b, o + 3, none⟩ = some (.int .i64 x.hi)
def GpsAt (w : World) (A : Option Addr) (xs : List Gp) : Prop := ∀ k, k < xs.length → ∃ b o, A = some ⟨b, o, none⟩ ∧ GpCells w b (o + k * 4) (xs[k]?.getD default)
def GpVal (_w : World) (v : Value) (x : Gp) : Prop := v = .agg #[.int .i64 x.src, .int .i64 x.dst, .int .i64 x.lo, .int .i64 x.hi]
theorem GpCells.ext {w w' : World} {b o : Nat} {x : Gp} (h : GpCells w b o x) (he : Ext w w') : GpCells w' b o x := ⟨he.cell h.1, he.cell h.2.1, he.cell h.2.2.1, he.cell h.2.2.2⟩
theorem GpsAt.ext {w w' : World} {A : Option Addr} {xs : List Gp} (h : GpsAt w A xs) (he : Ext w w') : GpsAt w' A xs := fun k hk => let ⟨b, o, e, hc⟩ := h k hk; ⟨b, o, e, hc.ext he⟩
theorem inC_any (n lo hi : Int) (q : Bool) (hq : inB n lo hi = q) (w : World) :
    Calls Try.prog 51 #[.int .i64 n, .int .i64 lo, .int .i64 hi] w fun e w' => e = .returned (.bool q) ∧ w = w' := by
  subst hq
  unfold inB
  by_cases h1 : lo ≤ n
  · by_cases h2 : n ≤ hi
    · go_enter Try.func51, Try.ntmps51
      go_wp2
      go_ret
      exact ⟨by simp [h1, h2], rfl⟩
    · have hd : decide (n ≤ hi) = false := by simp; omega
      go_enter Try.func51, Try.ntmps51
      go_wp2
      go_ret
      exact ⟨by simp, rfl⟩
  · have hd : decide (lo ≤ n) = false := by simp; omega
    go_enter Try.func51, Try.ntmps51
    go_wp2
    go_ret
    exact ⟨by simp, rfl⟩

theorem leastC_any (n : Int) (A : Option Addr) (c L : Nat) (xs : List Int) (hL : xs.length = L) (r : Int) (hr : xs.foldl min n = r) (w : World) (hb : xs.length ≤ maxLen) (hx : IntsAt w A xs) :
    Calls Try.prog 52 #[.int .i64 n, .slice A L c] w fun e w' => e = .returned (.int .i64 r) ∧ w = w' := by
  subst hL
  unfold maxLen at hb
  have Hr := Lib.hid hr; clear hr
  go_enter Try.func52, Try.ntmps52
  go_wp2
  go_loopw [0, 6, 9] (fun a _ i wr => ∃ (k : Nat) (x : Int), k ≤ xs.length ∧ a = .int .i64 x ∧ i = .int .i64 k ∧ Hid ((xs.take k).foldl min n = x) ∧ w = wr) (fun _ _ i _ => xs.length - (intOf i).toNat)
  case atStart => exact ⟨0, n, by omega, rfl, rfl, rfl, rfl⟩
  case round =>
    obtain ⟨k, x, hk, rfl, rfl, hm, rfl⟩ := hrel
    by_cases hlt : k < xs.length
    · obtain ⟨b, o, rfl, h1⟩ := hx k hlt
      have hmin : Hid ((xs.take (k + 1)).foldl min n = min x (xs[k]?.getD 0)) := by
        unfold Hid
        rw [List.take_add_one, List.foldl_append, hm.out]
        simp [hlt]
      generalize xs[k]?.getD 0 = y at *
      go_wp2
      go_roundw
      case rel => exact ⟨k + 1, min x y, by omega, by rw [Int.min_def]; by_cases h : x ≤ y <;> simp [h]; omega, by go_num, hmin.out, trivial⟩
      case measure => simp [intOf]; omega
    · obtain rfl : k = xs.length := by omega
      have hq := hm.out
      rw [List.take_length, Hr.out] at hq
      subst hq
      go_wp2
      go_ret
      exact ⟨rfl, rfl⟩
set_option maxHeartbeats 400000 in
theorem indexFuncCl (g : Nat) (fs lb : Array Value) (eg : Enters Try.prog g) (p : Cl → Bool) (A : Option Addr) (c : Nat) (xs : List Cl) (w : World) (hb : xs.length ≤ maxLen)
    (hx : ClsAt w A xs) (hp : ∀ x ∈ xs, Tells Try.prog w g fs lb ClVal x (p x)) :
    Calls Try.prog 97 #[.slice A xs.length c, .func (.func g) fs lb] w fun e w' => (∃ i : Int, (0 ≤ i ↔ xs.any p = true) ∧ e = .returned (.int .i64 i)) ∧ Ext w w' := by
  unfold maxLen at hb
  go_enter Try.func97, Try.ntmps97
  go_wp2
  go_loopw [5, 8] (fun _ i wr => ∃ k : Nat, k ≤ xs.length ∧ i = .int .i64 k ∧ Hid (∀ j, j < k → p (xs[j]?.getD default) = false) ∧ Ext w wr) (fun _ i _ => xs.length - (intOf i).toNat)
  case atStart => exact ⟨0, by omega, rfl, fun j hj => absurd hj (by omega), Ext.refl _⟩
  case round =>
    obtain ⟨k, hk, rfl, hm, he⟩ := hrel
    by_cases hlt : k < xs.length
    · obtain ⟨b, o, rfl, h1, h2, h3, h4⟩ := hx.ext he k hlt
      have hmem0 : (xs[k]?.getD default) ∈ xs := by simp [hlt]
      have hmem := Lib.hid hmem0
      generalize hgx : xs[k]?.getD default = x at *
      have Hgx := Lib.hid hgx; clear hgx
      have hc := hp x hmem0 wr _ he rfl
      clear hmem0
      obtain ⟨q, hq⟩ : ∃ q, p x = q := ⟨_, rfl⟩
      rw [hq] at hc
      have Hc := Lib.hid hc; clear hc
      have Hq := Lib.hid hq; clear hq
      have eg' := eg
      unfold Enters at eg'
      cases q with
      | true =>
        go_wp2_with fail
        refine Hc.out.mono ?_
        rintro e w' ⟨rfl, he'⟩
        go_wp2
        go_ret
        have ha : xs.any p = true := List.any_eq_true.2 ⟨x, hmem.out, Hq.out⟩
        exact ⟨⟨_, ⟨fun _ => ha, fun _ => by omega⟩, rfl⟩, he.trans he'⟩
      | false =>
        go_wp2_with fail
        refine Hc.out.mono ?_
        rintro e w' ⟨rfl, he'⟩
        go_wp2
        go_roundw
        case rel =>
          refine ⟨k + 1, by omega, by go_num, fun j hj => ?_, he.trans he'⟩
          by_cases ej : j = k
          · subst ej; rw [Hgx.out]; exact Hq.out
          · exact hm.out j (by omega)
        case measure => simp [intOf]; omega
    · go_wp2
      go_ret
      have hn : xs.any p = false := by
        rw [List.any_eq_false]
        intro y hy hpy
        obtain ⟨j, hj, rfl⟩ := List.mem_iff_getElem.1 hy
        have := hm.out j (by omega)
        simp [hj, hpy] at this
      exact ⟨⟨-1, ⟨fun h => absurd h (by omega), fun h => by rw [hn] at h; cases h⟩, rfl⟩, he⟩


theorem containsFuncCl (g : Nat) (fs lb : Array Value) (eg : Enters Try.prog g) (p : Cl → Bool) (A : Option Addr) (c : Nat) (xs : List Cl) (w : World) (hb : xs.length ≤ maxLen)
    (hx : ClsAt w A xs) (hp : ∀ x ∈ xs, Tells Try.prog w g fs lb ClVal x (p x)) :
    Calls Try.prog 86 #[.slice A xs.length c, .func (.func g) fs lb] w fun e w' => e = .returned (.bool (xs.any p)) ∧ Ext w w' := by
  have h := indexFuncCl g fs lb eg p A c xs w hb hx hp
  clear hx hp
  obtain ⟨q, hq⟩ : ∃ q, xs.any p = q := ⟨_, rfl⟩
  rw [hq] at h ⊢
  have H := Lib.hid h; clear h hq
  go_enter Try.func86, Try.ntmps86
  go_wp2_with fail
  refine H.out.mono ?_
  rintro e w' ⟨⟨i, hi, rfl⟩, he⟩
  cases q with
  | true =>
    have h0 : 0 ≤ i := hi.2 rfl
    clear hi
    go_wp2
    go_ret
    exact ⟨rfl, he⟩
  | false =>
    have h0 : decide (0 ≤ i) = false := by
      rw [decide_eq_false_iff_not]
      exact fun h => absurd (hi.1 h) (by simp)
    clear hi
    go_wp2
    go_ret
    exact ⟨rfl, he⟩


theorem everyCl1 (g : Nat) (fs lb : Array Value) (eg : Enters Try.prog g) (B : Nat) (x : Cl) (q : Bool) (w : World) (hp : Tells Try.prog w g fs lb ClVal x q) (hB : w.cell? ⟨B, 0, none⟩ = some (.func (.func g) fs lb)) :
    Tells Try.prog w 87 #[] #[.pointer (some ⟨B, 0, none⟩)] ClVal x (!q) := by
  intro W v hW hv
  have hB' := hW.cell hB
  obtain rfl := hv
  have hW' := Ext.alloc W (.cells #[.int .i64 x.sl, .int .i64 x.sh, .int .i64 x.gl, .int .i64 x.gh] 64)
  have Hp := Lib.hid hp
  clear hp hB
  have eg' := eg
  unfold Enters at eg'
  have hB2 := hW'.cell hB'
  show Calls Try.prog 87 #[_, .pointer (some ⟨B, 0, none⟩)] W _
  go_enter Try.func87, Try.ntmps87
  cases q with
  | true =>
    go_wp2_with fail
    refine (Hp.out _ _ (hW.trans hW') rfl).mono ?_
    rintro e w' ⟨rfl, he⟩
    go_wp2
    go_ret
    exact ⟨rfl, hW'.trans he⟩
  | false =>
    go_wp2_with fail
    refine (Hp.out _ _ (hW.trans hW') rfl).mono ?_
    rintro e w' ⟨rfl, he⟩
    go_wp2
    go_ret
    exact ⟨rfl, hW'.trans he⟩


theorem everyCl (g : Nat) (fs lb : Array Value) (eg : Enters Try.prog g) (p : Cl → Bool) (A : Option Addr) (c : Nat) (xs : List Cl) (w : World) (hb : xs.length ≤ maxLen)
    (hx : ClsAt w A xs) (hp : ∀ x ∈ xs, Tells Try.prog w g fs lb ClVal x (p x)) :
    Calls Try.prog 53 #[.slice A xs.length c, .func (.func g) fs lb] w fun e w' => e = .returned (.bool (xs.all p)) ∧ Ext w w' := by
  have hmf : ∀ (fn : Fn) (first cap : Array Value) (w : World), (Instr.makeFunc fn first cap).run Try.prog w = .ok (.func fn first cap) w := fun _ _ _ _ => rfl
  have hq0 : xs.all p = !(xs.any fun x => !p x) := by rw [List.not_any_eq_all_not]; simp
  obtain ⟨q, hq⟩ : ∃ q, xs.any (fun x => !p x) = q := ⟨_, rfl⟩
  rw [hq0, hq]
  have hE : Ext w (w.alloc (.cells #[.func (.func g) fs lb] 127)) := Ext.alloc _ _
  have h := containsFuncCl 87 #[] #[.pointer (some ⟨w.heap.size, 0, none⟩)] (enters_of Try.func87 (by kernel_rfl) rfl) (fun x => !p x) A c xs _ hb (hx.ext hE) (fun x hxm => everyCl1 g fs lb eg w.heap.size x (p x) _ ((hp x hxm).ext hE) (cell_new_l w _ _).1)
  rw [hq] at h
  have H := Lib.hid h; clear h hx hp hq hq0
  go_enter Try.func53, Try.ntmps53
  go_wp2_with fail
  refine H.out.mono ?_
  rintro e w' ⟨rfl, he⟩
  cases q with
  | true =>
    go_wp2
    go_ret
    exact ⟨rfl, hE.trans he⟩
  | false =>
    go_wp2
    go_ret
    exact ⟨rfl, hE.trans he⟩


set_option maxHeartbeats 400000 in
theorem indexFuncRd (g : Nat) (fs lb : Array Value) (eg : Enters Try.prog g) (p : Rd → Bool) (A : Option Addr) (c : Nat) (xs : List Rd) (w : World) (hb : xs.length ≤ maxLen)
    (hx : RdsAt w A xs) (hp : ∀ x ∈ xs, Tells Try.prog w g fs lb RdVal x (p x)) :
    Calls Try.prog 98 #[.slice A xs.length c, .func (.func g) fs lb] w fun e w' => (∃ i : Int, (0 ≤ i ↔ xs.any p = true) ∧ e = .returned (.int .i64 i)) ∧ Ext w w' := by
  unfold maxLen at hb
  go_enter Try.func98, Try.ntmps98
  go_wp2
  go_loopw [5, 8] (fun _ i wr => ∃ k : Nat, k ≤ xs.length ∧ i = .int .i64 k ∧ Hid (∀ j, j < k → p (xs[j]?.getD default) = false) ∧ Ext w wr) (fun _ i _ => xs.length - (intOf i).toNat)
  case atStart => exact ⟨0, by omega, rfl, fun j hj => absurd hj (by omega), Ext.refl _⟩
  case round =>
    obtain ⟨k, hk, rfl, hm, he⟩ := hrel
    by_cases hlt : k < xs.length
    · obtain ⟨b, o, rfl, h1, h2, h3⟩ := hx.ext he k hlt
      have hmem0 : (xs[k]?.getD default) ∈ xs := by simp [hlt]
      have hmem := Lib.hid hmem0
      generalize hgx : xs[k]?.getD default = x at *
      have Hgx := Lib.hid hgx; clear hgx
      have hc := hp x hmem0 wr _ he rfl
      clear hmem0
      obtain ⟨q, hq⟩ : ∃ q, p x = q := ⟨_, rfl⟩
      rw [hq] at hc
      have Hc := Lib.hid hc; clear hc
      have Hq := Lib.hid hq; clear hq
      have eg' := eg
      unfold Enters at eg'
      cases q with
      | true =>
        go_wp2_with fail
        refine Hc.out.mono ?_
        rintro e w' ⟨rfl, he'⟩
        go_wp2
        go_ret
        have ha : xs.any p = true := List.any_eq_true.2 ⟨x, hmem.out, Hq.out⟩
        exact ⟨⟨_, ⟨fun _ => ha, fun _ => by omega⟩, rfl⟩, he.trans he'⟩
      | false =>
        go_wp2_with fail
        refine Hc.out.mono ?_
        rintro e w' ⟨rfl, he'⟩
        go_wp2
        go_roundw
        case rel =>
          refine ⟨k + 1, by omega, by go_num, fun j hj => ?_, he.trans he'⟩
          by_cases ej : j = k
          · subst ej; rw [Hgx.out]; exact Hq.out
          · exact hm.out j (by omega)
        case measure => simp [intOf]; omega
    · go_wp2
      go_ret
      have hn : xs.any p = false := by
        rw [List.any_eq_false]
        intro y hy hpy
        obtain ⟨j, hj, rfl⟩ := List.mem_iff_getElem.1 hy
        have := hm.out j (by omega)
        simp [hj, hpy] at this
      exact ⟨⟨-1, ⟨fun h => absurd h (by omega), fun h => by rw [hn] at h; cases h⟩, rfl⟩, he⟩


theorem containsFuncRd (g : Nat) (fs lb : Array Value) (eg : Enters Try.prog g) (p : Rd → Bool) (A : Option Addr) (c : Nat) (xs : List Rd) (w : World) (hb : xs.length ≤ maxLen)
    (hx : RdsAt w A xs) (hp : ∀ x ∈ xs, Tells Try.prog w g fs lb RdVal x (p x)) :
    Calls Try.prog 88 #[.slice A xs.length c, .func (.func g) fs lb] w fun e w' => e = .returned (.bool (xs.any p)) ∧ Ext w w' := by
  have h := indexFuncRd g fs lb eg p A c xs w hb hx hp
  clear hx hp
  obtain ⟨q, hq⟩ : ∃ q, xs.any p = q := ⟨_, rfl⟩
  rw [hq] at h ⊢
  have H := Lib.hid h; clear h hq
  go_enter Try.func88, Try.ntmps88
  go_wp2_with fail
  refine H.out.mono ?_
  rintro e w' ⟨⟨i, hi, rfl⟩, he⟩
  cases q with
  | true =>
    have h0 : 0 ≤ i := hi.2 rfl
    clear hi
    go_wp2
    go_ret
    exact ⟨rfl, he⟩
  | false =>
    have h0 : decide (0 ≤ i) = false := by
      rw [decide_eq_false_iff_not]
      exact fun h => absurd (hi.1 h) (by simp)
    clear hi
    go_wp2
    go_ret
    exact ⟨rfl, he⟩


theorem everyRd1 (g : Nat) (fs lb : Array Value) (eg : Enters Try.prog g) (B : Nat) (x : Rd) (q : Bool) (w : World) (hp : Tells Try.prog w g fs lb RdVal x q) (hB : w.cell? ⟨B, 0, none⟩ = some (.func (.func g) fs lb)) :
    Tells Try.prog w 89 #[] #[.pointer (some ⟨B, 0, none⟩)] RdVal x (!q) := by
  intro W v hW hv
  have hB' := hW.cell hB
  obtain rfl := hv
  have hW' := Ext.alloc W (.cells #[.int .i64 x.clock, .int .i64 x.event, .int .i64 x.shows] 66)
  have Hp := Lib.hid hp
  clear hp hB
  have eg' := eg
  unfold Enters at eg'
  have hB2 := hW'.cell hB'
  show Calls Try.prog 89 #[_, .pointer (some ⟨B, 0, none⟩)] W _
  go_enter Try.func89, Try.ntmps89
  cases q with
  | true =>
    go_wp2_with fail
    refine (Hp.out _ _ (hW.trans hW') rfl).mono ?_
    rintro e w' ⟨rfl, he⟩
    go_wp2
    go_ret
    exact ⟨rfl, hW'.trans he⟩
  | false =>
    go_wp2_with fail
    refine (Hp.out _ _ (hW.trans hW') rfl).mono ?_
    rintro e w' ⟨rfl, he⟩
    go_wp2
    go_ret
    exact ⟨rfl, hW'.trans he⟩


theorem everyRd (g : Nat) (fs lb : Array Value) (eg : Enters Try.prog g) (p : Rd → Bool) (A : Option Addr) (c : Nat) (xs : List Rd) (w : World) (hb : xs.length ≤ maxLen)
    (hx : RdsAt w A xs) (hp : ∀ x ∈ xs, Tells Try.prog w g fs lb RdVal x (p x)) :
    Calls Try.prog 56 #[.slice A xs.length c, .func (.func g) fs lb] w fun e w' => e = .returned (.bool (xs.all p)) ∧ Ext w w' := by
  have hmf : ∀ (fn : Fn) (first cap : Array Value) (w : World), (Instr.makeFunc fn first cap).run Try.prog w = .ok (.func fn first cap) w := fun _ _ _ _ => rfl
  have hq0 : xs.all p = !(xs.any fun x => !p x) := by rw [List.not_any_eq_all_not]; simp
  obtain ⟨q, hq⟩ : ∃ q, xs.any (fun x => !p x) = q := ⟨_, rfl⟩
  rw [hq0, hq]
  have hE : Ext w (w.alloc (.cells #[.func (.func g) fs lb] 129)) := Ext.alloc _ _
  have h := containsFuncRd 89 #[] #[.pointer (some ⟨w.heap.size, 0, none⟩)] (enters_of Try.func89 (by kernel_rfl) rfl) (fun x => !p x) A c xs _ hb (hx.ext hE) (fun x hxm => everyRd1 g fs lb eg w.heap.size x (p x) _ ((hp x hxm).ext hE) (cell_new_l w _ _).1)
  rw [hq] at h
  have H := Lib.hid h; clear h hx hp hq hq0
  go_enter Try.func56, Try.ntmps56
  go_wp2_with fail
  refine H.out.mono ?_
  rintro e w' ⟨rfl, he⟩
  cases q with
  | true =>
    go_wp2
    go_ret
    exact ⟨rfl, hE.trans he⟩
  | false =>
    go_wp2
    go_ret
    exact ⟨rfl, hE.trans he⟩


set_option maxHeartbeats 400000 in
theorem indexFuncGp (g : Nat) (fs lb : Array Value) (eg : Enters Try.prog g) (p : Gp → Bool) (A : Option Addr) (c : Nat) (xs : List Gp) (w : World) (hb : xs.length ≤ maxLen)
    (hx : GpsAt w A xs) (hp : ∀ x ∈ xs, Tells Try.prog w g fs lb GpVal x (p x)) :
    Calls Try.prog 99 #[.slice A xs.length c, .func (.func g) fs lb] w fun e w' => (∃ i : Int, (0 ≤ i ↔ xs.any p = true) ∧ e = .returned (.int .i64 i)) ∧ Ext w w' := by
  unfold maxLen at hb
  go_enter Try.func99, Try.ntmps99
  go_wp2
  go_loopw [5, 8] (fun _ i wr => ∃ k : Nat, k ≤ xs.length ∧ i = .int .i64 k ∧ Hid (∀ j, j < k → p (xs[j]?.getD default) = false) ∧ Ext w wr) (fun _ i _ => xs.length - (intOf i).toNat)
  case atStart => exact ⟨0, by omega, rfl, fun j hj => absurd hj (by omega), Ext.refl _⟩
  case round =>
    obtain ⟨k, hk, rfl, hm, he⟩ := hrel
    by_cases hlt : k < xs.length
    · obtain ⟨b, o, rfl, h1, h2, h3, h4⟩ := hx.ext he k hlt
      have hmem0 : (xs[k]?.getD default) ∈ xs := by simp [hlt]
      have hmem := Lib.hid hmem0
      generalize hgx : xs[k]?.getD default = x at *
      have Hgx := Lib.hid hgx; clear hgx
      have hc := hp x hmem0 wr _ he rfl
      clear hmem0
      obtain ⟨q, hq⟩ : ∃ q, p x = q := ⟨_, rfl⟩
      rw [hq] at hc
      have Hc := Lib.hid hc; clear hc
      have Hq := Lib.hid hq; clear hq
      have eg' := eg
      unfold Enters at eg'
      cases q with
      | true =>
        go_wp2_with fail
        refine Hc.out.mono ?_
        rintro e w' ⟨rfl, he'⟩
        go_wp2
        go_ret
        have ha : xs.any p = true := List.any_eq_true.2 ⟨x, hmem.out, Hq.out⟩
        exact ⟨⟨_, ⟨fun _ => ha, fun _ => by omega⟩, rfl⟩, he.trans he'⟩
      | false =>
        go_wp2_with fail
        refine Hc.out.mono ?_
        rintro e w' ⟨rfl, he'⟩
        go_wp2
        go_roundw
        case rel =>
          refine ⟨k + 1, by omega, by go_num, fun j hj => ?_, he.trans he'⟩
          by_cases ej : j = k
          · subst ej; rw [Hgx.out]; exact Hq.out
          · exact hm.out j (by omega)
        case measure => simp [intOf]; omega
    · go_wp2
      go_ret
      have hn : xs.any p = false := by
        rw [List.any_eq_false]
        intro y hy hpy
        obtain ⟨j, hj, rfl⟩ := List.mem_iff_getElem.1 hy
        have := hm.out j (by omega)
        simp [hj, hpy] at this
      exact ⟨⟨-1, ⟨fun h => absurd h (by omega), fun h => by rw [hn] at h; cases h⟩, rfl⟩, he⟩


theorem containsFuncGp (g : Nat) (fs lb : Array Value) (eg : Enters Try.prog g) (p : Gp → Bool) (A : Option Addr) (c : Nat) (xs : List Gp) (w : World) (hb : xs.length ≤ maxLen)
    (hx : GpsAt w A xs) (hp : ∀ x ∈ xs, Tells Try.prog w g fs lb GpVal x (p x)) :
    Calls Try.prog 90 #[.slice A xs.length c, .func (.func g) fs lb] w fun e w' => e = .returned (.bool (xs.any p)) ∧ Ext w w' := by
  have h := indexFuncGp g fs lb eg p A c xs w hb hx hp
  clear hx hp
  obtain ⟨q, hq⟩ : ∃ q, xs.any p = q := ⟨_, rfl⟩
  rw [hq] at h ⊢
  have H := Lib.hid h; clear h hq
  go_enter Try.func90, Try.ntmps90
  go_wp2_with fail
  refine H.out.mono ?_
  rintro e w' ⟨⟨i, hi, rfl⟩, he⟩
  cases q with
  | true =>
    have h0 : 0 ≤ i := hi.2 rfl
    clear hi
    go_wp2
    go_ret
    exact ⟨rfl, he⟩
  | false =>
    have h0 : decide (0 ≤ i) = false := by
      rw [decide_eq_false_iff_not]
      exact fun h => absurd (hi.1 h) (by simp)
    clear hi
    go_wp2
    go_ret
    exact ⟨rfl, he⟩


theorem everyGp1 (g : Nat) (fs lb : Array Value) (eg : Enters Try.prog g) (B : Nat) (x : Gp) (q : Bool) (w : World) (hp : Tells Try.prog w g fs lb GpVal x q) (hB : w.cell? ⟨B, 0, none⟩ = some (.func (.func g) fs lb)) :
    Tells Try.prog w 91 #[] #[.pointer (some ⟨B, 0, none⟩)] GpVal x (!q) := by
  intro W v hW hv
  have hB' := hW.cell hB
  obtain rfl := hv
  have hW' := Ext.alloc W (.cells #[.int .i64 x.src, .int .i64 x.dst, .int .i64 x.lo, .int .i64 x.hi] 58)
  have Hp := Lib.hid hp
  clear hp hB
  have eg' := eg
  unfold Enters at eg'
  have hB2 := hW'.cell hB'
  show Calls Try.prog 91 #[_, .pointer (some ⟨B, 0, none⟩)] W _
  go_enter Try.func91, Try.ntmps91
  cases q with
  | true =>
    go_wp2_with fail
    refine (Hp.out _ _ (hW.trans hW') rfl).mono ?_
    rintro e w' ⟨rfl, he⟩
    go_wp2
    go_ret
    exact ⟨rfl, hW'.trans he⟩
  | false =>
    go_wp2_with fail
    refine (Hp.out _ _ (hW.trans hW') rfl).mono ?_
    rintro e w' ⟨rfl, he⟩
    go_wp2
    go_ret
    exact ⟨rfl, hW'.trans he⟩


theorem everyGp (g : Nat) (fs lb : Array Value) (eg : Enters Try.prog g) (p : Gp → Bool) (A : Option Addr) (c : Nat) (xs : List Gp) (w : World) (hb : xs.length ≤ maxLen)
    (hx : GpsAt w A xs) (hp : ∀ x ∈ xs, Tells Try.prog w g fs lb GpVal x (p x)) :
    Calls Try.prog 58 #[.slice A xs.length c, .func (.func g) fs lb] w fun e w' => e = .returned (.bool (xs.all p)) ∧ Ext w w' := by
  have hmf : ∀ (fn : Fn) (first cap : Array Value) (w : World), (Instr.makeFunc fn first cap).run Try.prog w = .ok (.func fn first cap) w := fun _ _ _ _ => rfl
  have hq0 : xs.all p = !(xs.any fun x => !p x) := by rw [List.not_any_eq_all_not]; simp
  obtain ⟨q, hq⟩ : ∃ q, xs.any (fun x => !p x) = q := ⟨_, rfl⟩
  rw [hq0, hq]
  have hE : Ext w (w.alloc (.cells #[.func (.func g) fs lb] 131)) := Ext.alloc _ _
  have h := containsFuncGp 91 #[] #[.pointer (some ⟨w.heap.size, 0, none⟩)] (enters_of Try.func91 (by kernel_rfl) rfl) (fun x => !p x) A c xs _ hb (hx.ext hE) (fun x hxm => everyGp1 g fs lb eg w.heap.size x (p x) _ ((hp x hxm).ext hE) (cell_new_l w _ _).1)
  rw [hq] at h
  have H := Lib.hid h; clear h hx hp hq hq0
  go_enter Try.func58, Try.ntmps58
  go_wp2_with fail
  refine H.out.mono ?_
  rintro e w' ⟨rfl, he⟩
  cases q with
  | true =>
    go_wp2
    go_ret
    exact ⟨rfl, hE.trans he⟩
  | false =>
    go_wp2
    go_ret
    exact ⟨rfl, hE.trans he⟩


end Go.Proofs.Pet

namespace Go.Proofs.Pet
open Go Go.RowKit
open Go.Proofs.Clk (Cl Rd Gp Att)

/-- an attic that is right -/
structure AttOk (a : Att) : Prop where
  mins : 1 ≤ a.minutes ∧ a.minutes ≤ 240
  evs : 1 ≤ a.events ∧ a.events ≤ 4
  ncl : a.clocks.length ≤ 3
  nrd : a.reads.length ≤ 8
  ngp : a.gaps.length ≤ 4
  cls : ∀ c, c ∈ a.clocks → (-60 ≤ c.sl ∧ c.sl ≤ c.sh ∧ c.sh ≤ 60 ∧ c.sh - c.sl ≤ 4) ∧ (-30 ≤ c.gl ∧ c.gl ≤ c.gh ∧ c.gh ≤ 30 ∧ c.gh - c.gl ≤ 4)
  rds : ∀ r, r ∈ a.reads → (-999 ≤ r.shows ∧ r.shows ≤ 999) ∧ (0 ≤ r.clock ∧ r.clock < a.clocks.length) ∧ (0 ≤ r.event ∧ r.event < a.events)
  gps : ∀ g, g ∈ a.gaps → (0 ≤ g.src ∧ g.src < a.events) ∧ (0 ≤ g.dst ∧ g.dst < a.events) ∧ (-240 ≤ g.lo ∧ g.lo ≤ g.hi ∧ g.hi ≤ 240)
theorem AttOk.aok {a : Att} (h : AttOk a) : Clk.AOk a := by
  have he := h.evs
  exact ⟨fun r hr => by have := (h.rds r hr).2.2; omega, fun g hg => by have := h.gps g hg; omega⟩
def AttVal (w : World) (v : Value) (a : Att) : Prop :=
  ∃ A1 c1 A2 c2 A3 c3, v = .agg #[.int .i64 a.minutes, .int .i64 a.events, .slice A1 a.clocks.length c1, .slice A2 a.reads.length c2, .slice A3 a.gaps.length c3] ∧ (a.clocks.length ≤ c1 ∧ c1 ≤ maxLen) ∧ (a.reads.length ≤ c2 ∧ c2 ≤ maxLen) ∧ (a.gaps.length ≤ c3 ∧ c3 ≤ maxLen) ∧ ClsAt w A1 a.clocks ∧ RdsAt w A2 a.reads ∧ GpsAt w A3 a.gaps
theorem AttVal.ext {w w' : World} {v : Value} {a : Att} (h : AttVal w v a) (he : Ext w w') : AttVal w' v a := by
  obtain ⟨A1, c1, A2, c2, A3, c3, h1, h2, h3, h4, h5, h6, h7⟩ := h
  exact ⟨A1, c1, A2, c2, A3, c3, h1, h2, h3, h4, h5.ext he, h6.ext he, h7.ext he⟩
theorem Blk.c5 {w : World} {b : Nat} {t : TypeId} {v0 v1 v2 v3 v4 : Value} (h : Blk w b t #[v0, v1, v2, v3, v4]) : w.cell? ⟨b, 0, none⟩ = some v0 ∧ w.cell? ⟨b, 1, none⟩ = some v1 ∧ w.cell? ⟨b, 2, none⟩ = some v2 ∧ w.cell? ⟨b, 3, none⟩ = some v3 ∧ w.cell? ⟨b, 4, none⟩ = some v4 := ⟨h.cell 0, h.cell 1, h.cell 2, h.cell 3, h.cell 4⟩
theorem inC_yes {n lo hi : Int} (h : lo ≤ n ∧ n ≤ hi) (w : World) : Calls Try.prog 51 #[.int .i64 n, .int .i64 lo, .int .i64 hi] w fun e w' => e = .returned (.bool true) ∧ w = w' :=
  inC_any n lo hi true (by unfold inB; simp; omega) w
theorem within_any (lo hi most : Int) (hm : 0 ≤ most ∧ most ≤ 1000) (h1 : -most ≤ lo ∧ lo ≤ most) (h2 : -most ≤ hi ∧ hi ≤ most) (w : World) :
    Calls Try.prog 55 #[.agg #[.int .i64 lo, .int .i64 hi], .int .i64 most] w fun e w' => e = .returned (.bool true) ∧ Ext w w' := by
  have hE := Ext.alloc w (.cells #[.int .i64 lo, .int .i64 hi] 52)
  have i1 := Lib.hid (inC_yes h1 (w.alloc (.cells #[.int .i64 lo, .int .i64 hi] 52)))
  have i2 := Lib.hid (inC_yes h2 (w.alloc (.cells #[.int .i64 lo, .int .i64 hi] 52)))
  go_enter Try.func55, Try.ntmps55
  go_wp2_with fail
  refine i1.out.mono ?_
  rintro e w1 ⟨rfl, rfl⟩
  go_wp2_with fail
  refine i2.out.mono ?_
  rintro e w1 ⟨rfl, rfl⟩
  go_wp2_with fail
  go_ret
  exact ⟨rfl, hE⟩
theorem orderedC_any (lo hi : Int) (h : lo ≤ hi) (w : World) :
    Calls Try.prog 64 #[.agg #[.int .i64 lo, .int .i64 hi]] w fun e w' => e = .returned (.bool true) ∧ Ext w w' := by
  have hE := Ext.alloc w (.cells #[.int .i64 lo, .int .i64 hi] 52)
  go_enter Try.func64, Try.ntmps64
  go_wp2_with fail
  go_ret
  exact ⟨by first | (simp; done) | simpa using h, hE⟩
theorem checkC1 (w : World) (x : Cl) (h : (-60 ≤ x.sl ∧ x.sl ≤ x.sh ∧ x.sh ≤ 60) ∧ (-30 ≤ x.gl ∧ x.gl ≤ x.gh ∧ x.gh ≤ 30)) : Tells Try.prog w 54 #[] #[] ClVal x true := by
  intro W v hW hv
  obtain rfl := hv
  have hE := Ext.alloc W (.cells #[.int .i64 x.sl, .int .i64 x.sh, .int .i64 x.gl, .int .i64 x.gh] 64)
  obtain ⟨k0, k1, k2, k3⟩ := (Blk.new W 64 #[.int .i64 x.sl, .int .i64 x.sh, .int .i64 x.gl, .int .i64 x.gh]).c4
  have H1 := Lib.hid (fun W' => within_any x.sl x.sh 60 (by omega) (by omega) (by omega) W')
  have H2 := Lib.hid (fun W' => within_any x.gl x.gh 30 (by omega) (by omega) (by omega) W')
  show Calls Try.prog 54 #[_] W _
  go_enter Try.func54, Try.ntmps54
  go_wp2_with fail
  refine (H1.out _).mono ?_
  rintro e w1 ⟨rfl, he1⟩
  replace k2 := he1.cell k2
  replace k3 := he1.cell k3
  clear k0 k1
  go_wp2_with fail
  refine (H2.out _).mono ?_
  rintro e w2 ⟨rfl, he2⟩
  go_wp2
  go_ret
  exact ⟨rfl, hE.trans (he1.trans he2)⟩
theorem checkC2 (w : World) (x : Rd) (h : -999 ≤ x.shows ∧ x.shows ≤ 999) : Tells Try.prog w 57 #[] #[] RdVal x true := by
  intro W v hW hv
  obtain rfl := hv
  have hE := Ext.alloc W (.cells #[.int .i64 x.clock, .int .i64 x.event, .int .i64 x.shows] 66)
  have H1 := Lib.hid (inC_yes h (W.alloc (.cells #[.int .i64 x.clock, .int .i64 x.event, .int .i64 x.shows] 66)))
  show Calls Try.prog 57 #[_] W _
  go_enter Try.func57, Try.ntmps57
  go_wp2_with fail
  refine H1.out.mono ?_
  rintro e w1 ⟨rfl, rfl⟩
  go_wp2
  go_ret
  exact ⟨rfl, hE⟩
theorem checkC3 (w : World) (x : Gp) (h : -240 ≤ x.lo ∧ x.lo ≤ x.hi ∧ x.hi ≤ 240) : Tells Try.prog w 59 #[] #[] GpVal x true := by
  intro W v hW hv
  obtain rfl := hv
  have hE := Ext.alloc W (.cells #[.int .i64 x.src, .int .i64 x.dst, .int .i64 x.lo, .int .i64 x.hi] 58)
  obtain ⟨k0, k1, k2, k3⟩ := (Blk.new W 58 #[.int .i64 x.src, .int .i64 x.dst, .int .i64 x.lo, .int .i64 x.hi]).c4
  have H1 := Lib.hid (fun W' => within_any x.lo x.hi 240 (by omega) (by omega) (by omega) W')
  show Calls Try.prog 59 #[_] W _
  go_enter Try.func59, Try.ntmps59
  go_wp2_with fail
  refine (H1.out _).mono ?_
  rintro e w1 ⟨rfl, he1⟩
  go_wp2
  go_ret
  exact ⟨rfl, hE.trans he1⟩
theorem checkC6 (w : World) (x : Cl) (h : x.sl ≤ x.sh ∧ x.gl ≤ x.gh) : Tells Try.prog w 63 #[] #[] ClVal x true := by
  intro W v hW hv
  obtain rfl := hv
  have hE := Ext.alloc W (.cells #[.int .i64 x.sl, .int .i64 x.sh, .int .i64 x.gl, .int .i64 x.gh] 64)
  obtain ⟨k0, k1, k2, k3⟩ := (Blk.new W 64 #[.int .i64 x.sl, .int .i64 x.sh, .int .i64 x.gl, .int .i64 x.gh]).c4
  have H1 := Lib.hid (fun W' => orderedC_any x.sl x.sh h.1 W')
  have H2 := Lib.hid (fun W' => orderedC_any x.gl x.gh h.2 W')
  show Calls Try.prog 63 #[_] W _
  go_enter Try.func63, Try.ntmps63
  go_wp2_with fail
  refine (H1.out _).mono ?_
  rintro e w1 ⟨rfl, he1⟩
  replace k2 := he1.cell k2
  replace k3 := he1.cell k3
  clear k0 k1
  go_wp2_with fail
  refine (H2.out _).mono ?_
  rintro e w2 ⟨rfl, he2⟩
  go_wp2
  go_ret
  exact ⟨rfl, hE.trans (he1.trans he2)⟩
theorem checkC7 (w : World) (x : Gp) (h : x.lo ≤ x.hi) : Tells Try.prog w 65 #[] #[] GpVal x true := by
  intro W v hW hv
  obtain rfl := hv
  have hE := Ext.alloc W (.cells #[.int .i64 x.src, .int .i64 x.dst, .int .i64 x.lo, .int .i64 x.hi] 58)
  obtain ⟨k0, k1, k2, k3⟩ := (Blk.new W 58 #[.int .i64 x.src, .int .i64 x.dst, .int .i64 x.lo, .int .i64 x.hi]).c4
  have H1 := Lib.hid (fun W' => orderedC_any x.lo x.hi h W')
  show Calls Try.prog 65 #[_] W _
  go_enter Try.func65, Try.ntmps65
  go_wp2_with fail
  refine (H1.out _).mono ?_
  rintro e w1 ⟨rfl, he1⟩
  go_wp2
  go_ret
  exact ⟨rfl, hE.trans he1⟩
theorem checkC8 (w : World) (x : Cl) (h : (-60 ≤ x.sl ∧ x.sl ≤ x.sh ∧ x.sh ≤ 60 ∧ x.sh - x.sl ≤ 4) ∧ (-30 ≤ x.gl ∧ x.gl ≤ x.gh ∧ x.gh ≤ 30 ∧ x.gh - x.gl ≤ 4)) : Tells Try.prog w 66 #[] #[] ClVal x true := by
  intro W v hW hv
  obtain rfl := hv
  have hE := Ext.alloc W (.cells #[.int .i64 x.sl, .int .i64 x.sh, .int .i64 x.gl, .int .i64 x.gh] 64)
  obtain ⟨k0, k1, k2, k3⟩ := (Blk.new W 64 #[.int .i64 x.sl, .int .i64 x.sh, .int .i64 x.gl, .int .i64 x.gh]).c4
  have d1 : decide (x.sh - x.sl ≤ 4) = true := by simp; omega
  have d2 : decide (x.gh - x.gl ≤ 4) = true := by simp; omega
  show Calls Try.prog 66 #[_] W _
  go_enter Try.func66, Try.ntmps66
  go_wp2_with fail
  go_ret
  exact ⟨by first | rfl | simp [d1, d2], hE⟩
theorem eventC_any (a : Att) (v : Value) (n : Int) (q : Bool) (hq : inB n 0 (a.events - 1) = q) (he : -1000 ≤ a.events ∧ a.events ≤ 1000) (w : World) (hv : AttVal w v a) :
    Calls Try.prog 26 #[v, .int .i64 n] w fun e w' => e = .returned (.bool q) ∧ Ext w w' := by
  obtain ⟨A1, c1, A2, c2, A3, c3, rfl, -, -, -, -, -, -⟩ := hv
  have hE := Ext.alloc w (.cells #[.int .i64 a.minutes, .int .i64 a.events, .slice A1 a.clocks.length c1, .slice A2 a.reads.length c2, .slice A3 a.gaps.length c3] 27)
  obtain ⟨k0, k1, k2, k3, k4⟩ := (Blk.new w 27 #[.int .i64 a.minutes, .int .i64 a.events, .slice A1 a.clocks.length c1, .slice A2 a.reads.length c2, .slice A3 a.gaps.length c3]).c5
  have H := Lib.hid (fun W => inC_any n 0 (a.events - 1) q hq W)
  clear hq
  go_enter Try.func26, Try.ntmps26
  go_wp2_with fail
  refine (H.out _).mono ?_
  rintro e w1 ⟨rfl, rfl⟩
  go_wp2
  go_ret
  exact ⟨rfl, hE⟩
theorem clockC_any (a : Att) (v : Value) (n : Int) (hn : 0 ≤ n ∧ n < a.clocks.length) (w : World) (hv : AttVal w v a) :
    Calls Try.prog 61 #[v, .int .i64 n] w fun e w' => e = .returned (.bool true) ∧ Ext w w' := by
  obtain ⟨A1, c1, A2, c2, A3, c3, rfl, g1, -, -, -, -, -⟩ := hv
  have hE := Ext.alloc w (.cells #[.int .i64 a.minutes, .int .i64 a.events, .slice A1 a.clocks.length c1, .slice A2 a.reads.length c2, .slice A3 a.gaps.length c3] 27)
  obtain ⟨k0, k1, k2, k3, k4⟩ := (Blk.new w 27 #[.int .i64 a.minutes, .int .i64 a.events, .slice A1 a.clocks.length c1, .slice A2 a.reads.length c2, .slice A3 a.gaps.length c3]).c5
  unfold maxLen at g1
  have H := Lib.hid (fun W => inC_yes (n := n) (lo := 0) (hi := (a.clocks.length : Int) - 1) (by omega) W)
  go_enter Try.func61, Try.ntmps61
  go_wp2_with fail
  refine (H.out _).mono ?_
  rintro e w1 ⟨rfl, rfl⟩
  go_wp2
  go_ret
  exact ⟨rfl, hE⟩
end Go.Proofs.Pet

namespace Go.Proofs.Clk
theorem floor60 (x : Int) : Int.tdiv (if x < 0 then x - 59 else x) 60 = x / 60 := by
  split
  · rename_i h
    have h1 : x - 59 < 0 := by omega
    have h2 : Int.tdiv (x - 59) 60 = -((59 - x) / 60) := by
      rw [show x - 59 = -(59 - x) by omega, Int.neg_tdiv, Int.tdiv_eq_ediv_of_nonneg (by omega)]
    rw [h2]; omega
  · rename_i h
    rw [Int.tdiv_eq_ediv_of_nonneg (by omega)]
end Go.Proofs.Clk
namespace Go.Proofs.Pet
open Go Go.RowKit
open Go.Proofs.Clk (Cl Rd Gp Att shF whenT)

set_option maxHeartbeats 1000000 in
theorem checkC4 (w : World) (B E : Nat) (av : Value) (a : Att) (hB : Hid (∀ W, Ext w W → ∃ A1 c1 A2 c2 A3 c3, av = .agg #[.int .i64 a.minutes, .int .i64 a.events, .slice A1 a.clocks.length c1, .slice A2 a.reads.length c2, .slice A3 a.gaps.length c3] ∧ Blk W B 27 #[.int .i64 a.minutes, .int .i64 a.events, .slice A1 a.clocks.length c1, .slice A2 a.reads.length c2, .slice A3 a.gaps.length c3])) (hE : w.cell? ⟨E, 0, none⟩ = some (.func (.func 26) #[av] #[])) (hv : AttVal w av a) (ha : 1 ≤ a.events ∧ a.events ≤ 4) (x : Rd) (h : (0 ≤ x.clock ∧ x.clock < a.clocks.length) ∧ (0 ≤ x.event ∧ x.event < a.events)) :
    Tells Try.prog w 60 #[] #[.pointer (some ⟨B, 0, none⟩), .pointer (some ⟨E, 0, none⟩)] RdVal x true := by
  intro W v hW hv2
  obtain rfl := hv2
  have hX := Ext.alloc W (.cells #[.int .i64 x.clock, .int .i64 x.event, .int .i64 x.shows] 66)
  obtain ⟨k0, k1, k2⟩ := (Blk.new W 66 #[.int .i64 x.clock, .int .i64 x.event, .int .i64 x.shows]).c3
  obtain ⟨A1, c1, A2, c2, A3, c3, rfl, hBW⟩ := hB.out _ (hW.trans hX)
  obtain ⟨b0, b1, b2, b3, b4⟩ := hBW.c5
  have hE' := (hW.trans hX).cell hE
  have Hv := Lib.hid (fun W' (he : Ext w W') => hv.ext he)
  have H1 := Lib.hid (fun W' he => clockC_any a _ x.clock h.1 W' (Hv.out W' he))
  have H2 := Lib.hid (fun W' he => eventC_any a _ x.event true (by unfold inB; simp; omega) (by omega) W' (Hv.out W' he))
  have hWX := hW.trans hX
  clear hB hE hv hBW
  show Calls Try.prog 60 #[_, .pointer (some ⟨B, 0, none⟩), .pointer (some ⟨E, 0, none⟩)] W _
  go_enter Try.func60, Try.ntmps60
  go_wp2_with fail
  refine (H1.out _ hWX).mono ?_
  rintro e w1 ⟨rfl, he1⟩
  replace hE' := he1.cell hE'
  replace k1 := he1.cell k1
  have h2 := Lib.hid (H2.out w1 (hWX.trans he1))
  clear k0 k2 b0 b1 b2 b3 b4 H1 H2
  go_wp2_with fail
  refine h2.out.mono ?_
  rintro e w2 ⟨rfl, he2⟩
  go_wp2
  go_ret
  exact ⟨rfl, hX.trans (he1.trans he2)⟩
theorem checkC5 (w : World) (E : Nat) (av : Value) (a : Att) (hE : w.cell? ⟨E, 0, none⟩ = some (.func (.func 26) #[av] #[])) (hv : AttVal w av a) (ha : 1 ≤ a.events ∧ a.events ≤ 4) (x : Gp) (h : (0 ≤ x.src ∧ x.src < a.events) ∧ (0 ≤ x.dst ∧ x.dst < a.events)) :
    Tells Try.prog w 62 #[] #[.pointer (some ⟨E, 0, none⟩)] GpVal x true := by
  intro W v hW hv2
  obtain rfl := hv2
  have hX := Ext.alloc W (.cells #[.int .i64 x.src, .int .i64 x.dst, .int .i64 x.lo, .int .i64 x.hi] 58)
  obtain ⟨k0, k1, k2, k3⟩ := (Blk.new W 58 #[.int .i64 x.src, .int .i64 x.dst, .int .i64 x.lo, .int .i64 x.hi]).c4
  have hWX := hW.trans hX
  have hE' := hWX.cell hE
  have Hv := Lib.hid (fun W' (he : Ext w W') => hv.ext he)
  have h1 := Lib.hid (eventC_any a _ x.src true (by unfold inB; simp; omega) (by omega) _ (Hv.out _ hWX))
  have H2 := Lib.hid (fun W' he => eventC_any a _ x.dst true (by unfold inB; simp; omega) (by omega) W' (Hv.out W' he))
  clear hE hv
  show Calls Try.prog 62 #[_, .pointer (some ⟨E, 0, none⟩)] W _
  go_enter Try.func62, Try.ntmps62
  go_wp2_with fail
  refine h1.out.mono ?_
  rintro e w1 ⟨rfl, he1⟩
  replace hE' := he1.cell hE'
  replace k1 := he1.cell k1
  have h2 := Lib.hid (H2.out w1 (hWX.trans he1))
  clear k0 k2 k3 h1 H2
  go_wp2_with fail
  refine h2.out.mono ?_
  rintro e w2 ⟨rfl, he2⟩
  go_wp2
  go_ret
  exact ⟨rfl, hX.trans (he1.trans he2)⟩
theorem showsC_any (s g m : Int) (hs : -60 ≤ s ∧ s ≤ 60) (hg : -30 ≤ g ∧ g ≤ 30) (hm : 0 ≤ m ∧ m ≤ 240) (w : World) :
    Calls Try.prog 96 #[.agg #[.int .i64 s, .int .i64 g], .int .i64 m] w fun e w' => e = .returned (.int .i64 (shF s g m)) ∧ Ext w w' := by
  have hE := Ext.alloc w (.cells #[.int .i64 s, .int .i64 g] 142)
  obtain ⟨k0, k1⟩ := (Blk.new w 142 #[.int .i64 s, .int .i64 g]).c2
  have hb : -7200 ≤ m * g ∧ m * g ≤ 7200 := by
    have h1 : m * g ≤ 240 * 30 := by
      rcases Int.le_total 0 g with h | h
      · exact Int.mul_le_mul hm.2 hg.2 h (by omega)
      · have := Int.mul_nonpos_of_nonneg_of_nonpos hm.1 h; omega
    have h2 : m * (-g) ≤ 240 * 30 := by
      rcases Int.le_total 0 (-g) with h | h
      · exact Int.mul_le_mul hm.2 (by omega) h (by omega)
      · have := Int.mul_nonpos_of_nonneg_of_nonpos hm.1 h; omega
    rw [Int.mul_neg] at h2
    omega
  have hf := Clk.floor60 (m * g)
  have hsh : shF s g m = s + m + m * g / 60 := rfl
  obtain ⟨p, hp⟩ : ∃ p, m * g = p := ⟨_, rfl⟩
  rw [hp] at hb hf hsh
  rw [hsh]
  have Hp := hp
  have Hf := Lib.hid hf
  clear hsh hf
  go_enter Try.func96, Try.ntmps96
  by_cases hneg : p < 0
  · have hd : decide (p < 0) = true := by simpa using hneg
    have hdv : Int.tdiv (p - 59) 60 = p / 60 := by have := Hf.out; rwa [if_pos hneg] at this
    have hbd : -1000 ≤ p / 60 ∧ p / 60 ≤ 1000 := by omega
    go_wp2_with fail
    go_ret
    refine ⟨?_, hE⟩
    first | rfl | (rw [hdv]; rfl) | simp [hdv]
  · have hd : decide (p < 0) = false := by simpa using hneg
    have hdv : Int.tdiv p 60 = p / 60 := by have := Hf.out; rwa [if_neg hneg] at this
    have hbd : -1000 ≤ p / 60 ∧ p / 60 ≤ 1000 := by omega
    go_wp2_with fail
    go_ret
    refine ⟨?_, hE⟩
    first | rfl | (rw [hdv]; rfl) | simp [hdv]
end Go.Proofs.Pet

namespace Go.Proofs.Pet
open Go Go.RowKit
open Go.Proofs.Clk (Cl Rd Gp Att shF whenT)

set_option maxRecDepth 20000 in
set_option maxHeartbeats 2000000 in
theorem whenC_any (s g n m : Int) (hs : -60 ≤ s ∧ s ≤ 60) (hg : -30 ≤ g ∧ g ≤ 30) (hm : 1 ≤ m ∧ m ≤ 240) (w : World) :
    Calls Try.prog 77 #[.agg #[.int .i64 s, .int .i64 g], .int .i64 n, .int .i64 m] w fun e w' => e = .returned (.agg #[.int .i64 (whenT s g n (m + 1).toNat).1, .int .i64 (whenT s g n (m + 1).toNat).2]) ∧ Ext w w' := by
  obtain ⟨M, rfl⟩ : ∃ M : Nat, m = (M : Int) := ⟨m.toNat, by omega⟩
  have hX : Ext w (((w.alloc (.cells #[.int .i64 s, .int .i64 g] 142)).alloc (.cells #[.int .i64 0, .int .i64 0] 52)).alloc (.cells #[.int .i64 1, .int .i64 0] 52)) := ((Ext.alloc _ _).trans (Ext.alloc _ _)).trans (Ext.alloc _ _)
  have hR := ((Blk.new w 142 #[.int .i64 s, .int .i64 g]).alloc (.cells #[.int .i64 0, .int .i64 0] 52)).alloc (.cells #[.int .i64 1, .int .i64 0] 52)
  have hT := (Blk.new (w.alloc (.cells #[.int .i64 s, .int .i64 g] 142)) 52 #[.int .i64 0, .int .i64 0]).alloc (.cells #[.int .i64 1, .int .i64 0] 52)
  have hO := Blk.new ((w.alloc (.cells #[.int .i64 s, .int .i64 g] 142)).alloc (.cells #[.int .i64 0, .int .i64 0] 52)) 52 #[.int .i64 1, .int .i64 0]
  simp only [World.size_alloc] at hT hO
  go_enter Try.func77, Try.ntmps77
  go_wp2_with fail
  generalize ((w.alloc _).alloc _).alloc _ = w1 at *
  go_loopw [12] (fun iv wr => ∃ k : Nat, k ≤ M + 1 ∧ iv = .int .i64 (k : Int) ∧ Hid (Ext w wr) ∧ Hid (Blk wr w.heap.size 142 #[.int .i64 s, .int .i64 g]) ∧ Hid (Blk wr (w.heap.size + 1) 52 #[.int .i64 0, .int .i64 0]) ∧ Hid (Blk wr (w.heap.size + 1 + 1) 52 #[.int .i64 (whenT s g n k).1, .int .i64 (whenT s g n k).2])) (fun iv _ => M + 1 - (intOf iv).toNat)
  case atStart => exact ⟨0, by omega, rfl, Lib.hid hX, Lib.hid hR, Lib.hid hT, Lib.hid hO⟩
  case round =>
    clear hX hR hT hO
    obtain ⟨k, hk, rfl, hE, hR, hT, hO⟩ := hrel
    have hwl := Clk.whenT_lo s g n k
    have hws : Hid (whenT s g n (k + 1) = if shF s g k ≠ n then whenT s g n k else if (whenT s g n k).1 > (whenT s g n k).2 then ((k : Int), (k : Int)) else ((whenT s g n k).1, (k : Int))) := rfl
    obtain ⟨lo, hlo⟩ : ∃ lo, (whenT s g n k).1 = lo := ⟨_, rfl⟩
    obtain ⟨hi, hhi⟩ : ∃ hi, (whenT s g n k).2 = hi := ⟨_, rfl⟩
    have hwk : Hid (whenT s g n k = (lo, hi)) := by unfold Hid; rw [← hlo, ← hhi]
    rw [hlo, hhi] at hO hws hwl
    obtain ⟨r0, r1⟩ := hR.out.c2
    obtain ⟨o0, o1⟩ := hO.out.c2
    have of0 := hO.out.frozen 0
    have of1 := hO.out.frozen 1
    clear hlo hhi
    by_cases hlt : k < M + 1
    · have hsh := Lib.hid (showsC_any s g (k : Int) hs hg (by omega) wr)
      obtain ⟨y, hy⟩ : ∃ y, shF s g (k : Int) = y := ⟨_, rfl⟩
      rw [hy] at hsh hws
      clear hy
      go_wp2_with fail
      refine hsh.out.mono ?_
      rintro e w2 ⟨rfl, he2⟩
      have hE2 := Lib.hid (hE.out.trans he2)
      have hR2 := Lib.hid (hR.out.ext he2)
      have hT2 := Lib.hid (hT.out.ext he2)
      have hO2 := Lib.hid (hO.out.ext he2)
      obtain ⟨o0, o1⟩ := hO2.out.c2
      have of0 := hO2.out.frozen 0
      have of1 := hO2.out.frozen 1
      clear hsh hE hR hT hO he2 r0 r1
      by_cases hyn : y = n
      · subst hyn
        have hw2 := hws.out
        rw [if_neg (by simp)] at hw2
        have Hw2 := Lib.hid hw2
        have hcmp : (y != y) = false := by simp
        clear hw2
        by_cases hlh : hi < lo
        · have Hlh := Lib.hid hlh
          have hd : decide (hi < lo) = true := by simpa using hlh
          have hnew : Hid (Blk ((w2.setCell ⟨w.heap.size + 1 + 1, 0, none⟩ (.int .i64 (k : Int))).setCell ⟨w.heap.size + 1 + 1, 1, none⟩ (.int .i64 (k : Int))) (w.heap.size + 1 + 1) 52 #[.int .i64 (k : Int), .int .i64 (k : Int)]) := Lib.hid (by simpa using (hO2.out.set_ 0 (.int .i64 (k : Int))).set_ 1 (.int .i64 (k : Int)))
          go_wp2_with fail
          go_roundw
          case rel =>
            refine ⟨k + 1, by omega, by go_num, Lib.hid (Below.setCell (Below.setCell hE2.out (p := ⟨w.heap.size + 1 + 1, 0, none⟩) (by show _ ≤ w.heap.size + 1 + 1; omega) _) (p := ⟨w.heap.size + 1 + 1, 1, none⟩) (by show _ ≤ w.heap.size + 1 + 1; omega) _), Lib.hid ((hR2.out.far (by show w.heap.size ≠ w.heap.size + 1 + 1; omega) _).far (by show w.heap.size ≠ w.heap.size + 1 + 1; omega) _), Lib.hid ((hT2.out.far (by show w.heap.size + 1 ≠ w.heap.size + 1 + 1; omega) _).far (by show w.heap.size + 1 ≠ w.heap.size + 1 + 1; omega) _), ?_⟩
            unfold Hid
            rw [Hw2.out, if_pos (by have := Hlh.out; omega)]
            exact hnew.out
          case measure => simp [intOf]; omega
        · have Hlh := Lib.hid hlh
          have hd : decide (hi < lo) = false := by simpa using hlh
          have hnew : Hid (Blk (w2.setCell ⟨w.heap.size + 1 + 1, 1, none⟩ (.int .i64 (k : Int))) (w.heap.size + 1 + 1) 52 #[.int .i64 lo, .int .i64 (k : Int)]) := Lib.hid (by simpa using hO2.out.set_ 1 (.int .i64 (k : Int)))
          go_wp2_with fail
          go_roundw
          case rel =>
            refine ⟨k + 1, by omega, by go_num, Lib.hid (Below.setCell hE2.out (p := ⟨w.heap.size + 1 + 1, 1, none⟩) (by show _ ≤ w.heap.size + 1 + 1; omega) _), Lib.hid (hR2.out.far (by show w.heap.size ≠ w.heap.size + 1 + 1; omega) _), Lib.hid (hT2.out.far (by show w.heap.size + 1 ≠ w.heap.size + 1 + 1; omega) _), ?_⟩
            unfold Hid
            rw [Hw2.out, if_neg (by have := Hlh.out; omega)]
            exact hnew.out
          case measure => simp [intOf]; omega
      · have hw2 := hws.out
        rw [if_pos hyn] at hw2
        have Hw2 := Lib.hid hw2
        have hcmp : (y != n) = true := by simpa using hyn
        clear hw2
        go_wp2_with fail
        go_roundw
        case rel =>
          refine ⟨k + 1, by omega, by go_num, hE2, hR2, hT2, ?_⟩
          unfold Hid
          rw [Hw2.out, hwk.out]
          exact hO2.out
        case measure => simp [intOf]; omega
    · obtain rfl : k = M + 1 := by omega
      have hfin : whenT s g n ((M : Int) + 1).toNat = (lo, hi) := by rw [show ((M : Int) + 1).toNat = M + 1 by omega]; exact hwk.out
      have Hfin := Lib.hid hfin
      obtain ⟨t0, t1⟩ := hT.out.c2
      have tf0 := hT.out.frozen 0
      have tf1 := hT.out.frozen 1
      have hEn := Lib.hid (Below.setCell (Below.setCell hE.out (p := ⟨w.heap.size + 1, 0, none⟩) (by show _ ≤ w.heap.size + 1; omega) (.int .i64 lo)) (p := ⟨w.heap.size + 1, 1, none⟩) (by show _ ≤ w.heap.size + 1; omega) (.int .i64 hi))
      have hTn : Blk ((wr.setCell ⟨w.heap.size + 1, 0, none⟩ (.int .i64 lo)).setCell ⟨w.heap.size + 1, 1, none⟩ (.int .i64 hi)) (w.heap.size + 1) 52 #[.int .i64 lo, .int .i64 hi] := by simpa using (hT.out.set_ 0 (.int .i64 lo)).set_ 1 (.int .i64 hi)
      obtain ⟨z0, z1⟩ := hTn.c2
      clear hfin hwl r0 r1
      go_wp2_with fail
      refine bodyPost_ret (v := .agg #[.int .i64 lo, .int .i64 hi]) ?_ rfl ⟨by rw [Hfin.out], hEn.out⟩
      simp [results, Try.results77, go_sem, z0, z1]
end Go.Proofs.Pet

namespace Go.Proofs.Pet
open Go Go.RowKit
open Go.Proofs.Clk (Cl Rd Gp Att)

theorem all_yes {α : Type} (xs : List α) : (xs.all fun _ => true) = true := by
  rw [List.all_eq_true]; intro x _; rfl
set_option maxRecDepth 20000 in
set_option maxHeartbeats 4000000 in
theorem checkC_any (v : Value) (a : Att) (h : AttOk a) (w : World) (hv : AttVal w v a) :
    Calls Try.prog 28 #[v] w fun e w' => e = .returned (.int .i64 0) ∧ Ext w w' := by
  have hmf : ∀ (fn : Fn) (first cap : Array Value) (w : World), (Instr.makeFunc fn first cap).run Try.prog w = .ok (.func fn first cap) w := fun _ _ _ _ => rfl
  have Hv := Lib.hid hv
  obtain ⟨A1, c1, A2, c2, A3, c3, rfl, h1, h2, h3, h4, h5, h6⟩ := hv
  have hX1 := Ext.alloc w (.cells #[.int .i64 a.minutes, .int .i64 a.events, .slice A1 a.clocks.length c1, .slice A2 a.reads.length c2, .slice A3 a.gaps.length c3] 27)
  have hB := Blk.new w 27 #[.int .i64 a.minutes, .int .i64 a.events, .slice A1 a.clocks.length c1, .slice A2 a.reads.length c2, .slice A3 a.gaps.length c3]
  have hX2 := Ext.alloc (w.alloc (.cells #[.int .i64 a.minutes, .int .i64 a.events, .slice A1 a.clocks.length c1, .slice A2 a.reads.length c2, .slice A3 a.gaps.length c3] 27)) (.cells #[.func (.func 26) #[.agg #[.int .i64 a.minutes, .int .i64 a.events, .slice A1 a.clocks.length c1, .slice A2 a.reads.length c2, .slice A3 a.gaps.length c3]] #[]] 71)
  have hE2 := (cell_new_l (w.alloc (.cells #[.int .i64 a.minutes, .int .i64 a.events, .slice A1 a.clocks.length c1, .slice A2 a.reads.length c2, .slice A3 a.gaps.length c3] 27)) (.func (.func 26) #[.agg #[.int .i64 a.minutes, .int .i64 a.events, .slice A1 a.clocks.length c1, .slice A2 a.reads.length c2, .slice A3 a.gaps.length c3]] #[]) 71).1
  simp only [World.size_alloc] at hE2
  have hB2 := hB.ext hX2
  have hX := hX1.trans hX2
  have hcl := h.ncl
  have hrd := h.nrd
  have hgp := h.ngp
  have hmn := h.mins
  have hev := h.evs
  have g1 : a.clocks.length ≤ maxLen := by unfold maxLen; omega
  have g2 : a.reads.length ≤ maxLen := by unfold maxLen; omega
  have g3 : a.gaps.length ≤ maxLen := by unfold maxLen; omega
  have i1 := Lib.hid (fun W => inC_yes (n := a.minutes) (lo := 1) (hi := 240) hmn W)
  have i2 := Lib.hid (fun W => inC_yes (n := a.events) (lo := 1) (hi := 4) hev W)
  generalize hw2 : ((w.alloc _).alloc _) = w2 at *
  -- what every says at whatever later memory
  have e1 := Lib.hid (fun W (he : Ext w2 W) => everyCl 54 #[] #[] (enters_of Try.func54 (by kernel_rfl) rfl) (fun _ => true) A1 c1 a.clocks W g1 (h4.ext (hX.trans he)) (fun x hx => checkC1 W x (by have := h.cls x hx; omega)))
  have e2 := Lib.hid (fun W (he : Ext w2 W) => everyRd 57 #[] #[] (enters_of Try.func57 (by kernel_rfl) rfl) (fun _ => true) A2 c2 a.reads W g2 (h5.ext (hX.trans he)) (fun x hx => checkC2 W x (h.rds x hx).1))
  have e3 := Lib.hid (fun W (he : Ext w2 W) => everyGp 59 #[] #[] (enters_of Try.func59 (by kernel_rfl) rfl) (fun _ => true) A3 c3 a.gaps W g3 (h6.ext (hX.trans he)) (fun x hx => checkC3 W x (h.gps x hx).2.2))
  have e4 := Lib.hid (fun W (he : Ext w2 W) => everyRd 60 #[] #[.pointer (some ⟨w.heap.size, 0, none⟩), .pointer (some ⟨w.heap.size + 1, 0, none⟩)] (enters_of Try.func60 (by kernel_rfl) rfl) (fun _ => true) A2 c2 a.reads W g2 (h5.ext (hX.trans he)) (fun x hx => checkC4 W w.heap.size (w.heap.size + 1) _ a (Lib.hid (fun W2 h2 => ⟨A1, c1, A2, c2, A3, c3, rfl, hB2.ext (he.trans h2)⟩)) (he.cell hE2) (Hv.out.ext (hX.trans he)) hev x (h.rds x hx).2))
  have e5 := Lib.hid (fun W (he : Ext w2 W) => everyGp 62 #[] #[.pointer (some ⟨w.heap.size + 1, 0, none⟩)] (enters_of Try.func62 (by kernel_rfl) rfl) (fun _ => true) A3 c3 a.gaps W g3 (h6.ext (hX.trans he)) (fun x hx => checkC5 W (w.heap.size + 1) _ a (he.cell hE2) (Hv.out.ext (hX.trans he)) hev x ⟨(h.gps x hx).1, (h.gps x hx).2.1⟩))
  have e6 := Lib.hid (fun W (he : Ext w2 W) => everyCl 63 #[] #[] (enters_of Try.func63 (by kernel_rfl) rfl) (fun _ => true) A1 c1 a.clocks W g1 (h4.ext (hX.trans he)) (fun x hx => checkC6 W x (by have := h.cls x hx; omega)))
  have e7 := Lib.hid (fun W (he : Ext w2 W) => everyGp 65 #[] #[] (enters_of Try.func65 (by kernel_rfl) rfl) (fun _ => true) A3 c3 a.gaps W g3 (h6.ext (hX.trans he)) (fun x hx => checkC7 W x (h.gps x hx).2.2.2.1))
  have e8 := Lib.hid (fun W (he : Ext w2 W) => everyCl 66 #[] #[] (enters_of Try.func66 (by kernel_rfl) rfl) (fun _ => true) A1 c1 a.clocks W g1 (h4.ext (hX.trans he)) (fun x hx => checkC8 W x (h.cls x hx)))
  simp only [all_yes] at e1 e2 e3 e4 e5 e6 e7 e8
  have HB2 := Lib.hid hB2
  have HX := Lib.hid hX
  obtain ⟨b0, b1, b2, b3, b4⟩ := hB2.c5
  have x0 := Lib.hid (Ext.refl w2)
  clear h4 h5 h6 h1 h2 h3 hB hE2 hB2 hX hX1 hX2 h
  subst hw2
  go_enter Try.func28, Try.ntmps28
  go_wp2_with fail
  generalize ((w.alloc _).alloc _) = w2 at *
  refine (i1.out w2).mono ?_
  rintro e w3 ⟨rfl, rfl⟩
  go_wp2_with fail
  refine (i2.out w2).mono ?_
  rintro e w3 ⟨rfl, rfl⟩
  have E := Lib.hid (Ext.refl w2)
  clear i1 i2 x0
  go_wp2_with fail
  refine (e1.out w2 E.out).mono ?_
  rintro e v1 ⟨rfl, he⟩
  replace E := Lib.hid (E.out.trans he)
  replace b0 := he.cell b0; replace b1 := he.cell b1; replace b2 := he.cell b2; replace b3 := he.cell b3; replace b4 := he.cell b4
  clear he e1
  go_wp2_with fail
  refine (e2.out v1 E.out).mono ?_
  rintro e v2 ⟨rfl, he⟩
  replace E := Lib.hid (E.out.trans he)
  replace b0 := he.cell b0; replace b1 := he.cell b1; replace b2 := he.cell b2; replace b3 := he.cell b3; replace b4 := he.cell b4
  clear he e2
  go_wp2_with fail
  refine (e3.out v2 E.out).mono ?_
  rintro e v3 ⟨rfl, he⟩
  replace E := Lib.hid (E.out.trans he)
  replace b0 := he.cell b0; replace b1 := he.cell b1; replace b2 := he.cell b2; replace b3 := he.cell b3; replace b4 := he.cell b4
  clear he e3
  go_wp2_with fail
  refine (e4.out v3 E.out).mono ?_
  rintro e v4 ⟨rfl, he⟩
  replace E := Lib.hid (E.out.trans he)
  replace b0 := he.cell b0; replace b1 := he.cell b1; replace b2 := he.cell b2; replace b3 := he.cell b3; replace b4 := he.cell b4
  clear he e4
  go_wp2_with fail
  refine (e5.out v4 E.out).mono ?_
  rintro e v5 ⟨rfl, he⟩
  replace E := Lib.hid (E.out.trans he)
  replace b0 := he.cell b0; replace b1 := he.cell b1; replace b2 := he.cell b2; replace b3 := he.cell b3; replace b4 := he.cell b4
  clear he e5
  go_wp2_with fail
  refine (e6.out v5 E.out).mono ?_
  rintro e v6 ⟨rfl, he⟩
  replace E := Lib.hid (E.out.trans he)
  replace b0 := he.cell b0; replace b1 := he.cell b1; replace b2 := he.cell b2; replace b3 := he.cell b3; replace b4 := he.cell b4
  clear he e6
  go_wp2_with fail
  refine (e7.out v6 E.out).mono ?_
  rintro e v7 ⟨rfl, he⟩
  replace E := Lib.hid (E.out.trans he)
  replace b0 := he.cell b0; replace b1 := he.cell b1; replace b2 := he.cell b2; replace b3 := he.cell b3; replace b4 := he.cell b4
  clear he e7
  go_wp2_with fail
  refine (e8.out v7 E.out).mono ?_
  rintro e v8 ⟨rfl, he⟩
  replace E := Lib.hid (E.out.trans he)
  replace b0 := he.cell b0; replace b1 := he.cell b1; replace b2 := he.cell b2; replace b3 := he.cell b3; replace b4 := he.cell b4
  clear he e8
  clear b0 b1 b2 b3 b4
  go_wp2_with fail
  go_ret
  exact ⟨rfl, HX.out.trans E.out⟩
end Go.Proofs.Pet

namespace Go.Proofs.Pet
open Go Go.RowKit Go.Maps Go.WideMaps
open Go.Proofs.Clk (atD setD minD passT relax)

def farA (f : List Int) : Array Value := (f.map (Value.int .i64)).toArray
theorem farA_size (f : List Int) : (farA f).size = f.length := by simp [farA]
def FarAt (w : World) (b : Nat) (f : List Int) : Prop := Blk w b 118 (farA f) ∧ f.length = 25
theorem FarAt.ext {w w' : World} {b : Nat} {f : List Int} (h : FarAt w b f) (he : Ext w w') : FarAt w' b f := ⟨h.1.ext he, h.2⟩
theorem FarAt.cell {w : World} {b : Nat} {f : List Int} (h : FarAt w b f) {a c : Nat} (ha : a < 5) (hc : c < 5) : w.cell? ⟨b, a * 5 + c, none⟩ = some (.int .i64 (atD f a c)) := by
  rw [h.1.cell]
  unfold farA atD
  rw [List.getElem?_toArray, List.getElem?_map, show a * 5 + c = 5 * a + c by omega, List.getElem?_eq_getElem (by rw [h.2]; omega)]
  rfl
theorem FarAt.set_ {w : World} {b : Nat} {f : List Int} (h : FarAt w b f) {a c : Nat} (_ha : a < 5) (_hc : c < 5) (v : Int) : FarAt (w.setCell ⟨b, a * 5 + c, none⟩ (.int .i64 v)) b (setD f a c v) := by
  refine ⟨?_, by rw [Clk.setD_len]; exact h.2⟩
  have := h.1.set_ (a * 5 + c) (.int .i64 v)
  unfold farA setD at *
  rw [List.map_set, show 5 * a + c = a * 5 + c by omega]
  simpa using this
theorem FarAt.far {w : World} {b g i : Nat} {f : List Int} (h : FarAt w b f) (hne : b ≠ g) (v : Value) : FarAt (w.setCell ⟨g, i, none⟩ v) b f := ⟨h.1.far hne v, h.2⟩
theorem farRow : (118 : TypeId) < Try.prog.types.size := of_decide_eq_true (by kernel_rfl)
theorem farLaw : KeyLaw Try.prog 118 := deep_law_laid laidOut_ (m := 3) (by omega) farRow (by kernel_rfl) (by rw [Try.underlying118])
theorem farKeyed : Keyed Try.prog 118 := Keyed.of_law farLaw
theorem keyOf_far {f : List Int} (hf : f.length = 25) (hb : ∀ x, x ∈ f → -1000000000000 ≤ x ∧ x ≤ 1000000000000) : keyOf Try.prog 118 (.agg (farA f)) = some (.string (keyBytes (f.map (Lit.int .i64)))) := by
  have hw : ∀ x, x ∈ f → (Lit.int .i64 x).wf = true := fun x hx => WalkArith.wf_i64 (by have := hb x hx; omega)
  have hc : Try.prog.cellsOf 118 = 25 := by kernel_rfl
  have hc5 : Try.prog.cellsOf 116 = 5 := by kernel_rfl
  have hci : Try.prog.cellsOf 3 = 1 := by kernel_rfl
  have hkt : Try.prog.keyType 118 = true := by kernel_rfl
  have hpos : 2 < Try.prog.types.size := of_decide_eq_true (by kernel_rfl)
  obtain ⟨m, hm⟩ : ∃ m, Try.prog.types.size = m + 2 := ⟨Try.prog.types.size - 2, by omega⟩
  have hr5 : List.range 5 = [0, 1, 2, 3, 4] := rfl
  unfold keyOf
  simp only [Try.underlying118]
  rw [if_pos (by simp [hkt, Value.formed, Try.underlying118, hc, farA_size, hf]), hm]
  match f, hf with
  | [a0, a1, a2, a3, a4, a5, a6, a7, a8, a9, a10, a11, a12, a13, a14, a15, a16, a17, a18, a19, a20, a21, a22, a23, a24], _ =>
    simp only [List.mem_cons, List.not_mem_nil, or_false, forall_eq_or_imp, forall_eq] at hw
    simp [Try.underlying118, Value.cells, hc, hci, hc5, Program.keyLits, Try.underlying116, Try.underlying3, hw, farA, hr5]
end Go.Proofs.Pet

namespace Go.Proofs.Pet
open Go Go.RowKit Go.Maps Go.WideMaps
open Go.Proofs.Clk (atD setD minD passT relax iter pass)

theorem farA_inj {f g : List Int} (h : farA f = farA g) : f = g := by
  unfold farA at h
  have h2 : f.map (Value.int .i64) = g.map (Value.int .i64) := by
    have := congrArg Array.toList h
    simpa using this
  refine List.map_inj_right (fun x y e => ?_) |>.1 h2
  injection e
theorem eql_far {f g : List Int} (hf : f.length = 25) (hg : g.length = 25) (bf : ∀ x, x ∈ f → -1000000000000 ≤ x ∧ x ≤ 1000000000000) (bg : ∀ x, x ∈ g → -1000000000000 ≤ x ∧ x ≤ 1000000000000) (W : World) :
    (binOp .eql 118 (.agg (farA f)) (.agg (farA g))).run Try.prog W = .ok (.bool (decide (f = g))) W := by
  obtain ⟨r, h1, h2⟩ := run_equal_deep (P := Try.prog) W (m := 3) (by omega) (k := 118) (by kernel_rfl) (by rw [Try.underlying118]) (keyOf_far hf bf) (keyOf_far hg bg)
  have hr : r = decide (f = g) := by
    rw [Bool.eq_iff_iff, h2, decide_eq_true_eq]
    constructor
    · intro e
      have k1 := keyOf_far hf bf
      rw [e] at k1
      have := farKeyed.inj k1 (keyOf_far hg bg)
      have h3 := Value.agg.inj this
      exact farA_inj h3
    · intro e; rw [e]
  show ((do pure (.bool (← Op.equal 118 (.agg (farA f)) (.agg (farA g))))) : Sem Value).run Try.prog W = _
  rw [hr] at h1
  generalize decide (f = g) = q at *
  simp only [Sem.run_bind, h1, Result.andThen_ok, Sem.run_pure]
/-- all numbers of a list of distances, one by one -/
theorem all_atD {f : List Int} (hf : f.length = 25) {p : Int → Prop} (h : ∀ a c, a < 5 → c < 5 → p (atD f a c)) : ∀ x, x ∈ f → p x := by
  intro x hx
  obtain ⟨i, hi, rfl⟩ := List.mem_iff_getElem.1 hx
  have := h (i / 5) (i % 5) (by omega) (by omega)
  unfold atD at this
  rw [show 5 * (i / 5) + i % 5 = i by omega, List.getElem?_eq_getElem hi] at this
  exact this
/-- what is left to fall -/
def farLeft (w : World) (b : Nat) : Nat := (((List.range 25).map fun i => match w.cell? ⟨b, i, none⟩ with | some (.int _ x) => x + 1866240 | _ => 0).sum).toNat
theorem FarAt.left {w : World} {b : Nat} {f : List Int} (h : FarAt w b f) : farLeft w b = (f.sum + 25 * 1866240).toNat := by
  have key : ∀ (l : List Int) (o : Nat), (∀ i, i < l.length → w.cell? ⟨b, o + i, none⟩ = some (.int .i64 (l[i]?.getD 0))) → ((List.range l.length).map fun i => match w.cell? ⟨b, o + i, none⟩ with | some (.int _ x) => x + 1866240 | _ => 0).sum = l.sum + l.length * 1866240 := by
    intro l
    induction l with
    | nil => intro o _; rfl
    | cons x l ih =>
      intro o h
      rw [List.length_cons, List.range_succ_eq_map, List.map_cons, List.sum_cons, List.sum_cons, List.map_map]
      have h0 := h 0 (by simp)
      have h1 := ih (o + 1) fun i hi => by
        have := h (i + 1) (by simpa using hi)
        rw [show o + 1 + i = o + (i + 1) by omega]
        exact this
      have e : ((List.range l.length).map ((fun i => match w.cell? ⟨b, o + i, none⟩ with | some (.int _ x) => x + 1866240 | _ => 0) ∘ Nat.succ)).sum = ((List.range l.length).map fun i => match w.cell? ⟨b, o + 1 + i, none⟩ with | some (.int _ x) => x + 1866240 | _ => 0).sum := by
        congr 1
        refine List.map_congr_left fun i _ => ?_
        show (match w.cell? ⟨b, o + (i + 1), none⟩ with | some (.int _ x) => x + 1866240 | _ => 0) = _
        rw [show o + (i + 1) = o + 1 + i by omega]
      rw [e, h1, h0]
      simp
      omega
  have := key f 0 fun i hi => by
    rw [Nat.zero_add, h.1.cell]
    unfold farA
    rw [List.getElem?_toArray, List.getElem?_map, List.getElem?_eq_getElem hi]
    rfl
  unfold farLeft
  rw [h.2] at this
  simp only [Nat.zero_add] at this
  rw [this]
  rfl
end Go.Proofs.Pet

namespace Go.Proofs.Pet
set_option linter.unusedSimpArgs false
open Go Go.RowKit Go.Maps Go.WideMaps
open Go.Proofs.Clk (atD setD minD passT relax iter pass)

theorem farA_one (f : List Int) : (farA f).all (·.oneCell') = true := by
  rw [Array.all_eq_true_iff_forall_mem]
  intro x hx
  unfold farA at hx
  simp only [List.mem_toArray, List.mem_map] at hx
  obtain ⟨y, _, rfl⟩ := hx
  rfl
theorem wpList_farLoad {ops : Array Oper} {rest : List Oper} {op : Oper} {a : Act} {w : World} {Q : Exit → Act → World → Prop} (hgd : op.guard = none) (x : Operand) (ho : op.op = .load 118 x)
    (b : Nat) (hx : a.eval x = .pointer (some ⟨b, 0, none⟩)) (f : List Int) (hF : FarAt w b f) (h : wpList Try.prog ops Q rest (a.put op.dst (.agg (farA f))) w) : wpList Try.prog ops Q (op :: rest) a w :=
  wpList_load_mid hgd 118 x ho b 0 hx (f.map (Value.int .i64)) _ (fun j v hj => by
    rw [Nat.zero_add, hF.1.cell]
    unfold farA
    rw [List.getElem?_toArray]; exact hj) Try.underlying118 rfl (by rw [List.length_map, hF.2]; kernel_rfl) h
theorem wpList_farStore {ops : Array Oper} {rest : List Oper} {op : Oper} {a : Act} {w : World} {Q : Exit → Act → World → Prop} (hgd : op.guard = none) (x y : Operand) (ho : op.op = .store 118 x y)
    (b : Nat) (hx : a.eval x = .pointer (some ⟨b, 0, none⟩)) (f g : List Int) (hy : a.eval y = .agg (farA g)) (hg : g.length = 25) (hF : FarAt w b f) (h : wpList Try.prog ops Q rest (a.put op.dst undef) (w.setRow b (farA g))) : wpList Try.prog ops Q (op :: rest) a w :=
  wpList_plain hgd fun K hK => by
    unfold Oper.wp execOp
    simp only [ho, hx, hy, Instr.storeAt, Instr.sureAddr, Sem.run_bind, Sem.run_pure, Result.andThen_ok, run_storeVar_row (P := Try.prog) w b 118 118 (farA f) (farA g) hF.1 (by rw [farA_size, hg]; kernel_rfl) (by rw [farA_size, farA_size, hF.2, hg]) (farA_one g)]
    exact hK _ _ h
theorem FarAt.row {w : World} {b : Nat} {f g : List Int} (h : FarAt w b f) (hg : g.length = 25) : FarAt (w.setRow b (farA g)) b g := ⟨h.1.row _, hg⟩
def RngD (f : List Int) : Prop := ∀ a c, a < 5 → c < 5 → -240 ≤ atD f a c ∧ atD f a c ≤ 240
theorem FarAt.min_ {w : World} {b : Nat} {f : List Int} (h : FarAt w b f) {a c : Nat} (ha : a < 5) (hc : c < 5) (v : Int) : FarAt (w.setCell ⟨b, a * 5 + c, none⟩ (.int .i64 (min (atD f a c) v))) b (minD f a c v) := h.set_ ha hc _
/-- the numbers within one go -/
theorem pass_bd {f : List Int} (hf : f.length = 25) (hb : ∀ a c, a < 5 → c < 5 → -1866240 ≤ atD f a c ∧ atD f a c ≤ 240) {k : Nat} (hk : k ≤ 125) {a c : Nat} (ha : a < 5) (hc : c < 5) : -14511882240 ≤ atD (passT f k) a c ∧ atD (passT f k) a c ≤ 240 := by
  have h1 := Clk.passT_low hf (c := 1866240) (by omega) (fun x y hx hy => (hb x y hx hy).1) hk ha hc
  have h2 := Clk.passT_le hf k 0 (by omega)
  rw [Nat.zero_add] at h2
  have h3 := h2 a c ha hc
  have h4 := (hb a c ha hc).2
  rw [show passT f 0 = f from rfl] at h3
  omega
set_option maxRecDepth 20000 in
set_option maxHeartbeats 4000000 in
theorem closedC_any (f : List Int) (hf : f.length = 25) (hr : RngD f) (w : World) :
    Calls Try.prog 85 #[.agg (farA f)] w fun e w' => ∃ g q, e = .returned (.tuple #[.agg (farA g), .bool q]) ∧ Clk.Closed f g q ∧ Ext w w' := by
  obtain ⟨ti, hi, hz0, hz1, hz2⟩ := info_parts info_int
  have hX : Ext w ((w.alloc (.cells (farA f) 118)).alloc (.cells (farA (List.replicate 25 0)) 118)) := (Ext.alloc _ _).trans (Ext.alloc _ _)
  have hF : FarAt ((w.alloc (.cells (farA f) 118)).alloc (.cells (farA (List.replicate 25 0)) 118)) w.heap.size f := ⟨(Blk.new w 118 (farA f)).alloc _, hf⟩
  have hR : FarAt ((w.alloc (.cells (farA f) 118)).alloc (.cells (farA (List.replicate 25 0)) 118)) (w.heap.size + 1) (List.replicate 25 0) := ⟨by have := Blk.new (w.alloc (.cells (farA f) 118)) 118 (farA (List.replicate 25 0)); rwa [World.size_alloc] at this, rfl⟩
  have hz25 : farA (List.replicate 25 0) = #[.int .i64 0, .int .i64 0, .int .i64 0, .int .i64 0, .int .i64 0, .int .i64 0, .int .i64 0, .int .i64 0, .int .i64 0, .int .i64 0, .int .i64 0, .int .i64 0, .int .i64 0, .int .i64 0, .int .i64 0, .int .i64 0, .int .i64 0, .int .i64 0, .int .i64 0, .int .i64 0, .int .i64 0, .int .i64 0, .int .i64 0, .int .i64 0, .int .i64 0] := rfl
  have Hz := Lib.hid hz25
  rw [hz25] at hX hF hR
  go_enter Try.func85, Try.ntmps85
  clear hz25
  go_wp2_with fail
  generalize ((w.alloc _).alloc _) = w1 at *
  go_loopw [] (fun wr => ∃ h, Hid (∃ n, h = iter f n) ∧ Hid (∀ a c, a < 5 → c < 5 → -1866240 ≤ atD h a c ∧ atD h a c ≤ 240) ∧ Hid (FarAt wr w.heap.size h) ∧ Hid (FarAt wr (w.heap.size + 1) (List.replicate 25 0)) ∧ Hid (Ext w wr)) (fun wr => farLeft wr w.heap.size)
  case atStart => exact ⟨f, Lib.hid ⟨0, rfl⟩, Lib.hid (fun a c ha hc => by have := hr a c ha hc; omega), Lib.hid hF, Lib.hid hR, Lib.hid hX⟩
  case round =>
    clear hX hF hR
    obtain ⟨h, hit, hbd, hF, hR, hE⟩ := hrel
    have hhl := hF.out.2
    have hX4 := Ext.alloc wr (.cells (farA h) 118)
    have hF4 : FarAt (wr.alloc (.cells (farA h) 118)) wr.heap.size h := ⟨Blk.new wr _ _, hhl⟩
    have hnew : FarAt (wr.alloc (.cells #[.int .i64 0, .int .i64 0, .int .i64 0, .int .i64 0, .int .i64 0, .int .i64 0, .int .i64 0, .int .i64 0, .int .i64 0, .int .i64 0, .int .i64 0, .int .i64 0, .int .i64 0, .int .i64 0, .int .i64 0, .int .i64 0, .int .i64 0, .int .i64 0, .int .i64 0, .int .i64 0, .int .i64 0, .int .i64 0, .int .i64 0, .int .i64 0, .int .i64 0] 118)) wr.heap.size (List.replicate 25 0) := by
      rw [← Hz.out]
      exact ⟨Blk.new wr _ _, rfl⟩
    have hFl := hF.out.1.lt
    have hRl := hR.out.1.lt
    go_wp2_with (first
      | refine wpList_farLoad rfl _ rfl w.heap.size rfl h hF.out ?_
      | refine wpList_farStore rfl _ _ rfl wr.heap.size rfl (List.replicate 25 0) h rfl hhl hnew ?_)
    rw [World.setRow_alloc_new]
    clear hnew
    obtain ⟨D, hD⟩ : ∃ D, wr.heap.size = D := ⟨_, rfl⟩
    rw [hD] at hF4 hFl hRl ⊢
    have hFa := Lib.hid (hF.out.ext hX4)
    have hRa := Lib.hid (hR.out.ext hX4)
    have hEa := Lib.hid (hE.out.trans hX4)
    have HF4 := Lib.hid hF4
    have hle := Lib.hid hF.out.left
    clear hX4 hF4 hF hR hE
    have hRD : w.heap.size + 1 ≠ D ∧ w.heap.size ≠ D := by omega
    generalize wr.alloc _ = w4 at *
    go_loopw [10] (fun iv wr => ∃ m : Nat, m ≤ 5 ∧ iv = .int .i64 (m : Int) ∧ Hid (FarAt wr w.heap.size (passT h (25 * m))) ∧ Hid (FarAt wr (w.heap.size + 1) (List.replicate 25 0)) ∧ Hid (FarAt wr D h) ∧ Hid (Ext w wr)) (fun iv _ => 5 - (intOf iv).toNat)
    case atStart => exact ⟨0, by omega, rfl, hFa, hRa, HF4, hEa⟩
    case round =>
      clear hFa hRa HF4 hEa
      obtain ⟨m, hm, rfl, hF, hR, hD4, hE⟩ := hrel
      by_cases hlm : m < 5
      · -- <<A
        have hdm : decide ((m : Int) < 5) = true := by simp; omega
        go_wp2_with fail
        go_loopw [13] (fun iv wr => ∃ a : Nat, a ≤ 5 ∧ iv = .int .i64 (a : Int) ∧ Hid (FarAt wr w.heap.size (passT h (25 * m + 5 * a))) ∧ Hid (FarAt wr (w.heap.size + 1) (List.replicate 25 0)) ∧ Hid (FarAt wr D h) ∧ Hid (Ext w wr)) (fun iv _ => 5 - (intOf iv).toNat)
        case atStart => exact ⟨0, by omega, rfl, hF, hR, hD4, hE⟩
        case round =>
          clear hF hR hD4 hE
          obtain ⟨a, ha, rfl, hF, hR, hD4, hE⟩ := hrel
          by_cases hla : a < 5
          · have hda : decide ((a : Int) < 5) = true := by simp; omega
            go_wp2_with fail
            go_loopw [16] (fun iv wr => ∃ b : Nat, b ≤ 5 ∧ iv = .int .i64 (b : Int) ∧ Hid (FarAt wr w.heap.size (passT h (25 * m + 5 * a + b))) ∧ Hid (FarAt wr (w.heap.size + 1) (List.replicate 25 0)) ∧ Hid (FarAt wr D h) ∧ Hid (Ext w wr)) (fun iv _ => 5 - (intOf iv).toNat)
            case atStart => exact ⟨0, by omega, rfl, hF, hR, hD4, hE⟩
            case round =>
              clear hF hR hD4 hE
              obtain ⟨b, hb, rfl, hF, hR, hD4, HE⟩ := hrel
              by_cases hlb : b < 5
              · -- <<B
                have hstep := Lib.hid (Clk.passT_step (f := h) m a b hla hlb)
                have b1 := pass_bd hhl hbd.out (k := 25 * m + 5 * a + b) (by omega) hla hlb
                have b2 := pass_bd hhl hbd.out (k := 25 * m + 5 * a + b) (by omega) hla hlm
                have b3 := pass_bd hhl hbd.out (k := 25 * m + 5 * a + b) (by omega) hlm hlb
                have c1 := hF.out.cell hla hlb
                have c2 := hF.out.cell hla hlm
                have c3 := hF.out.cell hlm hlb
                have cf := hF.out.1.frozen (a * 5 + b)
                have hmin : Hid (∀ W, FarAt W w.heap.size (passT h (25 * m + 5 * a + b)) → FarAt (W.setCell ⟨w.heap.size, a * 5 + b, none⟩ (.int .i64 (min (atD (passT h (25 * m + 5 * a + b)) a b) (atD (passT h (25 * m + 5 * a + b)) a m + atD (passT h (25 * m + 5 * a + b)) m b)))) w.heap.size (passT h (25 * m + 5 * a + (b + 1)))) := fun W hW => by
                  rw [← Nat.add_assoc, hstep.out]
                  exact hW.min_ hla hlb _
                obtain ⟨xx, hx⟩ : ∃ xx, atD (passT h (25 * m + 5 * a + b)) a b = xx := ⟨_, rfl⟩
                obtain ⟨yy, hy⟩ : ∃ yy, atD (passT h (25 * m + 5 * a + b)) a m = yy := ⟨_, rfl⟩
                obtain ⟨zz, hz⟩ : ∃ zz, atD (passT h (25 * m + 5 * a + b)) m b = zz := ⟨_, rfl⟩
                rw [hx] at b1 c1 hmin
                rw [hy] at b2 c2 hmin
                rw [hz] at b3 c3 hmin
                have hdb : decide ((b : Int) < 5) = true := by simp; omega
                clear hx hy hz hstep
                go_upto_region 11 with fail
                refine wp_region_chain 22 [(18, true), (19, true), (21, true)] [] (by kernel_rfl) (by kernel_rfl) (by kernel_rfl) ?_
                simp only [List.take, List.drop, fill, Act.put, List.setIfInBounds_toArray, List.set_cons_zero, List.set_cons_succ, Nat.reduceAdd]
                repeat (first
                  | refine Floats.mut rfl ?_
                  | (apply Floats.float rfl
                     · intro x W he hd K Q hK
                       try (have he := he (by decide); have c1 := he.cell c1; have c2 := he.cell c2; have c3 := he.cell c3)
                       try simp only [edges, DepsE, List.filter_cons, List.filter_nil, Region.binds, if_true, and_true, true_and, upd, Nat.reduceEqDiff, if_false] at hd
                       try simp only [hd] at hK ⊢
                       have HK := Lib.hid hK; clear hK
                       go_wp2_with fail
                       exact HK.out))
                refine Floats.done fun W he hG => ?_
                refine Chain.cons _ rfl ?_
                intro x hd K Q hK
                try simp only [edges, DepsE, List.filter_cons, List.filter_nil, Region.binds, if_true, and_true, true_and, upd, Nat.reduceEqDiff, if_false] at hd
                try simp only [hd] at hK ⊢
                clear hd
                have HK := Lib.hid hK; clear hK
                have hb5 := Ext.alloc W (.cells #[.int .i64 (yy + zz)] 3)
                have hB5 := Blk.new W 3 #[.int .i64 (yy + zz)]
                have hg := Lib.hid (leastC_any xx (some ⟨W.heap.size, 0, none⟩) 1 1 [yy + zz] rfl (min xx (yy + zz)) rfl (W.alloc (.cells #[.int .i64 (yy + zz)] 3)) (by simp [maxLen]) (fun k hk => by
                  match k, hk with
                  | 0, _ => exact ⟨_, 0, rfl, by rw [hB5.cell]; rfl⟩))
                have heX := he.trans hb5
                go_wp2_with fail
                refine HK.out _ _ (fun _ => heX) ?_
                clear HK
                refine Chain.cons _ rfl ?_
                intro x hd K Q hK
                try simp only [edges, DepsE, List.filter_cons, List.filter_nil, Region.binds, if_true, and_true, true_and, upd, Nat.reduceEqDiff, if_false] at hd
                try simp only [hd] at hK ⊢
                clear hd
                have HK := Lib.hid hK; clear hK
                go_wp2_with fail
                refine hg.out.mono ?_
                rintro e w5 ⟨rfl, rfl⟩
                have heY := heX
                go_wp2_with fail
                refine HK.out _ _ (fun _ => heY) ?_
                clear HK
                refine Chain.cons _ rfl ?_
                intro x hd K Q hK
                try simp only [edges, DepsE, List.filter_cons, List.filter_nil, Region.binds, if_true, and_true, true_and, upd, Nat.reduceEqDiff, if_false] at hd
                try simp only [hd] at hK ⊢
                clear hd
                have HK := Lib.hid hK; clear hK
                go_wp2_with fail
                refine HK.out _ _ (fun _ => heY) ?_
                clear HK
                refine Chain.nil ?_
                simp only [upd, Nat.reduceEqDiff, if_false, if_true]
                have c1' := heY.cell c1
                have cf' := (hF.out.ext heY).1.frozen (a * 5 + b)
                go_wp2_with fail
                go_roundw
                case rel => exact ⟨b + 1, by omega, by go_num, Lib.hid (hmin.out _ (hF.out.ext heY)), Lib.hid ((hR.out.ext heY).far (by show w.heap.size + 1 ≠ w.heap.size; omega) _), Lib.hid ((hD4.out.ext heY).far (by show D ≠ w.heap.size; omega) _), Lib.hid (Below.setCell (HE.out.trans heY) (p := ⟨w.heap.size, a * 5 + b, none⟩) (Nat.le_refl _) _)⟩
                case measure => simp [intOf]; omega
                -- >>
              · obtain rfl : b = 5 := by omega
                have hF5 : Hid (FarAt wr w.heap.size (passT h (25 * m + 5 * (a + 1)))) := by
                  rw [show 25 * m + 5 * (a + 1) = 25 * m + 5 * a + 5 by omega]
                  exact hF
                go_wp2_with fail
                go_roundw
                case rel => exact ⟨a + 1, by omega, by go_num, hF5, hR, hD4, HE⟩
                case measure => simp [intOf]; omega
          · obtain rfl : a = 5 := by omega
            have hF5 : Hid (FarAt wr w.heap.size (passT h (25 * (m + 1)))) := by
              rw [show 25 * (m + 1) = 25 * m + 5 * 5 by omega]
              exact hF
            go_wp2_with fail
            go_roundw
            case rel => exact ⟨m + 1, by omega, by go_num, hF5, hR, hD4, hE⟩
            case measure => simp [intOf]; omega
        -- >>
      · -- <<C
        obtain rfl : m = 5 := by omega
        have hF5 : Hid (FarAt wr w.heap.size (pass h)) := by
          have h1 := hF
          rw [show (25 * 5 : Nat) = 125 from rfl] at h1
          exact h1
        have hpl : (pass h).length = 25 := by unfold Clk.pass; rw [Clk.passT_len]; exact hhl
        obtain ⟨w5, rfl⟩ : ∃ z, z = wr := ⟨_, rfl⟩
        have hpb : Hid (∀ a c, a < 5 → c < 5 → -14511882240 ≤ atD (pass h) a c ∧ atD (pass h) a c ≤ 240) := fun a c ha hc => pass_bd hhl hbd.out (Nat.le_refl _) ha hc
        have hit' : Hid (∃ n, pass h = iter f n) := by
          obtain ⟨n, hn⟩ := hit.out
          exact ⟨n + 1, by rw [Clk.iter, hn]⟩
        have Hle := hle
        obtain ⟨g, hgp⟩ : ∃ g, pass h = g := ⟨_, rfl⟩
        have Hgp := Lib.hid hgp
        rw [hgp] at hF5 hpl hpb hit'
        clear hgp hF hle
        go_wp2_with fail
        go_loopw [44] (fun iv wr => ∃ a : Nat, a ≤ 5 ∧ iv = .int .i64 (a : Int) ∧ Hid (∀ c, c < a → 0 ≤ atD g c c) ∧ w5 = wr) (fun iv _ => 5 - (intOf iv).toNat)
        case atStart => exact ⟨0, Nat.zero_le _, rfl, Lib.hid (fun c hc => absurd hc (Nat.not_lt_zero c)), by first | exact True.intro | rfl⟩
        case round =>
          obtain ⟨a, ha, rfl, hdg, rfl⟩ := hrel
          by_cases hla : a < 5
          · have ca := hF5.out.cell hla hla
            have bb := hpb.out a a hla hla
            obtain ⟨xx, hx⟩ : ∃ xx, atD g a a = xx := ⟨_, rfl⟩
            rw [hx] at ca bb
            have Hx := Lib.hid hx
            have hc5 : a = 0 ∨ a = 1 ∨ a = 2 ∨ a = 3 ∨ a = 4 := by omega
            clear hx
            by_cases hneg : xx < 0
            · -- <<D
              have hd : decide (xx < 0) = true := by simpa using hneg
              have hcl : Hid (Clk.Closed f g false) := ⟨hit'.out, (fun h => by cases h), fun _ => ⟨a, hla, by rw [Hx.out]; exact hneg⟩⟩
              clear bb
              rcases hc5 with rfl | rfl | rfl | rfl | rfl
              all_goals
                simp only [Nat.reduceMul, Nat.reduceAdd] at ca
                go_wp2_with (first
                  | refine wpList_farLoad rfl _ rfl w.heap.size rfl g hF5.out ?_
                  | refine wpList_farStore rfl _ _ rfl (w.heap.size + 1) rfl (List.replicate 25 0) g rfl hpl hR.out ?_)
                have hRn := hR.out.row hpl
                have hEn : Ext w (w5.setRow (w.heap.size + 1) (farA g)) := Ext.setRow hE.out (Nat.le_succ _) _
                refine bodyPost_ret (v := .tuple #[.agg (farA g), .bool false]) ?_ rfl ⟨g, false, rfl, hcl.out, hEn⟩
                have hld := run_loadVar_mid (P := Try.prog) (w5.setRow (w.heap.size + 1) (farA g)) (w.heap.size + 1) 0 118 (g.map (Value.int .i64)) _ (fun j v hj => by
                  rw [Nat.zero_add, hRn.1.cell]
                  unfold farA
                  rw [List.getElem?_toArray]; exact hj) Try.underlying118 rfl (by rw [List.length_map, hpl]; kernel_rfl)
                unfold farA at hld ⊢
                simp [results, Try.results85, Sem.run_bind, asAddr, hld]
              -- >>
            · -- <<E
              have hd : decide (xx < 0) = false := by simpa using hneg
              have Hn := Lib.hid hneg
              have hnx : Hid (∀ c, c < a + 1 → 0 ≤ atD g c c) := fun c hc => by
                by_cases e : c = a
                · subst e; rw [Hx.out]; have := Hn.out; omega
                · exact hdg.out c (by omega)
              clear bb
              rcases hc5 with rfl | rfl | rfl | rfl | rfl
              all_goals
                simp only [Nat.reduceMul, Nat.reduceAdd] at ca
                go_wp2_with fail
                go_roundw
                case rel => exact ⟨_, by omega, by go_num, hnx, by first | exact True.intro | rfl⟩
                case measure => first | (simp [intOf]; done) | (simp [intOf]; omega)
              -- >>
          · -- <<F
            obtain rfl : a = 5 := by omega
            obtain ⟨qd, hqd⟩ : ∃ qd, decide (g = h) = qd := ⟨_, rfl⟩
            have heq := eql_far hpl hhl (all_atD hpl fun a c ha hc => by have := hpb.out a c ha hc; omega) (all_atD hhl fun a c ha hc => by have := hbd.out a c ha hc; omega)
            rw [hqd] at heq
            have Hqd := Lib.hid hqd
            clear hqd
            cases qd with
            | true =>
              have hgh : g = h := of_decide_eq_true Hqd.out
              have hcl : Hid (Clk.Closed f g true) := ⟨hit'.out, (fun _ => ⟨by rw [hgh]; rw [Hgp.out]; exact hgh, fun c hc => hdg.out c hc⟩), fun h => by cases h⟩
              clear hgh
              go_wp2_with (first
                | refine wpList_farLoad rfl _ rfl w.heap.size rfl g hF5.out ?_
                | refine wpList_farLoad rfl _ rfl D rfl h hD4.out ?_
                | refine wpList_farStore rfl _ _ rfl (w.heap.size + 1) rfl (List.replicate 25 0) g rfl hpl hR.out ?_)
              have hRn := hR.out.row hpl
              have hEn : Ext w (w5.setRow (w.heap.size + 1) (farA g)) := Ext.setRow hE.out (Nat.le_succ _) _
              refine bodyPost_ret (v := .tuple #[.agg (farA g), .bool true]) ?_ rfl ⟨g, true, rfl, hcl.out, hEn⟩
              have hld := run_loadVar_mid (P := Try.prog) (w5.setRow (w.heap.size + 1) (farA g)) (w.heap.size + 1) 0 118 (g.map (Value.int .i64)) _ (fun j v hj => by
                rw [Nat.zero_add, hRn.1.cell]
                unfold farA
                rw [List.getElem?_toArray]; exact hj) Try.underlying118 rfl (by rw [List.length_map, hpl]; kernel_rfl)
              unfold farA at hld ⊢
              simp [results, Try.results85, Sem.run_bind, asAddr, hld]
            | false =>
              have hgh : g ≠ h := of_decide_eq_false Hqd.out
              have hlow : ∀ x y, x < 5 → y < 5 → -240 ≤ atD h x y := fun x y hx hy => by
                have h1 := Clk.pass_diag hhl (a := x) (b := y) hx hy
                rw [Hgp.out] at h1
                have h2 := hdg.out x hx
                have h3 := (hbd.out y x hy hx).2
                omega
              have hnb : ∀ x y, x < 5 → y < 5 → -1866240 ≤ atD g x y ∧ atD g x y ≤ 240 := fun x y hx hy => by
                have h1 := Clk.passT_low hhl (c := 240) (by omega) hlow (k := 125) (Nat.le_refl _) hx hy
                rw [show passT h 125 = g from Hgp.out] at h1
                have h2 := (hpb.out x y hx hy).2
                omega
              have hms : Hid (farLeft w5 w.heap.size < (h.sum + 25 * 1866240).toNat) := by
                unfold Hid
                rw [hF5.out.left]
                have h1 := Clk.pass_sum hhl (by rw [Hgp.out]; exact hgh)
                rw [Hgp.out] at h1
                have h2 := Clk.sum_ge (c := -1866240) (f := g) (all_atD hpl fun x y hx hy => (hnb x y hx hy).1)
                rw [hpl] at h2
                omega
              have Hnb := Lib.hid hnb
              clear hgh hlow hnb
              go_wp2_with (first
                | refine wpList_farLoad rfl _ rfl w.heap.size rfl g hF5.out ?_
                | refine wpList_farLoad rfl _ rfl D rfl h hD4.out ?_)
              go_roundw
              case rel => exact ⟨g, hit', Hnb, hF5, hR, hE⟩
              case measure => rw [Hle.out]; exact hms.out
            -- >>
        -- >>
end Go.Proofs.Pet
