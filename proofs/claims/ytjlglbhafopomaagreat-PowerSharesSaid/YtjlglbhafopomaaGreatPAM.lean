/- Joined texts: PA1, PA2, PV, PA4, W0, PU, PA3. -/
import Derived.Test.YtjlglbhafopomaaGreatB0
import Derived.Test.YtjlglbhafopomaaGreatSM
import Derived.RangeFuncNested
import Derived.Deep.LoopGhost
import Derived.WideKeyPair
import Derived.Maps.OwnSet
namespace Go.Proofs.Pet
open Go Go.RowKit
open Go.Proofs.Pow (PM Sh Wv)

/-- a shaft's two cells -/
def ShCells (w : World) (b o : Nat) (x : Sh) : Prop := w.cell? ⟨b, o, none⟩ = some (.int .i64 x.up) ∧ w.cell? ⟨b, o + 1, none⟩ = some (.int .i64 x.price)
def ShsAt (w : World) (A : Option Addr) (xs : List Sh) : Prop := ∀ k, k < xs.length → ∃ b o, A = some ⟨b, o, none⟩ ∧ ShCells w b (o + k * 2) (xs[k]?.getD default)
def ShVal (_w : World) (v : Value) (x : Sh) : Prop := v = .agg #[.int .i64 x.up, .int .i64 x.price]
theorem ShCells.ext {w w' : World} {b o : Nat} {x : Sh} (h : ShCells w b o x) (he : Ext w w') : ShCells w' b o x := ⟨he.cell h.1, he.cell h.2⟩
theorem ShsAt.ext {w w' : World} {A : Option Addr} {xs : List Sh} (h : ShsAt w A xs) (he : Ext w w') : ShsAt w' A xs := fun k hk => let ⟨b, o, e, hc⟩ := h k hk; ⟨b, o, e, hc.ext he⟩
/-- a weaver's two cells -/
def WvCells (w : World) (b o : Nat) (x : Wv) : Prop :=
  ∃ A c, (x.hours.length ≤ c ∧ c ≤ maxLen) ∧ w.cell? ⟨b, o, none⟩ = some (.int .i64 x.shaft) ∧ w.cell? ⟨b, o + 1, none⟩ = some (.slice A x.hours.length c) ∧ IntsAt w A x.hours
def WvsAt (w : World) (A : Option Addr) (xs : List Wv) : Prop := ∀ k, k < xs.length → ∃ b o, A = some ⟨b, o, none⟩ ∧ WvCells w b (o + k * 2) (xs[k]?.getD default)
def WvVal (w : World) (v : Value) (x : Wv) : Prop := ∃ A c, (x.hours.length ≤ c ∧ c ≤ maxLen) ∧ v = .agg #[.int .i64 x.shaft, .slice A x.hours.length c] ∧ IntsAt w A x.hours
theorem WvVal.ext {w w' : World} {v : Value} {x : Wv} (h : WvVal w v x) (he : Ext w w') : WvVal w' v x := by
  obtain ⟨A, c, h1, h2, h3⟩ := h
  exact ⟨A, c, h1, h2, h3.ext he⟩
theorem WvCells.ext {w w' : World} {b o : Nat} {x : Wv} (h : WvCells w b o x) (he : Ext w w') : WvCells w' b o x := by
  obtain ⟨A, c, h0, h1, h2, h3⟩ := h
  exact ⟨A, c, h0, he.cell h1, he.cell h2, h3.ext he⟩
theorem WvsAt.ext {w w' : World} {A : Option Addr} {xs : List Wv} (h : WvsAt w A xs) (he : Ext w w') : WvsAt w' A xs := fun k hk => let ⟨b, o, e, hc⟩ := h k hk; ⟨b, o, e, hc.ext he⟩
/-- a mill as a value -/
def PMVal (w : World) (v : Value) (m : PM) : Prop :=
  ∃ A1 c1 A2 c2, v = .agg #[.slice A1 m.shafts.length c1, .slice A2 m.wvs.length c2] ∧ m.shafts.length ≤ c1 ∧ c1 ≤ maxLen ∧ m.wvs.length ≤ c2 ∧ c2 ≤ maxLen ∧ ShsAt w A1 m.shafts ∧ WvsAt w A2 m.wvs
theorem PMVal.ext {w w' : World} {v : Value} {m : PM} (h : PMVal w v m) (he : Ext w w') : PMVal w' v m := by
  obtain ⟨A1, c1, A2, c2, h1, h2, h3, h4, h5, h6, h7⟩ := h
  exact ⟨A1, c1, A2, c2, h1, h2, h3, h4, h5, h6.ext he, h7.ext he⟩
/-- the error of a mill -/
def checkP (m : PM) : Int :=
  if inB m.shafts.length 1 9 = false ∨ 6 < m.wvs.length then 2
  else if (m.shafts.all fun s => inB s.price 0 60) = false then 3
  else if (m.wvs.all fun w => w.hours.all fun h => inB h 0 23) = false then 3
  else if ((List.range m.shafts.length).all fun i => inB (m.sh i).up (-1) ((i : Int) - 1)) = false then 1
  else if (m.wvs.all fun w => inB w.shaft 0 (m.shafts.length - 1)) = false then 1
  else if (m.wvs.all fun w => risingB w.hours) = false then 4 else 0
theorem inB_iff {n lo hi : Int} : inB n lo hi = true ↔ lo ≤ n ∧ n ≤ hi := by
  unfold inB
  rw [Bool.and_eq_true, decide_eq_true_eq, decide_eq_true_eq]
theorem rising_pair {xs : List Int} : risingB xs = true ↔ xs.Pairwise (· < ·) := by
  rw [risingB_iff]
  unfold risingTo
  constructor
  · intro h
    rw [List.pairwise_iff_getElem]
    have key : ∀ d i, i + d + 1 < xs.length → xs[i]?.getD 0 < xs[i + d + 1]?.getD 0 := by
      intro d
      induction d with
      | zero => intro i hi; exact h (i + 1) (by omega) hi
      | succ d ih =>
        intro i hi
        have h1 := ih i (by omega)
        have h2 := h (i + d + 1 + 1) (by omega) (by omega)
        simp only [Nat.add_sub_cancel] at h2
        have e : i + (d + 1) + 1 = i + d + 1 + 1 := by omega
        rw [e]
        omega
    intro i j hi hj hij
    have := key (j - i - 1) i (by omega)
    rw [show i + (j - i - 1) + 1 = j by omega, List.getElem?_eq_getElem hi, List.getElem?_eq_getElem hj] at this
    exact this
  · intro h i h1 h2
    have := List.pairwise_iff_getElem.1 h (i - 1) i (by omega) h2 (by omega)
    rw [List.getElem?_eq_getElem h2, List.getElem?_eq_getElem (show i - 1 < xs.length by omega)]
    exact this
theorem checkP_iff (m : PM) : checkP m = 0 ↔ Pow.POk m := by
  have hsh : ∀ s, s < m.shafts.length → m.sh s ∈ m.shafts := fun s hs => by unfold PM.sh; rw [List.getElem?_eq_getElem hs]; exact List.getElem_mem hs
  have hwv : ∀ k, k < m.wvs.length → m.wv k ∈ m.wvs := fun k hk => by unfold PM.wv; rw [List.getElem?_eq_getElem hk]; exact List.getElem_mem hk
  have msh : ∀ x, x ∈ m.shafts → ∃ s, s < m.shafts.length ∧ m.sh s = x := fun x hx => by
    obtain ⟨s, hs, rfl⟩ := List.mem_iff_getElem.1 hx
    exact ⟨s, hs, by unfold PM.sh; rw [List.getElem?_eq_getElem hs]; rfl⟩
  have mwv : ∀ x, x ∈ m.wvs → ∃ k, k < m.wvs.length ∧ m.wv k = x := fun x hx => by
    obtain ⟨s, hs, rfl⟩ := List.mem_iff_getElem.1 hx
    exact ⟨s, hs, by unfold PM.wv; rw [List.getElem?_eq_getElem hs]; rfl⟩
  unfold checkP
  constructor
  · intro h
    split at h; · cases h
    rename_i a1
    split at h; · cases h
    rename_i a2
    split at h; · cases h
    rename_i a3
    split at h; · cases h
    rename_i a4
    split at h; · cases h
    rename_i a5
    split at h; · cases h
    rename_i a6
    rw [not_or, Bool.not_eq_false, inB_iff] at a1
    rw [Bool.not_eq_false, List.all_eq_true] at a2 a3 a4 a5 a6
    refine ⟨by omega, by omega, fun s hs => inB_iff.1 (a2 _ (hsh s hs)), fun k hk x hx => inB_iff.1 (List.all_eq_true.1 (a3 _ (hwv k hk)) x hx), fun s hs => ?_, fun k hk => ?_, fun k hk => rising_pair.1 (a6 _ (hwv k hk))⟩
    · have := inB_iff.1 (a4 s (List.mem_range.2 hs)); omega
    · have := inB_iff.1 (a5 _ (hwv k hk)); omega
  · intro h
    have a2 : (m.shafts.all fun s => inB s.price 0 60) = true := List.all_eq_true.2 fun x hx => by
      obtain ⟨s, hs, rfl⟩ := msh x hx
      exact inB_iff.2 (h.price s hs)
    have a3 : (m.wvs.all fun w => w.hours.all fun h => inB h 0 23) = true := List.all_eq_true.2 fun x hx => by
      obtain ⟨k, hk, rfl⟩ := mwv x hx
      exact List.all_eq_true.2 fun y hy => inB_iff.2 (h.hour k hk y hy)
    have a4 : ((List.range m.shafts.length).all fun i => inB (m.sh i).up (-1) ((i : Int) - 1)) = true := List.all_eq_true.2 fun s hs => inB_iff.2 (by have := h.up s (List.mem_range.1 hs); omega)
    have a5 : (m.wvs.all fun w => inB w.shaft 0 (m.shafts.length - 1)) = true := List.all_eq_true.2 fun x hx => by
      obtain ⟨k, hk, rfl⟩ := mwv x hx
      exact inB_iff.2 (by have := h.at_ k hk; omega)
    have a6 : (m.wvs.all fun w => risingB w.hours) = true := List.all_eq_true.2 fun x hx => by
      obtain ⟨k, hk, rfl⟩ := mwv x hx
      exact rising_pair.2 (h.rise k hk)
    rw [if_neg, if_neg (by rw [a2]; simp), if_neg (by rw [a3]; simp), if_neg (by rw [a4]; simp), if_neg (by rw [a5]; simp), if_neg (by rw [a6]; simp)]
    rw [not_or, Bool.not_eq_false, inB_iff]
    have := h.sz; have := h.few
    omega
end Go.Proofs.Pet

namespace Go.Proofs.Pet
open Go Go.RowKit
open Go.Proofs.Pow (PM Sh Wv)

theorem everyI1 (g : Nat) (fs lb : Array Value) (eg : Enters Tryz.prog g) (B : Nat) (x : Int) (q : Bool) (w : World) (hp : Tells Tryz.prog w g fs lb IntVal x q) (hB : w.cell? ⟨B, 0, none⟩ = some (.func (.func g) fs lb)) :
    Tells Tryz.prog w 172 #[] #[.pointer (some ⟨B, 0, none⟩)] IntVal x (!q) := by
  intro W v hW hv
  have hB' := hW.cell hB
  obtain rfl : v = .int .i64 x := hv
  have hW' : Ext W W := Ext.refl W
  have Hp := Lib.hid hp
  clear hp hB
  have eg' := eg
  unfold Enters at eg'
  have hB2 := hW'.cell hB'
  show Calls Tryz.prog 172 #[_, .pointer (some ⟨B, 0, none⟩)] W _
  go_enter Tryz.func172, Tryz.ntmps172
  cases q with
  | true =>
    go_wp2_with fail
    refine (Hp.out _ _ (hW.trans hW') rfl).mono ?_
    rintro e w' ⟨rfl, he⟩
    go_wp2
    go_ret
    exact ⟨rfl, hW'.trans he⟩
  | false =>
    go_wp2_with fail
    refine (Hp.out _ _ (hW.trans hW') rfl).mono ?_
    rintro e w' ⟨rfl, he⟩
    go_wp2
    go_ret
    exact ⟨rfl, hW'.trans he⟩


theorem everyI (g : Nat) (fs lb : Array Value) (eg : Enters Tryz.prog g) (p : Int → Bool) (A : Option Addr) (c : Nat) (xs : List Int) (w : World) (hb : xs.length ≤ maxLen)
    (hx : IntsAt w A xs) (hp : ∀ x ∈ xs, Tells Tryz.prog w g fs lb IntVal x (p x)) :
    Calls Tryz.prog 130 #[.slice A xs.length c, .func (.func g) fs lb] w fun e w' => e = .returned (.bool (xs.all p)) ∧ Ext w w' := by
  have hmf : ∀ (fn : Fn) (first cap : Array Value) (w : World), (Instr.makeFunc fn first cap).run Tryz.prog w = .ok (.func fn first cap) w := fun _ _ _ _ => rfl
  have hq0 : xs.all p = !(xs.any fun x => !p x) := by rw [List.not_any_eq_all_not]; simp
  obtain ⟨q, hq⟩ : ∃ q, xs.any (fun x => !p x) = q := ⟨_, rfl⟩
  rw [hq0, hq]
  have hE : Ext w (w.alloc (.cells #[.func (.func g) fs lb] 35)) := Ext.alloc _ _
  have h := containsFuncI 172 #[] #[.pointer (some ⟨w.heap.size, 0, none⟩)] (enters_of Tryz.func172 (by kernel_rfl) rfl) (fun x => !p x) A c xs _ hb (hx.ext hE) (fun x hxm => everyI1 g fs lb eg w.heap.size x (p x) _ ((hp x hxm).ext hE) (cell_new_l w _ _).1)
  rw [hq] at h
  have H := Lib.hid h; clear h hx hp hq hq0
  go_enter Tryz.func130, Tryz.ntmps130
  go_wp2_with fail
  refine H.out.mono ?_
  rintro e w' ⟨rfl, he⟩
  cases q with
  | true =>
    go_wp2
    go_ret
    exact ⟨rfl, hE.trans he⟩
  | false =>
    go_wp2
    go_ret
    exact ⟨rfl, hE.trans he⟩



theorem in_any (n lo hi : Int) (q : Bool) (hq : inB n lo hi = q) (w : World) :
    Calls Tryz.prog 136 #[.int .i64 n, .int .i64 lo, .int .i64 hi] w fun e w' => e = .returned (.bool q) ∧ w = w' := by
  subst hq
  unfold inB
  by_cases h1 : lo ≤ n
  · by_cases h2 : n ≤ hi
    · go_enter Tryz.func136, Tryz.ntmps136
      go_wp2
      go_ret
      exact ⟨by simp [h1, h2], rfl⟩
    · have hd : decide (n ≤ hi) = false := by simp; omega
      go_enter Tryz.func136, Tryz.ntmps136
      go_wp2
      go_ret
      exact ⟨by simp, rfl⟩
  · have hd : decide (lo ≤ n) = false := by simp; omega
    go_enter Tryz.func136, Tryz.ntmps136
    go_wp2
    go_ret
    exact ⟨by simp, rfl⟩


set_option maxHeartbeats 400000 in
theorem rising_any (A : Option Addr) (c : Nat) (xs : List Int) (q : Bool) (hq : risingB xs = q) (w : World) (hl : xs.length ≤ maxLen) (hx : IntsAt w A xs) :
    Calls Tryz.prog 131 #[.slice A xs.length c] w fun e w' => e = .returned (.bool q) ∧ Ext w w' := by
  unfold maxLen at hl
  have Hq : Hid (q = true ↔ risingTo xs xs.length) := by unfold Hid; rw [← hq]; exact risingB_iff xs
  clear hq
  go_enter Tryz.func131, Tryz.ntmps131
  go_wp2
  go_loopw [3] (fun i wr => ∃ k : Nat, 1 ≤ k ∧ (k ≤ xs.length ∨ k = 1) ∧ i = .int .i64 k ∧ Hid (risingTo xs k) ∧ Ext w wr) (fun i _ => xs.length + 1 - (intOf i).toNat)
  case atStart => exact ⟨1, by omega, by omega, rfl, by intro i h1 h2; omega, Ext.refl _⟩
  case round =>
    obtain ⟨k, hk1, hk2, rfl, hr, he⟩ := hrel
    by_cases hlt : k < xs.length
    · obtain ⟨b, o, rfl, c1⟩ := hx.ext he k hlt
      obtain ⟨b', o', e', c2⟩ := hx.ext he (k-1) (by omega)
      simp only [Option.some.injEq, Addr.mk.injEq, and_true] at e'
      obtain ⟨rfl, rfl⟩ := e'
      have e1 : ((k : Int) - 1).toNat = k - 1 := by omega
      have b1 : (0:Int) ≤ (k : Int) - 1 := by omega
      have b2 : (k : Int) - 1 < xs.length := by omega
      have hk2' := Lib.hid hk2; clear hk2
      generalize hga : xs[k]?.getD 0 = x at *
      generalize hgb : xs[k-1]?.getD 0 = y at *
      have Hga := Lib.hid hga; clear hga
      have Hgb := Lib.hid hgb; clear hgb
      by_cases hle : x ≤ y
      · go_wp2_with fail
        go_quiet (fail)
        go_wp2
        go_ret
        refine ⟨?_, he.trans (Ext.drewN _ _)⟩
        have : ¬ risingTo xs xs.length := fun h => by
          have := h k hk1 hlt
          rw [Hga.out, Hgb.out] at this
          omega
        cases q with
        | true => exact absurd (Hq.out.1 rfl) this
        | false => rfl
      · have hd : decide (x ≤ y) = false := by simpa using hle
        have Hle := Lib.hid hle; clear hle
        go_wp2_with fail
        go_quiet (fail)
        go_wp2
        go_roundw
        case rel =>
          refine ⟨k + 1, by omega, by omega, by go_num, fun i h1 h2 => ?_, he.trans (Ext.drewN _ _)⟩
          by_cases ei : i = k
          · subst ei; rw [Hga.out, Hgb.out]; have := Hle.out; omega
          · exact hr.out i h1 (by omega)
        case measure => simp [intOf]; omega
    · go_wp2
      go_ret
      refine ⟨?_, he⟩
      have : risingTo xs xs.length := by
        rcases hk2 with h | h
        · have : k = xs.length := by omega
          rw [← this]; exact hr.out
        · intro i h1 h2; omega
      rw [Hq.out.2 this]; rfl
set_option maxRecDepth 20000 in
theorem twice_any (A : Option Addr) (c : Nat) (l : List Int) (q : Bool) (hq : twiceB l = q) (w : World) (hl : l.length ≤ maxLen) (hlc : l.length ≤ c) (hx : IntsAt w A l) :
    Calls Tryz.prog 135 #[.slice A l.length c] w fun e w' => e = .returned (.bool q) ∧ w = w' := by
  unfold maxLen at hl
  have Hq0 := Lib.hid hq; clear hq
  go_enter Tryz.func135, Tryz.ntmps135
  go_wp2_with fail
  go_loopw [7] (fun i wr => ∃ k : Nat, k ≤ l.length ∧ i = .int .i64 k ∧ w = wr ∧ Hid (∀ j, j < k → (l.take j).contains (l[j]?.getD 0) = false)) (fun i _ => l.length - (intOf i).toNat)
  case atStart => exact ⟨0, by omega, rfl, rfl, fun j hj => absurd hj (by omega)⟩
  case round =>
    obtain ⟨k, hk, rfl, rfl, hm⟩ := hrel
    by_cases hlt : k < l.length
    · obtain ⟨b, o, rfl, q1⟩ := hx k hlt
      obtain ⟨q', hq'⟩ : ∃ q, (l.take k).contains (l[k]?.getD 0) = q := ⟨_, rfl⟩
      have hlk : (l.take k).length = k := by rw [List.length_take]; omega
      have Ho := Lib.hid (contains_any (l[k]?.getD 0) (some ⟨b, o, none⟩) c k (l.take k) hlk q' hq' w (by unfold maxLen; omega) (hx.take k))
      have Hq := Lib.hid hq'; clear hq' hlk
      have htw : Hid (q' = true → q = true) := fun h => by rw [← Hq0.out]; exact twiceB_true hlt (by rw [← h]; exact Hq.out)
      generalize hgx : l[k]?.getD 0 = y at *
      have Hgx := Lib.hid hgx; clear hgx
      go_wp2_with fail
      refine Ho.out.mono ?_
      rintro e w' ⟨rfl, rfl⟩
      cases q' with
      | true =>
        have hr := htw.out rfl
        subst hr
        go_wp2_with fail
        go_ret
        exact ⟨rfl, rfl⟩
      | false =>
        go_wp2_with fail
        go_roundw
        case rel =>
          refine ⟨k + 1, by omega, by go_num, by trivial, fun j hj => ?_⟩
          by_cases ej : j = k
          · subst ej; rw [Hgx.out]; exact Hq.out
          · exact hm.out j (by omega)
        case measure => simp [intOf]; omega
    · have hr : q = false := by rw [← Hq0.out]; exact twiceB_false fun j hj => hm.out j (by omega)
      subst hr
      go_wp2_with fail
      go_ret
      exact ⟨rfl, rfl⟩
set_option maxHeartbeats 400000 in
theorem indexFuncW (g : Nat) (fs lb : Array Value) (eg : Enters Tryz.prog g) (p : Wv → Bool) (A : Option Addr) (c : Nat) (xs : List Wv) (w : World) (hb : xs.length ≤ maxLen)
    (hx : WvsAt w A xs) (hp : ∀ x ∈ xs, Tells Tryz.prog w g fs lb WvVal x (p x)) :
    Calls Tryz.prog 206 #[.slice A xs.length c, .func (.func g) fs lb] w fun e w' => (∃ i : Int, (0 ≤ i ↔ xs.any p = true) ∧ e = .returned (.int .i64 i)) ∧ Ext w w' := by
  unfold maxLen at hb
  go_enter Tryz.func206, Tryz.ntmps206
  go_wp2
  go_loopw [5, 8] (fun _ i wr => ∃ k : Nat, k ≤ xs.length ∧ i = .int .i64 k ∧ Hid (∀ j, j < k → p (xs[j]?.getD default) = false) ∧ Ext w wr) (fun _ i _ => xs.length - (intOf i).toNat)
  case atStart => exact ⟨0, by omega, rfl, fun j hj => absurd hj (by omega), Ext.refl _⟩
  case round =>
    obtain ⟨k, hk, rfl, hm, he⟩ := hrel
    by_cases hlt : k < xs.length
    · obtain ⟨b, o, rfl, A, ca, hca, h1, h2, h5⟩ := hx.ext he k hlt
      have hmem0 : (xs[k]?.getD default) ∈ xs := by simp [hlt]
      have hmem := Lib.hid hmem0
      generalize hgx : xs[k]?.getD default = x at *
      have Hgx := Lib.hid hgx; clear hgx
      have hc := hp x hmem0 wr _ he ⟨A, ca, hca, rfl, h5⟩
      clear hmem0
      obtain ⟨q, hq⟩ : ∃ q, p x = q := ⟨_, rfl⟩
      rw [hq] at hc
      have Hc := Lib.hid hc; clear hc
      have Hq := Lib.hid hq; clear hq
      have eg' := eg
      unfold Enters at eg'
      cases q with
      | true =>
        go_wp2_with fail
        refine Hc.out.mono ?_
        rintro e w' ⟨rfl, he'⟩
        go_wp2
        go_ret
        have ha : xs.any p = true := List.any_eq_true.2 ⟨x, hmem.out, Hq.out⟩
        exact ⟨⟨_, ⟨fun _ => ha, fun _ => by omega⟩, rfl⟩, he.trans he'⟩
      | false =>
        go_wp2_with fail
        refine Hc.out.mono ?_
        rintro e w' ⟨rfl, he'⟩
        go_wp2
        go_roundw
        case rel =>
          refine ⟨k + 1, by omega, by go_num, fun j hj => ?_, he.trans he'⟩
          by_cases ej : j = k
          · subst ej; rw [Hgx.out]; exact Hq.out
          · exact hm.out j (by omega)
        case measure => simp [intOf]; omega
    · go_wp2
      go_ret
      have hn : xs.any p = false := by
        rw [List.any_eq_false]
        intro y hy hpy
        obtain ⟨j, hj, rfl⟩ := List.mem_iff_getElem.1 hy
        have := hm.out j (by omega)
        simp [hj, hpy] at this
      exact ⟨⟨-1, ⟨fun h => absurd h (by omega), fun h => by rw [hn] at h; cases h⟩, rfl⟩, he⟩


theorem containsFuncW (g : Nat) (fs lb : Array Value) (eg : Enters Tryz.prog g) (p : Wv → Bool) (A : Option Addr) (c : Nat) (xs : List Wv) (w : World) (hb : xs.length ≤ maxLen)
    (hx : WvsAt w A xs) (hp : ∀ x ∈ xs, Tells Tryz.prog w g fs lb WvVal x (p x)) :
    Calls Tryz.prog 175 #[.slice A xs.length c, .func (.func g) fs lb] w fun e w' => e = .returned (.bool (xs.any p)) ∧ Ext w w' := by
  have h := indexFuncW g fs lb eg p A c xs w hb hx hp
  clear hx hp
  obtain ⟨q, hq⟩ : ∃ q, xs.any p = q := ⟨_, rfl⟩
  rw [hq] at h ⊢
  have H := Lib.hid h; clear h hq
  go_enter Tryz.func175, Tryz.ntmps175
  go_wp2_with fail
  refine H.out.mono ?_
  rintro e w' ⟨⟨i, hi, rfl⟩, he⟩
  cases q with
  | true =>
    have h0 : 0 ≤ i := hi.2 rfl
    clear hi
    go_wp2
    go_ret
    exact ⟨rfl, he⟩
  | false =>
    have h0 : decide (0 ≤ i) = false := by
      rw [decide_eq_false_iff_not]
      exact fun h => absurd (hi.1 h) (by simp)
    clear hi
    go_wp2
    go_ret
    exact ⟨rfl, he⟩


theorem everyW1 (g : Nat) (fs lb : Array Value) (eg : Enters Tryz.prog g) (B : Nat) (x : Wv) (q : Bool) (w : World) (hp : Tells Tryz.prog w g fs lb WvVal x q) (hB : w.cell? ⟨B, 0, none⟩ = some (.func (.func g) fs lb)) :
    Tells Tryz.prog w 176 #[] #[.pointer (some ⟨B, 0, none⟩)] WvVal x (!q) := by
  intro W v hW hv
  have hB' := hW.cell hB
  obtain ⟨A, ca, hca, rfl, h5⟩ := hv
  have hW' := Ext.alloc W (.cells #[.int .i64 x.shaft, .slice A x.hours.length ca] 82)
  have Hp := Lib.hid hp
  clear hp hB
  have eg' := eg
  unfold Enters at eg'
  have hB2 := hW'.cell hB'
  show Calls Tryz.prog 176 #[_, .pointer (some ⟨B, 0, none⟩)] W _
  go_enter Tryz.func176, Tryz.ntmps176
  cases q with
  | true =>
    go_wp2_with fail
    refine (Hp.out _ _ (hW.trans hW') ⟨A, ca, hca, rfl, h5.ext hW'⟩).mono ?_
    rintro e w' ⟨rfl, he⟩
    go_wp2
    go_ret
    exact ⟨rfl, hW'.trans he⟩
  | false =>
    go_wp2_with fail
    refine (Hp.out _ _ (hW.trans hW') ⟨A, ca, hca, rfl, h5.ext hW'⟩).mono ?_
    rintro e w' ⟨rfl, he⟩
    go_wp2
    go_ret
    exact ⟨rfl, hW'.trans he⟩


theorem everyW (g : Nat) (fs lb : Array Value) (eg : Enters Tryz.prog g) (p : Wv → Bool) (A : Option Addr) (c : Nat) (xs : List Wv) (w : World) (hb : xs.length ≤ maxLen)
    (hx : WvsAt w A xs) (hp : ∀ x ∈ xs, Tells Tryz.prog w g fs lb WvVal x (p x)) :
    Calls Tryz.prog 139 #[.slice A xs.length c, .func (.func g) fs lb] w fun e w' => e = .returned (.bool (xs.all p)) ∧ Ext w w' := by
  have hmf : ∀ (fn : Fn) (first cap : Array Value) (w : World), (Instr.makeFunc fn first cap).run Tryz.prog w = .ok (.func fn first cap) w := fun _ _ _ _ => rfl
  have hq0 : xs.all p = !(xs.any fun x => !p x) := by rw [List.not_any_eq_all_not]; simp
  obtain ⟨q, hq⟩ : ∃ q, xs.any (fun x => !p x) = q := ⟨_, rfl⟩
  rw [hq0, hq]
  have hE : Ext w (w.alloc (.cells #[.func (.func g) fs lb] 173)) := Ext.alloc _ _
  have h := containsFuncW 176 #[] #[.pointer (some ⟨w.heap.size, 0, none⟩)] (enters_of Tryz.func176 (by kernel_rfl) rfl) (fun x => !p x) A c xs _ hb (hx.ext hE) (fun x hxm => everyW1 g fs lb eg w.heap.size x (p x) _ ((hp x hxm).ext hE) (cell_new_l w _ _).1)
  rw [hq] at h
  have H := Lib.hid h; clear h hx hp hq hq0
  go_enter Tryz.func139, Tryz.ntmps139
  go_wp2_with fail
  refine H.out.mono ?_
  rintro e w' ⟨rfl, he⟩
  cases q with
  | true =>
    go_wp2
    go_ret
    exact ⟨rfl, hE.trans he⟩
  | false =>
    go_wp2
    go_ret
    exact ⟨rfl, hE.trans he⟩


set_option maxHeartbeats 400000 in
theorem indexFuncS (g : Nat) (fs lb : Array Value) (eg : Enters Tryz.prog g) (p : Sh → Bool) (A : Option Addr) (c : Nat) (xs : List Sh) (w : World) (hb : xs.length ≤ maxLen)
    (hx : ShsAt w A xs) (hp : ∀ x ∈ xs, Tells Tryz.prog w g fs lb ShVal x (p x)) :
    Calls Tryz.prog 205 #[.slice A xs.length c, .func (.func g) fs lb] w fun e w' => (∃ i : Int, (0 ≤ i ↔ xs.any p = true) ∧ e = .returned (.int .i64 i)) ∧ Ext w w' := by
  unfold maxLen at hb
  go_enter Tryz.func205, Tryz.ntmps205
  go_wp2
  go_loopw [5, 8] (fun _ i wr => ∃ k : Nat, k ≤ xs.length ∧ i = .int .i64 k ∧ Hid (∀ j, j < k → p (xs[j]?.getD default) = false) ∧ Ext w wr) (fun _ i _ => xs.length - (intOf i).toNat)
  case atStart => exact ⟨0, by omega, rfl, fun j hj => absurd hj (by omega), Ext.refl _⟩
  case round =>
    obtain ⟨k, hk, rfl, hm, he⟩ := hrel
    by_cases hlt : k < xs.length
    · obtain ⟨b, o, rfl, h1, h2⟩ := hx.ext he k hlt
      have hmem0 : (xs[k]?.getD default) ∈ xs := by simp [hlt]
      have hmem := Lib.hid hmem0
      generalize hgx : xs[k]?.getD default = x at *
      have Hgx := Lib.hid hgx; clear hgx
      have hc := hp x hmem0 wr _ he rfl
      clear hmem0
      obtain ⟨q, hq⟩ : ∃ q, p x = q := ⟨_, rfl⟩
      rw [hq] at hc
      have Hc := Lib.hid hc; clear hc
      have Hq := Lib.hid hq; clear hq
      have eg' := eg
      unfold Enters at eg'
      cases q with
      | true =>
        go_wp2_with fail
        refine Hc.out.mono ?_
        rintro e w' ⟨rfl, he'⟩
        go_wp2
        go_ret
        have ha : xs.any p = true := List.any_eq_true.2 ⟨x, hmem.out, Hq.out⟩
        exact ⟨⟨_, ⟨fun _ => ha, fun _ => by omega⟩, rfl⟩, he.trans he'⟩
      | false =>
        go_wp2_with fail
        refine Hc.out.mono ?_
        rintro e w' ⟨rfl, he'⟩
        go_wp2
        go_roundw
        case rel =>
          refine ⟨k + 1, by omega, by go_num, fun j hj => ?_, he.trans he'⟩
          by_cases ej : j = k
          · subst ej; rw [Hgx.out]; exact Hq.out
          · exact hm.out j (by omega)
        case measure => simp [intOf]; omega
    · go_wp2
      go_ret
      have hn : xs.any p = false := by
        rw [List.any_eq_false]
        intro y hy hpy
        obtain ⟨j, hj, rfl⟩ := List.mem_iff_getElem.1 hy
        have := hm.out j (by omega)
        simp [hj, hpy] at this
      exact ⟨⟨-1, ⟨fun h => absurd h (by omega), fun h => by rw [hn] at h; cases h⟩, rfl⟩, he⟩


theorem containsFuncS (g : Nat) (fs lb : Array Value) (eg : Enters Tryz.prog g) (p : Sh → Bool) (A : Option Addr) (c : Nat) (xs : List Sh) (w : World) (hb : xs.length ≤ maxLen)
    (hx : ShsAt w A xs) (hp : ∀ x ∈ xs, Tells Tryz.prog w g fs lb ShVal x (p x)) :
    Calls Tryz.prog 173 #[.slice A xs.length c, .func (.func g) fs lb] w fun e w' => e = .returned (.bool (xs.any p)) ∧ Ext w w' := by
  have h := indexFuncS g fs lb eg p A c xs w hb hx hp
  clear hx hp
  obtain ⟨q, hq⟩ : ∃ q, xs.any p = q := ⟨_, rfl⟩
  rw [hq] at h ⊢
  have H := Lib.hid h; clear h hq
  go_enter Tryz.func173, Tryz.ntmps173
  go_wp2_with fail
  refine H.out.mono ?_
  rintro e w' ⟨⟨i, hi, rfl⟩, he⟩
  cases q with
  | true =>
    have h0 : 0 ≤ i := hi.2 rfl
    clear hi
    go_wp2
    go_ret
    exact ⟨rfl, he⟩
  | false =>
    have h0 : decide (0 ≤ i) = false := by
      rw [decide_eq_false_iff_not]
      exact fun h => absurd (hi.1 h) (by simp)
    clear hi
    go_wp2
    go_ret
    exact ⟨rfl, he⟩


theorem everyS1 (g : Nat) (fs lb : Array Value) (eg : Enters Tryz.prog g) (B : Nat) (x : Sh) (q : Bool) (w : World) (hp : Tells Tryz.prog w g fs lb ShVal x q) (hB : w.cell? ⟨B, 0, none⟩ = some (.func (.func g) fs lb)) :
    Tells Tryz.prog w 174 #[] #[.pointer (some ⟨B, 0, none⟩)] ShVal x (!q) := by
  intro W v hW hv
  have hB' := hW.cell hB
  obtain rfl := hv
  have hW' := Ext.alloc W (.cells #[.int .i64 x.up, .int .i64 x.price] 105)
  have Hp := Lib.hid hp
  clear hp hB
  have eg' := eg
  unfold Enters at eg'
  have hB2 := hW'.cell hB'
  show Calls Tryz.prog 174 #[_, .pointer (some ⟨B, 0, none⟩)] W _
  go_enter Tryz.func174, Tryz.ntmps174
  cases q with
  | true =>
    go_wp2_with fail
    refine (Hp.out _ _ (hW.trans hW') rfl).mono ?_
    rintro e w' ⟨rfl, he⟩
    go_wp2
    go_ret
    exact ⟨rfl, hW'.trans he⟩
  | false =>
    go_wp2_with fail
    refine (Hp.out _ _ (hW.trans hW') rfl).mono ?_
    rintro e w' ⟨rfl, he⟩
    go_wp2
    go_ret
    exact ⟨rfl, hW'.trans he⟩


theorem everyS (g : Nat) (fs lb : Array Value) (eg : Enters Tryz.prog g) (p : Sh → Bool) (A : Option Addr) (c : Nat) (xs : List Sh) (w : World) (hb : xs.length ≤ maxLen)
    (hx : ShsAt w A xs) (hp : ∀ x ∈ xs, Tells Tryz.prog w g fs lb ShVal x (p x)) :
    Calls Tryz.prog 137 #[.slice A xs.length c, .func (.func g) fs lb] w fun e w' => e = .returned (.bool (xs.all p)) ∧ Ext w w' := by
  have hmf : ∀ (fn : Fn) (first cap : Array Value) (w : World), (Instr.makeFunc fn first cap).run Tryz.prog w = .ok (.func fn first cap) w := fun _ _ _ _ => rfl
  have hq0 : xs.all p = !(xs.any fun x => !p x) := by rw [List.not_any_eq_all_not]; simp
  obtain ⟨q, hq⟩ : ∃ q, xs.any (fun x => !p x) = q := ⟨_, rfl⟩
  rw [hq0, hq]
  have hE : Ext w (w.alloc (.cells #[.func (.func g) fs lb] 171)) := Ext.alloc _ _
  have h := containsFuncS 174 #[] #[.pointer (some ⟨w.heap.size, 0, none⟩)] (enters_of Tryz.func174 (by kernel_rfl) rfl) (fun x => !p x) A c xs _ hb (hx.ext hE) (fun x hxm => everyS1 g fs lb eg w.heap.size x (p x) _ ((hp x hxm).ext hE) (cell_new_l w _ _).1)
  rw [hq] at h
  have H := Lib.hid h; clear h hx hp hq hq0
  go_enter Tryz.func137, Tryz.ntmps137
  go_wp2_with fail
  refine H.out.mono ?_
  rintro e w' ⟨rfl, he⟩
  cases q with
  | true =>
    go_wp2
    go_ret
    exact ⟨rfl, hE.trans he⟩
  | false =>
    go_wp2
    go_ret
    exact ⟨rfl, hE.trans he⟩


set_option maxHeartbeats 400000 in
theorem indexFuncX (g : Nat) (fs lb : Array Value) (eg : Enters Tryz.prog g) (p : Int → Bool) (A : Option Addr) (c : Nat) (xs : List Int) (w : World) (hb : xs.length ≤ maxLen)
    (hx : IntsAt w A xs) (hp : ∀ x ∈ xs, Tells Tryz.prog w g fs lb IntVal x (p x)) :
    Calls Tryz.prog 224 #[.slice A xs.length c, .func (.func g) fs lb] w fun e w' => (∃ i : Int, (0 ≤ i ↔ xs.any p = true) ∧ e = .returned (.int .i64 i)) ∧ Ext w w' := by
  unfold maxLen at hb
  go_enter Tryz.func224, Tryz.ntmps224
  go_wp2
  go_loopw [5, 8] (fun _ i wr => ∃ k : Nat, k ≤ xs.length ∧ i = .int .i64 k ∧ Hid (∀ j, j < k → p (xs[j]?.getD 0) = false) ∧ Ext w wr) (fun _ i _ => xs.length - (intOf i).toNat)
  case atStart => exact ⟨0, by omega, rfl, fun j hj => absurd hj (by omega), Ext.refl _⟩
  case round =>
    obtain ⟨k, hk, rfl, hm, he⟩ := hrel
    by_cases hlt : k < xs.length
    · obtain ⟨b, o, rfl, h1⟩ := hx.ext he k hlt
      have hmem0 : (xs[k]?.getD 0) ∈ xs := by simp [hlt]
      have hmem := Lib.hid hmem0
      generalize hgx : xs[k]?.getD 0 = x at *
      have Hgx := Lib.hid hgx; clear hgx
      have hc := hp x hmem0 wr _ he rfl
      clear hmem0
      obtain ⟨q, hq⟩ : ∃ q, p x = q := ⟨_, rfl⟩
      rw [hq] at hc
      have Hc := Lib.hid hc; clear hc
      have Hq := Lib.hid hq; clear hq
      have eg' := eg
      unfold Enters at eg'
      cases q with
      | true =>
        go_wp2_with fail
        refine Hc.out.mono ?_
        rintro e w' ⟨rfl, he'⟩
        go_wp2
        go_ret
        have ha : xs.any p = true := List.any_eq_true.2 ⟨x, hmem.out, Hq.out⟩
        exact ⟨⟨_, ⟨fun _ => ha, fun _ => by omega⟩, rfl⟩, he.trans he'⟩
      | false =>
        go_wp2_with fail
        refine Hc.out.mono ?_
        rintro e w' ⟨rfl, he'⟩
        go_wp2
        go_roundw
        case rel =>
          refine ⟨k + 1, by omega, by go_num, fun j hj => ?_, he.trans he'⟩
          by_cases ej : j = k
          · subst ej; rw [Hgx.out]; exact Hq.out
          · exact hm.out j (by omega)
        case measure => simp [intOf]; omega
    · go_wp2
      go_ret
      have hn : xs.any p = false := by
        rw [List.any_eq_false]
        intro y hy hpy
        obtain ⟨j, hj, rfl⟩ := List.mem_iff_getElem.1 hy
        have := hm.out j (by omega)
        simp [hj, hpy] at this
      exact ⟨⟨-1, ⟨fun h => absurd h (by omega), fun h => by rw [hn] at h; cases h⟩, rfl⟩, he⟩


theorem containsFuncX (g : Nat) (fs lb : Array Value) (eg : Enters Tryz.prog g) (p : Int → Bool) (A : Option Addr) (c : Nat) (xs : List Int) (w : World) (hb : xs.length ≤ maxLen)
    (hx : IntsAt w A xs) (hp : ∀ x ∈ xs, Tells Tryz.prog w g fs lb IntVal x (p x)) :
    Calls Tryz.prog 193 #[.slice A xs.length c, .func (.func g) fs lb] w fun e w' => e = .returned (.bool (xs.any p)) ∧ Ext w w' := by
  have h := indexFuncX g fs lb eg p A c xs w hb hx hp
  clear hx hp
  obtain ⟨q, hq⟩ : ∃ q, xs.any p = q := ⟨_, rfl⟩
  rw [hq] at h ⊢
  have H := Lib.hid h; clear h hq
  go_enter Tryz.func193, Tryz.ntmps193
  go_wp2_with fail
  refine H.out.mono ?_
  rintro e w' ⟨⟨i, hi, rfl⟩, he⟩
  cases q with
  | true =>
    have h0 : 0 ≤ i := hi.2 rfl
    clear hi
    go_wp2
    go_ret
    exact ⟨rfl, he⟩
  | false =>
    have h0 : decide (0 ≤ i) = false := by
      rw [decide_eq_false_iff_not]
      exact fun h => absurd (hi.1 h) (by simp)
    clear hi
    go_wp2
    go_ret
    exact ⟨rfl, he⟩


theorem everyX1 (g : Nat) (fs lb : Array Value) (eg : Enters Tryz.prog g) (B : Nat) (x : Int) (q : Bool) (w : World) (hp : Tells Tryz.prog w g fs lb IntVal x q) (hB : w.cell? ⟨B, 0, none⟩ = some (.func (.func g) fs lb)) :
    Tells Tryz.prog w 194 #[] #[.pointer (some ⟨B, 0, none⟩)] IntVal x (!q) := by
  intro W v hW hv
  have hB' := hW.cell hB
  obtain rfl : v = .int .i64 x := hv
  have hW' : Ext W W := Ext.refl W
  have Hp := Lib.hid hp
  clear hp hB
  have eg' := eg
  unfold Enters at eg'
  have hB2 := hW'.cell hB'
  show Calls Tryz.prog 194 #[_, .pointer (some ⟨B, 0, none⟩)] W _
  go_enter Tryz.func194, Tryz.ntmps194
  cases q with
  | true =>
    go_wp2_with fail
    refine (Hp.out _ _ (hW.trans hW') rfl).mono ?_
    rintro e w' ⟨rfl, he⟩
    go_wp2
    go_ret
    exact ⟨rfl, hW'.trans he⟩
  | false =>
    go_wp2_with fail
    refine (Hp.out _ _ (hW.trans hW') rfl).mono ?_
    rintro e w' ⟨rfl, he⟩
    go_wp2
    go_ret
    exact ⟨rfl, hW'.trans he⟩


theorem everyX (g : Nat) (fs lb : Array Value) (eg : Enters Tryz.prog g) (p : Int → Bool) (A : Option Addr) (c : Nat) (xs : List Int) (w : World) (hb : xs.length ≤ maxLen)
    (hx : IntsAt w A xs) (hp : ∀ x ∈ xs, Tells Tryz.prog w g fs lb IntVal x (p x)) :
    Calls Tryz.prog 163 #[.slice A xs.length c, .func (.func g) fs lb] w fun e w' => e = .returned (.bool (xs.all p)) ∧ Ext w w' := by
  have hmf : ∀ (fn : Fn) (first cap : Array Value) (w : World), (Instr.makeFunc fn first cap).run Tryz.prog w = .ok (.func fn first cap) w := fun _ _ _ _ => rfl
  have hq0 : xs.all p = !(xs.any fun x => !p x) := by rw [List.not_any_eq_all_not]; simp
  obtain ⟨q, hq⟩ : ∃ q, xs.any (fun x => !p x) = q := ⟨_, rfl⟩
  rw [hq0, hq]
  have hE : Ext w (w.alloc (.cells #[.func (.func g) fs lb] 201)) := Ext.alloc _ _
  have h := containsFuncX 194 #[] #[.pointer (some ⟨w.heap.size, 0, none⟩)] (enters_of Tryz.func194 (by kernel_rfl) rfl) (fun x => !p x) A c xs _ hb (hx.ext hE) (fun x hxm => everyX1 g fs lb eg w.heap.size x (p x) _ ((hp x hxm).ext hE) (cell_new_l w _ _).1)
  rw [hq] at h
  have H := Lib.hid h; clear h hx hp hq hq0
  go_enter Tryz.func163, Tryz.ntmps163
  go_wp2_with fail
  refine H.out.mono ?_
  rintro e w' ⟨rfl, he⟩
  cases q with
  | true =>
    go_wp2
    go_ret
    exact ⟨rfl, hE.trans he⟩
  | false =>
    go_wp2
    go_ret
    exact ⟨rfl, hE.trans he⟩



end Go.Proofs.Pet

namespace Go.Proofs.Pet
open Go Go.RowKit
open Go.Proofs.Pow (PM Sh Wv)

section
variable {w w' : World}
instance (priority := low) {A : Prop} : Lift A w w' A := ⟨fun _ h => h⟩
instance {w0 : World} : Lift (Ext w0 w) w w' (Ext w0 w') := ⟨fun he h => h.trans he⟩
instance {p : Addr} {v : Value} : Lift (w.cell? p = some v) w w' (w'.cell? p = some v) := ⟨fun he h => he.cell h⟩
instance {A B A' B' : Prop} [Lift A w w' A'] [Lift B w w' B'] : Lift (A ∧ B) w w' (A' ∧ B') := ⟨fun he h => ⟨Lift.lift he h.1, Lift.lift he h.2⟩⟩
instance {A A' : Prop} [Lift A w w' A'] : Lift (Hid A) w w' (Hid A') := ⟨fun he h => Lib.hid (Lift.lift he h.out)⟩
instance {α : Sort _} {A B : α → Prop} [∀ x, Lift (A x) w w' (B x)] : Lift (∃ x, A x) w w' (∃ x, B x) := ⟨fun he ⟨x, h⟩ => ⟨x, Lift.lift he h⟩⟩
instance {α : Sort _} {A B : α → Prop} [∀ x, Lift (A x) w w' (B x)] : Lift (∀ x, A x) w w' (∀ x, B x) := ⟨fun he h x => Lift.lift he (h x)⟩
instance {g : Nat} {t : TypeId} {cs : Array Value} : Lift (Blk w g t cs) w w' (Blk w' g t cs) := ⟨fun he h => h.ext he⟩
instance {A : Option Addr} {xs : List Int} : Lift (IntsAt w A xs) w w' (IntsAt w' A xs) := ⟨fun he h => h.ext he⟩
instance {b : Nat} {e : TypeId} {v : Value} {xs : List Int} : Lift (OwnI w b e v xs) w w' (OwnI w' b e v xs) := ⟨fun he h => h.ext he⟩
instance {b : Nat} {v : Value} {xs : List (List Int)} : Lift (OwnR w b v xs) w w' (OwnR w' b v xs) := ⟨fun he h => h.ext he⟩
instance {v : Value} {xs : List Int} : Lift (SlI w v xs) w w' (SlI w' v xs) := ⟨fun he h => h.ext he⟩
instance {b N : Nat} {f : Nat → Int} : Lift (Row w b N f) w w' (Row w' b N f) := ⟨fun he h => h.ext he⟩
instance {b : Nat} {e : TypeId} {s : Nat} {v : Value} {n : Nat} {xs : List Value} : Lift (w.ownsRow b e s v n xs) w w' (w'.ownsRow b e s v n xs) := ⟨fun he h => ownsRow_ext2 h he⟩
instance {A : Option Addr} {xs : List Sh} : Lift (ShsAt w A xs) w w' (ShsAt w' A xs) := ⟨fun he h => h.ext he⟩
instance {A : Option Addr} {xs : List Wv} : Lift (WvsAt w A xs) w w' (WvsAt w' A xs) := ⟨fun he h => h.ext he⟩
instance {v : Value} {x : Wv} : Lift (WvVal w v x) w w' (WvVal w' v x) := ⟨fun he h => h.ext he⟩
instance {v : Value} {m : PM} : Lift (PMVal w v m) w w' (PMVal w' v m) := ⟨fun he h => h.ext he⟩
end
end Go.Proofs.Pet

namespace Go.Proofs.Pet
open Go Go.RowKit
open Go.Proofs.Pow (PM Sh Wv POk)

def deskC (v1 v2 : Value) (f : Nat → Nat → Bool) : Array Value := (v1 :: v2 :: (List.range 54).map fun j => Value.bool (f (j / 6) (j % 6))).toArray
theorem deskC_size (v1 v2 : Value) (f : Nat → Nat → Bool) : (deskC v1 v2 f).size = 56 := by simp [deskC]
theorem deskC_cell (v1 v2 : Value) (f : Nat → Nat → Bool) {s k : Nat} (hs : s < 9) (hk : k < 6) : (deskC v1 v2 f)[2 + s * 6 + k]? = some (.bool (f s k)) := by
  unfold deskC
  have h1 : s * 6 + k < 54 := by omega
  have h2 : (s * 6 + k) / 6 = s := by omega
  have h3 : (s * 6 + k) % 6 = k := by omega
  rw [List.getElem?_toArray, show 2 + s * 6 + k = (s * 6 + k) + 1 + 1 by omega, List.getElem?_cons_succ, List.getElem?_cons_succ, List.getElem?_map, List.getElem?_range h1, Option.map_some, h2, h3]
theorem deskC_congr {v1 v2 : Value} {f g : Nat → Nat → Bool} (h : ∀ s k, s < 9 → k < 6 → f s k = g s k) : deskC v1 v2 f = deskC v1 v2 g := by
  unfold deskC
  congr 3
  refine List.map_congr_left fun j hj => ?_
  rw [List.mem_range] at hj
  rw [h (j / 6) (j % 6) (by omega) (by omega)]
theorem deskC_set (v1 v2 : Value) (f : Nat → Nat → Bool) {s k : Nat} (hs : s < 9) (hk : k < 6) (b : Bool) : (deskC v1 v2 f).setIfInBounds (2 + s * 6 + k) (.bool b) = deskC v1 v2 (fun x y => if x = s ∧ y = k then b else f x y) := by
  apply Array.ext_getElem?
  intro i
  rw [Array.getElem?_setIfInBounds, deskC_size]
  by_cases hi : 2 + s * 6 + k = i
  · subst hi
    rw [if_pos rfl, if_pos (by omega), deskC_cell _ _ _ hs hk, if_pos ⟨rfl, rfl⟩]
  · rw [if_neg hi]
    unfold deskC
    simp only [List.getElem?_toArray]
    match i with
    | 0 => rfl
    | 1 => rfl
    | i + 2 =>
      simp only [List.getElem?_cons_succ, List.getElem?_map]
      by_cases h54 : i < 54
      · rw [List.getElem?_range h54]
        simp only [Option.map_some]
        rw [if_neg (by omega)]
      · rw [List.getElem?_eq_none (by simp; omega)]; rfl
def drvC (m : PM) (s k : Nat) : Bool := decide (k < m.wvs.length) && m.drv s k
def DeskAt (w : World) (D : Nat) (m : PM) : Prop :=
  ∃ A1 c1 A2 c2, Blk w D 165 (deskC (.slice A1 m.shafts.length c1) (.slice A2 m.wvs.length c2) (drvC m)) ∧ m.shafts.length ≤ c1 ∧ c1 ≤ maxLen ∧ m.wvs.length ≤ c2 ∧ c2 ≤ maxLen ∧ ShsAt w A1 m.shafts ∧ WvsAt w A2 m.wvs
section
variable {w w' : World} {D : Nat} {m : PM}
theorem DeskAt.ext (h : DeskAt w D m) (he : Ext w w') : DeskAt w' D m := by
  obtain ⟨A1, c1, A2, c2, h1, h2, h3, h4, h5, h6, h7⟩ := h
  exact ⟨A1, c1, A2, c2, h1.ext he, h2, h3, h4, h5, h6.ext he, h7.ext he⟩
instance : Lift (DeskAt w D m) w w' (DeskAt w' D m) := ⟨fun he h => h.ext he⟩
theorem DeskAt.drv (h : DeskAt w D m) {s k : Nat} (hs : s < 9) (hk : k < 6) : w.cell? ⟨D, 2 + s * 6 + k, none⟩ = some (.bool (drvC m s k)) := by
  obtain ⟨A1, c1, A2, c2, h1, _⟩ := h
  rw [h1.cell, deskC_cell _ _ _ hs hk]
theorem DeskAt.slices (h : DeskAt w D m) : ∃ A1 c1 A2 c2, w.cell? ⟨D, 0, none⟩ = some (.slice A1 m.shafts.length c1) ∧ w.cell? ⟨D, 1, none⟩ = some (.slice A2 m.wvs.length c2) ∧ PMVal w (.agg #[.slice A1 m.shafts.length c1, .slice A2 m.wvs.length c2]) m ∧ ShsAt w A1 m.shafts ∧ WvsAt w A2 m.wvs := by
  obtain ⟨A1, c1, A2, c2, h1, h2, h3, h4, h5, h6, h7⟩ := h
  exact ⟨A1, c1, A2, c2, h1.cell 0, h1.cell 1, ⟨A1, c1, A2, c2, rfl, h2, h3, h4, h5, h6, h7⟩, h6, h7⟩
theorem DeskAt.lt (h : DeskAt w D m) : D < w.heap.size := by
  obtain ⟨A1, c1, A2, c2, h1, _⟩ := h
  exact h1.lt
end
/-- a shaft of a line -/
theorem line_lt {m : PM} (hm : POk m) {k : Nat} (hk : k < m.wvs.length) {x : Int} (hx : x ∈ m.line (m.wv k).shaft) : 0 ≤ x ∧ x < m.shafts.length := by
  obtain ⟨h1, h2⟩ := hm.at_ k hk
  obtain ⟨s, hs⟩ : ∃ s : Nat, (m.wv k).shaft = s := ⟨_, (Int.toNat_of_nonneg h1).symm⟩
  rw [hs] at hx h2
  have := Pow.line_mem m hm.up s (by omega) x hx
  omega
end Go.Proofs.Pet

namespace Go.Proofs.Pet
open Go Go.RowKit

/-- what such an iterator does: some elements come, one by one; what the rounds carry on may say nothing of what the iterator turns (Tn) -/
def SeqT {α : Type} (F : Fence) (n : Nat) (P : Program) (g : Nat) (lb : Array Value) (encs : α → Array Value) (Kp Tn : World → World → Prop) (S : List α → Prop) (N : Nat) (w : World) : Prop :=
  ∀ (l : Nat) (J : List α → World → Prop) (W : World), Below w.heap.size w W → AbidesFrom W.heap.size J → (∀ s X Y, J s X → Tn X Y → J s Y) →
    (∀ pre x W1, J pre W1 → pre.length < N → YieldAt F (n - 1) P l (encs x) W1 fun e W' => e = .returned (.bool true) ∧ J (pre ++ [x]) W' ∧ Kp W1 W') → J [] W →
    CallsIn F n P g (#[.func (.yield l) #[] #[]] ++ lb) W fun e W' => (∃ v, e = .returned v) ∧ ∃ xs, S xs ∧ J xs W'
section
variable {α : Type} {F : Fence} {n : Nat} {P : Program} {encs : α → Array Value} {Kp Tn : World → World → Prop} {S : List α → Prop} {N : Nat}
/-- the loop's record -/
def recT (fn : FuncId) (tmps : Array Value) (ps : Array Tmp) (assign body : Code) (D : Nat) (st : LoopState) : Loop :=
  { state := st, pending := none, fn, tmps, params := ps, assign, body, defers := D }
theorem wpIn_rangeT {g : Operand} {ps : Array Tmp} {assign body : Code} {Q : Exit → Act → World → Prop} {a : Act} {w w0 : World} {gf : Nat} {lb : Array Value}
    (hro : F.round = none) (h1 : 1 ≤ n) (hg : a.eval g = .func (.func gf) #[] lb) (hFg : F.fn gf) (eg : Enters P gf) (hseq : SeqT F (n - 1) P gf lb encs Kp Tn S N w0) (hb0 : Below w0.heap.size w0 w)
    (hKt : ∀ {A B C : World}, Kp A B → Kp B C → Kp A C) (hKb : ∀ (W : World) (l : Nat) (o o' : Obj), w.heap.size ≤ l → W.heap[l]? = some o → o.isCells = false → o.isWalk = false → Kp W (W.putObj l o'))
    (hTw : ∀ X Y, Tn X Y → ∀ k, w.heap.size ≤ k → Y.heap[k]? = X.heap[k]?) (hps : ∀ x, (encs x).size = ps.size)
    (I : List α → World → Prop) (hI : OwnFrom w.heap.size I) (hIT : ∀ s X Y, I s X → Tn X Y → I s Y) (h0 : I [] w) (a₁ : α → Act)
    (hassign : ∀ (l : Nat) (x : α) (W : World) (K : Act → World → Prop), K (a₁ x) W →
      assign.wpIn (F.inRound l) (n - 1 - 1) P (Exit.then K (fun _ _ _ => False)) { tmps := (ps.zip (encs x)).foldl (fun t (p, v) => t.setIfInBounds p v) a.tmps, defers := [] } W)
    (hbody : ∀ (l : Nat) (pre : List α) (x : α) (W : World), I pre W → pre.length < N → body.wpIn (F.inRound l) (n - 1 - 1) P (ownPostG w.heap.size Kp I (fun _ _ _ => False) (pre ++ [x]) W) (a₁ x) W)
    (hdone : ∀ (D : Nat) (xs : List α) (W : World), w.heap.size ≤ D → S xs → I xs W → W.heap[D]? = some (.deferred (some [])) → Q .normal { a with defers := { target := .collected D, args := #[] } :: a.defers } W) :
    (Code.rangeFunc g ps assign body).wpIn F n P Q a w := by
  refine wpIn_rangeFunc fun fn hfn => ?_
  rw [hro]
  -- the two blocks that the loop lays: what the rounds defer, and its record
  let D := w.heap.size
  let wd := w.alloc (.deferred (some []))
  let rc := recT fn a.tmps ps assign body D
  obtain ⟨V, hV⟩ : ∃ V, wd.alloc (.loop (rc .ready)) = V := ⟨_, rfl⟩
  have hsz : wd.heap.size = D + 1 := World.size_alloc ..
  have hrec : V.heap[D + 1]? = some (.loop (rc .ready)) := by
    rw [← hV, ← hsz]; exact World.alloc_heap_new wd _
  have hdef : V.heap[D]? = some (.deferred (some [])) := by
    rw [← hV]; exact (Below.heap_alloc wd _ D (by omega)).trans (World.alloc_heap_new w _)
  have hIV : I [] V := by rw [← hV]; exact hI.alloc _ (hI.alloc _ h0)
  have hbV : Below w0.heap.size w0 V := by
    rw [← hV]
    exact hb0.trans (((Ext.alloc w _).trans (Ext.alloc wd _)).mono hb0.size)
  have hVD : D + 2 ≤ V.heap.size := by rw [← hV, World.size_alloc, hsz]; omega
  refine ⟨D + 1, [{ target := .collected D, args := #[] }], V, { target := .fn (.func gf) lb, args := #[.func (.yield (D + 1)) #[] #[]] }, V, gf, #[.func (.yield (D + 1)) #[] #[]] ++ lb, V, ?_, ?_, ?_, ?_, fun _ => h1, ?_⟩
  · rw [← hV]; exact run_enterLoop_outer _ _ _ _ _
  · simp only [resolve, hg]
    simp [go_sem]
  · intro f' hf'
    simp [Target.leads] at hf'
    subst hf'; exact hFg
  · simp [invoke, go_sem, eg _ _]
  · -- what is carried on: the caller's invariant and the two blocks
    have hwalk : ∀ {A B : World} {row : Option Nat}, A.grownBy B row → (∀ r, row = some r → V.heap.size ≤ r ∧ ∃ o : Obj, A.heap[r]? = some o ∧ o.isWalk = true) → ∀ s, I s A → I s B :=
      fun hgr hr s hs => hI s _ _ _ hs hgr fun r e => by
        obtain ⟨q, o, ho, hw⟩ := hr r e
        exact ⟨by omega, o, ho, Obj.not_cells_of_walk hw⟩
    refine (hseq (D + 1) (fun pre W => I pre W ∧ W.heap[D + 1]? = some (.loop (rc .ready)) ∧ W.heap[D]? = some (.deferred (some []))) V hbV ?_ ?_ ?_ ⟨hIV, hrec, hdef⟩).mono ?_
    · intro s A B row ⟨g1, g2, g3⟩ hgr hr
      exact ⟨hwalk hgr hr s g1, (grownBy_keeps hgr (fun r e => (hr r e).2) g2 rfl).trans g2, (grownBy_keeps hgr (fun r e => (hr r e).2) g3 rfl).trans g3⟩
    · intro s X Y ⟨g1, g2, g3⟩ ht
      exact ⟨hIT s X Y g1 ht, (hTw X Y ht _ (by omega)).trans g2, (hTw X Y ht _ (Nat.le_refl _)).trans g3⟩
    · -- a round
      intro pre x W ⟨g1, g2, g3⟩ hlen
      have hlt : D + 1 < W.heap.size := (Array.getElem?_eq_some_iff.1 g2).1
      refine ⟨fn, _, assign, body, run_yield (P := P) (args := encs x) g2 (hps x), roundIn_of_wpIn hfn (hassign _ x W _ ⟨_, run_beginRound g2 rfl, ?_⟩)⟩
      obtain ⟨B, hB⟩ : ∃ B, W.putObj (D + 1) (.loop (rc .busy)) = B := ⟨_, rfl⟩
      have hB' : W.putObj (D + 1) (.loop { rc .ready with state := .busy }) = B := hB
      rw [hB']
      have p2 : B.heap[D + 1]? = some (.loop (rc .busy)) := by rw [← hB]; exact World.putObj_heap_same hlt
      have p3 : B.heap[D]? = some (.deferred (some [])) := by rw [← hB]; exact (World.putObj_heap_other (by omega)).trans g3
      have pK : Kp W B := by rw [← hB]; exact hKb _ _ _ _ (by omega) g2 rfl rfl
      have pI : I pre B := by rw [← hB]; exact hI.putObj _ g1 (by omega) g2 rfl
      clear hB hB'
      refine wpIn_mono (hbody _ pre x B pI hlen) ?_
      intro e a3 W3 hp
      cases e with
      | normal =>
        obtain ⟨k1, k2, k3⟩ := hp
        have q2 := k1.same _ _ (by omega) p2 rfl
        have q3 := k1.same _ _ (Nat.le_refl _) p3 rfl
        have hend := run_endRound (P := P) none q2
        refine ⟨_, _, hend, rfl, ⟨hI.putObj _ k3 (by omega) q2 rfl, World.putObj_heap_same (Array.getElem?_eq_some_iff.1 q2).1, (World.putObj_heap_other (by omega)).trans q3⟩, hKt (hKt pK k2) (hKb _ _ _ _ (by omega) q2 rfl rfl)⟩
      | ret => exact hp.2.elim
      | exit id => exact hp.2.elim
      | goto t => exact hp.2.elim
      | panic ch => exact hp.elim
      | outgrown => exact hp.elim
    · -- behind the iterator
      rintro e W2 ⟨⟨v, rfl⟩, xs, hS, g1, g2, g3⟩
      exact ⟨none, _, run_endLoop (P := P) g2 (show LoopState.ready ≠ LoopState.busy by decide), hdone D xs _ (Nat.le_refl _) hS (hI.putObj _ g1 (by omega) g2 rfl) ((World.putObj_heap_other (by omega)).trans g3)⟩
end
end Go.Proofs.Pet

namespace Go.Proofs.Pet
open Go
theorem wp_loop_ghost_u {P : Program} {Q : Exit → Act → World → Prop} {a : Act} {w : World} {c : Code} (I : (Nat → Value) → Nat → Act → World → Prop) (n₀ : Nat) (h₀ : I (fun k => a.tmps.getD k undef) n₀ a w)
    (round : ∀ u n a w, I u n a w → ∀ (J : Nat → Act → World → Prop) (K : Act → World → Prop), (∀ k a' w', I (fun j => a'.tmps.getD j undef) k a' w' → J k a' w') → (∀ a' w', Handed J n a' w' → K a' w') → c.wp P (Exit.then K Q) a w) : (Code.loop c).wp P Q a w :=
  wp_loop_ghost_k (fun n a w => ∃ u, I u n a w) n₀ ⟨_, h₀⟩ fun n a w ⟨u, h⟩ J K hJ hK => round u n a w h J K (fun k a' w' h' => hJ k a' w' ⟨_, h'⟩) hK
end Go.Proofs.Pet

namespace Go.Proofs.Pet
open Go Go.RowKit Go.Maps Go.WideMaps
open Go.Proofs.Pow (PM Sh Wv)

theorem spotRow : (206 : TypeId) < Tryz.prog.types.size := of_decide_eq_true (by kernel_rfl)
theorem spotLaw : KeyLaw Tryz.prog 206 := deep_law_laid laidOut_ (m := 2) (by omega) spotRow (by kernel_rfl) (by rw [Tryz.underlying206])
theorem spotKeyed : Keyed Tryz.prog 206 := Keyed.of_law spotLaw
def spotKey (s h : Nat) : Lit := .string (keyBytes [.int .i64 (s : Int), .int .i64 (h : Int)])
theorem keyOf_spot {s h : Nat} (hs : s ≤ 1048576) (hh : h ≤ 1048576) : keyOf Tryz.prog 206 (.agg #[.int .i64 (s : Int), .int .i64 (h : Int)]) = some (spotKey s h) := by
  have wa := WalkArith.wf_i64 (n := (s : Int)) (by omega)
  have wb := WalkArith.wf_i64 (n := (h : Int)) (by omega)
  have hc : Tryz.prog.cellsOf 206 = 2 := by kernel_rfl
  have hci : Tryz.prog.cellsOf 3 = 1 := by kernel_rfl
  have hkt : Tryz.prog.keyType 206 = true := by kernel_rfl
  have hpos : 0 < Tryz.prog.types.size := Nat.lt_of_le_of_lt (Nat.zero_le _) spotRow
  obtain ⟨m, hm⟩ := Nat.exists_eq_add_of_lt hpos
  unfold keyOf
  simp only [Tryz.underlying206]
  rw [if_pos (by simp [hkt, Value.formed, Tryz.underlying206, hc]), hm]
  unfold Program.keyLits
  simp [Tryz.underlying206, Value.cells, hc, hci, Program.keyLits, Tryz.underlying3, wa, wb, spotKey]
theorem spotKey_inj {s h s' h' : Nat} (hs : s ≤ 1048576) (hh : h ≤ 1048576) (hs' : s' ≤ 1048576) (hh' : h' ≤ 1048576) (e : spotKey s h = spotKey s' h') : s = s' ∧ h = h' := by
  have h1 := keyOf_spot hs hh
  rw [e] at h1
  have h2 := spotKeyed.inj h1 (keyOf_spot hs' hh')
  simp at h2
  omega
theorem zero_bool (w : World) : (zeroValue 4).run Tryz.prog w = .ok (.bool false) w := by kernel_rfl
def MarkMap (w : World) (M cnt : Nat) (f : Nat → Nat → Bool) : Prop :=
  ∃ D : DataW Unit, w.ownsMap Tryz.prog 206 (plainElem Tryz.prog 4) M cnt D ∧ ∀ s h : Nat, s ≤ 1048576 → h ≤ 1048576 → D.atKey (spotKey s h) (.lit (.bool false)) = .lit (.bool (f s h))
theorem plainElem_bool_inv {P : Program} {e : TypeId} (he : P.underlying e = some .bool) {v : Value} {z : DataW Unit × List MemPlace} (h : plainElem P e v = some z) : ∃ a, v = .bool a ∧ z = (.lit (.bool a), []) := by
  unfold plainElem at h
  rw [he] at h
  cases v <;> simp at h
  exact ⟨_, rfl, h.symm⟩
theorem blit_inj {a b : Bool} (h : (DataW.lit (.bool a) : DataW Unit) = .lit (.bool b)) : a = b := by
  injection h with h
  injection h
theorem MarkMap.made (w : World) : MarkMap (w.alloc (.map #[] 0)) w.heap.size 0 (fun _ _ => false) := ⟨.map [], World.ownsMap_made w _ _ _, fun s h _ _ => by rfl⟩
theorem MarkMap.ext {w w' : World} {M cnt : Nat} {f : Nat → Nat → Bool} (h : MarkMap w M cnt f) (he : Ext w w') : MarkMap w' M cnt f := by
  obtain ⟨D, h1, h2⟩ := h
  exact ⟨D, h1.kept ⟨he.os, he.tape, he.output, he.size, fun k hk _ => Below.block he k hk⟩ (by simp : some M ≠ none), h2⟩
theorem MarkMap.look {w : World} {M cnt : Nat} {f : Nat → Nat → Bool} (h : MarkMap w M cnt f) (s t : Nat) (hs : s ≤ 1048576) (ht : t ≤ 1048576) :
    (Instr.lookup 204 (.map (some M)) (.agg #[.int .i64 (s : Int), .int .i64 (t : Int)]) false).run Tryz.prog w = .ok (.bool (f s t)) w := by
  obtain ⟨D, h1, h2⟩ := h
  obtain ⟨v, ps, hr, hv⟩ := h1.lookup spotKeyed Tryz.underlying204 (zero_bool w) (plainElem_bool Tryz.underlying4 false) (keyOf_spot hs ht)
  obtain ⟨a, rfl, e⟩ := plainElem_bool_inv Tryz.underlying4 hv
  simp only [Prod.mk.injEq] at e
  have hq := (h2 s t hs ht).symm.trans e.1
  rw [hr, blit_inj hq]
theorem MarkMap.store {w : World} {M cnt : Nat} {f : Nat → Nat → Bool} (h : MarkMap w M cnt f) (s t : Nat) (hs : s ≤ 1048576) (ht : t ≤ 1048576) (hc : cnt ≤ 1048576) (v : Bool) :
    ∃ w', (Instr.mapUpdate 204 (.map (some M)) (.agg #[.int .i64 (s : Int), .int .i64 (t : Int)]) (.bool v)).run Tryz.prog w = .ok () w' ∧ MarkMap w' M (cnt + 1) (fun x y => if x = s ∧ y = t then v else f x y) ∧ w.grownBy w' (some M) := by
  obtain ⟨D, h1, h2⟩ := h
  have hD : IsMap D := by obtain ⟨es, clock, hb, F, hs, rfl⟩ := h1; exact ⟨_, rfl⟩
  obtain ⟨w', hr, ho, hg⟩ := h1.update spotKeyed Tryz.underlying204 (by unfold maxLen; omega) (keyOf_spot hs ht) (plainElem_bool Tryz.underlying4 v)
  refine ⟨w', hr, ⟨_, ho, fun x y hx hy => ?_⟩, hg⟩
  by_cases e : x = s ∧ y = t
  · obtain ⟨rfl, rfl⟩ := e
    rw [atKey_put_same hD (by simp [spotKey, WideAt.IsKeyLit])]
    simp
  · rw [atKey_put_other (fun e' => e (spotKey_inj hx hy hs ht e')), h2 x y hx hy]
    show _ = DataW.lit (.bool (if x = s ∧ y = t then v else f x y))
    rw [if_neg e]
end Go.Proofs.Pet
