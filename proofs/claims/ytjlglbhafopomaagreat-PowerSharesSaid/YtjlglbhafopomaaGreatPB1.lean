/-
  power's Check, weaver, shaft, hour, walked.
-/
import Derived.Test.YtjlglbhafopomaaGreatPAM
namespace Go.Proofs.Pet
open Go Go.RowKit
open Go.Proofs.Pow (PM Sh Wv POk)

theorem pweaver_any (v : Value) (m : PM) (n : Int) (q : Bool) (hq : inB n 0 (m.wvs.length - 1) = q) (w : World) (hv : PMVal w v m) :
    Calls Tryz.prog 129 #[v, .int .i64 n] w fun e w' => e = .returned (.bool q) ∧ Ext w w' := by
  obtain ⟨A1, c1, A2, c2, rfl, h2, h3, h4, h5, h6, h7⟩ := hv
  unfold maxLen at h5
  have Hc := Lib.hid (in_any n 0 (m.wvs.length - 1) q hq)
  have hE := Ext.alloc w (.cells #[.slice A1 m.shafts.length c1, .slice A2 m.wvs.length c2] 26)
  obtain ⟨k0, k1⟩ := (Blk.new w 26 #[.slice A1 m.shafts.length c1, .slice A2 m.wvs.length c2]).c2
  clear hq h6 h7
  go_enter Tryz.func129, Tryz.ntmps129
  go_wp2_with fail
  refine (Hc.out _).mono ?_
  rintro e w' ⟨rfl, rfl⟩
  go_wp2
  go_ret
  exact ⟨rfl, hE⟩
theorem pshaft_any (v : Value) (m : PM) (n : Int) (q : Bool) (hq : inB n 0 (m.shafts.length - 1) = q) (w : World) (hv : PMVal w v m) :
    Calls Tryz.prog 134 #[v, .int .i64 n] w fun e w' => e = .returned (.bool q) ∧ Ext w w' := by
  obtain ⟨A1, c1, A2, c2, rfl, h2, h3, h4, h5, h6, h7⟩ := hv
  unfold maxLen at h3
  have Hc := Lib.hid (in_any n 0 (m.shafts.length - 1) q hq)
  have hE := Ext.alloc w (.cells #[.slice A1 m.shafts.length c1, .slice A2 m.wvs.length c2] 26)
  obtain ⟨k0, k1⟩ := (Blk.new w 26 #[.slice A1 m.shafts.length c1, .slice A2 m.wvs.length c2]).c2
  clear hq h6 h7
  go_enter Tryz.func134, Tryz.ntmps134
  go_wp2_with fail
  refine (Hc.out _).mono ?_
  rintro e w' ⟨rfl, rfl⟩
  go_wp2
  go_ret
  exact ⟨rfl, hE⟩
theorem hour_any (n : Int) (q : Bool) (hq : inB n 0 23 = q) (w : World) :
    Calls Tryz.prog 141 #[.int .i64 n] w fun e w' => e = .returned (.bool q) ∧ w = w' := by
  have Hc := Lib.hid (in_any n 0 23 q hq)
  clear hq
  go_enter Tryz.func141, Tryz.ntmps141
  go_wp2_with fail
  refine (Hc.out _).mono ?_
  rintro e w' ⟨rfl, rfl⟩
  go_wp2
  go_ret
  exact ⟨rfl, rfl⟩
theorem pcheck1 (w : World) (x : Sh) : Tells Tryz.prog w 138 #[] #[] ShVal x (inB x.price 0 60) := by
  intro W v hW hv
  obtain rfl := hv
  have Hc := Lib.hid (in_any x.price 0 60 _ rfl)
  have hE := Ext.alloc W (.cells #[.int .i64 x.up, .int .i64 x.price] 105)
  obtain ⟨k0, k1⟩ := (Blk.new W 105 #[.int .i64 x.up, .int .i64 x.price]).c2
  generalize inB x.price 0 60 = q at Hc ⊢
  show Calls Tryz.prog 138 #[_] W _
  go_enter Tryz.func138, Tryz.ntmps138
  go_wp2_with fail
  refine (Hc.out _).mono ?_
  rintro e w' ⟨rfl, rfl⟩
  go_wp2
  go_ret
  exact ⟨rfl, hE⟩
theorem pcheck2 (w : World) (x : Wv) : Tells Tryz.prog w 140 #[] #[] WvVal x (x.hours.all fun h => inB h 0 23) := by
  intro W v hW hv
  obtain ⟨A, c, h1, rfl, h3⟩ := hv
  have hE := Ext.alloc W (.cells #[.int .i64 x.shaft, .slice A x.hours.length c] 82)
  obtain ⟨k0, k1⟩ := (Blk.new W 82 #[.int .i64 x.shaft, .slice A x.hours.length c]).c2
  have H := Lib.hid (everyI 141 #[] #[] (enters_of Tryz.func141 (by kernel_rfl) rfl) (fun h => inB h 0 23) A c x.hours _ (Nat.le_trans h1.1 h1.2) (h3.ext hE)
    (fun y _ => fun W' v' _ hv' => by
      obtain rfl : v' = .int .i64 y := hv'
      exact (hour_any y _ rfl W').mono fun e w' h => ⟨h.1, h.2 ▸ Ext.refl _⟩))
  generalize (x.hours.all fun h => inB h 0 23) = q at H ⊢
  show Calls Tryz.prog 140 #[_] W _
  go_enter Tryz.func140, Tryz.ntmps140
  go_wp2_with fail
  refine H.out.mono ?_
  rintro e w' ⟨rfl, he⟩
  go_wp2
  go_ret
  exact ⟨rfl, hE.trans he⟩
theorem pcheck4 (w : World) (x : Wv) : Tells Tryz.prog w 143 #[] #[] WvVal x (risingB x.hours) := by
  intro W v hW hv
  obtain ⟨A, c, h1, rfl, h3⟩ := hv
  have hE := Ext.alloc W (.cells #[.int .i64 x.shaft, .slice A x.hours.length c] 82)
  obtain ⟨k0, k1⟩ := (Blk.new W 82 #[.int .i64 x.shaft, .slice A x.hours.length c]).c2
  have H := Lib.hid (rising_any A c x.hours _ rfl _ (Nat.le_trans h1.1 h1.2) (h3.ext hE))
  generalize risingB x.hours = q at H ⊢
  show Calls Tryz.prog 143 #[_] W _
  go_enter Tryz.func143, Tryz.ntmps143
  go_wp2_with fail
  refine H.out.mono ?_
  rintro e w' ⟨rfl, he⟩
  go_wp2
  go_ret
  exact ⟨rfl, hE.trans he⟩
theorem pcheck3 (w : World) (B : Nat) (s1 s2 : Value) (m : PM) (hB : Blk w B 26 #[s1, s2]) (hm : PMVal w (.agg #[s1, s2]) m) (x : Wv) :
    Tells Tryz.prog w 142 #[] #[.pointer (some ⟨B, 0, none⟩)] WvVal x (inB x.shaft 0 (m.shafts.length - 1)) := by
  intro W v hW hv
  obtain ⟨A, c, h1, rfl, h3⟩ := hv
  have hE := Ext.alloc W (.cells #[.int .i64 x.shaft, .slice A x.hours.length c] 82)
  obtain ⟨k0, k1⟩ := (Blk.new W 82 #[.int .i64 x.shaft, .slice A x.hours.length c]).c2
  have hb := (hB.ext hW).ext hE
  have hf := hb.frozen 0
  obtain ⟨j0, j1⟩ := hb.c2
  have H := Lib.hid (pshaft_any _ m x.shaft _ rfl _ ((hm.ext hW).ext hE))
  obtain ⟨A1, c1, A2, c2, he, _⟩ := hm
  simp only [Value.agg.injEq, Array.mk.injEq, List.cons.injEq, and_true] at he
  obtain ⟨rfl, rfl⟩ := he
  clear hB hb
  generalize inB x.shaft 0 (m.shafts.length - 1) = q at H ⊢
  show Calls Tryz.prog 142 #[_, .pointer (some ⟨B, 0, none⟩)] W _
  go_enter Tryz.func142, Tryz.ntmps142
  go_wp2_with fail
  refine H.out.mono ?_
  rintro e w' ⟨rfl, he⟩
  go_wp2
  go_ret
  exact ⟨rfl, hE.trans he⟩

set_option maxHeartbeats 1000000 in
theorem pcheck_any (v : Value) (m : PM) (w : World) (hv : PMVal w v m) :
    Calls Tryz.prog 73 #[v] w fun e w' => e = .returned (.int .i64 (checkP m)) ∧ Ext w w' := by
  have hmf : ∀ (fn : Fn) (first cap : Array Value) (w : World), (Instr.makeFunc fn first cap).run Tryz.prog w = .ok (.func fn first cap) w := fun _ _ _ _ => rfl
  have Hv := Lib.hid hv
  obtain ⟨A1, c1, A2, c2, rfl, h2, h3, h4, h5, h6, h7⟩ := hv
  unfold maxLen at h3 h5
  have g1 : m.shafts.length ≤ maxLen := by unfold maxLen; omega
  have g2 : m.wvs.length ≤ maxLen := by unfold maxLen; omega
  unfold checkP
  have hin := in_any m.shafts.length 1 9 _ rfl
  have hE1 := Ext.alloc w (.cells #[.slice A1 m.shafts.length c1, .slice A2 m.wvs.length c2] 26)
  have hB1 := Blk.new w 26 #[.slice A1 m.shafts.length c1, .slice A2 m.wvs.length c2]
  have e1 := fun W (hW : Ext w W) => everyS 138 #[] #[] (enters_of Tryz.func138 (by kernel_rfl) rfl) _ A1 c1 m.shafts W g1 (h6.ext hW) (fun x _ => pcheck1 W x)
  have e2 := fun W (hW : Ext w W) => everyW 140 #[] #[] (enters_of Tryz.func140 (by kernel_rfl) rfl) _ A2 c2 m.wvs W g2 (h7.ext hW) (fun x _ => pcheck2 W x)
  have e4 := fun W (hW : Ext w W) => everyW 143 #[] #[] (enters_of Tryz.func143 (by kernel_rfl) rfl) _ A2 c2 m.wvs W g2 (h7.ext hW) (fun x _ => pcheck4 W x)
  have e3 := fun W B (hW : Ext w W) (hB : Blk W B 26 #[.slice A1 m.shafts.length c1, .slice A2 m.wvs.length c2]) =>
    everyW 142 #[] #[.pointer (some ⟨B, 0, none⟩)] (enters_of Tryz.func142 (by kernel_rfl) rfl) _ A2 c2 m.wvs W g2 (h7.ext hW) (fun x _ => pcheck3 W B _ _ m hB (Hv.out.ext hW) x)
  have Hup : Hid (∀ q, ((List.range m.shafts.length).all fun i => inB (m.sh i).up (-1) ((i : Int) - 1)) = q → (q = true ↔ ∀ i, i < m.shafts.length → inB (m.sh i).up (-1) ((i : Int) - 1) = true)) := by
    intro q hq
    rw [← hq, List.all_eq_true]
    exact ⟨fun h i hi => h i (List.mem_range.2 hi), fun h i hi => h i (List.mem_range.1 hi)⟩
  generalize inB m.shafts.length 1 9 = q1 at hin ⊢
  generalize (m.shafts.all fun s => inB s.price 0 60) = q2 at e1 ⊢
  generalize (m.wvs.all fun w => w.hours.all fun h => inB h 0 23) = q3 at e2 ⊢
  generalize hq4 : ((List.range m.shafts.length).all fun i => inB (m.sh i).up (-1) ((i : Int) - 1)) = q4
  generalize (m.wvs.all fun w => inB w.shaft 0 (m.shafts.length - 1)) = q5 at e3 ⊢
  generalize (m.wvs.all fun w => risingB w.hours) = q6 at e4 ⊢
  have Hin := Lib.hid hin
  have E1 := Lib.hid e1
  have E2 := Lib.hid e2
  have E3 := Lib.hid e3
  have E4 := Lib.hid e4
  have Hq4 := Lib.hid (Hup.out q4 hq4)
  have H6 := Lib.hid h6; have H7 := Lib.hid h7
  clear hin e1 e2 e3 e4 hq4 Hup h6 h7
  obtain ⟨k0, k1⟩ := hB1.c2
  go_enter Tryz.func73, Tryz.ntmps73
  go_wp2_with fail
  refine (Hin.out _).mono ?_
  rintro e w' ⟨rfl, rfl⟩
  cases q1 with
  | false =>
    go_wp2
    go_ret
    exact ⟨by simp, hE1⟩
  | true =>
    by_cases hlen : 6 < m.wvs.length
    · go_wp2
      go_ret
      exact ⟨by simp, hE1⟩
    · have hlen' : decide (6 < (m.wvs.length : Int)) = false := by simp; omega
      go_wp2_with fail
      refine (E1.out _ hE1).mono ?_
      rintro e w3 ⟨rfl, hE3⟩
      have hE3' := hE1.trans hE3
      have hB3 := hB1.ext hE3
      clear k0 k1 hB1 hE1 hE3
      obtain ⟨k0, k1⟩ := hB3.c2
      cases q2 with
      | false =>
        go_wp2
        go_ret
        exact ⟨by simp, hE3'⟩
      | true =>
        go_wp2_with fail
        refine (E2.out _ hE3').mono ?_
        rintro e w4 ⟨rfl, hE4⟩
        have hE4' := hE3'.trans hE4
        have hB4 := hB3.ext hE4
        clear k0 k1 hB3 hE3' hE4
        obtain ⟨k0, k1⟩ := hB4.c2
        cases q3 with
        | false =>
          go_wp2
          go_ret
          exact ⟨by simp, hE4'⟩
        | true =>
          go_wp2_with fail
          have HB4 := Lib.hid hB4
          clear k0 k1 hB4
          have hs9 : m.shafts.length ≤ maxLen := g1
          go_loopw [31] (fun i wr => ∃ k : Nat, k ≤ m.shafts.length ∧ i = .int .i64 k ∧ Hid (∀ j, j < k → inB (m.sh j).up (-1) ((j : Int) - 1) = true) ∧ Ext w4 wr) (fun i _ => m.shafts.length - (intOf i).toNat)
          case atStart => exact ⟨0, Nat.zero_le _, rfl, fun j hj => absurd hj (by omega), Ext.refl _⟩
          case round =>
            obtain ⟨k, hk, rfl, hm, he⟩ := hrel
            by_cases hlt : k < m.shafts.length
            · obtain ⟨b, o, rfl, s1, s2⟩ := H6.out.ext (hE4'.trans he) k hlt
              have hX := Ext.alloc wr (.cells #[.int .i64 (m.shafts[k]?.getD default).up, .int .i64 (m.shafts[k]?.getD default).price] 105)
              obtain ⟨j0, j1⟩ := (Blk.new wr 105 #[.int .i64 (m.shafts[k]?.getD default).up, .int .i64 (m.shafts[k]?.getD default).price]).c2
              obtain ⟨q, hq⟩ : ∃ q, inB (m.sh k).up (-1) ((k : Int) - 1) = q := ⟨_, rfl⟩
              have Hc := Lib.hid (in_any (m.shafts[k]?.getD default).up (-1) ((k : Int) - 1) q hq)
              have Hq := Lib.hid hq; clear hq
              generalize m.shafts[k]?.getD default = x at *
              have hkb : (k : Int) ≤ maxLen := by omega
              unfold maxLen at hkb
              go_wp2_with fail
              refine (Hc.out _).mono ?_
              rintro e w' ⟨rfl, rfl⟩
              cases q with
              | false =>
                have h4 : q4 = false := by
                  cases q4 with
                  | false => rfl
                  | true => rw [Hq4.out.1 rfl k hlt] at Hq; exact absurd Hq.out (by simp)
                subst h4
                go_wp2
                go_ret
                exact ⟨by simp, (hE4'.trans he).trans hX⟩
              | true =>
                go_wp2_with fail
                go_roundw
                case rel =>
                  refine ⟨k + 1, by omega, by go_num, fun j hj => ?_, he.trans hX⟩
                  by_cases ej : j = k
                  · subst ej; exact Hq.out
                  · exact hm.out j (by omega)
                case measure => simp [intOf]; omega
            · have h4 : q4 = true := Hq4.out.2 fun j hj => hm.out j (by omega)
              subst h4
              have hE5 := hE4'.trans he
              have hB5 := HB4.out.ext he
              have hB6 := Lib.hid hB5
              obtain ⟨k0, k1⟩ := hB5.c2
              go_wp2_with fail
              refine (E3.out _ _ hE5 hB6.out).mono ?_
              rintro e w6 ⟨rfl, hE6⟩
              have hE6' := hE5.trans hE6
              have hB7 := hB6.out.ext hE6
              clear k0 k1 hB5 hB6
              obtain ⟨k0, k1⟩ := hB7.c2
              cases q5 with
              | false =>
                go_wp2
                go_ret
                exact ⟨by simp, hE6'⟩
              | true =>
                go_wp2_with fail
                refine (E4.out _ hE6').mono ?_
                rintro e w7 ⟨rfl, hE7⟩
                have hE7' := hE6'.trans hE7
                cases q6 with
                | false =>
                  go_wp2
                  go_ret
                  exact ⟨by simp, hE7'⟩
                | true =>
                  go_wp2
                  all_goals
                    go_ret
                    exact ⟨by first | rfl | simp [hlen], hE7'⟩
end Go.Proofs.Pet
