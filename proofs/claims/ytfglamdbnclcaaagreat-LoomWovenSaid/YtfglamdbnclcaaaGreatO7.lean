/-
  The laws' own test of runs, walked.
-/
import Derived.Test.YtfglamdbnclcaaaGreatOA
import Derived.Test.YtfglamdbnclcaaaGreatV1
import Derived.Deep.QuietTactic
import Derived.BigQuiet
namespace Go.Proofs.Pet
open Go Go.RowKit Go.Maps Go.Shelf

theorem inB_nat {x : Int} {n : Nat} : inB x 0 ((n : Int) - 1) = true ↔ 0 ≤ x ∧ x < n := by unfold inB; simp; omega
set_option maxRecDepth 100000 in
set_option maxHeartbeats 4000000 in
theorem woven_any (v : Value) (m : Mill) (hch : checkE m = 0) (n : Nat) (hn : n < m.laced.length) (A : Option Addr) (c : Nat) (xs : List Int) (hlc : xs.length ≤ c) (hc : c ≤ maxLen) (hlen : xs.length ≤ 100) (q : Bool) (hq : okW m n xs = q) (w : World) (hv : MillVal w v m) (hx : IntsAt w A xs) :
    Calls Tryz.prog 31 #[v, .int .i64 (n : Int), .slice A xs.length c] w fun e w' => e = .returned (.tuple #[.int .i64 (if q = true then chR m n (rvI xs) else 0), .bool q]) ∧ Ext w w' := by
  obtain ⟨A1, c1, A2, c2, rfl, h2, h3, h4, h5, h6, h7⟩ := hv
  obtain ⟨l1, l2, l3⟩ := check_len hch
  have hE := Ext.alloc w (.cells #[.slice A1 m.laced.length c1, .int .i64 m.change, .slice A2 m.orders.length c2] 25)
  have hM := Blk.new w 25 #[.slice A1 m.laced.length c1, .int .i64 m.change, .slice A2 m.orders.length c2]
  have Hx := Lib.hid hx; have H6 := Lib.hid h6; have H7 := Lib.hid h7; have Hch := Lib.hid hch; have Hq := Lib.hid hq
  obtain ⟨b1, o1, rfl, hl0⟩ := h6 n hn
  obtain ⟨la0, hla0⟩ : ∃ x, m.laced[n]?.getD 0 = x := ⟨_, rfl⟩
  rw [hla0] at hl0
  have Hla0 := Lib.hid hla0
  have hl1 := hE.cell hl0
  have hchb := (check_orders hch).2
  clear hx h6 h7 hch hq h3 h5 hla0 hl0
  obtain ⟨k0, k1, k2⟩ := hM.c3
  go_enter Tryz.func31, Tryz.ntmps31
  go_wp2_with fail
  go_loopw [8, 9, 10, 21] (fun lv dv cv iv wr => ∃ i : Nat, ∃ la dy ch : Int, i ≤ xs.length ∧ iv = .int .i64 i ∧ lv = .int .i64 la ∧ dv = .int .i64 dy ∧ cv = .int .i64 ch ∧ (0 ≤ dy ∧ dy ≤ 25 * i) ∧ (0 ≤ ch ∧ ch ≤ i) ∧ Hid (lastPat m n (rvI (xs.take i)) = la) ∧ Hid (dyR m n (rvI (xs.take i)) = dy) ∧ Hid (chR m n (rvI (xs.take i)) = ch) ∧ Hid (okW m n (xs.take i) = true) ∧ Ext w wr ∧
      Blk wr w.heap.size 25 #[.slice (some ⟨b1, o1, none⟩) m.laced.length c1, .int .i64 m.change, .slice A2 m.orders.length c2]) (fun _ _ _ iv _ => xs.length - (intOf iv).toNat)
  case atStart => exact ⟨0, la0, 0, 0, by omega, rfl, rfl, rfl, rfl, by omega, by omega, Hla0, rfl, rfl, okW_nil m n, hE, hM⟩
  case round =>
    clear hE hM k0 k1 k2 hl1
    obtain ⟨i, la, dy, ch, hi, rfl, rfl, rfl, rfl, hdb, hcb, hla, hdy, hchR, hok, he, hMr⟩ := hrel
    by_cases hlt : i < xs.length
    · obtain ⟨b, o, rfl, hcx⟩ := Hx.out.ext he i hlt
      have hsucc := okW_succ m n hlt
      have hpre := okW_pre m n xs (xs.length - (i + 1)) (i + 1) (by omega)
      have htk := rvI_take hlt
      obtain ⟨x, hxe⟩ : ∃ x, xs[i]?.getD 0 = x := ⟨_, rfl⟩
      rw [hxe] at hcx hsucc htk
      rw [hok.out, Bool.true_and] at hsucc
      have Hs := Lib.hid hsucc; have Hp := Lib.hid hpre; have Htk := Lib.hid htk
      have Hxe := Lib.hid hxe
      clear hsucc hpre htk hxe
      obtain ⟨k0, k1, k2⟩ := hMr.c3
      by_cases hr : 0 ≤ x ∧ x < (m.orders.length : Int)
      · obtain ⟨k, rfl⟩ : ∃ k : Nat, x = (k : Int) := ⟨x.toNat, by omega⟩
        have hk : k < m.orders.length := by omega
        have hin : inB (k : Int) 0 ((m.orders.length : Int) - 1) = true := inB_nat.2 hr
        obtain ⟨q1, hq1⟩ : ∃ q1, (xs.take i).contains (k : Int) = q1 := ⟨_, rfl⟩
        have hct := Lib.hid (contains_any (k : Int) (some ⟨b, o, none⟩) c i (xs.take i) (by rw [List.length_take]; omega) q1 hq1 wr (by rw [List.length_take]; omega) ((Hx.out.ext he).take i))
        rw [hin, hq1, Bool.true_and] at Hs
        clear hin hq1
        obtain ⟨bo, oo, rfl, A', ca, hca, p1, p2, p3, p4, p5⟩ := H7.out.ext he k hk
        have hwv : weavesI m n (k : Int) = (m.orders[k]?.getD default).on.contains (n : Int) := by unfold weavesI; simp
        have hby : m.byy (k : Int).toNat = (m.orders[k]?.getD default).by_ := by unfold Mill.byy; simp
        have hpt : m.pat (k : Int).toNat = (m.orders[k]?.getD default).pattern := by unfold Mill.pat; simp
        have hdd : m.dys (k : Int).toNat = (m.orders[k]?.getD default).days := by unfold Mill.dys; simp
        have hdb2 := (check_orders Hch.out).1 (m.orders[k]?.getD default) (by simp [hk])
        rw [hwv, hby] at Hs
        have hdy2 : Hid (dyR m n (rvI (xs.take (i + 1))) = dy + m.change * chg la (m.orders[k]?.getD default).pattern + (m.orders[k]?.getD default).days) := by
          unfold Hid; rw [Htk.out]; show dyR m n (rvI (xs.take i)) + _ + _ = _; rw [hdy.out, hla.out, hpt, hdd]
        have hch2 : Hid (chR m n (rvI (xs.take (i + 1))) = ch + chg la (m.orders[k]?.getD default).pattern) := by
          unfold Hid; rw [Htk.out]; show chR m n (rvI (xs.take i)) + _ = _; rw [hchR.out, hla.out, hpt]
        have hla2 : Hid (lastPat m n (rvI (xs.take (i + 1))) = (m.orders[k]?.getD default).pattern) := by
          unfold Hid; rw [Htk.out]; exact hpt
        clear hwv hby hpt hdd
        generalize m.orders[k]?.getD default = x0 at *
        obtain ⟨q2, hq2⟩ : ∃ q2, x0.on.contains (n : Int) = q2 := ⟨_, rfl⟩
        have hct2 := Lib.hid (contains_any (n : Int) A' ca x0.on.length x0.on rfl q2 hq2 wr (Nat.le_trans hca.1 hca.2) p5)
        rw [hq2] at Hs
        clear hq2 p5 hca
        cases q1 with
        | true =>
          have hfal : Hid (q = false) := by
            unfold Hid; rw [← Hq.out]; exact Hp.out (by rw [Hs.out]; simp)
          have hql := hfal.out
          subst hql
          clear hfal
          go_wp2_with fail
          refine hct.out.mono ?_
          rintro e w' ⟨rfl, rfl⟩
          go_wp2_with fail
          go_ret2
          exact ⟨rfl, he⟩
        | false =>
          cases q2 with
          | false =>
            have hfal : Hid (q = false) := by
              unfold Hid; rw [← Hq.out]; exact Hp.out (by rw [Hs.out]; simp)
            have hql := hfal.out
            subst hql
            clear hfal
            go_wp2_with fail
            refine hct.out.mono ?_
            rintro e w' ⟨rfl, rfl⟩
            go_wp2_with fail
            refine hct2.out.mono ?_
            rintro e w' ⟨rfl, rfl⟩
            go_wp2_with fail
            go_ret2
            exact ⟨rfl, he⟩
          | true =>
            go_wp2_with fail
            refine hct.out.mono ?_
            rintro e w' ⟨rfl, rfl⟩
            go_wp2_with fail
            refine hct2.out.mono ?_
            rintro e w' ⟨rfl, rfl⟩
            have hX := Ext.alloc wr (.cells #[.int .i64 x0.pattern, .int .i64 x0.days, .int .i64 x0.by_, .slice A' x0.on.length ca] 28)
            have hbO := Blk.new wr 28 #[.int .i64 x0.pattern, .int .i64 x0.days, .int .i64 x0.by_, .slice A' x0.on.length ca]
            have hMX := hMr.ext hX
            have heX := he.trans hX
            clear hct hct2
            obtain ⟨g0, g1, g2, g3⟩ := hbO.c4
            by_cases hp : x0.pattern = la
            · have hcg : chg la x0.pattern = 0 := by unfold chg; rw [if_pos hp.symm]
              have hdy3 : Hid (dyR m n (rvI (xs.take (i + 1))) = dy + x0.days) := by unfold Hid; rw [hdy2.out, hcg]; simp
              have hch3 : Hid (chR m n (rvI (xs.take (i + 1))) = ch) := by unfold Hid; rw [hch2.out, hcg]; simp
              rw [hdy3.out] at Hs
              have Hp2 := Lib.hid hp
              have hpb : (x0.pattern != la) = false := by simpa using hp
              clear hp hcg
              by_cases hd : dy + x0.days ≤ x0.by_
              · have hok2 : Hid (okW m n (xs.take (i + 1)) = true) := by unfold Hid; rw [Hs.out]; simpa using hd
                go_wp2_with fail
                go_roundw
                case rel => exact ⟨i + 1, la, dy + x0.days, ch, by omega, by go_num, rfl, rfl, rfl, by omega, by omega, by unfold Hid; rw [hla2.out]; exact Hp2.out, hdy3, hch3, hok2, heX, hMX⟩
                case measure => simp [intOf]; omega
              · have hdn : decide (dy + x0.days ≤ x0.by_) = false := by simpa using hd
                rw [hdn] at Hs
                clear hdn
                have hfal : Hid (q = false) := by
                  unfold Hid; rw [← Hq.out]; exact Hp.out (by rw [Hs.out]; simp)
                have hql := hfal.out
                subst hql
                clear hfal
                go_wp2_with fail
                go_ret2
                exact ⟨rfl, heX⟩
            · have hcg : chg la x0.pattern = 1 := by unfold chg; rw [if_neg (fun e => hp e.symm)]
              have hdy3 : Hid (dyR m n (rvI (xs.take (i + 1))) = dy + m.change + x0.days) := by unfold Hid; rw [hdy2.out, hcg]; simp
              have hch3 : Hid (chR m n (rvI (xs.take (i + 1))) = ch + 1) := by unfold Hid; rw [hch2.out, hcg]
              rw [hdy3.out] at Hs
              have hpb : (x0.pattern != la) = true := by simpa using hp
              clear hp hcg
              obtain ⟨m0, m1, m2⟩ := hMX.c3
              go_wp2_with fail
              go_quiet (fail)
              by_cases hd : dy + m.change + x0.days ≤ x0.by_
              · have hok2 : Hid (okW m n (xs.take (i + 1)) = true) := by unfold Hid; rw [Hs.out]; simpa using hd
                go_wp2_with fail
                go_roundw
                case rel => exact ⟨i + 1, x0.pattern, dy + m.change + x0.days, ch + 1, by omega, by go_num, rfl, rfl, rfl, by omega, by omega, hla2, hdy3, hch3, hok2, heX.trans (Ext.drewN _ _), hMX.ext (Ext.drewN _ _)⟩
                case measure => simp [intOf]; omega
              · have hdn : decide (dy + m.change + x0.days ≤ x0.by_) = false := by simpa using hd
                rw [hdn] at Hs
                clear hdn
                have hfal : Hid (q = false) := by
                  unfold Hid; rw [← Hq.out]; exact Hp.out (by rw [Hs.out]; simp)
                have hql := hfal.out
                subst hql
                clear hfal
                go_wp2_with fail
                go_ret2
                exact ⟨rfl, heX.trans (Ext.drewN _ _)⟩
      · have hin : inB x 0 ((m.orders.length : Int) - 1) = false := by rw [← Bool.not_eq_true, inB_nat]; exact hr
        have hfal : Hid (q = false) := by
          unfold Hid; rw [← Hq.out]; exact Hp.out (by rw [Hs.out, hin]; rfl)
        have hql := hfal.out
        subst hql
        clear hin hfal
        rcases Int.lt_or_le x 0 with hr | hr
        · go_wp2_with fail
          go_ret2
          exact ⟨rfl, he⟩
        · have hr2 : (m.orders.length : Int) ≤ x := by omega
          go_wp2_with fail
          go_ret2
          exact ⟨rfl, he⟩
    · obtain rfl : i = xs.length := by omega
      have hqt : q = true := by rw [← Hq.out]; have := hok.out; rwa [List.take_length] at this
      subst hqt
      have hcf := hchR.out
      rw [List.take_length] at hcf
      have Hcf := Lib.hid hcf
      clear hcf
      go_wp2_with fail
      go_ret2
      exact ⟨by rw [Hcf.out]; rfl, he⟩
end Go.Proofs.Pet
