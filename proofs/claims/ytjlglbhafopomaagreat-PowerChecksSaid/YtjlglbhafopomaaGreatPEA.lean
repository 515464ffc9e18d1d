/-
  PowerChecks, walked.
-/
import Derived.Test.YtjlglbhafopomaaGreatPF0
namespace Go.Proofs.Pet
set_option linter.unusedSimpArgs false
open Go Go.RowKit Go.Maps Go.Shelf
open Go.Proofs.Pow (PM Sh Wv POk Up)

theorem greatP_bounds {m : PM} (h : greatP m = false) : m.shafts.length ≤ 14 ∧ m.wvs.length ≤ 10 ∧ ∀ k, k < m.wvs.length → (m.wv k).hours.length ≤ 30 := by
  unfold greatP at h
  simp only [Bool.or_eq_false_iff, decide_eq_false_iff_not] at h
  refine ⟨by omega, by omega, fun k hk => ?_⟩
  have := List.any_eq_false.1 h.1.1 (m.wv k) (wv_mem hk)
  simpa using this
theorem mkG_all (m : PM) (s h : Nat) : Pow.mkG m (Pow.allI m.wvs.length) s h = Pow.runsB m s h := by
  rw [Pow.mkG_hit (Pow.all_in m)]
  unfold Pow.runsB
  rw [Bool.eq_iff_iff, Pow.hitQ_iff, Pow.hitQ_iff]
  constructor
  · rintro ⟨k, h1, h2, _⟩; exact ⟨k, h1, h2, rfl⟩
  · rintro ⟨k, h1, h2, _⟩
    exact ⟨k, h1, h2, List.contains_iff_mem.2 (by unfold Pow.allI; exact List.mem_map.2 ⟨k, List.mem_range.2 h1, rfl⟩)⟩
def lineX (m : PM) (k : Int) : List Int := if knownE m k = 0 then m.line (m.wv k.toNat).shaft else []
def runsX (m : PM) (h : Int) : List Int := if runsE m h = 0 then runsL m h m.shafts.length else []
/-- what stands in the box y -/
def UsedB (W : World) (yb : Nat) (r1 : Value) (m : PM) (k h : Int) : Prop := ∃ y1 y2, Blk W yb 54 #[y1, y2] ∧ (useE m k h ≠ 0 → y1 = .slice none 0 0 ∧ y2 = .slice none 0 0) ∧ (useE m k h = 0 → y1 = r1 ∧ OwnWvsT W (yb + 1) y2 (Pow.useP m k.toNat h).wvs)
/-- what stands in the box y reads as the mill with one hour more -/
theorem UsedB.more {W : World} {yb : Nat} {A1 A2 : Option Addr} {c1 c2 : Nat} {m : PM} {k h : Int} (hU : UsedB W yb (.slice A1 m.shafts.length c1) m k h) (hv : PMVal W (.agg #[.slice A1 m.shafts.length c1, .slice A2 m.wvs.length c2]) m) :
    ∃ A c B d, Blk W yb 54 #[.slice A (useM m k h).shafts.length c, .slice B (useM m k h).wvs.length d] ∧ ShsAt W A (useM m k h).shafts ∧ WvsAt W B (useM m k h).wvs := by
  obtain ⟨y1, y2, hb, h0, h1⟩ := hU
  by_cases e : useE m k h = 0
  · obtain ⟨rfl, h2⟩ := h1 e
    obtain ⟨B, d, rfl, g1, g2, g3⟩ := h2.at_
    have hM : useM m k h = Pow.useP m k.toNat h := by unfold useM; rw [if_pos e]
    rw [hM]
    exact ⟨A1, c1, B, d, hb, hv.parts.2.2.1, g3⟩
  · obtain ⟨rfl, rfl⟩ := h0 e
    have hM : useM m k h = ⟨[], []⟩ := by unfold useM; rw [if_neg e]
    rw [hM]
    exact ⟨none, 0, none, 0, hb, shs_nil _ _, wvs_nil _ _⟩
theorem useM_len (m : PM) (k h : Int) : (useM m k h).shafts.length ≤ m.shafts.length ∧ (useM m k h).wvs.length ≤ m.wvs.length := by
  unfold useM
  split
  · exact ⟨Nat.le_refl _, by rw [Pow.useP_len]; exact Nat.le_refl _⟩
  · exact ⟨Nat.zero_le _, Nat.zero_le _⟩
set_option maxRecDepth 20000 in
set_option maxHeartbeats 16000000 in
theorem powerChecks_any (v : Value) (m : PM) (k h : Int) (w : World) (hv : PMVal w v m) :
    Calls Tryz.prog 9 #[v, .int .i64 k, .int .i64 h] w fun e w' => e = .returned (.bool true) ∧ Ext w w' := by
  have Hv := Lib.hid hv
  obtain ⟨A1, c1, A2, c2, rfl, h2, h3, h4, h5, h6, h7⟩ := hv
  have hE := Ext.alloc w (.cells #[.slice A1 m.shafts.length c1, .slice A2 m.wvs.length c2] 26)
  have hM := Blk.new w 26 #[.slice A1 m.shafts.length c1, .slice A2 m.wvs.length c2]
  clear h2 h3 h4 h5 h6 h7
  obtain ⟨q, hq⟩ : ∃ q, greatP m = q := ⟨_, rfl⟩
  have hgr := Lib.hid (great7_any _ m q hq _ (Hv.out.ext hE))
  have Hq := Lib.hid hq; clear hq
  obtain ⟨k0, k1⟩ := hM.c2
  go_enter Tryz.func9, Tryz.ntmps9
  go_wp2_with fail
  refine hgr.out.mono ?_
  rintro e w1 ⟨rfl, he1⟩
  have hE1 := hE.trans he1
  have hM1 := hM.ext he1
  clear hE hM he1 hgr k0 k1
  cases q with
  | true =>
    have haw := Lib.hid (awake7_any w1)
    go_wp2_with fail
    refine haw.out.mono ?_
    rintro e w2 ⟨rfl, he2⟩
    have hE2 := hE1.trans he2
    go_wp2_with fail
    go_ret
    exact ⟨rfl, hE2⟩
  | false =>
    have hgb := greatP_bounds Hq.out
    have Hg := Lib.hid hgb.2.2
    have hg1 := hgb.1
    have hg2 := hgb.2.1
    have Hv1 := Lib.hid (Hv.out.ext hE1)
    clear hgb
    go_wp2_with fail
    refine wp_region_stage 6 (by kernel_rfl) (by kernel_rfl) (StgF w1 (OpenF 1 3 4 5 w1 m)) (fun k v => k = 0 ∨ k = 2 → v = .agg #[.slice A1 m.shafts.length c1, .slice A2 m.wvs.length c2]) StgF.start ?_ ?_
    · simp only [List.take, AllOps3, fill, Act.put, List.setIfInBounds_toArray, List.set_cons_zero, List.set_cons_succ, Nat.reduceAdd, DepsV, DepsL, List.filter_cons, List.filter_nil, Region.binds, if_true, and_true, Closed]
      refine ⟨?_, ?_, ?_, ?_, ?_, ?_⟩
      all_goals
        intro Ld x W hS hcl hnl hdl hd K Q hK
        obtain ⟨k0, k1⟩ := (hM1.ext hS.1).c2
        have HK := Lib.hid hK; clear hK hcl hdl hnl
        have HS := Lib.hid hS; clear hS
        have Hd := Lib.hid hd; clear hd
      case refine_2 =>
        have h0 := Hd.out (by simp)
        have hk0 := HK.out; clear HK
        simp only [h0] at hk0 ⊢
        have HK := Lib.hid hk0; clear hk0 h0
        go_wp2_with fail
        refine (own7_any _ m (by omega) (by omega) (fun k hk => by have := Hg.out k hk; omega) W (Hv1.out.ext HS.out.1)).mono ?_
        rintro e w' ⟨v', rfl, hv', he'⟩
        go_wp2
        exact HK.out _ _ (fun h => absurd h (by decide)) (HS.out.step OpenF.ext he' 1 _ ⟨fun _ => hv'.mono HS.out.1.size, fun h => absurd h (by decide), fun h => absurd h (by decide), fun h => absurd h (by decide)⟩)
      case refine_4 =>
        have h0 := Hd.out.1 (by simp)
        have hk0 := HK.out; clear HK
        simp only [h0] at hk0 ⊢
        have HK := Lib.hid hk0; clear hk0 h0
        go_wp2_with fail
        refine (theirs7_any _ m w1 W HS.out.1 Hv1.out (by omega) (by omega)).mono ?_
        rintro e w' ⟨v', rfl, hv', he'⟩
        go_wp2
        exact HK.out _ _ (fun h => absurd h (by decide)) (HS.out.step OpenF.ext he' 3 _ ⟨fun h => absurd h (by decide), fun _ => hv'.mono HS.out.1.size, fun h => absurd h (by decide), fun h => absurd h (by decide)⟩)
      case refine_5 =>
        go_wp2_with fail
        exact HK.out _ _ (fun h => absurd h (by decide)) (HS.out.step OpenF.ext (Ext.alloc _ _) 4 _ ⟨fun h => absurd h (by decide), fun h => absurd h (by decide), fun _ => BoxP.new HS.out.1.size, fun h => absurd h (by decide)⟩)
      case refine_6 =>
        go_wp2_with fail
        exact HK.out _ _ (fun h => absurd h (by decide)) (HS.out.step OpenF.ext (Ext.alloc _ _) 5 _ ⟨fun h => absurd h (by decide), fun h => absurd h (by decide), fun h => absurd h (by decide), fun _ => BoxP.new HS.out.1.size⟩)
      all_goals
        go_wp2_with fail
        refine HK.out _ _ (fun h => by first | rfl | exact absurd h (by decide)) (HS.out.step OpenF.ext (Ext.refl _) _ _ ⟨fun h => absurd h (by decide), fun h => absurd h (by decide), fun h => absurd h (by decide), fun h => absurd h (by decide)⟩)
    · intro x W hS hR
      obtain ⟨heW, hF⟩ := hS
      have hO := (hF 1 (by decide)).1 rfl
      have hT := (hF 3 (by decide)).2.1 rfl
      obtain ⟨g, x4, hg, b4⟩ := (hF 4 (by decide)).2.2.1 rfl
      obtain ⟨g', x5, hg', b5⟩ := (hF 5 (by decide)).2.2.2 rfl
      have hO0 := hO
      have hT0 := hT
      obtain ⟨s1, s2, x1, p1, cs1, p2, -⟩ := hO0
      obtain ⟨r1, r2, cs, x3, p3, p4, -⟩ := hT0
      obtain ⟨a1, d1, rfl⟩ := ownsRow_slice p1
      obtain ⟨a2, d2, rfl⟩ := ownsRow_slice p2
      obtain ⟨b1, f1, rfl⟩ := ownsRow_slice p3
      obtain ⟨b2, f2, rfl⟩ := ownsRow_slice p4
      clear p1 p2 p3 p4
      simp only [AllV, true_and] at hR
      have x0 := hR.1.1.1.1.1 (by simp)
      have x2 := hR.1.1.1.2 (by simp)
      rw [x1] at hO
      rw [x3] at hT
      simp only [List.take, List.drop, fill, Act.put, List.setIfInBounds_toArray, List.set_cons_zero, List.set_cons_succ, Nat.reduceAdd, x0, x1, x2, x3, x4, x5]
      clear hR hF x0 x1 x2 x3 x4 x5
      obtain ⟨W2, hW2, hE2, bO, bX, vO, vX⟩ := opened_stored heW hg hg' b4 b5 hO hT
      obtain ⟨u0, u1⟩ := b4.c2
      obtain ⟨y0, y1⟩ := b5.c2
      have z0 := b4.frozen 0; have z1 := b4.frozen 1
      have i0 := b5.frozen 0; have i1 := b5.frozen 1
      have hne : g ≠ g' := b4.ne_ b5 (by decide)
      have hne' : g' ≠ g := fun h => hne h.symm
      have HW2 := Lib.hid hW2
      have B4 := Lib.hid b4; have B5 := Lib.hid b5
      clear hW2 b4 b5 hO hT
      obtain ⟨r, hr⟩ : ∃ r, checkP m = r := ⟨_, rfl⟩
      have hck := Lib.hid (check7_any _ m r hr W2 (vX.val hE2))
      obtain ⟨k0, k1⟩ := bX.c2
      have hE2' := hE1.trans hE2
      have hM2 := hM1.ext hE2
      have VO := Lib.hid vO; have VX := Lib.hid vX
      clear k0 k1
      go_wp2_with fail
      rw [← HW2.out]
      clear u0 u1 y0 y1 z0 z1 i0 i1 HW2 B4 B5 vO vX hne hne' heW
      refine hck.out.mono ?_
      rintro e w3 ⟨rfl, he3⟩
      have hpc := Lib.hid (pcheck_any _ m w3 (VO.out.ext he3).val)
      rw [hr] at hpc
      clear hck
      obtain ⟨k0, k1⟩ := (bO.ext he3).c2
      have hrr : (r != r) = false := by simp
      go_wp2_with fail
      refine hpc.out.mono ?_
      rintro e w4 ⟨rfl, he4⟩
      have heB := (hE2.trans he3).trans he4
      have he24 := he3.trans he4
      have bO4 := bO.ext he24
      have bX4 := bX.ext he24
      have hM4 := hM2.ext he24
      have VO4 := Lib.hid (VO.out.ext he24); have VX4 := Lib.hid (VX.out.ext he24)
      have hE4 := hE2'.trans he24
      clear k0 k1 hpc he3 he4 bO bX hM2 VO VX hE2 hE2' he24
      have Hr := Lib.hid hr
      clear hr
      have bY := Blk.new w4 54 #[.slice none 0 0, .slice none 0 0]
      have hXY := Ext.alloc w4 (.cells #[.slice none 0 0, .slice none 0 0] 54)
      go_upto_if 45 with fail
      generalize hw5 : w4.alloc _ = w5 at *
      clear hw5
      go_cut [10, 11, 12, 13, 14] (fun a b c d e wx => a = .int .i64 (knownE m k) ∧ b = .int .i64 (runsE m h) ∧ c = .int .i64 (useE m k h) ∧ Hid (SlI wx d (lineX m k)) ∧ Hid (SlI wx e (runsX m h)) ∧ Ext w4 wx ∧ Hid (UsedB wx w4.heap.size (.slice b1 m.shafts.length f1) m k h))
      case first =>
        by_cases hr0 : r = 0
        · -- <<A
          as_aux_lemma =>
          subst hr0
          have hz : ((0 : Int) == 0) = true := rfl
          have hm := (checkP_iff m).1 Hr.out
          have hfew := hm.few
          have hsz9 := hm.sz
          have Hxv := Lib.hid ((VX4.out.val heB).ext hXY)
          have bX5 := bX4.ext hXY
          have bM5 := hM4.ext hXY
          obtain ⟨kq, hkq⟩ : ∃ kq, decide (0 ≤ k ∧ k < (m.wvs.length : Int)) = kq := ⟨_, rfl⟩
          have hke : Hid (knownE m k = if kq = true then 0 else 1) := by
            unfold Hid knownE
            rw [if_neg (by rw [Hr.out]; decide), ← hkq]
            by_cases h1 : 0 ≤ k ∧ k < (m.wvs.length : Int)
            · rw [inB_iff.2 (show 0 ≤ k ∧ k ≤ m.wvs.length - 1 by omega), decide_eq_true h1]; rfl
            · have h2 : inB k 0 (m.wvs.length - 1) = false := by
                cases hb : inB k 0 (m.wvs.length - 1) with
                | false => rfl
                | true => exact absurd (inB_iff.1 hb) (by omega)
              rw [h2, decide_eq_false h1]; rfl
          obtain ⟨m0, m1⟩ := bM5.c2
          go_upto_region 12 with fail
          go_cut [54] (fun a wx => a = .bool kq ∧ w5 = wx)
          case first =>
            rcases Int.lt_or_le k 0 with h1 | h1
            · have hd1 : decide ((0 : Int) ≤ k) = false := decide_eq_false (by omega)
              have hq : kq = false := by rw [← hkq]; exact decide_eq_false (by omega)
              have HQ := Lib.hid hq
              clear hkq hq
              go_wp2_with fail
              go_meet
              exact ⟨by rw [HQ.out], rfl⟩
            · have hd1 : decide ((0 : Int) ≤ k) = true := decide_eq_true (by omega)
              have hd2 : decide (k < (m.wvs.length : Int)) = kq := by rw [← hkq]; exact decide_eq_decide.2 ⟨fun h => ⟨h1, h⟩, fun h => h.2⟩
              clear hkq
              go_wp2_with fail
              go_meet
              exact ⟨rfl, rfl⟩
          case rest =>
            obtain ⟨rfl, rfl⟩ := hcut
            clear m0 m1
            go_upto_if 54 with fail
            go_cut [10, 13] (fun a b wx => a = .int .i64 (knownE m k) ∧ Hid (OwnI wx w5.heap.size 3 b (lineX m k)) ∧ Ext w5 wx)
            case first =>
              cases kq with
              | true =>
                have hk := of_decide_eq_true hkq
                obtain ⟨kk, rfl⟩ : ∃ n : Nat, k = n := ⟨k.toNat, by omega⟩
                have hkl : kk < m.wvs.length := by omega
                have hln := Lib.hid (line7_any _ m hm kk hkl w5 Hxv.out)
                have hk0 : knownE m (kk : Int) = 0 := hke.out.trans (if_pos rfl)
                have hlx : Hid (lineX m (kk : Int) = m.line (m.wv kk).shaft) := by unfold Hid lineX; rw [if_pos hk0]; rfl
                have Hk0 := Lib.hid hk0
                obtain ⟨k0, k1⟩ := bX5.c2
                clear hk hkq hk0
                go_wp2_with fail
                refine hln.out.mono ?_
                rintro e w6 ⟨u6, rfl, hO6, he6⟩
                have HO6 := Lib.hid hO6
                clear k0 k1 hln hO6
                go_wp2_with fail
                go_meet
                exact ⟨by rw [Hk0.out], Lib.hid (by rw [hlx.out]; exact HO6.out), he6⟩
              | false =>
                have hk1 : knownE m k = 1 := hke.out.trans (if_neg (by decide))
                have hlx : Hid (lineX m k = []) := by unfold Hid lineX; rw [if_neg (by rw [hk1]; decide)]
                have Hk1 := Lib.hid hk1
                clear hk1 hkq
                go_wp2_with fail
                go_meet
                exact ⟨by rw [Hk1.out], Lib.hid (by rw [hlx.out]; exact OwnI.nil _ _ _), Ext.refl _⟩
            case rest =>
              as_aux_lemma =>
              obtain ⟨rfl, hL, he6⟩ := hcut
              obtain ⟨w6, rfl⟩ : ∃ z, z = wc := ⟨_, rfl⟩
              have bX6 := bX5.ext he6
              have bM6 := bM5.ext he6
              have Hx6 := Lib.hid (Hxv.out.ext he6)
              have hE6 := hXY.trans he6
              have bY6 := bY.ext he6
              obtain ⟨hq, hhq⟩ : ∃ hq, decide (0 ≤ h ∧ h ≤ 23) = hq := ⟨_, rfl⟩
              have hre : Hid (runsE m h = if hq = true then 0 else 3) := by
                unfold Hid runsE
                rw [if_neg (by rw [Hr.out]; decide), ← hhq]
                by_cases h1 : 0 ≤ h ∧ h ≤ 23
                · rw [inB_iff.2 h1, decide_eq_true h1]; rfl
                · have h2 : inB h 0 23 = false := by
                    cases hb : inB h 0 23 with
                    | false => rfl
                    | true => exact absurd (inB_iff.1 hb) h1
                  rw [h2, decide_eq_false h1]; rfl
              clear bX5 bM5 Hxv
              go_upto_region 15 with fail
              go_cut [63] (fun a wx => a = .bool hq ∧ w6 = wx)
              case first =>
                rcases Int.lt_or_le h 0 with h1 | h1
                · have hd1 : decide ((0 : Int) ≤ h) = false := decide_eq_false (by omega)
                  have hq1 : hq = false := by rw [← hhq]; exact decide_eq_false (by omega)
                  have HQ := Lib.hid hq1
                  clear hhq hq1
                  go_wp2_with fail
                  go_meet
                  exact ⟨by rw [HQ.out], rfl⟩
                · have hd1 : decide ((0 : Int) ≤ h) = true := decide_eq_true (by omega)
                  have hd2 : decide (h ≤ 23) = hq := by rw [← hhq]; exact decide_eq_decide.2 ⟨fun h => ⟨h1, h⟩, fun h => h.2⟩
                  clear hhq
                  go_wp2_with fail
                  go_meet
                  exact ⟨rfl, rfl⟩
              case rest =>
                obtain ⟨rfl, rfl⟩ := hcut
                go_upto_if 63 with fail
                go_cut [11, 14] (fun a b wx => a = .int .i64 (runsE m h) ∧ Hid (OwnI wx w6.heap.size 3 b (runsX m h)) ∧ Ext w6 wx)
                case first =>
                  obtain ⟨ti, hi, ht0, ht1, ht2⟩ := info_parts info_int
                  cases hq with
                  | true =>
                    have hhr := of_decide_eq_true hhq
                    obtain ⟨hh, rfl⟩ : ∃ n : Nat, h = n := ⟨h.toNat, by omega⟩
                    have hh23 : hh ≤ 23 := by omega
                    have hr1 : runsE m (hh : Int) = 0 := hre.out.trans (if_pos rfl)
                    have hrx : Hid (runsX m (hh : Int) = runsL m (hh : Int) m.shafts.length) := by unfold Hid runsX; rw [if_pos hr1]
                    have Hr1 := Lib.hid hr1
                    obtain ⟨m0, m1⟩ := bM6.c2
                    clear hhq hr1 hhr
                    go_wp2_with fail
                    go_loopw [14, 67] (fun ev iv wr => ∃ s : Nat, s ≤ m.shafts.length ∧ iv = .int .i64 s ∧ Hid (OwnI wr w6.heap.size 3 ev (runsL m (hh : Int) s)) ∧ Ext w6 wr) (fun _ iv _ => m.shafts.length - (intOf iv).toNat)
                    case atStart => exact ⟨0, by omega, rfl, Lib.hid (OwnI.nil _ _ _), Ext.refl _⟩
                    case round =>
                      clear m0 m1
                      obtain ⟨s, hs, rfl, hO, hew⟩ := hrel
                      obtain ⟨k0, k1⟩ := (bX6.ext hew).c2
                      by_cases hlt : s < m.shafts.length
                      · obtain ⟨q, hq⟩ : ∃ q, Pow.mkG m (Pow.allI m.wvs.length) s hh = q := ⟨_, rfl⟩
                        have Hq := Lib.hid hq
                        clear hq
                        go_upto_region 20 with fail
                        refine wp_region_chain 6 [(2, true), (5, true)] [] (by kernel_rfl) (by kernel_rfl) (by kernel_rfl) ?_
                        simp only [List.take, List.drop, fill, Act.put, List.setIfInBounds_toArray, List.set_cons_zero, List.set_cons_succ, Nat.reduceAdd]
                        repeat (first
                          | refine Floats.mut rfl ?_
                          | (apply Floats.float rfl
                             · intro x W he hd K Q hK
                               try (have he := he (by decide); have k0 := he.cell k0; have k1 := he.cell k1)
                               try simp only [edges, DepsE, List.filter_cons, List.filter_nil, Region.binds, if_true, and_true, true_and, upd, Nat.reduceEqDiff, if_false] at hd
                               try simp only [hd] at hK ⊢
                               have HK := Lib.hid hK; clear hK
                               go_wp2_with fail
                               exact HK.out))
                        refine Floats.done fun W he hG => ?_
                        refine Chain.cons _ rfl ?_
                        intro x hd K Q hK
                        try simp only [edges, DepsE, List.filter_cons, List.filter_nil, Region.binds, if_true, and_true, true_and, upd, Nat.reduceEqDiff, if_false] at hd
                        try simp only [hd] at hK ⊢
                        clear hd
                        have HK := Lib.hid hK; clear hK
                        go_wp2_with fail
                        refine (all7_any _ m (by omega) W (Hx6.out.ext (hew.trans he))).mono ?_
                        rintro e w7 ⟨u7, rfl, hO7, he7⟩
                        obtain ⟨A7, c7, rfl, y1, y2, y3, -, -⟩ := hO7.open_
                        have heA := he.trans he7
                        have Y3 := Lib.hid y3
                        clear y1 y2 y3 hO7
                        go_wp2_with fail
                        refine HK.out _ _ (fun _ => heA) ?_
                        clear HK
                        refine Chain.cons _ rfl ?_
                        intro x hd K Q hK
                        try simp only [edges, DepsE, List.filter_cons, List.filter_nil, Region.binds, if_true, and_true, true_and, upd, Nat.reduceEqDiff, if_false] at hd
                        try simp only [hd] at hK ⊢
                        clear hd
                        have HK := Lib.hid hK; clear hK
                        go_wp2_with fail
                        refine (runs7_any _ m hm A7 c7 _ (Pow.allI m.wvs.length) rfl (Pow.all_in m) (by rw [allI_len]; omega) s hh q Hq.out w7 (Hx6.out.ext (hew.trans heA)) Y3.out).mono ?_
                        rintro e w8 ⟨rfl, he8⟩
                        have heB8 := heA.trans he8
                        go_wp2_with fail
                        refine HK.out _ _ (fun _ => heB8) ?_
                        clear HK
                        have hsucc := runsL_succ m (hh : Int) s
                        rw [Int.toNat_natCast, ← mkG_all, Hq.out] at hsucc
                        have hxl := runsL_len m (hh : Int) s
                        obtain ⟨A9, c9, rfl⟩ := ownsRow_slice hO.out
                        have hOI := hO.out
                        generalize runsL m (hh : Int) s = xs at *
                        cases q with
                        | true =>
                          rw [if_pos rfl] at hsucc
                          have Hsucc := Lib.hid hsucc
                          have hX := Ext.alloc w8 (.cells #[.int .i64 (s : Int)] 3)
                          have hsrc := Src.one w8 (.int .i64 (s : Int)) 3
                          have hOX := hOI.ext (heB8.trans hX)
                          have hszX := ((hew.trans heB8).trans hX).size
                          have heC := hew.trans heB8
                          clear hsucc hO k0 k1 Y3
                          refine Chain.nil ?_
                          simp only [upd, Nat.reduceEqDiff, if_false, if_true]
                          go_wp2_with (at_builtin; refine wpList_app rfl _ _ 31 rfl w6.heap.size 3 ti (.int .i64 0) 1 8 Tryz.underlying31 hi ht0 ht1 ht2 rfl (by decide) (.slice A9 xs.length c9) xs.length _ rfl hOX (some ⟨w8.heap.size, 0, none⟩) 1 1 [.int .i64 (s : Int)] rfl rfl hsrc ?c2 ?c3 ?c4 ?c5 ?_; (case c2 => (intro u hu; rw [List.mem_singleton] at hu; subst hu; rfl)); (case c3 => (unfold maxLen; omega)); (case c4 => omega); (case c5 => omega); intro v' w9 hown hg9 hblk)
                          go_roundw
                          case rel =>
                            refine ⟨s + 1, by omega, by go_num, ?_, ext_grown heC hg9 fun j hj => (hOI.own_lt j hj).1⟩
                            unfold Hid
                            rw [Hsucc.out]
                            unfold OwnI
                            rw [List.length_append, List.map_append]
                            exact hown
                          case measure => simp [intOf]; omega
                        | false =>
                          rw [if_neg (by decide)] at hsucc
                          have Hsucc := Lib.hid hsucc
                          have heC := hew.trans heB8
                          have hO8 := Lib.hid (hOI.ext heB8)
                          clear hsucc hO hOI k0 k1 Y3
                          refine Chain.nil ?_
                          simp only [upd, Nat.reduceEqDiff, if_false, if_true]
                          go_wp2_with fail
                          go_roundw
                          case rel => exact ⟨s + 1, by omega, by go_num, Lib.hid (by rw [Hsucc.out]; exact hO8.out), heC⟩
                          case measure => simp [intOf]; omega
                      · obtain rfl : s = m.shafts.length := by omega
                        clear hlt k0 k1
                        go_wp2_with fail
                        go_meet
                        exact ⟨by rw [Hr1.out], Lib.hid (by rw [hrx.out]; exact hO.out), hew⟩
                  | false =>
                    have hr1 : runsE m h = 3 := hre.out.trans (if_neg (by decide))
                    have hrx : Hid (runsX m h = []) := by unfold Hid runsX; rw [if_neg (by rw [hr1]; decide)]
                    have Hr1 := Lib.hid hr1
                    clear hr1 hhq
                    go_wp2_with fail
                    go_meet
                    exact ⟨by rw [Hr1.out], Lib.hid (by rw [hrx.out]; exact OwnI.nil _ _ _), Ext.refl _⟩
                case rest =>
                  as_aux_lemma =>
                  obtain ⟨rfl, hR, hew⟩ := hcut
                  cases kq with
                  | true =>
                    have hk := of_decide_eq_true hkq
                    obtain ⟨kk, rfl⟩ : ∃ n : Nat, k = n := ⟨k.toNat, by omega⟩
                    have hkl : kk < m.wvs.length := by omega
                    have hk0 : knownE m (kk : Int) = 0 := hke.out.trans (if_pos rfl)
                    rw [hk0]
                    obtain ⟨ru, hru⟩ : ∃ ru, useE7 m kk h = ru := ⟨_, rfl⟩
                    have hus := Lib.hid (use7_any (.slice b1 m.shafts.length f1) (.slice b2 m.wvs.length f2) m hm kk hkl h ru hru wc (Hx6.out.ext hew))
                    have hue : Hid (useE m (kk : Int) h = ru) := (useE_use7 hm hkl h).trans hru
                    have Hk0 := Lib.hid hk0
                    have hz0 : ((0 : Int) == 0) = true := rfl
                    obtain ⟨k0, k1⟩ := (bX6.ext hew).c2
                    clear hru hk hkq hk0
                    go_wp2_with fail
                    refine hus.out.mono ?_
                    rintro e w7 ⟨u7, rfl, hU, he7⟩
                    have heF := hew.trans he7
                    have bY7 := bY6.ext heF
                    obtain ⟨y0, y1⟩ := bY7.c2
                    have z0 := bY7.frozen 0
                    have z1 := bY7.frozen 1
                    have hwl := bY.lt
                    by_cases hr0 : ru = 0
                    · obtain ⟨u2, rfl, cs9, g1, g2⟩ := hU.2 hr0
                      obtain ⟨a9, d9, rfl⟩ := ownsRow_slice g1
                      have hl9 := Pow.useP_len m kk h
                      rw [hl9] at g1
                      have G1 := Lib.hid g1; have G2 := Lib.hid g2; have Hr0 := Lib.hid hr0
                      rw [hl9] at *
                      clear hU g1 g2 hr0
                      go_wp2_with fail
                      go_meet
                      have hap : Apart w4.heap.size w7 ((w7.setCell ⟨w4.heap.size, 0, none⟩ (.slice b1 m.shafts.length f1)).setCell ⟨w4.heap.size, 1, none⟩ (.slice a9 m.wvs.length d9)) := ((Apart.refl _ w7).set_ 0 _).set_ 1 _
                      have hE7 := hE6.trans heF
                      have hs5 := hXY.size
                      have hs6 := he6.size
                      have hsr := hew.size
                      have h5 : w4.heap.size < w5.heap.size := bY.lt
                      have hE9 := Below.setCell (Below.setCell hE7 (p := ⟨w4.heap.size, 0, none⟩) (Nat.le_refl _) (.slice b1 m.shafts.length f1)) (p := ⟨w4.heap.size, 1, none⟩) (Nat.le_refl _) (.slice a9 m.wvs.length d9)
                      have hb9 : Blk ((w7.setCell ⟨w4.heap.size, 0, none⟩ (.slice b1 m.shafts.length f1)).setCell ⟨w4.heap.size, 1, none⟩ (.slice a9 m.wvs.length d9)) w4.heap.size 54 #[.slice b1 m.shafts.length f1, .slice a9 m.wvs.length d9] := by simpa using (bY7.set_ 0 (.slice b1 m.shafts.length f1)).set_ 1 (.slice a9 m.wvs.length d9)
                      refine ⟨by rw [Hk0.out], rfl, by rw [hue.out], Lib.hid (OwnI.apartB (hL.out.ext heF) (by omega) hap).sl, Lib.hid (OwnI.apartB (hR.out.ext he7) (by omega) hap).sl, hE9, Lib.hid ⟨_, _, hb9, fun e => absurd (hue.out.trans Hr0.out) e, fun _ => ⟨rfl, ?_⟩⟩⟩
                      have hq : OwnWvsT w7 (w4.heap.size + 1) (.slice a9 m.wvs.length d9) (Pow.useP m kk h).wvs := ⟨cs9, by rw [Pow.useP_len]; exact ownsRow_mono G1.out (by omega), G2.out.map fun _ _ g => OwnI.mono g (by omega)⟩
                      exact hq.apart (by omega) hap
                    · obtain rfl := hU.1 hr0
                      have Hr0 := Lib.hid hr0
                      clear hU hr0
                      go_wp2_with fail
                      go_meet
                      have hap : Apart w4.heap.size w7 ((w7.setCell ⟨w4.heap.size, 0, none⟩ (.slice none 0 0)).setCell ⟨w4.heap.size, 1, none⟩ (.slice none 0 0)) := ((Apart.refl _ w7).set_ 0 _).set_ 1 _
                      have hE7 := hE6.trans heF
                      have hs5 := hXY.size
                      have hs6 := he6.size
                      have hsr := hew.size
                      have h5 : w4.heap.size < w5.heap.size := bY.lt
                      have hE9 := Below.setCell (Below.setCell hE7 (p := ⟨w4.heap.size, 0, none⟩) (Nat.le_refl _) (.slice none 0 0)) (p := ⟨w4.heap.size, 1, none⟩) (Nat.le_refl _) (.slice none 0 0)
                      have hb9 : Blk ((w7.setCell ⟨w4.heap.size, 0, none⟩ (.slice none 0 0)).setCell ⟨w4.heap.size, 1, none⟩ (.slice none 0 0)) w4.heap.size 54 #[.slice none 0 0, .slice none 0 0] := by simpa using (bY7.set_ 0 (.slice none 0 0)).set_ 1 (.slice none 0 0)
                      exact ⟨by rw [Hk0.out], rfl, by rw [hue.out], Lib.hid (OwnI.apartB (hL.out.ext heF) (by omega) hap).sl, Lib.hid (OwnI.apartB (hR.out.ext he7) (by omega) hap).sl, hE9, Lib.hid ⟨_, _, hb9, fun _ => ⟨rfl, rfl⟩, fun e => absurd (hue.out.symm.trans e) Hr0.out⟩⟩
                  | false =>
                    have hk1 : knownE m k = 1 := hke.out.trans (if_neg (by decide))
                    have hu1 : useE m k h = 1 := by unfold useE; rw [if_pos (by rw [hk1]; decide), hk1]
                    rw [hk1]
                    have hz1 : ((1 : Int) == 0) = false := rfl
                    have Hk1 := Lib.hid hk1; have Hu1 := Lib.hid hu1
                    clear hk1 hu1 hkq
                    go_wp2_with fail
                    go_meet
                    exact ⟨by rw [Hk1.out], rfl, by rw [Hu1.out], Lib.hid (hL.out.ext hew).sl, Lib.hid hR.out.sl, hE6.trans hew, Lib.hid ⟨_, _, bY6.ext hew, fun _ => ⟨rfl, rfl⟩, fun e => absurd (Hu1.out.symm.trans e) (by decide)⟩⟩
          -- >>
        · -- <<B
          as_aux_lemma =>
          have hz : (r == 0) = false := beq_eq_false_iff_ne.2 hr0
          have e1 : knownE m k = r := by unfold knownE; rw [Hr.out, if_pos hr0]
          have e2 : runsE m h = r := by unfold runsE; rw [Hr.out, if_pos hr0]
          have e3 : useE m k h = r := by unfold useE; rw [e1, if_pos hr0]
          have e4 : lineX m k = [] := by unfold lineX; rw [e1, if_neg hr0]
          have e5 : runsX m h = [] := by unfold runsX; rw [e2, if_neg hr0]
          have hU : Hid (UsedB w5 w4.heap.size (.slice b1 m.shafts.length f1) m k h) := ⟨_, _, bY, fun _ => ⟨rfl, rfl⟩, fun e => absurd (e3 ▸ e) hr0⟩
          have hS : SlI w5 (.slice none 0 0) [] := (OwnI.nil w5 0 3).sl
          have E := Lib.hid (And.intro e1 (And.intro e2 (And.intro e3 (And.intro e4 e5))))
          clear e1 e2 e3 e4 e5 hr0
          go_wp2_with fail
          go_meet
          exact ⟨by rw [E.out.1], by rw [E.out.2.1], by rw [E.out.2.2.1], Lib.hid (by rw [E.out.2.2.2.1]; exact hS), Lib.hid (by rw [E.out.2.2.2.2]; exact hS), hXY, hU⟩
          -- >>
      case rest =>
        -- <<R
        as_aux_lemma =>
        obtain ⟨rfl, rfl, rfl, hL, hR, heC, hU⟩ := hcut
        obtain ⟨xl, hxl⟩ : ∃ xl, lineX m k = xl := ⟨_, rfl⟩
        obtain ⟨xr, hxr⟩ : ∃ xr, runsX m h = xr := ⟨_, rfl⟩
        rw [hxl] at hL
        rw [hxr] at hR
        have hvx := (VX4.out.val heB).ext heC
        obtain ⟨Am, cm, Bm, dm, hbY, hmS, hmW⟩ := hU.out.more hvx
        have hlen := useM_len m k h
        obtain ⟨M, hMd⟩ : ∃ M, useM m k h = M := ⟨_, rfl⟩
        rw [hMd] at hbY hmS hmW hlen
        have bOc := bO4.ext heC
        have bMc := hM4.ext heC
        have hOwn := Lib.hid (VO4.out.ext heC)
        have hEc := hE4.trans heC
        have hq1 : (knownE m k != knownE m k) = false := by simp
        have hq2 : (runsE m h != runsE m h) = false := by simp
        have hq3 : (useE m k h != useE m k h) = false := by simp
        have hLa := Lib.hid (Line_any _ m k (knownE m k) xl rfl hxl wc hOwn.out.val)
        clear hU hvx hXY bY VX4 bX4 hM4 bO4 VO4 heB hE4 Hr
        obtain ⟨k0, k1⟩ := bOc.c2
        generalize knownE m k = e1 at *
        go_upto_region 26 with fail
        go_wp2_with fail
        refine hLa.out.mono ?_
        rintro e wA ⟨uL, rfl, hOL, heA⟩
        clear hLa k0 k1
        have hRa := Lib.hid (Runs_any _ m h (runsE m h) xr rfl hxr wA (hOwn.out.ext heA).val)
        obtain ⟨k0, k1⟩ := (bOc.ext heA).c2
        have HOL := Lib.hid hOL
        clear hOL
        go_wp2_with fail
        refine hRa.out.mono ?_
        rintro e wB ⟨uR, rfl, hOR, heAB⟩
        clear hRa k0 k1
        have heB := heA.trans heAB
        have hUa := Lib.hid (Use_any _ m k h (useE m k h) M rfl hMd wB (hOwn.out.ext heB).val)
        obtain ⟨k0, k1⟩ := (bOc.ext heB).c2
        have HOR := Lib.hid hOR
        clear hOR
        go_wp2_with fail
        refine hUa.out.mono ?_
        rintro e wD ⟨uU, rfl, hOU, heD⟩
        clear hUa k0 k1
        obtain ⟨u1, u2, rfl, hO1, hO2⟩ := hOU
        obtain ⟨P1, q1, rfl⟩ := ownsRow_slice hO1
        obtain ⟨P2, q2, e2, -⟩ := hO2.at_
        subst e2
        have hcv : PMVal wD (.agg #[.slice P1 M.shafts.length q1, .slice P2 M.wvs.length q2]) M := OwnPM.val ⟨_, _, rfl, hO1, hO2⟩
        have hC := Blk.new wD 26 #[.slice P1 M.shafts.length q1, .slice P2 M.wvs.length q2]
        have hX := Ext.alloc wD (.cells #[.slice P1 M.shafts.length q1, .slice P2 M.wvs.length q2] 26)
        have hcvX := Lib.hid (hcv.ext hX)
        have hclr := Lib.hid (ClrW.of (hO2.ext hX))
        have hcs : Hid (∃ cs, (wD.alloc (.cells #[.slice P1 M.shafts.length q1, .slice P2 M.wvs.length q2] 26)).ownsRow wB.heap.size 105 2 (.slice P1 M.shafts.length q1) M.shafts.length cs) := ⟨_, OwnShs.ext hO1 hX⟩
        have heE := heD.trans hX
        have hCge : wB.heap.size ≤ wD.heap.size := heD.size
        go_upto_region 29 with fail
        obtain ⟨Cb, hCb⟩ : ∃ Cb, wD.heap.size = Cb := ⟨_, rfl⟩
        rw [hCb] at hC hCge ⊢
        clear hcv hO1 hO2 hX hCb heD
        generalize wD.alloc _ = wE at *
        have hM1k : M.shafts.length ≤ 1000 ∧ M.wvs.length ≤ 1000 := by omega
        have hth := Lib.hid (theirs7_any _ M wE wE (Ext.refl _) hcvX.out hM1k.1 hM1k.2)
        obtain ⟨k0, k1⟩ := hC.c2
        go_wp2_with fail
        refine hth.out.mono ?_
        rintro e wF ⟨uT, rfl, hT, heF⟩
        clear hth k0 k1
        have hyv := hT.val heF
        obtain ⟨t1, t2, cs9, rfl, hT1, hT2, -⟩ := hT
        obtain ⟨T1, z1, rfl⟩ := ownsRow_slice hT1
        obtain ⟨T2, z2, rfl⟩ := ownsRow_slice hT2
        have hX := Ext.alloc wF (.cells #[.slice T1 M.shafts.length z1, .slice T2 M.wvs.length z2] 54)
        have hY := Blk.new wF 54 #[.slice T1 M.shafts.length z1, .slice T2 M.wvs.length z2]
        have hyp := (hyv.ext hX).parts
        have hym := hyp.1
        have hys := Lib.hid hyp.2.2.1
        have hyw := Lib.hid hyp.2.2.2
        have heG := heF.trans hX
        clear hyv hT1 hT2 hyp
        go_upto_region 30 with fail
        obtain ⟨Yb, hYb⟩ : ∃ Yb, wF.heap.size = Yb := ⟨_, rfl⟩
        rw [hYb] at hY ⊢
        clear hX hYb heF
        generalize wF.alloc _ = wG at *
        -- all that is compared stands at wG
        have heBG := heE.trans heG
        have heAG := heAB.trans heBG
        have heCG := heA.trans heAG
        obtain ⟨AL, cL, eL, hL1, hL2, hLI⟩ := (HOL.out.ext heAG).sl
        subst eL
        obtain ⟨AR, cR, eR, hR1, hR2, hRI⟩ := (HOR.out.ext heBG).sl
        subst eR
        obtain ⟨Bl, dl, el, hl1, hl2, hlI⟩ := hL.out.ext heCG
        subst el
        obtain ⟨Br, dr, er, hr1, hr2, hrI⟩ := hR.out.ext heCG
        subst er
        have hMb := hbY.ext heCG
        have HmS := Lib.hid (hmS.ext heCG); have HmW := Lib.hid (hmW.ext heCG)
        have hxlm := Nat.le_trans hL1 hL2
        have hxrm := Nat.le_trans hR1 hR2
        obtain ⟨ln, hln⟩ : ∃ ln, xl.length = ln := ⟨_, rfl⟩
        obtain ⟨rn, hrn⟩ : ∃ rn, xr.length = rn := ⟨_, rfl⟩
        have hq4 : ((M.wvs.length : Int) != (M.wvs.length : Int)) = false := by simp
        have hEq1 := Lib.hid (fun W (hW : Ext wG W) => eqI AL Bl cL dl xl xl true (by simp) W hxlm (IntsAt.ext hLI hW) (IntsAt.ext hlI hW))
        have hEq2 := Lib.hid (fun W (hW : Ext wG W) => eqI AR Br cR dr xr xr true (by simp) W hxrm (IntsAt.ext hRI hW) (IntsAt.ext hrI hW))
        have hEq3 := Lib.hid (fun W (hW : Ext wG W) => eqSh7 T1 Am z1 cm M.shafts M.shafts true (by simp) W (Nat.le_trans hym.1 hym.2) (Nat.le_trans hym.1 hym.2) (hys.out.ext hW) (HmS.out.ext hW))
        rw [hln] at hEq1 ⊢
        rw [hrn] at hEq2 ⊢
        clear hL1 hL2 hLI hR1 hR2 hRI hl1 hl2 hlI hr1 hr2 hrI hL hR HOL HOR hmS hmW hbY hxlm hxrm hln hrn heA heAB hys HmS hxl hxr hMd
        obtain ⟨v0, v1⟩ := hY.c2
        obtain ⟨n0, n1⟩ := hMb.c2
        go_wp2_with fail
        refine (hEq1.out wG (Ext.refl _)).mono ?_
        rintro e wH ⟨rfl, heH⟩
        clear hEq1
        go_wp2_with fail
        refine (hEq2.out wH heH).mono ?_
        rintro e wI ⟨rfl, heI'⟩
        have heI := heH.trans heI'
        clear hEq2 heI' v0 v1 n0 n1
        obtain ⟨v0, v1⟩ := (hY.ext heI).c2
        obtain ⟨n0, n1⟩ := (hMb.ext heI).c2
        go_wp2_with fail
        refine (hEq3.out wI heI).mono ?_
        rintro e wJ ⟨rfl, heJ'⟩
        have heJ := heI.trans heJ'
        clear hEq3 heJ' heH heI v0 v1 n0 n1
        obtain ⟨v0, v1⟩ := (hY.ext heJ).c2
        obtain ⟨n0, n1⟩ := (hMb.ext heJ).c2
        go_wp2_with fail
        clear v0 v1 n0 n1
        have hE0 := hEc.trans (heB.trans (heBG.trans heJ))
        go_loopw [157] (fun iv wr => ∃ j : Nat, j ≤ M.wvs.length ∧ iv = .int .i64 j ∧ Ext wG wr) (fun iv _ => M.wvs.length - (intOf iv).toNat)
        case atStart => exact ⟨0, by omega, rfl, heJ⟩
        case round =>
          obtain ⟨j, hj, rfl, her⟩ := hrel
          by_cases hlt : j < M.wvs.length
          · -- <<C
            as_aux_lemma =>
            obtain ⟨y0, o0, rfl, A5, c5, h5', i1, i2, i3⟩ := hyw.out.ext her j hlt
            obtain ⟨y1, o1, rfl, A6, c6, h6', j1, j2, j3⟩ := HmW.out.ext her j hlt
            have hwv : M.wvs[j]?.getD default = M.wv j := rfl
            rw [hwv] at i1 i2 i3 h5' j1 j2 j3 h6'
            obtain ⟨hl, hhl⟩ : ∃ hl, (M.wv j).hours.length = hl := ⟨_, rfl⟩
            obtain ⟨s1, hs1⟩ : ∃ s1, (M.wv j).shaft = s1 := ⟨_, rfl⟩
            have HEq := Lib.hid (fun W (hW : Ext wr W) => eqI A5 A6 c5 c6 (M.wv j).hours (M.wv j).hours true (by simp) W (Nat.le_trans h5'.1 h5'.2) (IntsAt.ext i3 hW) (IntsAt.ext j3 hW))
            rw [hhl] at i2 j2 HEq
            rw [hs1] at i1 j1
            have hX := Ext.alloc wr (.cells #[.int .i64 s1, .slice A6 hl c6] 104)
            have hK := Blk.new wr 104 #[.int .i64 s1, .slice A6 hl c6]
            have hss : (s1 != s1) = false := by simp
            clear hwv i3 j3 h5' h6' hhl hs1
            go_upto_region 35 with fail
            clear j1 j2
            replace i1 := hX.cell i1; replace i2 := hX.cell i2
            obtain ⟨k0, k1⟩ := ((hY.ext her).ext hX).c2
            obtain ⟨f0, f1⟩ := hK.c2
            obtain ⟨K0, hK0⟩ : ∃ K0, wr.heap.size = K0 := ⟨_, rfl⟩
            rw [hK0] at f0 f1 ⊢
            have heX := hX
            clear hK0 hK hX
            generalize wr.alloc _ = w6 at *
            have her6 := her.trans heX
            refine wp_region_tree 21 [(18, true)] [] (by kernel_rfl) (by kernel_rfl) (by kernel_rfl) (ds := [0, 1, 2, 3, 4, 5, 6, 7, 8, 9, 10, 11, 12, 13, 14, 15, 16, 17]) (by kernel_rfl) ?_
            simp only [List.take, List.drop, fill, Act.put, List.setIfInBounds_toArray, List.set_cons_zero, List.set_cons_succ, Nat.reduceAdd]
            repeat (first
              | (apply Unlock.float rfl
                 · intro x W he hd K Qr hK
                   try (have he := he (by decide); have k0 := he.cell k0; have k1 := he.cell k1; have i1 := he.cell i1; have i2 := he.cell i2; have f0 := he.cell f0; have f1 := he.cell f1)
                   try simp only [edges, DepsE, List.filter_cons, List.filter_nil, Region.binds, if_true, and_true, true_and, upd, Nat.reduceEqDiff, if_false] at hd
                   try simp only [hd] at hK ⊢
                   have HK := Lib.hid hK; clear hK
                   go_wp2_with fail
                   exact HK.out))
            refine Unlock.nil ?_
            intro W he hG
            refine Tree.next (ks := [(18, true)]) (by kernel_rfl) ?_
            refine TSteps.cons _ rfl ?_ trivial
            intro x hd K Qr hK
            try simp only [edges, DepsE, List.filter_cons, List.filter_nil, Region.binds, if_true, and_true, true_and, upd, Nat.reduceEqDiff, if_false] at hd
            try simp only [hd] at hK ⊢
            clear hd
            have HK := Lib.hid hK; clear hK
            go_wp2_with fail
            refine (HEq.out W (heX.trans he)).mono ?_
            rintro e w7 ⟨rfl, he7⟩
            have heZ := he.trans he7
            go_wp2_with fail
            refine HK.out _ _ (fun _ => heZ) ?_
            clear HK
            refine Unlock.of (ds := [19, 20]) (by kernel_rfl) ?_
            repeat (first
              | (apply Unlock.float rfl
                 · intro x W he hd K Qr hK
                   try (have he := he (by decide); skip)
                   try simp only [edges, DepsE, List.filter_cons, List.filter_nil, Region.binds, if_true, and_true, true_and, upd, Nat.reduceEqDiff, if_false] at hd
                   try simp only [hd] at hK ⊢
                   have HK := Lib.hid hK; clear hK
                   go_wp2_with fail
                   exact HK.out))
            refine Unlock.nil ?_
            refine Tree.nil (by kernel_rfl) ?_
            simp only [upd, Nat.reduceEqDiff, if_false, if_true]
            go_wp2_with fail
            go_roundw
            case rel => exact ⟨j + 1, by omega, by go_num, her6.trans heZ⟩
            case measure => simp [intOf]; omega
            -- >>
          · obtain rfl : j = M.wvs.length := by omega
            -- <<D
            as_aux_lemma =>
            have hCr := (hC.ext heG).ext her
            have hclr2 := Lib.hid ((hclr.out.ext heG).ext her)
            have hcs2 : Hid (∃ cs, wr.ownsRow wB.heap.size 105 2 (.slice P1 M.shafts.length q1) M.shafts.length cs) := by
              obtain ⟨cs, h⟩ := hcs.out
              exact ⟨cs, ownsRow_ext2 (ownsRow_ext2 h heG) her⟩
            have heBr := heBG.trans her
            obtain ⟨wo, rfl⟩ : ∃ z, z = wr := ⟨_, rfl⟩
            obtain ⟨k0, k1⟩ := hCr.c2
            clear hlt hclr hcs hC hyw HmW hY hMb hE0 heJ her hcvX
            go_wp2_with fail
            clear k0 k1
            go_loopw [187] (fun iv wr => ∃ j : Nat, j ≤ M.wvs.length ∧ iv = .int .i64 j ∧ Ext wB wr ∧ Blk wr Cb 26 #[.slice P1 M.shafts.length q1, .slice P2 M.wvs.length q2] ∧ Hid (ClrW wr wB.heap.size (.slice P2 M.wvs.length q2) M.wvs) ∧
              Hid (∃ cs, wr.ownsRow wB.heap.size 105 2 (.slice P1 M.shafts.length q1) M.shafts.length cs)) (fun iv _ => M.wvs.length - (intOf iv).toNat)
            case atStart => exact ⟨0, by omega, rfl, heBr, hCr, hclr2.out, hcs2.out⟩
            case round =>
              clear heBr hCr hclr2 hcs2
              obtain ⟨j, hj, rfl, her, hCr, hcl, hcs⟩ := hrel
              by_cases hlt : j < M.wvs.length
              · obtain ⟨b, ob, sv, rfl, q3, q4, hs⟩ := hcl.out.at_ j hlt
                obtain ⟨As, csa, rfl⟩ := hs.slice
                have hwv : M.wvs[j]?.getD default = M.wv j := rfl
                rw [hwv] at q3 q4 hs
                obtain ⟨hl, hhl⟩ : ∃ hl, (M.wv j).hours.length = hl := ⟨_, rfl⟩
                obtain ⟨s1, hs1⟩ : ∃ s1, (M.wv j).shaft = s1 := ⟨_, rfl⟩
                rw [hhl] at q4 hs
                rw [hs1] at q3
                have hB := Blk.new wr 82 #[.int .i64 s1, .slice As hl csa]
                have hX := Ext.alloc wr (.cells #[.int .i64 s1, .slice As hl csa] 82)
                have Hs := Lib.hid hs
                clear hs hwv hhl hs1
                go_upto_region 41 with fail
                clear q3 q4
                have her2 := her.trans hX
                have hCr2 := hCr.ext hX
                have hcl2 := Lib.hid (hcl.out.ext hX)
                have hcs2 : Hid (∃ cs, (wr.alloc (.cells #[.int .i64 s1, .slice As hl csa] 82)).ownsRow wB.heap.size 105 2 (.slice P1 M.shafts.length q1) M.shafts.length cs) := by
                  obtain ⟨cs, h⟩ := hcs.out
                  exact ⟨cs, ownsRow_ext2 h hX⟩
                have hs : RowN (wr.alloc (.cells #[.int .i64 s1, .slice As hl csa] 82)) wB.heap.size (.slice As hl csa) hl := by
                  obtain ⟨ys, h⟩ := Hs.out
                  exact ⟨ys, ownsRow_ext2 h hX⟩
                clear hX Hs hcl hcs hCr her
                generalize wr.alloc _ = wa2 at *
                obtain ⟨wb2, hrun, hwp⟩ := clear_int wa2 hs
                have hge := hs.ge
                obtain ⟨y0, y1⟩ := hB.c2
                have Hwp := Lib.hid hwp; have Hge := Lib.hid hge
                clear hwp hge hs
                go_upto_region 42 with fail
                clear hrun y0 y1
                go_wp2_with fail
                go_roundw
                case rel =>
                  refine ⟨j + 1, by omega, by go_num, Hwp.out.ext her2 Hge.out, Hwp.out.blk hCr2 (by decide), hcl2.out.wipe Hwp.out, ?_⟩
                  obtain ⟨cs, h⟩ := hcs2.out
                  exact ⟨cs, Hwp.out.rowFar h (.inl (by decide))⟩
                case measure => simp [intOf]; omega
              · obtain rfl : j = M.wvs.length := by omega
                obtain ⟨k0, k1⟩ := hCr.c2
                obtain ⟨wb, hrun, hwp⟩ := clear_wv wr hcl.out
                have Hwp := Lib.hid hwp
                have Hge := Lib.hid hcl.out.ge
                clear hwp
                go_upto_region 44 with fail
                clear hrun k0 k1
                have her2 := Hwp.out.ext her Hge.out
                have hCr2 := Hwp.out.blk hCr (by decide)
                obtain ⟨cs, hcs2⟩ : ∃ cs, wb.ownsRow wB.heap.size 105 2 (.slice P1 M.shafts.length q1) M.shafts.length cs := by
                  obtain ⟨cs, h⟩ := hcs.out
                  exact ⟨cs, Hwp.out.rowFar h (.inl (by decide))⟩
                obtain ⟨k0, k1⟩ := hCr2.c2
                obtain ⟨wc2, hrun, hwp⟩ := clear_sh wb hcs2
                have Hwp2 := Lib.hid hwp
                have Hge2 : Hid (∀ g, (Value.slice P1 M.shafts.length q1).ownBlock = some g → wB.heap.size ≤ g) := fun g hg => (ownsRow_own hcs2 g hg).1
                clear hwp hcs2 hcl hcs hCr
                go_upto_region 45 with fail
                clear hrun k0 k1
                have her3 := Hwp2.out.ext her2 Hge2.out
                have heCq := heB.trans her3
                clear her her2 hCr2 Hwp Hge Hwp2 Hge2 hlt
                have hsm := Lib.hid (same7_any _ _ m m true (by simp) wc2 (hOwn.out.ext heCq).val (Hv.out.ext (hEc.trans heCq)))
                obtain ⟨k0, k1⟩ := (bOc.ext heCq).c2
                obtain ⟨n0, n1⟩ := (bMc.ext heCq).c2
                have hE9 := hEc.trans heCq
                go_wp2_with fail
                refine hsm.out.mono ?_
                rintro e w8 ⟨rfl, he8⟩
                clear hsm k0 k1 n0 n1
                go_wp2_with fail
                refine (awake7_any w8).mono ?_
                rintro e w9 ⟨rfl, he9⟩
                go_wp2_with fail
                go_ret
                exact ⟨rfl, hE9.trans (he8.trans he9)⟩
            -- >>
        -- >>
end Go.Proofs.Pet
