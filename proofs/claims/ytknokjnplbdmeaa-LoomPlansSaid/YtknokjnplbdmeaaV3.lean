/-
  LoomPlans, walked.
-/
import Derived.Test.YtknokjnplbdmeaaV1
import Derived.Test.YtknokjnplbdmeaaV2
import Derived.Test.YtknokjnplbdmeaaU6
namespace Go.Proofs.Pet
open Go Go.RowKit Go.Maps Go.Shelf

set_option maxRecDepth 100000 in
set_option maxHeartbeats 4000000 in
theorem loomPlans_any (v : Value) (m : Mill) (w : World) (hv : MillVal w v m) :
    Calls Try.prog 7 #[v] w fun e w' => e = .returned (.bool true) ∧ Ext w w' := by
  have Hv := Lib.hid hv
  obtain ⟨A1, c1, A2, c2, rfl, h2, h3, h4, h5, h6, h7⟩ := hv
  have hE := Ext.alloc w (.cells #[.slice A1 m.laced.length c1, .int .i64 m.change, .slice A2 m.orders.length c2] 25)
  have hM := Blk.new w 25 #[.slice A1 m.laced.length c1, .int .i64 m.change, .slice A2 m.orders.length c2]
  clear h2 h3 h4 h5 h6 h7
  obtain ⟨q, hq⟩ : ∃ q, greatB m = q := ⟨_, rfl⟩
  have hgr := Lib.hid (great_any _ m q hq _ (Hv.out.ext hE))
  have Hq := Lib.hid hq; clear hq
  obtain ⟨k0, k1, k2⟩ := hM.c3
  go_enter Try.func7, Try.ntmps7
  go_wp2_with fail
  refine hgr.out.mono ?_
  rintro e w1 ⟨rfl, he1⟩
  have hE1 := hE.trans he1
  have hM1 := hM.ext he1
  clear hE hM he1 hgr k0 k1 k2
  cases q with
  | true =>
    go_wp2_with fail
    refine (awake_any w1).mono ?_
    rintro e w2 ⟨rfl, he2⟩
    have hE2 := hE1.trans he2
    go_wp2_with fail
    go_ret
    exact ⟨rfl, hE2⟩
  | false =>
    have hgb := great_bounds Hq.out
    go_wp2_with fail
    refine wp_region_stage 6 (by kernel_rfl) (by kernel_rfl) (OwnS 1 3 4 5 w1 m) (fun k v => k = 0 ∨ k = 2 → v = .agg #[.slice A1 m.laced.length c1, .int .i64 m.change, .slice A2 m.orders.length c2]) (fun x => OwnS.start 1 3 4 5 w1 m x) ?_ ?_
    · simp only [List.take, AllOps3, fill, Act.put, List.setIfInBounds_toArray, List.set_cons_zero, List.set_cons_succ, Nat.reduceAdd, DepsV, DepsL, List.filter_cons, List.filter_nil, Region.binds, if_true, and_true, Closed]
      refine ⟨?_, ?_, ?_, ?_, ?_, ?_⟩
      all_goals
        intro Ld x W hS hcl hnl hdl hd K Q hK
        obtain ⟨k0, k1, k2⟩ := (hM1.ext hS.ext).c3
        have HK := Lib.hid hK; clear hK
        have HC := Lib.hid hcl; clear hcl
        have HD := Lib.hid hdl; clear hdl
        have HN := Lib.hid hnl; clear hnl
        have HS := Lib.hid hS; clear hS
        have Hd := Lib.hid hd; clear hd
      case refine_1 =>
        go_wp2_with fail
        exact HK.out _ _ (fun _ => rfl) (HS.out.pure (Ext.refl _) _ _ (by decide))
      case refine_3 =>
        go_wp2_with fail
        exact HK.out _ _ (fun _ => rfl) (HS.out.pure (Ext.refl _) _ _ (by decide))
      case refine_2 =>
        have h0 := Hd.out (by simp)
        have hk0 := HK.out; clear HK
        simp only [h0] at hk0 ⊢
        have HK := Lib.hid hk0; clear hk0 h0
        go_wp2_with fail
        refine (own_off _ m w1 W HS.out.ext (Hv.out.ext hE1) Hq.out).mono ?_
        rintro e w' ⟨v', rfl, hv', he'⟩
        go_wp2
        exact HK.out _ _ (fun h => absurd h (by decide)) (HS.out.doOwn he' _ hv' (by decide) (by decide) (by decide))
      case refine_4 =>
        have h0 := Hd.out.1 (by simp)
        have hk0 := HK.out; clear HK
        simp only [h0] at hk0 ⊢
        have HK := Lib.hid hk0; clear hk0 h0
        go_wp2_with fail
        refine (theirs_off _ m w1 W HS.out.ext (Hv.out.ext hE1) (by omega)).mono ?_
        rintro e w' ⟨v', rfl, hv', he'⟩
        go_wp2
        exact HK.out _ _ (fun h => absurd h (by decide)) (HS.out.doRef he' _ hv' (by decide) (by decide) (by decide))
      case refine_5 =>
        go_wp2_with fail
        exact HK.out _ _ (fun h => absurd h (by decide)) (HS.out.doC (by decide) (by decide) (by decide))
      case refine_6 =>
        go_wp2_with fail
        exact HK.out _ _ (fun h => absurd h (by decide)) (HS.out.doD (by decide) (by decide) (by decide))
    · intro x W hS hR
      obtain ⟨g, g', A3, c3, A4, c4, B1, e1, B2, e2, x4, x5, hg, hg', b4, b5, hne, x1, x3, v1, v3⟩ := hS.done (by decide) (by decide) (by decide) (by decide)
      have heW := hS.ext
      simp only [AllV, true_and] at hR
      have x0 := hR.1.1.1.1.1 (by simp)
      have x2 := hR.1.1.1.2 (by simp)
      simp only [List.take, List.drop, fill, Act.put, List.setIfInBounds_toArray, List.set_cons_zero, List.set_cons_succ, Nat.reduceAdd, x0, x1, x2, x3, x4, x5]
      rw [x1] at v1
      rw [x3] at v3
      clear hR hS x0 x1 x2 x3 x4 x5
      obtain ⟨u0, u1, u2⟩ := b4.c3
      obtain ⟨y0, y1, y2⟩ := b5.c3
      have f0 := b4.frozen 0; have f1 := b4.frozen 1; have f2 := b4.frozen 2
      have h0 := b5.frozen 0; have h1 := b5.frozen 1; have h2 := b5.frozen 2
      have hne' : g' ≠ g := fun h => hne h.symm
      have V1 := Lib.hid v1; have V3 := Lib.hid v3; clear v1 v3
      have B4 := Lib.hid b4; have B5 := Lib.hid b5; clear b4 b5
      go_wp2_with fail
      obtain ⟨hE2, bO, bX, vO, vX⟩ := own_stored (.slice A3 m.laced.length c3) (.int .i64 m.change) (.slice A4 m.orders.length c4) (.slice B1 m.laced.length e1) (.int .i64 m.change) (.slice B2 m.orders.length e2) heW hg hg' B4.out B5.out hne V1.out V3.out
      clear u0 u1 u2 y0 y1 y2 f0 f1 f2 h0 h1 h2 B4 B5 V1 V3 heW
      generalize (((((W.setCell _ _).setCell _ _).setCell _ _).setCell _ _).setCell _ _).setCell _ _ = W2 at *
      have hE3 := hE1.trans hE2
      have hM3 := hM1.ext hE2
      have hVm := Lib.hid ((Hv.out.ext hE1).ext hE2)
      have hvO := Lib.hid vO; have hvX := Lib.hid vX
      clear hE1 hM1 hE2 vO vX hg hg' hne hne'
      obtain ⟨k0, k1, k2⟩ := bX.c3
      obtain ⟨r, hr⟩ : ∃ r, checkE m = r := ⟨_, rfl⟩
      have hck := Lib.hid (check5_any _ m r hr W2 hvX.out)
      have Hr := Lib.hid hr; clear hr
      go_wp2_with fail
      refine hck.out.mono ?_
      rintro e w3 ⟨rfl, he3⟩
      clear k0 k1 k2 hck
      replace hE3 := up he3 hE3; replace hM3 := up he3 hM3; replace bO := up he3 bO; replace bX := up he3 bX; replace hVm := up he3 hVm; replace hvO := up he3 hvO; replace hvX := up he3 hvX
      clear he3
      obtain ⟨k0, k1, k2⟩ := bO.c3
      by_cases hr0 : r = 0
      · subst hr0
        obtain ⟨l1, l2, l3⟩ := check_len Hr.out
        obtain ⟨N, hN⟩ : ∃ N, 2 ^ m.orders.length = N := ⟨_, rfl⟩
        have hNb : 1 ≤ N ∧ N ≤ 128 := by
          have h1 : 2 ^ m.orders.length ≤ 2 ^ 7 := Nat.pow_le_pow_right (by omega) l3
          have h2 : (2 : Nat) ^ 7 = 128 := by decide
          have h3 := Nat.two_pow_pos m.orders.length
          omega
        have hma := Lib.hid (made_any _ m Hr.out w3 hvO.out)
        have HN := Lib.hid hN; clear hN
        go_wp2_with fail
        refine hma.out.mono ?_
        rintro e w4 ⟨S, rfl, hT, he4⟩
        clear k0 k1 k2 hma
        replace hE3 := up he4 hE3; replace hM3 := up he4 hM3; replace bO := up he4 bO; replace bX := up he4 bX; replace hVm := up he4 hVm; replace hvO := up he4 hvO; replace hvX := up he4 hvX
        clear he4
        have hT := Lib.hid hT
        obtain ⟨k0, k1, k2⟩ := bX.c3
        have hm5 := Lib.hid (made5_any _ m Hr.out w4 hvX.out)
        go_wp2_with fail
        refine hm5.out.mono ?_
        rintro e w5 ⟨r5, V, R, rfl, hR3, he5⟩
        clear k0 k1 k2 hm5
        replace hE3 := up he5 hE3; replace hM3 := up he5 hM3; replace bO := up he5 bO; replace bX := up he5 bX; replace hVm := up he5 hVm; replace hvO := up he5 hvO; replace hvX := up he5 hvX; replace hT := up he5 hT
        clear he5
        obtain ⟨b5, c5, rfl, hc5, _⟩ := ownsRow_at hR3.own (i := 0) (by omega)
        have hR3 := Lib.hid hR3
        go_wp2_with fail
        go_loopw [58] (fun iv wr => ∃ k : Nat, k ≤ m.laced.length ∧ iv = .int .i64 k ∧ Ext w5 wr) (fun iv _ => m.laced.length - (intOf iv).toNat)
        case atStart => exact ⟨0, by omega, rfl, Ext.refl _⟩
        case round =>
          obtain ⟨k, hk, rfl, he⟩ := hrel
          by_cases hlt : k < m.laced.length
          · obtain ⟨u, hu1, _, hu2⟩ := hT.out.at hlt
            have hu3 := hu2.rows
            obtain ⟨b6, c6, h6, _, hv1⟩ := ownsRow_at hR3.out.own (i := k) hlt
            rw [List.getElem?_map, List.getElem?_range hlt] at hv1
            simp only [Value.slice.injEq, Option.some.injEq, Addr.mk.injEq, and_true, true_and] at h6
            obtain ⟨rfl, rfl⟩ := h6
            have hv1 : w5.cell? ⟨b5, k, none⟩ = some (V k) := hv1
            have hv2 := (hR3.out.tab k hlt).rows (by have := HN.out; omega) (by unfold maxLen; omega) (by have := HN.out; unfold maxLen; omega)
            generalize V k = vk at hv1 hv2
            replace hu1 := up he hu1; replace hu3 := up he hu3; replace hv1 := up he hv1; replace hv2 := up he hv2
            rw [HN.out] at hu3 hv2
            have heq := Lib.hid (eqRows_any u vk (rowsC m k N) (rowsC m k N) true (by simp) wr hu3 hv2)
            obtain ⟨A7, c7, rfl, _, _, _⟩ := hu3
            obtain ⟨A8, c8, rfl, _, _, _⟩ := hv2
            go_wp2_with fail
            refine heq.out.mono ?_
            rintro e w6 ⟨rfl, he6⟩
            clear heq hu1 hv1
            go_wp2_with fail
            go_roundw
            case rel => exact ⟨k + 1, by omega, by go_num, he.trans he6⟩
            case measure => simp [intOf]; omega
          · obtain rfl : k = m.laced.length := by omega
            replace hE3 := up he hE3; replace hM3 := up he hM3; replace bO := up he bO; replace bX := up he bX; replace hVm := up he hVm; replace hvO := up he hvO; replace hvX := up he hvX; replace hT := up he hT
            clear he hR3
            have hfw := Lib.hid (fewest_any _ m Hr.out N HN.out.symm wr hvX.out)
            obtain ⟨k0, k1, k2⟩ := bX.c3
            go_wp2_with fail
            refine hfw.out.mono ?_
            rintro e w6 ⟨S2, rfl, hS2, hrow, he6⟩
            clear hfw k0 k1 k2 hS2
            replace hE3 := up he6 hE3; replace hM3 := up he6 hM3; replace bO := up he6 bO; replace bX := up he6 bX; replace hVm := up he6 hVm; replace hvO := up he6 hvO; replace hvX := up he6 hvX; replace hT := up he6 hT
            clear he6
            obtain ⟨fv, hfv⟩ : ∃ fv, fewR m (N - 1) = fv := ⟨_, rfl⟩
            have hcell := hrow.cell (j := N - 1) (by omega)
            rw [hfv] at hcell
            have hN1 : ((N : Int) - 1) = ((N - 1 : Nat) : Int) := by omega
            have Hfv := Lib.hid hfv; clear hfv
            have Hrow := Lib.hid hrow; clear hrow
            obtain ⟨k0, k1, k2⟩ := bO.c3
            have hpl := Lib.hid (plan_ok _ m Hr.out w6 hvO.out)
            by_cases hneg : fv < 0
            · go_wp2_with fail
              refine hpl.out.mono ?_
              rintro e w7 (⟨hnone, rfl, he7⟩ | ⟨rows, rv, hsome, _, _, _⟩)
              · clear hpl k0 k1 k2 hnone hcell
                replace hE3 := up he7 hE3; replace hM3 := up he7 hM3; replace bO := up he7 bO; replace bX := up he7 bX; replace hVm := up he7 hVm; replace hvO := up he7 hvO; replace hvX := up he7 hvX
                clear he7
                obtain ⟨k0, k1, k2⟩ := bO.c3
                obtain ⟨y0, y1, y2⟩ := hM3.c3
                have hsm := Lib.hid (same_any _ _ m m true (by simp) w7 hvO.out hVm.out)
                go_wp2_with fail
                refine hsm.out.mono ?_
                rintro e w8 ⟨rfl, he8⟩
                go_wp2_with fail
                refine (awake_any w8).mono ?_
                rintro e w9 ⟨rfl, he9⟩
                go_wp2_with fail
                go_ret
                exact ⟨rfl, (hE3.trans he8).trans he9⟩
              · exfalso
                have := (plan_none Hr.out).2 (by rw [HN.out, Hfv.out]; exact hneg)
                rw [this] at hsome; cases hsome
            · go_wp2_with fail
              refine hpl.out.mono ?_
              rintro e w7 (⟨hnone, _, _⟩ | ⟨rows, rv, hsome, rfl, hrv, he7⟩)
              · exfalso
                have := (plan_none Hr.out).1 hnone
                rw [HN.out, Hfv.out] at this; omega
              · clear hpl k0 k1 k2 hcell
                replace hE3 := up he7 hE3; replace hM3 := up he7 hM3; replace bO := up he7 bO; replace bX := up he7 bX; replace hVm := up he7 hVm; replace hvO := up he7 hvO; replace hvX := up he7 hvX
                clear he7
                have Hpo := Lib.hid (plan_law Hr.out hsome)
                clear hsome
                have hlen := Hpo.out.len
                have hall := Hpo.out.all
                have hp5 := Lib.hid (planned5_any _ rv m Hr.out rows 0 Hpo.out.pl (by omega) (by omega) w7 hvX.out hrv)
                have Hrv := Lib.hid hrv
                obtain ⟨Ap, cp, rfl, q1, q2, q3⟩ := hrv
                clear q3
                have Hlen := Lib.hid hlen; have Hall := Lib.hid hall; clear hlen hall
                obtain ⟨k0, k1, k2⟩ := bX.c3
                go_wp2_with fail
                refine hp5.out.mono ?_
                rintro e w8 ⟨rfl, he8⟩
                clear hp5 k0 k1 k2
                replace hE3 := up he8 hE3; replace hM3 := up he8 hM3; replace bO := up he8 bO; replace bX := up he8 bX; replace hVm := up he8 hVm; replace hvO := up he8 hvO; replace hvX := up he8 hvX; replace Hrv := up he8 Hrv
                clear he8
                go_wp2_with fail
                go_loopw [14, 15, 108] (fun sv mv iv wr => ∃ k : Nat, ∃ sm mn : Int, k ≤ rows.length ∧ iv = .int .i64 k ∧ sv = .int .i64 sm ∧ mv = .int .i64 mn ∧ (0 ≤ sm ∧ sm ≤ 100 * k) ∧ (0 ≤ mn ∧ mn ≤ 100 * k) ∧ Hid (chgF m rows k = sm) ∧ Hid (((rows.take k).flatten.length : Int) = mn) ∧ Ext w8 wr) (fun _ _ iv _ => rows.length - (intOf iv).toNat)
                case atStart => exact ⟨0, 0, 0, by omega, rfl, rfl, rfl, by omega, by omega, rfl, rfl, Ext.refl _⟩
                case round =>
                  obtain ⟨k, sm, mn, hk, rfl, rfl, rfl, hsm, hmn, hs1, hs2, he⟩ := hrel
                  by_cases hlt : k < rows.length
                  · obtain ⟨Ap', cp', h6, _, _, hr⟩ := Hrv.out.ext he
                    simp only [Value.slice.injEq, true_and] at h6
                    obtain ⟨rfl, rfl⟩ := h6
                    obtain ⟨bp, op, u, rfl, hu1, hu2⟩ := hr k hlt
                    clear hr
                    obtain ⟨row, hrow⟩ : ∃ row, rows[k]?.getD [] = row := ⟨_, rfl⟩
                    rw [hrow] at hu2
                    have g1 := Hpo.out.short k hlt
                    have g2 := Hpo.out.rng k hlt
                    have g3 := Hpo.out.tm k hlt
                    rw [hrow] at g1 g2 g3
                    have hcs : Hid (chgF m rows (k + 1) = sm + chR m k (rvI row)) := by unfold Hid; rw [chgF, hs1.out, hrow]
                    have hms : Hid (((rows.take (k + 1)).flatten.length : Int) = mn + row.length) := by
                      have := hs2.out
                      unfold Hid; rw [flat_take hlt, hrow, List.length_append]; omega
                    obtain ⟨A8, c8, rfl, q4, q5, q6⟩ := hu2
                    have hlc : k < m.laced.length := by have := Hlen.out; omega
                    have hrn := Lib.hid (run5_any _ m Hr.out k hlc A8 c8 row.length row rfl (by omega) g2 wr (hvX.out.ext he) q6)
                    have hcb := chR_bd m k (rvI row)
                    have hcl : (rvI row).length = row.length := by unfold rvI; simp
                    rw [hcl] at hcb
                    obtain ⟨ch, hch⟩ : ∃ ch, chR m k (rvI row) = ch := ⟨_, rfl⟩
                    rw [hch] at hcb
                    simp only [hch, g3] at hrn hcs
                    have G2 := Lib.hid g2; have Q6 := Lib.hid q6
                    clear g2 g3 hcl hch q6 hrow
                    obtain ⟨k0, k1, k2⟩ := (bX.ext he).c3
                    go_wp2_with fail
                    refine hrn.out.mono ?_
                    rintro e w9 ⟨er, rfl, _, he9⟩
                    clear hrn k0 k1 k2
                    go_wp2_with fail
                    go_roundw
                    case rel => exact ⟨k + 1, sm + ch, mn + row.length, by omega, by go_num, rfl, rfl, by omega, by omega, hcs, hms, he.trans he9⟩
                    case measure => simp [intOf]; omega
                  · obtain rfl : k = rows.length := by omega
                    replace hE3 := up he hE3; replace hM3 := up he hM3; replace bO := up he bO; replace bX := up he bX; replace hVm := up he hVm; replace hvO := up he hvO; replace hvX := up he hvX
                    clear he
                    have e1 : Hid (sm = fv) := by unfold Hid; rw [← hs1.out, Hpo.out.sum, HN.out, Hfv.out]
                    have e2 : Hid (mn = (m.orders.length : Int)) := by unfold Hid; rw [← hs2.out, List.take_length, Hall.out]
                    obtain rfl := e1.out
                    obtain rfl := e2.out
                    obtain ⟨k0, k1, k2⟩ := bO.c3
                    obtain ⟨y0, y1, y2⟩ := hM3.c3
                    have hsm := Lib.hid (same_any _ _ m m true (by simp) wr hvO.out hVm.out)
                    go_wp2_with fail
                    refine hsm.out.mono ?_
                    rintro e w8 ⟨rfl, he8⟩
                    go_wp2_with fail
                    refine (awake_any w8).mono ?_
                    rintro e w9 ⟨rfl, he9⟩
                    go_wp2_with fail
                    go_ret
                    exact ⟨rfl, (hE3.trans he8).trans he9⟩
      · have hmk := Lib.hid (madeErr_any _ m r Hr.out hr0 w3 hvO.out)
        go_wp2_with fail
        refine hmk.out.mono ?_
        rintro e w4 ⟨rfl, he4⟩
        clear k0 k1 k2 hmk
        replace hE3 := up he4 hE3; replace hM3 := up he4 hM3; replace bO := up he4 bO; replace bX := up he4 bX; replace hVm := up he4 hVm; replace hvO := up he4 hvO; replace hvX := up he4 hvX
        clear he4
        have hpl := Lib.hid (plan_err _ m r Hr.out hr0 w4 hvO.out)
        obtain ⟨k0, k1, k2⟩ := bO.c3
        have hrn : (r == 0) = false := by simpa using hr0
        have hrn2 : (r != 0) = true := by simpa using hr0
        have Hr0 := Lib.hid hr0; clear hr0
        go_wp2_with fail
        refine hpl.out.mono ?_
        rintro e w5 ⟨rfl, he5⟩
        clear k0 k1 k2 hpl
        replace hE3 := up he5 hE3; replace hM3 := up he5 hM3; replace bO := up he5 bO; replace bX := up he5 bX; replace hVm := up he5 hVm; replace hvO := up he5 hvO; replace hvX := up he5 hvX
        obtain ⟨k0, k1, k2⟩ := bO.c3
        obtain ⟨y0, y1, y2⟩ := hM3.c3
        have hsm := Lib.hid (same_any _ _ m m true (by simp) w5 hvO.out hVm.out)
        go_wp2_with fail
        refine hsm.out.mono ?_
        rintro e w8 ⟨rfl, he8⟩
        go_wp2_with fail
        refine (awake_any w8).mono ?_
        rintro e w9 ⟨rfl, he9⟩
        go_wp2_with fail
        go_ret
        exact ⟨rfl, (hE3.trans he8).trans he9⟩
end Go.Proofs.Pet
