import Derived.Test.YtknokjnplbdmeaaU6
namespace Go.Proofs.Pet
open Go Go.RowKit Go.Maps Go.Shelf

set_option maxRecDepth 100000 in
set_option maxHeartbeats 8000000 in
theorem loomRuns_any (v : Value) (m : Mill) (n : Int) (A : Option Addr) (c : Nat) (xs : List Int) (pv : Value) (xss : List (List Int)) (w : World) (hv : MillVal w v m) (hlc : xs.length ≤ c) (hlx : c ≤ maxLen) (hx : IntsAt w A xs) (hp : RowsI w pv xss) :
    Calls Try.prog 9 #[v, .int .i64 n, .slice A xs.length c, pv] w fun e w' => e = .returned (.bool true) ∧ Ext w w' := by
  obtain ⟨ti, hi, hz0, hz1, hz2⟩ := info_parts info_int
  have Hv := Lib.hid hv
  have Hx := Lib.hid hx
  have Hp := Lib.hid hp
  obtain ⟨A1, c1, A2, c2, rfl, h2, h3, h4, h5, h6, h7⟩ := hv
  obtain ⟨PA, pc, rfl, g2, g3, g4⟩ := hp
  have G4 := Lib.hid g4; clear g4
  have G3 := Lib.hid g3
  unfold maxLen at g3
  have hE := Ext.alloc w (.cells #[.slice A1 m.laced.length c1, .int .i64 m.change, .slice A2 m.orders.length c2] 25)
  have hM := Blk.new w 25 #[.slice A1 m.laced.length c1, .int .i64 m.change, .slice A2 m.orders.length c2]
  clear h2 h3 h4 h5 h6 h7 hx
  obtain ⟨q, hq⟩ : ∃ q, greatB m = q := ⟨_, rfl⟩
  have hgr := Lib.hid (great_any _ m q hq _ (Hv.out.ext hE))
  have Hq := Lib.hid hq; clear hq
  obtain ⟨k0, k1, k2⟩ := hM.c3
  go_enter Try.func9, Try.ntmps9
  go_wp2_with fail
  refine hgr.out.mono ?_
  rintro e w1 ⟨rfl, he1⟩
  have hE1 := hE.trans he1
  have hM1 := hM.ext he1
  clear hE hM he1 hgr k0 k1 k2
  have hcase : q = true ∨ q = false ∧ 12 < xs.length ∨ q = false ∧ xs.length ≤ 12 ∧ 8 < xss.length ∨ q = false ∧ xs.length ≤ 12 ∧ xss.length ≤ 8 := by cases q <;> simp <;> omega
  rcases hcase with rfl | ⟨rfl, h12⟩ | ⟨rfl, h12, h8⟩ | ⟨rfl, h12, h8⟩
  · go_wp2_with fail
    refine (awake_any w1).mono ?_
    rintro e w2 ⟨rfl, he2⟩
    have hE2 := hE1.trans he2
    go_wp2_with fail
    go_ret
    exact ⟨rfl, hE2⟩
  · go_wp2_with fail
    refine (awake_any w1).mono ?_
    rintro e w2 ⟨rfl, he2⟩
    have hE2 := hE1.trans he2
    go_wp2_with fail
    go_ret
    exact ⟨rfl, hE2⟩
  · have hd12 : decide (12 < xs.length) = false := by simp; omega
    have hd12' : decide ((12 : Int) < (xs.length : Int)) = false := by simp; omega
    go_wp2_with fail
    refine (awake_any w1).mono ?_
    rintro e w2 ⟨rfl, he2⟩
    have hE2 := hE1.trans he2
    go_wp2_with fail
    go_ret
    exact ⟨rfl, hE2⟩
  · have hgb := great_bounds Hq.out
    have hd12 : decide (12 < xs.length) = false := by simp; omega
    have hd12' : decide ((12 : Int) < (xs.length : Int)) = false := by simp; omega
    have hd8 : decide (8 < xss.length) = false := by simp; omega
    have hd8' : decide ((8 : Int) < (xss.length : Int)) = false := by simp; omega
    go_wp2_with fail
    clear hd12 hd12' hd8 hd8'
    go_loopw [10, 56] (fun _ iv wr => ∃ k : Nat, k ≤ xss.length ∧ iv = .int .i64 k ∧ Hid (∀ j, j < k → (xss[j]?.getD []).length ≤ 12) ∧ w1 = wr) (fun _ iv _ => xss.length - (intOf iv).toNat)
    case atStart => exact ⟨0, by omega, rfl, fun j hj => absurd hj (by omega), rfl⟩
    case round =>
    obtain ⟨k, hk, rfl, hrows, rfl⟩ := hrel
    by_cases hlt : k < xss.length
    · obtain ⟨pb, po, u, e1, q1, LA, lc, rfl, s1, s2, s3⟩ := G4.out k hlt
      subst e1
      have q1' := hE1.cell q1
      obtain ⟨ys, hys⟩ : ∃ ys, xss[k]?.getD [] = ys := ⟨_, rfl⟩
      rw [hys] at q1 q1' s1
      clear s3
      have Hys := Lib.hid hys; clear hys
      by_cases hy : 12 < ys.length
      · go_wp2_with fail
        refine (awake_any w1).mono ?_
        rintro e w2 ⟨rfl, he2⟩
        have hE2 := hE1.trans he2
        go_wp2_with fail
        go_ret
        exact ⟨rfl, hE2⟩
      · have hdy : decide (12 < ys.length) = false := by simp; omega
        have hdy' : decide ((12 : Int) < (ys.length : Int)) = false := by simp; omega
        go_wp2_with fail
        go_roundw
        case rel =>
          refine ⟨k + 1, by omega, by go_num, fun j hj => ?_, by trivial⟩
          by_cases ej : j = k
          · subst ej; rw [Hys.out]; omega
          · exact hrows.out j (by omega)
        case measure => simp [intOf]; omega
    have hke : k = xss.length := by omega
    subst hke
    have Hrow : Hid (∀ j, j < xss.length → (xss[j]?.getD []).length ≤ 12) := hrows
    have Hfl : Hid (xss.flatten.length ≤ 96) := by have := flat_12 xss Hrow.out; unfold Hid; omega
    clear hrows hlt
    go_wp2_with fail
    refine wp_region_stage 10 (by kernel_rfl) (by kernel_rfl) (fun Ld x W => OwnS 1 3 8 9 w1 m Ld x W ∧ (Ld 5 → OwnI W w1.heap.size 3 (x 5) xs) ∧ (Ld 7 → OwnR W w1.heap.size (x 7) xss)) (fun k v => (k = 0 ∨ k = 2 → v = .agg #[.slice A1 m.laced.length c1, .int .i64 m.change, .slice A2 m.orders.length c2]) ∧ (k = 4 → v = .slice A xs.length c) ∧ (k = 6 → v = .slice PA xss.length pc)) (fun x => ⟨OwnS.start 1 3 8 9 w1 m x, fun h => h.elim, fun h => h.elim⟩) ?_ ?_
    · simp only [List.take, AllOps3, fill, Act.put, List.setIfInBounds_toArray, List.set_cons_zero, List.set_cons_succ, Nat.reduceAdd, DepsV, DepsL, List.filter_cons, List.filter_nil, Region.binds, if_true, and_true, Closed]
      refine ⟨?_, ?_, ?_, ?_, ?_, ?_, ?_, ?_, ?_, ?_⟩
      all_goals
        intro Ld x W hS hcl hnl hdl hd K Q hK
        obtain ⟨k0, k1, k2⟩ := (hM1.ext hS.1.ext).c3
        have HK := Lib.hid hK; clear hK hcl hdl hnl
        have HS := Lib.hid hS; clear hS
        have Hd := Lib.hid hd; clear hd
      case refine_2 =>
        have h0 := Hd.out.1 (by simp)
        have hk0 := HK.out; clear HK
        simp only [h0] at hk0 ⊢
        have HK := Lib.hid hk0; clear hk0 h0
        go_wp2_with fail
        refine (own_off _ m w1 W HS.out.1.ext (Hv.out.ext hE1) Hq.out).mono ?_
        rintro e w' ⟨v', rfl, hv', he'⟩
        go_wp2
        exact HK.out _ _ ⟨fun h => absurd h (by decide), fun h => absurd h (by decide), fun h => absurd h (by decide)⟩ ⟨HS.out.1.doOwn he' _ hv' (by decide) (by decide) (by decide), fun h => by rw [upd_ne (by decide)]; exact (HS.out.2.1 (h.resolve_right (by decide))).ext he', fun h => by rw [upd_ne (by decide)]; exact (HS.out.2.2 (h.resolve_right (by decide))).ext he'⟩
      case refine_4 =>
        have h0 := Hd.out.1.1 (by simp)
        have hk0 := HK.out; clear HK
        simp only [h0] at hk0 ⊢
        have HK := Lib.hid hk0; clear hk0 h0
        go_wp2_with fail
        refine (theirs_off _ m w1 W HS.out.1.ext (Hv.out.ext hE1) (by omega)).mono ?_
        rintro e w' ⟨v', rfl, hv', he'⟩
        go_wp2
        exact HK.out _ _ ⟨fun h => absurd h (by decide), fun h => absurd h (by decide), fun h => absurd h (by decide)⟩ ⟨HS.out.1.doRef he' _ hv' (by decide) (by decide) (by decide), fun h => by rw [upd_ne (by decide)]; exact (HS.out.2.1 (h.resolve_right (by decide))).ext he', fun h => by rw [upd_ne (by decide)]; exact (HS.out.2.2 (h.resolve_right (by decide))).ext he'⟩
      case refine_6 =>
        have h0 := Hd.out.1.2.1 (by simp)
        have hk0 := HK.out; clear HK
        simp only [h0] at hk0 ⊢
        have HK := Lib.hid hk0; clear hk0 h0
        go_wp2_with fail
        refine (dupI A c xs W (by omega) (Hx.out.ext (hE1.trans HS.out.1.ext))).mono ?_
        rintro e w' ⟨v', rfl, hv', he'⟩
        go_wp2
        exact HK.out _ _ ⟨fun h => absurd h (by decide), fun h => absurd h (by decide), fun h => absurd h (by decide)⟩ ⟨HS.out.1.pure he' _ _ (by decide), fun _ => by rw [upd_self]; exact hv'.mono HS.out.1.ext.size, fun h => by rw [upd_ne (by decide)]; exact (HS.out.2.2 (h.resolve_right (by decide))).ext he'⟩
      case refine_8 =>
        have h0 := Hd.out.1.2.2 (by simp)
        have hk0 := HK.out; clear HK
        simp only [h0] at hk0 ⊢
        have HK := Lib.hid hk0; clear hk0 h0
        go_wp2_with fail
        refine (dupRows_any _ xss (by omega) (fun j hj => by have := Hrow.out j hj; omega) W (Hp.out.ext (hE1.trans HS.out.1.ext))).mono ?_
        rintro e w' ⟨v', rfl, hv', he'⟩
        go_wp2
        exact HK.out _ _ ⟨fun h => absurd h (by decide), fun h => absurd h (by decide), fun h => absurd h (by decide)⟩ ⟨HS.out.1.pure he' _ _ (by decide), fun h => by rw [upd_ne (by decide)]; exact (HS.out.2.1 (h.resolve_right (by decide))).ext he', fun _ => by rw [upd_self]; exact hv'.mono HS.out.1.ext.size⟩
      case refine_9 =>
        go_wp2_with fail
        exact HK.out _ _ ⟨fun h => absurd h (by decide), fun h => absurd h (by decide), fun h => absurd h (by decide)⟩ ⟨HS.out.1.doC (by decide) (by decide) (by decide), fun h => by rw [upd_ne (by decide)]; exact (HS.out.2.1 (h.resolve_right (by decide))).ext (Ext.alloc _ _), fun h => by rw [upd_ne (by decide)]; exact (HS.out.2.2 (h.resolve_right (by decide))).ext (Ext.alloc _ _)⟩
      case refine_10 =>
        go_wp2_with fail
        exact HK.out _ _ ⟨fun h => absurd h (by decide), fun h => absurd h (by decide), fun h => absurd h (by decide)⟩ ⟨HS.out.1.doD (by decide) (by decide) (by decide), fun h => by rw [upd_ne (by decide)]; exact (HS.out.2.1 (h.resolve_right (by decide))).ext (Ext.alloc _ _), fun h => by rw [upd_ne (by decide)]; exact (HS.out.2.2 (h.resolve_right (by decide))).ext (Ext.alloc _ _)⟩
      all_goals
        go_wp2_with fail
        exact HK.out _ _ ⟨fun h => by first | rfl | exact absurd h (by decide), fun h => by first | rfl | exact absurd h (by decide), fun h => by first | rfl | exact absurd h (by decide)⟩ ⟨HS.out.1.pure (Ext.refl _) _ _ (by decide), fun h => by rw [upd_ne (by decide)]; exact HS.out.2.1 (h.resolve_right (by decide)), fun h => by rw [upd_ne (by decide)]; exact HS.out.2.2 (h.resolve_right (by decide))⟩
    · intro x W hS hR
      obtain ⟨hS, hmi, hmr⟩ := hS
      have hmi := hmi (by decide)
      have hmr := hmr (by decide)
      obtain ⟨g, g', A3, c3, A4, c4, B1, e1, B2, e2, x4, x5, hg, hg', b4, b5, hne, x1, x3, v1, v3⟩ := hS.done (by decide) (by decide) (by decide) (by decide)
      have heW := hS.ext
      simp only [AllV, true_and] at hR
      have x0 := hR.1.1.1.1.1.1.1.1.1.1 (by simp)
      have x2 := hR.1.1.1.1.1.1.1.2.1 (by simp)
      have x4' := hR.1.1.1.1.1.2.2.1 (by simp)
      have x6' := hR.1.1.1.2.2.2 (by simp)
      obtain ⟨Am, cm, x5', m1, m2, _⟩ := hmi.open_
      obtain ⟨qv, x7'⟩ : ∃ qv, x 7 = qv := ⟨_, rfl⟩
      simp only [List.take, List.drop, fill, Act.put, List.setIfInBounds_toArray, List.set_cons_zero, List.set_cons_succ, Nat.reduceAdd, x0, x1, x2, x3, x4, x5, x4', x5', x6', x7']
      rw [x1] at v1
      rw [x3] at v3
      rw [x5'] at hmi
      rw [x7'] at hmr
      clear hR hS x0 x1 x2 x3 x4 x5 x4' x5' x6' x7'
      obtain ⟨u0, u1, u2⟩ := b4.c3
      obtain ⟨y0, y1, y2⟩ := b5.c3
      have f0 := b4.frozen 0; have f1 := b4.frozen 1; have f2 := b4.frozen 2
      have h0 := b5.frozen 0; have h1 := b5.frozen 1; have h2 := b5.frozen 2
      have hne' : g' ≠ g := fun h => hne h.symm
      have V1 := Lib.hid v1; have V3 := Lib.hid v3; clear v1 v3
      have B4 := Lib.hid b4; have B5 := Lib.hid b5; clear b4 b5
      have Hmi := Lib.hid hmi; clear hmi
      have Hmr := Lib.hid hmr; clear hmr
      go_wp2_with fail
      obtain ⟨hE2, bO, bX, vO, vX⟩ := own_stored (.slice A3 m.laced.length c3) (.int .i64 m.change) (.slice A4 m.orders.length c4) (.slice B1 m.laced.length e1) (.int .i64 m.change) (.slice B2 m.orders.length e2) heW hg hg' B4.out B5.out hne V1.out V3.out
      have hmi2 := OwnI.stored (a0 := .slice A3 m.laced.length c3) (a1 := .int .i64 m.change) (a2 := .slice A4 m.orders.length c4) (b0 := .slice B1 m.laced.length e1) (b1 := .int .i64 m.change) (b2 := .slice B2 m.orders.length e2) Hmi.out B4.out B5.out
      have hmr2 := OwnR.stored (a0 := .slice A3 m.laced.length c3) (a1 := .int .i64 m.change) (a2 := .slice A4 m.orders.length c4) (b0 := .slice B1 m.laced.length e1) (b1 := .int .i64 m.change) (b2 := .slice B2 m.orders.length e2) Hmr.out B4.out B5.out
      clear u0 u1 u2 y0 y1 y2 f0 f1 f2 h0 h1 h2 B4 B5 V1 V3 heW Hmi Hmr
      generalize (((((W.setCell _ _).setCell _ _).setCell _ _).setCell _ _).setCell _ _).setCell _ _ = W2 at *
      obtain ⟨Am', cm', em, hmc, hmx, hmi3, _⟩ := hmi2.open_
      injection em with em1 _ em2
      subst em1; subst em2
      have hE3 := hE1.trans hE2
      have hG : Got w m xs xss g g' (.slice A1 m.laced.length c1) (.slice A2 m.orders.length c2) (.slice A3 m.laced.length c3) (.slice A4 m.orders.length c4) (.slice B1 m.laced.length e1) (.slice B2 m.orders.length e2) A Am (.slice PA xss.length pc) qv W2 :=
        ⟨hE3, hM1.ext hE2, bO, bX, Hv.out.ext hE3, vO, vX, Hx.out.ext hE3, hmi3, Hp.out.ext hE3, hmr2.rows⟩
      clear m1 m2 hmi2 hmi3 hmr2 bO bX vO vX hE1 hM1 hE2 hE3 hg hg' hne hne'
      obtain ⟨k0, k1, k2⟩ := hG.bX.c3
      obtain ⟨r, hr⟩ : ∃ r, checkE m = r := ⟨_, rfl⟩
      have hck := Lib.hid (check5_any _ m r hr W2 hG.vX)
      have Hr := Lib.hid hr; clear hr
      go_wp2_with fail
      refine hck.out.mono ?_
      rintro e w3 ⟨rfl, he3⟩
      have hG := hG.to he3
      clear he3 hck k0 k1 k2
      obtain ⟨k0, k1, k2⟩ := hG.bX.c3
      by_cases hr0 : r = 0
      · subst hr0
        obtain ⟨re, hre⟩ : ∃ re, runningE m n xs = re := ⟨_, rfl⟩
        have hrun := Lib.hid (running5_any _ m n A c xs re hre w3 hG.vX hlc hlx hG.x0)
        have Hu : Hid (runE m n xs = re) := by unfold Hid runE; rw [if_pos Hr.out]; exact hre
        have Hre := Lib.hid hre; clear hre
        go_wp2_with fail
        refine hrun.out.mono ?_
        rintro e w4 ⟨rfl, he4⟩
        have hG := hG.to he4
        clear he4 hrun k0 k1 k2
        obtain ⟨k0, k1, k2⟩ := hG.bX.c3
        by_cases hre0 : re = 0
        · subst hre0
          obtain ⟨q1, q2, q3, q4, q5⟩ := runningE_ok Hre.out
          obtain ⟨ln, rfl⟩ : ∃ ln : Nat, n = (ln : Int) := ⟨n.toNat, by omega⟩
          have hr5 := Lib.hid (run5_any _ m Hr.out ln (by omega) A c xs.length xs rfl (by omega) q3 w4 hG.vX hG.x0)
          have HR : Hid (RunIs m (ln : Int) xs 0 (endsF m ln xs xs.length) (chR m ln (rvI xs))) := ⟨Hu.out, by rw [if_pos rfl, Int.toNat_natCast], by rw [if_pos rfl, Int.toNat_natCast]⟩
          obtain ⟨es5, hes5⟩ : ∃ es, endsF m ln xs xs.length = es := ⟨_, rfl⟩
          rw [hes5] at HR hr5
          generalize chR m ln (rvI xs) = ch5 at *
          generalize tmR m ln (rvI xs) = tm5 at *
          clear q3 q4 q5 hes5
          go_wp2_with fail
          refine hr5.out.mono ?_
          rintro e w8 ⟨rv5, rfl, hrv5, he8⟩
          have hG := hG.to he8
          obtain ⟨A5, c5, rfl, _, _, hI5, _⟩ := hrv5.open_
          have He := Lib.hid hI5
          clear he8 hr5 hrv5 hI5 k0 k1 k2
          obtain ⟨k0, k1, k2⟩ := hG.bX.c3
          obtain ⟨pu, hpu⟩ : ∃ pu, plE m xss = pu := ⟨_, rfl⟩
          have hpl := Lib.hid (planned5_any _ _ m Hr.out xss pu hpu (by have := Hfl.out; omega) (by omega) w8 hG.vX hG.p0)
          have Hpu := Lib.hid hpu; clear hpu
          go_wp2_with fail
          refine hpl.out.mono ?_
          rintro e w5 ⟨rfl, he5⟩
          have hG := hG.to he5
          have He := Lib.hid (He.out.ext he5)
          clear he5 hpl k0 k1 k2
          by_cases hp0 : pu = 0
          · subst hp0
            obtain ⟨_, hxl, hli, _⟩ := plE_ok Hpu.out
            have Hrange := Lib.hid (inB_range (listedE_ok hli).1)
            have Hxl := Lib.hid hxl
            clear hli hxl
            obtain ⟨l1, l2, l3⟩ := check_len Hr.out
            obtain ⟨wL, hwL⟩ : ∃ wL, wL = w5 := ⟨_, rfl⟩
            rw [← hwL] at hG He ⊢
            clear hwL
            obtain ⟨k0, k1, k2⟩ := hG.bM.c3
            go_wp2_with fail
            go_loopw [19, 101] (fun av iv wr => ∃ k : Nat, k ≤ m.orders.length ∧ iv = .int .i64 k ∧ Ext wL wr ∧ Hid (OwnI wr wL.heap.size 3 av (lst (fun _ => -1) k))) (fun _ iv _ => m.orders.length - (intOf iv).toNat)
            case atStart => exact ⟨0, by omega, rfl, Ext.refl _, OwnI.nil _ _ _⟩
            case round =>
              clear k0 k1 k2
              obtain ⟨k, hk, rfl, he, ho⟩ := hrel
              by_cases hlt : k < m.orders.length
              · obtain ⟨BB, cB, rfl, oo1, oo2, oo3, oo4, oo5⟩ := ho.out.open_
                have hlen := lst_len (fun _ => -1) k
                rw [hlen] at oo1 ho ⊢
                have HL := Lib.hid hlen; clear hlen
                have O4 := Lib.hid oo4; clear oo3 oo4 oo5
                have hszE := he.size
                go_wp2_with (at_builtin; refine wpList_app rfl _ _ 22 rfl wL.heap.size 3 ti (.int .i64 0) 1 8 Try.underlying22 hi hz0 hz1 hz2 rfl (by decide) _ _ _ rfl (ownsRow_alloc_of HL.out ho.out) (some ⟨wr.heap.size, 0, none⟩) 1 1 [.int .i64 (-1)] rfl rfl (Src.one _ _ _) ?c2 ?c3 ?c4 ?c5 ?_; (case c2 => (intro u hu; simp at hu; subst hu; rfl)); (case c3 => (unfold maxLen; omega)); (case c4 => omega); (case c5 => (simp; omega)); intro v' w' hown' hg hblk)
                go_roundw
                case rel =>
                  have hge := own_ge O4.out (L := k) (c := cB)
                  refine ⟨k + 1, by omega, by go_num, ext_grown he hg (fun j hj => by have := hge j hj; omega), ?_⟩
                  unfold Hid
                  rw [lst_succ]
                  unfold OwnI
                  rw [List.map_append, List.length_append, HL.out]
                  exact hown'
                case measure => simp [intOf]; omega
              · obtain rfl : k = m.orders.length := by omega
                obtain ⟨av, hav0⟩ : ∃ av, av = u19 := ⟨_, rfl⟩
                rw [← hav0] at ho ⊢
                clear hav0
                go_wp2_with fail
                go_loopw [21, 22, 23, 24, 25, 26, 27, 28, 29, 109] (fun sv kv _ _ _ _ _ _ _ iv wr => ∃ (k : Nat) (s : Int) (q : Bool), k ≤ xss.length ∧ iv = .int .i64 k ∧ sv = .int .i64 s ∧ kv = .bool q ∧ (0 ≤ s ∧ s ≤ 100 * k) ∧ Hid (chgF m xss k = s) ∧ Hid (tmU m xss k = q) ∧ Ext wL wr ∧ Hid (OwnI wr wL.heap.size 3 av (lst (endsUp m xss k) m.orders.length))) (fun _ _ _ _ _ _ _ _ _ iv _ => xss.length - (intOf iv).toNat)
                case atStart => exact ⟨0, 0, true, by omega, rfl, rfl, rfl, by omega, rfl, rfl, he, ho⟩
                case round =>
                  clear he ho
                  obtain ⟨k, s, q, hk, rfl, rfl, rfl, hsb, hs, hq, he, ho⟩ := hrel
                  by_cases hltk : k < xss.length
                  · obtain ⟨k0, k1, k2⟩ := (hG.bX.ext he).c3
                    obtain ⟨pb, po, u, e1, q1, hsl⟩ := G4.out k hltk
                    subst e1
                    have q1' := (hG.ext.trans he).cell q1
                    obtain ⟨LA, lc, rfl, s1, s2, s3⟩ := hsl
                    have hst : Hid (chgF m xss (k + 1) = s + chR m k (rvI (xss[k]?.getD []))) := by unfold Hid; rw [chgF, hs.out]
                    have hbd := chgF_bd m xss (fun j hj => by have := Hrow.out j hj; omega) (k + 1) (by omega)
                    rw [hst.out] at hbd
                    have hstE : Hid (endsUp m xss (k + 1) = setJ (endsUp m xss k) (xss[k]?.getD []) (endsF m k (xss[k]?.getD []) (xss[k]?.getD []).length) (xss[k]?.getD []).length) := rfl
                    have hstT : Hid (tmU m xss (k + 1) = (q && tmR m k (rvI (xss[k]?.getD [])))) := by unfold Hid; rw [tmU, hq.out]
                    have Hmem : Hid (∀ x, x ∈ xss[k]?.getD [] → 0 ≤ x ∧ x < m.orders.length) := fun x hx => Hrange.out x (mem_flat hltk hx)
                    have hyl := Hrow.out k hltk
                    have hran := Lib.hid (run5_any _ m Hr.out k (by have := Hxl.out; omega) LA lc (xss[k]?.getD []).length (xss[k]?.getD []) rfl (by omega) Hmem.out wr (hG.vX.ext he) (s3.ext (hG.ext.trans he)))
                    have S3 := Lib.hid (s3.ext hG.ext); clear s3
                    generalize (xss[k]?.getD []) = ys at *
                    obtain ⟨es, hes⟩ : ∃ es, endsF m k ys ys.length = es := ⟨_, rfl⟩
                    have hesl : es.length = ys.length := by rw [← hes, endsF_len]
                    rw [hes] at hran hstE
                    have Hes := Lib.hid hes; clear hes
                    have Hesl := Lib.hid hesl; clear hesl
                    generalize chR m k (rvI ys) = cc at *
                    generalize tmR m k (rvI ys) = tq at *
                    have hAo : Hid (∀ b, av.ownBlock = some b → b < wr.heap.size) := fun b hb => (ho.out.own_lt b hb).2
                    obtain ⟨wo, hwo⟩ : ∃ wo, wo = wr := ⟨_, rfl⟩
                    rw [← hwo] at he ho hran hAo k0 k1 k2 q1' ⊢
                    clear hwo
                    go_wp2_with fail
                    refine hran.out.mono ?_
                    rintro e w4 ⟨rr, rfl, hrr, he4⟩
                    have hE4 := he.trans he4
                    have hA4 : Hid (OwnI w4 wL.heap.size 3 av (lst (endsUp m xss k) m.orders.length)) := ho.out.ext he4
                    have Hrr := Lib.hid hrr
                    obtain ⟨Ar, cr, rfl, _⟩ := hrr.open_
                    clear he he4 ho hran hrr q1'
                    cases q with
                    | true =>
                      have hstT2 : Hid (tmU m xss (k + 1) = tq) := by unfold Hid; rw [hstT.out]; rfl
                      go_wp2_with fail
                      clear k0 k1 k2
                      go_loopw [28, 29, 131] (fun _ _ jv w2 => ∃ j : Nat, j ≤ ys.length ∧ jv = .int .i64 j ∧ Ext wL w2 ∧ Hid (OwnI w2 wL.heap.size 3 av (lst (setJ (endsUp m xss k) ys es j) m.orders.length)) ∧ Hid (OwnI w2 wo.heap.size 3 (.slice Ar es.length cr) es)) (fun _ _ jv _ => ys.length - (intOf jv).toNat)
                      case atStart => exact ⟨0, by omega, rfl, hE4, hA4, Hrr⟩
                      case round =>
                        clear hE4 hA4 Hrr
                        obtain ⟨j, hj, rfl, heJ, hRJ, hrJ⟩ := hrel
                        by_cases hltj : j < ys.length
                        · obtain ⟨bb, oo, rfl, cy⟩ := S3.out.ext heJ j hltj
                          obtain ⟨ko, hko1, hko2⟩ : ∃ ko : Nat, ys[j]?.getD 0 = (ko : Int) ∧ ko < m.orders.length := by
                            have h1 := Hmem.out (ys[j]?.getD 0) (by simp [hltj])
                            exact ⟨(ys[j]?.getD 0).toNat, by omega, by omega⟩
                          rw [hko1] at cy
                          obtain ⟨Ae, ce, ee, _, _, ho3, _⟩ := hrJ.out.open_
                          injection ee with ee1 _ ee2
                          subst ee1; subst ee2
                          obtain ⟨be, oe, rfl, ce'⟩ := ho3 j (by rw [Hesl.out]; exact hltj)
                          obtain ⟨ev, hev⟩ : ∃ ev, es[j]?.getD 0 = ev := ⟨_, rfl⟩
                          rw [hev] at ce'
                          obtain ⟨S, ca, uo, hav, hS1, hS2, hrc, hrf, hRN0⟩ := hRJ.out.setF hko2 ev
                          have hRN : Hid (OwnI (wr.setCell ⟨S, ko, none⟩ (.int .i64 ev)) wL.heap.size 3 av (lst (setJ (endsUp m xss k) ys es (j + 1)) m.orders.length)) := by
                            unfold Hid
                            have e1 : (fun j' => if j' = ko then ev else setJ (endsUp m xss k) ys es j j') = setJ (endsUp m xss k) ys es (j + 1) := by
                              funext q
                              show (if q = ko then ev else _) = if q = (ys[j]?.getD 0).toNat then es[j]?.getD 0 else _
                              rw [hko1, hev, Int.toNat_natCast]
                            rw [← e1]
                            exact hRN0
                          have hEN := Lib.hid (Below.setCell heJ (p := ⟨S, ko, none⟩) (by show _ ≤ S; omega) (.int .i64 ev))
                          have hSo : S < wo.heap.size := (hAo.out S (by rw [hav]; rfl))
                          have hrN := Lib.hid (hrJ.out.apart (b := S) (fun h => by have := (hrJ.out.own_lt S h).1; omega) ((Apart.refl S wr).set_ ko (.int .i64 ev)))
                          have hel : j < es.length := by rw [Hesl.out]; exact hltj
                          clear hko1 hev ho3 hRJ hrJ heJ hRN0
                          subst hav
                          go_wp2_with fail
                          go_roundw
                          case rel => exact ⟨j + 1, by omega, by go_num, hEN.out, hRN, hrN⟩
                          case measure => simp [intOf]; omega
                        · obtain rfl : j = ys.length := by omega
                          go_wp2_with fail
                          go_roundw
                          case rel => exact ⟨k + 1, s + cc, tq, by omega, by go_num, by first | rfl | go_num, rfl, hbd, hst, hstT2, heJ, by unfold Hid; rw [hstE.out]; exact hRJ.out⟩
                          case measure => simp [intOf]; omega
                    | false =>
                      have hstT2 : Hid (tmU m xss (k + 1) = false) := by unfold Hid; rw [hstT.out]; rfl
                      go_wp2_with fail
                      clear k0 k1 k2
                      go_loopw [28, 29, 131] (fun _ _ jv w2 => ∃ j : Nat, j ≤ ys.length ∧ jv = .int .i64 j ∧ Ext wL w2 ∧ Hid (OwnI w2 wL.heap.size 3 av (lst (setJ (endsUp m xss k) ys es j) m.orders.length)) ∧ Hid (OwnI w2 wo.heap.size 3 (.slice Ar es.length cr) es)) (fun _ _ jv _ => ys.length - (intOf jv).toNat)
                      case atStart => exact ⟨0, by omega, rfl, hE4, hA4, Hrr⟩
                      case round =>
                        clear hE4 hA4 Hrr
                        obtain ⟨j, hj, rfl, heJ, hRJ, hrJ⟩ := hrel
                        by_cases hltj : j < ys.length
                        · obtain ⟨bb, oo, rfl, cy⟩ := S3.out.ext heJ j hltj
                          obtain ⟨ko, hko1, hko2⟩ : ∃ ko : Nat, ys[j]?.getD 0 = (ko : Int) ∧ ko < m.orders.length := by
                            have h1 := Hmem.out (ys[j]?.getD 0) (by simp [hltj])
                            exact ⟨(ys[j]?.getD 0).toNat, by omega, by omega⟩
                          rw [hko1] at cy
                          obtain ⟨Ae, ce, ee, _, _, ho3, _⟩ := hrJ.out.open_
                          injection ee with ee1 _ ee2
                          subst ee1; subst ee2
                          obtain ⟨be, oe, rfl, ce'⟩ := ho3 j (by rw [Hesl.out]; exact hltj)
                          obtain ⟨ev, hev⟩ : ∃ ev, es[j]?.getD 0 = ev := ⟨_, rfl⟩
                          rw [hev] at ce'
                          obtain ⟨S, ca, uo, hav, hS1, hS2, hrc, hrf, hRN0⟩ := hRJ.out.setF hko2 ev
                          have hRN : Hid (OwnI (wr.setCell ⟨S, ko, none⟩ (.int .i64 ev)) wL.heap.size 3 av (lst (setJ (endsUp m xss k) ys es (j + 1)) m.orders.length)) := by
                            unfold Hid
                            have e1 : (fun j' => if j' = ko then ev else setJ (endsUp m xss k) ys es j j') = setJ (endsUp m xss k) ys es (j + 1) := by
                              funext q
                              show (if q = ko then ev else _) = if q = (ys[j]?.getD 0).toNat then es[j]?.getD 0 else _
                              rw [hko1, hev, Int.toNat_natCast]
                            rw [← e1]
                            exact hRN0
                          have hEN := Lib.hid (Below.setCell heJ (p := ⟨S, ko, none⟩) (by show _ ≤ S; omega) (.int .i64 ev))
                          have hSo : S < wo.heap.size := (hAo.out S (by rw [hav]; rfl))
                          have hrN := Lib.hid (hrJ.out.apart (b := S) (fun h => by have := (hrJ.out.own_lt S h).1; omega) ((Apart.refl S wr).set_ ko (.int .i64 ev)))
                          have hel : j < es.length := by rw [Hesl.out]; exact hltj
                          clear hko1 hev ho3 hRJ hrJ heJ hRN0
                          subst hav
                          go_wp2_with fail
                          go_roundw
                          case rel => exact ⟨j + 1, by omega, by go_num, hEN.out, hRN, hrN⟩
                          case measure => simp [intOf]; omega
                        · obtain rfl : j = ys.length := by omega
                          go_wp2_with fail
                          go_roundw
                          case rel => exact ⟨k + 1, s + cc, false, by omega, by go_num, by first | rfl | go_num, rfl, hbd, hst, hstT2, heJ, by unfold Hid; rw [hstE.out]; exact hRJ.out⟩
                          case measure => simp [intOf]; omega
                  · obtain rfl : k = xss.length := by omega
                    obtain ⟨AA, ca, rfl, aa1, aa2, aa3, _, _⟩ := ho.out.open_
                    have Hall := Lib.hid aa3; clear aa3
                    have hll := lst_len (endsUp m xss xss.length) m.orders.length
                    have HLL := Lib.hid hll
                    rw [hll] at aa1
                    simp only [hll]
                    clear hll
                    go_wp2_with fail
                    go_loopw [22, 31, 147] (fun kv _ iv wr2 => ∃ (j : Nat) (q2 : Bool), j ≤ m.orders.length ∧ iv = .int .i64 j ∧ kv = .bool q2 ∧ Hid (allSet (endsUp m xss xss.length) q j = q2) ∧ wr = wr2) (fun _ _ iv _ => m.orders.length - (intOf iv).toNat)
                    case atStart => exact ⟨0, q, by omega, rfl, rfl, rfl, rfl⟩
                    case round =>
                      obtain ⟨j, q2, hj, rfl, rfl, hq2, rfl⟩ := hrel
                      by_cases hltj : j < m.orders.length
                      · obtain ⟨bb, oo, rfl, cy⟩ := Hall.out j (by rw [HLL.out]; exact hltj)
                        rw [lst_get _ hltj] at cy
                        have hst : Hid (allSet (endsUp m xss xss.length) q (j + 1) = (q2 && !decide (endsUp m xss xss.length j = -1))) := by unfold Hid; rw [allSet, hq2.out]
                        generalize endsUp m xss xss.length j = ev at *
                        cases q2 with
                        | false =>
                          have hst2 : Hid (allSet (endsUp m xss xss.length) q (j + 1) = false) := by unfold Hid; rw [hst.out]; rfl
                          go_wp2_with fail
                          go_roundw
                          case rel => exact ⟨j + 1, false, by omega, by go_num, rfl, hst2, by trivial⟩
                          case measure => simp [intOf]; omega
                        | true =>
                          by_cases hev : ev = -1
                          · subst hev
                            have hst2 : Hid (allSet (endsUp m xss xss.length) q (j + 1) = false) := by unfold Hid; rw [hst.out]; rfl
                            go_wp2_with fail
                            go_roundw
                            case rel => exact ⟨j + 1, false, by omega, by go_num, by first | rfl | simp, hst2, by trivial⟩
                            case measure => simp [intOf]; omega
                          · have hdv : (ev != -1) = true := by simpa using hev
                            have hst2 : Hid (allSet (endsUp m xss xss.length) q (j + 1) = true) := by unfold Hid; rw [hst.out]; simp [hev]
                            clear hev
                            go_wp2_with fail
                            go_roundw
                            case rel => exact ⟨j + 1, true, by omega, by go_num, by first | rfl | simp [hdv], hst2, by trivial⟩
                            case measure => simp [intOf]; omega
                      · obtain rfl : j = m.orders.length := by omega
                        have HP : Hid (PlanIs m xss 0 (lst (endsUp m xss xss.length) m.orders.length) s q2) := ⟨Hpu.out, rfl, hs.out, by rw [if_pos rfl, ← keeps_law Hpu.out, hq.out]; exact hq2.out⟩
                        have Ha := Hall
                        have hlq : (lst (endsUp m xss xss.length) m.orders.length).length = m.orders.length := HLL.out
                        obtain ⟨al, hal⟩ : ∃ al, lst (endsUp m xss xss.length) m.orders.length = al := ⟨_, rfl⟩
                        rw [hal] at HP Ha hlq
                        rw [← hlq]
                        have hG := hG.to he
                        have He := Lib.hid (He.out.ext he)
                        clear hal hq hq2 hs Hall HLL hlq he ho
                        obtain ⟨k0, k1, k2⟩ := hG.bO.c3
                        have Hr1 := Lib.hid (runTop_to _ m (ln : Int) Am cm xs 0 _ _ HR.out wr hG.vO hmc hmx (by omega) hG.x1)
                        go_wp2_with fail
                        refine Hr1.out.mono ?_
                        rintro e wa ⟨ra, rfl, hra, hea⟩
                        have hGa := hG.to hea
                        have He1 := Lib.hid (He.out.ext hea); have Ha1 := Lib.hid (Ha.out.ext hea)
                        have Hra := Lib.hid hra
                        clear hG hea He Ha hra Hr1 k0 k1 k2
                        obtain ⟨k0, k1, k2⟩ := hGa.bO.c3
                        have Hr1 := Lib.hid (ends_to _ qv m xss 0 _ _ _ HP.out (by have := Hfl.out; omega) (by omega) wa hGa.vO hGa.p1)
                        go_wp2_with fail
                        refine Hr1.out.mono ?_
                        rintro e wb ⟨rb, rfl, hrb, heb⟩
                        have hGb := hGa.to heb
                        have He2 := Lib.hid (He1.out.ext heb); have Ha2 := Lib.hid (Ha1.out.ext heb)
                        have Hra2 := Lib.hid (Hra.out.ext heb); have Hrb2 := Lib.hid hrb
                        clear hGa heb He1 Ha1 Hra hrb Hr1 k0 k1 k2
                        obtain ⟨k0, k1, k2⟩ := hGb.bO.c3
                        have Hr1 := Lib.hid (changes_to _ qv m xss 0 _ _ _ HP.out (by have := Hfl.out; omega) (by omega) wb hGb.vO hGb.p1)
                        go_wp2_with fail
                        refine Hr1.out.mono ?_
                        rintro e wc ⟨rfl, hec⟩
                        have hGc := hGb.to hec
                        have He3 := Lib.hid (He2.out.ext hec); have Ha3 := Lib.hid (Ha2.out.ext hec)
                        have Hra3 := Lib.hid (Hra2.out.ext hec); have Hrb3 := Lib.hid (Hrb2.out.ext hec)
                        clear hGb hec He2 Ha2 Hra2 Hrb2 Hr1 k0 k1 k2
                        obtain ⟨k0, k1, k2⟩ := hGc.bO.c3
                        have Hr1 := Lib.hid (keeps_to _ qv m xss 0 _ _ _ HP.out (by have := Hfl.out; omega) (by omega) wc hGc.vO hGc.p1)
                        go_wp2_with fail
                        refine Hr1.out.mono ?_
                        rintro e wd ⟨rfl, hed⟩
                        have hGd := hGc.to hed
                        have He4 := Lib.hid (He3.out.ext hed); have Ha4 := Lib.hid (Ha3.out.ext hed)
                        have hra4 := Hra3.out.ext hed; have Hrb4 := Lib.hid (Hrb3.out.ext hed)
                        clear hGc hed He3 Ha3 Hra3 Hrb3 Hr1 k0 k1 k2
                        obtain ⟨Ab, cb, rfl, b1, b2, b3⟩ := hra4
                        have heq := Lib.hid (eqI Ab A5 cb c5 es5 es5 true (by simp) wd (Nat.le_trans b1 b2) b3 He4.out)
                        clear b3 He4
                        go_wp2_with fail
                        refine heq.out.mono ?_
                        rintro e we ⟨rfl, hee⟩
                        have hGe := hGd.to hee
                        have Ha5 := Lib.hid (Ha4.out.ext hee)
                        obtain ⟨Ac, cc2, rfl, d1, d2, d3⟩ := Hrb4.out.ext hee
                        clear hGd hee Ha4 Hrb4 heq
                        have heq := Lib.hid (eqI Ac AA cc2 ca al al true (by simp) we (Nat.le_trans d1 d2) d3 Ha5.out)
                        clear d3 Ha5
                        go_wp2_with fail
                        refine heq.out.mono ?_
                        rintro e wf ⟨rfl, hef⟩
                        have hGf := hGe.to hef
                        clear hGe hef heq
                        have hsm := Lib.hid (same_any _ _ m m true (by simp) wf hGf.vO hGf.vM)
                        obtain ⟨k0, k1, k2⟩ := hGf.bO.c3
                        obtain ⟨j0, j1, j2⟩ := hGf.bM.c3
                        go_wp2_with fail
                        refine hsm.out.mono ?_
                        rintro e wg ⟨rfl, heg⟩
                        have hGg := hGf.to heg
                        have heq := Lib.hid (eqI Am A cm c xs xs true (by simp) wg (Nat.le_trans hmc hmx) hGg.x1 hGg.x0)
                        clear hGf heg hsm k0 k1 k2 j0 j1 j2
                        go_wp2_with fail
                        refine heq.out.mono ?_
                        rintro e wh ⟨rfl, heh⟩
                        have hGh := hGg.to heh
                        have heq2 := Lib.hid (eqRows_any qv _ xss xss true (by simp) wh hGh.p1 hGh.p0)
                        clear hGg heh heq
                        go_wp2_with fail
                        refine heq2.out.mono ?_
                        rintro e wi ⟨rfl, hei⟩
                        have hGi := hGh.to hei
                        clear hGh hei heq2
                        go_wp2_with fail
                        refine (awake_any wi).mono ?_
                        rintro e wj ⟨rfl, hej⟩
                        have hGj := hGi.to hej
                        go_wp2_with fail
                        go_ret
                        exact ⟨rfl, hGj.ext⟩
          · have hdp : (pu == 0) = false := by simpa using hp0
            have HP : Hid (PlanIs m xss pu [] 0 false) := ⟨Hpu.out, if_neg hp0, if_neg hp0, if_neg hp0⟩
            have Ha : Hid (IntsAt w5 none []) := fun k hk => by cases hk
            have k0 := hp0; have k1 := hp0; have k2 := hp0
            clear hp0
            clear k0 k1 k2
            obtain ⟨k0, k1, k2⟩ := hG.bO.c3
            clear k0 k1 k2
            obtain ⟨k0, k1, k2⟩ := hG.bO.c3
            have Hr1 := Lib.hid (runTop_to _ m (ln : Int) Am cm xs 0 _ _ HR.out w5 hG.vO hmc hmx (by omega) hG.x1)
            go_wp2_with fail
            refine Hr1.out.mono ?_
            rintro e wa ⟨ra, rfl, hra, hea⟩
            have hGa := hG.to hea
            have He1 := Lib.hid (He.out.ext hea); have Ha1 := Lib.hid (Ha.out.ext hea)
            have Hra := Lib.hid hra
            clear hG hea He Ha hra Hr1 k0 k1 k2
            obtain ⟨k0, k1, k2⟩ := hGa.bO.c3
            have Hr1 := Lib.hid (ends_to _ qv m xss pu _ _ _ HP.out (by have := Hfl.out; omega) (by omega) wa hGa.vO hGa.p1)
            go_wp2_with fail
            refine Hr1.out.mono ?_
            rintro e wb ⟨rb, rfl, hrb, heb⟩
            have hGb := hGa.to heb
            have He2 := Lib.hid (He1.out.ext heb); have Ha2 := Lib.hid (Ha1.out.ext heb)
            have Hra2 := Lib.hid (Hra.out.ext heb); have Hrb2 := Lib.hid hrb
            clear hGa heb He1 Ha1 Hra hrb Hr1 k0 k1 k2
            obtain ⟨k0, k1, k2⟩ := hGb.bO.c3
            have Hr1 := Lib.hid (changes_to _ qv m xss pu _ _ _ HP.out (by have := Hfl.out; omega) (by omega) wb hGb.vO hGb.p1)
            go_wp2_with fail
            refine Hr1.out.mono ?_
            rintro e wc ⟨rfl, hec⟩
            have hGc := hGb.to hec
            have He3 := Lib.hid (He2.out.ext hec); have Ha3 := Lib.hid (Ha2.out.ext hec)
            have Hra3 := Lib.hid (Hra2.out.ext hec); have Hrb3 := Lib.hid (Hrb2.out.ext hec)
            clear hGb hec He2 Ha2 Hra2 Hrb2 Hr1 k0 k1 k2
            obtain ⟨k0, k1, k2⟩ := hGc.bO.c3
            have Hr1 := Lib.hid (keeps_to _ qv m xss pu _ _ _ HP.out (by have := Hfl.out; omega) (by omega) wc hGc.vO hGc.p1)
            go_wp2_with fail
            refine Hr1.out.mono ?_
            rintro e wd ⟨rfl, hed⟩
            have hGd := hGc.to hed
            have He4 := Lib.hid (He3.out.ext hed); have Ha4 := Lib.hid (Ha3.out.ext hed)
            have hra4 := Hra3.out.ext hed; have Hrb4 := Lib.hid (Hrb3.out.ext hed)
            clear hGc hed He3 Ha3 Hra3 Hrb3 Hr1 k0 k1 k2
            obtain ⟨Ab, cb, rfl, b1, b2, b3⟩ := hra4
            have heq := Lib.hid (eqI Ab A5 cb c5 es5 es5 true (by simp) wd (Nat.le_trans b1 b2) b3 He4.out)
            clear b3 He4
            go_wp2_with fail
            refine heq.out.mono ?_
            rintro e we ⟨rfl, hee⟩
            have hGe := hGd.to hee
            have Ha5 := Lib.hid (Ha4.out.ext hee)
            obtain ⟨Ac, cc2, rfl, d1, d2, d3⟩ := Hrb4.out.ext hee
            clear hGd hee Ha4 Hrb4 heq
            have heq := Lib.hid (eqI Ac none cc2 0 [] [] true (by simp) we (Nat.le_trans d1 d2) d3 Ha5.out)
            clear d3 Ha5
            go_wp2_with fail
            refine heq.out.mono ?_
            rintro e wf ⟨rfl, hef⟩
            have hGf := hGe.to hef
            clear hGe hef heq
            have hsm := Lib.hid (same_any _ _ m m true (by simp) wf hGf.vO hGf.vM)
            obtain ⟨k0, k1, k2⟩ := hGf.bO.c3
            obtain ⟨j0, j1, j2⟩ := hGf.bM.c3
            go_wp2_with fail
            refine hsm.out.mono ?_
            rintro e wg ⟨rfl, heg⟩
            have hGg := hGf.to heg
            have heq := Lib.hid (eqI Am A cm c xs xs true (by simp) wg (Nat.le_trans hmc hmx) hGg.x1 hGg.x0)
            clear hGf heg hsm k0 k1 k2 j0 j1 j2
            go_wp2_with fail
            refine heq.out.mono ?_
            rintro e wh ⟨rfl, heh⟩
            have hGh := hGg.to heh
            have heq2 := Lib.hid (eqRows_any qv _ xss xss true (by simp) wh hGh.p1 hGh.p0)
            clear hGg heh heq
            go_wp2_with fail
            refine heq2.out.mono ?_
            rintro e wi ⟨rfl, hei⟩
            have hGi := hGh.to hei
            clear hGh hei heq2
            go_wp2_with fail
            refine (awake_any wi).mono ?_
            rintro e wj ⟨rfl, hej⟩
            have hGj := hGi.to hej
            go_wp2_with fail
            go_ret
            exact ⟨rfl, hGj.ext⟩
        · have hdr : (re == 0) = false := by simpa using hre0
          have HR : Hid (RunIs m n xs re [] 0) := ⟨Hu.out, if_neg hre0, if_neg hre0⟩
          have He : Hid (IntsAt w4 none []) := fun k hk => by cases hk
          clear hre0 k0 k1 k2
          obtain ⟨k0, k1, k2⟩ := hG.bX.c3
          obtain ⟨pu, hpu⟩ : ∃ pu, plE m xss = pu := ⟨_, rfl⟩
          have hpl := Lib.hid (planned5_any _ _ m Hr.out xss pu hpu (by have := Hfl.out; omega) (by omega) w4 hG.vX hG.p0)
          have Hpu := Lib.hid hpu; clear hpu
          go_wp2_with fail
          refine hpl.out.mono ?_
          rintro e w5 ⟨rfl, he5⟩
          have hG := hG.to he5
          have He := Lib.hid (He.out.ext he5)
          clear he5 hpl k0 k1 k2
          by_cases hp0 : pu = 0
          · subst hp0
            obtain ⟨_, hxl, hli, _⟩ := plE_ok Hpu.out
            have Hrange := Lib.hid (inB_range (listedE_ok hli).1)
            have Hxl := Lib.hid hxl
            clear hli hxl
            obtain ⟨l1, l2, l3⟩ := check_len Hr.out
            obtain ⟨wL, hwL⟩ : ∃ wL, wL = w5 := ⟨_, rfl⟩
            rw [← hwL] at hG He ⊢
            clear hwL
            obtain ⟨k0, k1, k2⟩ := hG.bM.c3
            go_wp2_with fail
            go_loopw [19, 101] (fun av iv wr => ∃ k : Nat, k ≤ m.orders.length ∧ iv = .int .i64 k ∧ Ext wL wr ∧ Hid (OwnI wr wL.heap.size 3 av (lst (fun _ => -1) k))) (fun _ iv _ => m.orders.length - (intOf iv).toNat)
            case atStart => exact ⟨0, by omega, rfl, Ext.refl _, OwnI.nil _ _ _⟩
            case round =>
              clear k0 k1 k2
              obtain ⟨k, hk, rfl, he, ho⟩ := hrel
              by_cases hlt : k < m.orders.length
              · obtain ⟨BB, cB, rfl, oo1, oo2, oo3, oo4, oo5⟩ := ho.out.open_
                have hlen := lst_len (fun _ => -1) k
                rw [hlen] at oo1 ho ⊢
                have HL := Lib.hid hlen; clear hlen
                have O4 := Lib.hid oo4; clear oo3 oo4 oo5
                have hszE := he.size
                go_wp2_with (at_builtin; refine wpList_app rfl _ _ 22 rfl wL.heap.size 3 ti (.int .i64 0) 1 8 Try.underlying22 hi hz0 hz1 hz2 rfl (by decide) _ _ _ rfl (ownsRow_alloc_of HL.out ho.out) (some ⟨wr.heap.size, 0, none⟩) 1 1 [.int .i64 (-1)] rfl rfl (Src.one _ _ _) ?c2 ?c3 ?c4 ?c5 ?_; (case c2 => (intro u hu; simp at hu; subst hu; rfl)); (case c3 => (unfold maxLen; omega)); (case c4 => omega); (case c5 => (simp; omega)); intro v' w' hown' hg hblk)
                go_roundw
                case rel =>
                  have hge := own_ge O4.out (L := k) (c := cB)
                  refine ⟨k + 1, by omega, by go_num, ext_grown he hg (fun j hj => by have := hge j hj; omega), ?_⟩
                  unfold Hid
                  rw [lst_succ]
                  unfold OwnI
                  rw [List.map_append, List.length_append, HL.out]
                  exact hown'
                case measure => simp [intOf]; omega
              · obtain rfl : k = m.orders.length := by omega
                obtain ⟨av, hav0⟩ : ∃ av, av = u19 := ⟨_, rfl⟩
                rw [← hav0] at ho ⊢
                clear hav0
                go_wp2_with fail
                go_loopw [21, 22, 23, 24, 25, 26, 27, 28, 29, 109] (fun sv kv _ _ _ _ _ _ _ iv wr => ∃ (k : Nat) (s : Int) (q : Bool), k ≤ xss.length ∧ iv = .int .i64 k ∧ sv = .int .i64 s ∧ kv = .bool q ∧ (0 ≤ s ∧ s ≤ 100 * k) ∧ Hid (chgF m xss k = s) ∧ Hid (tmU m xss k = q) ∧ Ext wL wr ∧ Hid (OwnI wr wL.heap.size 3 av (lst (endsUp m xss k) m.orders.length))) (fun _ _ _ _ _ _ _ _ _ iv _ => xss.length - (intOf iv).toNat)
                case atStart => exact ⟨0, 0, true, by omega, rfl, rfl, rfl, by omega, rfl, rfl, he, ho⟩
                case round =>
                  clear he ho
                  obtain ⟨k, s, q, hk, rfl, rfl, rfl, hsb, hs, hq, he, ho⟩ := hrel
                  by_cases hltk : k < xss.length
                  · obtain ⟨k0, k1, k2⟩ := (hG.bX.ext he).c3
                    obtain ⟨pb, po, u, e1, q1, hsl⟩ := G4.out k hltk
                    subst e1
                    have q1' := (hG.ext.trans he).cell q1
                    obtain ⟨LA, lc, rfl, s1, s2, s3⟩ := hsl
                    have hst : Hid (chgF m xss (k + 1) = s + chR m k (rvI (xss[k]?.getD []))) := by unfold Hid; rw [chgF, hs.out]
                    have hbd := chgF_bd m xss (fun j hj => by have := Hrow.out j hj; omega) (k + 1) (by omega)
                    rw [hst.out] at hbd
                    have hstE : Hid (endsUp m xss (k + 1) = setJ (endsUp m xss k) (xss[k]?.getD []) (endsF m k (xss[k]?.getD []) (xss[k]?.getD []).length) (xss[k]?.getD []).length) := rfl
                    have hstT : Hid (tmU m xss (k + 1) = (q && tmR m k (rvI (xss[k]?.getD [])))) := by unfold Hid; rw [tmU, hq.out]
                    have Hmem : Hid (∀ x, x ∈ xss[k]?.getD [] → 0 ≤ x ∧ x < m.orders.length) := fun x hx => Hrange.out x (mem_flat hltk hx)
                    have hyl := Hrow.out k hltk
                    have hran := Lib.hid (run5_any _ m Hr.out k (by have := Hxl.out; omega) LA lc (xss[k]?.getD []).length (xss[k]?.getD []) rfl (by omega) Hmem.out wr (hG.vX.ext he) (s3.ext (hG.ext.trans he)))
                    have S3 := Lib.hid (s3.ext hG.ext); clear s3
                    generalize (xss[k]?.getD []) = ys at *
                    obtain ⟨es, hes⟩ : ∃ es, endsF m k ys ys.length = es := ⟨_, rfl⟩
                    have hesl : es.length = ys.length := by rw [← hes, endsF_len]
                    rw [hes] at hran hstE
                    have Hes := Lib.hid hes; clear hes
                    have Hesl := Lib.hid hesl; clear hesl
                    generalize chR m k (rvI ys) = cc at *
                    generalize tmR m k (rvI ys) = tq at *
                    have hAo : Hid (∀ b, av.ownBlock = some b → b < wr.heap.size) := fun b hb => (ho.out.own_lt b hb).2
                    obtain ⟨wo, hwo⟩ : ∃ wo, wo = wr := ⟨_, rfl⟩
                    rw [← hwo] at he ho hran hAo k0 k1 k2 q1' ⊢
                    clear hwo
                    go_wp2_with fail
                    refine hran.out.mono ?_
                    rintro e w4 ⟨rr, rfl, hrr, he4⟩
                    have hE4 := he.trans he4
                    have hA4 : Hid (OwnI w4 wL.heap.size 3 av (lst (endsUp m xss k) m.orders.length)) := ho.out.ext he4
                    have Hrr := Lib.hid hrr
                    obtain ⟨Ar, cr, rfl, _⟩ := hrr.open_
                    clear he he4 ho hran hrr q1'
                    cases q with
                    | true =>
                      have hstT2 : Hid (tmU m xss (k + 1) = tq) := by unfold Hid; rw [hstT.out]; rfl
                      go_wp2_with fail
                      clear k0 k1 k2
                      go_loopw [28, 29, 131] (fun _ _ jv w2 => ∃ j : Nat, j ≤ ys.length ∧ jv = .int .i64 j ∧ Ext wL w2 ∧ Hid (OwnI w2 wL.heap.size 3 av (lst (setJ (endsUp m xss k) ys es j) m.orders.length)) ∧ Hid (OwnI w2 wo.heap.size 3 (.slice Ar es.length cr) es)) (fun _ _ jv _ => ys.length - (intOf jv).toNat)
                      case atStart => exact ⟨0, by omega, rfl, hE4, hA4, Hrr⟩
                      case round =>
                        clear hE4 hA4 Hrr
                        obtain ⟨j, hj, rfl, heJ, hRJ, hrJ⟩ := hrel
                        by_cases hltj : j < ys.length
                        · obtain ⟨bb, oo, rfl, cy⟩ := S3.out.ext heJ j hltj
                          obtain ⟨ko, hko1, hko2⟩ : ∃ ko : Nat, ys[j]?.getD 0 = (ko : Int) ∧ ko < m.orders.length := by
                            have h1 := Hmem.out (ys[j]?.getD 0) (by simp [hltj])
                            exact ⟨(ys[j]?.getD 0).toNat, by omega, by omega⟩
                          rw [hko1] at cy
                          obtain ⟨Ae, ce, ee, _, _, ho3, _⟩ := hrJ.out.open_
                          injection ee with ee1 _ ee2
                          subst ee1; subst ee2
                          obtain ⟨be, oe, rfl, ce'⟩ := ho3 j (by rw [Hesl.out]; exact hltj)
                          obtain ⟨ev, hev⟩ : ∃ ev, es[j]?.getD 0 = ev := ⟨_, rfl⟩
                          rw [hev] at ce'
                          obtain ⟨S, ca, uo, hav, hS1, hS2, hrc, hrf, hRN0⟩ := hRJ.out.setF hko2 ev
                          have hRN : Hid (OwnI (wr.setCell ⟨S, ko, none⟩ (.int .i64 ev)) wL.heap.size 3 av (lst (setJ (endsUp m xss k) ys es (j + 1)) m.orders.length)) := by
                            unfold Hid
                            have e1 : (fun j' => if j' = ko then ev else setJ (endsUp m xss k) ys es j j') = setJ (endsUp m xss k) ys es (j + 1) := by
                              funext q
                              show (if q = ko then ev else _) = if q = (ys[j]?.getD 0).toNat then es[j]?.getD 0 else _
                              rw [hko1, hev, Int.toNat_natCast]
                            rw [← e1]
                            exact hRN0
                          have hEN := Lib.hid (Below.setCell heJ (p := ⟨S, ko, none⟩) (by show _ ≤ S; omega) (.int .i64 ev))
                          have hSo : S < wo.heap.size := (hAo.out S (by rw [hav]; rfl))
                          have hrN := Lib.hid (hrJ.out.apart (b := S) (fun h => by have := (hrJ.out.own_lt S h).1; omega) ((Apart.refl S wr).set_ ko (.int .i64 ev)))
                          have hel : j < es.length := by rw [Hesl.out]; exact hltj
                          clear hko1 hev ho3 hRJ hrJ heJ hRN0
                          subst hav
                          go_wp2_with fail
                          go_roundw
                          case rel => exact ⟨j + 1, by omega, by go_num, hEN.out, hRN, hrN⟩
                          case measure => simp [intOf]; omega
                        · obtain rfl : j = ys.length := by omega
                          go_wp2_with fail
                          go_roundw
                          case rel => exact ⟨k + 1, s + cc, tq, by omega, by go_num, by first | rfl | go_num, rfl, hbd, hst, hstT2, heJ, by unfold Hid; rw [hstE.out]; exact hRJ.out⟩
                          case measure => simp [intOf]; omega
                    | false =>
                      have hstT2 : Hid (tmU m xss (k + 1) = false) := by unfold Hid; rw [hstT.out]; rfl
                      go_wp2_with fail
                      clear k0 k1 k2
                      go_loopw [28, 29, 131] (fun _ _ jv w2 => ∃ j : Nat, j ≤ ys.length ∧ jv = .int .i64 j ∧ Ext wL w2 ∧ Hid (OwnI w2 wL.heap.size 3 av (lst (setJ (endsUp m xss k) ys es j) m.orders.length)) ∧ Hid (OwnI w2 wo.heap.size 3 (.slice Ar es.length cr) es)) (fun _ _ jv _ => ys.length - (intOf jv).toNat)
                      case atStart => exact ⟨0, by omega, rfl, hE4, hA4, Hrr⟩
                      case round =>
                        clear hE4 hA4 Hrr
                        obtain ⟨j, hj, rfl, heJ, hRJ, hrJ⟩ := hrel
                        by_cases hltj : j < ys.length
                        · obtain ⟨bb, oo, rfl, cy⟩ := S3.out.ext heJ j hltj
                          obtain ⟨ko, hko1, hko2⟩ : ∃ ko : Nat, ys[j]?.getD 0 = (ko : Int) ∧ ko < m.orders.length := by
                            have h1 := Hmem.out (ys[j]?.getD 0) (by simp [hltj])
                            exact ⟨(ys[j]?.getD 0).toNat, by omega, by omega⟩
                          rw [hko1] at cy
                          obtain ⟨Ae, ce, ee, _, _, ho3, _⟩ := hrJ.out.open_
                          injection ee with ee1 _ ee2
                          subst ee1; subst ee2
                          obtain ⟨be, oe, rfl, ce'⟩ := ho3 j (by rw [Hesl.out]; exact hltj)
                          obtain ⟨ev, hev⟩ : ∃ ev, es[j]?.getD 0 = ev := ⟨_, rfl⟩
                          rw [hev] at ce'
                          obtain ⟨S, ca, uo, hav, hS1, hS2, hrc, hrf, hRN0⟩ := hRJ.out.setF hko2 ev
                          have hRN : Hid (OwnI (wr.setCell ⟨S, ko, none⟩ (.int .i64 ev)) wL.heap.size 3 av (lst (setJ (endsUp m xss k) ys es (j + 1)) m.orders.length)) := by
                            unfold Hid
                            have e1 : (fun j' => if j' = ko then ev else setJ (endsUp m xss k) ys es j j') = setJ (endsUp m xss k) ys es (j + 1) := by
                              funext q
                              show (if q = ko then ev else _) = if q = (ys[j]?.getD 0).toNat then es[j]?.getD 0 else _
                              rw [hko1, hev, Int.toNat_natCast]
                            rw [← e1]
                            exact hRN0
                          have hEN := Lib.hid (Below.setCell heJ (p := ⟨S, ko, none⟩) (by show _ ≤ S; omega) (.int .i64 ev))
                          have hSo : S < wo.heap.size := (hAo.out S (by rw [hav]; rfl))
                          have hrN := Lib.hid (hrJ.out.apart (b := S) (fun h => by have := (hrJ.out.own_lt S h).1; omega) ((Apart.refl S wr).set_ ko (.int .i64 ev)))
                          have hel : j < es.length := by rw [Hesl.out]; exact hltj
                          clear hko1 hev ho3 hRJ hrJ heJ hRN0
                          subst hav
                          go_wp2_with fail
                          go_roundw
                          case rel => exact ⟨j + 1, by omega, by go_num, hEN.out, hRN, hrN⟩
                          case measure => simp [intOf]; omega
                        · obtain rfl : j = ys.length := by omega
                          go_wp2_with fail
                          go_roundw
                          case rel => exact ⟨k + 1, s + cc, false, by omega, by go_num, by first | rfl | go_num, rfl, hbd, hst, hstT2, heJ, by unfold Hid; rw [hstE.out]; exact hRJ.out⟩
                          case measure => simp [intOf]; omega
                  · obtain rfl : k = xss.length := by omega
                    obtain ⟨AA, ca, rfl, aa1, aa2, aa3, _, _⟩ := ho.out.open_
                    have Hall := Lib.hid aa3; clear aa3
                    have hll := lst_len (endsUp m xss xss.length) m.orders.length
                    have HLL := Lib.hid hll
                    rw [hll] at aa1
                    simp only [hll]
                    clear hll
                    go_wp2_with fail
                    go_loopw [22, 31, 147] (fun kv _ iv wr2 => ∃ (j : Nat) (q2 : Bool), j ≤ m.orders.length ∧ iv = .int .i64 j ∧ kv = .bool q2 ∧ Hid (allSet (endsUp m xss xss.length) q j = q2) ∧ wr = wr2) (fun _ _ iv _ => m.orders.length - (intOf iv).toNat)
                    case atStart => exact ⟨0, q, by omega, rfl, rfl, rfl, rfl⟩
                    case round =>
                      obtain ⟨j, q2, hj, rfl, rfl, hq2, rfl⟩ := hrel
                      by_cases hltj : j < m.orders.length
                      · obtain ⟨bb, oo, rfl, cy⟩ := Hall.out j (by rw [HLL.out]; exact hltj)
                        rw [lst_get _ hltj] at cy
                        have hst : Hid (allSet (endsUp m xss xss.length) q (j + 1) = (q2 && !decide (endsUp m xss xss.length j = -1))) := by unfold Hid; rw [allSet, hq2.out]
                        generalize endsUp m xss xss.length j = ev at *
                        cases q2 with
                        | false =>
                          have hst2 : Hid (allSet (endsUp m xss xss.length) q (j + 1) = false) := by unfold Hid; rw [hst.out]; rfl
                          go_wp2_with fail
                          go_roundw
                          case rel => exact ⟨j + 1, false, by omega, by go_num, rfl, hst2, by trivial⟩
                          case measure => simp [intOf]; omega
                        | true =>
                          by_cases hev : ev = -1
                          · subst hev
                            have hst2 : Hid (allSet (endsUp m xss xss.length) q (j + 1) = false) := by unfold Hid; rw [hst.out]; rfl
                            go_wp2_with fail
                            go_roundw
                            case rel => exact ⟨j + 1, false, by omega, by go_num, by first | rfl | simp, hst2, by trivial⟩
                            case measure => simp [intOf]; omega
                          · have hdv : (ev != -1) = true := by simpa using hev
                            have hst2 : Hid (allSet (endsUp m xss xss.length) q (j + 1) = true) := by unfold Hid; rw [hst.out]; simp [hev]
                            clear hev
                            go_wp2_with fail
                            go_roundw
                            case rel => exact ⟨j + 1, true, by omega, by go_num, by first | rfl | simp [hdv], hst2, by trivial⟩
                            case measure => simp [intOf]; omega
                      · obtain rfl : j = m.orders.length := by omega
                        have HP : Hid (PlanIs m xss 0 (lst (endsUp m xss xss.length) m.orders.length) s q2) := ⟨Hpu.out, rfl, hs.out, by rw [if_pos rfl, ← keeps_law Hpu.out, hq.out]; exact hq2.out⟩
                        have Ha := Hall
                        have hlq : (lst (endsUp m xss xss.length) m.orders.length).length = m.orders.length := HLL.out
                        obtain ⟨al, hal⟩ : ∃ al, lst (endsUp m xss xss.length) m.orders.length = al := ⟨_, rfl⟩
                        rw [hal] at HP Ha hlq
                        rw [← hlq]
                        have hG := hG.to he
                        have He := Lib.hid (He.out.ext he)
                        clear hal hq hq2 hs Hall HLL hlq he ho
                        obtain ⟨k0, k1, k2⟩ := hG.bO.c3
                        have Hr1 := Lib.hid (runTop_to _ m n Am cm xs re _ _ HR.out wr hG.vO hmc hmx (by omega) hG.x1)
                        go_wp2_with fail
                        refine Hr1.out.mono ?_
                        rintro e wa ⟨ra, rfl, hra, hea⟩
                        have hGa := hG.to hea
                        have He1 := Lib.hid (He.out.ext hea); have Ha1 := Lib.hid (Ha.out.ext hea)
                        have Hra := Lib.hid hra
                        clear hG hea He Ha hra Hr1 k0 k1 k2
                        obtain ⟨k0, k1, k2⟩ := hGa.bO.c3
                        have Hr1 := Lib.hid (ends_to _ qv m xss 0 _ _ _ HP.out (by have := Hfl.out; omega) (by omega) wa hGa.vO hGa.p1)
                        go_wp2_with fail
                        refine Hr1.out.mono ?_
                        rintro e wb ⟨rb, rfl, hrb, heb⟩
                        have hGb := hGa.to heb
                        have He2 := Lib.hid (He1.out.ext heb); have Ha2 := Lib.hid (Ha1.out.ext heb)
                        have Hra2 := Lib.hid (Hra.out.ext heb); have Hrb2 := Lib.hid hrb
                        clear hGa heb He1 Ha1 Hra hrb Hr1 k0 k1 k2
                        obtain ⟨k0, k1, k2⟩ := hGb.bO.c3
                        have Hr1 := Lib.hid (changes_to _ qv m xss 0 _ _ _ HP.out (by have := Hfl.out; omega) (by omega) wb hGb.vO hGb.p1)
                        go_wp2_with fail
                        refine Hr1.out.mono ?_
                        rintro e wc ⟨rfl, hec⟩
                        have hGc := hGb.to hec
                        have He3 := Lib.hid (He2.out.ext hec); have Ha3 := Lib.hid (Ha2.out.ext hec)
                        have Hra3 := Lib.hid (Hra2.out.ext hec); have Hrb3 := Lib.hid (Hrb2.out.ext hec)
                        clear hGb hec He2 Ha2 Hra2 Hrb2 Hr1 k0 k1 k2
                        obtain ⟨k0, k1, k2⟩ := hGc.bO.c3
                        have Hr1 := Lib.hid (keeps_to _ qv m xss 0 _ _ _ HP.out (by have := Hfl.out; omega) (by omega) wc hGc.vO hGc.p1)
                        go_wp2_with fail
                        refine Hr1.out.mono ?_
                        rintro e wd ⟨rfl, hed⟩
                        have hGd := hGc.to hed
                        have He4 := Lib.hid (He3.out.ext hed); have Ha4 := Lib.hid (Ha3.out.ext hed)
                        have hra4 := Hra3.out.ext hed; have Hrb4 := Lib.hid (Hrb3.out.ext hed)
                        clear hGc hed He3 Ha3 Hra3 Hrb3 Hr1 k0 k1 k2
                        obtain ⟨Ab, cb, rfl, b1, b2, b3⟩ := hra4
                        have heq := Lib.hid (eqI Ab none cb 0 [] [] true (by simp) wd (Nat.le_trans b1 b2) b3 He4.out)
                        clear b3 He4
                        go_wp2_with fail
                        refine heq.out.mono ?_
                        rintro e we ⟨rfl, hee⟩
                        have hGe := hGd.to hee
                        have Ha5 := Lib.hid (Ha4.out.ext hee)
                        obtain ⟨Ac, cc2, rfl, d1, d2, d3⟩ := Hrb4.out.ext hee
                        clear hGd hee Ha4 Hrb4 heq
                        have heq := Lib.hid (eqI Ac AA cc2 ca al al true (by simp) we (Nat.le_trans d1 d2) d3 Ha5.out)
                        clear d3 Ha5
                        go_wp2_with fail
                        refine heq.out.mono ?_
                        rintro e wf ⟨rfl, hef⟩
                        have hGf := hGe.to hef
                        clear hGe hef heq
                        have hsm := Lib.hid (same_any _ _ m m true (by simp) wf hGf.vO hGf.vM)
                        obtain ⟨k0, k1, k2⟩ := hGf.bO.c3
                        obtain ⟨j0, j1, j2⟩ := hGf.bM.c3
                        go_wp2_with fail
                        refine hsm.out.mono ?_
                        rintro e wg ⟨rfl, heg⟩
                        have hGg := hGf.to heg
                        have heq := Lib.hid (eqI Am A cm c xs xs true (by simp) wg (Nat.le_trans hmc hmx) hGg.x1 hGg.x0)
                        clear hGf heg hsm k0 k1 k2 j0 j1 j2
                        go_wp2_with fail
                        refine heq.out.mono ?_
                        rintro e wh ⟨rfl, heh⟩
                        have hGh := hGg.to heh
                        have heq2 := Lib.hid (eqRows_any qv _ xss xss true (by simp) wh hGh.p1 hGh.p0)
                        clear hGg heh heq
                        go_wp2_with fail
                        refine heq2.out.mono ?_
                        rintro e wi ⟨rfl, hei⟩
                        have hGi := hGh.to hei
                        clear hGh hei heq2
                        go_wp2_with fail
                        refine (awake_any wi).mono ?_
                        rintro e wj ⟨rfl, hej⟩
                        have hGj := hGi.to hej
                        go_wp2_with fail
                        go_ret
                        exact ⟨rfl, hGj.ext⟩
          · have hdp : (pu == 0) = false := by simpa using hp0
            have HP : Hid (PlanIs m xss pu [] 0 false) := ⟨Hpu.out, if_neg hp0, if_neg hp0, if_neg hp0⟩
            have Ha : Hid (IntsAt w5 none []) := fun k hk => by cases hk
            have k0 := hp0; have k1 := hp0; have k2 := hp0
            clear hp0
            clear k0 k1 k2
            obtain ⟨k0, k1, k2⟩ := hG.bO.c3
            clear k0 k1 k2
            obtain ⟨k0, k1, k2⟩ := hG.bO.c3
            have Hr1 := Lib.hid (runTop_to _ m n Am cm xs re _ _ HR.out w5 hG.vO hmc hmx (by omega) hG.x1)
            go_wp2_with fail
            refine Hr1.out.mono ?_
            rintro e wa ⟨ra, rfl, hra, hea⟩
            have hGa := hG.to hea
            have He1 := Lib.hid (He.out.ext hea); have Ha1 := Lib.hid (Ha.out.ext hea)
            have Hra := Lib.hid hra
            clear hG hea He Ha hra Hr1 k0 k1 k2
            obtain ⟨k0, k1, k2⟩ := hGa.bO.c3
            have Hr1 := Lib.hid (ends_to _ qv m xss pu _ _ _ HP.out (by have := Hfl.out; omega) (by omega) wa hGa.vO hGa.p1)
            go_wp2_with fail
            refine Hr1.out.mono ?_
            rintro e wb ⟨rb, rfl, hrb, heb⟩
            have hGb := hGa.to heb
            have He2 := Lib.hid (He1.out.ext heb); have Ha2 := Lib.hid (Ha1.out.ext heb)
            have Hra2 := Lib.hid (Hra.out.ext heb); have Hrb2 := Lib.hid hrb
            clear hGa heb He1 Ha1 Hra hrb Hr1 k0 k1 k2
            obtain ⟨k0, k1, k2⟩ := hGb.bO.c3
            have Hr1 := Lib.hid (changes_to _ qv m xss pu _ _ _ HP.out (by have := Hfl.out; omega) (by omega) wb hGb.vO hGb.p1)
            go_wp2_with fail
            refine Hr1.out.mono ?_
            rintro e wc ⟨rfl, hec⟩
            have hGc := hGb.to hec
            have He3 := Lib.hid (He2.out.ext hec); have Ha3 := Lib.hid (Ha2.out.ext hec)
            have Hra3 := Lib.hid (Hra2.out.ext hec); have Hrb3 := Lib.hid (Hrb2.out.ext hec)
            clear hGb hec He2 Ha2 Hra2 Hrb2 Hr1 k0 k1 k2
            obtain ⟨k0, k1, k2⟩ := hGc.bO.c3
            have Hr1 := Lib.hid (keeps_to _ qv m xss pu _ _ _ HP.out (by have := Hfl.out; omega) (by omega) wc hGc.vO hGc.p1)
            go_wp2_with fail
            refine Hr1.out.mono ?_
            rintro e wd ⟨rfl, hed⟩
            have hGd := hGc.to hed
            have He4 := Lib.hid (He3.out.ext hed); have Ha4 := Lib.hid (Ha3.out.ext hed)
            have hra4 := Hra3.out.ext hed; have Hrb4 := Lib.hid (Hrb3.out.ext hed)
            clear hGc hed He3 Ha3 Hra3 Hrb3 Hr1 k0 k1 k2
            obtain ⟨Ab, cb, rfl, b1, b2, b3⟩ := hra4
            have heq := Lib.hid (eqI Ab none cb 0 [] [] true (by simp) wd (Nat.le_trans b1 b2) b3 He4.out)
            clear b3 He4
            go_wp2_with fail
            refine heq.out.mono ?_
            rintro e we ⟨rfl, hee⟩
            have hGe := hGd.to hee
            have Ha5 := Lib.hid (Ha4.out.ext hee)
            obtain ⟨Ac, cc2, rfl, d1, d2, d3⟩ := Hrb4.out.ext hee
            clear hGd hee Ha4 Hrb4 heq
            have heq := Lib.hid (eqI Ac none cc2 0 [] [] true (by simp) we (Nat.le_trans d1 d2) d3 Ha5.out)
            clear d3 Ha5
            go_wp2_with fail
            refine heq.out.mono ?_
            rintro e wf ⟨rfl, hef⟩
            have hGf := hGe.to hef
            clear hGe hef heq
            have hsm := Lib.hid (same_any _ _ m m true (by simp) wf hGf.vO hGf.vM)
            obtain ⟨k0, k1, k2⟩ := hGf.bO.c3
            obtain ⟨j0, j1, j2⟩ := hGf.bM.c3
            go_wp2_with fail
            refine hsm.out.mono ?_
            rintro e wg ⟨rfl, heg⟩
            have hGg := hGf.to heg
            have heq := Lib.hid (eqI Am A cm c xs xs true (by simp) wg (Nat.le_trans hmc hmx) hGg.x1 hGg.x0)
            clear hGf heg hsm k0 k1 k2 j0 j1 j2
            go_wp2_with fail
            refine heq.out.mono ?_
            rintro e wh ⟨rfl, heh⟩
            have hGh := hGg.to heh
            have heq2 := Lib.hid (eqRows_any qv _ xss xss true (by simp) wh hGh.p1 hGh.p0)
            clear hGg heh heq
            go_wp2_with fail
            refine heq2.out.mono ?_
            rintro e wi ⟨rfl, hei⟩
            have hGi := hGh.to hei
            clear hGh hei heq2
            go_wp2_with fail
            refine (awake_any wi).mono ?_
            rintro e wj ⟨rfl, hej⟩
            have hGj := hGi.to hej
            go_wp2_with fail
            go_ret
            exact ⟨rfl, hGj.ext⟩
      · have hdr : (r == 0) = false := by simpa using hr0
        have Hu : Hid (runE m n xs = r) := by unfold Hid runE; rw [if_neg (by rw [Hr.out]; exact hr0)]; exact Hr.out
        have Hpu : Hid (plE m xss = r) := by unfold Hid plE; rw [if_pos (by rw [Hr.out]; exact hr0)]; exact Hr.out
        have HR : Hid (RunIs m n xs r [] 0) := ⟨Hu.out, if_neg hr0, if_neg hr0⟩
        have HP : Hid (PlanIs m xss r [] 0 false) := ⟨Hpu.out, if_neg hr0, if_neg hr0, if_neg hr0⟩
        have He : Hid (IntsAt w3 none []) := fun k hk => by cases hk
        have Ha : Hid (IntsAt w3 none []) := fun k hk => by cases hk
        clear hr0
        clear k0 k1 k2
        obtain ⟨k0, k1, k2⟩ := hG.bO.c3
        have Hr1 := Lib.hid (runTop_to _ m n Am cm xs r _ _ HR.out w3 hG.vO hmc hmx (by omega) hG.x1)
        go_wp2_with fail
        refine Hr1.out.mono ?_
        rintro e wa ⟨ra, rfl, hra, hea⟩
        have hGa := hG.to hea
        have He1 := Lib.hid (He.out.ext hea); have Ha1 := Lib.hid (Ha.out.ext hea)
        have Hra := Lib.hid hra
        clear hG hea He Ha hra Hr1 k0 k1 k2
        obtain ⟨k0, k1, k2⟩ := hGa.bO.c3
        have Hr1 := Lib.hid (ends_to _ qv m xss r _ _ _ HP.out (by have := Hfl.out; omega) (by omega) wa hGa.vO hGa.p1)
        go_wp2_with fail
        refine Hr1.out.mono ?_
        rintro e wb ⟨rb, rfl, hrb, heb⟩
        have hGb := hGa.to heb
        have He2 := Lib.hid (He1.out.ext heb); have Ha2 := Lib.hid (Ha1.out.ext heb)
        have Hra2 := Lib.hid (Hra.out.ext heb); have Hrb2 := Lib.hid hrb
        clear hGa heb He1 Ha1 Hra hrb Hr1 k0 k1 k2
        obtain ⟨k0, k1, k2⟩ := hGb.bO.c3
        have Hr1 := Lib.hid (changes_to _ qv m xss r _ _ _ HP.out (by have := Hfl.out; omega) (by omega) wb hGb.vO hGb.p1)
        go_wp2_with fail
        refine Hr1.out.mono ?_
        rintro e wc ⟨rfl, hec⟩
        have hGc := hGb.to hec
        have He3 := Lib.hid (He2.out.ext hec); have Ha3 := Lib.hid (Ha2.out.ext hec)
        have Hra3 := Lib.hid (Hra2.out.ext hec); have Hrb3 := Lib.hid (Hrb2.out.ext hec)
        clear hGb hec He2 Ha2 Hra2 Hrb2 Hr1 k0 k1 k2
        obtain ⟨k0, k1, k2⟩ := hGc.bO.c3
        have Hr1 := Lib.hid (keeps_to _ qv m xss r _ _ _ HP.out (by have := Hfl.out; omega) (by omega) wc hGc.vO hGc.p1)
        go_wp2_with fail
        refine Hr1.out.mono ?_
        rintro e wd ⟨rfl, hed⟩
        have hGd := hGc.to hed
        have He4 := Lib.hid (He3.out.ext hed); have Ha4 := Lib.hid (Ha3.out.ext hed)
        have hra4 := Hra3.out.ext hed; have Hrb4 := Lib.hid (Hrb3.out.ext hed)
        clear hGc hed He3 Ha3 Hra3 Hrb3 Hr1 k0 k1 k2
        obtain ⟨Ab, cb, rfl, b1, b2, b3⟩ := hra4
        have heq := Lib.hid (eqI Ab none cb 0 [] [] true (by simp) wd (Nat.le_trans b1 b2) b3 He4.out)
        clear b3 He4
        go_wp2_with fail
        refine heq.out.mono ?_
        rintro e we ⟨rfl, hee⟩
        have hGe := hGd.to hee
        have Ha5 := Lib.hid (Ha4.out.ext hee)
        obtain ⟨Ac, cc2, rfl, d1, d2, d3⟩ := Hrb4.out.ext hee
        clear hGd hee Ha4 Hrb4 heq
        have heq := Lib.hid (eqI Ac none cc2 0 [] [] true (by simp) we (Nat.le_trans d1 d2) d3 Ha5.out)
        clear d3 Ha5
        go_wp2_with fail
        refine heq.out.mono ?_
        rintro e wf ⟨rfl, hef⟩
        have hGf := hGe.to hef
        clear hGe hef heq
        have hsm := Lib.hid (same_any _ _ m m true (by simp) wf hGf.vO hGf.vM)
        obtain ⟨k0, k1, k2⟩ := hGf.bO.c3
        obtain ⟨j0, j1, j2⟩ := hGf.bM.c3
        go_wp2_with fail
        refine hsm.out.mono ?_
        rintro e wg ⟨rfl, heg⟩
        have hGg := hGf.to heg
        have heq := Lib.hid (eqI Am A cm c xs xs true (by simp) wg (Nat.le_trans hmc hmx) hGg.x1 hGg.x0)
        clear hGf heg hsm k0 k1 k2 j0 j1 j2
        go_wp2_with fail
        refine heq.out.mono ?_
        rintro e wh ⟨rfl, heh⟩
        have hGh := hGg.to heh
        have heq2 := Lib.hid (eqRows_any qv _ xss xss true (by simp) wh hGh.p1 hGh.p0)
        clear hGg heh heq
        go_wp2_with fail
        refine heq2.out.mono ?_
        rintro e wi ⟨rfl, hei⟩
        have hGi := hGh.to hei
        clear hGh hei heq2
        go_wp2_with fail
        refine (awake_any wi).mono ?_
        rintro e wj ⟨rfl, hej⟩
        have hGj := hGi.to hej
        go_wp2_with fail
        go_ret
        exact ⟨rfl, hGj.ext⟩
end Go.Proofs.Pet
