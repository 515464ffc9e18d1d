import Derived.Test.YtknokjnplbdmeaaGreatP21
import Derived.Test.YtknokjnplbdmeaaGreatQ1
namespace Go.Proofs.Pet
open Go Go.RowKit Go.Maps Go.Shelf

theorem OwnI.stored {W : World} {g g' base : Nat} {a0 a1 a2 b0 b1 b2 v : Value} {xs : List Int} {c5 c6 : Array Value} (h : OwnI W base 3 v xs) (b4 : Blk W g 25 c5) (b5 : Blk W g' 35 c6) :
    OwnI ((((((W.setCell ⟨g, 0, none⟩ a0).setCell ⟨g, 1, none⟩ a1).setCell ⟨g, 2, none⟩ a2).setCell ⟨g', 0, none⟩ b0).setCell ⟨g', 1, none⟩ b1).setCell ⟨g', 2, none⟩ b2) base 3 v xs := by
  obtain ⟨h1, h2⟩ := h
  refine ⟨h1, ?_⟩
  rcases h2 with h2 | ⟨q, cap, cur, rfl, hg, hb, r⟩
  · exact .inl h2
  · have n1 : q ≠ g := Blk.ne_ hb b4 (by decide)
    have n2 : q ≠ g' := Blk.ne_ hb b5 (by decide)
    exact .inr ⟨q, cap, cur, rfl, hg, (((((Blk.far (p := ⟨g, 0, none⟩) hb n1 _).far (p := ⟨g, 1, none⟩) n1 _).far (p := ⟨g, 2, none⟩) n1 _).far (p := ⟨g', 0, none⟩) n2 _).far (p := ⟨g', 1, none⟩) n2 _).far (p := ⟨g', 2, none⟩) n2 _, r⟩
set_option maxRecDepth 20000 in
set_option maxHeartbeats 2000000 in
theorem loomCosts_any (v : Value) (m : Mill) (n : Int) (A : Option Addr) (c : Nat) (xs : List Int) (w : World) (hv : MillVal w v m) (hlc : xs.length ≤ c) (hlx : c ≤ maxLen) (hx : IntsAt w A xs) :
    Calls Tryz.prog 32 #[v, .int .i64 n, .slice A xs.length c] w fun e w' => e = .returned (.bool true) ∧ Ext w w' := by
  have Hv := Lib.hid hv
  have Hx := Lib.hid hx
  obtain ⟨A1, c1, A2, c2, rfl, h2, h3, h4, h5, h6, h7⟩ := hv
  have hE := Ext.alloc w (.cells #[.slice A1 m.laced.length c1, .int .i64 m.change, .slice A2 m.orders.length c2] 25)
  have hM := Blk.new w 25 #[.slice A1 m.laced.length c1, .int .i64 m.change, .slice A2 m.orders.length c2]
  clear h2 h3 h4 h5 h6 h7 hx
  obtain ⟨q, hq⟩ : ∃ q, greatB m = q := ⟨_, rfl⟩
  have hgr := Lib.hid (great_any _ m q hq _ (Hv.out.ext hE))
  have Hq := Lib.hid hq; clear hq
  obtain ⟨k0, k1, k2⟩ := hM.c3
  go_enter Tryz.func32, Tryz.ntmps32
  go_wp2_with fail
  refine hgr.out.mono ?_
  rintro e w1 ⟨rfl, he1⟩
  have hE1 := hE.trans he1
  have hM1 := hM.ext he1
  clear hE hM he1 hgr k0 k1 k2
  have hcase : q = true ∨ q = false ∧ 12 < xs.length ∨ q = false ∧ xs.length ≤ 12 := by cases q <;> simp <;> omega
  rcases hcase with rfl | ⟨rfl, h12⟩ | ⟨rfl, h12⟩
  · go_wp2_with fail
    refine (awake_any w1).mono ?_
    rintro e w2 ⟨rfl, he2⟩
    have hE2 := hE1.trans he2
    go_wp2_with fail
    go_ret
    exact ⟨rfl, hE2⟩
  · go_wp2_with fail
    refine (awake_any w1).mono ?_
    rintro e w2 ⟨rfl, he2⟩
    have hE2 := hE1.trans he2
    go_wp2_with fail
    go_ret
    exact ⟨rfl, hE2⟩
  · have hgb := great_bounds Hq.out
    have hd12 : decide (12 < xs.length) = false := by simp; omega
    have hd12' : decide ((12 : Int) < (xs.length : Int)) = false := by simp; omega
    go_wp2_with fail
    refine wp_region_stage 8 (by kernel_rfl) (by kernel_rfl) (fun Ld x W => OwnS 1 3 6 7 w1 m Ld x W ∧ (Ld 5 → OwnI W w1.heap.size 3 (x 5) xs)) (fun k v => (k = 0 ∨ k = 2 → v = .agg #[.slice A1 m.laced.length c1, .int .i64 m.change, .slice A2 m.orders.length c2]) ∧ (k = 4 → v = .slice A xs.length c)) (fun x => ⟨OwnS.start 1 3 6 7 w1 m x, fun h => h.elim⟩) ?_ ?_
    · simp only [List.take, AllOps3, fill, Act.put, List.setIfInBounds_toArray, List.set_cons_zero, List.set_cons_succ, Nat.reduceAdd, DepsV, DepsL, List.filter_cons, List.filter_nil, Region.binds, if_true, and_true, Closed]
      refine ⟨?_, ?_, ?_, ?_, ?_, ?_, ?_, ?_⟩
      all_goals
        intro Ld x W hS hcl hnl hdl hd K Q hK
        obtain ⟨k0, k1, k2⟩ := (hM1.ext hS.1.ext).c3
        have HK := Lib.hid hK; clear hK hcl hdl hnl
        have HS := Lib.hid hS; clear hS
        have Hd := Lib.hid hd; clear hd
      case refine_2 =>
        have h0 := Hd.out.1 (by simp)
        have hk0 := HK.out; clear HK
        simp only [h0] at hk0 ⊢
        have HK := Lib.hid hk0; clear hk0 h0
        go_wp2_with fail
        refine (own_off _ m w1 W HS.out.1.ext (Hv.out.ext hE1) Hq.out).mono ?_
        rintro e w' ⟨v', rfl, hv', he'⟩
        go_wp2
        exact HK.out _ _ ⟨fun h => absurd h (by decide), fun h => absurd h (by decide)⟩ ⟨HS.out.1.doOwn he' _ hv' (by decide) (by decide) (by decide), fun h => by rw [upd_ne (by decide)]; exact (HS.out.2 (h.resolve_right (by decide))).ext he'⟩
      case refine_4 =>
        have h0 := Hd.out.1.1 (by simp)
        have hk0 := HK.out; clear HK
        simp only [h0] at hk0 ⊢
        have HK := Lib.hid hk0; clear hk0 h0
        go_wp2_with fail
        refine (theirs_off _ m w1 W HS.out.1.ext (Hv.out.ext hE1) (by omega)).mono ?_
        rintro e w' ⟨v', rfl, hv', he'⟩
        go_wp2
        exact HK.out _ _ ⟨fun h => absurd h (by decide), fun h => absurd h (by decide)⟩ ⟨HS.out.1.doRef he' _ hv' (by decide) (by decide) (by decide), fun h => by rw [upd_ne (by decide)]; exact (HS.out.2 (h.resolve_right (by decide))).ext he'⟩
      case refine_6 =>
        have h0 := Hd.out.1.2 (by simp)
        have hk0 := HK.out; clear HK
        simp only [h0] at hk0 ⊢
        have HK := Lib.hid hk0; clear hk0 h0
        have hxW := Hx.out.ext (hE1.trans HS.out.1.ext)
        go_wp2_with fail
        refine (dupI A c xs W (by omega) hxW).mono ?_
        rintro e w' ⟨v', rfl, hv', he'⟩
        go_wp2
        exact HK.out _ _ ⟨fun h => absurd h (by decide), fun h => absurd h (by decide)⟩ ⟨HS.out.1.pure he' _ _ (by decide), fun h => by rw [upd_self]; exact hv'.mono HS.out.1.ext.size⟩
      case refine_7 =>
        go_wp2_with fail
        exact HK.out _ _ ⟨fun h => absurd h (by decide), fun h => absurd h (by decide)⟩ ⟨HS.out.1.doC (by decide) (by decide) (by decide), fun h => by rw [upd_ne (by decide)]; exact (HS.out.2 (h.resolve_right (by decide))).ext (Ext.alloc _ _)⟩
      case refine_8 =>
        go_wp2_with fail
        exact HK.out _ _ ⟨fun h => absurd h (by decide), fun h => absurd h (by decide)⟩ ⟨HS.out.1.doD (by decide) (by decide) (by decide), fun h => by rw [upd_ne (by decide)]; exact (HS.out.2 (h.resolve_right (by decide))).ext (Ext.alloc _ _)⟩
      all_goals
        go_wp2_with fail
        exact HK.out _ _ ⟨fun h => by first | rfl | exact absurd h (by decide), fun h => by first | rfl | exact absurd h (by decide)⟩ ⟨HS.out.1.pure (Ext.refl _) _ _ (by decide), fun h => by rw [upd_ne (by decide)]; exact HS.out.2 (h.resolve_right (by decide))⟩
    · intro x W hS hR
      obtain ⟨hS, hmi⟩ := hS
      have hmi := hmi (by decide)
      obtain ⟨g, g', A3, c3, A4, c4, B1, e1, B2, e2, x4, x5, hg, hg', b4, b5, hne, x1, x3, v1, v3⟩ := hS.done (by decide) (by decide) (by decide) (by decide)
      have heW := hS.ext
      simp only [AllV, true_and] at hR
      have x0 := hR.1.1.1.1.1.1.1.1 (by simp)
      have x2 := hR.1.1.1.1.1.2.1 (by simp)
      have x4' := hR.1.1.1.2.2 (by simp)
      obtain ⟨Am, cm, x5', m1, m2, _⟩ := hmi.open_
      simp only [List.take, List.drop, fill, Act.put, List.setIfInBounds_toArray, List.set_cons_zero, List.set_cons_succ, Nat.reduceAdd, x0, x1, x2, x3, x4, x5, x4', x5']
      rw [x1] at v1
      rw [x3] at v3
      rw [x5'] at hmi
      clear hR hS x0 x1 x2 x3 x4 x5 x4' x5'
      obtain ⟨u0, u1, u2⟩ := b4.c3
      obtain ⟨y0, y1, y2⟩ := b5.c3
      have f0 := b4.frozen 0; have f1 := b4.frozen 1; have f2 := b4.frozen 2
      have h0 := b5.frozen 0; have h1 := b5.frozen 1; have h2 := b5.frozen 2
      have hne' : g' ≠ g := fun h => hne h.symm
      have V1 := Lib.hid v1; have V3 := Lib.hid v3; clear v1 v3
      have B4 := Lib.hid b4; have B5 := Lib.hid b5; clear b4 b5
      have Hmi := Lib.hid hmi; clear hmi
      go_wp2_with fail
      obtain ⟨hE2, bO, bX, vO, vX⟩ := own_stored (.slice A3 m.laced.length c3) (.int .i64 m.change) (.slice A4 m.orders.length c4) (.slice B1 m.laced.length e1) (.int .i64 m.change) (.slice B2 m.orders.length e2) heW hg hg' B4.out B5.out hne V1.out V3.out
      have hmi2 := OwnI.stored (a0 := .slice A3 m.laced.length c3) (a1 := .int .i64 m.change) (a2 := .slice A4 m.orders.length c4) (b0 := .slice B1 m.laced.length e1) (b1 := .int .i64 m.change) (b2 := .slice B2 m.orders.length e2) Hmi.out B4.out B5.out
      clear u0 u1 u2 y0 y1 y2 f0 f1 f2 h0 h1 h2 B4 B5 V1 V3 heW Hmi
      generalize (((((W.setCell _ _).setCell _ _).setCell _ _).setCell _ _).setCell _ _).setCell _ _ = W2 at *
      obtain ⟨Am', cm', em, hmc, hmx, hmi3, _⟩ := hmi2.open_
      injection em with em1 _ em2
      subst em1; subst em2
      have Hmi3 := Lib.hid hmi3
      clear m1 m2 hmi2 hmi3
      have hE3 := hE1.trans hE2
      have hM3 := hM1.ext hE2
      have hVm := Lib.hid ((Hv.out.ext hE1).ext hE2)
      have hvO := Lib.hid vO; have hvX := Lib.hid vX
      clear hE1 hM1 hE2 vO vX hg hg' hne hne'
      obtain ⟨k0, k1, k2⟩ := bX.c3
      obtain ⟨r, hr⟩ : ∃ r, checkE m = r := ⟨_, rfl⟩
      have hck := Lib.hid (check5_any _ m r hr W2 hvX.out)
      have Hr := Lib.hid hr; clear hr
      go_wp2_with fail
      refine hck.out.mono ?_
      rintro e w3 ⟨rfl, he3⟩
      have hE4 := hE3.trans he3
      have hM4 := hM3.ext he3
      have bO4 := bO.ext he3
      have bX4 := bX.ext he3
      have Hmi4 := Lib.hid (Hmi3.out.ext he3)
      have hVm4 := Lib.hid (hVm.out.ext he3)
      have hvO4 := Lib.hid (hvO.out.ext he3); have hvX4 := Lib.hid (hvX.out.ext he3)
      clear hE3 hM3 bO bX hVm hvO hvX he3 hck k0 k1 k2 Hmi3
      obtain ⟨k0, k1, k2⟩ := bX4.c3
      by_cases hr0 : r = 0
      · subst hr0
        obtain ⟨re, hre⟩ : ∃ re, runningE m n xs = re := ⟨_, rfl⟩
        have hrun := Lib.hid (running5_any _ m n A c xs re hre w3 hvX4.out hlc hlx (Hx.out.ext hE4))
        have Hre := Lib.hid hre; clear hre
        go_wp2_with fail
        refine hrun.out.mono ?_
        rintro e w4 ⟨rfl, he4⟩
        have hE7 := hE4.trans he4
        have hM7 := hM4.ext he4
        have bO7 := bO4.ext he4
        have bX7 := bX4.ext he4
        have Hmi7 := Lib.hid (Hmi4.out.ext he4)
        have hVm7 := Lib.hid (hVm4.out.ext he4)
        have hvO7 := Lib.hid (hvO4.out.ext he4); have hvX7 := Lib.hid (hvX4.out.ext he4)
        clear hE4 hM4 bO4 bX4 hVm4 hvO4 hvX4 he4 Hmi4 hrun k0 k1 k2
        obtain ⟨k0, k1, k2⟩ := bX7.c3
        by_cases hre0 : re = 0
        · subst hre0
          obtain ⟨q1, q2, q3, q4, q5⟩ := runningE_ok Hre.out
          obtain ⟨ln, rfl⟩ : ∃ ln : Nat, n = (ln : Int) := ⟨n.toNat, by omega⟩
          obtain ⟨b, hb⟩ : ∃ b, bestI m ln (rowsF (sortF xs 7).length (sortF xs 7)) = b := ⟨_, rfl⟩
          have hlaw := Lib.hid (cost_law m Hr.out ln xs Hre.out b hb)
          have hb5 := Lib.hid (best5_any _ m Hr.out ln (by omega) A c xs.length xs rfl ⟨hlc, hlx⟩ q3 b hb w4 hvX7.out (Hx.out.ext hE7))
          have hCE : Hid (costE m (ln : Int) xs = if numC m ln (setF xs) = 99 then (0, 6) else (numC m ln (setF xs), 0)) := by
            unfold Hid costE
            rw [if_neg (by unfold runE; rw [if_pos Hr.out, Hre.out]; simp)]
            rfl
          clear q3 q4 q5 hb
          go_wp2_with fail
          refine hb5.out.mono ?_
          rintro e w8 ⟨rv, rfl, hrv, he8⟩
          have hE8 := hE7.trans he8
          have hM8 := hM7.ext he8
          have bO8 := bO7.ext he8
          have Hmi8 := Lib.hid (Hmi7.out.ext he8)
          have hVm8 := Lib.hid (hVm7.out.ext he8)
          have hvO8 := Lib.hid (hvO7.out.ext he8)
          clear hE7 hM7 bO7 bX7 hVm7 hvO7 hvX7 he8 Hmi7 hb5 k0 k1 k2
          have hrv := Lib.hid hrv
          by_cases hneg : b.2 < 0
          · obtain ⟨z1, z2⟩ := hlaw.out.1 hneg
            obtain ⟨fc, hfc⟩ : ∃ fc : Int, fc = 0 := ⟨_, rfl⟩
            obtain ⟨fe, hfe⟩ : ∃ fe : Int, fe = 6 := ⟨_, rfl⟩
            have HC : Hid (costE m (ln : Int) xs = (0, 6)) := by unfold Hid; rw [hCE.out, z2, if_pos rfl]
            have HB : Hid (bestL m (ln : Int) xs = []) := by unfold Hid bestL; rw [HC.out]; rfl
            clear z1 z2 hfc hfe fc fe
            have hE5 := hE8; have hM5 := hM8; have bO5 := bO8
            have hVm5 := hVm8; have hvO5 := hvO8; have Hmi5 := Hmi8
            clear hE8 hM8 bO8 hVm8 hvO8 Hmi8
            have Hrun5 : Hid (IntsAt w8 none []) := fun k hk => by cases hk
            obtain ⟨k0, k1, k2⟩ := bO5.c3
            have hco := Lib.hid (cost_any _ m (ln : Int) Am cm xs (0, 6) HC.out _ hvO5.out hmc hmx Hmi5.out)
            go_wp2_with fail
            refine hco.out.mono ?_
            rintro e w6 ⟨rfl, he6⟩
            have hE6 := hE5.trans he6
            have hM6 := hM5.ext he6
            have bO6 := bO5.ext he6
            have Hrun6 := Lib.hid (Hrun5.out.ext he6)
            have Hmi6 := Lib.hid (Hmi5.out.ext he6)
            have hVm6 := Lib.hid (hVm5.out.ext he6); have hvO6 := Lib.hid (hvO5.out.ext he6)
            clear hE5 hM5 bO5 Hrun5 Hmi5 hVm5 hvO5 he6 hco k0 k1 k2
            obtain ⟨k0, k1, k2⟩ := bO6.c3
            have hbt := Lib.hid (bestTop_any _ m (ln : Int) Am cm xs 0 6 HC.out w6 hvO6.out hmc hmx Hmi6.out)
            go_wp2_with fail
            refine hbt.out.mono ?_
            rintro e w7 ⟨rv, rfl, hrv, he7⟩
            rw [HB.out] at hrv
            have hE7 := hE6.trans he7
            have hM7 := hM6.ext he7
            have bO7 := bO6.ext he7
            have hrun7 := Hrun6.out.ext he7
            have Hmi7 := Lib.hid (Hmi6.out.ext he7)
            have hVm7 := Lib.hid (hVm6.out.ext he7); have hvO7 := Lib.hid (hvO6.out.ext he7)
            clear hE6 hM6 bO6 Hrun6 Hmi6 hVm6 hvO6 he7 hbt k0 k1 k2
            obtain ⟨Ab, cb, rfl, b1, b2, b3⟩ := hrv
            have heq := Lib.hid (eqI Ab none cb 0 [] [] true (by simp) w7 (Nat.le_trans b1 b2) b3 hrun7)
            clear b3 hrun7
            go_wp2_with fail
            refine heq.out.mono ?_
            rintro e w8 ⟨rfl, he8⟩
            have hE8 := hE7.trans he8
            have hM8 := hM7.ext he8
            have bO8 := bO7.ext he8
            have Hmi8 := Lib.hid (Hmi7.out.ext he8)
            have hsm := Lib.hid (same_any _ _ m m true (by simp) w8 (hvO7.out.ext he8) (hVm7.out.ext he8))
            clear hE7 hM7 bO7 hVm7 hvO7 he8 heq Hmi7
            obtain ⟨k0, k1, k2⟩ := bO8.c3
            obtain ⟨j0, j1, j2⟩ := hM8.c3
            go_wp2_with fail
            refine hsm.out.mono ?_
            rintro e w9 ⟨rfl, he9⟩
            have hE9 := hE8.trans he9
            have heq2 := Lib.hid (eqI Am A cm c xs xs true (by simp) w9 (Nat.le_trans hmc hmx) (Hmi8.out.ext he9) (Hx.out.ext hE9))
            clear hE8 hM8 bO8 Hmi8 he9 hsm k0 k1 k2 j0 j1 j2
            go_wp2_with fail
            refine heq2.out.mono ?_
            rintro e w10 ⟨rfl, he10⟩
            have hE10 := hE9.trans he10
            clear hE9 he10 heq2
            go_wp2_with fail
            refine (awake_any w10).mono ?_
            rintro e w11 ⟨rfl, he11⟩
            have hE11 := hE10.trans he11
            go_wp2_with fail
            go_ret
            exact ⟨rfl, hE11⟩
          · obtain ⟨z1, z2, z3⟩ := hlaw.out.2 (by omega)
            have hnn : ¬ b.2 < 0 := hneg
            have hdn : decide (b.2 < 0) = false := by simpa using hneg
            have HC : Hid (costE m (ln : Int) xs = (b.2, 0)) := by unfold Hid; rw [hCE.out, z1, if_neg z2]
            have HB : Hid (bestL m (ln : Int) xs = b.1) := by
              unfold Hid bestL
              rw [HC.out, if_pos rfl]
              show ints ((moreF m (ln : Int).toNat b.2 7 [] (setF xs)).getD []) = b.1
              rw [Int.toNat_natCast]
              cases hm : moreF m ln b.2 7 [] (setF xs) with
              | none => rw [hm] at z3; cases z3
              | some ks => rw [hm] at z3; exact Option.some.inj z3
            clear z1 z2 z3 hneg
            obtain ⟨run, hrun'⟩ : ∃ run, b.1 = run := ⟨_, rfl⟩
            obtain ⟨fc, hfc⟩ : ∃ fc, b.2 = fc := ⟨_, rfl⟩
            rw [hrun'] at hrv HB
            rw [hfc] at HC hnn hdn ⊢
            clear hrun' hfc hlaw hCE
            obtain ⟨Ar, cr, rfl, a1, a2, a3⟩ := hrv.out
            have Hrun5 := Lib.hid a3
            clear a1 a2 a3 hrv
            have hE5 := hE8; have hM5 := hM8; have bO5 := bO8
            have hVm5 := hVm8; have hvO5 := hvO8; have Hmi5 := Hmi8
            clear hE8 hM8 bO8 hVm8 hvO8 Hmi8
            obtain ⟨k0, k1, k2⟩ := bO5.c3
            have hco := Lib.hid (cost_any _ m (ln : Int) Am cm xs (fc, 0) HC.out _ hvO5.out hmc hmx Hmi5.out)
            go_wp2_with fail
            refine hco.out.mono ?_
            rintro e w6 ⟨rfl, he6⟩
            have hE6 := hE5.trans he6
            have hM6 := hM5.ext he6
            have bO6 := bO5.ext he6
            have Hrun6 := Lib.hid (Hrun5.out.ext he6)
            have Hmi6 := Lib.hid (Hmi5.out.ext he6)
            have hVm6 := Lib.hid (hVm5.out.ext he6); have hvO6 := Lib.hid (hvO5.out.ext he6)
            clear hE5 hM5 bO5 Hrun5 Hmi5 hVm5 hvO5 he6 hco k0 k1 k2
            obtain ⟨k0, k1, k2⟩ := bO6.c3
            have hbt := Lib.hid (bestTop_any _ m (ln : Int) Am cm xs fc 0 HC.out w6 hvO6.out hmc hmx Hmi6.out)
            go_wp2_with fail
            refine hbt.out.mono ?_
            rintro e w7 ⟨rv, rfl, hrv, he7⟩
            rw [HB.out] at hrv
            have hE7 := hE6.trans he7
            have hM7 := hM6.ext he7
            have bO7 := bO6.ext he7
            have hrun7 := Hrun6.out.ext he7
            have Hmi7 := Lib.hid (Hmi6.out.ext he7)
            have hVm7 := Lib.hid (hVm6.out.ext he7); have hvO7 := Lib.hid (hvO6.out.ext he7)
            clear hE6 hM6 bO6 Hrun6 Hmi6 hVm6 hvO6 he7 hbt k0 k1 k2
            obtain ⟨Ab, cb, rfl, b1, b2, b3⟩ := hrv
            have heq := Lib.hid (eqI Ab Ar cb cr run run true (by simp) w7 (Nat.le_trans b1 b2) b3 hrun7)
            clear b3 hrun7
            go_wp2_with fail
            refine heq.out.mono ?_
            rintro e w8 ⟨rfl, he8⟩
            have hE8 := hE7.trans he8
            have hM8 := hM7.ext he8
            have bO8 := bO7.ext he8
            have Hmi8 := Lib.hid (Hmi7.out.ext he8)
            have hsm := Lib.hid (same_any _ _ m m true (by simp) w8 (hvO7.out.ext he8) (hVm7.out.ext he8))
            clear hE7 hM7 bO7 hVm7 hvO7 he8 heq Hmi7
            obtain ⟨k0, k1, k2⟩ := bO8.c3
            obtain ⟨j0, j1, j2⟩ := hM8.c3
            go_wp2_with fail
            refine hsm.out.mono ?_
            rintro e w9 ⟨rfl, he9⟩
            have hE9 := hE8.trans he9
            have heq2 := Lib.hid (eqI Am A cm c xs xs true (by simp) w9 (Nat.le_trans hmc hmx) (Hmi8.out.ext he9) (Hx.out.ext hE9))
            clear hE8 hM8 bO8 Hmi8 he9 hsm k0 k1 k2 j0 j1 j2
            go_wp2_with fail
            refine heq2.out.mono ?_
            rintro e w10 ⟨rfl, he10⟩
            have hE10 := hE9.trans he10
            clear hE9 he10 heq2
            go_wp2_with fail
            refine (awake_any w10).mono ?_
            rintro e w11 ⟨rfl, he11⟩
            have hE11 := hE10.trans he11
            go_wp2_with fail
            go_ret
            exact ⟨rfl, hE11⟩
        · have hd : (re == 0) = false := by simpa using hre0
          have HC : Hid (costE m n xs = (0, re)) := by
            unfold Hid costE
            rw [if_pos (by unfold runE; rw [if_pos Hr.out, Hre.out]; exact hre0)]
            unfold runE
            rw [if_pos Hr.out, Hre.out]
          have HB : Hid (bestL m n xs = []) := by unfold Hid bestL; rw [HC.out, if_neg hre0]
          clear hre0 bX7 hvX7
          have hE5 := hE7; have hM5 := hM7; have bO5 := bO7
          have hVm5 := hVm7; have hvO5 := hvO7; have Hmi5 := Hmi7
          clear hE7 hM7 bO7 hVm7 hvO7 Hmi7
          have Hrun5 : Hid (IntsAt w4 none []) := fun k hk => by cases hk
          obtain ⟨k0, k1, k2⟩ := bO5.c3
          have hco := Lib.hid (cost_any _ m n Am cm xs (0, re) HC.out _ hvO5.out hmc hmx Hmi5.out)
          go_wp2_with fail
          refine hco.out.mono ?_
          rintro e w6 ⟨rfl, he6⟩
          have hE6 := hE5.trans he6
          have hM6 := hM5.ext he6
          have bO6 := bO5.ext he6
          have Hrun6 := Lib.hid (Hrun5.out.ext he6)
          have Hmi6 := Lib.hid (Hmi5.out.ext he6)
          have hVm6 := Lib.hid (hVm5.out.ext he6); have hvO6 := Lib.hid (hvO5.out.ext he6)
          clear hE5 hM5 bO5 Hrun5 Hmi5 hVm5 hvO5 he6 hco k0 k1 k2
          obtain ⟨k0, k1, k2⟩ := bO6.c3
          have hbt := Lib.hid (bestTop_any _ m n Am cm xs 0 re HC.out w6 hvO6.out hmc hmx Hmi6.out)
          go_wp2_with fail
          refine hbt.out.mono ?_
          rintro e w7 ⟨rv, rfl, hrv, he7⟩
          rw [HB.out] at hrv
          have hE7 := hE6.trans he7
          have hM7 := hM6.ext he7
          have bO7 := bO6.ext he7
          have hrun7 := Hrun6.out.ext he7
          have Hmi7 := Lib.hid (Hmi6.out.ext he7)
          have hVm7 := Lib.hid (hVm6.out.ext he7); have hvO7 := Lib.hid (hvO6.out.ext he7)
          clear hE6 hM6 bO6 Hrun6 Hmi6 hVm6 hvO6 he7 hbt k0 k1 k2
          obtain ⟨Ab, cb, rfl, b1, b2, b3⟩ := hrv
          have heq := Lib.hid (eqI Ab none cb 0 [] [] true (by simp) w7 (Nat.le_trans b1 b2) b3 hrun7)
          clear b3 hrun7
          go_wp2_with fail
          refine heq.out.mono ?_
          rintro e w8 ⟨rfl, he8⟩
          have hE8 := hE7.trans he8
          have hM8 := hM7.ext he8
          have bO8 := bO7.ext he8
          have Hmi8 := Lib.hid (Hmi7.out.ext he8)
          have hsm := Lib.hid (same_any _ _ m m true (by simp) w8 (hvO7.out.ext he8) (hVm7.out.ext he8))
          clear hE7 hM7 bO7 hVm7 hvO7 he8 heq Hmi7
          obtain ⟨k0, k1, k2⟩ := bO8.c3
          obtain ⟨j0, j1, j2⟩ := hM8.c3
          go_wp2_with fail
          refine hsm.out.mono ?_
          rintro e w9 ⟨rfl, he9⟩
          have hE9 := hE8.trans he9
          have heq2 := Lib.hid (eqI Am A cm c xs xs true (by simp) w9 (Nat.le_trans hmc hmx) (Hmi8.out.ext he9) (Hx.out.ext hE9))
          clear hE8 hM8 bO8 Hmi8 he9 hsm k0 k1 k2 j0 j1 j2
          go_wp2_with fail
          refine heq2.out.mono ?_
          rintro e w10 ⟨rfl, he10⟩
          have hE10 := hE9.trans he10
          clear hE9 he10 heq2
          go_wp2_with fail
          refine (awake_any w10).mono ?_
          rintro e w11 ⟨rfl, he11⟩
          have hE11 := hE10.trans he11
          go_wp2_with fail
          go_ret
          exact ⟨rfl, hE11⟩
      · have hd : (r == 0) = false := by simpa using hr0
        have HC : Hid (costE m n xs = (0, r)) := by
          unfold Hid costE
          rw [if_pos (by unfold runE; rw [if_neg (by rw [Hr.out]; exact hr0), Hr.out]; exact hr0)]
          unfold runE
          rw [if_neg (by rw [Hr.out]; exact hr0), Hr.out]
        have HB : Hid (bestL m n xs = []) := by unfold Hid bestL; rw [HC.out, if_neg hr0]
        clear hr0 bX4 hvX4
        have hE5 := hE4; have hM5 := hM4; have bO5 := bO4
        have hVm5 := hVm4; have hvO5 := hvO4; have Hmi5 := Hmi4
        clear hE4 hM4 bO4 hVm4 hvO4 Hmi4
        have Hrun5 : Hid (IntsAt w3 none []) := fun k hk => by cases hk
        obtain ⟨k0, k1, k2⟩ := bO5.c3
        have hco := Lib.hid (cost_any _ m n Am cm xs (0, r) HC.out _ hvO5.out hmc hmx Hmi5.out)
        go_wp2_with fail
        refine hco.out.mono ?_
        rintro e w6 ⟨rfl, he6⟩
        have hE6 := hE5.trans he6
        have hM6 := hM5.ext he6
        have bO6 := bO5.ext he6
        have Hrun6 := Lib.hid (Hrun5.out.ext he6)
        have Hmi6 := Lib.hid (Hmi5.out.ext he6)
        have hVm6 := Lib.hid (hVm5.out.ext he6); have hvO6 := Lib.hid (hvO5.out.ext he6)
        clear hE5 hM5 bO5 Hrun5 Hmi5 hVm5 hvO5 he6 hco k0 k1 k2
        obtain ⟨k0, k1, k2⟩ := bO6.c3
        have hbt := Lib.hid (bestTop_any _ m n Am cm xs 0 r HC.out w6 hvO6.out hmc hmx Hmi6.out)
        go_wp2_with fail
        refine hbt.out.mono ?_
        rintro e w7 ⟨rv, rfl, hrv, he7⟩
        rw [HB.out] at hrv
        have hE7 := hE6.trans he7
        have hM7 := hM6.ext he7
        have bO7 := bO6.ext he7
        have hrun7 := Hrun6.out.ext he7
        have Hmi7 := Lib.hid (Hmi6.out.ext he7)
        have hVm7 := Lib.hid (hVm6.out.ext he7); have hvO7 := Lib.hid (hvO6.out.ext he7)
        clear hE6 hM6 bO6 Hrun6 Hmi6 hVm6 hvO6 he7 hbt k0 k1 k2
        obtain ⟨Ab, cb, rfl, b1, b2, b3⟩ := hrv
        have heq := Lib.hid (eqI Ab none cb 0 [] [] true (by simp) w7 (Nat.le_trans b1 b2) b3 hrun7)
        clear b3 hrun7
        go_wp2_with fail
        refine heq.out.mono ?_
        rintro e w8 ⟨rfl, he8⟩
        have hE8 := hE7.trans he8
        have hM8 := hM7.ext he8
        have bO8 := bO7.ext he8
        have Hmi8 := Lib.hid (Hmi7.out.ext he8)
        have hsm := Lib.hid (same_any _ _ m m true (by simp) w8 (hvO7.out.ext he8) (hVm7.out.ext he8))
        clear hE7 hM7 bO7 hVm7 hvO7 he8 heq Hmi7
        obtain ⟨k0, k1, k2⟩ := bO8.c3
        obtain ⟨j0, j1, j2⟩ := hM8.c3
        go_wp2_with fail
        refine hsm.out.mono ?_
        rintro e w9 ⟨rfl, he9⟩
        have hE9 := hE8.trans he9
        have heq2 := Lib.hid (eqI Am A cm c xs xs true (by simp) w9 (Nat.le_trans hmc hmx) (Hmi8.out.ext he9) (Hx.out.ext hE9))
        clear hE8 hM8 bO8 Hmi8 he9 hsm k0 k1 k2 j0 j1 j2
        go_wp2_with fail
        refine heq2.out.mono ?_
        rintro e w10 ⟨rfl, he10⟩
        have hE10 := hE9.trans he10
        clear hE9 he10 heq2
        go_wp2_with fail
        refine (awake_any w10).mono ?_
        rintro e w11 ⟨rfl, he11⟩
        have hE11 := hE10.trans he11
        go_wp2_with fail
        go_ret
        exact ⟨rfl, hE11⟩
end Go.Proofs.Pet
