/-
  Contracts of functions, each proved once.
-/
import Derived.Test.YtknokjnplbdmeaaGreatP19
import Derived.Test.YtknokjnplbdmeaaGreatP20
import Derived.Test.YtknokjnplbdmeaaGreatP04
namespace Go.Proofs.Pet
open Go Go.RowKit Go.Maps Go.Shelf

theorem great_bounds {m : Mill} (h : greatB m = false) : m.laced.length ≤ 8 ∧ m.orders.length ≤ 12 := by
  unfold greatB at h; simp at h; omega
theorem late_any (v : Value) (m : Mill) (r : Int) (hr : checkE m = r) (w : World) (hv : MillVal w v m) :
    Calls Tryz.prog 54 #[v] w fun e w' => ∃ rv, e = .returned (.tuple #[rv, .int .i64 r]) ∧ SlI w' rv (if r = 0 then (lateS m).getD [] else []) ∧ Ext w w' := by
  by_cases h : r = 0
  · subst h
    exact (late_ok v m hr w hv).mono fun e w' ⟨rv, h1, h2, h3⟩ => ⟨rv, h1, by rw [if_pos rfl]; exact h2, h3⟩
  · exact (late_err v m r hr h w hv).mono fun e w' ⟨h1, h3⟩ => ⟨_, h1, by rw [if_neg h]; exact ⟨none, 0, rfl, Nat.le_refl _, Nat.zero_le _, fun k hk => by cases hk⟩, h3⟩
set_option maxRecDepth 20000 in
set_option maxHeartbeats 2000000 in
theorem loomFirst_any (v : Value) (m : Mill) (w : World) (hv : MillVal w v m) :
    Calls Tryz.prog 30 #[v] w fun e w' => e = .returned (.bool true) ∧ Ext w w' := by
  have Hv := Lib.hid hv
  obtain ⟨A1, c1, A2, c2, rfl, h2, h3, h4, h5, h6, h7⟩ := hv
  have hE := Ext.alloc w (.cells #[.slice A1 m.laced.length c1, .int .i64 m.change, .slice A2 m.orders.length c2] 25)
  have hM := Blk.new w 25 #[.slice A1 m.laced.length c1, .int .i64 m.change, .slice A2 m.orders.length c2]
  clear h2 h3 h4 h5 h6 h7
  obtain ⟨q, hq⟩ : ∃ q, greatB m = q := ⟨_, rfl⟩
  have hgr := Lib.hid (great_any _ m q hq _ (Hv.out.ext hE))
  have Hq := Lib.hid hq; clear hq
  obtain ⟨k0, k1, k2⟩ := hM.c3
  go_enter Tryz.func30, Tryz.ntmps30
  go_wp2_with fail
  refine hgr.out.mono ?_
  rintro e w1 ⟨rfl, he1⟩
  have hE1 := hE.trans he1
  have hM1 := hM.ext he1
  clear hE hM he1 hgr k0 k1 k2
  cases q with
  | true =>
    go_wp2_with fail
    refine (awake_any w1).mono ?_
    rintro e w2 ⟨rfl, he2⟩
    have hE2 := hE1.trans he2
    go_wp2_with fail
    go_ret
    exact ⟨rfl, hE2⟩
  | false =>
    have hgb := great_bounds Hq.out
    go_wp2_with fail
    refine wp_region_stage 6 (by kernel_rfl) (by kernel_rfl) (OwnS 1 3 4 5 w1 m) (fun k v => k = 0 ∨ k = 2 → v = .agg #[.slice A1 m.laced.length c1, .int .i64 m.change, .slice A2 m.orders.length c2]) (fun x => OwnS.start 1 3 4 5 w1 m x) ?_ ?_
    · simp only [List.take, AllOps3, fill, Act.put, List.setIfInBounds_toArray, List.set_cons_zero, List.set_cons_succ, Nat.reduceAdd, DepsV, DepsL, List.filter_cons, List.filter_nil, Region.binds, if_true, and_true, Closed]
      refine ⟨?_, ?_, ?_, ?_, ?_, ?_⟩
      all_goals
        intro Ld x W hS hcl hnl hdl hd K Q hK
        obtain ⟨k0, k1, k2⟩ := (hM1.ext hS.ext).c3
        have HK := Lib.hid hK; clear hK
        have HC := Lib.hid hcl; clear hcl
        have HD := Lib.hid hdl; clear hdl
        have HN := Lib.hid hnl; clear hnl
        have HS := Lib.hid hS; clear hS
        have Hd := Lib.hid hd; clear hd
      case refine_1 =>
        go_wp2_with fail
        exact HK.out _ _ (fun _ => rfl) (HS.out.pure (Ext.refl _) _ _ (by decide))
      case refine_3 =>
        go_wp2_with fail
        exact HK.out _ _ (fun _ => rfl) (HS.out.pure (Ext.refl _) _ _ (by decide))
      case refine_2 =>
        have h0 := Hd.out (by simp)
        have hk0 := HK.out; clear HK
        simp only [h0] at hk0 ⊢
        have HK := Lib.hid hk0; clear hk0 h0
        go_wp2_with fail
        refine (own_off _ m w1 W HS.out.ext (Hv.out.ext hE1) Hq.out).mono ?_
        rintro e w' ⟨v', rfl, hv', he'⟩
        go_wp2
        exact HK.out _ _ (fun h => absurd h (by decide)) (HS.out.doOwn he' _ hv' (by decide) (by decide) (by decide))
      case refine_4 =>
        have h0 := Hd.out.1 (by simp)
        have hk0 := HK.out; clear HK
        simp only [h0] at hk0 ⊢
        have HK := Lib.hid hk0; clear hk0 h0
        go_wp2_with fail
        refine (theirs_off _ m w1 W HS.out.ext (Hv.out.ext hE1) (by omega)).mono ?_
        rintro e w' ⟨v', rfl, hv', he'⟩
        go_wp2
        exact HK.out _ _ (fun h => absurd h (by decide)) (HS.out.doRef he' _ hv' (by decide) (by decide) (by decide))
      case refine_5 =>
        go_wp2_with fail
        exact HK.out _ _ (fun h => absurd h (by decide)) (HS.out.doC (by decide) (by decide) (by decide))
      case refine_6 =>
        go_wp2_with fail
        exact HK.out _ _ (fun h => absurd h (by decide)) (HS.out.doD (by decide) (by decide) (by decide))
    · intro x W hS hR
      obtain ⟨g, g', A3, c3, A4, c4, B1, e1, B2, e2, x4, x5, hg, hg', b4, b5, hne, x1, x3, v1, v3⟩ := hS.done (by decide) (by decide) (by decide) (by decide)
      have heW := hS.ext
      simp only [AllV, true_and] at hR
      have x0 := hR.1.1.1.1.1 (by simp)
      have x2 := hR.1.1.1.2 (by simp)
      simp only [List.take, List.drop, fill, Act.put, List.setIfInBounds_toArray, List.set_cons_zero, List.set_cons_succ, Nat.reduceAdd, x0, x1, x2, x3, x4, x5]
      rw [x1] at v1
      rw [x3] at v3
      clear hR hS x0 x1 x2 x3 x4 x5
      obtain ⟨u0, u1, u2⟩ := b4.c3
      obtain ⟨y0, y1, y2⟩ := b5.c3
      have f0 := b4.frozen 0; have f1 := b4.frozen 1; have f2 := b4.frozen 2
      have h0 := b5.frozen 0; have h1 := b5.frozen 1; have h2 := b5.frozen 2
      have hne' : g' ≠ g := fun h => hne h.symm
      have V1 := Lib.hid v1; have V3 := Lib.hid v3; clear v1 v3
      have B4 := Lib.hid b4; have B5 := Lib.hid b5; clear b4 b5
      go_wp2_with fail
      obtain ⟨hE2, bO, bX, vO, vX⟩ := own_stored (.slice A3 m.laced.length c3) (.int .i64 m.change) (.slice A4 m.orders.length c4) (.slice B1 m.laced.length e1) (.int .i64 m.change) (.slice B2 m.orders.length e2) heW hg hg' B4.out B5.out hne V1.out V3.out
      clear u0 u1 u2 y0 y1 y2 f0 f1 f2 h0 h1 h2 B4 B5 V1 V3 heW
      generalize (((((W.setCell _ _).setCell _ _).setCell _ _).setCell _ _).setCell _ _).setCell _ _ = W2 at *
      have hE3 := hE1.trans hE2
      have hM3 := hM1.ext hE2
      have hVm := Lib.hid ((Hv.out.ext hE1).ext hE2)
      have hvO := Lib.hid vO; have hvX := Lib.hid vX
      clear hE1 hM1 hE2 vO vX hg hg' hne hne'
      obtain ⟨k0, k1, k2⟩ := bX.c3
      obtain ⟨r, hr⟩ : ∃ r, checkE m = r := ⟨_, rfl⟩
      have hck := Lib.hid (check5_any _ m r hr W2 hvX.out)
      have Hr := Lib.hid hr; clear hr
      go_wp2_with fail
      refine hck.out.mono ?_
      rintro e w3 ⟨rfl, he3⟩
      have hE4 := hE3.trans he3
      have hM4 := hM3.ext he3
      have bO4 := bO.ext he3
      have bX4 := bX.ext he3
      have hVm4 := Lib.hid (hVm.out.ext he3)
      have hvO4 := Lib.hid (hvO.out.ext he3); have hvX4 := Lib.hid (hvX.out.ext he3)
      clear hE3 hM3 bO bX hVm hvO hvX he3 hck k0 k1 k2
      obtain ⟨k0, k1, k2⟩ := bX4.c3
      by_cases hr0 : r = 0
      · subst hr0
        obtain ⟨l1, l2, l3⟩ := check_len Hr.out
        obtain ⟨N, hN⟩ : ∃ N, N = 2 ^ m.orders.length := ⟨_, rfl⟩
        have hNb : 1 ≤ N ∧ N ≤ 128 := by
          have h1 : 2 ^ m.orders.length ≤ 2 ^ 7 := Nat.pow_le_pow_right (by omega) l3
          have h2 : (2 : Nat) ^ 7 = 128 := by decide
          have h3 := Nat.two_pow_pos m.orders.length
          omega
        have HN := Lib.hid hN; clear hN
        have hfw := Lib.hid (fewest_any _ m Hr.out N HN.out w3 hvX4.out)
        go_wp2_with fail
        refine hfw.out.mono ?_
        rintro e w4 ⟨S, rfl, hS1, hS2, he4⟩
        have hE4' := hE4.trans he4
        have hM4' := hM4.ext he4
        have bO4' := bO4.ext he4
        have bX4' := bX4.ext he4
        have hVm4' := Lib.hid (hVm4.out.ext he4)
        have hvO4' := Lib.hid (hvO4.out.ext he4)
        have hl5 := Lib.hid (late5_any _ m Hr.out N S HN.out w4 (hvX4.out.ext he4) hS2)
        clear hE4 hM4 bO4 bX4 hVm4 hvO4 hvX4 he4 hfw k0 k1 k2 hS1
        obtain ⟨k0, k1, k2⟩ := bX4'.c3
        go_wp2_with fail
        refine hl5.out.mono ?_
        rintro e w5 ⟨lv, rfl, hlv, he5⟩
        have hE5 := hE4'.trans he5
        have hM5 := hM4'.ext he5
        have bO5 := bO4'.ext he5
        have hS5 := hS2.ext he5
        have hVm5 := Lib.hid (hVm4'.out.ext he5)
        have hvO5 := Lib.hid (hvO4'.out.ext he5)
        obtain ⟨ls, hls0⟩ : ∃ ls, ls = (lateR m).getD [] := ⟨_, rfl⟩
        rw [← hls0] at hlv
        have hls := Lib.hid (hls0.trans (by rw [late_same m Hr.out] : (lateR m).getD [] = (lateS m).getD []))
        clear hls0
        obtain ⟨Al, cl, rfl, s1, s2, hlv5⟩ := hlv
        have hlv5 := Lib.hid hlv5
        clear hE4' hM4' bO4' bX4' hVm4' hvO4' he5 hl5 k0 k1 k2 hS2
        obtain ⟨k0, k1, k2⟩ := hM5.c3
        go_wp2_with fail
        clear k0 k1 k2
        go_loopw [6, 7, 10, 36] (fun u f st i wr => ∃ k s : Nat, k ≤ m.orders.length ∧ i = .int .i64 k ∧ st = .int .i64 s ∧ wr = w5 ∧ Hid (s = 2 ^ k) ∧ 1 ≤ s ∧ s ≤ N ∧ ∃ fu fr : Int, u = .int .i64 fu ∧ f = .int .i64 fr ∧ Hid ((fu = 6 ∧ fr = 0 ∧ ∀ j, j < k → decide (fewR m (2 ^ (j + 1) - 1) < 0) = false) ∨ (fu = 0 ∧ ∃ k0 : Nat, fr = k0 ∧ firstS m = some k0))) (fun _ _ _ i _ => m.orders.length - (intOf i).toNat)
        case atStart => exact ⟨0, 1, by omega, rfl, rfl, rfl, rfl, by omega, by omega, 6, 0, rfl, rfl, .inl ⟨rfl, rfl, fun j hj => absurd hj (by omega)⟩⟩
        case round =>
          obtain ⟨k, s, hk, rfl, rfl, rfl, hs, hs1, hs2, fu, fr, rfl, rfl, hst⟩ := hrel
          by_cases hlt : k < m.orders.length
          · have hs' : Hid (s * 2 = 2 ^ (k + 1)) := by unfold Hid; rw [hs.out, Nat.pow_succ]
            have hsN : s * 2 ≤ N := by
              have := hs'.out
              have h1 : 2 ^ (k + 1) ≤ 2 ^ m.orders.length := Nat.pow_le_pow_right (by omega) (by omega)
              have := HN.out
              omega
            obtain ⟨y, hy⟩ : ∃ y, y = s * 2 - 1 := ⟨_, rfl⟩
            have hyN : y < N := by omega
            have hcell := hS5.cell (j := y) hyN
            have hmul : (s : Int) * 2 = (y : Int) + 1 := by omega
            have hyp : Hid (y = 2 ^ (k + 1) - 1) := by unfold Hid; rw [← hs'.out]; exact hy
            have Hy := Lib.hid hy; clear hy
            obtain ⟨fv, hfv⟩ : ∃ fv, fewR m y = fv := ⟨_, rfl⟩
            rw [hfv] at hcell
            have Hfv := Lib.hid hfv; clear hfv
            rcases hst.out with ⟨h1, h2, h3⟩ | ⟨h1, k0, h2, h3⟩
            · subst h1; subst h2
              have H3 := Lib.hid h3; clear h3
              by_cases hneg : fv < 0
              · go_wp2_with fail
                go_roundw
                case rel =>
                  refine ⟨k + 1, s * 2, by omega, by go_num, by rw [← hmul]; go_num, trivial, hs', by omega, hsN, 0, k, rfl, rfl, .inr ⟨rfl, k, rfl, ?_⟩⟩
                  rw [first_same m Hr.out]
                  refine find_range hlt ?_ H3.out
                  rw [← hyp.out, Hfv.out]; simpa using hneg
                case measure => simp [intOf]; omega
              · have hneg' : decide (fv < 0) = false := by simpa using hneg
                go_wp2_with fail
                go_roundw
                case rel =>
                  refine ⟨k + 1, s * 2, by omega, by go_num, by rw [← hmul]; go_num, trivial, hs', by omega, hsN, 6, 0, rfl, rfl, .inl ⟨rfl, rfl, fun j hj => ?_⟩⟩
                  by_cases e : j = k
                  · subst e; rw [← hyp.out, Hfv.out]; exact hneg'
                  · exact H3.out j (by omega)
                case measure => simp [intOf]; omega
            · subst h1; subst h2
              have H3 := Lib.hid h3; clear h3
              go_wp2_with fail
              go_roundw
              case rel => exact ⟨k + 1, s * 2, by omega, by go_num, by rw [← hmul]; go_num, trivial, hs', by omega, hsN, 0, k0, rfl, rfl, .inr ⟨rfl, k0, rfl, H3.out⟩⟩
              case measure => simp [intOf]; omega
          · obtain rfl : k = m.orders.length := by omega
            have HFI : Hid (firstE m = (fr, fu)) := by
              unfold Hid firstE
              rw [if_pos Hr.out]
              rcases hst.out with ⟨h1, h2, h3⟩ | ⟨h1, k0, h2, h3⟩
              · have : firstS m = none := by
                  rw [first_same m Hr.out]; exact find_none h3
                rw [this, h1, h2]
              · rw [h3, h1, h2]
            clear hst hs
            obtain ⟨k0, k1, k2⟩ := bO5.c3
            have hfi := Lib.hid (first_any _ m _ _ HFI.out _ hvO5.out)
            go_wp2_with fail
            refine hfi.out.mono ?_
            rintro e w6 ⟨rfl, he6⟩
            have hE6 := hE5.trans he6
            have hM6 := hM5.ext he6
            have bO6 := bO5.ext he6
            have hlv6 := Lib.hid (hlv5.out.ext he6)
            have hVm6 := Lib.hid (hVm5.out.ext he6); have hvO6 := Lib.hid (hvO5.out.ext he6)
            clear hE5 hM5 bO5 hlv5 hVm5 hvO5 he6 hfi k0 k1 k2
            obtain ⟨k0, k1, k2⟩ := bO6.c3
            have hla := Lib.hid (late_any _ m 0 Hr.out w6 hvO6.out)
            go_wp2_with fail
            refine hla.out.mono ?_
            rintro e w7 ⟨rv, rfl, hrv, he7⟩
            have hE7 := hE6.trans he7
            have hM7 := hM6.ext he7
            have bO7 := bO6.ext he7
            have hlv7 := hlv6.out.ext he7
            have hVm7 := Lib.hid (hVm6.out.ext he7); have hvO7 := Lib.hid (hvO6.out.ext he7)
            clear hE6 hM6 bO6 hlv6 hVm6 hvO6 he7 hla k0 k1 k2
            simp only [if_true] at hrv
            rw [← hls.out] at hrv
            obtain ⟨Ar, cr, rfl, r1, r2, r3⟩ := hrv
            have heq := Lib.hid (eqI Ar Al cr cl ls ls true (by simp) w7 (Nat.le_trans r1 r2) r3 hlv7)
            clear r3 hlv7
            go_wp2_with fail
            refine heq.out.mono ?_
            rintro e w8 ⟨rfl, he8⟩
            have hE8 := hE7.trans he8
            have hM8 := hM7.ext he8
            have bO8 := bO7.ext he8
            have hsm := Lib.hid (same_any _ _ m m true (by simp) w8 (hvO7.out.ext he8) (hVm7.out.ext he8))
            clear hE7 hM7 bO7 hVm7 hvO7 he8 heq
            obtain ⟨k0, k1, k2⟩ := bO8.c3
            obtain ⟨j0, j1, j2⟩ := hM8.c3
            go_wp2_with fail
            refine hsm.out.mono ?_
            rintro e w9 ⟨rfl, he9⟩
            have hE9 := hE8.trans he9
            clear hE8 hM8 bO8 he9 hsm k0 k1 k2 j0 j1 j2
            go_wp2_with fail
            refine (awake_any w9).mono ?_
            rintro e w10 ⟨rfl, he10⟩
            have hE10 := hE9.trans he10
            go_wp2_with fail
            go_ret
            exact ⟨rfl, hE10⟩
      · have HFI : Hid (firstE m = (0, r)) := by
          unfold Hid firstE
          rw [if_neg (by rw [Hr.out]; exact hr0), Hr.out]
        have hE5 := hE4; have hM5 := hM4; have bO5 := bO4
        have hVm5 := hVm4; have hvO5 := hvO4
        have hlv5 : Hid (IntsAt w3 none []) := fun k hk => by cases hk
        clear hE4 hM4 bO4 hVm4 hvO4 bX4 hvX4 k0 k1 k2
        have hd : (r == 0) = false := by simpa using hr0
        obtain ⟨k0, k1, k2⟩ := bO5.c3
        have hfi := Lib.hid (first_any _ m _ _ HFI.out _ hvO5.out)
        go_wp2_with fail
        refine hfi.out.mono ?_
        rintro e w6 ⟨rfl, he6⟩
        have hE6 := hE5.trans he6
        have hM6 := hM5.ext he6
        have bO6 := bO5.ext he6
        have hlv6 := Lib.hid (hlv5.out.ext he6)
        have hVm6 := Lib.hid (hVm5.out.ext he6); have hvO6 := Lib.hid (hvO5.out.ext he6)
        clear hE5 hM5 bO5 hlv5 hVm5 hvO5 he6 hfi k0 k1 k2
        obtain ⟨k0, k1, k2⟩ := bO6.c3
        have hla := Lib.hid (late_any _ m r Hr.out w6 hvO6.out)
        go_wp2_with fail
        refine hla.out.mono ?_
        rintro e w7 ⟨rv, rfl, hrv, he7⟩
        have hE7 := hE6.trans he7
        have hM7 := hM6.ext he7
        have bO7 := bO6.ext he7
        have hlv7 := hlv6.out.ext he7
        have hVm7 := Lib.hid (hVm6.out.ext he7); have hvO7 := Lib.hid (hvO6.out.ext he7)
        clear hE6 hM6 bO6 hlv6 hVm6 hvO6 he7 hla k0 k1 k2
        rw [if_neg hr0] at hrv
        obtain ⟨Ar, cr, rfl, r1, r2, r3⟩ := hrv
        have heq := Lib.hid (eqI Ar none cr 0 [] [] true (by simp) w7 (Nat.le_trans r1 r2) r3 hlv7)
        clear r3 hlv7
        go_wp2_with fail
        refine heq.out.mono ?_
        rintro e w8 ⟨rfl, he8⟩
        have hE8 := hE7.trans he8
        have hM8 := hM7.ext he8
        have bO8 := bO7.ext he8
        have hsm := Lib.hid (same_any _ _ m m true (by simp) w8 (hvO7.out.ext he8) (hVm7.out.ext he8))
        clear hE7 hM7 bO7 hVm7 hvO7 he8 heq
        obtain ⟨k0, k1, k2⟩ := bO8.c3
        obtain ⟨j0, j1, j2⟩ := hM8.c3
        go_wp2_with fail
        refine hsm.out.mono ?_
        rintro e w9 ⟨rfl, he9⟩
        have hE9 := hE8.trans he9
        clear hE8 hM8 bO8 he9 hsm k0 k1 k2 j0 j1 j2
        go_wp2_with fail
        refine (awake_any w9).mono ?_
        rintro e w10 ⟨rfl, he10⟩
        have hE10 := hE9.trans he10
        go_wp2_with fail
        go_ret
        exact ⟨rfl, hE10⟩
end Go.Proofs.Pet
