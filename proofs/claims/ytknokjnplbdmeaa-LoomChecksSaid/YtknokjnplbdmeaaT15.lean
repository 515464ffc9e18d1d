/-
  LoomChecks, walked.
-/
import Derived.Test.YtknokjnplbdmeaaT12
import Derived.Test.YtknokjnplbdmeaaV1
namespace Go.Proofs.Pet
open Go Go.RowKit Go.Maps Go.Shelf

set_option maxRecDepth 100000 in
set_option maxHeartbeats 8000000 in
theorem loomChecks_any (v : Value) (m : Mill) (ov : Value) (o : Ord) (A : Option Addr) (c : Nat) (xs : List Int) (w : World) (hv : MillVal w v m) (ho : OrdVal w ov o) (hlc : xs.length ≤ c) (hlx : c ≤ maxLen) (hx : IntsAt w A xs) :
    Calls Try.prog 8 #[v, ov, .slice A xs.length c] w fun e w' => e = .returned (.bool true) ∧ Ext w w' := by
  have Hv := Lib.hid hv
  have Hx := Lib.hid hx
  have Ho := Lib.hid ho
  obtain ⟨A1, c1, A2, c2, rfl, h2, h3, h4, h5, h6, h7⟩ := hv
  obtain ⟨A3, c3, ⟨g1, g2⟩, rfl, g3⟩ := ho
  have hX1 := Ext.alloc w (.cells #[.slice A1 m.laced.length c1, .int .i64 m.change, .slice A2 m.orders.length c2] 25)
  have hM0 := Blk.new w 25 #[.slice A1 m.laced.length c1, .int .i64 m.change, .slice A2 m.orders.length c2]
  have hX2 := Ext.alloc (w.alloc (.cells #[.slice A1 m.laced.length c1, .int .i64 m.change, .slice A2 m.orders.length c2] 25)) (.cells #[.int .i64 o.pattern, .int .i64 o.days, .int .i64 o.by_, .slice A3 o.on.length c3] 78)
  have hO0 := Blk.new (w.alloc (.cells #[.slice A1 m.laced.length c1, .int .i64 m.change, .slice A2 m.orders.length c2] 25)) 78 #[.int .i64 o.pattern, .int .i64 o.days, .int .i64 o.by_, .slice A3 o.on.length c3]
  rw [World.size_alloc] at hO0
  have hM1 := hM0.ext hX2
  have hE1 := hX1.trans hX2
  clear h2 h3 h4 h5 h6 h7 hx hM0 hX1 hX2
  have Hg := Lib.hid (And.intro g1 g2)
  have Hon := Lib.hid g3
  clear g1 g2 g3
  obtain ⟨q, hq⟩ : ∃ q, greatB m = q := ⟨_, rfl⟩
  have hgr := Lib.hid (great_any _ m q hq _ (Hv.out.ext hE1))
  have Hq := Lib.hid hq; clear hq
  obtain ⟨k0, k1, k2⟩ := hM1.c3
  obtain ⟨j0, j1, j2, j3⟩ := hO0.c4
  go_enter Try.func8, Try.ntmps8
  go_wp2_with fail
  generalize (w.alloc _).alloc _ = W0 at *
  obtain ⟨OB, hOB⟩ : ∃ OB, w.heap.size + 1 = OB := ⟨_, rfl⟩
  have hOBg : w.heap.size < OB := by omega
  rw [hOB] at hO0 j0 j1 j2 j3 ⊢
  clear hOB
  refine hgr.out.mono ?_
  rintro e w1 ⟨rfl, he1⟩
  clear hgr k0 k1 k2 j0 j1 j2 j3
  replace hE1 := up he1 hE1; replace hM1 := up he1 hM1; replace hO0 := up he1 hO0
  clear he1
  obtain ⟨k0, k1, k2⟩ := hM1.c3
  obtain ⟨j0, j1, j2, j3⟩ := hO0.c4
  have hcase : (q = true ∨ q = false ∧ 8 < o.on.length ∨ q = false ∧ ¬ 8 < o.on.length ∧ 12 < xs.length) ∨ (q = false ∧ o.on.length ≤ 8 ∧ xs.length ≤ 12) := by cases q <;> simp <;> omega
  rcases hcase with hcase | ⟨rfl, h8, h12⟩
  · rcases hcase with rfl | ⟨rfl, h8⟩ | ⟨rfl, h8, h12⟩
    all_goals
      go_wp2_with fail
      refine (awake_any w1).mono ?_
      rintro e w2 ⟨rfl, he2⟩
      have hE2 := hE1.trans he2
      go_wp2_with fail
      go_ret
      exact ⟨rfl, hE2⟩
  · have hgb := great_bounds Hq.out
    have hd8 : decide (8 < o.on.length) = false := by simp; omega
    have hd8' : decide ((8 : Int) < (o.on.length : Int)) = false := by simp; omega
    have hd12 : decide (12 < xs.length) = false := by simp; omega
    have hd12' : decide ((12 : Int) < (xs.length : Int)) = false := by simp; omega
    go_wp2_with fail
    refine wp_region_stage 11 (by kernel_rfl) (by kernel_rfl) (fun Ld x W => OwnS 1 3 9 10 w1 m Ld x W ∧ (Ld 5 → OwnI W w1.heap.size 3 (x 5) xs) ∧ (Ld 8 → OwnI W w1.heap.size 3 (x 8) o.on))
      (fun k v => (k = 0 ∨ k = 2 → v = .agg #[.slice A1 m.laced.length c1, .int .i64 m.change, .slice A2 m.orders.length c2]) ∧ (k = 4 → v = .slice A xs.length c) ∧ (k = 6 → v = .pointer (some ⟨OB, 3, none⟩)) ∧ (k = 7 → v = .slice A3 o.on.length c3)) (fun x => ⟨OwnS.start 1 3 9 10 w1 m x, fun h => h.elim, fun h => h.elim⟩) ?_ ?_
    · simp only [List.take, AllOps3, fill, Act.put, List.setIfInBounds_toArray, List.set_cons_zero, List.set_cons_succ, Nat.reduceAdd, DepsV, DepsL, List.filter_cons, List.filter_nil, Region.binds, if_true, and_true, Closed]
      refine ⟨?_, ?_, ?_, ?_, ?_, ?_, ?_, ?_, ?_, ?_, ?_⟩
      all_goals
        intro Ld x W hS hcl hnl hdl hd K Q hK
        obtain ⟨k0, k1, k2⟩ := (hM1.ext hS.1.ext).c3
        obtain ⟨j0, j1, j2, j3⟩ := (hO0.ext hS.1.ext).c4
        have HK := Lib.hid hK; clear hK hcl hdl hnl
        have HS := Lib.hid hS; clear hS
        have Hd := Lib.hid hd; clear hd
      case refine_2 =>
        have h0 := Hd.out.1 (by simp)
        have hk0 := HK.out; clear HK
        simp only [h0] at hk0 ⊢
        have HK := Lib.hid hk0; clear hk0 h0
        go_wp2_with fail
        refine (own_off _ m w1 W HS.out.1.ext (Hv.out.ext hE1) Hq.out).mono ?_
        rintro e w' ⟨v', rfl, hv', he'⟩
        go_wp2
        exact HK.out _ _ ⟨fun h => absurd h (by decide), fun h => absurd h (by decide), fun h => absurd h (by decide), fun h => absurd h (by decide)⟩ ⟨HS.out.1.doOwn he' _ hv' (by decide) (by decide) (by decide), fun h => by rw [upd_ne (by decide)]; exact (HS.out.2.1 (h.resolve_right (by decide))).ext he', fun h => by rw [upd_ne (by decide)]; exact (HS.out.2.2 (h.resolve_right (by decide))).ext he'⟩
      case refine_4 =>
        have h0 := Hd.out.1.1 (by simp)
        have hk0 := HK.out; clear HK
        simp only [h0] at hk0 ⊢
        have HK := Lib.hid hk0; clear hk0 h0
        go_wp2_with fail
        refine (theirs_off _ m w1 W HS.out.1.ext (Hv.out.ext hE1) (by omega)).mono ?_
        rintro e w' ⟨v', rfl, hv', he'⟩
        go_wp2
        exact HK.out _ _ ⟨fun h => absurd h (by decide), fun h => absurd h (by decide), fun h => absurd h (by decide), fun h => absurd h (by decide)⟩ ⟨HS.out.1.doRef he' _ hv' (by decide) (by decide) (by decide), fun h => by rw [upd_ne (by decide)]; exact (HS.out.2.1 (h.resolve_right (by decide))).ext he', fun h => by rw [upd_ne (by decide)]; exact (HS.out.2.2 (h.resolve_right (by decide))).ext he'⟩
      case refine_6 =>
        have h0 := Hd.out.1.2.1 (by simp)
        have hk0 := HK.out; clear HK
        simp only [h0] at hk0 ⊢
        have HK := Lib.hid hk0; clear hk0 h0
        have hxW := Hx.out.ext (hE1.trans HS.out.1.ext)
        go_wp2_with fail
        refine (dupI A c xs W (by omega) hxW).mono ?_
        rintro e w' ⟨v', rfl, hv', he'⟩
        go_wp2
        exact HK.out _ _ ⟨fun h => absurd h (by decide), fun h => absurd h (by decide), fun h => absurd h (by decide), fun h => absurd h (by decide)⟩ ⟨HS.out.1.pure he' _ _ (by decide), fun h => by rw [upd_self]; exact hv'.mono HS.out.1.ext.size, fun h => by rw [upd_ne (by decide)]; exact (HS.out.2.2 (h.resolve_right (by decide))).ext he'⟩
      case refine_8 =>
        have h0 := Hd.out.2.2.1 (by simp)
        have hk0 := HK.out; clear HK
        simp only [h0] at hk0 ⊢
        have HK := Lib.hid hk0; clear hk0 h0
        go_wp2_with fail
        exact HK.out _ _ ⟨fun h => absurd h (by decide), fun h => absurd h (by decide), fun h => absurd h (by decide), fun _ => rfl⟩ ⟨HS.out.1.pure (Ext.refl _) _ _ (by decide), fun h => by rw [upd_ne (by decide)]; exact HS.out.2.1 (h.resolve_right (by decide)), fun h => by rw [upd_ne (by decide)]; exact HS.out.2.2 (h.resolve_right (by decide))⟩
      case refine_9 =>
        have h0 := Hd.out.1.2.2.2 (by simp)
        have hk0 := HK.out; clear HK
        simp only [h0] at hk0 ⊢
        have HK := Lib.hid hk0; clear hk0 h0
        have hxW := Hon.out.ext (hE1.trans HS.out.1.ext)
        go_wp2_with fail
        refine (dupI A3 c3 o.on W (by omega) hxW).mono ?_
        rintro e w' ⟨v', rfl, hv', he'⟩
        go_wp2
        exact HK.out _ _ ⟨fun h => absurd h (by decide), fun h => absurd h (by decide), fun h => absurd h (by decide), fun h => absurd h (by decide)⟩ ⟨HS.out.1.pure he' _ _ (by decide), fun h => by rw [upd_ne (by decide)]; exact (HS.out.2.1 (h.resolve_right (by decide))).ext he', fun h => by rw [upd_self]; exact hv'.mono HS.out.1.ext.size⟩
      case refine_10 =>
        go_wp2_with fail
        exact HK.out _ _ ⟨fun h => absurd h (by decide), fun h => absurd h (by decide), fun h => absurd h (by decide), fun h => absurd h (by decide)⟩ ⟨HS.out.1.doC (by decide) (by decide) (by decide), fun h => by rw [upd_ne (by decide)]; exact (HS.out.2.1 (h.resolve_right (by decide))).ext (Ext.alloc _ _), fun h => by rw [upd_ne (by decide)]; exact (HS.out.2.2 (h.resolve_right (by decide))).ext (Ext.alloc _ _)⟩
      case refine_11 =>
        go_wp2_with fail
        exact HK.out _ _ ⟨fun h => absurd h (by decide), fun h => absurd h (by decide), fun h => absurd h (by decide), fun h => absurd h (by decide)⟩ ⟨HS.out.1.doD (by decide) (by decide) (by decide), fun h => by rw [upd_ne (by decide)]; exact (HS.out.2.1 (h.resolve_right (by decide))).ext (Ext.alloc _ _), fun h => by rw [upd_ne (by decide)]; exact (HS.out.2.2 (h.resolve_right (by decide))).ext (Ext.alloc _ _)⟩
      all_goals
        go_wp2_with fail
        exact HK.out _ _ ⟨fun h => by first | rfl | exact absurd h (by decide), fun h => by first | rfl | exact absurd h (by decide), fun h => by first | rfl | exact absurd h (by decide), fun h => by first | rfl | exact absurd h (by decide)⟩ ⟨HS.out.1.pure (Ext.refl _) _ _ (by decide), fun h => by rw [upd_ne (by decide)]; exact HS.out.2.1 (h.resolve_right (by decide)), fun h => by rw [upd_ne (by decide)]; exact HS.out.2.2 (h.resolve_right (by decide))⟩
    · intro x W hS hR
      obtain ⟨hS, hmi, hni⟩ := hS
      have hmi := hmi (by decide)
      have hni := hni (by decide)
      obtain ⟨g, g', A4, c4, A5, c5, B1, e1, B2, e2, x9, x10, hg, hg', b4, b5, hne, x1, x3, v1, v3⟩ := hS.done (by decide) (by decide) (by decide) (by decide)
      have heW := hS.ext
      simp only [AllV, true_and] at hR
      have x0 := hR.1.1.1.1.1.1.1.1.1.1.1 (by simp)
      have x2 := hR.1.1.1.1.1.1.1.1.2.1 (by simp)
      have x4 := hR.1.1.1.1.1.1.2.2.1 (by simp)
      have x6 := hR.1.1.1.1.2.2.2.1 (by simp)
      have x7 := hR.1.1.1.2.2.2.2 (by simp)
      obtain ⟨Am, cm, x5, m1, m2, _⟩ := hmi.open_
      obtain ⟨An, cn, x8, m3, m4, _⟩ := hni.open_
      simp only [List.take, List.drop, fill, Act.put, List.setIfInBounds_toArray, List.set_cons_zero, List.set_cons_succ, Nat.reduceAdd, x0, x1, x2, x3, x4, x5, x6, x7, x8, x9, x10]
      rw [x1] at v1
      rw [x3] at v3
      rw [x5] at hmi
      rw [x8] at hni
      clear hR hS x0 x1 x2 x3 x4 x5 x6 x7 x8 x9 x10
      obtain ⟨u0, u1, u2⟩ := b4.c3
      obtain ⟨y0, y1, y2⟩ := b5.c3
      have f0 := b4.frozen 0; have f1 := b4.frozen 1; have f2 := b4.frozen 2
      have h0 := b5.frozen 0; have h1 := b5.frozen 1; have h2 := b5.frozen 2
      have hne' : g' ≠ g := fun h => hne h.symm
      have V1 := Lib.hid v1; have V3 := Lib.hid v3; clear v1 v3
      have B4 := Lib.hid b4; have B5 := Lib.hid b5; clear b4 b5
      have Hmi := Lib.hid hmi; have Hni := Lib.hid hni; clear hmi hni
      go_wp2_with fail
      obtain ⟨hE2, bO, bX, vO, vX⟩ := own_stored (.slice A4 m.laced.length c4) (.int .i64 m.change) (.slice A5 m.orders.length c5) (.slice B1 m.laced.length e1) (.int .i64 m.change) (.slice B2 m.orders.length e2) heW hg hg' B4.out B5.out hne V1.out V3.out
      have hmi2 := OwnI.stored2 (a0 := .slice A4 m.laced.length c4) (a1 := .int .i64 m.change) (a2 := .slice A5 m.orders.length c5) (b0 := .slice B1 m.laced.length e1) (b1 := .int .i64 m.change) (b2 := .slice B2 m.orders.length e2) Hmi.out B4.out B5.out
      have hni2 := OwnI.stored2 (a0 := .slice A4 m.laced.length c4) (a1 := .int .i64 m.change) (a2 := .slice A5 m.orders.length c5) (b0 := .slice B1 m.laced.length e1) (b1 := .int .i64 m.change) (b2 := .slice B2 m.orders.length e2) Hni.out B4.out B5.out
      clear u0 u1 u2 y0 y1 y2 f0 f1 f2 h0 h1 h2 B4 B5 V1 V3 heW Hmi Hni k0 k1 k2 j0 j1 j2 j3
      generalize (((((W.setCell _ _).setCell _ _).setCell _ _).setCell _ _).setCell _ _).setCell _ _ = W2 at *
      obtain ⟨Am', cm', em, hmc, hmx, hmi3, _⟩ := hmi2.open_
      injection em with em1 _ em2
      subst em1; subst em2
      obtain ⟨An', cn', en, hnc, hnx, hni3, _⟩ := hni2.open_
      injection en with en1 _ en2
      subst en1; subst en2
      have Hmi := Lib.hid hmi3; have Hni := Lib.hid hni3
      clear m1 m2 m3 m4 hmi2 hmi3 hni2 hni3
      have hE := hE1.trans hE2
      have hM := hM1.ext hE2
      have hO := hO0.ext hE2
      have hVm := Lib.hid ((Hv.out.ext hE1).ext hE2)
      have hvO := Lib.hid vO; have hvX := Lib.hid vX
      clear hE1 hM1 hO0 hE2 vO vX hg hg' hne hne'
      obtain ⟨k0, k1, k2⟩ := bX.c3
      obtain ⟨r, hr⟩ : ∃ r, checkE m = r := ⟨_, rfl⟩
      have hck := Lib.hid (check5_any _ m r hr W2 hvX.out)
      have Hr := Lib.hid hr; clear hr
      go_wp2_with fail
      refine hck.out.mono ?_
      rintro e w3 ⟨rfl, he3⟩
      clear hck k0 k1 k2
      replace hE := up he3 hE; replace hM := up he3 hM; replace hO := up he3 hO; replace bO := up he3 bO; replace bX := up he3 bX; replace Hmi := up he3 Hmi; replace Hni := up he3 Hni; replace hVm := up he3 hVm; replace hvO := up he3 hvO; replace hvX := up he3 hvX
      clear he3
      have hck := check_any _ m w3 hvO.out
      rw [Hr.out] at hck
      have Hck := Lib.hid hck; clear hck
      obtain ⟨k0, k1, k2⟩ := bO.c3
      go_wp2_with fail
      refine Hck.out.mono ?_
      rintro e w4 ⟨rfl, he4⟩
      clear Hck k0 k1 k2
      replace hE := up he4 hE; replace hM := up he4 hM; replace hO := up he4 hO; replace bO := up he4 bO; replace bX := up he4 bX; replace Hmi := up he4 Hmi; replace Hni := up he4 Hni; replace hVm := up he4 hVm; replace hvO := up he4 hvO; replace hvX := up he4 hvX
      clear he4
      obtain ⟨u0, hu0⟩ : ∃ u0, takeE m o = u0 := ⟨_, rfl⟩
      obtain ⟨v0, hv0⟩ : ∃ v0, listE m xs = v0 := ⟨_, rfl⟩
      have Hu0 := Lib.hid hu0; have Hv0 := Lib.hid hv0
      clear hu0 hv0
      have hGM0 := Blk.new w4 25 #[.slice none 0 0, .int .i64 0, .slice none 0 0]
      have hX1 := Ext.alloc w4 (.cells #[.slice none 0 0, .int .i64 0, .slice none 0 0] 25)
      have hGL := Blk.new (w4.alloc (.cells #[.slice none 0 0, .int .i64 0, .slice none 0 0] 25)) 25 #[.slice none 0 0, .int .i64 0, .slice none 0 0]
      have hX2 := Ext.alloc (w4.alloc (.cells #[.slice none 0 0, .int .i64 0, .slice none 0 0] 25)) (.cells #[.slice none 0 0, .int .i64 0, .slice none 0 0] 25)
      rw [World.size_alloc] at hGL
      have hGM := hGM0.ext hX2
      have hX := hX1.trans hX2
      clear hGM0 hX1 hX2
      go_upto_if 62 with fail
      obtain ⟨GM, hGMe⟩ : ∃ GM, w4.heap.size = GM := ⟨_, rfl⟩
      obtain ⟨GL, hGLe⟩ : ∃ GL, GM + 1 = GL := ⟨_, rfl⟩
      rw [hGMe] at hGM hGL ⊢
      rw [hGLe] at hGL ⊢
      have hgg : GM ≠ GL ∧ w4.heap.size ≤ GM ∧ w4.heap.size ≤ GL := by omega
      clear hGMe hGLe
      generalize (w4.alloc _).alloc _ = W5 at *
      go_cut [12, 13] (fun a12 a13 wx => a12 = .int .i64 u0 ∧ a13 = .int .i64 v0 ∧ Ext w4 wx ∧ Hid (MillAt wx GM (moreM m o u0)) ∧ Hid (MillAt wx GL (lessM m xs v0)))
      case first =>
        by_cases hr0 : r = 0
        · subst hr0
          have hM5 := hM.ext hX
          obtain ⟨k0, k1, k2⟩ := hM5.c3
          go_upto_if 66 with fail
          go_cut [12] (fun a12 wx => a12 = .int .i64 u0 ∧ Ext w4 wx ∧ Hid (MillAtS wx GM GL (moreM m o u0)) ∧ Blk wx GL 25 #[.slice none 0 0, .int .i64 0, .slice none 0 0])
          case first =>
            obtain ⟨ti, hi, hz0, hz1, hz2⟩ := info_parts info_order
            obtain ⟨ti5, hi5, hy0, hy1, hy2⟩ := info_parts info_order5
            have l3 := ((check_iff m).1 Hr.out).few
            by_cases h7 : m.orders.length = 7
            · have hu : u0 = 9 := by rw [← Hu0.out]; unfold takeE; rw [if_pos Hr.out, if_pos h7]
              have hd : ¬ m.orders.length < 7 := by omega
              subst hu
              clear h7
              go_wp2_with fail
              go_meet
              refine ⟨rfl, hX, ?_, hGL⟩
              unfold Hid moreM; rw [if_neg (by decide)]; exact MillAtS.none_ hGM
            · have hu : u0 = checkE (m.more o) := by rw [← Hu0.out]; unfold takeE; rw [if_pos Hr.out, if_neg h7]
              have hd : m.orders.length < 7 := by omega
              have Hu := Lib.hid hu
              have hth := Lib.hid (theirs_row _ m W5 (hVm.out.ext hX) (by omega))
              clear hu h7
              go_wp2_with fail
              refine hth.out.mono ?_
              rintro e w6 ⟨B3, d3, BO, dO, cs, rfl, hd3, hI3, o1, o2, he6⟩
              clear hth k0 k1 k2
              have hrow : Hid (w6.ownsRow W5.heap.size 80 4 (.slice BO m.orders.length dO) m.orders.length cs) := o1
              have hol : Hid (OrdList W5 cs m.orders) := o2
              have hI3 := Lib.hid hI3
              have hX6 := hX.trans he6
              have hGM6 := hGM.ext he6; have hGL6 := hGL.ext he6
              have hO6 := (hO.ext hX).ext he6
              clear o1 o2
              have hY := Blk.new w6 31 #[.slice B3 m.laced.length d3, .int .i64 m.change, .slice BO m.orders.length dO]
              have hXY := Ext.alloc w6 (.cells #[.slice B3 m.laced.length d3, .int .i64 m.change, .slice BO m.orders.length dO] 31)
              go_upto_region 13 with fail
              obtain ⟨Y, hYe⟩ : ∃ Y, w6.heap.size = Y := ⟨_, rfl⟩
              have hYg : W5.heap.size ≤ Y := by rw [← hYe]; exact he6.size
              rw [hYe] at hY ⊢
              have hE57 := he6.trans hXY
              have hrow7 := ownsRow_ext2 hrow.out hXY
              clear hYe hrow hXY hX6 hGM6 hGL6 hO6 he6
              generalize w6.alloc _ = W7 at *
              have hX9 := Ext.alloc W7 (.cells #[.int .i64 o.pattern, .int .i64 o.days, .int .i64 o.by_, .slice A3 o.on.length c3] 80)
              have hsrc := Src.list W7 [.int .i64 o.pattern, .int .i64 o.days, .int .i64 o.by_, .slice A3 o.on.length c3] 80
              have o1x := ownsRow_ext2 hrow7 hX9
              have hpO : ∀ v' w12, w12.ownsRow W5.heap.size 80 4 v' (m.orders.length + 1) (cs ++ [.int .i64 o.pattern, .int .i64 o.days, .int .i64 o.by_, .slice A3 o.on.length c3]) → (W7.alloc (.cells #[.int .i64 o.pattern, .int .i64 o.days, .int .i64 o.by_, .slice A3 o.on.length c3] 80)).grownBy w12 (Value.slice BO m.orders.length dO).ownBlock →
                  Blk w12 Y 31 #[.slice B3 m.laced.length d3, .int .i64 m.change, .slice BO m.orders.length dO] ∧ Blk (w12.setCell ⟨Y, 2, none⟩ v') Y 31 #[.slice B3 m.laced.length d3, .int .i64 m.change, v'] ∧ Ext W5 (w12.setCell ⟨Y, 2, none⟩ v') ∧
                    Hid (MillVal (w12.setCell ⟨Y, 2, none⟩ v') (.agg #[.slice B3 m.laced.length d3, .int .i64 m.change, v']) (m.more o)) := by
                intro v' w12 hown hg
                have hge := fun j hj => (ownsRow_own o1x j hj).1
                have hY12 := (hY.ext hX9).grown hg (ownsRow_ne_blk o1x (hY.ext hX9) (by decide))
                have hE9 := hE57.trans hX9
                have hE12 : Ext W5 (w12.setCell ⟨Y, 2, none⟩ v') := Below.setCell (Below.grown hE9 hg hE9.size (fun j hj => hge j hj)) hYg _
                refine ⟨hY12, by simpa using hY12.set_ 2 v', hE12, ?_⟩
                have hon := Hon.out.ext (hE.trans hX)
                have hOO : OwnO (w12.setCell ⟨Y, 2, none⟩ v') W5.heap.size 80 v' (m.orders ++ [o]) :=
                  ⟨_, by rw [List.length_append]; exact ownsRow_apart hown (fun e => ownsRow_ne_blk hown hY12 (by decide) e.symm) ((Apart.refl Y w12).set_ 2 _), (hol.out.append (show OrdList W5 [.int .i64 o.pattern, .int .i64 o.days, .int .i64 o.by_, .slice A3 o.on.length c3] [o] from ⟨rfl, rfl, rfl, ⟨A3, c3, Hg.out, rfl, hon⟩, trivial⟩)).ext hE12⟩
                exact MillVal.ofO (m := m.more o) hd3.1 hd3.2 (hI3.out.ext hE12) hOO
              have HpO := Lib.hid hpO
              clear hpO hrow7
              have hO7 := (hO.ext hX).ext hE57
              obtain ⟨j0, j1, j2, j3⟩ := hO7.c4
              obtain ⟨k0, k1, k2⟩ := hY.c3
              go_wp2_with (at_builtin; refine wpList_app rfl _ _ 29 rfl W5.heap.size 80 ti5 _ 4 48 Try.underlying29 hi5 hy0 hy1 hy2 rfl (by decide) (.slice BO m.orders.length dO) m.orders.length cs rfl o1x (some ⟨W7.heap.size, 0, none⟩) 1 1 [.int .i64 o.pattern, .int .i64 o.days, .int .i64 o.by_, .slice A3 o.on.length c3] rfl rfl hsrc ?c2 ?c3 ?c4 ?c5 ?_; (case c2 => (intro u hu; simp only [List.mem_cons, List.not_mem_nil, or_false] at hu; rcases hu with rfl | rfl | rfl | rfl <;> rfl)); (case c3 => (unfold maxLen; omega)); (case c4 => omega); (case c5 => exact (hE57.trans hX9).size); intro v' w12 hown hg hblk; obtain ⟨q0, q1, q3, q4⟩ := HpO.out v' w12 hown hg; obtain ⟨A9, c9, rfl⟩ := ownsRow_slice hown; obtain ⟨z0, z1, z2⟩ := q0.c3; have zf := q0.frozen 2; obtain ⟨y0, y1, y2⟩ := q1.c3; clear hsrc)
              generalize w12.setCell ⟨Y, 2, none⟩ (.slice A9 (m.orders.length + 1) c9) = W13 at *
              have Hck := Lib.hid (check5_any _ (m.more o) u0 Hu.out.symm W13 q4.out)
              clear z0 z1 z2 zf HpO j0 j1 j2 j3 k0 k1 k2 q0 q4 hown hg hblk o1x hX9 hY hO7 hE57 y0 y1 y2
              obtain ⟨y0, y1, y2⟩ := q1.c3
              refine Hck.out.mono ?_
              rintro e w14 ⟨rfl, he14⟩
              have hE14 := q3.trans he14
              clear Hck y0 y1 y2 q1 q3 he14 hol hI3
              by_cases hu0 : u0 = 0
              · subst hu0
                have hGM14 := hGM.ext hE14; have hGL14 := hGL.ext hE14
                have hM14 := hM5.ext hE14
                have how := Lib.hid (own_sep _ m w14 (hVm.out.ext (hX.trans hE14)) Hq.out)
                obtain ⟨k0, k1, k2⟩ := hM14.c3
                have hXE := hX.trans hE14
                have hO14 := hO.ext hXE
                clear hE14 hGM hGL hM14 hX
                go_wp2_with fail
                refine how.out.mono ?_
                rintro e w15 ⟨a, b, rfl, hl, hsep, he15⟩
                clear how k0 k1 k2
                obtain ⟨Aa, ca, rfl, a1, a2, _, _⟩ := hl.open_
                obtain ⟨Ab, cb, rfl, _, _, _⟩ := hsep.ords
                have hob := hsep.ob
                have hGM15 := hGM14.ext he15; have hGL15 := hGL14.ext he15; have hO15 := hO14.ext he15; have hXE15 := hXE.trans he15
                have hbase : w4.heap.size ≤ w14.heap.size := hXE.size
                have f0 := hGM15.frozen 0; have f1 := hGM15.frozen 1; have f2 := hGM15.frozen 2
                obtain ⟨z0, z1, z2⟩ := hGM15.c3
                have Hl := Lib.hid hl; have Hob := Lib.hid hob
                have hs15 := he15.size
                have hGL14lt := hGL14.lt
                have hGM14lt := hGM14.lt
                clear hl hob hsep hGM14 hGL14 hO14 hXE he15
                go_upto_region 17 with fail
                clear f0 f1 f2 z0 z1 z2
                generalize hW16 : ((w15.setCell _ _).setCell _ _).setCell _ _ = W16
                have hGM16 : Blk W16 GM 25 #[.slice Aa m.laced.length ca, .int .i64 m.change, .slice Ab m.orders.length cb] := by
                  rw [← hW16]; exact ((hGM15.set_ 0 _).set_ 1 _).set_ 2 _
                have hl16 : Hid (OwnI W16 w14.heap.size 3 (.slice Aa m.laced.length ca) m.laced) := by
                  rw [← hW16]; exact (((Hl.out.far hGM15 (by decide) _ _).far (hGM15.set_ 0 _) (by decide) _ _).far ((hGM15.set_ 0 _).set_ 1 _) (by decide) _ _)
                have hob16 : OwnOB W16 w14.heap.size (.slice Ab m.orders.length cb) m.orders := by
                  have hlt : GM < w14.heap.size := hGM14lt
                  rw [← hW16]; exact (((Hob.out.far hGM15 (by decide) (.inr hlt) _ _).far (hGM15.set_ 0 _) (by decide) (.inr hlt) _ _).far ((hGM15.set_ 0 _).set_ 1 _) (by decide) (.inr hlt) _ _)
                have hE16 : Ext w4 W16 := by
                  rw [← hW16]
                  exact Below.setCell (Below.setCell (Below.setCell hXE15 (by show _ ≤ GM; omega) _) (by show _ ≤ GM; omega) _) (by show _ ≤ GM; omega) _
                have hGL16 : Blk W16 GL 25 #[.slice none 0 0, .int .i64 0, .slice none 0 0] := by
                  rw [← hW16]; exact ((hGL15.far (by show GL ≠ GM; omega) _).far (by show GL ≠ GM; omega) _).far (by show GL ≠ GM; omega) _
                have hs16 : w14.heap.size ≤ W16.heap.size := by rw [← hW16]; simpa [World.setCell] using hs15
                have hO16 := hO.ext hE16
                clear hW16 hGM15 hGL15 hO15 hXE15 Hl Hob
                obtain ⟨cs2, p1, p2⟩ := hob16
                have hX9 := Ext.alloc W16 (.cells #[.int .i64 o.pattern, .int .i64 o.days, .int .i64 o.by_, .slice A3 o.on.length c3] 78)
                have hsrc := Src.list W16 [.int .i64 o.pattern, .int .i64 o.days, .int .i64 o.by_, .slice A3 o.on.length c3] 78
                have p1x := ownsRow_ext2 p1 hX9
                have hs9 : w14.heap.size ≤ (W16.alloc (.cells #[.int .i64 o.pattern, .int .i64 o.days, .int .i64 o.by_, .slice A3 o.on.length c3] 78)).heap.size := Nat.le_trans hs16 hX9.size
                have hpO : ∀ v' w12, w12.ownsRow w14.heap.size 78 4 v' (m.orders.length + 1) (cs2 ++ [.int .i64 o.pattern, .int .i64 o.days, .int .i64 o.by_, .slice A3 o.on.length c3]) → (W16.alloc (.cells #[.int .i64 o.pattern, .int .i64 o.days, .int .i64 o.by_, .slice A3 o.on.length c3] 78)).grownBy w12 (Value.slice Ab m.orders.length cb).ownBlock →
                    Blk w12 GM 25 #[.slice Aa m.laced.length ca, .int .i64 m.change, .slice Ab m.orders.length cb] ∧ Ext w4 (w12.setCell ⟨GM, 2, none⟩ v') ∧ Blk (w12.setCell ⟨GM, 2, none⟩ v') GL 25 #[.slice none 0 0, .int .i64 0, .slice none 0 0] ∧
                      Hid (MillAtS (w12.setCell ⟨GM, 2, none⟩ v') GM GL (m.more o)) := by
                  intro v' w12 hown hg
                  have hge := fun j hj => (ownsRow_own p1x j hj).1
                  have hGM9 := hGM16.ext hX9; have hGL9 := hGL16.ext hX9
                  have hGM12 := hGM9.grown hg (ownsRow_ne_blk p1x hGM9 (by decide))
                  have hGL12 := hGL9.grown hg (ownsRow_ne_blk p1x hGL9 (by decide))
                  have hE9 := hE16.trans hX9
                  have hE12 : Ext w4 w12 := Below.grown hE9 hg hE9.size (fun j hj => by have := hge j hj; omega)
                  have hE13 : Ext w4 (w12.setCell ⟨GM, 2, none⟩ v') := Below.setCell hE12 (by show _ ≤ GM; omega) _
                  refine ⟨hGM12, hE13, hGL12.far (by show GL ≠ GM; omega) _, ?_⟩
                  have h2' : OrdOwn (w12.setCell ⟨GM, 2, none⟩ v') w14.heap.size cs2 m.orders := p2.map fun _ _ g => ((g.ext hX9).grownT (by decide) hg p1x).far hGM12 (by decide) 2 v'
                  have hrow2 := ownsRow_apart hown (fun e => ownsRow_ne_blk hown hGM12 (by decide) e.symm) ((Apart.refl GM w12).set_ 2 v')
                  have hl2 : OrdList (w12.setCell ⟨GM, 2, none⟩ v') (cs2 ++ [.int .i64 o.pattern, .int .i64 o.days, .int .i64 o.by_, .slice A3 o.on.length c3]) (m.orders ++ [o]) :=
                    h2'.list.append (show OrdList _ [.int .i64 o.pattern, .int .i64 o.days, .int .i64 o.by_, .slice A3 o.on.length c3] [o] from ⟨rfl, rfl, rfl, ⟨A3, c3, Hg.out, rfl, Hon.out.ext (hE.trans hE13)⟩, trivial⟩)
                  have hoff : ∀ j, w14.heap.size ≤ j → ¬ (j = GL) := fun j hj e => by omega
                  have ho2 : OrdOff (fun j => j = GL) (cs2 ++ [.int .i64 o.pattern, .int .i64 o.days, .int .i64 o.by_, .slice A3 o.on.length c3]) (m.orders ++ [o]) := by
                    have hoo : OrdOff (fun j => j = GL) [.int .i64 o.pattern, .int .i64 o.days, .int .i64 o.by_, .slice A3 o.on.length c3] [o] := by
                      refine ⟨fun hne A n c e ad e2 e3 => ?_, trivial⟩
                      injection e with e4 _ _
                      have h1 := Hon.out.lt hne ad (by rw [e4]; exact e2)
                      have h2 := hE.size
                      omega
                    exact OrdOff.append hoo h2'.list (h2'.off hoff)
                  have hl9 := ((hl16.out.ext hX9).grownT (by decide) hg p1x).far hGM12 (by decide) 2 v'
                  obtain ⟨_, _, e9, a3, a4, a5, a6, _⟩ := hl9.open_
                  injection e9 with e1 _ e2
                  subst e1; subst e2
                  have hb13 : Blk (w12.setCell ⟨GM, 2, none⟩ v') GM 25 #[.slice Aa m.laced.length ca, .int .i64 m.change, v'] := by simpa using hGM12.set_ 2 v'
                  exact ⟨_, _, hb13, MillValS.ofO (m := m.more o) hoff a3 a4 a5 (fun _ ad e => hoff _ (a6 ad e).1) (by show World.ownsRow _ _ _ _ _ (m.orders ++ [o]).length _; rw [List.length_append]; exact hrow2) hl2 ho2⟩
                have HpO := Lib.hid hpO
                clear hpO p1 p2 hl16 hGL16 hE16
                obtain ⟨j0, j1, j2, j3⟩ := hO16.c4
                obtain ⟨k0, k1, k2⟩ := hGM16.c3
                go_wp2_with (at_builtin; refine wpList_app rfl _ _ 23 rfl w14.heap.size 78 ti _ 4 48 Try.underlying23 hi hz0 hz1 hz2 rfl (by decide) (.slice Ab m.orders.length cb) m.orders.length cs2 rfl p1x (some ⟨W16.heap.size, 0, none⟩) 1 1 [.int .i64 o.pattern, .int .i64 o.days, .int .i64 o.by_, .slice A3 o.on.length c3] rfl rfl hsrc ?c2 ?c3 ?c4 ?c5 ?_; (case c2 => (intro u hu; simp only [List.mem_cons, List.not_mem_nil, or_false] at hu; rcases hu with rfl | rfl | rfl | rfl <;> rfl)); (case c3 => (unfold maxLen; omega)); (case c4 => omega); (case c5 => exact hs9); intro v' w12 hown hg hblk; obtain ⟨q0, q1, q3, q4⟩ := HpO.out v' w12 hown hg; obtain ⟨A9, c9, rfl⟩ := ownsRow_slice hown; obtain ⟨z0, z1, z2⟩ := q0.c3; have zf := q0.frozen 2; clear hsrc)
                go_meet
                refine ⟨rfl, q1, ?_, q3⟩
                unfold Hid moreM; rw [if_pos rfl]; exact q4.out
              · have hd0 : ((u0 == 0) : Bool) = false := by simpa using hu0
                have Hu0n := Lib.hid hu0
                clear hu0
                go_wp2_with fail
                go_meet
                refine ⟨rfl, hX.trans hE14, ?_, hGL.ext hE14⟩
                unfold Hid moreM; rw [if_neg Hu0n.out]; exact MillAtS.none_ (hGM.ext hE14)
          case rest =>
            obtain ⟨rfl, hEc, hmo, hGLc⟩ := hcut
            have hls := Lib.hid (listed5_any _ m A c xs v0 (by rw [← Hv0.out]; unfold listE; rw [if_pos Hr.out]) wc (hvX.out.ext hEc) hlc hlx (Hx.out.ext (hE.trans hEc)))
            have bXc := bX.ext hEc
            clear hX hGM hGL hM5 k0 k1 k2
            obtain ⟨k0, k1, k2⟩ := bXc.c3
            go_wp2_with fail
            refine hls.out.mono ?_
            rintro e w6 ⟨rfl, he6⟩
            clear hls k0 k1 k2 bXc
            have hE6 := hEc.trans he6
            have hmo6 := Lib.hid (hmo.out.ext he6)
            have hGL6 := hGLc.ext he6
            clear hEc he6 hmo hGLc
            by_cases hv0 : v0 = 0
            · subst hv0
              have hM6 := hM.ext hE6
              obtain ⟨k0, k1, k2⟩ := hM6.c3
              have f0 := hGL6.frozen 0; have f1 := hGL6.frozen 1; have f2 := hGL6.frozen 2
              obtain ⟨z0, z1, z2⟩ := hGL6.c3
              go_upto_region 21 with fail
              clear f0 f1 f2 z0 z1 z2 k0 k1 k2 hM6
              generalize hW7 : ((w6.setCell _ _).setCell _ _).setCell _ _ = W7
              have hGL7 : Blk W7 GL 25 #[.slice A1 m.laced.length c1, .int .i64 m.change, .slice none 0 0] := by
                rw [← hW7]; exact ((hGL6.set_ 0 _).set_ 1 _).set_ 2 _
              have hA7 : Apart GL w6 W7 := by rw [← hW7]; exact (((Apart.refl GL w6).set_ 0 _).set_ 1 _).set_ 2 _
              have hmo7 := Lib.hid (hmo6.out.apart hgg.1 hA7)
              have hE7 := Apart.ext_of hE6 hgg.2.2 hA7
              have hGLM := hGL7.lt
              clear hW7 hA7 hGL6 hE6 hmo6
              have hmm := @run_makeMap Try.prog
              have hg0 := GoneMap.made W7
              have hXM := Ext.alloc W7 (.map #[] 0)
              go_upto_region 22 with fail
              clear hmm
              obtain ⟨MP, hMP⟩ : ∃ MP, W7.heap.size = MP := ⟨_, rfl⟩
              rw [hMP] at hg0 hGLM ⊢
              have hMP2 : W7.heap.size ≤ MP := by omega
              clear hMP
              generalize W7.alloc _ = W8 at *
              have Hrng : Hid (∀ k, k < xs.length → ∃ s : Nat, xs[k]?.getD 0 = (s : Int) ∧ s < m.orders.length) := by
                have h0 : listedE m xs = 0 := by have := Hv0.out; unfold listE at this; rwa [if_pos Hr.out] at this
                unfold listedE at h0
                split at h0
                · cases h0
                · rename_i hall
                  rw [Bool.not_eq_false, List.all_eq_true] at hall
                  intro k hk
                  have := hall _ (List.getElem_mem hk)
                  unfold inB at this
                  rw [List.getElem?_eq_getElem hk, Option.getD_some]
                  simp at this
                  exact ⟨xs[k].toNat, by omega, by omega⟩
              have Hg0 := Lib.hid hg0
              clear hg0
              go_wp2_with fail
              go_loopw [100] (fun iv wr => ∃ k : Nat, k ≤ xs.length ∧ iv = .int .i64 k ∧ Ext W7 wr ∧ Hid (GoneMap wr MP k (fun s => (xs.take k).contains (s : Int)))) (fun iv _ => xs.length - (intOf iv).toNat)
              case atStart => exact ⟨0, by omega, rfl, hXM, Hg0.out⟩
              case round =>
                obtain ⟨k, hk, rfl, he, hgm⟩ := hrel
                by_cases hlt : k < xs.length
                · obtain ⟨s, hs1, hs2⟩ := Hrng.out k hlt
                  obtain ⟨b, ob, rfl, hcell⟩ := (Hx.out.ext (hE.trans (hE7.trans he))) k hlt
                  rw [hs1] at hcell
                  obtain ⟨w', hrun, hmap', hg'⟩ := hgm.out.store s (by omega) (by omega) true
                  have Hmap := Lib.hid hmap'
                  have Hg' := Lib.hid hg'
                  have Hs1 := Lib.hid hs1
                  clear hmap' hg' hs1 hgm
                  go_wp2_with fail
                  go_roundw
                  case rel =>
                    refine ⟨k + 1, by omega, by go_num, Below.grown he Hg'.out he.size (fun j e => by cases e; exact hMP2), ?_⟩
                    have e : (fun x : Nat => if x = s then true else (xs.take k).contains (x : Int)) = fun x : Nat => (xs.take (k + 1)).contains (x : Int) := by
                      funext x
                      have h1 : xs.take (k + 1) = xs.take k ++ [(s : Int)] := by
                        rw [List.take_succ_eq_append_getElem hlt]
                        have := Hs1.out
                        rw [List.getElem?_eq_getElem hlt, Option.getD_some] at this
                        rw [this]
                      rw [h1, Bool.eq_iff_iff, List.contains_iff_mem, List.mem_append, List.mem_singleton]
                      by_cases e : x = s
                      · subst e; simp
                      · rw [if_neg e, List.contains_iff_mem]
                        exact ⟨.inl, fun h => h.resolve_right (by omega)⟩
                    unfold Hid
                    rw [← e]; exact Hmap.out
                  case measure => simp [intOf]; omega
                · obtain rfl : k = xs.length := by omega
                  have hgm9 : Hid (GoneMap wr MP xs.length (fun s => xs.contains (s : Int))) := by
                    have := hgm.out
                    rwa [List.take_length] at this
                  obtain ⟨W9, hW9⟩ : ∃ W9, W9 = wr := ⟨_, rfl⟩
                  rw [← hW9] at he hgm9 ⊢
                  have hE9 := hE7.trans he
                  have hM9 := hM.ext hE9
                  have hGL9 := hGL7.ext he
                  have hmo9 := Lib.hid (hmo7.out.ext he)
                  obtain ⟨k0, k1, k2⟩ := hM9.c3
                  have hMPGL : MP ≠ GL := by omega
                  have hGLlt := hGL9.lt
                  have hs49 := hE9.size
                  obtain ⟨ti, hi, hz0, hz1, hz2⟩ := info_parts info_order
                  clear hW9 hgm he Hg0 hXM
                  go_wp2_with fail
                  go_loopw [110] (fun iv wr => ∃ (k : Nat) (ov : Value), k ≤ m.orders.length ∧ iv = .int .i64 k ∧ Apart GL W9 wr ∧ Blk wr GL 25 #[.slice A1 m.laced.length c1, .int .i64 m.change, ov] ∧ Hid (∃ cs, wr.ownsRow W9.heap.size 78 4 ov (withoutL m xs k).length cs ∧ OrdList w cs (withoutL m xs k))) (fun iv _ => m.orders.length - (intOf iv).toNat)
                  case atStart => exact ⟨0, _, by omega, rfl, Apart.refl _ _, hGL9, ⟨[], World.ownsRow_nil _ _ _ _, trivial⟩⟩
                  case round =>
                    obtain ⟨k, bv, hk, rfl, hap, hbU, hO⟩ := hrel
                    have hszr := hap.size
                    have hEr := hE.trans (Apart.ext_of hE9 hgg.2.2 hap)
                    by_cases hlt : k < m.orders.length
                    · have hkc : ∃ b o A' ca', A2 = some ⟨b, o, none⟩ ∧ ((m.orders[k]?.getD default).on.length ≤ ca' ∧ ca' ≤ maxLen) ∧ w.cell? ⟨b, o + k * 4, none⟩ = some (.int .i64 (m.orders[k]?.getD default).pattern) ∧ w.cell? ⟨b, o + k * 4 + 1, none⟩ = some (.int .i64 (m.orders[k]?.getD default).days) ∧
                          w.cell? ⟨b, o + k * 4 + 2, none⟩ = some (.int .i64 (m.orders[k]?.getD default).by_) ∧ w.cell? ⟨b, o + k * 4 + 3, none⟩ = some (.slice A' (m.orders[k]?.getD default).on.length ca') ∧ IntsAt w A' (m.orders[k]?.getD default).on := by
                        obtain ⟨_, _, _, _, e, _, _, _, _, _, h⟩ := Hv.out
                        simp only [Value.agg.injEq, Array.mk.injEq, List.cons.injEq, Value.slice.injEq, and_true, true_and] at e
                        obtain ⟨⟨rfl, rfl⟩, rfl, rfl⟩ := e
                        obtain ⟨b, o, e2, A', ca', h1, h2, h3, h4, h5, h6⟩ := h k hlt
                        exact ⟨b, o, A', ca', e2, h1, h2, h3, h4, h5, h6⟩
                      obtain ⟨b, ob, A', c', rfl, hcap, q1, q2, q3, q4, hs⟩ := hkc
                      replace q1 := hEr.cell q1; replace q2 := hEr.cell q2; replace q3 := hEr.cell q3; replace q4 := hEr.cell q4
                      have hX6 := Ext.alloc wr (.cells #[.int .i64 (m.orders[k]?.getD default).pattern, .int .i64 (m.orders[k]?.getD default).days, .int .i64 (m.orders[k]?.getD default).by_, .slice A' (m.orders[k]?.getD default).on.length c'] 78)
                      have hB6 := Blk.new wr 78 #[.int .i64 (m.orders[k]?.getD default).pattern, .int .i64 (m.orders[k]?.getD default).days, .int .i64 (m.orders[k]?.getD default).by_, .slice A' (m.orders[k]?.getD default).on.length c']
                      obtain ⟨qc, hqc⟩ : ∃ qc, xs.contains (k : Int) = qc := ⟨_, rfl⟩
                      have hlk := ((hgm9.out.apart hMPGL hap).ext hX6).look k (by omega)
                      rw [hqc] at hlk
                      have Hs6 := Lib.hid hs; have Hcap := Lib.hid hcap
                      have hb6 := hbU.ext hX6
                      have hap6 := hap.trans (Apart.of_ext hX6)
                      obtain ⟨x0, hx0⟩ : ∃ x0, m.orders[k]?.getD default = x0 := ⟨_, rfl⟩
                      have Hx0 := Lib.hid hx0; have Hqc := Lib.hid hqc
                      have hO6 : Hid (∃ cs, (wr.alloc (.cells #[.int .i64 x0.pattern, .int .i64 x0.days, .int .i64 x0.by_, .slice A' x0.on.length c'] 78)).ownsRow W9.heap.size 78 4 bv (withoutL m xs k).length cs ∧ OrdList w cs (withoutL m xs k)) := by
                        rw [hx0] at hX6
                        obtain ⟨cs, o1, o2⟩ := hO.out
                        exact ⟨cs, ownsRow_ext2 o1 hX6, o2⟩
                      rw [hx0] at q1 q2 q3 q4 hB6 Hs6 Hcap hb6 hap6 hlk
                      clear hx0 hqc hs hcap hX6 hEr hO hap hbU
                      obtain ⟨b0, b1, b2, b3⟩ := hB6.c4
                      cases qc with
                      | true =>
                        go_wp2_with fail
                        go_roundw
                        case rel => exact ⟨k + 1, bv, by omega, by go_num, hap6, hb6, by rw [withoutL_in Hqc.out]; exact hO6.out⟩
                        case measure => simp [intOf]; omega
                      | false =>
                        obtain ⟨cs, o1, o2⟩ := hO6.out
                        obtain ⟨Av, cv, rfl⟩ := ownsRow_slice o1
                        have hln := withoutL_len m xs k
                        go_upto_region 31 with fail
                        generalize hW6 : wr.alloc _ = W6 at *
                        clear hW6 q1 q2 q3 q4 hlk
                        have hX9 := Ext.alloc W6 (.cells #[.int .i64 x0.pattern, .int .i64 x0.days, .int .i64 x0.by_, .slice A' x0.on.length c'] 78)
                        have hsrc := Src.list W6 [.int .i64 x0.pattern, .int .i64 x0.days, .int .i64 x0.by_, .slice A' x0.on.length c'] 78
                        have o1x := ownsRow_ext2 o1 hX9
                        have hb9 := hb6.ext hX9
                        have hap9 := hap6.trans (Apart.of_ext hX9)
                        have hsz9 := hap9.size
                        obtain ⟨L, hL⟩ : ∃ L, (withoutL m xs k).length = L := ⟨_, rfl⟩
                        have hpO : ∀ v' w12, w12.ownsRow W9.heap.size 78 4 v' (L + 1) (cs ++ [.int .i64 x0.pattern, .int .i64 x0.days, .int .i64 x0.by_, .slice A' x0.on.length c']) → (W6.alloc (.cells #[.int .i64 x0.pattern, .int .i64 x0.days, .int .i64 x0.by_, .slice A' x0.on.length c'] 78)).grownBy w12 (Value.slice Av L cv).ownBlock →
                            Blk w12 GL 25 #[.slice A1 m.laced.length c1, .int .i64 m.change, .slice Av L cv] ∧ Apart GL W9 (w12.setCell ⟨GL, 2, none⟩ v') ∧ Blk (w12.setCell ⟨GL, 2, none⟩ v') GL 25 #[.slice A1 m.laced.length c1, .int .i64 m.change, v'] ∧
                            Hid (∃ cs, (w12.setCell ⟨GL, 2, none⟩ v').ownsRow W9.heap.size 78 4 v' (withoutL m xs (k + 1)).length cs ∧ OrdList w cs (withoutL m xs (k + 1))) := by
                          intro v' w12 hown hg
                          rw [← hL] at hg hown
                          have hge := fun j hj => (ownsRow_own o1x j hj).1
                          have hb12 := hb9.grown hg (ownsRow_ne_blk o1x hb9 (by decide))
                          have hA12 := hap9.grown hg hge
                          have hown2 := ownsRow_apart hown (fun e => by have := (ownsRow_own hown GL e).1; omega) ((Apart.refl GL w12).set_ 2 v')
                          have hOo : OrdList w (cs ++ [.int .i64 x0.pattern, .int .i64 x0.days, .int .i64 x0.by_, .slice A' x0.on.length c']) (withoutL m xs k ++ [x0]) :=
                            o2.append (show OrdList w [.int .i64 x0.pattern, .int .i64 x0.days, .int .i64 x0.by_, .slice A' x0.on.length c'] [x0] from ⟨rfl, rfl, rfl, ⟨A', c', Hcap.out, rfl, Hs6.out⟩, trivial⟩)
                          rw [← hL]
                          refine ⟨hb12, hA12.set_ 2 v', by simpa using hb12.set_ 2 v', ?_⟩
                          rw [withoutL_out Hqc.out, Hx0.out, List.length_append]
                          exact ⟨_, hown2, hOo⟩
                        rw [hL] at o1x hb9 hln hb6
                        have HpO := Lib.hid hpO
                        clear hpO o1 o2 hL
                        obtain ⟨k0, k1, k2⟩ := hb6.c3
                        go_wp2_with (at_builtin; refine wpList_app rfl _ _ 23 rfl W9.heap.size 78 ti _ 4 48 Try.underlying23 hi hz0 hz1 hz2 rfl (by decide) (.slice Av L cv) L cs rfl o1x (some ⟨W6.heap.size, 0, none⟩) 1 1 [.int .i64 x0.pattern, .int .i64 x0.days, .int .i64 x0.by_, .slice A' x0.on.length c'] rfl rfl hsrc ?c2 ?c3 ?c4 ?c5 ?_; (case c2 => (intro u hu; simp only [List.mem_cons, List.not_mem_nil, or_false] at hu; rcases hu with rfl | rfl | rfl | rfl <;> rfl)); (case c3 => (unfold maxLen; omega)); (case c4 => omega); (case c5 => omega); intro v' w12 hown hg hblk; obtain ⟨q0, q1, q2, q3⟩ := HpO.out v' w12 hown hg; obtain ⟨A9, c9, rfl⟩ := ownsRow_slice hown; obtain ⟨z0, z1, z2⟩ := q0.c3; have zf := q0.frozen 2; have Q3 := Lib.hid q3; clear q3 hsrc)
                        go_roundw
                        case rel => exact ⟨k + 1, _, by omega, by go_num, q1, q2, Q3.out⟩
                        case measure => simp [intOf]; omega
                    · obtain rfl : k = m.orders.length := by omega
                      obtain ⟨cs, o1, o2⟩ := hO.out
                      obtain ⟨Av, cv, rfl⟩ := ownsRow_slice o1
                      go_wp2_with fail
                      go_meet
                      refine ⟨rfl, rfl, Apart.ext_of hE9 hgg.2.2 hap, (hmo9.out.apart hgg.1 hap).at_, ?_⟩
                      unfold Hid lessM
                      rw [if_pos rfl]
                      obtain ⟨_, _, _, _, e, g1, g2, _, _, g5, _⟩ := Hv.out
                      simp only [Value.agg.injEq, Array.mk.injEq, List.cons.injEq, Value.slice.injEq, and_true, true_and] at e
                      obtain ⟨⟨rfl, rfl⟩, rfl, rfl⟩ := e
                      exact ⟨_, _, hbU, MillVal.ofO (m := m.without xs) g1 g2 (g5.ext hEr) ⟨cs, o1, o2.ext hEr⟩⟩
            · have hd0 : ((v0 == 0) : Bool) = false := by simpa using hv0
              have Hv0n := Lib.hid hv0
              clear hv0
              go_wp2_with fail
              go_meet
              refine ⟨rfl, rfl, hE6, hmo6.out.at_, ?_⟩
              unfold Hid lessM; rw [if_neg Hv0n.out]; exact ⟨_, _, hGL6, noMill_val _⟩
        · have hu : u0 = r := by rw [← Hu0.out]; unfold takeE; rw [if_neg (by rw [Hr.out]; exact hr0)]; exact Hr.out
          have hv : v0 = r := by rw [← Hv0.out]; unfold listE; rw [if_neg (by rw [Hr.out]; exact hr0)]; exact Hr.out
          have hd : ((r == 0) : Bool) = false := by simpa using hr0
          have Hr0 := Lib.hid hr0
          subst hu; subst hv
          clear hr0
          go_wp2_with fail
          go_meet
          refine ⟨rfl, rfl, hX, ?_, ?_⟩
          · unfold Hid moreM; rw [if_neg Hr0.out]; exact ⟨_, _, hGM, noMill_val _⟩
          · unfold Hid lessM; rw [if_neg Hr0.out]; exact ⟨_, _, hGL, noMill_val _⟩
      case rest =>
        obtain ⟨rfl, rfl, hEc, hmo, hle⟩ := hcut
        have l8 : o.on.length ≤ 100 := by omega
        clear hX hGM hGL
        replace hE := up hEc hE; replace hM := up hEc hM; replace hO := up hEc hO; replace bO := up hEc bO; replace Hmi := up hEc Hmi; replace Hni := up hEc Hni; replace hvO := up hEc hvO; replace hVm := up hEc hVm
        have bX := bX
        have hov : OrdVal wc (.agg #[.int .i64 o.pattern, .int .i64 o.days, .int .i64 o.by_, .slice An o.on.length cn]) o := ⟨An, cn, ⟨hnc, hnx⟩, rfl, Hni.out⟩
        have hta := Lib.hid (take_any _ _ m o l8 u0 Hu0.out wc hvO.out hov)
        clear hov bX hEc hgg
        obtain ⟨k0, k1, k2⟩ := bO.c3
        obtain ⟨j0, j1, j2, j3⟩ := hO.c4
        go_wp2_with fail
        refine hta.out.mono ?_
        rintro e w7 ⟨rv, rfl, hrv, he7⟩
        clear hta k0 k1 k2 j0 j1 j2 j3
        obtain ⟨ya, yb, rfl, hcl1, hv1⟩ := hrv.clr
        have hmmE : (if u0 = 0 then m.more o else (⟨[], 0, []⟩ : Mill)) = moreM m o u0 := rfl
        rw [hmmE] at hcl1 hv1 ⊢
        clear hmmE hrv
        obtain ⟨mm, hmm⟩ : ∃ mm, moreM m o u0 = mm := ⟨_, rfl⟩
        rw [hmm] at hcl1 hv1 hmo ⊢
        clear hmm
        obtain ⟨Aa, ca, rfl⟩ := hcl1.1.slice
        obtain ⟨Ab, cb, rfl⟩ := hcl1.slice
        have hY1 := Blk.new w7 25 #[.slice Aa mm.laced.length ca, .int .i64 mm.change, .slice Ab mm.orders.length cb]
        have hXY1 := Ext.alloc w7 (.cells #[.slice Aa mm.laced.length ca, .int .i64 mm.change, .slice Ab mm.orders.length cb] 25)
        go_upto_region 34 with fail
        obtain ⟨G1, hG1⟩ : ∃ G1, w7.heap.size = G1 := ⟨_, rfl⟩
        rw [hG1] at hY1 hcl1 ⊢
        have hEB := he7.trans hXY1
        have hcl1 := Lib.hid (hcl1.ext hXY1); have hv1 := Lib.hid (hv1.ext hXY1)
        have hGlt := hY1.lt
        have hmo := Lib.hid ((hmo.out.ext he7).ext hXY1)
        have hle := Lib.hid ((hle.out.ext he7).ext hXY1)
        have hB1 : wc.heap.size ≤ G1 := by rw [← hG1]; exact he7.size
        clear hG1 hXY1 he7
        generalize w7.alloc _ = w8 at *
        have bO8 := bO.ext hEB
        have hwi := Lib.hid (without_any _ m Am cm xs v0 Hv0.out w8 (hvO.out.ext hEB) hmc hmx (Hmi.out.ext hEB))
        obtain ⟨k0, k1, k2⟩ := bO8.c3
        go_wp2_with fail
        refine hwi.out.mono ?_
        rintro e w9 ⟨rv, rfl, hrv, he9⟩
        clear hwi k0 k1 k2 bO8
        obtain ⟨za, zb, rfl, hcl2, hv2⟩ := hrv.clr
        have hmlE : (if v0 = 0 then m.without xs else (⟨[], 0, []⟩ : Mill)) = lessM m xs v0 := rfl
        rw [hmlE] at hcl2 hv2 ⊢
        clear hmlE hrv
        obtain ⟨ml, hml⟩ : ∃ ml, lessM m xs v0 = ml := ⟨_, rfl⟩
        rw [hml] at hcl2 hv2 hle ⊢
        clear hml
        obtain ⟨Ac, cc, rfl⟩ := hcl2.1.slice
        obtain ⟨Ad, cd, rfl⟩ := hcl2.slice
        have hY2 := Blk.new w9 25 #[.slice Ac ml.laced.length cc, .int .i64 ml.change, .slice Ad ml.orders.length cd]
        have hXY2 := Ext.alloc w9 (.cells #[.slice Ac ml.laced.length cc, .int .i64 ml.change, .slice Ad ml.orders.length cd] 25)
        go_upto_region 35 with fail
        obtain ⟨G2, hG2⟩ : ∃ G2, w9.heap.size = G2 := ⟨_, rfl⟩
        rw [hG2] at hY2 hcl2 ⊢
        have hEB9 := he9.trans hXY2
        have hcl1 := Lib.hid (hcl1.out.ext hEB9); have hv1 := Lib.hid (hv1.out.ext hEB9)
        have hcl2 := Lib.hid (hcl2.ext hXY2); have hv2 := Lib.hid (hv2.ext hXY2)
        have hY1 := hY1.ext hEB9
        have hmo := Lib.hid (hmo.out.ext hEB9)
        have hle := Lib.hid (hle.out.ext hEB9)
        have hEB := hEB.trans hEB9
        obtain ⟨Bs, hBs⟩ : ∃ Bs, w8.heap.size = Bs := ⟨_, rfl⟩
        rw [hBs] at hcl2 hGlt
        have hB2 : wc.heap.size ≤ Bs ∧ G1 ≤ Bs ∧ G1 < G2 := by
          have := he9.size
          omega
        clear hG2 hXY2 he9 hBs hEB9
        generalize w9.alloc _ = w10 at *
        have hu1 : (u0 != u0) = false := by simp
        have hu2 : (v0 != v0) = false := by simp
        obtain ⟨a', b', hGM, hvM⟩ := hmo.out
        obtain ⟨a'', b'', hGL, hvL⟩ := hle.out
        have hs1 := Lib.hid (same_any _ _ mm mm true (by simp) w10 hv1.out hvM)
        obtain ⟨k0, k1, k2⟩ := hY1.c3
        obtain ⟨j0, j1, j2⟩ := hGM.c3
        have hvL := Lib.hid hvL
        clear hvM hmo hle
        go_wp2_with fail
        refine hs1.out.mono ?_
        rintro e w11 ⟨rfl, he11⟩
        clear hs1 k0 k1 k2 j0 j1 j2 hGM
        have hs2 := Lib.hid (same_any _ _ ml ml true (by simp) w11 (hv2.out.ext he11) (hvL.out.ext he11))
        have hY2 := hY2.ext he11
        have hGL := hGL.ext he11
        obtain ⟨k0, k1, k2⟩ := hY2.c3
        obtain ⟨j0, j1, j2⟩ := hGL.c3
        go_wp2_with fail
        refine hs2.out.mono ?_
        rintro e w12 ⟨rfl, he12⟩
        have hE12 := he11.trans he12
        have hY1 := hY1.ext hE12
        have hY2 := hY2.ext he12
        have hcl1 := Lib.hid (hcl1.out.ext hE12); have hcl2 := Lib.hid (hcl2.out.ext hE12)
        have hEB := hEB.trans hE12
        clear hs2 k0 k1 k2 j0 j1 j2 hGL he11 he12 hE12 hv1 hv2 hvL hu1 hu2
        obtain ⟨k0, k1, k2⟩ := hY1.c3
        obtain ⟨j0, j1, j2⟩ := hY2.c3
        go_upto_region 37 with fail
        have hSB := Blk.new w12 25 #[.slice Aa mm.laced.length ca, .int .i64 mm.change, .slice Ab mm.orders.length cb, .slice Ac ml.laced.length cc, .int .i64 ml.change, .slice Ad ml.orders.length cd]
        have hXS := Ext.alloc w12 (.cells #[.slice Aa mm.laced.length ca, .int .i64 mm.change, .slice Ab mm.orders.length cb, .slice Ac ml.laced.length cc, .int .i64 ml.change, .slice Ad ml.orders.length cd] 25)
        go_wp2_with fail
        clear k0 k1 k2 j0 j1 j2
        obtain ⟨SB, hSBe⟩ : ∃ SB, w12.heap.size = SB := ⟨_, rfl⟩
        rw [hSBe] at hSB ⊢
        have hEB := hEB.trans hXS
        have hcl : Hid (Clr (w12.alloc (.cells #[.slice Aa mm.laced.length ca, .int .i64 mm.change, .slice Ab mm.orders.length cb, .slice Ac ml.laced.length cc, .int .i64 ml.change, .slice Ad ml.orders.length cd] 25)) wc.heap.size G1 (.slice Aa mm.laced.length ca) (.slice Ab mm.orders.length cb) mm ∧ Clr (w12.alloc (.cells #[.slice Aa mm.laced.length ca, .int .i64 mm.change, .slice Ab mm.orders.length cb, .slice Ac ml.laced.length cc, .int .i64 ml.change, .slice Ad ml.orders.length cd] 25)) Bs G2 (.slice Ac ml.laced.length cc) (.slice Ad ml.orders.length cd) ml) := ⟨hcl1.out.ext hXS, hcl2.out.ext hXS⟩
        clear hcl1 hcl2 hXS hSBe hY1 hY2
        generalize w12.alloc _ = w13 at *
        go_loopw [169] (fun iv wr => ∃ k : Nat, k ≤ 2 ∧ iv = .int .i64 k ∧ Ext wc wr ∧ Blk wr SB 25 #[.slice Aa mm.laced.length ca, .int .i64 mm.change, .slice Ab mm.orders.length cb, .slice Ac ml.laced.length cc, .int .i64 ml.change, .slice Ad ml.orders.length cd] ∧
          Hid ((k = 0 → Clr wr wc.heap.size G1 (.slice Aa mm.laced.length ca) (.slice Ab mm.orders.length cb) mm) ∧ (k ≤ 1 → Clr wr Bs G2 (.slice Ac ml.laced.length cc) (.slice Ad ml.orders.length cd) ml))) (fun iv _ => 2 - (intOf iv).toNat)
        case atStart => exact ⟨0, by omega, rfl, hEB, hSB, fun _ => hcl.out.1, fun _ => hcl.out.2⟩
        case round =>
          clear hcl hSB hEB
          obtain ⟨k, hk, rfl, he, hSB, hq⟩ := hrel
          by_cases hlt : k < 2
          · have hcur : ∃ A' c' A'' c'' mk base T, wr.cell? ⟨SB, k * 3, none⟩ = some (.slice A' (Mill.laced mk).length c') ∧ wr.cell? ⟨SB, k * 3 + 1, none⟩ = some (.int .i64 mk.change) ∧ wr.cell? ⟨SB, k * 3 + 2, none⟩ = some (.slice A'' mk.orders.length c'') ∧
                Clr wr base T (.slice A' mk.laced.length c') (.slice A'' mk.orders.length c'') mk ∧ wc.heap.size ≤ base ∧ (k = 0 → T ≤ Bs) := by
              rcases (by omega : k = 0 ∨ k = 1) with rfl | rfl
              · exact ⟨Aa, ca, Ab, cb, mm, _, G1, hSB.cell 0, hSB.cell 1, hSB.cell 2, hq.out.1 rfl, Nat.le_refl _, fun _ => hB2.2.1⟩
              · exact ⟨Ac, cc, Ad, cd, ml, Bs, G2, hSB.cell 3, hSB.cell 4, hSB.cell 5, hq.out.2 (by omega), hB2.1, fun h => by omega⟩
            obtain ⟨A', c', A'', c'', mk, base, T, x0, x1, x2, hcl, hbase, hT⟩ := hcur
            have hlen := hcl.len
            have hoth : Hid (k = 0 → Clr wr Bs G2 (.slice Ac ml.laced.length cc) (.slice Ad ml.orders.length cd) ml) := fun h => hq.out.2 (by omega)
            have HT := Lib.hid hT
            have Hcl := Lib.hid hcl
            clear hq hT hcl
            have hY := Blk.new wr 25 #[.slice A' mk.laced.length c', .int .i64 mk.change, .slice A'' mk.orders.length c'']
            have hXY := Ext.alloc wr (.cells #[.slice A' mk.laced.length c', .int .i64 mk.change, .slice A'' mk.orders.length c''] 25)
            go_upto_region 40 with fail
            obtain ⟨Y, hYe⟩ : ∃ Y, wr.heap.size = Y := ⟨_, rfl⟩
            rw [hYe] at hY ⊢
            have he := he.trans hXY
            have hSB := hSB.ext hXY
            have hoth := Lib.hid (fun (h : k = 0) => (hoth.out h).ext hXY)
            have hcl := Hcl.out.ext hXY
            clear x0 x1 x2 Hcl hXY hYe
            generalize wr.alloc _ = wa at *
            obtain ⟨wb, hrun, hwp⟩ := clear_int wa hcl.1
            have hge := hcl.1.ge
            obtain ⟨y0, y1, y2⟩ := hY.c3
            have Hcl := Lib.hid hcl; have Hwp := Lib.hid hwp; have Hge := Lib.hid hge
            clear hcl hwp hge
            go_upto_region 41 with fail
            clear hrun
            have he := Hwp.out.ext he fun g hg => Nat.le_trans hbase (Hge.out g hg)
            have hSB := Hwp.out.blk hSB (by decide)
            have hY := Hwp.out.blk hY (by decide)
            have hcl := Lib.hid (Hcl.out.wipeI Hwp.out)
            have hoth : Hid (k = 0 → Clr wb Bs G2 (.slice Ac ml.laced.length cc) (.slice Ad ml.orders.length cd) ml) := fun h => (hoth.out h).wipeI Hwp.out
            clear Hwp Hge Hcl y0 y1 y2
            obtain ⟨y0, y1, y2⟩ := hY.c3
            go_wp2_with fail
            clear y0 y1 y2
            go_loopw [178] (fun iv wr => ∃ j : Nat, j ≤ mk.orders.length ∧ iv = .int .i64 j ∧ Ext wc wr ∧ Blk wr SB 25 #[.slice Aa mm.laced.length ca, .int .i64 mm.change, .slice Ab mm.orders.length cb, .slice Ac ml.laced.length cc, .int .i64 ml.change, .slice Ad ml.orders.length cd] ∧
              Blk wr Y 25 #[.slice A' mk.laced.length c', .int .i64 mk.change, .slice A'' mk.orders.length c''] ∧ Hid (Clr wr base T (.slice A' mk.laced.length c') (.slice A'' mk.orders.length c'') mk) ∧
              Hid (k = 0 → Clr wr Bs G2 (.slice Ac ml.laced.length cc) (.slice Ad ml.orders.length cd) ml)) (fun iv _ => mk.orders.length - (intOf iv).toNat)
            case atStart => exact ⟨0, by omega, rfl, he, hSB, hY, hcl.out, hoth.out⟩
            case round =>
              clear he hSB hY hcl hoth
              obtain ⟨j, hj, rfl, he, hSB, hY, hcl, hoth⟩ := hrel
              by_cases hltj : j < mk.orders.length
              · obtain ⟨b, ob, s, rfl, q1, q2, q3, q4, hs⟩ := hcl.out.at_ j hltj
                obtain ⟨As, cs, rfl⟩ := hs.slice
                obtain ⟨x0, hx0⟩ : ∃ x0, mk.orders[j]?.getD default = x0 := ⟨_, rfl⟩
                rw [hx0] at q1 q2 q3 q4 hs
                clear hx0
                have hB := Blk.new wr 78 #[.int .i64 x0.pattern, .int .i64 x0.days, .int .i64 x0.by_, .slice As x0.on.length cs]
                have hXY := Ext.alloc wr (.cells #[.int .i64 x0.pattern, .int .i64 x0.days, .int .i64 x0.by_, .slice As x0.on.length cs] 78)
                have Hs := Lib.hid hs
                clear hs
                go_upto_region 44 with fail
                clear q1 q2 q3 q4
                have he := he.trans hXY
                have hSB := hSB.ext hXY; have hY := hY.ext hXY
                have hcl := Lib.hid (hcl.out.ext hXY)
                have hoth := Lib.hid (fun (h : k = 0) => (hoth.out h).ext hXY)
                have hs : RowN (wr.alloc (.cells #[.int .i64 x0.pattern, .int .i64 x0.days, .int .i64 x0.by_, .slice As x0.on.length cs] 78)) base (.slice As x0.on.length cs) x0.on.length := by
                  obtain ⟨ys, h⟩ := Hs.out
                  exact ⟨ys, ownsRow_ext2 h hXY⟩
                clear hXY Hs
                generalize wr.alloc _ = wa2 at *
                obtain ⟨wb2, hrun, hwp⟩ := clear_int wa2 hs
                have hge := hs.ge
                obtain ⟨y0, y1, y2, y3⟩ := hB.c4
                have Hwp := Lib.hid hwp; have Hge := Lib.hid hge
                clear hwp hge hs
                go_upto_region 45 with fail
                clear hrun y0 y1 y2 y3
                go_wp2_with fail
                go_roundw
                case rel => exact ⟨j + 1, by omega, by go_num, Hwp.out.ext he fun g hg => Nat.le_trans hbase (Hge.out g hg), Hwp.out.blk hSB (by decide), Hwp.out.blk hY (by decide), hcl.out.wipeI Hwp.out, fun h => (hoth.out h).wipeI Hwp.out⟩
                case measure => simp [intOf]; omega
              · obtain rfl : j = mk.orders.length := by omega
                obtain ⟨y0, y1, y2⟩ := hY.c3
                obtain ⟨wb2, hrun, hwp⟩ := clear_ord wr hcl.out
                have Hwp := Lib.hid hwp
                have Hlo : Hid (∀ g, (Value.slice A'' mk.orders.length c'').ownBlock = some g → base ≤ g ∧ g < T) := by
                  obtain ⟨_, cs9, r1, _, r2⟩ := hcl.out
                  exact fun g hg => ⟨(ownsRow_own r1 g hg).1, r2 g hg⟩
                clear hwp
                go_upto_region 47 with fail
                clear hrun y0 y1 y2
                go_wp2_with fail
                go_roundw
                case rel =>
                  refine ⟨k + 1, by omega, by go_num, Hwp.out.ext he fun g hg => Nat.le_trans hbase (Hlo.out g hg).1, Hwp.out.blk hSB (by decide), fun h => by omega, fun h => ?_⟩
                  · exact (hoth.out (by omega)).wipeO Hwp.out fun g hg => Nat.lt_of_lt_of_le (Hlo.out g hg).2 (HT.out (by omega))
                case measure => simp [intOf]; omega
          · obtain rfl : k = 2 := by omega
            have bOr := bO.ext he; have hMr := hM.ext he; have hOr := hO.ext he
            have hsm := Lib.hid (same_any _ _ m m true (by simp) wr (hvO.out.ext he) (hVm.out.ext he))
            have hE := hE.trans he
            have Hmi := Lib.hid (Hmi.out.ext he); have Hni := Lib.hid (Hni.out.ext he)
            clear he hSB hq bO hM hO hvO hVm
            obtain ⟨k0, k1, k2⟩ := bOr.c3
            obtain ⟨j0, j1, j2⟩ := hMr.c3
            go_wp2_with fail
            refine hsm.out.mono ?_
            rintro e w14 ⟨rfl, he14⟩
            have hE := hE.trans he14
            have hOr := hOr.ext he14
            have heq := Lib.hid (eqI Am A cm c xs xs true (by simp) w14 (Nat.le_trans hmc hmx) (Hmi.out.ext he14) (Hx.out.ext hE))
            have Hni := Lib.hid (Hni.out.ext he14)
            clear hsm k0 k1 k2 j0 j1 j2 he14 Hmi hMr bOr
            go_wp2_with fail
            refine heq.out.mono ?_
            rintro e w15 ⟨rfl, he15⟩
            have hE := hE.trans he15
            have hOr := hOr.ext he15
            have heq2 := Lib.hid (eqI An A3 cn c3 o.on o.on true (by simp) w15 (Nat.le_trans hnc hnx) (Hni.out.ext he15) (Hon.out.ext hE))
            clear heq he15 Hni
            obtain ⟨j0, j1, j2, j3⟩ := hOr.c4
            go_wp2_with fail
            refine heq2.out.mono ?_
            rintro e w16 ⟨rfl, he16⟩
            have hE := hE.trans he16
            clear heq2 he16 j0 j1 j2 j3
            go_wp2_with fail
            refine (awake_any w16).mono ?_
            rintro e w17 ⟨rfl, he17⟩
            go_wp2_with fail
            go_ret
            exact ⟨rfl, hE.trans he17⟩
end Go.Proofs.Pet
