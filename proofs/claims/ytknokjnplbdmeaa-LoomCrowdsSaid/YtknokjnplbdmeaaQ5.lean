import Derived.Test.YtknokjnplbdmeaaQ2
import Derived.Test.YtknokjnplbdmeaaQ4
namespace Go.Proofs.Pet
open Go Go.RowKit Go.Maps Go.Shelf

theorem crBy_end {m : Mill} {N k y z : Nat} (hk : k ≤ 99) (h : crBy m N k = (y, z)) (hy : y ≠ 0 ∨ k = 99) : crBy m N 99 = (y, z) := by
  rcases hy with hy | rfl
  · rw [show (99 : Nat) = k + (99 - k) by omega, crBy_stop m N k (by rw [h]; intro e; cases e; exact hy rfl), h]
  · exact h
theorem OwnI.to {W : World} {base : Nat} {e : TypeId} {v : Value} {xs ys : List Int} (h : OwnI W base e v xs) (e' : xs = ys) : OwnI W base e v ys := e' ▸ h
set_option maxRecDepth 100000 in
set_option maxHeartbeats 8000000 in
theorem loomCrowds_any (v : Value) (m : Mill) (A : Option Addr) (c : Nat) (xs : List Int) (b : Int) (w : World) (hv : MillVal w v m) (_hlc : xs.length ≤ c) (_hlx : c ≤ maxLen) (hx : IntsAt w A xs) :
    Calls Try.prog 5 #[v, .agg #[.slice A xs.length c, .int .i64 b]] w fun e w' => e = .returned (.bool true) ∧ Ext w w' := by
  have Hv := Lib.hid hv
  have Hx := Lib.hid hx
  obtain ⟨A1, c1, A2, c2, rfl, h2, h3, h4, h5, h6, h7⟩ := hv
  have hE : Ext w ((w.alloc (.cells #[.slice A1 m.laced.length c1, .int .i64 m.change, .slice A2 m.orders.length c2] 25)).alloc (.cells #[.slice A xs.length c, .int .i64 b] 51)) := (Ext.alloc _ _).trans (Ext.alloc _ _)
  have hM := (Blk.new w 25 #[.slice A1 m.laced.length c1, .int .i64 m.change, .slice A2 m.orders.length c2]).alloc (.cells #[.slice A xs.length c, .int .i64 b] 51)
  have hC := Blk.new (w.alloc (.cells #[.slice A1 m.laced.length c1, .int .i64 m.change, .slice A2 m.orders.length c2] 25)) 51 #[.slice A xs.length c, .int .i64 b]
  rw [World.size_alloc] at hC
  clear h2 h3 h4 h5 h6 h7 hx
  obtain ⟨q, hq⟩ : ∃ q, greatB m = q := ⟨_, rfl⟩
  have hgr := Lib.hid (great_any _ m q hq _ (Hv.out.ext hE))
  have Hq := Lib.hid hq; clear hq
  obtain ⟨k0, k1, k2⟩ := hM.c3
  go_enter Try.func5, Try.ntmps5
  go_wp2_with fail
  refine hgr.out.mono ?_
  rintro e w1 ⟨rfl, he1⟩
  have hE1 := hE.trans he1
  have hM1 := hM.ext he1
  have hC1 := hC.ext he1
  clear hE hM hC he1 hgr k0 k1 k2
  obtain ⟨g0, g1⟩ := hC1.c2
  have hcase : q = true ∨ q = false ∧ 8 < xs.length ∨ q = false ∧ xs.length ≤ 8 := by cases q <;> simp <;> omega
  rcases hcase with rfl | ⟨rfl, h12⟩ | ⟨rfl, h12⟩
  · go_wp2_with fail
    refine (awake_any w1).mono ?_
    rintro e w2 ⟨rfl, he2⟩
    have hE2 := hE1.trans he2
    go_wp2_with fail
    go_ret
    exact ⟨rfl, hE2⟩
  · go_wp2_with fail
    refine (awake_any w1).mono ?_
    rintro e w2 ⟨rfl, he2⟩
    have hE2 := hE1.trans he2
    go_wp2_with fail
    go_ret
    exact ⟨rfl, hE2⟩
  · have hgb := great_bounds Hq.out
    have hd12 : decide (8 < xs.length) = false := by simp; omega
    have hd12' : decide ((8 : Int) < (xs.length : Int)) = false := by simp; omega
    go_wp2_with fail
    clear g0 g1
    refine wp_region_stage 9 (by kernel_rfl) (by kernel_rfl) (fun Ld x W => OwnS 1 3 7 8 w1 m Ld x W ∧ (Ld 6 → OwnI W w1.heap.size 3 (x 6) xs)) (fun k v => (k = 0 ∨ k = 2 → v = .agg #[.slice A1 m.laced.length c1, .int .i64 m.change, .slice A2 m.orders.length c2]) ∧ (k = 4 → v = .pointer (some ⟨w.heap.size + 1, 0, none⟩)) ∧ (k = 5 → v = .slice A xs.length c)) (fun x => ⟨OwnS.start 1 3 7 8 w1 m x, fun h => h.elim⟩) ?_ ?_
    · simp only [List.take, AllOps3, fill, Act.put, List.setIfInBounds_toArray, List.set_cons_zero, List.set_cons_succ, Nat.reduceAdd, DepsV, DepsL, List.filter_cons, List.filter_nil, Region.binds, if_true, and_true, Closed]
      refine ⟨?_, ?_, ?_, ?_, ?_, ?_, ?_, ?_, ?_⟩
      all_goals
        intro Ld x W hS hcl hnl hdl hd K Q hK
        obtain ⟨k0, k1, k2⟩ := (hM1.ext hS.1.ext).c3
        obtain ⟨g0, g1⟩ := (hC1.ext hS.1.ext).c2
        have HK := Lib.hid hK; clear hK hcl hdl hnl
        have HS := Lib.hid hS; clear hS
        have Hd := Lib.hid hd; clear hd
      case refine_2 =>
        have h0 := Hd.out.1 (by simp)
        have hk0 := HK.out; clear HK
        simp only [h0] at hk0 ⊢
        have HK := Lib.hid hk0; clear hk0 h0
        go_wp2_with fail
        refine (own_off _ m w1 W HS.out.1.ext (Hv.out.ext hE1) Hq.out).mono ?_
        rintro e w' ⟨v', rfl, hv', he'⟩
        go_wp2
        exact HK.out _ _ ⟨fun h => absurd h (by decide), fun h => absurd h (by decide), fun h => absurd h (by decide)⟩ ⟨HS.out.1.doOwn he' _ hv' (by decide) (by decide) (by decide), fun h => by rw [upd_ne (by decide)]; exact (HS.out.2 (h.resolve_right (by decide))).ext he'⟩
      case refine_4 =>
        have h0 := Hd.out.1.1 (by simp)
        have hk0 := HK.out; clear HK
        simp only [h0] at hk0 ⊢
        have HK := Lib.hid hk0; clear hk0 h0
        go_wp2_with fail
        refine (theirs_off _ m w1 W HS.out.1.ext (Hv.out.ext hE1) (by omega)).mono ?_
        rintro e w' ⟨v', rfl, hv', he'⟩
        go_wp2
        exact HK.out _ _ ⟨fun h => absurd h (by decide), fun h => absurd h (by decide), fun h => absurd h (by decide)⟩ ⟨HS.out.1.doRef he' _ hv' (by decide) (by decide) (by decide), fun h => by rw [upd_ne (by decide)]; exact (HS.out.2 (h.resolve_right (by decide))).ext he'⟩
      case refine_6 =>
        have h0 := Hd.out.2.1 (by simp)
        have hk0 := HK.out; clear HK
        simp only [h0] at hk0 ⊢
        have HK := Lib.hid hk0; clear hk0 h0
        go_wp2_with fail
        exact HK.out _ _ ⟨fun h => absurd h (by decide), fun h => absurd h (by decide), fun _ => rfl⟩ ⟨HS.out.1.pure (Ext.refl _) _ _ (by decide), fun h => by rw [upd_ne (by decide)]; exact HS.out.2 (h.resolve_right (by decide))⟩
      case refine_7 =>
        have h0 := Hd.out.1.2.2 (by simp)
        have hk0 := HK.out; clear HK
        simp only [h0] at hk0 ⊢
        have HK := Lib.hid hk0; clear hk0 h0
        have hxW := Hx.out.ext (hE1.trans HS.out.1.ext)
        go_wp2_with fail
        refine (dupI A c xs W (by omega) hxW).mono ?_
        rintro e w' ⟨v', rfl, hv', he'⟩
        go_wp2
        exact HK.out _ _ ⟨fun h => absurd h (by decide), fun h => absurd h (by decide), fun h => absurd h (by decide)⟩ ⟨HS.out.1.pure he' _ _ (by decide), fun h => by rw [upd_self]; exact hv'.mono HS.out.1.ext.size⟩
      case refine_8 =>
        go_wp2_with fail
        exact HK.out _ _ ⟨fun h => absurd h (by decide), fun h => absurd h (by decide), fun h => absurd h (by decide)⟩ ⟨HS.out.1.doC (by decide) (by decide) (by decide), fun h => by rw [upd_ne (by decide)]; exact (HS.out.2 (h.resolve_right (by decide))).ext (Ext.alloc _ _)⟩
      case refine_9 =>
        go_wp2_with fail
        exact HK.out _ _ ⟨fun h => absurd h (by decide), fun h => absurd h (by decide), fun h => absurd h (by decide)⟩ ⟨HS.out.1.doD (by decide) (by decide) (by decide), fun h => by rw [upd_ne (by decide)]; exact (HS.out.2 (h.resolve_right (by decide))).ext (Ext.alloc _ _)⟩
      all_goals
        go_wp2_with fail
        exact HK.out _ _ ⟨fun h => by first | rfl | exact absurd h (by decide), fun h => by first | rfl | exact absurd h (by decide), fun h => by first | rfl | exact absurd h (by decide)⟩ ⟨HS.out.1.pure (Ext.refl _) _ _ (by decide), fun h => by rw [upd_ne (by decide)]; exact HS.out.2 (h.resolve_right (by decide))⟩
    · intro x W hS hR
      obtain ⟨hS, hmi⟩ := hS
      have hmi := hmi (by decide)
      obtain ⟨g, g', A3, c3, A4, c4, B1, e1, B2, e2, x4, x5, hg, hg', b4, b5, hne, x1, x3, v1, v3⟩ := hS.done (by decide) (by decide) (by decide) (by decide)
      have heW := hS.ext
      simp only [AllV, true_and] at hR
      have x0 := hR.1.1.1.1.1.1.1.1.1 (by simp)
      have x2 := hR.1.1.1.1.1.1.2.1 (by simp)
      have x4' := hR.1.1.1.1.2.2.1 (by simp)
      have x5'' := hR.1.1.1.2.2.2 (by simp)
      obtain ⟨Am, cm, x5', m1, m2, _⟩ := hmi.open_
      simp only [List.take, List.drop, fill, Act.put, List.setIfInBounds_toArray, List.set_cons_zero, List.set_cons_succ, Nat.reduceAdd, x0, x1, x2, x3, x4, x5, x4', x5', x5'']
      rw [x1] at v1
      rw [x3] at v3
      rw [x5'] at hmi
      clear hR hS x0 x1 x2 x3 x4 x5 x4' x5' x5''
      obtain ⟨u0, u1, u2⟩ := b4.c3
      obtain ⟨y0, y1, y2⟩ := b5.c3
      have f0 := b4.frozen 0; have f1 := b4.frozen 1; have f2 := b4.frozen 2
      have h0 := b5.frozen 0; have h1 := b5.frozen 1; have h2 := b5.frozen 2
      have hne' : g' ≠ g := fun h => hne h.symm
      have V1 := Lib.hid v1; have V3 := Lib.hid v3; clear v1 v3
      have B4 := Lib.hid b4; have B5 := Lib.hid b5; clear b4 b5
      have Hmi := Lib.hid hmi; clear hmi
      go_wp2_with fail
      obtain ⟨hE2, bO, bX, vO, vX⟩ := own_stored (.slice A3 m.laced.length c3) (.int .i64 m.change) (.slice A4 m.orders.length c4) (.slice B1 m.laced.length e1) (.int .i64 m.change) (.slice B2 m.orders.length e2) heW hg hg' B4.out B5.out hne V1.out V3.out
      have hmi2 := OwnI.stored (a0 := .slice A3 m.laced.length c3) (a1 := .int .i64 m.change) (a2 := .slice A4 m.orders.length c4) (b0 := .slice B1 m.laced.length e1) (b1 := .int .i64 m.change) (b2 := .slice B2 m.orders.length e2) Hmi.out B4.out B5.out
      clear u0 u1 u2 y0 y1 y2 f0 f1 f2 h0 h1 h2 B4 B5 V1 V3 heW Hmi
      generalize (((((W.setCell _ _).setCell _ _).setCell _ _).setCell _ _).setCell _ _).setCell _ _ = W2 at *
      obtain ⟨Am', cm', em, hmc, hmx, hmi3, _⟩ := hmi2.open_
      injection em with em1 _ em2
      subst em1; subst em2
      have Hmi3 := Lib.hid hmi3
      clear m1 m2 hmi2 hmi3
      have hE3 := hE1.trans hE2
      have hC3 := hC1.ext hE2
      have hM3 := hM1.ext hE2
      have hVm := Lib.hid ((Hv.out.ext hE1).ext hE2)
      have hvO := Lib.hid vO; have hvX := Lib.hid vX
      clear hE1 hM1 hC1 hE2 vO vX hg hg' hne hne'
      obtain ⟨k0, k1, k2⟩ := bX.c3
      obtain ⟨r, hr⟩ : ∃ r, checkE m = r := ⟨_, rfl⟩
      have hck := Lib.hid (check5_any _ m r hr W2 hvX.out)
      have Hr := Lib.hid hr; clear hr
      go_wp2_with fail
      refine hck.out.mono ?_
      rintro e w3 ⟨rfl, he3⟩
      have hE4 := hE3.trans he3
      have hM4 := hM3.ext he3
      have hC4 := hC3.ext he3
      have bO4 := bO.ext he3
      have bX4 := bX.ext he3
      have Hmi4 := Lib.hid (Hmi3.out.ext he3)
      have hVm4 := Lib.hid (hVm.out.ext he3)
      have hvO4 := Lib.hid (hvO.out.ext he3); have hvX4 := Lib.hid (hvX.out.ext he3)
      have hX := Ext.alloc w3 (.cells #[.slice none 0 0, .int .i64 0] 51)
      have hF := Blk.new w3 51 #[.slice none 0 0, .int .i64 0]
      have hsw3 : w.heap.size + 1 < w3.heap.size := hC4.lt
      clear hE3 hM3 hC3 bO bX hVm hvO hvX he3 hck k0 k1 k2 Hmi3
      by_cases hr0 : r = 0
      · subst hr0
        obtain ⟨l1, l2, l3⟩ := check_len Hr.out
        obtain ⟨N, hN⟩ : ∃ N, 2 ^ m.laced.length = N := ⟨_, rfl⟩
        have hP : (2 : Int) ^ m.laced.length = (N : Int) ∧ N ≤ 8 ∧ 2 ≤ N := by
          have h1 : 2 ^ m.laced.length ≤ 2 ^ 3 := Nat.pow_le_pow_right (by omega) l2
          have h2 : (2 : Nat) ^ 3 = 8 := by decide
          have h3 : 2 ^ 1 ≤ 2 ^ m.laced.length := Nat.pow_le_pow_right (by omega) l1
          have h4 : ((2 ^ m.laced.length : Nat) : Int) = (2 : Int) ^ m.laced.length := by simp
          omega
        obtain ⟨hP1, hP2, hP3⟩ := hP
        have HN := Lib.hid hN; clear hN
        have HP1 := Lib.hid hP1; clear hP1
        obtain ⟨ti, hi, hz0, hz1, hz2⟩ := info_parts info_int
        go_wp2_with fail
        generalize w3.alloc _ = W0 at *
        generalize hFe : w3.heap.size = F at *
        go_loopw [9, 13] (fun u bv wr => ∃ (k y z : Nat) (uv : Int) (lv : Value), k ≤ 99 ∧ bv = .int .i64 ((k : Int) + 1) ∧ u = .int .i64 uv ∧ ((y = 0 ∧ z = 0 ∧ uv = 6) ∨ (1 ≤ y ∧ uv = 0)) ∧ y ≤ 99 ∧ z < N ∧ Hid (crBy m (N - 1) k = (y, z)) ∧ Ext w3 wr ∧ Blk wr F 51 #[lv, .int .i64 y] ∧ Hid (OwnI wr F 3 lv (ints (Pet.bits 8 z)))) (fun _ bv _ => 100 - (intOf bv).toNat)
        case atStart => exact ⟨0, 0, 0, 6, .slice none 0 0, by omega, rfl, rfl, .inl ⟨rfl, rfl, rfl⟩, by omega, by omega, rfl, hX, hF, OwnI.nil _ _ _⟩
        case round =>
          clear hX hF
          obtain ⟨k, y, z, uv, lv, hk, rfl, rfl, hyz, hy, hz, hcr, he, hFr, hlv⟩ := hrel
          by_cases hend : k < 99 ∧ y = 0
          · obtain ⟨hlt, rfl⟩ := hend
            obtain ⟨rfl, rfl⟩ : z = 0 ∧ uv = 6 := by omega
            clear hyz hy hk
            go_wp2_with fail
            go_loopw [9, 14] (fun u sv wr => ∃ (s z y : Nat) (uv : Int) (lv : Value), 1 ≤ s ∧ s ≤ N ∧ sv = .int .i64 s ∧ u = .int .i64 uv ∧ z < s ∧ ((z = 0 ∧ y = 0 ∧ uv = 6) ∨ (1 ≤ z ∧ y = k + 1 ∧ uv = 0)) ∧ Hid (crIn m (k + 1 : Nat) (s - 1) = z) ∧ Ext w3 wr ∧ Blk wr F 51 #[lv, .int .i64 y] ∧ Hid (OwnI wr F 3 lv (ints (Pet.bits 8 z)))) (fun _ sv _ => N - (intOf sv).toNat)
            case atStart => exact ⟨1, 0, 0, 6, lv, by omega, by omega, rfl, rfl, by omega, .inl ⟨rfl, rfl, rfl⟩, rfl, he, hFr, hlv⟩
            case round =>
              clear he hFr hlv
              obtain ⟨s, z, y, uv, lv, hs1, hs2, rfl, rfl, hzs, hst, hin, he, hFr, hlv⟩ := hrel
              obtain ⟨k0, k1, k2⟩ := (hM4.ext he).c3
              have hp1 := HP1.out
              by_cases hlts : s < N
              · go_wp2_with fail
                clear k0 k1 k2
                obtain ⟨wI, hwI⟩ : ∃ wI, wI = wr := ⟨_, rfl⟩
                rw [← hwI] at he hFr hlv ⊢
                clear hwI
                go_loopw [15, 62] (fun lv2 iv wr2 => ∃ j : Nat, j ≤ m.laced.length ∧ iv = .int .i64 j ∧ Ext wI wr2 ∧ Hid (OwnI wr2 wI.heap.size 3 lv2 (ints (Pet.bits j s)))) (fun _ iv _ => m.laced.length - (intOf iv).toNat)
                case atStart => exact ⟨0, by omega, rfl, Ext.refl _, OwnI.nil _ _ _⟩
                case round =>
                  obtain ⟨j, hj, rfl, he2, ho⟩ := hrel
                  obtain ⟨B, cB, rfl, o1, o2, o3, o4, o5⟩ := ho.out.open_
                  have O4 := Lib.hid o4; clear o3 o4 o5
                  have hil : (ints (Pet.bits j s)).length = (Pet.bits j s).length := by unfold ints; simp
                  have hbl := bits_length_le j s
                  have hszr := he2.size
                  by_cases hjl : j < m.laced.length
                  · generalize hln : (ints (Pet.bits j s)).length = LL at *
                    have HL := Lib.hid hln; clear hln
                    obtain ⟨q, hq⟩ : ∃ q, s.testBit j = q := ⟨_, rfl⟩
                    have hbit := bit_test s j (by omega) q hq
                    have Hq := Lib.hid hq; clear hq
                    cases q with
                    | true =>
                      go_wp2_with (at_builtin; refine wpList_app rfl _ _ 22 rfl wI.heap.size 3 ti (.int .i64 0) 1 8 Try.underlying22 hi hz0 hz1 hz2 rfl (by decide) _ _ _ rfl (ownsRow_alloc_of HL.out ho.out) (some ⟨_, 0, none⟩) 1 1 [.int .i64 j] rfl rfl (Src.one _ _ _) ?c2 ?c3 ?c4 ?c5 ?_; (case c2 => (intro u hu; simp at hu; subst hu; rfl)); (case c3 => (unfold maxLen; omega)); (case c4 => omega); (case c5 => (simp; omega)); intro v' w' hown' hg hblk)
                      go_roundw
                      case rel =>
                        have hge := own_ge O4.out (L := LL) (c := cB)
                        refine ⟨j + 1, by omega, by go_num, ext_grown he2 hg (fun i hi => by have := hge i hi; omega), ?_⟩
                        unfold Hid
                        rw [bits_succ, if_pos Hq.out, ints_append]
                        unfold OwnI
                        rw [List.map_append, List.length_append, HL.out]
                        exact hown'
                      case measure => simp [intOf]; omega
                    | false =>
                      go_wp2_with fail
                      go_roundw
                      case rel => exact ⟨j + 1, by omega, by go_num, he2, by unfold Hid; rw [bits_succ, if_neg (by rw [Hq.out]; simp)]; exact ho.out⟩
                      case measure => simp [intOf]; omega
                  · obtain rfl : j = m.laced.length := by omega
                    have hb8 : Hid (ints (Pet.bits 8 s) = ints (Pet.bits m.laced.length s)) := by
                      have := bits_more (s := s) (n := m.laced.length) (by rw [HN.out]; exact hlts) (8 - m.laced.length)
                      rw [show m.laced.length + (8 - m.laced.length) = 8 by omega] at this
                      unfold Hid; rw [this]
                    have ho2 : Hid (OwnI wr wI.heap.size 3 (.slice B (ints (Pet.bits m.laced.length s)).length cB) (ints (Pet.bits 8 s))) := by unfold Hid; rw [hb8.out]; exact ho.out
                    rw [← hb8.out] at ho2 o1 hil ⊢
                    clear ho hb8 hil hbl
                    obtain ⟨lst, hlst⟩ : ∃ lst, ints (Pet.bits 8 s) = lst := ⟨_, rfl⟩
                    obtain ⟨ov, hov⟩ : ∃ ov, overF m lst ((k : Int) + 1) m.orders.length = ov := ⟨_, rfl⟩
                    have hll : lst.length ≤ 8 := by rw [← hlst]; unfold ints; rw [List.length_map]; exact bits_length_le 8 s
                    have hstp : Hid (crIn m (k + 1 : Nat) s = if 0 < ov ∧ (z = 0 ∨ aheadB lst (ints (Pet.bits 8 z)) = true) then s else z) := by
                      obtain ⟨s', rfl⟩ : ∃ s', s = s' + 1 := ⟨s - 1, by omega⟩
                      have h1 := hin.out
                      rw [show s' + 1 - 1 = s' by omega] at h1
                      have h2 : ((k + 1 : Nat) : Int) = (k : Int) + 1 := by omega
                      unfold Hid
                      rw [crIn, h1, h2, hlst, hov]
                    rw [hlst] at ho2 o1 ⊢
                    have hoi : IntsAt wr B lst := by
                      obtain ⟨_, _, e', _, _, h3, _⟩ := ho2.out.open_
                      injection e' with e1 _ _
                      subst e1; exact h3
                    have heA := he.trans he2
                    have hovc := over5_any _ m Hr.out B cB lst hll ((k : Int) + 1) (by omega) wr (hvX4.out.ext heA) hoi
                    rw [hov] at hovc
                    have Hovc := Lib.hid hovc; clear hovc hoi
                    have hobd := overF_bd Hr.out lst ((k : Int) + 1) (by omega) hll m.orders.length (by omega)
                    rw [hov] at hobd
                    have Hlst := Lib.hid hlst
                    obtain ⟨x0, x1, x2⟩ := (bX4.ext heA).c3
                    clear hov hlst
                    go_wp2_with fail
                    refine Hovc.out.mono ?_
                    rintro e wr3 ⟨rfl, he3⟩
                    have heB := heA.trans he3
                    have hFB := hFr.ext (he2.trans he3)
                    have ho3 : Hid (OwnI wr3 F 3 (.slice B lst.length cB) lst) := (ho2.out.ext he3).mono (by rw [← hFe]; exact he.size)
                    have hlvB : Hid (OwnI wr3 F 3 lv (ints (Pet.bits 8 z))) := hlv.out.ext (he2.trans he3)
                    clear Hovc x0 x1 x2 he3 ho2 hlv hFr he he2 heA
                    obtain ⟨t0, t1⟩ := hFB.c2
                    by_cases hpos : 0 < ov
                    · rcases hst with ⟨rfl, rfl, rfl⟩ | ⟨hz1', rfl, rfl⟩
                      · have hstN : Hid (crIn m (k + 1 : Nat) (s + 1 - 1) = s) := by
                          unfold Hid; rw [Nat.add_sub_cancel, hstp.out, if_pos ⟨hpos, .inl rfl⟩]
                        clear t0 t1
                        have f0 := hFB.frozen 0
                        have f1 := hFB.frozen 1
                        obtain ⟨t0, t1⟩ := hFB.c2
                        have hFN := (hFB.set_ 0 (.slice B lst.length cB)).set_ 1 (.int .i64 ((k : Int) + 1))
                        have hEN := Lib.hid (Below.setCell (Below.setCell heB (p := ⟨F, 0, none⟩) (by rw [hFe]; exact Nat.le_refl _) (.slice B lst.length cB)) (p := ⟨F, 1, none⟩) (by rw [hFe]; exact Nat.le_refl _) (.int .i64 ((k : Int) + 1)))
                        have hON := Lib.hid (ho3.out.apart (b := F) (fun e => ho3.out.ne_blk hFB (by decide) e.symm) (((Apart.refl F _).set_ 0 (.slice B lst.length cB)).set_ 1 (.int .i64 ((k : Int) + 1))))
                        have hON2 := Lib.hid (hON.out.to Hlst.out.symm)
                        have hFN' := Lib.hid hFN
                        clear hFN heB ho3 hlvB
                        go_wp2_with fail
                        go_roundw
                        case rel => exact ⟨s + 1, s, k + 1, 0, .slice B lst.length cB, by omega, by omega, by go_num, rfl, by omega, .inr ⟨by omega, rfl, rfl⟩, hstN, hEN.out, by simpa using hFN'.out, hON2.out⟩
                        case measure => simp [intOf]; omega
                      · obtain ⟨Alv, clv, elv, a1, a2, a3, _⟩ := hlvB.out.open_
                        obtain ⟨qh, hqh⟩ : ∃ qh, aheadB lst (ints (Pet.bits 8 z)) = qh := ⟨_, rfl⟩
                        have hoi : IntsAt wr3 B lst := by
                          obtain ⟨_, _, e', _, _, h3, _⟩ := ho3.out.open_
                          injection e' with e1 _ _
                          subst e1; exact h3
                        have hah := Lib.hid (ahead_any B Alv cB clv lst (ints (Pet.bits 8 z)) qh hqh wr3 (by unfold maxLen; omega) hoi a3)
                        rw [elv] at hFB
                        have Hqh := Lib.hid hqh
                        have Helv := Lib.hid elv
                        clear t0 t1 hqh elv a1 a2 a3 hoi
                        obtain ⟨t0, t1⟩ := hFB.c2
                        go_wp2_with fail
                        refine hah.out.mono ?_
                        rintro e wr4 ⟨rfl, he4⟩
                        replace heB := heB.trans he4
                        replace hFB := hFB.ext he4
                        replace ho3 := Lib.hid (ho3.out.ext he4)
                        replace hlvB := Lib.hid (hlvB.out.ext he4)
                        clear hah t0 t1 he4
                        obtain ⟨t0, t1⟩ := hFB.c2
                        cases qh with
                        | true =>
                          have hstN : Hid (crIn m (k + 1 : Nat) (s + 1 - 1) = s) := by
                            unfold Hid; rw [Nat.add_sub_cancel, hstp.out, if_pos ⟨hpos, .inr Hqh.out⟩]
                          clear t0 t1
                          have f0 := hFB.frozen 0
                          have f1 := hFB.frozen 1
                          obtain ⟨t0, t1⟩ := hFB.c2
                          have hFN := (hFB.set_ 0 (.slice B lst.length cB)).set_ 1 (.int .i64 ((k : Int) + 1))
                          have hEN := Lib.hid (Below.setCell (Below.setCell heB (p := ⟨F, 0, none⟩) (by rw [hFe]; exact Nat.le_refl _) (.slice B lst.length cB)) (p := ⟨F, 1, none⟩) (by rw [hFe]; exact Nat.le_refl _) (.int .i64 ((k : Int) + 1)))
                          have hON := Lib.hid (ho3.out.apart (b := F) (fun e => ho3.out.ne_blk hFB (by decide) e.symm) (((Apart.refl F _).set_ 0 (.slice B lst.length cB)).set_ 1 (.int .i64 ((k : Int) + 1))))
                          have hON2 := Lib.hid (hON.out.to Hlst.out.symm)
                          have hFN' := Lib.hid hFN
                          clear hFN heB ho3 hlvB
                          go_wp2_with fail
                          go_roundw
                          case rel => exact ⟨s + 1, s, k + 1, 0, .slice B lst.length cB, by omega, by omega, by go_num, rfl, by omega, .inr ⟨by omega, rfl, rfl⟩, hstN, hEN.out, by simpa using hFN'.out, hON2.out⟩
                          case measure => simp [intOf]; omega
                        | false =>
                          have hstN : Hid (crIn m (k + 1 : Nat) (s + 1 - 1) = z) := by
                            unfold Hid; rw [Nat.add_sub_cancel, hstp.out, if_neg]
                            rintro ⟨_, h⟩
                            rcases h with h | h
                            · omega
                            · rw [Hqh.out] at h; cases h
                          rw [← Helv.out] at hFB
                          clear t0 t1
                          go_wp2_with fail
                          go_roundw
                          case rel => exact ⟨s + 1, z, k + 1, 0, lv, by omega, by omega, by go_num, rfl, by omega, .inr ⟨hz1', rfl, rfl⟩, hstN, heB, hFB, hlvB⟩
                          case measure => simp [intOf]; omega
                    · have hdpos : decide (0 < ov) = false := by simpa using hpos
                      have hstN : Hid (crIn m (k + 1 : Nat) (s + 1 - 1) = z) := by
                        unfold Hid; rw [Nat.add_sub_cancel, hstp.out, if_neg (fun h => hpos h.1)]
                      clear hpos
                      clear t0 t1
                      go_wp2_with fail
                      go_roundw
                      case rel => exact ⟨s + 1, z, y, uv, lv, by omega, by omega, by go_num, rfl, by omega, hst, hstN, heB, hFB, hlvB⟩
                      case measure => simp [intOf]; omega
              · obtain rfl : s = N := by omega
                have hcr2 : Hid (crBy m (s - 1) (k + 1) = (y, z)) := by
                  unfold Hid
                  have h1 := hin.out
                  rw [crBy, hcr.out, if_pos rfl, h1]
                  rcases hst with ⟨rfl, rfl, _⟩ | ⟨h3, rfl, _⟩
                  · rfl
                  · rw [if_neg (by omega)]
                have hy99 : y ≤ 99 := by omega
                have hst2 : (y = 0 ∧ z = 0 ∧ uv = 6) ∨ (1 ≤ y ∧ uv = 0) := by omega
                clear hst hin
                go_wp2_with fail
                go_roundw
                case rel => exact ⟨k + 1, y, z, uv, lv, by omega, by go_num, rfl, hst2, hy99, by omega, hcr2, he, hFr, hlv⟩
                case measure => simp [intOf]; omega
          · have hcr9 : Hid (crBy m (N - 1) 99 = (y, z)) := crBy_end hk hcr.out (by omega)
            have hCW : Hid (crowE m = (y, z)) := by unfold Hid crowE; rw [if_pos Hr.out, HN.out]; exact hcr9.out
            have hzy : Hid (y = 0 → z = 0) := fun h => by omega
            have huv : Hid (uv = if y = 0 then 6 else 0) := by unfold Hid; split <;> omega
            obtain ⟨vc, hvc⟩ : ∃ vc, crowdC m xs b = vc := ⟨_, rfl⟩
            have hcc := Lib.hid (crowd_any _ m A c xs h12 b vc hvc wr (hvX4.out.ext he) (Hx.out.ext (hE4.trans he)) ⟨l1, l2⟩)
            have Hvc := Lib.hid hvc
            have hcond : k = 99 ∨ k < 99 ∧ 1 ≤ y := by omega
            clear hvc hcr hcr9 hend
            have hM5 := hM4.ext he; have hC5 := hC4.ext he; have bO5 := bO4.ext he; have bX5 := bX4.ext he
            have Hmi5 := Lib.hid (Hmi4.out.ext he); have hVm5 := Lib.hid (hVm4.out.ext he); have hvO5 := Lib.hid (hvO4.out.ext he); have hvX5 := Lib.hid (hvX4.out.ext he)
            have hE5 := hE4.trans he
            clear hM4 hC4 bO4 bX4 Hmi4 hVm4 hvO4 hvX4 hE4
            obtain ⟨x0, x1, x2⟩ := bX5.c3
            obtain ⟨g0, g1⟩ := hC5.c2
            have hwalk : True := trivial
            rcases hcond with rfl | ⟨hk9, hy1⟩
            case' inl =>
              have hd99 : decide ((99 : Int) + 1 ≤ 99) = false := by decide
              clear hyz hy hz hk
              go_wp2_with fail
            case' inr =>
              obtain rfl : uv = 0 := by omega
              clear hyz hy hz
              go_wp2_with fail
            all_goals
              refine hcc.out.mono ?_
              rintro e w4 ⟨rfl, he4⟩
              have hE7 := hE5.trans he4
              have hM7 := hM5.ext he4; have hC7 := hC5.ext he4; have bO7 := bO5.ext he4; have bX7 := bX5.ext he4; have hF7 := hFr.ext he4
              have hlv7 := hlv.out.ext he4
              have Hmi7 := Lib.hid (Hmi5.out.ext he4); have hVm7 := Lib.hid (hVm5.out.ext he4); have hvO7 := Lib.hid (hvO5.out.ext he4); have hvX7 := Lib.hid (hvX5.out.ext he4)
              clear hE5 hM5 hC5 bO5 bX5 hFr hlv Hmi5 hVm5 hvO5 hvX5 hcc he4 x0 x1 x2 g0 g1
              obtain ⟨x0, x1, x2⟩ := bX7.c3
              obtain ⟨g0, g1⟩ := hC7.c2
              by_cases hvc0 : vc = 0
              case' pos =>
                subst hvc0
                have hbb : 1 ≤ b ∧ b ≤ 99 := by
                  have := Hvc.out
                  unfold crowdC at this
                  by_cases e1 : (xs.all fun k => inB k 0 (m.laced.length - 1)) = false
                  · rw [if_pos e1] at this; omega
                  · rw [if_neg e1] at this
                    by_cases e2 : xs.length = 0 ∨ risingB xs = false
                    · rw [if_pos e2] at this; omega
                    · rw [if_neg e2] at this
                      by_cases e3 : inB b 1 99 = false
                      · rw [if_pos e3] at this; omega
                      · unfold inB at e3; simp at e3; omega
                obtain ⟨ov, hov'⟩ : ∃ ov, overF m xs b m.orders.length = ov := ⟨_, rfl⟩
                have hov5 := over5_any _ m Hr.out A c xs h12 b (by omega) w4 hvX7.out (Hx.out.ext hE7)
                rw [hov'] at hov5
                have Hov5 := Lib.hid hov5
                have Hov' := Lib.hid hov'
                have hob := overF_bd Hr.out xs b (by omega) h12 m.orders.length (by omega)
                rw [hov'] at hob
                clear hov5 hov'
                go_wp2_with fail
                refine Hov5.out.mono ?_
                rintro e w5 ⟨rfl, he5⟩
                have hE5 := hE7.trans he5
                have hM5 := hM7.ext he5; have hC5 := hC7.ext he5; have bO5 := bO7.ext he5; have hF5 := hF7.ext he5
                have hlv5 := Lib.hid ((hlv7.ext he5).sl)
                have Hmi5 := Lib.hid (Hmi7.out.ext he5); have hVm5 := Lib.hid (hVm7.out.ext he5); have hvO5 := Lib.hid (hvO7.out.ext he5)
                clear hE7 hM7 hC7 bO7 bX7 hF7 hlv7 Hmi7 hVm7 hvO7 hvX7 he5 Hov5 x0 x1 x2 g0 g1
                obtain ⟨ls, hls⟩ : ∃ ls, ints (Pet.bits 8 z) = ls := ⟨_, rfl⟩
                have HYL : Hid ((if y = 0 then [] else ints (Pet.bits 8 z)) = ls) := by
                  unfold Hid
                  by_cases h : y = 0
                  · rw [if_pos h, ← hls, hzy.out h]; rfl
                  · rw [if_neg h, hls]
                rw [hls] at hlv5
                clear hls
                by_cases h1 : ov < 1
                case' pos =>
                  have HO : Hid (overE m xs b = (0, 6)) := by unfold Hid overE; rw [if_neg (show ¬ checkE m ≠ 0 by rw [Hr.out]; simp), if_neg (show ¬ crowdC m xs b ≠ 0 by rw [Hvc.out]; simp), Hov'.out, if_pos h1]
                  obtain ⟨k0, k1, k2⟩ := bO5.c3
                  have hcw := crowded_any _ m 0 Hr.out y z hCW.out _ hvO5.out
                  rw [if_pos rfl, ← huv.out] at hcw
                  have Hcw := Lib.hid hcw; clear hcw
                  go_wp2_with fail
                  refine Hcw.out.mono ?_
                  rintro e w6 ⟨rv, rfl, hrv, he6⟩
                  rw [HYL.out] at hrv
                  have Hrv := Lib.hid hrv
                  obtain ⟨Ac, cc', rfl, _⟩ := hrv
                  have hX6 := Ext.alloc w6 (.cells #[.slice Ac ls.length cc', .int .i64 (y : Int)] 51)
                  have hK6 := Blk.new w6 51 #[.slice Ac ls.length cc', .int .i64 (y : Int)]
                  have he7 := he6.trans hX6
                  have hE6 := hE5.trans he7
                  have hM6 := hM5.ext he7; have hC6 := hC5.ext he7; have bO6 := bO5.ext he7; have hF6 := hF5.ext he7
                  have Hlv6 := Lib.hid (hlv5.out.ext he7); have Hrv6 := Lib.hid (Hrv.out.ext hX6)
                  have Hmi6 := Lib.hid (Hmi5.out.ext he7); have hVm6 := Lib.hid (hVm5.out.ext he7); have hvO6 := Lib.hid (hvO5.out.ext he7)
                  clear hE5 hM5 hC5 bO5 hF5 hlv5 Hmi5 hVm5 hvO5 he6 he7 hX6 Hcw Hrv k0 k1 k2
                  obtain ⟨k0, k1, k2⟩ := bO6.c3
                  obtain ⟨g0, g1⟩ := hC6.c2
                  have hov := Lib.hid (overTop_any _ m Am cm xs h12 b 0 6 HO.out _ hvO6.out Hmi6.out)
                  go_wp2_with fail
                  refine hov.out.mono ?_
                  rintro e w7 ⟨rfl, he8⟩
                  have hE7 := hE6.trans he8
                  have hM7 := hM6.ext he8; have hC7 := hC6.ext he8; have bO7 := bO6.ext he8; have hF7 := hF6.ext he8; have hK7 := hK6.ext he8
                  have hlv7 := Hlv6.out.ext he8; have hrv7 := Hrv6.out.ext he8
                  have Hmi7 := Lib.hid (Hmi6.out.ext he8); have hVm7 := Lib.hid (hVm6.out.ext he8); have hvO7 := Lib.hid (hvO6.out.ext he8)
                  clear hE6 hM6 hC6 bO6 hF6 hK6 Hlv6 Hrv6 Hmi6 hVm6 hvO6 he8 hov k0 k1 k2 g0 g1
                  obtain ⟨Al, cl', e1', b1', b2', b3'⟩ := hlv7
                  obtain ⟨Ar', cr', e1'', b1, b2, b3⟩ := hrv7
                  injection e1'' with e2 _ e3
                  subst e2; subst e3
                  have heq := Lib.hid (eqI Ac Al cc' cl' ls ls true (by simp) w7 (Nat.le_trans b1 b2) b3 b3')
                  rw [e1'] at hF7
                  clear b3 b3' e1'
                  obtain ⟨t0, t1⟩ := hF7.c2
                  obtain ⟨s0, s1⟩ := hK7.c2
                  go_wp2_with fail
                  refine heq.out.mono ?_
                  rintro e w8 ⟨rfl, he9⟩
                  have hE8 := hE7.trans he9
                  have hM8 := hM7.ext he9; have hC8 := hC7.ext he9; have bO8 := bO7.ext he9
                  have Hmi8 := Lib.hid (Hmi7.out.ext he9)
                  have hsm := Lib.hid (same_any _ _ m m true (by simp) w8 (hvO7.out.ext he9) (hVm7.out.ext he9))
                  clear hE7 hM7 hC7 bO7 hF7 hK7 Hmi7 hVm7 hvO7 he9 heq t0 t1 s0 s1
                  obtain ⟨k0, k1, k2⟩ := bO8.c3
                  obtain ⟨j0, j1, j2⟩ := hM8.c3
                  go_wp2_with fail
                  refine hsm.out.mono ?_
                  rintro e w9 ⟨rfl, he10⟩
                  have hE9 := hE8.trans he10
                  have hC9 := hC8.ext he10
                  have heq2 := Lib.hid (eqI Am A cm c xs xs true (by simp) w9 (Nat.le_trans hmc hmx) (Hmi8.out.ext he10) (Hx.out.ext hE9))
                  clear hE8 hM8 hC8 bO8 Hmi8 he10 hsm k0 k1 k2 j0 j1 j2
                  obtain ⟨g0, g1⟩ := hC9.c2
                  go_wp2_with fail
                  refine heq2.out.mono ?_
                  rintro e w10 ⟨rfl, he11⟩
                  have hE10 := hE9.trans he11
                  clear hE9 hC9 he11 heq2 g0 g1
                  go_wp2_with fail
                  refine (awake_any w10).mono ?_
                  rintro e w11 ⟨rfl, he12⟩
                  have hE11 := hE10.trans he12
                  go_wp2_with fail
                  go_ret
                  exact ⟨rfl, hE11⟩
                case' neg =>
                  have HO : Hid (overE m xs b = (ov, 0)) := by unfold Hid overE; rw [if_neg (show ¬ checkE m ≠ 0 by rw [Hr.out]; simp), if_neg (show ¬ crowdC m xs b ≠ 0 by rw [Hvc.out]; simp), Hov'.out, if_neg h1]
                  have hd1 : decide (ov < 1) = false := by simpa using h1
                  clear h1
                  obtain ⟨k0, k1, k2⟩ := bO5.c3
                  have hcw := crowded_any _ m 0 Hr.out y z hCW.out _ hvO5.out
                  rw [if_pos rfl, ← huv.out] at hcw
                  have Hcw := Lib.hid hcw; clear hcw
                  go_wp2_with fail
                  refine Hcw.out.mono ?_
                  rintro e w6 ⟨rv, rfl, hrv, he6⟩
                  rw [HYL.out] at hrv
                  have Hrv := Lib.hid hrv
                  obtain ⟨Ac, cc', rfl, _⟩ := hrv
                  have hX6 := Ext.alloc w6 (.cells #[.slice Ac ls.length cc', .int .i64 (y : Int)] 51)
                  have hK6 := Blk.new w6 51 #[.slice Ac ls.length cc', .int .i64 (y : Int)]
                  have he7 := he6.trans hX6
                  have hE6 := hE5.trans he7
                  have hM6 := hM5.ext he7; have hC6 := hC5.ext he7; have bO6 := bO5.ext he7; have hF6 := hF5.ext he7
                  have Hlv6 := Lib.hid (hlv5.out.ext he7); have Hrv6 := Lib.hid (Hrv.out.ext hX6)
                  have Hmi6 := Lib.hid (Hmi5.out.ext he7); have hVm6 := Lib.hid (hVm5.out.ext he7); have hvO6 := Lib.hid (hvO5.out.ext he7)
                  clear hE5 hM5 hC5 bO5 hF5 hlv5 Hmi5 hVm5 hvO5 he6 he7 hX6 Hcw Hrv k0 k1 k2
                  obtain ⟨k0, k1, k2⟩ := bO6.c3
                  obtain ⟨g0, g1⟩ := hC6.c2
                  have hov := Lib.hid (overTop_any _ m Am cm xs h12 b ov 0 HO.out _ hvO6.out Hmi6.out)
                  go_wp2_with fail
                  refine hov.out.mono ?_
                  rintro e w7 ⟨rfl, he8⟩
                  have hE7 := hE6.trans he8
                  have hM7 := hM6.ext he8; have hC7 := hC6.ext he8; have bO7 := bO6.ext he8; have hF7 := hF6.ext he8; have hK7 := hK6.ext he8
                  have hlv7 := Hlv6.out.ext he8; have hrv7 := Hrv6.out.ext he8
                  have Hmi7 := Lib.hid (Hmi6.out.ext he8); have hVm7 := Lib.hid (hVm6.out.ext he8); have hvO7 := Lib.hid (hvO6.out.ext he8)
                  clear hE6 hM6 hC6 bO6 hF6 hK6 Hlv6 Hrv6 Hmi6 hVm6 hvO6 he8 hov k0 k1 k2 g0 g1
                  obtain ⟨Al, cl', e1', b1', b2', b3'⟩ := hlv7
                  obtain ⟨Ar', cr', e1'', b1, b2, b3⟩ := hrv7
                  injection e1'' with e2 _ e3
                  subst e2; subst e3
                  have heq := Lib.hid (eqI Ac Al cc' cl' ls ls true (by simp) w7 (Nat.le_trans b1 b2) b3 b3')
                  rw [e1'] at hF7
                  clear b3 b3' e1'
                  obtain ⟨t0, t1⟩ := hF7.c2
                  obtain ⟨s0, s1⟩ := hK7.c2
                  go_wp2_with fail
                  refine heq.out.mono ?_
                  rintro e w8 ⟨rfl, he9⟩
                  have hE8 := hE7.trans he9
                  have hM8 := hM7.ext he9; have hC8 := hC7.ext he9; have bO8 := bO7.ext he9
                  have Hmi8 := Lib.hid (Hmi7.out.ext he9)
                  have hsm := Lib.hid (same_any _ _ m m true (by simp) w8 (hvO7.out.ext he9) (hVm7.out.ext he9))
                  clear hE7 hM7 hC7 bO7 hF7 hK7 Hmi7 hVm7 hvO7 he9 heq t0 t1 s0 s1
                  obtain ⟨k0, k1, k2⟩ := bO8.c3
                  obtain ⟨j0, j1, j2⟩ := hM8.c3
                  go_wp2_with fail
                  refine hsm.out.mono ?_
                  rintro e w9 ⟨rfl, he10⟩
                  have hE9 := hE8.trans he10
                  have hC9 := hC8.ext he10
                  have heq2 := Lib.hid (eqI Am A cm c xs xs true (by simp) w9 (Nat.le_trans hmc hmx) (Hmi8.out.ext he10) (Hx.out.ext hE9))
                  clear hE8 hM8 hC8 bO8 Hmi8 he10 hsm k0 k1 k2 j0 j1 j2
                  obtain ⟨g0, g1⟩ := hC9.c2
                  go_wp2_with fail
                  refine heq2.out.mono ?_
                  rintro e w10 ⟨rfl, he11⟩
                  have hE10 := hE9.trans he11
                  clear hE9 hC9 he11 heq2 g0 g1
                  go_wp2_with fail
                  refine (awake_any w10).mono ?_
                  rintro e w11 ⟨rfl, he12⟩
                  have hE11 := hE10.trans he12
                  go_wp2_with fail
                  go_ret
                  exact ⟨rfl, hE11⟩
              case' neg =>
                have hd0 : (vc == 0) = false := by simpa using hvc0
                have HO : Hid (overE m xs b = (0, vc)) := by unfold Hid overE; rw [if_neg (show ¬ checkE m ≠ 0 by rw [Hr.out]; simp), if_pos (show crowdC m xs b ≠ 0 by rw [Hvc.out]; exact hvc0), Hvc.out]
                have hE5 := hE7; have hM5 := hM7; have hC5 := hC7; have bO5 := bO7; have hF5 := hF7
                have hlv5 := Lib.hid hlv7.sl
                have Hmi5 := Hmi7; have hVm5 := hVm7; have hvO5 := hvO7
                clear hE7 hM7 hC7 bO7 bX7 hF7 hlv7 Hmi7 hVm7 hvO7 hvX7 x0 x1 x2 g0 g1 hvc0
                obtain ⟨ls, hls⟩ : ∃ ls, ints (Pet.bits 8 z) = ls := ⟨_, rfl⟩
                have HYL : Hid ((if y = 0 then [] else ints (Pet.bits 8 z)) = ls) := by
                  unfold Hid
                  by_cases h : y = 0
                  · rw [if_pos h, ← hls, hzy.out h]; rfl
                  · rw [if_neg h, hls]
                rw [hls] at hlv5
                clear hls
                obtain ⟨k0, k1, k2⟩ := bO5.c3
                have hcw := crowded_any _ m 0 Hr.out y z hCW.out _ hvO5.out
                rw [if_pos rfl, ← huv.out] at hcw
                have Hcw := Lib.hid hcw; clear hcw
                go_wp2_with fail
                refine Hcw.out.mono ?_
                rintro e w6 ⟨rv, rfl, hrv, he6⟩
                rw [HYL.out] at hrv
                have Hrv := Lib.hid hrv
                obtain ⟨Ac, cc', rfl, _⟩ := hrv
                have hX6 := Ext.alloc w6 (.cells #[.slice Ac ls.length cc', .int .i64 (y : Int)] 51)
                have hK6 := Blk.new w6 51 #[.slice Ac ls.length cc', .int .i64 (y : Int)]
                have he7 := he6.trans hX6
                have hE6 := hE5.trans he7
                have hM6 := hM5.ext he7; have hC6 := hC5.ext he7; have bO6 := bO5.ext he7; have hF6 := hF5.ext he7
                have Hlv6 := Lib.hid (hlv5.out.ext he7); have Hrv6 := Lib.hid (Hrv.out.ext hX6)
                have Hmi6 := Lib.hid (Hmi5.out.ext he7); have hVm6 := Lib.hid (hVm5.out.ext he7); have hvO6 := Lib.hid (hvO5.out.ext he7)
                clear hE5 hM5 hC5 bO5 hF5 hlv5 Hmi5 hVm5 hvO5 he6 he7 hX6 Hcw Hrv k0 k1 k2
                obtain ⟨k0, k1, k2⟩ := bO6.c3
                obtain ⟨g0, g1⟩ := hC6.c2
                have hov := Lib.hid (overTop_any _ m Am cm xs h12 b 0 vc HO.out _ hvO6.out Hmi6.out)
                go_wp2_with fail
                refine hov.out.mono ?_
                rintro e w7 ⟨rfl, he8⟩
                have hE7 := hE6.trans he8
                have hM7 := hM6.ext he8; have hC7 := hC6.ext he8; have bO7 := bO6.ext he8; have hF7 := hF6.ext he8; have hK7 := hK6.ext he8
                have hlv7 := Hlv6.out.ext he8; have hrv7 := Hrv6.out.ext he8
                have Hmi7 := Lib.hid (Hmi6.out.ext he8); have hVm7 := Lib.hid (hVm6.out.ext he8); have hvO7 := Lib.hid (hvO6.out.ext he8)
                clear hE6 hM6 hC6 bO6 hF6 hK6 Hlv6 Hrv6 Hmi6 hVm6 hvO6 he8 hov k0 k1 k2 g0 g1
                obtain ⟨Al, cl', e1', b1', b2', b3'⟩ := hlv7
                obtain ⟨Ar', cr', e1'', b1, b2, b3⟩ := hrv7
                injection e1'' with e2 _ e3
                subst e2; subst e3
                have heq := Lib.hid (eqI Ac Al cc' cl' ls ls true (by simp) w7 (Nat.le_trans b1 b2) b3 b3')
                rw [e1'] at hF7
                clear b3 b3' e1'
                obtain ⟨t0, t1⟩ := hF7.c2
                obtain ⟨s0, s1⟩ := hK7.c2
                go_wp2_with fail
                refine heq.out.mono ?_
                rintro e w8 ⟨rfl, he9⟩
                have hE8 := hE7.trans he9
                have hM8 := hM7.ext he9; have hC8 := hC7.ext he9; have bO8 := bO7.ext he9
                have Hmi8 := Lib.hid (Hmi7.out.ext he9)
                have hsm := Lib.hid (same_any _ _ m m true (by simp) w8 (hvO7.out.ext he9) (hVm7.out.ext he9))
                clear hE7 hM7 hC7 bO7 hF7 hK7 Hmi7 hVm7 hvO7 he9 heq t0 t1 s0 s1
                obtain ⟨k0, k1, k2⟩ := bO8.c3
                obtain ⟨j0, j1, j2⟩ := hM8.c3
                go_wp2_with fail
                refine hsm.out.mono ?_
                rintro e w9 ⟨rfl, he10⟩
                have hE9 := hE8.trans he10
                have hC9 := hC8.ext he10
                have heq2 := Lib.hid (eqI Am A cm c xs xs true (by simp) w9 (Nat.le_trans hmc hmx) (Hmi8.out.ext he10) (Hx.out.ext hE9))
                clear hE8 hM8 hC8 bO8 Hmi8 he10 hsm k0 k1 k2 j0 j1 j2
                obtain ⟨g0, g1⟩ := hC9.c2
                go_wp2_with fail
                refine heq2.out.mono ?_
                rintro e w10 ⟨rfl, he11⟩
                have hE10 := hE9.trans he11
                clear hE9 hC9 he11 heq2 g0 g1
                go_wp2_with fail
                refine (awake_any w10).mono ?_
                rintro e w11 ⟨rfl, he12⟩
                have hE11 := hE10.trans he12
                go_wp2_with fail
                go_ret
                exact ⟨rfl, hE11⟩
      · have hd : (r == 0) = false := by simpa using hr0
        obtain ⟨y, hy⟩ : ∃ y : Nat, y = 0 := ⟨_, rfl⟩
        obtain ⟨z, hz⟩ : ∃ z : Nat, z = 0 := ⟨_, rfl⟩
        have hCW : Hid (crowE m = (y, z)) := by unfold Hid crowE; rw [if_neg (by rw [Hr.out]; exact hr0), hy, hz]
        obtain ⟨ls, hls⟩ : ∃ ls : List Int, ls = [] := ⟨_, rfl⟩
        have HYL : Hid ((if y = 0 then [] else ints (Pet.bits 8 z)) = ls) := by unfold Hid; rw [if_pos hy, hls]
        have HO : Hid (overE m xs b = (0, r)) := by unfold Hid overE; rw [if_pos (show checkE m ≠ 0 by rw [Hr.out]; exact hr0), Hr.out]
        have hE5 := hE4.trans hX; have hM5 := hM4.ext hX; have hC5 := hC4.ext hX; have bO5 := bO4.ext hX
        have Hmi5 := Lib.hid (Hmi4.out.ext hX); have hVm5 := Lib.hid (hVm4.out.ext hX); have hvO5 := Lib.hid (hvO4.out.ext hX)
        have hF5 : Blk (w3.alloc (.cells #[.slice none 0 0, .int .i64 0] 51)) w3.heap.size 51 #[.slice none 0 0, .int .i64 (y : Int)] := by rw [hy]; exact hF
        have hlv5 : Hid (SlI (w3.alloc (.cells #[.slice none 0 0, .int .i64 0] 51)) (.slice none 0 0) ls) := by rw [hls]; exact ⟨none, 0, rfl, Nat.le_refl _, Nat.zero_le _, fun k hk => by cases hk⟩
        clear hE4 hM4 hC4 bO4 bX4 Hmi4 hVm4 hvO4 hvX4 hX hF hy hz hls
        have Hr0 := Lib.hid hr0; clear hr0
        obtain ⟨k0, k1, k2⟩ := bO5.c3
        have hcw := crowded_any _ m r Hr.out y z hCW.out _ hvO5.out
        rw [if_neg Hr0.out] at hcw
        have Hcw := Lib.hid hcw; clear hcw
        go_wp2_with fail
        refine Hcw.out.mono ?_
        rintro e w6 ⟨rv, rfl, hrv, he6⟩
        rw [HYL.out] at hrv
        have Hrv := Lib.hid hrv
        obtain ⟨Ac, cc', rfl, _⟩ := hrv
        have hX6 := Ext.alloc w6 (.cells #[.slice Ac ls.length cc', .int .i64 (y : Int)] 51)
        have hK6 := Blk.new w6 51 #[.slice Ac ls.length cc', .int .i64 (y : Int)]
        have he7 := he6.trans hX6
        have hE6 := hE5.trans he7
        have hM6 := hM5.ext he7; have hC6 := hC5.ext he7; have bO6 := bO5.ext he7; have hF6 := hF5.ext he7
        have Hlv6 := Lib.hid (hlv5.out.ext he7); have Hrv6 := Lib.hid (Hrv.out.ext hX6)
        have Hmi6 := Lib.hid (Hmi5.out.ext he7); have hVm6 := Lib.hid (hVm5.out.ext he7); have hvO6 := Lib.hid (hvO5.out.ext he7)
        clear hE5 hM5 hC5 bO5 hF5 hlv5 Hmi5 hVm5 hvO5 he6 he7 hX6 Hcw Hrv k0 k1 k2
        obtain ⟨k0, k1, k2⟩ := bO6.c3
        obtain ⟨g0, g1⟩ := hC6.c2
        have hov := Lib.hid (overTop_any _ m Am cm xs h12 b 0 r HO.out _ hvO6.out Hmi6.out)
        go_wp2_with fail
        refine hov.out.mono ?_
        rintro e w7 ⟨rfl, he8⟩
        have hE7 := hE6.trans he8
        have hM7 := hM6.ext he8; have hC7 := hC6.ext he8; have bO7 := bO6.ext he8; have hF7 := hF6.ext he8; have hK7 := hK6.ext he8
        have hlv7 := Hlv6.out.ext he8; have hrv7 := Hrv6.out.ext he8
        have Hmi7 := Lib.hid (Hmi6.out.ext he8); have hVm7 := Lib.hid (hVm6.out.ext he8); have hvO7 := Lib.hid (hvO6.out.ext he8)
        clear hE6 hM6 hC6 bO6 hF6 hK6 Hlv6 Hrv6 Hmi6 hVm6 hvO6 he8 hov k0 k1 k2 g0 g1
        obtain ⟨Al, cl', e1', b1', b2', b3'⟩ := hlv7
        obtain ⟨Ar', cr', e1'', b1, b2, b3⟩ := hrv7
        injection e1'' with e2 _ e3
        subst e2; subst e3
        have heq := Lib.hid (eqI Ac Al cc' cl' ls ls true (by simp) w7 (Nat.le_trans b1 b2) b3 b3')
        rw [e1'] at hF7
        clear b3 b3' e1'
        obtain ⟨t0, t1⟩ := hF7.c2
        obtain ⟨s0, s1⟩ := hK7.c2
        go_wp2_with fail
        refine heq.out.mono ?_
        rintro e w8 ⟨rfl, he9⟩
        have hE8 := hE7.trans he9
        have hM8 := hM7.ext he9; have hC8 := hC7.ext he9; have bO8 := bO7.ext he9
        have Hmi8 := Lib.hid (Hmi7.out.ext he9)
        have hsm := Lib.hid (same_any _ _ m m true (by simp) w8 (hvO7.out.ext he9) (hVm7.out.ext he9))
        clear hE7 hM7 hC7 bO7 hF7 hK7 Hmi7 hVm7 hvO7 he9 heq t0 t1 s0 s1
        obtain ⟨k0, k1, k2⟩ := bO8.c3
        obtain ⟨j0, j1, j2⟩ := hM8.c3
        go_wp2_with fail
        refine hsm.out.mono ?_
        rintro e w9 ⟨rfl, he10⟩
        have hE9 := hE8.trans he10
        have hC9 := hC8.ext he10
        have heq2 := Lib.hid (eqI Am A cm c xs xs true (by simp) w9 (Nat.le_trans hmc hmx) (Hmi8.out.ext he10) (Hx.out.ext hE9))
        clear hE8 hM8 hC8 bO8 Hmi8 he10 hsm k0 k1 k2 j0 j1 j2
        obtain ⟨g0, g1⟩ := hC9.c2
        go_wp2_with fail
        refine heq2.out.mono ?_
        rintro e w10 ⟨rfl, he11⟩
        have hE10 := hE9.trans he11
        clear hE9 hC9 he11 heq2 g0 g1
        go_wp2_with fail
        refine (awake_any w10).mono ?_
        rintro e w11 ⟨rfl, he12⟩
        have hE11 := hE10.trans he12
        go_wp2_with fail
        go_ret
        exact ⟨rfl, hE11⟩
end Go.Proofs.Pet
