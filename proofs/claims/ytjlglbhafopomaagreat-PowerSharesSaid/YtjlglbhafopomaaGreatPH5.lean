/-
  PowerShares, walked.
-/
import Derived.Test.YtjlglbhafopomaaGreatPGJ
import Derived.Test.YtjlglbhafopomaaGreatPG5
import Derived.Test.YtjlglbhafopomaaGreatPBL
namespace Go.Proofs.Pet
open Go Go.RowKit Go.Maps Go.Shelf
open Go.Proofs.Pow (PM Sh Wv POk Up pickF)

/-- the shares, if there is no error -/
def shaL (m : PM) (r : Int) : List Int := if r = 0 then (List.range m.wvs.length).map (Pow.shareP m) else []
theorem Shares_all (v : Value) (m : PM) (r : Int) (hr : checkP m = r) (x : List Int) (hx : shaL m r = x) (w : World) (hv : PMVal w v m) :
    Calls Tryz.prog 50 #[v] w fun e w' => ∃ u, e = .returned (.tuple #[u, .int .i64 r]) ∧ SlI w' u x ∧ Ext w w' := by
  by_cases h0 : r = 0
  · subst h0
    have hm := (checkP_iff m).1 hr
    refine (shares_any v m hr w hv).mono ?_
    rintro e w' ⟨S, rfl, hR, -, he⟩
    refine ⟨_, rfl, ?_, he⟩
    have := (hR.own (base := 0) (Nat.zero_le _) (by have := hm.few; unfold maxLen; omega)).sl
    unfold shaL at hx
    rw [if_pos rfl] at hx
    rw [hx] at this
    exact this
  · refine (sharesErr v m r hr h0 w hv).mono ?_
    rintro e w' ⟨rfl, he⟩
    unfold shaL at hx
    rw [if_neg h0] at hx
    subst hx
    exact ⟨_, rfl, (OwnI.nil w' 0 3).sl, he⟩
theorem sharedE_rang {m : PM} (h : checkP m = 0) (sh : List Int) : sharedE m sh = rangE m sh 1000000 := by
  unfold sharedE rangE
  rw [if_neg (by rw [h]; decide)]
theorem bett_pick {m : PM} {sh : List Int} (h : sharedE m sh = 0) : bettL m sh = ints ((pickF m.wvs.length (Pow.moreB m sh) (2 ^ m.wvs.length)).getD []) ∧ bettE m sh = (if (pickF m.wvs.length (Pow.moreB m sh) (2 ^ m.wvs.length)).isSome = true then 0 else 6) := by
  unfold bettL bettE
  rw [if_neg (by rw [h]; decide), if_neg (by rw [h]; decide), Pow.pick_first]
  refine ⟨rfl, ?_⟩
  cases Pow.firstF m.wvs.length (Pow.moreB m sh) <;> rfl
def fairX (m : PM) (sh : List Int) (e : Int) : Bool := if e = 0 then fairF m sh else false
set_option maxRecDepth 20000 in
set_option maxHeartbeats 16000000 in
theorem powerShares_any (v : Value) (m : PM) (B : Option Addr) (cB : Nat) (sh : List Int) (w : World) (hv : PMVal w v m) (_hB1 : sh.length ≤ cB) (_hB2 : cB ≤ maxLen) (hx : IntsAt w B sh) :
    Calls Tryz.prog 5 #[v, .slice B sh.length cB] w fun e w' => e = .returned (.bool true) ∧ Ext w w' := by
  have Hv := Lib.hid hv
  have HX := Lib.hid hx
  obtain ⟨A1, c1, A2, c2, rfl, h2, h3, h4, h5, h6, h7⟩ := hv
  have hE := Ext.alloc w (.cells #[.slice A1 m.shafts.length c1, .slice A2 m.wvs.length c2] 26)
  have hM := Blk.new w 26 #[.slice A1 m.shafts.length c1, .slice A2 m.wvs.length c2]
  clear h2 h3 h4 h5 h6 h7 hx
  obtain ⟨q, hq⟩ : ∃ q, greatP m = q := ⟨_, rfl⟩
  have hgr := Lib.hid (great7_any _ m q hq _ (Hv.out.ext hE))
  have Hq := Lib.hid hq; clear hq
  obtain ⟨k0, k1⟩ := hM.c2
  go_enter Tryz.func5, Tryz.ntmps5
  go_wp2_with fail
  refine hgr.out.mono ?_
  rintro e w1 ⟨rfl, he1⟩
  have hE1 := hE.trans he1
  have hM1 := hM.ext he1
  clear hE hM he1 hgr k0 k1
  have haw := Lib.hid (awake7_any w1)
  cases q with
  | true =>
    go_wp2_with fail
    refine haw.out.mono ?_
    rintro e w2 ⟨rfl, he2⟩
    have hE2 := hE1.trans he2
    go_wp2_with fail
    go_ret
    exact ⟨rfl, hE2⟩
  | false =>
    by_cases hs10 : 10 < sh.length
    · have hd1 : decide ((10 : Int) < (sh.length : Int)) = true := decide_eq_true (by omega)
      have hd1' : decide (10 < sh.length) = true := decide_eq_true hs10
      go_wp2_with fail
      refine haw.out.mono ?_
      rintro e w2 ⟨rfl, he2⟩
      have hE2 := hE1.trans he2
      go_wp2_with fail
      go_ret
      exact ⟨rfl, hE2⟩
    have hd1 : decide ((10 : Int) < (sh.length : Int)) = false := decide_eq_false (by omega)
    have hd1' : decide (10 < sh.length) = false := decide_eq_false hs10
    clear haw
    have hgb := great_bd Hq.out
    have Hg := Lib.hid hgb.2.2
    have hg1 := hgb.1
    have hg2 := hgb.2.1
    have Hv1 := Lib.hid (Hv.out.ext hE1)
    have HX1 := Lib.hid (HX.out.ext hE1)
    clear hgb HX
    go_upto_region 3 with fail
    clear hd1 hd1'
    refine wp_region_stage 8 (by kernel_rfl) (by kernel_rfl) (StgF w1 (OpenG 1 3 6 7 (fun k => if k = 5 then some (3, sh) else none) w1 m)) (fun k v => (k = 0 ∨ k = 2 → v = .agg #[.slice A1 m.shafts.length c1, .slice A2 m.wvs.length c2]) ∧ (k = 4 → v = .slice B sh.length cB)) StgF.start ?_ ?_
    · simp only [List.take, AllOps3, fill, Act.put, List.setIfInBounds_toArray, List.set_cons_zero, List.set_cons_succ, Nat.reduceAdd, DepsV, DepsL, List.filter_cons, List.filter_nil, Region.binds, if_true, and_true, Closed]
      refine ⟨?_, ?_, ?_, ?_, ?_, ?_, ?_, ?_⟩
      all_goals
        intro Ld x W hS hcl hnl hdl hd K Q hK
        obtain ⟨k0, k1⟩ := (hM1.ext hS.1).c2
        have HK := Lib.hid hK; clear hK hcl hdl hnl
        have HS := Lib.hid hS; clear hS
        have Hd := Lib.hid hd; clear hd
      case refine_2 =>
        have h0 := Hd.out.1 (by simp)
        have hk0 := HK.out; clear HK
        simp only [h0] at hk0 ⊢
        have HK := Lib.hid hk0; clear hk0 h0
        go_wp2_with fail
        refine (own7_any _ m (by omega) (by omega) (fun k hk => by have := Hg.out k hk; omega) W (Hv1.out.ext HS.out.1)).mono ?_
        rintro e w' ⟨v', rfl, hv', he'⟩
        go_wp2
        exact HK.out _ _ (by refine ⟨fun h => ?_, fun h => ?_⟩ <;> first | rfl | exact absurd h (by decide)) (HS.out.step OpenG.ext he' 1 _ ⟨fun _ => hv'.mono HS.out.1.size, fun h => absurd h (by decide), fun h => absurd h (by decide), fun h => absurd h (by decide), (fun t l e => by simp at e)⟩)
      case refine_4 =>
        have h0 := Hd.out.1.1 (by simp)
        have hk0 := HK.out; clear HK
        simp only [h0] at hk0 ⊢
        have HK := Lib.hid hk0; clear hk0 h0
        go_wp2_with fail
        refine (theirs7_any _ m w1 W HS.out.1 Hv1.out (by omega) (by omega)).mono ?_
        rintro e w' ⟨v', rfl, hv', he'⟩
        go_wp2
        exact HK.out _ _ (by refine ⟨fun h => ?_, fun h => ?_⟩ <;> first | rfl | exact absurd h (by decide)) (HS.out.step OpenG.ext he' 3 _ ⟨fun h => absurd h (by decide), fun _ => hv'.mono HS.out.1.size, fun h => absurd h (by decide), fun h => absurd h (by decide), (fun t l e => by simp at e)⟩)
      case refine_6 =>
        have h0 := Hd.out.1.2 (by simp)
        have hk0 := HK.out; clear HK
        simp only [h0] at hk0 ⊢
        have HK := Lib.hid hk0; clear hk0 h0
        go_wp2_with fail
        refine ((fun W (hW : Ext w1 W) => dupI B cB sh W (by omega) (HX1.out.ext hW)) W HS.out.1).mono ?_
        rintro e w' ⟨v', rfl, hv', he'⟩
        go_wp2
        exact HK.out _ _ (by refine ⟨fun h => ?_, fun h => ?_⟩ <;> first | rfl | exact absurd h (by decide)) (HS.out.step OpenG.ext he' 5 _ ⟨fun h => absurd h (by decide), fun h => absurd h (by decide), fun h => absurd h (by decide), fun h => absurd h (by decide), (fun t l e => by simp at e; obtain ⟨rfl, rfl⟩ := e; exact hv'.mono HS.out.1.size)⟩)
      case refine_7 =>
        go_wp2_with fail
        exact HK.out _ _ (by refine ⟨fun h => ?_, fun h => ?_⟩ <;> first | rfl | exact absurd h (by decide)) (HS.out.step OpenG.ext (Ext.alloc _ _) 6 _ ⟨fun h => absurd h (by decide), fun h => absurd h (by decide), fun _ => BoxP.new HS.out.1.size, fun h => absurd h (by decide), (fun t l e => by simp at e)⟩)
      case refine_8 =>
        go_wp2_with fail
        exact HK.out _ _ (by refine ⟨fun h => ?_, fun h => ?_⟩ <;> first | rfl | exact absurd h (by decide)) (HS.out.step OpenG.ext (Ext.alloc _ _) 7 _ ⟨fun h => absurd h (by decide), fun h => absurd h (by decide), fun h => absurd h (by decide), fun _ => BoxP.new HS.out.1.size, (fun t l e => by simp at e)⟩)
      all_goals
        go_wp2_with fail
        refine HK.out _ _ (by refine ⟨fun h => ?_, fun h => ?_⟩ <;> first | rfl | exact absurd h (by decide)) (HS.out.step OpenG.ext (Ext.refl _) _ _ ⟨fun h => absurd h (by decide), fun h => absurd h (by decide), fun h => absurd h (by decide), fun h => absurd h (by decide), (fun t l e => by simp at e)⟩)
    · intro x W hS hR
      obtain ⟨heW, hF⟩ := hS
      have hO := (hF 1 (by decide)).1 rfl
      have hT := (hF 3 (by decide)).2.1 rfl
      obtain ⟨g, x6, hg, b4⟩ := (hF 6 (by decide)).2.2.1 rfl
      obtain ⟨g', x7, hg', b5⟩ := (hF 7 (by decide)).2.2.2.1 rfl
      have hD5 := (hF 5 (by decide)).2.2.2.2 3 sh (by simp)
      have hO0 := hO
      have hT0 := hT
      obtain ⟨s1, s2, x1, p1, cs1, p2, -⟩ := hO0
      obtain ⟨r1, r2, cs, x3, p3, p4, -⟩ := hT0
      obtain ⟨a1, d1, rfl⟩ := ownsRow_slice p1
      obtain ⟨a2, d2, rfl⟩ := ownsRow_slice p2
      obtain ⟨b1, f1, rfl⟩ := ownsRow_slice p3
      obtain ⟨b2, f2, rfl⟩ := ownsRow_slice p4
      clear p1 p2 p3 p4
      simp only [AllV, true_and] at hR
      have x0 := hR.1.1.1.1.1.1.1.1 (by simp)
      have x2 := hR.1.1.1.1.1.2.1 (by simp)
      have x4 := hR.1.1.1.2.2 (by simp)
      obtain ⟨D1, e1, x5⟩ := ownsRow_slice hD5
      rw [x5] at hD5
      rw [x1] at hO
      rw [x3] at hT
      simp only [List.take, List.drop, fill, Act.put, List.setIfInBounds_toArray, List.set_cons_zero, List.set_cons_succ, Nat.reduceAdd, x0, x1, x2, x3, x4, x5, x6, x7]
      clear hR hF x0 x1 x2 x3 x4 x5 x6 x7
      obtain ⟨W2, hW2, hE2, bO, bX, vO, vX⟩ := opened_stored heW hg hg' b4 b5 hO hT
      have hD5' := OwnI.opened (s1 := .slice a1 m.shafts.length d1) (s2 := .slice a2 m.wvs.length d2) (r1 := .slice b1 m.shafts.length f1) (r2 := .slice b2 m.wvs.length f2) hD5 b4 b5 (by decide) (by decide)
      rw [← hW2] at hD5'
      obtain ⟨u0, u1⟩ := b4.c2
      obtain ⟨y0, y1⟩ := b5.c2
      have z0 := b4.frozen 0; have z1 := b4.frozen 1
      have i0 := b5.frozen 0; have i1 := b5.frozen 1
      have hne : g ≠ g' := b4.ne_ b5 (by decide)
      have hne' : g' ≠ g := fun h => hne h.symm
      have HW2 := Lib.hid hW2
      have B4 := Lib.hid b4; have B5 := Lib.hid b5
      have HD5 := Lib.hid hD5'
      clear hW2 b4 b5 hO hT hD5 hD5'
      obtain ⟨r, hr⟩ : ∃ r, checkP m = r := ⟨_, rfl⟩
      have hck := Lib.hid (check7_any _ m r hr W2 (vX.val hE2))
      obtain ⟨k0, k1⟩ := bX.c2
      have hE2' := hE1.trans hE2
      have hM2 := hM1.ext hE2
      have VO := Lib.hid vO; have VX := Lib.hid vX
      clear k0 k1
      go_wp2_with fail
      rw [← HW2.out]
      clear u0 u1 y0 y1 z0 z1 i0 i1 HW2 B4 B5 vO vX hne hne' heW
      refine hck.out.mono ?_
      rintro e w3 ⟨rfl, he3⟩
      clear hck
      have hE3 := hE2'.trans he3
      have hM3 := hM2.ext he3
      have bO3 := bO.ext he3; have bX3 := bX.ext he3
      have VO3 := Lib.hid (VO.out.ext he3)
      have HVX := Lib.hid ((VX.out.val hE2).ext he3)
      have HX3 := Lib.hid (HX1.out.ext (hE2.trans he3))
      have HD5' := Lib.hid (HD5.out.ext he3)
      have Hr := Lib.hid hr
      clear hr he3 VO VX bO bX hE2' hM2 hE2 HX1 HD5
      obtain ⟨eS, heS⟩ : ∃ eS, sharedE m sh = eS := ⟨_, rfl⟩
      obtain ⟨eB, heB⟩ : ∃ eB, bettE m sh = eB := ⟨_, rfl⟩
      obtain ⟨qF, hqF⟩ : ∃ qF, fairX m sh eS = qF := ⟨_, rfl⟩
      obtain ⟨xW, hxW⟩ : ∃ xW, shaL m r = xW := ⟨_, rfl⟩
      obtain ⟨xB, hxB⟩ : ∃ xB, bettL m sh = xB := ⟨_, rfl⟩
      have HeS := Lib.hid heS; have HeB := Lib.hid heB; have HqF := Lib.hid hqF; have HxW := Lib.hid hxW; have HxB := Lib.hid hxB
      clear heS heB hqF hxW hxB
      go_upto_if 40 with fail
      go_cut [9, 10, 11, 12, 13] (fun a b c d e wx => a = .int .i64 eS ∧ b = .int .i64 eB ∧ c = .bool qF ∧ Hid (SlI wx d xW) ∧ Hid (SlI wx e xB) ∧ Ext w3 wx)
      case first =>
        by_cases hr0 : r = 0
        · -- <<T
          as_aux_lemma =>
          subst hr0
          have hz : ((0 : Int) == 0) = true := rfl
          have Hm := Lib.hid ((checkP_iff m).1 Hr.out)
          have hsz9 := Hm.out.sz
          have hfew := Hm.out.few
          have hse : Hid (rangE m sh 1000000 = eS) := (sharedE_rang Hr.out sh).symm.trans HeS.out
          have hsw : Hid ((List.range m.wvs.length).map (Pow.shareP m) = xW) := by
            have := HxW.out
            unfold shaL at this
            rwa [if_pos rfl] at this
          clear HxW
          obtain ⟨k0, k1⟩ := bX3.c2
          go_wp2_with fail
          refine (shares7_any _ m Hm.out w3 HVX.out).mono ?_
          rintro e w4 ⟨uW, rfl, hOW, he4⟩
          rw [hsw.out] at hOW
          have HW := Lib.hid hOW.sl
          clear k0 k1 hOW hsw
          have bX4 := bX3.ext he4
          have HV4 := Lib.hid (HVX.out.ext he4); have HX4 := Lib.hid (HX3.out.ext he4)
          obtain ⟨k0, k1⟩ := bX4.c2
          go_wp2_with fail
          refine (shared7_any _ m B cB sh.length sh rfl eS hse.out w4 HV4.out (by omega) HX4.out).mono ?_
          rintro e w5 ⟨rfl, he5⟩
          clear k0 k1
          have bX5 := bX4.ext he5
          have HV5 := Lib.hid (HV4.out.ext he5); have HX5 := Lib.hid (HX4.out.ext he5); have HW5 := Lib.hid (HW.out.ext he5)
          have he35 := he4.trans he5
          clear HW bX4 HV4 HX4 he4 he5 hse
          by_cases h0 : eS = 0
          · have hz9 : (eS == 0) = true := by rw [h0]; rfl
            obtain ⟨-, hl, hb⟩ := sharedE_ok (HeS.out.trans h0)
            have Hl := Lib.hid hl; have Hb := Lib.hid hb
            have hfx : Hid (fairF m sh = qF) := by
              have := HqF.out
              unfold fairX at this
              unfold Hid
              rwa [if_pos h0] at this
            have hbp := Lib.hid (bett_pick (HeS.out.trans h0))
            have Hh0 := Lib.hid h0
            obtain ⟨k0, k1⟩ := bX5.c2
            clear h0 hl hb HqF
            go_wp2_with fail
            refine (fair7_any _ m Hm.out B cB sh.length sh rfl Hl.out Hb.out qF hfx.out w5 HV5.out HX5.out).mono ?_
            rintro e w6 ⟨rfl, he6⟩
            clear k0 k1
            obtain ⟨k0, k1⟩ := (bX5.ext he6).c2
            go_wp2_with fail
            refine (better7_any _ m Hm.out B cB sh.length sh rfl Hl.out Hb.out w6 (HV5.out.ext he6) (HX5.out.ext he6)).mono ?_
            rintro e w7 ⟨uB, rfl, hOB, he7⟩
            have he57 := he6.trans he7
            have hsE := hbp.out.2
            rw [HeB.out] at hsE
            rw [← hbp.out.1, HxB.out] at hOB
            generalize (pickF m.wvs.length (Pow.moreB m sh) (2 ^ m.wvs.length)).isSome = qf at *
            have HsE := Lib.hid hsE
            have HB := Lib.hid hOB.sl
            have HW7 := Lib.hid (HW5.out.ext he57)
            clear k0 k1 hbp hsE hOB he6 he7
            cases qf with
            | true =>
              have hb0 : Hid (eB = 0) := by unfold Hid; rw [HsE.out]; rfl
              clear HsE
              go_wp2_with fail
              go_meet
              exact ⟨rfl, by rw [hb0.out], rfl, HW7, HB, he35.trans he57⟩
            | false =>
              have hb0 : Hid (eB = 6) := by unfold Hid; rw [HsE.out]; rfl
              clear HsE
              go_wp2_with fail
              go_meet
              exact ⟨rfl, by rw [hb0.out], rfl, HW7, HB, he35.trans he57⟩
          · have hz9 : (eS == 0) = false := beq_eq_false_iff_ne.2 h0
            have hss : sharedE m sh ≠ 0 := by rw [HeS.out]; exact h0
            have e1 : eB = eS := by rw [← HeB.out]; unfold bettE; rw [if_pos hss, HeS.out]
            have e2 : xB = [] := by rw [← HxB.out]; unfold bettL; rw [if_pos hss]
            have e3 : qF = false := by rw [← HqF.out]; unfold fairX; rw [if_neg h0]
            have E := Lib.hid (And.intro e1 (And.intro e2 e3))
            clear h0 hss e1 e2 e3
            go_wp2_with fail
            go_meet
            exact ⟨rfl, by rw [E.out.1], by rw [E.out.2.2], HW5, Lib.hid (by rw [E.out.2.1]; exact (OwnI.nil w5 0 3).sl), he35⟩
          -- >>
        · -- <<B
          as_aux_lemma =>
          have hz : (r == 0) = false := beq_eq_false_iff_ne.2 hr0
          have e1 : eS = r := by rw [← HeS.out]; unfold sharedE; rw [Hr.out, if_pos hr0]
          have hss : sharedE m sh ≠ 0 := by rw [HeS.out, e1]; exact hr0
          have e2 : eB = r := by rw [← HeB.out]; unfold bettE; rw [if_pos hss, HeS.out, e1]
          have e3 : qF = false := by rw [← HqF.out]; unfold fairX; rw [if_neg (by rw [e1]; exact hr0)]
          have e4 : xW = [] := by rw [← HxW.out]; unfold shaL; rw [if_neg hr0]
          have e5 : xB = [] := by rw [← HxB.out]; unfold bettL; rw [if_pos hss]
          have hS : SlI w3 (.slice none 0 0) [] := (OwnI.nil w3 0 3).sl
          have E := Lib.hid (And.intro e1 (And.intro e2 (And.intro e3 (And.intro e4 e5))))
          clear e1 e2 e3 e4 e5 hss hr0
          go_wp2_with fail
          go_meet
          exact ⟨by rw [E.out.1], by rw [E.out.2.1], by rw [E.out.2.2.1], Lib.hid (by rw [E.out.2.2.2.1]; exact hS), Lib.hid (by rw [E.out.2.2.2.2]; exact hS), Ext.refl _⟩
          -- >>
      case rest =>
        -- <<R
        as_aux_lemma =>
        obtain ⟨rfl, rfl, rfl, hSW, hSB, he5⟩ := hcut
        obtain ⟨w5, rfl⟩ : ∃ z, z = wc := ⟨_, rfl⟩
        have bO5 := bO3.ext he5; have hM5 := hM3.ext he5
        have HVO := Lib.hid (VO3.out.ext he5)
        have HDa := Lib.hid (HD5'.out.ext he5)
        have HX5 := Lib.hid (HX3.out.ext he5)
        have hE5 := hE3.trans he5
        have Hv5 := Lib.hid (Hv.out.ext hE5)
        have HI5 := Lib.hid HDa.out.sl.ints
        have hsm : sh.length ≤ maxLen := by unfold maxLen; omega
        have Hsm := Lib.hid hsm
        clear bO3 hM3 VO3 HD5' HX3 hE3 he5 bX3 HVX hsm
        have Hc1 := Lib.hid (Shares_all _ m r Hr.out xW HxW.out w5 HVO.out.val)
        obtain ⟨k0, k1⟩ := bO5.c2
        go_wp2_with fail
        refine Hc1.out.mono ?_
        rintro e wA ⟨uA, rfl, hOA, heA⟩
        have HOA := Lib.hid hOA
        clear Hc1 k0 k1 hOA
        obtain ⟨k0, k1⟩ := (bO5.ext heA).c2
        have Hc2 := Lib.hid (Fair_any _ m D1 e1 sh.length sh rfl eS qF HeS.out HqF.out wA (HVO.out.ext heA).val Hsm.out (HI5.out.ext heA))
        go_wp2_with fail
        refine Hc2.out.mono ?_
        rintro e wB ⟨rfl, heB'⟩
        have heB := heA.trans heB'
        have HOB := Lib.hid (HOA.out.ext heB')
        clear Hc2 k0 k1 HOA heB' heA
        obtain ⟨k0, k1⟩ := (bO5.ext heB).c2
        have Hc3 := Lib.hid (Better_any _ m D1 e1 sh.length sh rfl eB xB HeB.out HxB.out wB (HVO.out.ext heB).val Hsm.out (HI5.out.ext heB))
        go_wp2_with fail
        refine Hc3.out.mono ?_
        rintro e wD ⟨uD, rfl, hOD, heD'⟩
        have heD := heB.trans heD'
        obtain ⟨EA, fA, rfl, gA1, gA2, gA3⟩ := HOB.out.ext heD'
        obtain ⟨ED, fD, rfl, gD1, gD2, gD3⟩ := hOD.sl
        obtain ⟨FA, iA, rfl, _, _, jA3⟩ := hSW.out.ext heD
        obtain ⟨FD, iD, rfl, _, _, jD3⟩ := hSB.out.ext heD
        have hq1 : (r == r) = true := by simp
        have hq2 : (eS == eS) = true := by simp
        have hq3 : (eB == eB) = true := by simp
        have hq5 : (qF == qF) = true := by simp
        have Hq6 := Lib.hid (fun W (hW : Ext wD W) => eqI EA FA fA iA _ _ true (decide_eq_true rfl) W (Nat.le_trans gA1 gA2) (IntsAt.ext gA3 hW) (IntsAt.ext jA3 hW))
        have Hq8 := Lib.hid (fun W (hW : Ext wD W) => eqI ED FD fD iD _ _ true (decide_eq_true rfl) W (Nat.le_trans gD1 gD2) (IntsAt.ext gD3 hW) (IntsAt.ext jD3 hW))
        obtain ⟨n1, hn1⟩ : ∃ n, xW.length = n := ⟨_, rfl⟩
        obtain ⟨n3, hn3⟩ : ∃ n, xB.length = n := ⟨_, rfl⟩
        rw [hn1] at Hq6 ⊢
        rw [hn3] at Hq8 ⊢
        have hE9 := hE5.trans heD
        have bO9 := bO5.ext heD; have hM9 := hM5.ext heD
        have Hsa := Lib.hid (fun W (hW : Ext wD W) => same7_any _ _ m m true (decide_eq_true rfl) W (HVO.out.ext (heD.trans hW)).val (Hv5.out.ext (heD.trans hW)))
        have Heq := Lib.hid (fun W (hW : Ext wD W) => eqI D1 B e1 cB sh sh true (decide_eq_true rfl) W Hsm.out (HI5.out.ext (heD.trans hW)) (HX5.out.ext (heD.trans hW)))
        clear Hc3 k0 k1 HOB heD' hOD hSW hSB gA1 gA2 gA3 gD1 gD2 gD3 jA3 jD3 hn1 hn3 heB heD hE5 bO5 hM5 HVO HDa HX5 Hv5 HI5
        go_wp2_with fail
        refine (Hq6.out wD (Ext.refl _)).mono ?_
        rintro e wE ⟨rfl, heE⟩
        clear Hq6
        go_wp2_with fail
        refine (Hq8.out wE heE).mono ?_
        rintro e wG ⟨rfl, heG'⟩
        have heG := heE.trans heG'
        clear Hq8 heE heG'
        obtain ⟨k0, k1⟩ := (bO9.ext heG).c2
        obtain ⟨j0, j1⟩ := (hM9.ext heG).c2
        go_wp2_with fail
        refine (Hsa.out wG heG).mono ?_
        rintro e wH ⟨rfl, heH'⟩
        have heH := heG.trans heH'
        clear Hsa heG heH' k0 k1 j0 j1
        go_wp2_with fail
        refine (Heq.out wH heH).mono ?_
        rintro e wI ⟨rfl, heI'⟩
        have heI := heH.trans heI'
        clear Heq heH heI'
        go_wp2_with fail
        refine (awake7_any wI).mono ?_
        rintro e wK ⟨rfl, heK⟩
        go_wp2_with fail
        go_ret
        exact ⟨rfl, hE9.trans (heI.trans heK)⟩
        -- >>
end Go.Proofs.Pet
