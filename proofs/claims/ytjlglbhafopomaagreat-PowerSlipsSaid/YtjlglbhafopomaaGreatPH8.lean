/-
  PowerSlips, walked.
-/
import Derived.Test.YtjlglbhafopomaaGreatPG4
import Derived.Test.YtjlglbhafopomaaGreatPG5
import Derived.Test.YtjlglbhafopomaaGreatPBL
namespace Go.Proofs.Pet
set_option linter.unusedSimpArgs false
open Go Go.RowKit Go.Maps Go.Shelf
open Go.Proofs.Pow (PM Sh Wv POk Up sightF clrB explB bitsL pickF bothF proofR mostR proofB clashB)

theorem ints_nat {l : List Int} (h : ∀ x, x ∈ l → 0 ≤ x) : ints (natL l) = l := by
  unfold ints natL
  rw [List.map_map]
  conv => rhs; rw [← List.map_id l]
  refine List.map_congr_left fun x hx => ?_
  have := h x hx
  show ((x.toNat : Nat) : Int) = x
  omega
theorem shaftE_in {m : PM} {l : List Int} (h : shaftE m l = 0) : ∀ x, x ∈ l → 0 ≤ x := by
  unfold shaftE at h
  split at h
  · cases h
  · rename_i h1
    intro x hx
    rw [Bool.not_eq_false, List.all_eq_true] at h1
    exact (inB_iff.1 (h1 x hx)).1
theorem explE_shaft {m : PM} {ss l : List Int} (h : sightE m ss = 0) : explE m ss l = shaftE m l := by
  unfold explE shaftE
  rw [if_neg (by rw [h]; decide)]
theorem explQ_G {m : PM} {ss l : List Int} (h : sightE m ss = 0) (hl : shaftE m l = 0) : explG m (sightF ss) l = explQ m ss l := by
  unfold explQ
  rw [explE_shaft h, if_pos hl, ← explG_ints ((checkP_iff m).1 (sightE_ok h).1), ints_nat (shaftE_in hl)]
theorem slip_pick {m : PM} {ss : List Int} (h : sightE m ss = 0) : slipL m ss = ints ((pickF m.shafts.length (explB m (sightF ss)) (2 ^ m.shafts.length)).getD []) ∧ slipE m ss = (if (pickF m.shafts.length (explB m (sightF ss)) (2 ^ m.shafts.length)).isSome = true then 0 else 7) := by
  unfold slipL slipE
  rw [if_neg (by rw [h]; decide), if_neg (by rw [h]; decide), Pow.pick_first]
  refine ⟨rfl, ?_⟩
  cases Pow.firstF m.shafts.length (explB m (sightF ss)) <;> rfl
theorem sure_slip {m : PM} {ss : List Int} (h : sightE m ss = 0) : sureE m ss = slipE m ss ∧ sureV m ss = ints ((bothF m.shafts.length (explB m (sightF ss)) (2 ^ m.shafts.length)).getD []) := by
  have hm := (checkP_iff m).1 (sightE_ok h).1
  have e1 : sureE m ss = slipE m ss := by
    rw [(slip_pick h).2]
    unfold sureE
    rw [if_neg (by rw [h]; decide), Pow.clash_pick hm]
    cases pickF m.shafts.length (explB m (sightF ss)) (2 ^ m.shafts.length) <;> rfl
  refine ⟨e1, ?_⟩
  unfold sureV
  rw [e1, (slip_pick h).2]
  cases hb : bothF m.shafts.length (explB m (sightF ss)) (2 ^ m.shafts.length) with
  | none =>
    rw [Pow.both_pick] at hb
    rw [hb]; rfl
  | some b =>
    have hp : ∃ x, pickF m.shafts.length (explB m (sightF ss)) (2 ^ m.shafts.length) = some x := by
      cases hp : pickF m.shafts.length (explB m (sightF ss)) (2 ^ m.shafts.length) with
      | none => rw [← Pow.both_pick] at hp; rw [hp] at hb; cases hb
      | some x => exact ⟨x, rfl⟩
    obtain ⟨x, hp⟩ := hp
    rw [hp]
    exact Pow.both_sure hm hb
theorem sure_slipE (m : PM) (ss : List Int) : sureE m ss = slipE m ss := by
  by_cases h : sightE m ss = 0
  · exact (sure_slip h).1
  · unfold sureE slipE; rw [if_pos h, if_pos h]
set_option maxRecDepth 20000 in
set_option maxHeartbeats 16000000 in
theorem powerSlips_any (v : Value) (m : PM) (B : Option Addr) (cB : Nat) (ss : List Int) (C : Option Addr) (cC : Nat) (l : List Int) (w : World) (hv : PMVal w v m) (_hB1 : ss.length ≤ cB) (_hB2 : cB ≤ maxLen) (hx : IntsAt w B ss) (_hC1 : l.length ≤ cC) (_hC2 : cC ≤ maxLen) (hy : IntsAt w C l) :
    Calls Tryz.prog 8 #[v, .slice B ss.length cB, .slice C l.length cC] w fun e w' => e = .returned (.bool true) ∧ Ext w w' := by
  have Hv := Lib.hid hv
  have HX := Lib.hid hx; have HY := Lib.hid hy
  obtain ⟨A1, c1, A2, c2, rfl, h2, h3, h4, h5, h6, h7⟩ := hv
  have hE := Ext.alloc w (.cells #[.slice A1 m.shafts.length c1, .slice A2 m.wvs.length c2] 26)
  have hM := Blk.new w 26 #[.slice A1 m.shafts.length c1, .slice A2 m.wvs.length c2]
  clear h2 h3 h4 h5 h6 h7 hx hy
  obtain ⟨q, hq⟩ : ∃ q, greatP m = q := ⟨_, rfl⟩
  have hgr := Lib.hid (great7_any _ m q hq _ (Hv.out.ext hE))
  have Hq := Lib.hid hq; clear hq
  obtain ⟨k0, k1⟩ := hM.c2
  go_enter Tryz.func8, Tryz.ntmps8
  go_wp2_with fail
  refine hgr.out.mono ?_
  rintro e w1 ⟨rfl, he1⟩
  have hE1 := hE.trans he1
  have hM1 := hM.ext he1
  clear hE hM he1 hgr k0 k1
  have haw := Lib.hid (awake7_any w1)
  cases q with
  | true =>
    go_wp2_with fail
    refine haw.out.mono ?_
    rintro e w2 ⟨rfl, he2⟩
    have hE2 := hE1.trans he2
    go_wp2_with fail
    go_ret
    exact ⟨rfl, hE2⟩
  | false =>
    by_cases hs10 : 10 < ss.length
    · have hd1 : decide ((10 : Int) < (ss.length : Int)) = true := decide_eq_true (by omega)
      have hd1' : decide (10 < ss.length) = true := decide_eq_true hs10
      go_wp2_with fail
      refine haw.out.mono ?_
      rintro e w2 ⟨rfl, he2⟩
      have hE2 := hE1.trans he2
      go_wp2_with fail
      go_ret
      exact ⟨rfl, hE2⟩
    have hd1 : decide ((10 : Int) < (ss.length : Int)) = false := decide_eq_false (by omega)
    have hd1' : decide (10 < ss.length) = false := decide_eq_false hs10
    by_cases hl14 : 14 < l.length
    · have hd2 : decide ((14 : Int) < (l.length : Int)) = true := decide_eq_true (by omega)
      have hd2' : decide (14 < l.length) = true := decide_eq_true hl14
      go_wp2_with fail
      refine haw.out.mono ?_
      rintro e w2 ⟨rfl, he2⟩
      have hE2 := hE1.trans he2
      go_wp2_with fail
      go_ret
      exact ⟨rfl, hE2⟩
    have hd2 : decide ((14 : Int) < (l.length : Int)) = false := decide_eq_false (by omega)
    have hd2' : decide (14 < l.length) = false := decide_eq_false hl14
    clear haw
    have hgb := great_bd Hq.out
    have Hg := Lib.hid hgb.2.2
    have hg1 := hgb.1
    have hg2 := hgb.2.1
    have Hv1 := Lib.hid (Hv.out.ext hE1)
    have HX1 := Lib.hid (HX.out.ext hE1); have HY1 := Lib.hid (HY.out.ext hE1)
    clear hgb HX HY
    go_upto_region 3 with fail
    clear hd1 hd1' hd2 hd2'
    refine wp_region_stage 10 (by kernel_rfl) (by kernel_rfl) (StgF w1 (OpenG 1 3 8 9 (fun k => if k = 5 then some (36, ss) else if k = 7 then some (3, l) else none) w1 m)) (fun k v => (k = 0 ∨ k = 2 → v = .agg #[.slice A1 m.shafts.length c1, .slice A2 m.wvs.length c2]) ∧ (k = 4 → v = .slice B ss.length cB) ∧ (k = 6 → v = .slice C l.length cC)) StgF.start ?_ ?_
    · simp only [List.take, AllOps3, fill, Act.put, List.setIfInBounds_toArray, List.set_cons_zero, List.set_cons_succ, Nat.reduceAdd, DepsV, DepsL, List.filter_cons, List.filter_nil, Region.binds, if_true, and_true, Closed]
      refine ⟨?_, ?_, ?_, ?_, ?_, ?_, ?_, ?_, ?_, ?_⟩
      all_goals
        intro Ld x W hS hcl hnl hdl hd K Q hK
        obtain ⟨k0, k1⟩ := (hM1.ext hS.1).c2
        have HK := Lib.hid hK; clear hK hcl hdl hnl
        have HS := Lib.hid hS; clear hS
        have Hd := Lib.hid hd; clear hd
      case refine_2 =>
        have h0 := Hd.out.1 (by simp)
        have hk0 := HK.out; clear HK
        simp only [h0] at hk0 ⊢
        have HK := Lib.hid hk0; clear hk0 h0
        go_wp2_with fail
        refine (own7_any _ m (by omega) (by omega) (fun k hk => by have := Hg.out k hk; omega) W (Hv1.out.ext HS.out.1)).mono ?_
        rintro e w' ⟨v', rfl, hv', he'⟩
        go_wp2
        exact HK.out _ _ (by refine ⟨fun h => ?_, fun h => ?_, fun h => ?_⟩ <;> first | rfl | exact absurd h (by decide)) (HS.out.step OpenG.ext he' 1 _ ⟨fun _ => hv'.mono HS.out.1.size, fun h => absurd h (by decide), fun h => absurd h (by decide), fun h => absurd h (by decide), (fun t l e => by simp at e)⟩)
      case refine_4 =>
        have h0 := Hd.out.1.1 (by simp)
        have hk0 := HK.out; clear HK
        simp only [h0] at hk0 ⊢
        have HK := Lib.hid hk0; clear hk0 h0
        go_wp2_with fail
        refine (theirs7_any _ m w1 W HS.out.1 Hv1.out (by omega) (by omega)).mono ?_
        rintro e w' ⟨v', rfl, hv', he'⟩
        go_wp2
        exact HK.out _ _ (by refine ⟨fun h => ?_, fun h => ?_, fun h => ?_⟩ <;> first | rfl | exact absurd h (by decide)) (HS.out.step OpenG.ext he' 3 _ ⟨fun h => absurd h (by decide), fun _ => hv'.mono HS.out.1.size, fun h => absurd h (by decide), fun h => absurd h (by decide), (fun t l e => by simp at e)⟩)
      case refine_6 =>
        have h0 := Hd.out.1.2.1 (by simp)
        have hk0 := HK.out; clear HK
        simp only [h0] at hk0 ⊢
        have HK := Lib.hid hk0; clear hk0 h0
        go_wp2_with fail
        refine ((fun W (hW : Ext w1 W) => dupS B cB ss W (by omega) (HX1.out.ext hW)) W HS.out.1).mono ?_
        rintro e w' ⟨v', rfl, hv', he'⟩
        go_wp2
        exact HK.out _ _ (by refine ⟨fun h => ?_, fun h => ?_, fun h => ?_⟩ <;> first | rfl | exact absurd h (by decide)) (HS.out.step OpenG.ext he' 5 _ ⟨fun h => absurd h (by decide), fun h => absurd h (by decide), fun h => absurd h (by decide), fun h => absurd h (by decide), (fun t l e => by simp at e; obtain ⟨rfl, rfl⟩ := e; exact hv'.mono HS.out.1.size)⟩)
      case refine_8 =>
        have h0 := Hd.out.1.2.2 (by simp)
        have hk0 := HK.out; clear HK
        simp only [h0] at hk0 ⊢
        have HK := Lib.hid hk0; clear hk0 h0
        go_wp2_with fail
        refine ((fun W (hW : Ext w1 W) => dupI C cC l W (by omega) (HY1.out.ext hW)) W HS.out.1).mono ?_
        rintro e w' ⟨v', rfl, hv', he'⟩
        go_wp2
        exact HK.out _ _ (by refine ⟨fun h => ?_, fun h => ?_, fun h => ?_⟩ <;> first | rfl | exact absurd h (by decide)) (HS.out.step OpenG.ext he' 7 _ ⟨fun h => absurd h (by decide), fun h => absurd h (by decide), fun h => absurd h (by decide), fun h => absurd h (by decide), (fun t l e => by simp at e; obtain ⟨rfl, rfl⟩ := e; exact hv'.mono HS.out.1.size)⟩)
      case refine_9 =>
        go_wp2_with fail
        exact HK.out _ _ (by refine ⟨fun h => ?_, fun h => ?_, fun h => ?_⟩ <;> first | rfl | exact absurd h (by decide)) (HS.out.step OpenG.ext (Ext.alloc _ _) 8 _ ⟨fun h => absurd h (by decide), fun h => absurd h (by decide), fun _ => BoxP.new HS.out.1.size, fun h => absurd h (by decide), (fun t l e => by simp at e)⟩)
      case refine_10 =>
        go_wp2_with fail
        exact HK.out _ _ (by refine ⟨fun h => ?_, fun h => ?_, fun h => ?_⟩ <;> first | rfl | exact absurd h (by decide)) (HS.out.step OpenG.ext (Ext.alloc _ _) 9 _ ⟨fun h => absurd h (by decide), fun h => absurd h (by decide), fun h => absurd h (by decide), fun _ => BoxP.new HS.out.1.size, (fun t l e => by simp at e)⟩)
      all_goals
        go_wp2_with fail
        refine HK.out _ _ (by refine ⟨fun h => ?_, fun h => ?_, fun h => ?_⟩ <;> first | rfl | exact absurd h (by decide)) (HS.out.step OpenG.ext (Ext.refl _) _ _ ⟨fun h => absurd h (by decide), fun h => absurd h (by decide), fun h => absurd h (by decide), fun h => absurd h (by decide), (fun t l e => by simp at e)⟩)
    · intro x W hS hR
      obtain ⟨heW, hF⟩ := hS
      have hO := (hF 1 (by decide)).1 rfl
      have hT := (hF 3 (by decide)).2.1 rfl
      obtain ⟨g, x8, hg, b4⟩ := (hF 8 (by decide)).2.2.1 rfl
      obtain ⟨g', x9, hg', b5⟩ := (hF 9 (by decide)).2.2.2.1 rfl
      have hD5 := (hF 5 (by decide)).2.2.2.2 36 ss (by simp)
      have hD7 := (hF 7 (by decide)).2.2.2.2 3 l (by simp)
      have hO0 := hO
      have hT0 := hT
      obtain ⟨s1, s2, x1, p1, cs1, p2, -⟩ := hO0
      obtain ⟨r1, r2, cs, x3, p3, p4, -⟩ := hT0
      obtain ⟨a1, d1, rfl⟩ := ownsRow_slice p1
      obtain ⟨a2, d2, rfl⟩ := ownsRow_slice p2
      obtain ⟨b1, f1, rfl⟩ := ownsRow_slice p3
      obtain ⟨b2, f2, rfl⟩ := ownsRow_slice p4
      clear p1 p2 p3 p4
      simp only [AllV, true_and] at hR
      have x0 := hR.1.1.1.1.1.1.1.1.1.1 (by simp)
      have x2 := hR.1.1.1.1.1.1.1.2.1 (by simp)
      have x4 := hR.1.1.1.1.1.2.2.1 (by simp)
      obtain ⟨D1, e1, x5⟩ := ownsRow_slice hD5
      rw [x5] at hD5
      have x6 := hR.1.1.1.2.2.2 (by simp)
      obtain ⟨D2, e2, x7⟩ := ownsRow_slice hD7
      rw [x7] at hD7
      rw [x1] at hO
      rw [x3] at hT
      simp only [List.take, List.drop, fill, Act.put, List.setIfInBounds_toArray, List.set_cons_zero, List.set_cons_succ, Nat.reduceAdd, x0, x1, x2, x3, x4, x5, x6, x7, x8, x9]
      clear hR hF x0 x1 x2 x3 x4 x5 x6 x7 x8 x9
      obtain ⟨W2, hW2, hE2, bO, bX, vO, vX⟩ := opened_stored heW hg hg' b4 b5 hO hT
      have hD5' := OwnI.opened (s1 := .slice a1 m.shafts.length d1) (s2 := .slice a2 m.wvs.length d2) (r1 := .slice b1 m.shafts.length f1) (r2 := .slice b2 m.wvs.length f2) hD5 b4 b5 (by decide) (by decide)
      rw [← hW2] at hD5'
      have hD7' := OwnI.opened (s1 := .slice a1 m.shafts.length d1) (s2 := .slice a2 m.wvs.length d2) (r1 := .slice b1 m.shafts.length f1) (r2 := .slice b2 m.wvs.length f2) hD7 b4 b5 (by decide) (by decide)
      rw [← hW2] at hD7'
      obtain ⟨u0, u1⟩ := b4.c2
      obtain ⟨y0, y1⟩ := b5.c2
      have z0 := b4.frozen 0; have z1 := b4.frozen 1
      have i0 := b5.frozen 0; have i1 := b5.frozen 1
      have hne : g ≠ g' := b4.ne_ b5 (by decide)
      have hne' : g' ≠ g := fun h => hne h.symm
      have HW2 := Lib.hid hW2
      have B4 := Lib.hid b4; have B5 := Lib.hid b5
      have HD5 := Lib.hid hD5'
      have HD7 := Lib.hid hD7'
      clear hW2 b4 b5 hO hT hD5 hD5' hD7 hD7'
      obtain ⟨r, hr⟩ : ∃ r, checkP m = r := ⟨_, rfl⟩
      have hck := Lib.hid (check7_any _ m r hr W2 (vX.val hE2))
      obtain ⟨k0, k1⟩ := bX.c2
      have hE2' := hE1.trans hE2
      have hM2 := hM1.ext hE2
      have VO := Lib.hid vO; have VX := Lib.hid vX
      clear k0 k1
      go_wp2_with fail
      rw [← HW2.out]
      clear u0 u1 y0 y1 z0 z1 i0 i1 HW2 B4 B5 vO vX hne hne' heW
      refine hck.out.mono ?_
      rintro e w3 ⟨rfl, he3⟩
      clear hck
      have hE3 := hE2'.trans he3
      have hM3 := hM2.ext he3
      have bO3 := bO.ext he3; have bX3 := bX.ext he3
      have VO3 := Lib.hid (VO.out.ext he3)
      have HVX := Lib.hid ((VX.out.val hE2).ext he3)
      have HX3 := Lib.hid (HX1.out.ext (hE2.trans he3)); have HY3 := Lib.hid (HY1.out.ext (hE2.trans he3))
      have HD5' := Lib.hid (HD5.out.ext he3); have HD7' := Lib.hid (HD7.out.ext he3)
      have Hr := Lib.hid hr
      clear hr he3 VO VX bO bX hE2' hM2 hE2 HX1 HY1 HD5 HD7
      go_upto_if 51 with fail
      go_cut [11] (fun a wx => a = .int .i64 (sightE m ss) ∧ Ext w3 wx)
      case first =>
        -- <<S
        as_aux_lemma =>
        by_cases hr0 : r = 0
        · subst hr0
          have hz : ((0 : Int) == 0) = true := rfl
          have hse : Hid (rangE m ss 2 = sightE m ss) := by
            unfold Hid rangE sightE
            rw [Hr.out]; rfl
          obtain ⟨k0, k1⟩ := bX3.c2
          go_upto_region 6 with fail
          refine wp_region_chain 4 [(2, true), (3, true)] [] (by kernel_rfl) (by kernel_rfl) (by kernel_rfl) ?_
          simp only [List.take, List.drop, fill, Act.put, List.setIfInBounds_toArray, List.set_cons_zero, List.set_cons_succ, Nat.reduceAdd]
          repeat (first
            | refine Floats.mut rfl ?_
            | (apply Floats.float rfl
               · intro x W he hd K Q hK
                 try (have he := he (by decide); have k0 := he.cell k0; have k1 := he.cell k1)
                 try simp only [edges, DepsE, List.filter_cons, List.filter_nil, Region.binds, if_true, and_true, true_and, upd, Nat.reduceEqDiff, if_false] at hd
                 try simp only [hd] at hK ⊢
                 have HK := Lib.hid hK; clear hK
                 go_wp2_with fail
                 exact HK.out))
          refine Floats.done fun W he hG => ?_
          refine Chain.cons _ rfl ?_
          intro x hd K Q hK
          try simp only [edges, DepsE, List.filter_cons, List.filter_nil, Region.binds, if_true, and_true, true_and, upd, Nat.reduceEqDiff, if_false] at hd
          try simp only [hd] at hK ⊢
          clear hd
          have HK := Lib.hid hK; clear hK
          go_wp2_with fail
          refine (seen7_any B cB ss.length ss rfl W (by omega) (HX3.out.ext he)).mono ?_
          rintro e w5 ⟨u5, rfl, hO5, he5⟩
          obtain ⟨A5, c5, rfl⟩ := ownsRow_slice hO5
          have heA := he.trans he5
          have HI5 := Lib.hid hO5.sl.ints
          clear hO5
          go_wp2_with fail
          refine HK.out _ _ (fun _ => heA) ?_
          clear HK
          refine Chain.cons _ rfl ?_
          intro x hd K Q hK
          try simp only [edges, DepsE, List.filter_cons, List.filter_nil, Region.binds, if_true, and_true, true_and, upd, Nat.reduceEqDiff, if_false] at hd
          try simp only [hd] at hK ⊢
          clear hd
          have HK := Lib.hid hK; clear hK
          go_wp2_with fail
          refine (sighted7_any _ m A5 c5 ss.length ss rfl _ hse.out w5 (HVX.out.ext heA) (by omega) HI5.out).mono ?_
          rintro e w6 ⟨rfl, he6⟩
          have heB := heA.trans he6
          go_wp2_with fail
          refine HK.out _ _ (fun _ => heB) ?_
          clear HK
          refine Chain.nil ?_
          simp only [upd, Nat.reduceEqDiff, if_false, if_true]
          go_wp2_with fail
          go_meet
          exact ⟨rfl, heB⟩
        · have hz : (r == 0) = false := beq_eq_false_iff_ne.2 hr0
          have e1 : sightE m ss = r := by unfold sightE; rw [Hr.out, if_pos hr0]
          have E1 := Lib.hid e1
          clear e1 hr0
          go_wp2_with fail
          go_meet
          exact ⟨by rw [E1.out], Ext.refl _⟩
        -- >>
      case rest =>
      obtain ⟨rfl, he4⟩ := hcut
      obtain ⟨w4, rfl⟩ : ∃ z, z = wc := ⟨_, rfl⟩
      have hE4 := hE3.trans he4
      have hM4 := hM3.ext he4
      have bO4 := bO3.ext he4; have bX4 := bX3.ext he4
      have VO4 := Lib.hid (VO3.out.ext he4); have HVX4 := Lib.hid (HVX.out.ext he4)
      have HX4 := Lib.hid (HX3.out.ext he4); have HY4 := Lib.hid (HY3.out.ext he4)
      have HD5 := Lib.hid (HD5'.out.ext he4); have HD7 := Lib.hid (HD7'.out.ext he4)
      clear hE3 hM3 bO3 bX3 VO3 HVX HX3 HY3 HD5' HD7' he4
      obtain ⟨s0, hs0⟩ : ∃ s0, sightE m ss = s0 := ⟨_, rfl⟩
      rw [hs0]
      have Hs0 := Lib.hid hs0
      clear hs0
      obtain ⟨eE, heE⟩ : ∃ eE, explE m ss l = eE := ⟨_, rfl⟩
      obtain ⟨eS, heS⟩ : ∃ eS, slipE m ss = eS := ⟨_, rfl⟩
      obtain ⟨qE, hqE⟩ : ∃ qE, explQ m ss l = qE := ⟨_, rfl⟩
      obtain ⟨xc, hxc⟩ : ∃ xc, (if s0 = 0 then clrL m ss m.shafts.length else []) = xc := ⟨_, rfl⟩
      obtain ⟨xs, hxs⟩ : ∃ xs, slipL m ss = xs := ⟨_, rfl⟩
      obtain ⟨xv, hxv⟩ : ∃ xv, sureV m ss = xv := ⟨_, rfl⟩
      have HeE := Lib.hid heE; have HeS := Lib.hid heS; have HqE := Lib.hid hqE; have Hxc := Lib.hid hxc; have Hxs := Lib.hid hxs; have Hxv := Lib.hid hxv
      clear heE heS hqE hxc hxs hxv
      go_upto_if 59 with fail
      go_cut [12, 13, 14, 15, 16, 17] (fun a b c d e f wx => a = .int .i64 eE ∧ b = .int .i64 eS ∧ c = .bool qE ∧ Hid (SlI wx d xc) ∧ Hid (SlI wx e xs) ∧ Hid (SlI wx f xv) ∧ Ext w4 wx)
      case first =>
        -- <<T
        as_aux_lemma =>
        by_cases h0 : s0 = 0
        · subst h0
          have hz : ((0 : Int) == 0) = true := rfl
          have Hm := Lib.hid ((checkP_iff m).1 (sightE_ok Hs0.out).1)
          have Hnw := Lib.hid (sightE_ok Hs0.out).2.1
          have hsz9 := Hm.out.sz
          have hfew := Hm.out.few
          have hslp := Lib.hid (slip_pick Hs0.out)
          have hsur := Lib.hid (sure_slip Hs0.out)
          have hshe : Hid (shaftE m l = eE) := (explE_shaft Hs0.out).symm.trans HeE.out
          have hxc2 : Hid (clrL m ss m.shafts.length = xc) := Hxc.out
          clear Hxc
          obtain ⟨k0, k1⟩ := bX4.c2
          go_upto_region 11 with fail
          refine wp_region_chain 4 [(2, true), (3, true)] [] (by kernel_rfl) (by kernel_rfl) (by kernel_rfl) ?_
          simp only [List.take, List.drop, fill, Act.put, List.setIfInBounds_toArray, List.set_cons_zero, List.set_cons_succ, Nat.reduceAdd]
          repeat (first
            | refine Floats.mut rfl ?_
            | (apply Floats.float rfl
               · intro x W he hd K Q hK
                 try (have he := he (by decide); have k0 := he.cell k0; have k1 := he.cell k1)
                 try simp only [edges, DepsE, List.filter_cons, List.filter_nil, Region.binds, if_true, and_true, true_and, upd, Nat.reduceEqDiff, if_false] at hd
                 try simp only [hd] at hK ⊢
                 have HK := Lib.hid hK; clear hK
                 go_wp2_with fail
                 exact HK.out))
          refine Floats.done fun W he hG => ?_
          -- m11a
          refine Chain.cons _ rfl ?_
          intro x hd K Q hK
          try simp only [edges, DepsE, List.filter_cons, List.filter_nil, Region.binds, if_true, and_true, true_and, upd, Nat.reduceEqDiff, if_false] at hd
          try simp only [hd] at hK ⊢
          clear hd
          have HK := Lib.hid hK; clear hK
          go_wp2_with fail
          refine (seen7_any B cB ss.length ss rfl W (by omega) (HX4.out.ext he)).mono ?_
          rintro e w5 ⟨u5, rfl, hO5, he5⟩
          obtain ⟨A5, c5, rfl⟩ := ownsRow_slice hO5
          have heA := he.trans he5
          have HI5 := Lib.hid hO5.sl.ints
          clear hO5
          go_wp2_with fail
          refine HK.out _ _ (fun _ => heA) ?_
          clear HK
          -- m11b
          refine Chain.cons _ rfl ?_
          intro x hd K Q hK
          try simp only [edges, DepsE, List.filter_cons, List.filter_nil, Region.binds, if_true, and_true, true_and, upd, Nat.reduceEqDiff, if_false] at hd
          try simp only [hd] at hK ⊢
          clear hd
          have HK := Lib.hid hK; clear hK
          go_wp2_with fail
          refine (cleared7_any _ m Hm.out A5 c5 ss.length ss rfl Hnw.out w5 (HVX4.out.ext heA) HI5.out).mono ?_
          rintro e w6 ⟨uC, rfl, hOC, he6⟩
          have heB := heA.trans he6
          rw [hxc2.out] at hOC
          obtain ⟨AC, cC9, rfl⟩ := ownsRow_slice hOC
          have HC := Lib.hid hOC.sl
          obtain ⟨Cl, hCl⟩ : ∃ Cl, xc.length = Cl := ⟨_, rfl⟩
          rw [hCl] at HC ⊢
          clear hOC hCl
          go_wp2_with fail
          refine HK.out _ _ (fun _ => heB) ?_
          clear HK
          refine Chain.nil ?_
          simp only [upd, Nat.reduceEqDiff, if_false, if_true]
          clear k0 k1 he he5 HI5 heA
          obtain ⟨k0, k1⟩ := (bX4.ext heB).c2
          go_wp2_with fail
          refine (shaft7_any _ m C cC l.length l rfl eE hshe.out w6 (HVX4.out.ext heB) (by omega) (by omega) (HY4.out.ext heB)).mono ?_
          rintro e w7 ⟨rfl, he7⟩
          have heC := heB.trans he7
          have HC7 := Lib.hid (HC.out.ext he7)
          have bX7 := bX4.ext heC
          clear k0 k1 heB he7 HC
          go_upto_if 68 with fail
          go_cut [14] (fun a wx => a = .bool qE ∧ Ext w7 wx)
          case first =>
            by_cases h9 : eE = 0
            · subst h9
              have hqq := Lib.hid ((explQ_G Hs0.out hshe.out).trans HqE.out)
              obtain ⟨k0, k1⟩ := bX7.c2
              have HX7 := Lib.hid (HX4.out.ext heC); have HY7 := Lib.hid (HY4.out.ext heC); have HV7 := Lib.hid (HVX4.out.ext heC)
              go_upto_region 14 with fail
              refine wp_region_chain 5 [(2, true), (4, true)] [] (by kernel_rfl) (by kernel_rfl) (by kernel_rfl) ?_
              simp only [List.take, List.drop, fill, Act.put, List.setIfInBounds_toArray, List.set_cons_zero, List.set_cons_succ, Nat.reduceAdd]
              repeat (first
                | refine Floats.mut rfl ?_
                | (apply Floats.float rfl
                   · intro x W he hd K Q hK
                     try (have he := he (by decide); have k0 := he.cell k0; have k1 := he.cell k1)
                     try simp only [edges, DepsE, List.filter_cons, List.filter_nil, Region.binds, if_true, and_true, true_and, upd, Nat.reduceEqDiff, if_false] at hd
                     try simp only [hd] at hK ⊢
                     have HK := Lib.hid hK; clear hK
                     go_wp2_with fail
                     exact HK.out))
              refine Floats.done fun W he hG => ?_
              refine Chain.cons _ rfl ?_
              intro x hd K Q hK
              try simp only [edges, DepsE, List.filter_cons, List.filter_nil, Region.binds, if_true, and_true, true_and, upd, Nat.reduceEqDiff, if_false] at hd
              try simp only [hd] at hK ⊢
              clear hd
              have HK := Lib.hid hK; clear hK
              go_wp2_with fail
              refine (seen7_any B cB ss.length ss rfl W (by omega) (HX7.out.ext he)).mono ?_
              rintro e w5 ⟨u5, rfl, hO5, he5⟩
              obtain ⟨A5, c5, rfl⟩ := ownsRow_slice hO5
              have heA := he.trans he5
              have HI5 := Lib.hid hO5.sl.ints
              clear hO5
              go_wp2_with fail
              refine HK.out _ _ (fun _ => heA) ?_
              clear HK
              refine Chain.cons _ rfl ?_
              intro x hd K Q hK
              try simp only [edges, DepsE, List.filter_cons, List.filter_nil, Region.binds, if_true, and_true, true_and, upd, Nat.reduceEqDiff, if_false] at hd
              try simp only [hd] at hK ⊢
              clear hd
              have HK := Lib.hid hK; clear hK
              go_wp2_with fail
              refine (explains7_any _ m Hm.out A5 c5 ss.length ss rfl Hnw.out C cC l.length l rfl (by omega) _ hqq.out w5 (HV7.out.ext heA) HI5.out (HY7.out.ext heA)).mono ?_
              rintro e w6 ⟨rfl, he6⟩
              have heB := heA.trans he6
              go_wp2_with fail
              refine HK.out _ _ (fun _ => heB) ?_
              clear HK
              refine Chain.nil ?_
              simp only [upd, Nat.reduceEqDiff, if_false, if_true]
              go_wp2_with fail
              go_meet
              exact ⟨rfl, heB⟩
            · have hz9 : (eE == 0) = false := beq_eq_false_iff_ne.2 h9
              have hqf : Hid (qE = false) := by unfold Hid; rw [← HqE.out]; unfold explQ; rw [HeE.out, if_neg h9]
              clear h9
              go_wp2_with fail
              go_meet
              exact ⟨by rw [hqf.out], Ext.refl _⟩
          case rest =>
            obtain ⟨rfl, he8⟩ := hcut
            obtain ⟨w8, rfl⟩ : ∃ z, z = wc := ⟨_, rfl⟩
            have heD := heC.trans he8
            have HC8 := Lib.hid (HC7.out.ext he8)
            obtain ⟨k0, k1⟩ := (bX7.ext he8).c2
            have HX8 := Lib.hid (HX4.out.ext heD); have HV8 := Lib.hid (HVX4.out.ext heD)
            clear heC he8 HC7 bX7
            go_upto_region 16 with fail
            refine wp_region_tree 10 [(2, true), (3, true)] [] (by kernel_rfl) (by kernel_rfl) (by kernel_rfl) (ds := [0, 1]) (by kernel_rfl) ?_
            simp only [List.take, List.drop, fill, Act.put, List.setIfInBounds_toArray, List.set_cons_zero, List.set_cons_succ, Nat.reduceAdd]
            repeat (first
              | (apply Unlock.float rfl
                 · intro x W he hd K Qr hK
                   try (have he := he (by decide); have k0 := he.cell k0; have k1 := he.cell k1)
                   try simp only [edges, DepsE, List.filter_cons, List.filter_nil, Region.binds, if_true, and_true, true_and, upd, Nat.reduceEqDiff, if_false] at hd
                   try simp only [hd] at hK ⊢
                   have HK := Lib.hid hK; clear hK
                   go_wp2_with fail
                   exact HK.out))
            refine Unlock.nil ?_
            intro W he hG
            refine Tree.next (ks := [(2, true)]) (by kernel_rfl) ?_
            refine TSteps.cons _ rfl ?_ trivial
            intro x hd K Qr hK
            try simp only [edges, DepsE, List.filter_cons, List.filter_nil, Region.binds, if_true, and_true, true_and, upd, Nat.reduceEqDiff, if_false] at hd
            try simp only [hd] at hK ⊢
            clear hd
            have HK := Lib.hid hK; clear hK
            go_wp2_with fail
            refine (seen7_any B cB ss.length ss rfl W (by omega) (HX8.out.ext he)).mono ?_
            rintro e w5 ⟨u5, rfl, hO5, he5⟩
            obtain ⟨A5, c5, rfl⟩ := ownsRow_slice hO5
            have heA := he.trans he5
            have HI5 := Lib.hid hO5.sl.ints
            clear hO5
            go_wp2_with fail
            refine HK.out _ _ (fun _ => heA) ?_
            clear HK
            refine Unlock.of (ds := []) (by kernel_rfl) ?_
            repeat (first
              | (apply Unlock.float rfl
                 · intro x W he hd K Qr hK
                   try (have he := he (by decide))
                   try simp only [edges, DepsE, List.filter_cons, List.filter_nil, Region.binds, if_true, and_true, true_and, upd, Nat.reduceEqDiff, if_false] at hd
                   try simp only [hd] at hK ⊢
                   have HK := Lib.hid hK; clear hK
                   go_wp2_with fail
                   exact HK.out))
            refine Unlock.nil ?_
            refine Tree.next (ks := [(3, true)]) (by kernel_rfl) ?_
            refine TSteps.cons _ rfl ?_ trivial
            intro x hd K Qr hK
            try simp only [edges, DepsE, List.filter_cons, List.filter_nil, Region.binds, if_true, and_true, true_and, upd, Nat.reduceEqDiff, if_false] at hd
            try simp only [hd] at hK ⊢
            clear hd
            have HK := Lib.hid hK; clear hK
            go_wp2_with fail
            refine (slipped7_any _ m Hm.out A5 c5 ss.length ss rfl Hnw.out w5 (HV8.out.ext heA) HI5.out).mono ?_
            rintro e w6 ⟨uS1, uS2, rfl, hO1, hO2, he6⟩
            have heB := heA.trans he6
            rw [← hslp.out.1, Hxs.out] at hO1
            rw [← hsur.out.2, Hxv.out] at hO2
            have hsE := hslp.out.2
            rw [HeS.out] at hsE
            generalize (pickF m.shafts.length (explB m (sightF ss)) (2 ^ m.shafts.length)).isSome = qf at *
            have HsE := Lib.hid hsE
            have HO1 := Lib.hid hO1.sl; have HO2 := Lib.hid hO2.sl
            clear hO1 hO2 hsE hslp
            go_wp2_with fail
            refine HK.out _ _ (fun _ => heB) ?_
            clear HK
            refine Unlock.of (ds := [4, 5, 6, 7, 8, 9]) (by kernel_rfl) ?_
            repeat (first
              | (apply Unlock.float rfl
                 · intro x W he hd K Qr hK
                   try (have he := he (by decide))
                   try simp only [edges, DepsE, List.filter_cons, List.filter_nil, Region.binds, if_true, and_true, true_and, upd, Nat.reduceEqDiff, if_false] at hd
                   try simp only [hd] at hK ⊢
                   have HK := Lib.hid hK; clear hK
                   go_wp2_with fail
                   exact HK.out))
            refine Unlock.nil ?_
            refine Tree.nil (by kernel_rfl) ?_
            simp only [upd, Nat.reduceEqDiff, if_false, if_true]
            have heF := heD.trans heB
            have HC9 := Lib.hid (HC8.out.ext heB)
            clear k0 k1 he he5 HI5 heA HC8 HX8 HV8 heB heD
            cases qf with
            | true =>
              go_wp2_with fail
              go_meet
              exact ⟨rfl, by rw [HsE.out]; rfl, rfl, HC9, HO1, HO2, heF⟩
            | false =>
              go_wp2_with fail
              go_meet
              exact ⟨rfl, by rw [HsE.out]; rfl, rfl, HC9, HO1, HO2, heF⟩
        · have hz : (s0 == 0) = false := beq_eq_false_iff_ne.2 h0
          have hss : sightE m ss ≠ 0 := by rw [Hs0.out]; exact h0
          have e1 : explE m ss l = s0 := by unfold explE; rw [if_pos hss, Hs0.out]
          have e2 : slipE m ss = s0 := by unfold slipE; rw [if_pos hss, Hs0.out]
          have e3 : explQ m ss l = false := by unfold explQ; rw [e1, if_neg h0]
          have e4 : slipL m ss = [] := by unfold slipL; rw [if_pos hss]
          have e5 : sureV m ss = [] := by unfold sureV; rw [sure_slipE, e2, if_neg h0]
          have hS : SlI w4 (.slice none 0 0) [] := (OwnI.nil w4 0 3).sl
          have e6 : xc = [] := by rw [← Hxc.out, if_neg h0]
          rw [HeE.out] at e1
          rw [HeS.out] at e2
          rw [HqE.out] at e3
          rw [Hxs.out] at e4
          rw [Hxv.out] at e5
          have E := Lib.hid (And.intro e1 (And.intro e2 (And.intro e3 (And.intro e4 (And.intro e5 e6)))))
          clear e1 e2 e3 e4 e5 e6 h0 hss
          go_wp2_with fail
          go_meet
          exact ⟨by rw [E.out.1], by rw [E.out.2.1], by rw [E.out.2.2.1], Lib.hid (by rw [E.out.2.2.2.2.2]; exact hS), Lib.hid (by rw [E.out.2.2.2.1]; exact hS), Lib.hid (by rw [E.out.2.2.2.2.1]; exact hS), Ext.refl _⟩
        -- >>
      case rest =>
        -- <<R
        as_aux_lemma =>
        obtain ⟨rfl, rfl, rfl, hSC, hSS, hSV, he5⟩ := hcut
        obtain ⟨w5, rfl⟩ : ∃ z, z = wc := ⟨_, rfl⟩
        have bO5 := bO4.ext he5; have hM5 := hM4.ext he5
        have HVO := Lib.hid (VO4.out.ext he5)
        have HD5' := Lib.hid (HD5.out.ext he5); have HD7' := Lib.hid (HD7.out.ext he5)
        have HX5 := Lib.hid (HX4.out.ext he5); have HY5 := Lib.hid (HY4.out.ext he5)
        have hE5 := hE4.trans he5
        have Hv5 := Lib.hid (Hv.out.ext hE5)
        have hsure := Lib.hid ((sure_slipE m ss).trans HeS.out)
        have HI5 := Lib.hid HD5'.out.sl.ints; have HI7 := Lib.hid HD7'.out.sl.ints
        have hD7c : l.length ≤ e2 := by
          obtain ⟨_, _, e, h1, _, _⟩ := HD7'.out.sl
          simp only [Value.slice.injEq, true_and] at e
          obtain ⟨-, rfl⟩ := e
          exact h1
        have hlm : l.length ≤ maxLen := by unfold maxLen; omega
        have hsm : ss.length ≤ maxLen := by unfold maxLen; omega
        have Hlm := Lib.hid hlm; have Hsm := Lib.hid hsm
        clear bO4 hM4 VO4 HD5 HD7 HX4 HY4 hE4 he5 bX4 HVX4 hlm hsm
        have Hcl := Lib.hid (Cleared_any _ m D1 e1 ss.length ss rfl s0 _ Hs0.out Hxc.out w5 HVO.out.val Hsm.out HI5.out)
        obtain ⟨k0, k1⟩ := bO5.c2
        go_wp2_with fail
        refine Hcl.out.mono ?_
        rintro e wA ⟨uA, rfl, hOA, heA⟩
        clear Hcl k0 k1
        have HOA := Lib.hid hOA.sl
        clear hOA
        obtain ⟨k0, k1⟩ := (bO5.ext heA).c2
        have Hex := Lib.hid (Explains_any _ m D1 e1 ss.length ss rfl D2 e2 l.length l rfl _ _ HeE.out HqE.out wA (HVO.out.ext heA).val Hsm.out (HI5.out.ext heA) Hlm.out hD7c (HI7.out.ext heA))
        go_wp2_with fail
        refine Hex.out.mono ?_
        rintro e wB ⟨rfl, heB'⟩
        have heB := heA.trans heB'
        have HOB := Lib.hid (HOA.out.ext heB')
        clear Hex k0 k1 HOA heB' heA
        obtain ⟨k0, k1⟩ := (bO5.ext heB).c2
        have Hsl := Lib.hid (Slipped_any _ m D1 e1 ss.length ss rfl _ _ HeS.out Hxs.out wB (HVO.out.ext heB).val Hsm.out (HI5.out.ext heB))
        go_wp2_with fail
        refine Hsl.out.mono ?_
        rintro e wC ⟨uC, rfl, hOC, heC'⟩
        have heC := heB.trans heC'
        have HOA := Lib.hid (HOB.out.ext heC')
        have HOC := Lib.hid hOC.sl
        clear Hsl k0 k1 HOB heC' heB hOC
        obtain ⟨k0, k1⟩ := (bO5.ext heC).c2
        have Hsu := Lib.hid (Surely_any _ m D1 e1 ss.length ss rfl _ _ hsure.out Hxv.out wC (HVO.out.ext heC).val Hsm.out (HI5.out.ext heC))
        go_wp2_with fail
        refine Hsu.out.mono ?_
        rintro e wD ⟨uD, rfl, hOD, heD'⟩
        have heD := heC.trans heD'
        obtain ⟨EA, fA, rfl, gA1, gA2, gA3⟩ := HOA.out.ext heD'
        obtain ⟨EC, fC, rfl, gC1, gC2, gC3⟩ := HOC.out.ext heD'
        obtain ⟨ED, fD, rfl, gD1, gD2, gD3⟩ := hOD.sl
        obtain ⟨FA, iA, rfl, _, _, jA3⟩ := hSC.out.ext heD
        obtain ⟨FC, iC, rfl, _, _, jC3⟩ := hSS.out.ext heD
        obtain ⟨FD, iD, rfl, _, _, jD3⟩ := hSV.out.ext heD
        have hq1 : (s0 == s0) = true := by simp
        have hq2 : (eE == eE) = true := by simp
        have hq3 : (eS == eS) = true := by simp
        have hq5 : (qE == qE) = true := by simp
        have Hq6 := Lib.hid (fun W (hW : Ext wD W) => eqI EA FA fA iA _ _ true (decide_eq_true rfl) W (Nat.le_trans gA1 gA2) (IntsAt.ext gA3 hW) (IntsAt.ext jA3 hW))
        have Hq7 := Lib.hid (fun W (hW : Ext wD W) => eqI EC FC fC iC _ _ true (decide_eq_true rfl) W (Nat.le_trans gC1 gC2) (IntsAt.ext gC3 hW) (IntsAt.ext jC3 hW))
        have Hq8 := Lib.hid (fun W (hW : Ext wD W) => eqI ED FD fD iD _ _ true (decide_eq_true rfl) W (Nat.le_trans gD1 gD2) (IntsAt.ext gD3 hW) (IntsAt.ext jD3 hW))
        obtain ⟨n1, hn1⟩ : ∃ n, xc.length = n := ⟨_, rfl⟩
        obtain ⟨n2, hn2⟩ : ∃ n, xs.length = n := ⟨_, rfl⟩
        obtain ⟨n3, hn3⟩ : ∃ n, xv.length = n := ⟨_, rfl⟩
        rw [hn1] at Hq6 ⊢
        rw [hn2] at Hq7 ⊢
        rw [hn3] at Hq8 ⊢
        have hE9 := hE5.trans heD
        have bO9 := bO5.ext heD; have hM9 := hM5.ext heD
        have Hsa := Lib.hid (fun W (hW : Ext wD W) => same7_any _ _ m m true (decide_eq_true rfl) W (HVO.out.ext (heD.trans hW)).val (Hv5.out.ext (heD.trans hW)))
        have Heq := Lib.hid (fun W (hW : Ext wD W) => eqS D1 B e1 cB ss ss true (decide_eq_true rfl) W Hsm.out (HI5.out.ext (heD.trans hW)) (HX5.out.ext (heD.trans hW)))
        have Heq2 := Lib.hid (fun W (hW : Ext wD W) => eqI D2 C e2 cC l l true (decide_eq_true rfl) W Hlm.out (HI7.out.ext (heD.trans hW)) (HY5.out.ext (heD.trans hW)))
        clear Hsu k0 k1 HOA HOC heD' hOD hSC hSS hSV gA1 gA2 gA3 gC1 gC2 gC3 gD1 gD2 gD3 jA3 jC3 jD3 hn1 hn2 hn3 heC heD hE5 bO5 hM5 hsure HVO HD5' HD7' HX5 HY5 Hv5 HI5 HI7 hD7c
        go_wp2_with fail
        refine (Hq6.out wD (Ext.refl _)).mono ?_
        rintro e wE ⟨rfl, heE⟩
        clear Hq6
        go_wp2_with fail
        refine (Hq7.out wE heE).mono ?_
        rintro e wF ⟨rfl, heF'⟩
        have heF := heE.trans heF'
        clear Hq7 heE heF'
        go_wp2_with fail
        refine (Hq8.out wF heF).mono ?_
        rintro e wG ⟨rfl, heG'⟩
        have heG := heF.trans heG'
        clear Hq8 heF heG'
        obtain ⟨k0, k1⟩ := (bO9.ext heG).c2
        obtain ⟨j0, j1⟩ := (hM9.ext heG).c2
        go_wp2_with fail
        refine (Hsa.out wG heG).mono ?_
        rintro e wH ⟨rfl, heH'⟩
        have heH := heG.trans heH'
        clear Hsa heG heH' k0 k1 j0 j1
        go_wp2_with fail
        refine (Heq.out wH heH).mono ?_
        rintro e wI ⟨rfl, heI'⟩
        have heI := heH.trans heI'
        clear Heq heH heI'
        go_wp2_with fail
        refine (Heq2.out wI heI).mono ?_
        rintro e wJ ⟨rfl, heJ'⟩
        have heJ := heI.trans heJ'
        clear Heq2 heI heJ'
        go_wp2_with fail
        refine (awake7_any wJ).mono ?_
        rintro e wK ⟨rfl, heK⟩
        go_wp2_with fail
        go_ret
        exact ⟨rfl, hE9.trans (heJ.trans heK)⟩
        -- >>
end Go.Proofs.Pet
