/-
  PowerProofs, walked.
-/
import Derived.Test.YtjlglbhafopomaaGreatPG4
import Derived.Test.YtjlglbhafopomaaGreatPG5
import Derived.Test.YtjlglbhafopomaaGreatPBL
namespace Go.Proofs.Pet
set_option linter.unusedSimpArgs false
open Go Go.RowKit Go.Maps Go.Shelf
open Go.Proofs.Pow (PM Sh Wv POk Up sightF clrB explB bitsL pickF bothF proofR mostR proofB clashB)

theorem mostR_congr {n : Nat} {p q : List Nat → Bool} (h : ∀ t, p (bitsL n t) = q (bitsL n t)) : ∀ s, mostR n p s = mostR n q s
  | 0 => rfl
  | s + 1 => by
    unfold mostR
    rw [mostR_congr h s, h s]
theorem most_prov {m : PM} {ss : List Int} (h : sureE m ss = 0) : ints (mostR m.wvs.length (proofR m (sightF ss)) (2 ^ m.wvs.length)) = provL m ss := by
  have hm := (checkP_iff m).1 (sightE_ok (sureE_sight h).1).1
  unfold provL
  rw [if_pos h, ← Pow.most_prove (Pow.proof_nil m (sightF ss))]
  congr 1
  exact mostR_congr (fun t => Pow.proofR_proofB hm _ (fun k hk => (Pow.mem_bitsL.1 hk).1) (Pow.up_nodup (Pow.bitsL_up _ t))) _
theorem sure_pick {m : PM} {ss : List Int} (h : sightE m ss = 0) : sureE m ss = (if (pickF m.shafts.length (explB m (sightF ss)) (2 ^ m.shafts.length)).isSome = true then 0 else 7) := by
  have hm := (checkP_iff m).1 (sightE_ok h).1
  unfold sureE
  rw [if_neg (by rw [h]; decide), Pow.clash_pick hm]
  cases pickF m.shafts.length (explB m (sightF ss)) (2 ^ m.shafts.length) <;> rfl
/-- the errors of a proof, one by one -/
theorem provE_at {m : PM} {ss l : List Int} (h : sightE m ss = 0) : (grpE m l = 1 ∧ provE m ss l = 1) ∨ (grpE m l ≠ 1 ∧ Pow.InG m l ∧ ints (natL l) = l ∧ (∀ x, x ∈ natL l → x < m.wvs.length) ∧
    ((risingB l = false ∧ provE m ss l = 4) ∨ (risingB l = true ∧ ((proofR m (sightF ss) (natL l) = false ∧ provE m ss l = 8) ∨ (proofR m (sightF ss) (natL l) = true ∧ provE m ss l = 0))))) := by
  have hm := (checkP_iff m).1 (sightE_ok h).1
  have hp : provE m ss l = if (l.all fun k => inB k 0 (m.wvs.length - 1)) = false then 1 else if risingB l = false then 4 else if proofB m (sightF ss) (natL l) = false then 8 else 0 := by
    unfold provE
    rw [if_neg (by rw [h]; decide)]
  cases ha : l.all fun k => inB k 0 (m.wvs.length - 1) with
  | false =>
    refine .inl ⟨?_, by rw [hp, ha]; rfl⟩
    unfold grpE
    rw [ha]; rfl
  | true =>
    have hin : Pow.InG m l := fun x hx => by
      have := inB_iff.1 (List.all_eq_true.1 ha x hx)
      omega
    rw [ha] at hp
    have hlt : ∀ x, x ∈ natL l → x < m.wvs.length := fun x hx => by
      obtain ⟨y, hy, rfl⟩ := List.mem_map.1 hx
      have := hin y hy
      omega
    refine .inr ⟨?_, hin, ints_natL hin, hlt, ?_⟩
    · unfold grpE
      rw [ha, if_neg (by decide)]
      split <;> decide
    · cases hr : risingB l with
      | false => exact .inl ⟨rfl, by rw [hp, hr]; rfl⟩
      | true =>
        have hnd : (natL l).Nodup := by
          have h1 := rising_pair.1 hr
          have h2 := ints_natL hin
          rw [← h2] at h1
          have h3 : (natL l).Pairwise (· < ·) := by
            have := List.pairwise_map.1 h1
            exact this.imp fun h => by omega
          exact List.nodup_iff_pairwise_ne.2 (h3.imp fun h => by omega)
        have hpr := Pow.proofR_proofB hm (sightF ss) hlt hnd
        rw [hr, ← hpr] at hp
        refine .inr ⟨rfl, ?_⟩
        cases hq : proofR m (sightF ss) (natL l) with
        | false => exact .inl ⟨rfl, by rw [hp, hq]; rfl⟩
        | true => exact .inr ⟨rfl, by rw [hp, hq]; rfl⟩
set_option maxRecDepth 20000 in
set_option maxHeartbeats 16000000 in
theorem powerProofs_any (v : Value) (m : PM) (B : Option Addr) (cB : Nat) (ss : List Int) (C : Option Addr) (cC : Nat) (l : List Int) (w : World) (hv : PMVal w v m) (_hB1 : ss.length ≤ cB) (_hB2 : cB ≤ maxLen) (hx : IntsAt w B ss) (hC1 : l.length ≤ cC) (_hC2 : cC ≤ maxLen) (hy : IntsAt w C l) :
    Calls Tryz.prog 7 #[v, .slice B ss.length cB, .slice C l.length cC] w fun e w' => e = .returned (.bool true) ∧ Ext w w' := by
  have Hv := Lib.hid hv
  have HX := Lib.hid hx; have HY := Lib.hid hy
  obtain ⟨A1, c1, A2, c2, rfl, h2, h3, h4, h5, h6, h7⟩ := hv
  have hE := Ext.alloc w (.cells #[.slice A1 m.shafts.length c1, .slice A2 m.wvs.length c2] 26)
  have hM := Blk.new w 26 #[.slice A1 m.shafts.length c1, .slice A2 m.wvs.length c2]
  clear h2 h3 h4 h5 h6 h7 hx hy
  obtain ⟨q, hq⟩ : ∃ q, greatP m = q := ⟨_, rfl⟩
  have hgr := Lib.hid (great7_any _ m q hq _ (Hv.out.ext hE))
  have Hq := Lib.hid hq; clear hq
  obtain ⟨k0, k1⟩ := hM.c2
  go_enter Tryz.func7, Tryz.ntmps7
  go_wp2_with fail
  refine hgr.out.mono ?_
  rintro e w1 ⟨rfl, he1⟩
  have hE1 := hE.trans he1
  have hM1 := hM.ext he1
  clear hE hM he1 hgr k0 k1
  have haw := Lib.hid (awake7_any w1)
  cases q with
  | true =>
    go_wp2_with fail
    refine haw.out.mono ?_
    rintro e w2 ⟨rfl, he2⟩
    have hE2 := hE1.trans he2
    go_wp2_with fail
    go_ret
    exact ⟨rfl, hE2⟩
  | false =>
    by_cases hs10 : 10 < ss.length
    · have hd1 : decide ((10 : Int) < (ss.length : Int)) = true := decide_eq_true (by omega)
      have hd1' : decide (10 < ss.length) = true := decide_eq_true hs10
      go_wp2_with fail
      refine haw.out.mono ?_
      rintro e w2 ⟨rfl, he2⟩
      have hE2 := hE1.trans he2
      go_wp2_with fail
      go_ret
      exact ⟨rfl, hE2⟩
    have hd1 : decide ((10 : Int) < (ss.length : Int)) = false := decide_eq_false (by omega)
    have hd1' : decide (10 < ss.length) = false := decide_eq_false hs10
    by_cases hl14 : 10 < l.length
    · have hd2 : decide ((10 : Int) < (l.length : Int)) = true := decide_eq_true (by omega)
      have hd2' : decide (10 < l.length) = true := decide_eq_true hl14
      go_wp2_with fail
      refine haw.out.mono ?_
      rintro e w2 ⟨rfl, he2⟩
      have hE2 := hE1.trans he2
      go_wp2_with fail
      go_ret
      exact ⟨rfl, hE2⟩
    have hd2 : decide ((10 : Int) < (l.length : Int)) = false := decide_eq_false (by omega)
    have hd2' : decide (10 < l.length) = false := decide_eq_false hl14
    clear haw
    have hgb := great_bd Hq.out
    have Hg := Lib.hid hgb.2.2
    have hg1 := hgb.1
    have hg2 := hgb.2.1
    have Hv1 := Lib.hid (Hv.out.ext hE1)
    have HX1 := Lib.hid (HX.out.ext hE1); have HY1 := Lib.hid (HY.out.ext hE1)
    clear hgb HX HY
    go_upto_region 3 with fail
    clear hd1 hd1' hd2 hd2'
    refine wp_region_stage 10 (by kernel_rfl) (by kernel_rfl) (StgF w1 (OpenG 1 3 8 9 (fun k => if k = 5 then some (36, ss) else if k = 7 then some (3, l) else none) w1 m)) (fun k v => (k = 0 ∨ k = 2 → v = .agg #[.slice A1 m.shafts.length c1, .slice A2 m.wvs.length c2]) ∧ (k = 4 → v = .slice B ss.length cB) ∧ (k = 6 → v = .slice C l.length cC)) StgF.start ?_ ?_
    · simp only [List.take, AllOps3, fill, Act.put, List.setIfInBounds_toArray, List.set_cons_zero, List.set_cons_succ, Nat.reduceAdd, DepsV, DepsL, List.filter_cons, List.filter_nil, Region.binds, if_true, and_true, Closed]
      refine ⟨?_, ?_, ?_, ?_, ?_, ?_, ?_, ?_, ?_, ?_⟩
      all_goals
        intro Ld x W hS hcl hnl hdl hd K Q hK
        obtain ⟨k0, k1⟩ := (hM1.ext hS.1).c2
        have HK := Lib.hid hK; clear hK hcl hdl hnl
        have HS := Lib.hid hS; clear hS
        have Hd := Lib.hid hd; clear hd
      case refine_2 =>
        have h0 := Hd.out.1 (by simp)
        have hk0 := HK.out; clear HK
        simp only [h0] at hk0 ⊢
        have HK := Lib.hid hk0; clear hk0 h0
        go_wp2_with fail
        refine (own7_any _ m (by omega) (by omega) (fun k hk => by have := Hg.out k hk; omega) W (Hv1.out.ext HS.out.1)).mono ?_
        rintro e w' ⟨v', rfl, hv', he'⟩
        go_wp2
        exact HK.out _ _ (by refine ⟨fun h => ?_, fun h => ?_, fun h => ?_⟩ <;> first | rfl | exact absurd h (by decide)) (HS.out.step OpenG.ext he' 1 _ ⟨fun _ => hv'.mono HS.out.1.size, fun h => absurd h (by decide), fun h => absurd h (by decide), fun h => absurd h (by decide), (fun t l e => by simp at e)⟩)
      case refine_4 =>
        have h0 := Hd.out.1.1 (by simp)
        have hk0 := HK.out; clear HK
        simp only [h0] at hk0 ⊢
        have HK := Lib.hid hk0; clear hk0 h0
        go_wp2_with fail
        refine (theirs7_any _ m w1 W HS.out.1 Hv1.out (by omega) (by omega)).mono ?_
        rintro e w' ⟨v', rfl, hv', he'⟩
        go_wp2
        exact HK.out _ _ (by refine ⟨fun h => ?_, fun h => ?_, fun h => ?_⟩ <;> first | rfl | exact absurd h (by decide)) (HS.out.step OpenG.ext he' 3 _ ⟨fun h => absurd h (by decide), fun _ => hv'.mono HS.out.1.size, fun h => absurd h (by decide), fun h => absurd h (by decide), (fun t l e => by simp at e)⟩)
      case refine_6 =>
        have h0 := Hd.out.1.2.1 (by simp)
        have hk0 := HK.out; clear HK
        simp only [h0] at hk0 ⊢
        have HK := Lib.hid hk0; clear hk0 h0
        go_wp2_with fail
        refine ((fun W (hW : Ext w1 W) => dupS B cB ss W (by omega) (HX1.out.ext hW)) W HS.out.1).mono ?_
        rintro e w' ⟨v', rfl, hv', he'⟩
        go_wp2
        exact HK.out _ _ (by refine ⟨fun h => ?_, fun h => ?_, fun h => ?_⟩ <;> first | rfl | exact absurd h (by decide)) (HS.out.step OpenG.ext he' 5 _ ⟨fun h => absurd h (by decide), fun h => absurd h (by decide), fun h => absurd h (by decide), fun h => absurd h (by decide), (fun t l e => by simp at e; obtain ⟨rfl, rfl⟩ := e; exact hv'.mono HS.out.1.size)⟩)
      case refine_8 =>
        have h0 := Hd.out.1.2.2 (by simp)
        have hk0 := HK.out; clear HK
        simp only [h0] at hk0 ⊢
        have HK := Lib.hid hk0; clear hk0 h0
        go_wp2_with fail
        refine ((fun W (hW : Ext w1 W) => dupI C cC l W (by omega) (HY1.out.ext hW)) W HS.out.1).mono ?_
        rintro e w' ⟨v', rfl, hv', he'⟩
        go_wp2
        exact HK.out _ _ (by refine ⟨fun h => ?_, fun h => ?_, fun h => ?_⟩ <;> first | rfl | exact absurd h (by decide)) (HS.out.step OpenG.ext he' 7 _ ⟨fun h => absurd h (by decide), fun h => absurd h (by decide), fun h => absurd h (by decide), fun h => absurd h (by decide), (fun t l e => by simp at e; obtain ⟨rfl, rfl⟩ := e; exact hv'.mono HS.out.1.size)⟩)
      case refine_9 =>
        go_wp2_with fail
        exact HK.out _ _ (by refine ⟨fun h => ?_, fun h => ?_, fun h => ?_⟩ <;> first | rfl | exact absurd h (by decide)) (HS.out.step OpenG.ext (Ext.alloc _ _) 8 _ ⟨fun h => absurd h (by decide), fun h => absurd h (by decide), fun _ => BoxP.new HS.out.1.size, fun h => absurd h (by decide), (fun t l e => by simp at e)⟩)
      case refine_10 =>
        go_wp2_with fail
        exact HK.out _ _ (by refine ⟨fun h => ?_, fun h => ?_, fun h => ?_⟩ <;> first | rfl | exact absurd h (by decide)) (HS.out.step OpenG.ext (Ext.alloc _ _) 9 _ ⟨fun h => absurd h (by decide), fun h => absurd h (by decide), fun h => absurd h (by decide), fun _ => BoxP.new HS.out.1.size, (fun t l e => by simp at e)⟩)
      all_goals
        go_wp2_with fail
        refine HK.out _ _ (by refine ⟨fun h => ?_, fun h => ?_, fun h => ?_⟩ <;> first | rfl | exact absurd h (by decide)) (HS.out.step OpenG.ext (Ext.refl _) _ _ ⟨fun h => absurd h (by decide), fun h => absurd h (by decide), fun h => absurd h (by decide), fun h => absurd h (by decide), (fun t l e => by simp at e)⟩)
    · intro x W hS hR
      obtain ⟨heW, hF⟩ := hS
      have hO := (hF 1 (by decide)).1 rfl
      have hT := (hF 3 (by decide)).2.1 rfl
      obtain ⟨g, x8, hg, b4⟩ := (hF 8 (by decide)).2.2.1 rfl
      obtain ⟨g', x9, hg', b5⟩ := (hF 9 (by decide)).2.2.2.1 rfl
      have hD5 := (hF 5 (by decide)).2.2.2.2 36 ss (by simp)
      have hD7 := (hF 7 (by decide)).2.2.2.2 3 l (by simp)
      have hO0 := hO
      have hT0 := hT
      obtain ⟨s1, s2, x1, p1, cs1, p2, -⟩ := hO0
      obtain ⟨r1, r2, cs, x3, p3, p4, -⟩ := hT0
      obtain ⟨a1, d1, rfl⟩ := ownsRow_slice p1
      obtain ⟨a2, d2, rfl⟩ := ownsRow_slice p2
      obtain ⟨b1, f1, rfl⟩ := ownsRow_slice p3
      obtain ⟨b2, f2, rfl⟩ := ownsRow_slice p4
      clear p1 p2 p3 p4
      simp only [AllV, true_and] at hR
      have x0 := hR.1.1.1.1.1.1.1.1.1.1 (by simp)
      have x2 := hR.1.1.1.1.1.1.1.2.1 (by simp)
      have x4 := hR.1.1.1.1.1.2.2.1 (by simp)
      obtain ⟨D1, e1, x5⟩ := ownsRow_slice hD5
      rw [x5] at hD5
      have x6 := hR.1.1.1.2.2.2 (by simp)
      obtain ⟨D2, e2, x7⟩ := ownsRow_slice hD7
      rw [x7] at hD7
      rw [x1] at hO
      rw [x3] at hT
      simp only [List.take, List.drop, fill, Act.put, List.setIfInBounds_toArray, List.set_cons_zero, List.set_cons_succ, Nat.reduceAdd, x0, x1, x2, x3, x4, x5, x6, x7, x8, x9]
      clear hR hF x0 x1 x2 x3 x4 x5 x6 x7 x8 x9
      obtain ⟨W2, hW2, hE2, bO, bX, vO, vX⟩ := opened_stored heW hg hg' b4 b5 hO hT
      have hD5' := OwnI.opened (s1 := .slice a1 m.shafts.length d1) (s2 := .slice a2 m.wvs.length d2) (r1 := .slice b1 m.shafts.length f1) (r2 := .slice b2 m.wvs.length f2) hD5 b4 b5 (by decide) (by decide)
      rw [← hW2] at hD5'
      have hD7' := OwnI.opened (s1 := .slice a1 m.shafts.length d1) (s2 := .slice a2 m.wvs.length d2) (r1 := .slice b1 m.shafts.length f1) (r2 := .slice b2 m.wvs.length f2) hD7 b4 b5 (by decide) (by decide)
      rw [← hW2] at hD7'
      obtain ⟨u0, u1⟩ := b4.c2
      obtain ⟨y0, y1⟩ := b5.c2
      have z0 := b4.frozen 0; have z1 := b4.frozen 1
      have i0 := b5.frozen 0; have i1 := b5.frozen 1
      have hne : g ≠ g' := b4.ne_ b5 (by decide)
      have hne' : g' ≠ g := fun h => hne h.symm
      have HW2 := Lib.hid hW2
      have B4 := Lib.hid b4; have B5 := Lib.hid b5
      have HD5 := Lib.hid hD5'
      have HD7 := Lib.hid hD7'
      clear hW2 b4 b5 hO hT hD5 hD5' hD7 hD7'
      obtain ⟨r, hr⟩ : ∃ r, checkP m = r := ⟨_, rfl⟩
      have hck := Lib.hid (check7_any _ m r hr W2 (vX.val hE2))
      obtain ⟨k0, k1⟩ := bX.c2
      have hE2' := hE1.trans hE2
      have hM2 := hM1.ext hE2
      have VO := Lib.hid vO; have VX := Lib.hid vX
      clear k0 k1
      go_wp2_with fail
      rw [← HW2.out]
      clear u0 u1 y0 y1 z0 z1 i0 i1 HW2 B4 B5 vO vX hne hne' heW
      refine hck.out.mono ?_
      rintro e w3 ⟨rfl, he3⟩
      clear hck
      have hE3 := hE2'.trans he3
      have hM3 := hM2.ext he3
      have bO3 := bO.ext he3; have bX3 := bX.ext he3
      have VO3 := Lib.hid (VO.out.ext he3)
      have HVX := Lib.hid ((VX.out.val hE2).ext he3)
      have HX3 := Lib.hid (HX1.out.ext (hE2.trans he3)); have HY3 := Lib.hid (HY1.out.ext (hE2.trans he3))
      have HD5' := Lib.hid (HD5.out.ext he3); have HD7' := Lib.hid (HD7.out.ext he3)
      have Hr := Lib.hid hr
      clear hr he3 VO VX bO bX hE2' hM2 hE2 HX1 HY1 HD5 HD7
      go_upto_if 48 with fail
      go_cut [11] (fun a wx => a = .int .i64 (sightE m ss) ∧ Ext w3 wx)
      case first =>
        -- <<S
        as_aux_lemma =>
        by_cases hr0 : r = 0
        · subst hr0
          have hz : ((0 : Int) == 0) = true := rfl
          have hse : Hid (rangE m ss 2 = sightE m ss) := by
            unfold Hid rangE sightE
            rw [Hr.out]; rfl
          obtain ⟨k0, k1⟩ := bX3.c2
          go_upto_region 6 with fail
          refine wp_region_chain 4 [(2, true), (3, true)] [] (by kernel_rfl) (by kernel_rfl) (by kernel_rfl) ?_
          simp only [List.take, List.drop, fill, Act.put, List.setIfInBounds_toArray, List.set_cons_zero, List.set_cons_succ, Nat.reduceAdd]
          repeat (first
            | refine Floats.mut rfl ?_
            | (apply Floats.float rfl
               · intro x W he hd K Q hK
                 try (have he := he (by decide); have k0 := he.cell k0; have k1 := he.cell k1)
                 try simp only [edges, DepsE, List.filter_cons, List.filter_nil, Region.binds, if_true, and_true, true_and, upd, Nat.reduceEqDiff, if_false] at hd
                 try simp only [hd] at hK ⊢
                 have HK := Lib.hid hK; clear hK
                 go_wp2_with fail
                 exact HK.out))
          refine Floats.done fun W he hG => ?_
          refine Chain.cons _ rfl ?_
          intro x hd K Q hK
          try simp only [edges, DepsE, List.filter_cons, List.filter_nil, Region.binds, if_true, and_true, true_and, upd, Nat.reduceEqDiff, if_false] at hd
          try simp only [hd] at hK ⊢
          clear hd
          have HK := Lib.hid hK; clear hK
          go_wp2_with fail
          refine (seen7_any B cB ss.length ss rfl W (by omega) (HX3.out.ext he)).mono ?_
          rintro e w5 ⟨u5, rfl, hO5, he5⟩
          obtain ⟨A5, c5, rfl⟩ := ownsRow_slice hO5
          have heA := he.trans he5
          have HI5 := Lib.hid hO5.sl.ints
          clear hO5
          go_wp2_with fail
          refine HK.out _ _ (fun _ => heA) ?_
          clear HK
          refine Chain.cons _ rfl ?_
          intro x hd K Q hK
          try simp only [edges, DepsE, List.filter_cons, List.filter_nil, Region.binds, if_true, and_true, true_and, upd, Nat.reduceEqDiff, if_false] at hd
          try simp only [hd] at hK ⊢
          clear hd
          have HK := Lib.hid hK; clear hK
          go_wp2_with fail
          refine (sighted7_any _ m A5 c5 ss.length ss rfl _ hse.out w5 (HVX.out.ext heA) (by omega) HI5.out).mono ?_
          rintro e w6 ⟨rfl, he6⟩
          have heB := heA.trans he6
          go_wp2_with fail
          refine HK.out _ _ (fun _ => heB) ?_
          clear HK
          refine Chain.nil ?_
          simp only [upd, Nat.reduceEqDiff, if_false, if_true]
          go_wp2_with fail
          go_meet
          exact ⟨rfl, heB⟩
        · have hz : (r == 0) = false := beq_eq_false_iff_ne.2 hr0
          have e1 : sightE m ss = r := by unfold sightE; rw [Hr.out, if_pos hr0]
          have E1 := Lib.hid e1
          clear e1 hr0
          go_wp2_with fail
          go_meet
          exact ⟨by rw [E1.out], Ext.refl _⟩
        -- >>
      case rest =>
      obtain ⟨rfl, he4⟩ := hcut
      obtain ⟨w4, rfl⟩ : ∃ z, z = wc := ⟨_, rfl⟩
      have hE4 := hE3.trans he4
      have hM4 := hM3.ext he4
      have bO4 := bO3.ext he4; have bX4 := bX3.ext he4
      have VO4 := Lib.hid (VO3.out.ext he4); have HVX4 := Lib.hid (HVX.out.ext he4)
      have HX4 := Lib.hid (HX3.out.ext he4); have HY4 := Lib.hid (HY3.out.ext he4)
      have HD5 := Lib.hid (HD5'.out.ext he4); have HD7 := Lib.hid (HD7'.out.ext he4)
      clear hE3 hM3 bO3 bX3 VO3 HVX HX3 HY3 HD5' HD7' he4
      obtain ⟨s0, hs0⟩ : ∃ s0, sightE m ss = s0 := ⟨_, rfl⟩
      rw [hs0]
      have Hs0 := Lib.hid hs0
      clear hs0
      obtain ⟨eU, heU⟩ : ∃ eU, sureE m ss = eU := ⟨_, rfl⟩
      obtain ⟨eV, heV⟩ : ∃ eV, provE m ss l = eV := ⟨_, rfl⟩
      obtain ⟨xm, hxm⟩ : ∃ xm, (if eV = 0 then (l.length : Int) else 0) = xm := ⟨_, rfl⟩
      obtain ⟨xp, hxp⟩ : ∃ xp, provL m ss = xp := ⟨_, rfl⟩
      have HeU := Lib.hid heU; have HeV := Lib.hid heV; have Hxm := Lib.hid hxm; have Hxp := Lib.hid hxp
      clear heU heV hxm hxp
      go_upto_if 56 with fail
      go_cut [12, 13, 14, 15] (fun a b c d wx => a = .int .i64 eU ∧ b = .int .i64 eV ∧ c = .int .i64 xm ∧ Hid (SlI wx d xp) ∧ Ext w4 wx)
      case first =>
        -- <<T
        as_aux_lemma =>
        by_cases h0 : s0 = 0
        · subst h0
          have hz : ((0 : Int) == 0) = true := rfl
          have Hm := Lib.hid ((checkP_iff m).1 (sightE_ok Hs0.out).1)
          have Hnw := Lib.hid (sightE_ok Hs0.out).2.1
          have hsz9 := Hm.out.sz
          have hfew := Hm.out.few
          have hpk := Lib.hid (sure_pick Hs0.out)
          obtain ⟨k0, k1⟩ := bX4.c2
          go_upto_region 10 with fail
          refine wp_region_tree 10 [(2, true), (3, true)] [] (by kernel_rfl) (by kernel_rfl) (by kernel_rfl) (ds := [0, 1]) (by kernel_rfl) ?_
          simp only [List.take, List.drop, fill, Act.put, List.setIfInBounds_toArray, List.set_cons_zero, List.set_cons_succ, Nat.reduceAdd]
          repeat (first
            | (apply Unlock.float rfl
               · intro x W he hd K Qr hK
                 try (have he := he (by decide); have k0 := he.cell k0; have k1 := he.cell k1)
                 try simp only [edges, DepsE, List.filter_cons, List.filter_nil, Region.binds, if_true, and_true, true_and, upd, Nat.reduceEqDiff, if_false] at hd
                 try simp only [hd] at hK ⊢
                 have HK := Lib.hid hK; clear hK
                 go_wp2_with fail
                 exact HK.out))
          refine Unlock.nil ?_
          intro W he hG
          refine Tree.next (ks := [(2, true)]) (by kernel_rfl) ?_
          refine TSteps.cons _ rfl ?_ trivial
          intro x hd K Qr hK
          try simp only [edges, DepsE, List.filter_cons, List.filter_nil, Region.binds, if_true, and_true, true_and, upd, Nat.reduceEqDiff, if_false] at hd
          try simp only [hd] at hK ⊢
          clear hd
          have HK := Lib.hid hK; clear hK
          go_wp2_with fail
          refine (seen7_any B cB ss.length ss rfl W (by omega) (HX4.out.ext he)).mono ?_
          rintro e w5 ⟨u5, rfl, hO5, he5⟩
          obtain ⟨A5, c5, rfl⟩ := ownsRow_slice hO5
          have heA := he.trans he5
          have HI5 := Lib.hid hO5.sl.ints
          clear hO5
          go_wp2_with fail
          refine HK.out _ _ (fun _ => heA) ?_
          clear HK
          refine Unlock.of (ds := []) (by kernel_rfl) ?_
          repeat (first
            | (apply Unlock.float rfl
               · intro x W he hd K Qr hK
                 try (have he := he (by decide))
                 try simp only [edges, DepsE, List.filter_cons, List.filter_nil, Region.binds, if_true, and_true, true_and, upd, Nat.reduceEqDiff, if_false] at hd
                 try simp only [hd] at hK ⊢
                 have HK := Lib.hid hK; clear hK
                 go_wp2_with fail
                 exact HK.out))
          refine Unlock.nil ?_
          refine Tree.next (ks := [(3, true)]) (by kernel_rfl) ?_
          refine TSteps.cons _ rfl ?_ trivial
          intro x hd K Qr hK
          try simp only [edges, DepsE, List.filter_cons, List.filter_nil, Region.binds, if_true, and_true, true_and, upd, Nat.reduceEqDiff, if_false] at hd
          try simp only [hd] at hK ⊢
          clear hd
          have HK := Lib.hid hK; clear hK
          go_wp2_with fail
          refine (slipped7_any _ m Hm.out A5 c5 ss.length ss rfl Hnw.out w5 (HVX4.out.ext heA) HI5.out).mono ?_
          rintro e w6 ⟨uS1, uS2, rfl, hO1, hO2, he6⟩
          have heB := heA.trans he6
          have hsE := hpk.out
          rw [HeU.out] at hsE
          obtain ⟨S1, S2, rfl⟩ := ownsRow_slice hO1
          obtain ⟨S3, S4, rfl⟩ := ownsRow_slice hO2
          obtain ⟨sn1, hsn1⟩ : ∃ n, (ints ((pickF m.shafts.length (explB m (sightF ss)) (2 ^ m.shafts.length)).getD [])).length = n := ⟨_, rfl⟩
          obtain ⟨sn2, hsn2⟩ : ∃ n, (ints ((bothF m.shafts.length (explB m (sightF ss)) (2 ^ m.shafts.length)).getD [])).length = n := ⟨_, rfl⟩
          rw [hsn1, hsn2]
          clear hO1 hO2 hsn1 hsn2
          generalize (pickF m.shafts.length (explB m (sightF ss)) (2 ^ m.shafts.length)).isSome = qf at *
          have HsE := Lib.hid hsE
          clear hsE hpk
          go_wp2_with fail
          refine HK.out _ _ (fun _ => heB) ?_
          clear HK
          refine Unlock.of (ds := [4, 5, 6, 7, 8, 9]) (by kernel_rfl) ?_
          repeat (first
            | (apply Unlock.float rfl
               · intro x W he hd K Qr hK
                 try (have he := he (by decide))
                 try simp only [edges, DepsE, List.filter_cons, List.filter_nil, Region.binds, if_true, and_true, true_and, upd, Nat.reduceEqDiff, if_false] at hd
                 try simp only [hd] at hK ⊢
                 have HK := Lib.hid hK; clear hK
                 go_wp2_with fail
                 exact HK.out))
          refine Unlock.nil ?_
          refine Tree.nil (by kernel_rfl) ?_
          simp only [upd, Nat.reduceEqDiff, if_false, if_true]
          clear k0 k1 he he5 HI5 heA
          have bX6 := bX4.ext heB
          have HV6 := Lib.hid (HVX4.out.ext heB); have HX6 := Lib.hid (HX4.out.ext heB); have HY6 := Lib.hid (HY4.out.ext heB)
          clear he6
          go_upto_if 65 with fail
          go_cut [12, 15] (fun a b wx => a = .int .i64 eU ∧ Hid (SlI wx b xp) ∧ Ext w6 wx)
          case first =>
            cases qf with
            | true =>
              have hu0 : eU = 0 := by rw [HsE.out]; rfl
              have hmp := Lib.hid ((most_prov (HeU.out.trans hu0)).trans Hxp.out)
              have Hu0 := Lib.hid hu0
              obtain ⟨k0, k1⟩ := bX6.c2
              clear HsE hu0
              go_upto_region 12 with fail
              refine wp_region_chain 4 [(2, true), (3, true)] [] (by kernel_rfl) (by kernel_rfl) (by kernel_rfl) ?_
              simp only [List.take, List.drop, fill, Act.put, List.setIfInBounds_toArray, List.set_cons_zero, List.set_cons_succ, Nat.reduceAdd]
              repeat (first
                | refine Floats.mut rfl ?_
                | (apply Floats.float rfl
                   · intro x W he hd K Q hK
                     try (have he := he (by decide); have k0 := he.cell k0; have k1 := he.cell k1)
                     try simp only [edges, DepsE, List.filter_cons, List.filter_nil, Region.binds, if_true, and_true, true_and, upd, Nat.reduceEqDiff, if_false] at hd
                     try simp only [hd] at hK ⊢
                     have HK := Lib.hid hK; clear hK
                     go_wp2_with fail
                     exact HK.out))
              refine Floats.done fun W he hG => ?_
              refine Chain.cons _ rfl ?_
              intro x hd K Q hK
              try simp only [edges, DepsE, List.filter_cons, List.filter_nil, Region.binds, if_true, and_true, true_and, upd, Nat.reduceEqDiff, if_false] at hd
              try simp only [hd] at hK ⊢
              clear hd
              have HK := Lib.hid hK; clear hK
              go_wp2_with fail
              refine (seen7_any B cB ss.length ss rfl W (by omega) (HX6.out.ext he)).mono ?_
              rintro e w5 ⟨u5, rfl, hO5, he5⟩
              obtain ⟨A5, c5, rfl⟩ := ownsRow_slice hO5
              have heA := he.trans he5
              have HI5 := Lib.hid hO5.sl.ints
              clear hO5
              go_wp2_with fail
              refine HK.out _ _ (fun _ => heA) ?_
              clear HK
              refine Chain.cons _ rfl ?_
              intro x hd K Q hK
              try simp only [edges, DepsE, List.filter_cons, List.filter_nil, Region.binds, if_true, and_true, true_and, upd, Nat.reduceEqDiff, if_false] at hd
              try simp only [hd] at hK ⊢
              clear hd
              have HK := Lib.hid hK; clear hK
              go_wp2_with fail
              refine (prove7_any _ m Hm.out A5 c5 ss.length ss rfl Hnw.out w5 (HV6.out.ext heA) HI5.out).mono ?_
              rintro e w7 ⟨uP, rfl, hOP, he7⟩
              have heC := heA.trans he7
              rw [hmp.out] at hOP
              have HP := Lib.hid hOP.sl
              clear hOP
              go_wp2_with fail
              refine HK.out _ _ (fun _ => heC) ?_
              clear HK
              refine Chain.nil ?_
              simp only [upd, Nat.reduceEqDiff, if_false, if_true]
              go_wp2_with fail
              go_meet
              exact ⟨by rw [Hu0.out], HP, heC⟩
            | false =>
              have hu7 : eU = 7 := by rw [HsE.out]; rfl
              have hx0 : Hid (xp = []) := by unfold Hid; rw [← Hxp.out]; unfold provL; rw [HeU.out, if_neg (by rw [hu7]; decide)]
              have Hu7 := Lib.hid hu7
              clear HsE hu7
              go_wp2_with fail
              go_meet
              exact ⟨by rw [Hu7.out], Lib.hid (by rw [hx0.out]; exact (OwnI.nil w6 0 3).sl), Ext.refl _⟩
          case rest =>
            obtain ⟨rfl, hSP, he8⟩ := hcut
            obtain ⟨w8, rfl⟩ : ∃ z, z = wc := ⟨_, rfl⟩
            have heD := heB.trans he8
            have bX8 := bX6.ext he8
            have HV8 := Lib.hid (HV6.out.ext he8); have HX8 := Lib.hid (HX6.out.ext he8); have HY8 := Lib.hid (HY6.out.ext he8)
            clear HsE bX6 HV6 HX6 HY6 heB he8
            obtain ⟨eG, heG⟩ : ∃ eG, grpE m l = eG := ⟨_, rfl⟩
            have hgr := Lib.hid (grouped7_any _ m C cC l.length l rfl eG heG w8 HV8.out hC1 (by omega) (by omega) HY8.out)
            have hpa := provE_at (l := l) Hs0.out
            rw [heG, HeV.out] at hpa
            have Hpa := Lib.hid hpa
            have HeG := Lib.hid heG
            obtain ⟨k0, k1⟩ := bX8.c2
            clear hpa heG Hs0 HeV
            go_wp2_with fail
            refine hgr.out.mono ?_
            rintro e w9 ⟨rfl, he9⟩
            clear hgr k0 k1
            have HP9 := Lib.hid (hSP.out.ext he9)
            have heE := heD.trans he9
            rcases Hpa.out with ⟨h1, h2⟩ | ⟨h1, h2, h3, h4, h5⟩
            · subst h1
              have hb : ((1 : Int) == 1) = true := rfl
              have hm0 : Hid (xm = 0) := by unfold Hid; rw [← Hxm.out, if_neg (by rw [h2]; decide)]
              have Hv1 := Lib.hid h2
              clear Hpa h2 Hxm
              go_wp2_with fail
              go_meet
              exact ⟨rfl, by rw [Hv1.out], by rw [hm0.out], HP9, heE⟩
            · have hb : (eG == 1) = false := beq_eq_false_iff_ne.2 h1
              have H3 := Lib.hid h3; have H4 := Lib.hid h4; have H5 := Lib.hid h5
              clear Hpa h1 h2 h3 h4 h5
              obtain ⟨qr, hqr⟩ : ∃ qr, risingB l = qr := ⟨_, rfl⟩
              have hri := Lib.hid (rising7_any C cC l.length l rfl qr hqr w9 (by unfold maxLen; omega) (HY8.out.ext he9))
              have Hqr := Lib.hid hqr
              clear hqr
              cases qr with
              | false =>
                have h4 : eV = 4 := by
                  rcases H5.out with h | h
                  · exact h.2
                  · have := h.1; rw [Hqr.out] at this; cases this
                have hm0 : Hid (xm = 0) := by unfold Hid; rw [← Hxm.out, if_neg (by rw [h4]; decide)]
                have Hv4 := Lib.hid h4
                clear H5 h4 Hxm
                go_wp2_with fail
                refine hri.out.mono ?_
                rintro e w10 ⟨rfl, he10⟩
                clear hri
                have HP10 := Lib.hid (HP9.out.ext he10)
                go_wp2_with fail
                go_meet
                exact ⟨rfl, by rw [Hv4.out], by rw [hm0.out], HP10, heE.trans he10⟩
              | true =>
                obtain ⟨qp, hqp⟩ : ∃ qp, proofR m (sightF ss) (natL l) = qp := ⟨_, rfl⟩
                have Hqp := Lib.hid hqp
                clear hqp
                go_wp2_with fail
                refine hri.out.mono ?_
                rintro e w10 ⟨rfl, he10⟩
                clear hri
                have he89 := he9.trans he10
                have HP10 := Lib.hid (HP9.out.ext he10)
                have heF := heE.trans he10
                have HX10 := Lib.hid (HX8.out.ext he89); have HV10 := Lib.hid (HV8.out.ext he89)
                have HY10 := Lib.hid (HY8.out.ext he89)
                obtain ⟨k0, k1⟩ := (bX8.ext he89).c2
                have hlc : Hid ((ints (natL l)).length = l.length) := by unfold Hid; rw [H3.out]
                go_upto_region 20 with fail
                refine wp_region_chain 5 [(2, true), (4, true)] [] (by kernel_rfl) (by kernel_rfl) (by kernel_rfl) ?_
                simp only [List.take, List.drop, fill, Act.put, List.setIfInBounds_toArray, List.set_cons_zero, List.set_cons_succ, Nat.reduceAdd]
                repeat (first
                  | refine Floats.mut rfl ?_
                  | (apply Floats.float rfl
                     · intro x W he hd K Q hK
                       try (have he := he (by decide); have k0 := he.cell k0; have k1 := he.cell k1)
                       try simp only [edges, DepsE, List.filter_cons, List.filter_nil, Region.binds, if_true, and_true, true_and, upd, Nat.reduceEqDiff, if_false] at hd
                       try simp only [hd] at hK ⊢
                       have HK := Lib.hid hK; clear hK
                       go_wp2_with fail
                       exact HK.out))
                refine Floats.done fun W he hG => ?_
                refine Chain.cons _ rfl ?_
                intro x hd K Q hK
                try simp only [edges, DepsE, List.filter_cons, List.filter_nil, Region.binds, if_true, and_true, true_and, upd, Nat.reduceEqDiff, if_false] at hd
                try simp only [hd] at hK ⊢
                clear hd
                have HK := Lib.hid hK; clear hK
                go_wp2_with fail
                refine (seen7_any B cB ss.length ss rfl W (by omega) (HX10.out.ext he)).mono ?_
                rintro e w5 ⟨u5, rfl, hO5, he5⟩
                obtain ⟨A5, c5, rfl⟩ := ownsRow_slice hO5
                have heA := he.trans he5
                have HI5 := Lib.hid hO5.sl.ints
                clear hO5
                go_wp2_with fail
                refine HK.out _ _ (fun _ => heA) ?_
                clear HK
                refine Chain.cons _ rfl ?_
                intro x hd K Q hK
                try simp only [edges, DepsE, List.filter_cons, List.filter_nil, Region.binds, if_true, and_true, true_and, upd, Nat.reduceEqDiff, if_false] at hd
                try simp only [hd] at hK ⊢
                clear hd
                have HK := Lib.hid hK; clear hK
                go_wp2_with fail
                refine (proof7_any _ m Hm.out A5 c5 ss.length ss rfl Hnw.out C cC l.length (natL l) hlc.out (by omega) H4.out qp Hqp.out w5 (HV10.out.ext heA) HI5.out (by rw [H3.out]; exact HY10.out.ext heA)).mono ?_
                rintro e w11 ⟨rfl, he11⟩
                have heC := heA.trans he11
                have HP11 := Lib.hid (HP10.out.ext heC)
                go_wp2_with fail
                refine HK.out _ _ (fun _ => heC) ?_
                clear HK
                refine Chain.nil ?_
                simp only [upd, Nat.reduceEqDiff, if_false, if_true]
                cases qp with
                | false =>
                  have h8 : eV = 8 := by
                    rcases H5.out with h | ⟨_, h | h⟩
                    · have := h.1; rw [Hqr.out] at this; cases this
                    · exact h.2
                    · have := h.1; rw [Hqp.out] at this; cases this
                  have hm0 : Hid (xm = 0) := by unfold Hid; rw [← Hxm.out, if_neg (by rw [h8]; decide)]
                  have Hv8 := Lib.hid h8
                  clear H5 h8 Hxm
                  go_wp2_with fail
                  go_meet
                  exact ⟨rfl, by rw [Hv8.out], by rw [hm0.out], HP11, heF.trans heC⟩
                | true =>
                  have h8 : eV = 0 := by
                    rcases H5.out with h | ⟨_, h | h⟩
                    · have := h.1; rw [Hqr.out] at this; cases this
                    · have := h.1; rw [Hqp.out] at this; cases this
                    · exact h.2
                  have hm0 : Hid (xm = (l.length : Int)) := by unfold Hid; rw [← Hxm.out, if_pos h8]
                  have Hv8 := Lib.hid h8
                  clear H5 h8 Hxm
                  go_wp2_with fail
                  go_meet
                  exact ⟨rfl, by rw [Hv8.out], by rw [hm0.out], HP11, heF.trans heC⟩
        · have hz : (s0 == 0) = false := beq_eq_false_iff_ne.2 h0
          have hss : sightE m ss ≠ 0 := by rw [Hs0.out]; exact h0
          have e1 : sureE m ss = s0 := by unfold sureE; rw [if_pos hss, Hs0.out]
          have e2 : provE m ss l = s0 := by unfold provE; rw [if_pos hss, Hs0.out]
          have e3 : provL m ss = [] := by unfold provL; rw [e1, if_neg h0]
          have hS : SlI w4 (.slice none 0 0) [] := (OwnI.nil w4 0 3).sl
          rw [HeU.out] at e1
          rw [HeV.out] at e2
          rw [Hxp.out] at e3
          have e4 : xm = 0 := by rw [← Hxm.out, if_neg (by rw [e2]; exact h0)]
          have E := Lib.hid (And.intro e1 (And.intro e2 (And.intro e3 e4)))
          clear e1 e2 e3 e4 h0 hss Hxm
          go_wp2_with fail
          go_meet
          exact ⟨by rw [E.out.1], by rw [E.out.2.1], by rw [E.out.2.2.2], Lib.hid (by rw [E.out.2.2.1]; exact hS), Ext.refl _⟩
        -- >>
      case rest =>
        -- <<R
        as_aux_lemma =>
        obtain ⟨rfl, rfl, rfl, hSP, he5⟩ := hcut
        obtain ⟨w5, rfl⟩ : ∃ z, z = wc := ⟨_, rfl⟩
        have bO5 := bO4.ext he5; have hM5 := hM4.ext he5
        have HVO := Lib.hid (VO4.out.ext he5)
        have HD5' := Lib.hid (HD5.out.ext he5); have HD7' := Lib.hid (HD7.out.ext he5)
        have HX5 := Lib.hid (HX4.out.ext he5); have HY5 := Lib.hid (HY4.out.ext he5)
        have hE5 := hE4.trans he5
        have Hv5 := Lib.hid (Hv.out.ext hE5)
        have HI5 := Lib.hid HD5'.out.sl.ints; have HI7 := Lib.hid HD7'.out.sl.ints
        have hlm : l.length ≤ maxLen := by unfold maxLen; omega
        have hsm : ss.length ≤ maxLen := by unfold maxLen; omega
        have Hlm := Lib.hid hlm; have Hsm := Lib.hid hsm
        clear bO4 hM4 VO4 HD5 HD7 HX4 HY4 hE4 he5 bX4 HVX4 hlm hsm
        have Hpv := Lib.hid (Prove_any _ m D1 e1 ss.length ss rfl eU xp HeU.out Hxp.out w5 HVO.out.val Hsm.out HI5.out)
        obtain ⟨k0, k1⟩ := bO5.c2
        go_wp2_with fail
        refine Hpv.out.mono ?_
        rintro e wA ⟨uA, rfl, hOA, heA⟩
        clear Hpv k0 k1
        have HOA := Lib.hid hOA.sl
        clear hOA
        obtain ⟨k0, k1⟩ := (bO5.ext heA).c2
        have Hps := Lib.hid (Proves_any _ m D1 e1 ss.length ss rfl D2 e2 l.length l rfl eV xm HeV.out Hxm.out wA (HVO.out.ext heA).val Hsm.out (HI5.out.ext heA) Hlm.out (HI7.out.ext heA))
        clear Hxm
        go_wp2_with fail
        refine Hps.out.mono ?_
        rintro e wD ⟨rfl, heD'⟩
        have heD := heA.trans heD'
        obtain ⟨EA, fA, rfl, gA1, gA2, gA3⟩ := HOA.out.ext heD'
        obtain ⟨FA, iA, rfl, _, _, jA3⟩ := hSP.out.ext heD
        have hq1 : (eU == eU) = true := by simp
        have hq2 : (eV == eV) = true := by simp
        have hq3 : (xm == xm) = true := by simp
        have Hq6 := Lib.hid (fun W (hW : Ext wD W) => eqI EA FA fA iA _ _ true (decide_eq_true rfl) W (Nat.le_trans gA1 gA2) (IntsAt.ext gA3 hW) (IntsAt.ext jA3 hW))
        obtain ⟨n1, hn1⟩ : ∃ n, xp.length = n := ⟨_, rfl⟩
        rw [hn1] at Hq6 ⊢
        have hE9 := hE5.trans heD
        have bO9 := bO5.ext heD; have hM9 := hM5.ext heD
        have Hsa := Lib.hid (fun W (hW : Ext wD W) => same7_any _ _ m m true (decide_eq_true rfl) W (HVO.out.ext (heD.trans hW)).val (Hv5.out.ext (heD.trans hW)))
        have Heq := Lib.hid (fun W (hW : Ext wD W) => eqS D1 B e1 cB ss ss true (decide_eq_true rfl) W Hsm.out (HI5.out.ext (heD.trans hW)) (HX5.out.ext (heD.trans hW)))
        have Heq2 := Lib.hid (fun W (hW : Ext wD W) => eqI D2 C e2 cC l l true (decide_eq_true rfl) W Hlm.out (HI7.out.ext (heD.trans hW)) (HY5.out.ext (heD.trans hW)))
        clear Hps k0 k1 HOA heD' hSP gA1 gA2 gA3 jA3 hn1 heD hE5 bO5 hM5 HVO HD5' HD7' HX5 HY5 Hv5 HI5 HI7
        go_wp2_with fail
        refine (Hq6.out wD (Ext.refl _)).mono ?_
        rintro e wG ⟨rfl, heG⟩
        clear Hq6
        obtain ⟨k0, k1⟩ := (bO9.ext heG).c2
        obtain ⟨j0, j1⟩ := (hM9.ext heG).c2
        go_wp2_with fail
        refine (Hsa.out wG heG).mono ?_
        rintro e wH ⟨rfl, heH'⟩
        have heH := heG.trans heH'
        clear Hsa heG heH' k0 k1 j0 j1
        go_wp2_with fail
        refine (Heq.out wH heH).mono ?_
        rintro e wI ⟨rfl, heI'⟩
        have heI := heH.trans heI'
        clear Heq heH heI'
        go_wp2_with fail
        refine (Heq2.out wI heI).mono ?_
        rintro e wJ ⟨rfl, heJ'⟩
        have heJ := heI.trans heJ'
        clear Heq2 heI heJ'
        go_wp2_with fail
        refine (awake7_any wJ).mono ?_
        rintro e wK ⟨rfl, heK⟩
        go_wp2_with fail
        go_ret
        exact ⟨rfl, hE9.trans (heJ.trans heK)⟩
        -- >>
end Go.Proofs.Pet
