/-
  slices.IsSorted at []int; PowerFound walked.
-/
import Derived.Test.YtjlglbhafopomaaGreatPD5
import Derived.Test.YtjlglbhafopomaaGreatPD3
namespace Go.Proofs.Pet
set_option linter.unusedSimpArgs false
open Go Go.RowKit Go.Maps Go.Shelf
open Go.Proofs.Pow (PM Sh Wv POk Up sightF explB hitL clrB FoundP)

theorem less_any (a b : Int) (q : Bool) (hq : decide (a < b) = q) (w : World) : Calls Tryz.prog 148 #[.int .i64 a, .int .i64 b] w fun e w' => e = .returned (.bool q) ∧ w = w' := by
  have h1 := Lib.hid (nan_any a)
  go_enter Tryz.func148, Tryz.ntmps148
  go_wp2_with fail
  refine (h1.out w).mono ?_
  rintro e w1 ⟨rfl, rfl⟩
  go_wp2_with fail
  go_ret
  exact ⟨rfl, rfl⟩
set_option maxRecDepth 20000 in
set_option maxHeartbeats 1000000 in
theorem isSortedI (A : Option Addr) (c n : Nat) (xs : List Int) (hn : xs.length = n) (hs : xs.Pairwise (· ≤ ·)) (w : World) (hb : n ≤ 1000) (hx : IntsAt w A xs) :
    Calls Tryz.prog 80 #[.slice A n c] w fun e w' => e = .returned (.bool true) ∧ Ext w w' := by
  have Hx := Lib.hid hx; have Hn := Lib.hid hn; have Hs := Lib.hid hs
  have hl := Lib.hid less_any
  clear hx hn hs
  go_enter Tryz.func80, Tryz.ntmps80
  go_wp2_with fail
  go_loopw [3] (fun i wr => ∃ k : Int, -1 ≤ k ∧ k < n ∧ i = .int .i64 k ∧ Ext w wr) (fun i _ => (intOf i + 1).toNat)
  case atStart => exact ⟨(n : Int) - 1, by omega, by omega, rfl, Ext.refl _⟩
  case round =>
    obtain ⟨k, hk1, hk2, rfl, he⟩ := hrel
    by_cases hpos : 0 < k
    · obtain ⟨kk, rfl⟩ : ∃ kk : Nat, k = (kk : Int) + 1 := ⟨(k - 1).toNat, by omega⟩
      have hl1 : kk + 1 < xs.length := by rw [Hn.out]; omega
      obtain ⟨b1, o1, rfl, l1⟩ := Hx.out (kk + 1) hl1
      obtain ⟨b2, o2, e2, l2⟩ := Hx.out kk (by omega)
      cases e2
      have hle := List.pairwise_iff_getElem.1 Hs.out kk (kk + 1) (by omega) hl1 (by omega)
      rw [List.getElem?_eq_getElem hl1, Option.getD_some] at l1
      rw [List.getElem?_eq_getElem (show kk < xs.length by omega), Option.getD_some] at l2
      obtain ⟨x, hxe⟩ : ∃ x, xs[kk + 1] = x := ⟨_, rfl⟩
      obtain ⟨y, hye⟩ : ∃ y, xs[kk]'(by omega) = y := ⟨_, rfl⟩
      rw [hxe] at l1 hle
      rw [hye] at l2 hle
      have r1 := he.cell l1
      have r2 := he.cell l2
      have hkn : (kk : Int) + 1 < n := hk2
      have hdec : decide (x < y) = false := by simpa using hle
      have hlc := Lib.hid (fun W => hl.out x y false hdec W)
      have ek : o1 + (kk + 1) = o1 + kk + 1 := by omega
      clear hxe hye hle l1 l2 hl1 hdec
      have he0 := he
      clear he
      go_upto_region 4 with fail
      rw [show o1 + (kk + 1) = o1 + kk + 1 from rfl] at r1
      refine wp_region_chain 10 [(9, true)] [] (by kernel_rfl) (by kernel_rfl) (by kernel_rfl) ?_
      simp only [List.take, List.drop, fill, Act.put, List.setIfInBounds_toArray, List.set_cons_zero, List.set_cons_succ, Nat.reduceAdd]
      repeat (first
        | refine Floats.mut rfl ?_
        | (apply Floats.float rfl
           · intro x W he hd K Q hK
             try (have he := he (by decide); have r1 := he.cell r1; have r2 := he.cell r2)
             try simp only [edges, DepsE, List.filter_cons, List.filter_nil, Region.binds, if_true, and_true, true_and, upd, Nat.reduceEqDiff, if_false] at hd
             try simp only [hd] at hK ⊢
             have HK := Lib.hid hK; clear hK
             go_wp2_with fail
             exact HK.out))
      refine Floats.done fun W he hG => ?_
      refine Chain.cons _ rfl ?_
      intro x hd K Q hK
      try simp only [edges, DepsE, List.filter_cons, List.filter_nil, Region.binds, if_true, and_true, true_and, upd, Nat.reduceEqDiff, if_false] at hd
      try simp only [hd] at hK ⊢
      clear hd
      have HK := Lib.hid hK; clear hK
      go_wp2_with fail
      refine (hlc.out W).mono ?_
      rintro e w1 ⟨rfl, rfl⟩
      go_wp2_with fail
      refine HK.out _ _ (fun _ => he) ?_
      clear HK
      refine Chain.nil ?_
      simp only [upd, Nat.reduceEqDiff, if_false, if_true]
      go_wp2_with fail
      go_roundw
      case rel => exact ⟨(kk : Int), by omega, by omega, by go_num, he0.trans he⟩
      case measure => simp [intOf]; omega
    · go_wp2_with fail
      go_ret
      exact ⟨rfl, he⟩

theorem sight_ok {m : PM} (hm : POk m) {l : List Int} (hl : l.length = m.wvs.length) (hb : ∀ x, x ∈ l → 0 ≤ x ∧ x ≤ 2) : sightE m l = 0 := by
  have hc : checkP m = 0 := (checkP_iff m).2 hm
  have h1 : (l.all fun x => inB x 0 2) = true := List.all_eq_true.2 fun y hy => inB_iff.2 (hb y hy)
  unfold sightE
  rw [if_neg (by rw [hc]; decide), if_neg (by rw [hl]; exact fun h => h rfl), if_neg (by rw [h1]; decide)]
theorem up_twice {n : Nat} {x : List Nat} (hu : Up n 0 x) : twiceB (ints x) = false := by
  have hn : (ints x).Nodup := nodup_ints (Pow.up_nodup hu)
  refine twiceB_false fun k hk => ?_
  rw [← Bool.not_eq_true, List.contains_iff_mem]
  intro hmem
  rw [List.getElem?_eq_getElem hk, Option.getD_some, List.mem_take_iff_getElem] at hmem
  obtain ⟨j, hj, e⟩ := hmem
  exact List.pairwise_iff_getElem.1 (List.nodup_iff_pairwise_ne.1 hn) j k (by omega) hk (by omega) e
theorem up_all {n : Nat} {x : List Nat} (hu : Up n 0 x) : ((ints x).all fun k => inB k 0 ((n : Int) - 1)) = true := List.all_eq_true.2 fun y hy => by
  obtain ⟨k, hk, rfl⟩ := ints_mem.1 hy
  have := hu.2 k hk
  exact inB_iff.2 (by omega)
theorem up_rising {n : Nat} {x : List Nat} (hu : Up n 0 x) : risingB (ints x) = true := by
  rw [rising_pair]
  unfold ints
  rw [List.pairwise_map]
  exact hu.1.imp fun h => by omega
theorem up_le {n : Nat} {x : List Nat} (hu : Up n 0 x) : (ints x).Pairwise (· ≤ ·) := (rising_pair.1 (up_rising hu)).imp fun h => by omega
theorem expl_ok {m : PM} {l : List Int} {x : List Nat} (hs : sightE m l = 0) (hu : Up m.shafts.length 0 x) (he : explB m (sightF l) x = true) : explE m l (ints x) = 0 ∧ explQ m l (ints x) = true := by
  have h0 : explE m l (ints x) = 0 := by
    unfold explE
    rw [if_neg (by rw [hs]; decide), if_neg (by rw [up_all hu]; decide), if_neg (by rw [up_twice hu]; decide)]
  refine ⟨h0, ?_⟩
  unfold explQ
  rw [if_pos h0, natL_ints, he]
theorem prov_ok {m : PM} {l : List Int} {x : List Nat} (hs : sightE m l = 0) (hu : Up m.wvs.length 0 x) (he : Pow.proofB m (sightF l) x = true) : provE m l (ints x) = 0 := by
  unfold provE
  rw [if_neg (by rw [hs]; decide), if_neg (by rw [up_all hu]; decide), if_neg (by rw [up_rising hu]; decide), natL_ints, he, if_neg (by decide)]
/-- what is found out from sights of belts that really slipped -/
structure SeenP (m : PM) (l : List Int) (real few prf : List Nat) (sure : List Int) : Prop where
  s0 : sightE m l = 0
  e1 : explE m l (ints real) = 0
  e2 : explQ m l (ints real) = true
  f1 : slipE m l = 0
  f2 : slipL m l = ints few
  g1 : sureE m l = 0
  g2 : sureV m l = sure
  p2 : provL m l = ints prf
  q1 : provE m l (ints prf) = 0
  h1 : explE m l (ints few) = 0
  h2 : explQ m l (ints few) = true
  F : FoundP m (sightF l) real few prf
  su : sure = Pow.sureC m (sightF l)
theorem seen_all {m : PM} (hm : POk m) {l : List Int} {real : List Nat} (hl : l.length = m.wvs.length) (hw : SawT m real l) (hr : Up m.shafts.length 0 real) : ∃ few prf sure, SeenP m l real few prf sure := by
  have hs := sight_ok hm hl hw.in_
  obtain ⟨few, prf, hF⟩ := Pow.found_all hm hr (hw.expl hl)
  have hsure : sureE m l = 0 := by
    unfold sureE
    rw [if_neg (by rw [hs]; decide), if_neg (by rw [hF.clash]; decide)]
  obtain ⟨e1, e2⟩ := expl_ok hs hr (hw.expl hl)
  obtain ⟨h1, h2⟩ := expl_ok hs hF.fewUp hF.fewOk
  refine ⟨few, prf, _, hs, e1, e2, ?_, ?_, hsure, ?_, ?_, prov_ok hs hF.prfUp hF.prfOk, h1, h2, hF, rfl⟩
  · unfold slipE
    rw [if_neg (by rw [hs]; decide), hF.few_]; rfl
  · unfold slipL
    rw [if_neg (by rw [hs]; decide), hF.few_]; rfl
  · unfold sureV
    rw [if_pos hsure]; rfl
  · unfold provL
    rw [if_pos hsure, hF.prf_]
theorem ints_in {x : List Nat} {i : Nat} : (ints x).contains (i : Int) = decide (i ∈ x) := by
  rw [ints_contains, Bool.eq_iff_iff, List.contains_iff_mem, decide_eq_true_eq]
set_option maxRecDepth 100000 in
set_option maxHeartbeats 16000000 in
theorem powerFound_any (v v2 : Value) (w : World) (hv : BytesIn w v) (hv2 : BytesIn w v2) :
    Calls Tryz.prog 11 #[v, v2] w fun e w' => e = .returned (.bool true) ∧ Ext w w' := by
  have hwo := Lib.hid (wound_any v w hv)
  have Hv2 := Lib.hid hv2
  clear hv hv2
  go_enter Tryz.func11, Tryz.ntmps11
  go_wp2_with fail
  refine hwo.out.mono ?_
  rintro e w1 ⟨rfl, hs1, he1⟩
  clear hwo
  have hma := Lib.hid (made7_any w.heap.size 0 (by omega) 6 (by omega) w1 hs1)
  go_wp2_with fail
  refine hma.out.mono ?_
  rintro e w2 ⟨mv, m, rfl, hO, hok, -, -, hap⟩
  have hE := Apart.ext_of he1 (Nat.le_refl _) hap
  have hml := hok.1.few
  have hms := hok.1.sz
  have hval := hO.val
  obtain ⟨A1, c1, A2, c2, rfl, q1, q2, q3, q4, q5, q6⟩ := hO.val
  have hM := Blk.new w2 26 #[.slice A1 m.shafts.length c1, .slice A2 m.wvs.length c2]
  have hX := Ext.alloc w2 (.cells #[.slice A1 m.shafts.length c1, .slice A2 m.wvs.length c2] 26)
  have HV := Lib.hid (hval.ext hX)
  have hMw := hM
  have Hok := Lib.hid hok.1
  have hE' := hE.trans hX
  have hbi := Lib.hid (Hv2.out.ext hE')
  have HE := Lib.hid hE'
  obtain ⟨M, hMe⟩ : ∃ M, w2.heap.size = M := ⟨_, rfl⟩
  obtain ⟨k0, k1⟩ := hM.c2
  rw [hMe] at hMw k0 k1
  have HM := Lib.hid hMw
  clear hma hs1 he1 hap hok hval hO hM hMw hX hE hE' q1 q2 q3 q4 q5 q6 Hv2
  go_upto_region 2 with fail
  try rw [hMe]
  clear hMe
  generalize w2.alloc _ = w3 at *
  refine wp_region_tree 8 [(1, true), (3, true)] [] (by kernel_rfl) (by kernel_rfl) (by kernel_rfl) (ds := [0, 2]) (by kernel_rfl) ?_
  simp only [List.take, List.drop, fill, Act.put, List.setIfInBounds_toArray, List.set_cons_zero, List.set_cons_succ, Nat.reduceAdd]
  repeat (first
    | (apply Unlock.float rfl
       · intro x W he hd K Qr hK
         try (have he := he (by decide); have k0 := he.cell k0; have k1 := he.cell k1)
         try simp only [edges, DepsE, List.filter_cons, List.filter_nil, Region.binds, if_true, and_true, true_and, upd, Nat.reduceEqDiff, if_false] at hd
         try simp only [hd] at hK ⊢
         have HK := Lib.hid hK; clear hK
         go_wp2_with fail
         exact HK.out))
  refine Unlock.nil ?_
  intro W he hG
  refine Tree.next (ks := [(1, true)]) (by kernel_rfl) ?_
  refine TSteps.cons _ rfl ?_ trivial
  intro x hd K Qr hK
  try simp only [edges, DepsE, List.filter_cons, List.filter_nil, Region.binds, if_true, and_true, true_and, upd, Nat.reduceEqDiff, if_false] at hd
  try simp only [hd] at hK ⊢
  clear hd
  have HK := Lib.hid hK; clear hK
  have hwo := Lib.hid (wound_any v2 W (hbi.out.ext he))
  go_wp2_with fail
  refine hwo.out.mono ?_
  rintro e w4 ⟨rfl, hs4, he4⟩
  have heA := he.trans he4
  obtain ⟨B, hB⟩ : ∃ B, W.heap.size = B := ⟨_, rfl⟩
  have hBl : w3.heap.size ≤ B := by rw [← hB]; exact he.size
  rw [hB] at hs4 ⊢
  clear hwo hB he4
  go_wp2_with fail
  refine HK.out _ _ (fun _ => heA) ?_
  clear HK
  refine Unlock.of (ds := []) (by kernel_rfl) ?_
  repeat (first
    | (apply Unlock.float rfl
       · intro x W he hd K Qr hK
         try (have he := he (by decide))
         try simp only [edges, DepsE, List.filter_cons, List.filter_nil, Region.binds, if_true, and_true, true_and, upd, Nat.reduceEqDiff, if_false] at hd
         try simp only [hd] at hK ⊢
         have HK := Lib.hid hK; clear hK
         go_wp2_with fail
         exact HK.out))
  refine Unlock.nil ?_
  refine Tree.next (ks := [(3, true)]) (by kernel_rfl) ?_
  refine TSteps.cons _ rfl ?_ trivial
  intro x hd K Qr hK
  try simp only [edges, DepsE, List.filter_cons, List.filter_nil, Region.binds, if_true, and_true, true_and, upd, Nat.reduceEqDiff, if_false] at hd
  try simp only [hd] at hK ⊢
  clear hd
  have HK := Lib.hid hK; clear hK
  have hst := Lib.hid (stopped_any B 0 (by omega) _ m Hok.out w4 hs4 fun W' ha => HV.out.ext (Apart.ext_of heA hBl ha))
  go_wp2_with fail
  refine hst.out.mono ?_
  rintro e w5 ⟨u1, u2, l, real, rfl, hO1, hO2, hll, hsw, hup, -, hap⟩
  have heB := Apart.ext_of heA hBl hap
  clear hst hap heA hs4
  go_wp2_with fail
  refine HK.out _ _ (fun _ => heB) ?_
  clear HK
  refine Unlock.of (ds := [4, 5, 6, 7]) (by kernel_rfl) ?_
  repeat (first
    | (apply Unlock.float rfl
       · intro x W he hd K Qr hK
         try (have he := he (by decide))
         try simp only [edges, DepsE, List.filter_cons, List.filter_nil, Region.binds, if_true, and_true, true_and, upd, Nat.reduceEqDiff, if_false] at hd
         try simp only [hd] at hK ⊢
         have HK := Lib.hid hK; clear hK
         go_wp2_with fail
         exact HK.out))
  refine Unlock.nil ?_
  refine Tree.nil (by kernel_rfl) ?_
  simp only [upd, Nat.reduceEqDiff, if_false, if_true]
  obtain ⟨few, prf, sure, hP⟩ := seen_all Hok.out hll hsw hup
  have HP := Lib.hid hP
  obtain ⟨AS, cS, rfl, s1, s2, s3, -, -⟩ := hO1.open_
  obtain ⟨AR, cR, rfl, r1, r2, r3, -, -⟩ := hO2.open_
  obtain ⟨rn, hrn⟩ : ∃ rn, (ints real).length = rn := ⟨_, rfl⟩
  rw [hll] at s1 ⊢
  rw [hrn] at r1 ⊢
  have hrn9 : rn ≤ 9 := by rw [← hrn, ints_length]; have := Pow.up_len hup; omega
  obtain ⟨fn, hfn⟩ : ∃ fn, (ints few).length = fn := ⟨_, rfl⟩
  obtain ⟨sn, hsn⟩ : ∃ sn, sure.length = sn := ⟨_, rfl⟩
  have hfr : fn ≤ rn := by rw [← hfn, ← hrn, ints_length, ints_length]; exact hP.F.le
  have hpn : (ints prf).length = fn := by rw [← hfn, ints_length, ints_length]; exact hP.F.same.symm
  have hsn6 : sn ≤ 6 := by rw [← hsn, hP.su]; exact Nat.le_trans Pow.sureC_len hml
  obtain ⟨cl, hcl⟩ : ∃ cl, clrL m l m.shafts.length = cl := ⟨_, rfl⟩
  obtain ⟨cn, hcn⟩ : ∃ cn, cl.length = cn := ⟨_, rfl⟩
  have hcn9 : cn ≤ 9 := by
    rw [← hcn, ← hcl]
    unfold clrL
    rw [ints_length]
    exact Nat.le_trans (List.length_filter_le _ _) (by simp; omega)
  have HS3 := Lib.hid s3; have HR3 := Lib.hid r3; have Hll := Lib.hid hll; have Hrn := Lib.hid hrn; have Hfn := Lib.hid hfn; have Hsn := Lib.hid hsn; have Hpn := Lib.hid hpn; have Hcl := Lib.hid hcl; have Hcn := Lib.hid hcn; have Hup := Lib.hid hup
  have hm1 : m.wvs.length ≤ maxLen := by unfold maxLen; omega
  have hm2 : rn ≤ maxLen := by unfold maxLen; omega
  have hm3 : fn ≤ maxLen := by unfold maxLen; omega
  have hx1 := Lib.hid (Explains_any _ m AS cS m.wvs.length l hll AR cR rn (ints real) hrn 0 true hP.e1 hP.e2 w5 (HV.out.ext heB) hm1 s3 hm2 r1 r3)
  obtain ⟨k0, k1⟩ := (HM.out.ext heB).c2
  clear hO1 hO2 s3 r3 hrn hfn hsn hpn hcl hcn hP hll hup s1 r1 hsw
  go_wp2_with fail
  refine hx1.out.mono ?_
  rintro e w6 ⟨rfl, he6⟩
  have heC := heB.trans he6
  have HS := Lib.hid (HS3.out.ext he6); have HR := Lib.hid (HR3.out.ext he6)
  have hx2 := Lib.hid (Slipped_any _ m AS cS m.wvs.length l Hll.out 0 (ints few) HP.out.f1 HP.out.f2 w6 (HV.out.ext heC) hm1 HS.out)
  obtain ⟨k0', k1'⟩ := (HM.out.ext heC).c2
  clear hx1 k0 k1 he6 heB HS3 HR3
  go_wp2_with fail
  refine hx2.out.mono ?_
  rintro e w7 ⟨uf, rfl, hOf, he7⟩
  obtain ⟨AF, cF, rfl, f1, f2, f3, -, -⟩ := hOf.open_
  rw [Hfn.out] at f1 ⊢
  have heD := heC.trans he7
  have HS' := Lib.hid (HS.out.ext he7); have HR' := Lib.hid (HR.out.ext he7); have HF := Lib.hid f3
  have hx3 := Lib.hid (Surely_any _ m AS cS m.wvs.length l Hll.out 0 sure HP.out.g1 HP.out.g2 w7 (HV.out.ext heD) hm1 HS'.out)
  obtain ⟨k0, k1⟩ := (HM.out.ext heD).c2
  clear hx2 k0' k1' he7 heC HS HR hOf f3
  go_wp2_with fail
  refine hx3.out.mono ?_
  rintro e w8 ⟨us, rfl, hOs, he8⟩
  obtain ⟨AU, cU, rfl, y1, y2, y3, -, -⟩ := hOs.open_
  rw [Hsn.out] at y1 ⊢
  have heE := heD.trans he8
  have HS := Lib.hid (HS'.out.ext he8); have HR := Lib.hid (HR'.out.ext he8); have HF' := Lib.hid (HF.out.ext he8); have HU := Lib.hid y3
  have hx4 := Lib.hid (Prove_any _ m AS cS m.wvs.length l Hll.out 0 (ints prf) HP.out.g1 HP.out.p2 w8 (HV.out.ext heE) hm1 HS.out)
  obtain ⟨k0', k1'⟩ := (HM.out.ext heE).c2
  clear hx3 k0 k1 he8 heD HS' HR' HF hOs y3
  go_wp2_with fail
  refine hx4.out.mono ?_
  rintro e w9 ⟨pv, rfl, hOp, he9⟩
  obtain ⟨AP, cP, rfl, p1, p2, p3, -, -⟩ := hOp.open_
  rw [Hpn.out] at p1 ⊢
  have heF := heE.trans he9
  have HS' := Lib.hid (HS.out.ext he9); have HR' := Lib.hid (HR.out.ext he9); have HF := Lib.hid (HF'.out.ext he9); have HU' := Lib.hid (HU.out.ext he9); have HQ := Lib.hid p3
  have hx5 := Lib.hid (Proves_any _ m AS cS m.wvs.length l Hll.out AP cP fn (ints prf) Hpn.out 0 (fn : Int) HP.out.q1 (if_pos rfl) w9 (HV.out.ext heF) hm1 HS'.out hm3 p3)
  obtain ⟨k0, k1⟩ := (HM.out.ext heF).c2
  clear hx4 k0' k1' he9 heE HS HR HF' HU hOp p3
  go_wp2_with fail
  refine hx5.out.mono ?_
  rintro e wA ⟨rfl, heA⟩
  have heG := heF.trans heA
  have HS := Lib.hid (HS'.out.ext heA); have HR := Lib.hid (HR'.out.ext heA); have HF' := Lib.hid (HF.out.ext heA); have HU := Lib.hid (HU'.out.ext heA); have HQ' := Lib.hid (HQ.out.ext heA)
  have hx6 := Lib.hid (Cleared_any _ m AS cS m.wvs.length l Hll.out 0 cl HP.out.s0 (by rw [if_pos rfl]; exact Hcl.out) wA (HV.out.ext heG) hm1 HS.out)
  obtain ⟨k0', k1'⟩ := (HM.out.ext heG).c2
  clear hx5 k0 k1 heA heF HS' HR' HF HU' HQ
  go_wp2_with fail
  refine hx6.out.mono ?_
  rintro e wB ⟨uc, rfl, hOc, heB⟩
  obtain ⟨AC, cC, rfl, d1, d2, d3, -, -⟩ := hOc.open_
  rw [Hcn.out] at d1 ⊢
  have heH := heG.trans heB
  have HS' := Lib.hid (HS.out.ext heB); have HR' := Lib.hid (HR.out.ext heB); have HF := Lib.hid (HF'.out.ext heB); have HU' := Lib.hid (HU.out.ext heB); have HQ := Lib.hid (HQ'.out.ext heB); have HC := Lib.hid d3
  have hx7 := Lib.hid (Explains_any _ m AS cS m.wvs.length l Hll.out AF cF fn (ints few) Hfn.out 0 true HP.out.h1 HP.out.h2 wB (HV.out.ext heH) hm1 HS'.out hm3 f1 HF.out)
  obtain ⟨k0, k1⟩ := (HM.out.ext heH).c2
  clear hx6 k0' k1' heB heG HS HR HF' HU HQ' hOc d3
  go_wp2_with fail
  refine hx7.out.mono ?_
  rintro e wC ⟨rfl, heC⟩
  have heI := heH.trans heC
  have HR := Lib.hid (HR'.out.ext heC); have HF' := Lib.hid (HF.out.ext heC); have HU := Lib.hid (HU'.out.ext heC); have HQ' := Lib.hid (HQ.out.ext heC); have HC' := Lib.hid (HC.out.ext heC)
  have hi1 := Lib.hid (isSortedI AF cF fn (ints few) Hfn.out (up_le HP.out.F.fewUp) wC (by omega) HF'.out)
  have hi2 := Lib.hid (fun W (he : Ext wC W) => isSortedI AU cU sn sure Hsn.out (by rw [HP.out.su]; exact Pow.sureC_sorted _ _) W (by omega) (HU.out.ext he))
  have hgt : decide ((fn : Int) > (rn : Int)) = false := by simp; omega
  have hgt2 : decide (rn < fn) = false := by simp; omega
  have hne : ((fn : Int) != (fn : Int)) = false := by simp
  clear hx7 k0 k1 heH HS' HR' HF HU' HQ HC
  go_wp2_with fail
  refine hi1.out.mono ?_
  rintro e wD ⟨rfl, heD⟩
  go_wp2_with fail
  refine (hi2.out wD heD).mono ?_
  rintro e wE ⟨rfl, heE⟩
  have heJ := heD.trans heE
  have heK := heI.trans heJ
  have HRe := Lib.hid (HR.out.ext heJ); have HFe := Lib.hid (HF'.out.ext heJ); have HUe := Lib.hid (HU.out.ext heJ); have HQe := Lib.hid (HQ'.out.ext heJ); have HCe := Lib.hid (HC'.out.ext heJ)
  clear hi1 hi2 heC heI heJ heD heE HR HF' HU HQ' HC' hgt hgt2 hne
  go_wp2_with fail
  go_loopw [151] (fun i wr => ∃ j : Nat, j ≤ sn ∧ i = .int .i64 (j : Int) ∧ wE = wr) (fun i _ => sn - (intOf i).toNat)
  case atStart => exact ⟨0, Nat.zero_le _, rfl, rfl⟩
  case round =>
    obtain ⟨j, hj, rfl, rfl⟩ := hrel
    by_cases hlt : j < sn
    -- <<A
    · obtain ⟨b1, o1, rfl, l1⟩ := HUe.out j (by rw [Hsn.out]; exact hlt)
      obtain ⟨x, hx⟩ : ∃ x, sure[j]? = some x := ⟨_, List.getElem?_eq_getElem (by rw [Hsn.out]; exact hlt)⟩
      rw [hx, Option.getD_some] at l1
      obtain ⟨i, rfl, hi1, hi2⟩ := HP.out.F.sure x (by rw [← HP.out.su]; exact List.mem_of_getElem? hx)
      have hc1 := Lib.hid (contains_any (i : Int) AR cR rn (ints real) Hrn.out true (by rw [ints_in]; simpa using hi1) wE (by rw [Hrn.out]; exact hm2) HRe.out)
      have hc2 := Lib.hid (contains_any (i : Int) AF cF fn (ints few) Hfn.out true (by rw [ints_in]; simpa using hi2) wE (by rw [Hfn.out]; exact hm3) HFe.out)
      clear hx hi1 hi2
      go_wp2_with fail
      refine hc1.out.mono ?_
      rintro e w6 ⟨rfl, rfl⟩
      go_wp2_with fail
      refine hc2.out.mono ?_
      rintro e w6 ⟨rfl, rfl⟩
      go_wp2_with fail
      go_roundw
      case rel => exact ⟨j + 1, by omega, by go_num, by trivial⟩
      case measure => simp [intOf]; omega
    -- >>
    · go_wp2_with fail
      clear hlt hj
      go_loopw [168] (fun i wr => ∃ j : Nat, j ≤ cn ∧ i = .int .i64 (j : Int) ∧ wE = wr) (fun i _ => cn - (intOf i).toNat)
      case atStart => exact ⟨0, Nat.zero_le _, rfl, rfl⟩
      case round =>
        obtain ⟨j, hj, rfl, rfl⟩ := hrel
        by_cases hlt : j < cn
        -- <<B
        · obtain ⟨b1, o1, rfl, l1⟩ := HCe.out j (by rw [Hcn.out]; exact hlt)
          obtain ⟨x, hx⟩ : ∃ x, cl[j]? = some x := ⟨_, List.getElem?_eq_getElem (by rw [Hcn.out]; exact hlt)⟩
          rw [hx, Option.getD_some] at l1
          have hxm : x ∈ clrL m l m.shafts.length := by rw [Hcl.out]; exact List.mem_of_getElem? hx
          unfold clrL at hxm
          obtain ⟨i, hi, rfl⟩ := ints_mem.1 hxm
          obtain ⟨hi1, hi2⟩ := HP.out.F.clr i (List.mem_filter.1 hi).2
          have hc1 := Lib.hid (contains_any (i : Int) AR cR rn (ints real) Hrn.out false (by rw [ints_in]; simpa using hi1) wE (by rw [Hrn.out]; exact hm2) HRe.out)
          have hc2 := Lib.hid (contains_any (i : Int) AF cF fn (ints few) Hfn.out false (by rw [ints_in]; simpa using hi2) wE (by rw [Hfn.out]; exact hm3) HFe.out)
          clear hx hxm hi hi1 hi2
          go_wp2_with fail
          refine hc1.out.mono ?_
          rintro e w6 ⟨rfl, rfl⟩
          go_wp2_with fail
          refine hc2.out.mono ?_
          rintro e w6 ⟨rfl, rfl⟩
          go_wp2_with fail
          go_roundw
          case rel => exact ⟨j + 1, by omega, by go_num, by trivial⟩
          case measure => simp [intOf]; omega
        -- >>
        · have hfn6 : fn ≤ 6 := by rw [← Hpn.out, ints_length]; have := Pow.up_len HP.out.F.prfUp; omega
          have hPget : Hid (∀ j, j < fn → ∃ k : Nat, (ints prf)[j]?.getD 0 = (k : Int) ∧ k < m.wvs.length ∧ k ∈ prf ∧ ∀ j', j' < j → (ints prf)[j']?.getD 0 ≠ (k : Int)) := fun j hj => by
            have hj1 : j < (ints prf).length := by rw [Hpn.out]; exact hj
            obtain ⟨k, hk, e⟩ := ints_mem.1 (List.getElem_mem hj1)
            refine ⟨k, by rw [List.getElem?_eq_getElem hj1, Option.getD_some, e], (HP.out.F.prfUp.2 k hk).2, hk, fun j' hj' e' => ?_⟩
            have hj2 : j' < (ints prf).length := by omega
            rw [List.getElem?_eq_getElem hj2, Option.getD_some] at e'
            have := List.pairwise_iff_getElem.1 (rising_pair.1 (up_rising HP.out.F.prfUp)) j' j hj2 hj1 hj'
            omega
          go_wp2_with fail
          clear hlt hj
          go_loopw [183] (fun i wr => ∃ j : Nat, j ≤ fn ∧ i = .int .i64 (j : Int) ∧ Ext wE wr) (fun i _ => fn - (intOf i).toNat)
          case atStart => exact ⟨0, Nat.zero_le _, rfl, Ext.refl _⟩
          case round =>
            obtain ⟨j, hj, rfl, he⟩ := hrel
            by_cases hlt : j < fn
            -- <<C
            · obtain ⟨kx, ex, hkx, hxm, hxn⟩ := hPget.out j hlt
              obtain ⟨b1, o1, rfl, l1⟩ := HQe.out.ext he j (by rw [Hpn.out]; exact hlt)
              rw [ex] at l1
              have Hxn := Lib.hid hxn; have Hxm := Lib.hid hxm
              clear hxn hxm ex
              go_wp2_with fail
              go_loopw [192] (fun i wr => ∃ t : Nat, t ≤ j ∧ i = .int .i64 (t : Int) ∧ Ext wE wr) (fun i _ => j - (intOf i).toNat)
              case atStart => exact ⟨0, Nat.zero_le _, rfl, he⟩
              case round =>
                clear he l1
                obtain ⟨t, ht, rfl, he⟩ := hrel
                by_cases hlt2 : t < j
                · obtain ⟨ky, ey, hky, hym, -⟩ := hPget.out t (by omega)
                  have hxy : kx ≠ ky := fun e => Hxn.out t hlt2 (by rw [ey, e])
                  obtain ⟨b2, o2, e2, l2⟩ := HQe.out.ext he t (by rw [Hpn.out]; omega)
                  cases e2
                  rw [ey] at l2
                  have Hxy := Lib.hid hxy; have Hym := Lib.hid hym
                  obtain ⟨k0, k1⟩ := (HM.out.ext (heK.trans he)).c2
                  clear ey hxy hym
                  go_wp2_with fail
                  go_loopw [199] (fun i wr => ∃ s : Nat, s ≤ m.shafts.length ∧ i = .int .i64 (s : Int) ∧ Ext wE wr) (fun i _ => m.shafts.length - (intOf i).toNat)
                  case atStart => exact ⟨0, Nat.zero_le _, rfl, he⟩
                  case round =>
                    clear he l2 k0 k1
                    obtain ⟨s, hs, rfl, he⟩ := hrel
                    by_cases hlt3 : s < m.shafts.length
                    · obtain ⟨p, hp⟩ : ∃ p, m.drv s kx = p := ⟨_, rfl⟩
                      obtain ⟨q, hq⟩ : ∃ q, m.drv s ky = q := ⟨_, rfl⟩
                      have hd1 := Lib.hid (drives_any _ m Hok.out s kx hkx p hp wr (HV.out.ext (heK.trans he)))
                      have hd2 := Lib.hid (fun W (heW : Ext wr W) => drives_any _ m Hok.out s ky hky q hq W (HV.out.ext ((heK.trans he).trans heW)))
                      have hcc := Lib.hid (fun (h1 : p = true) (h2 : q = true) W (heW : Ext wr W) => contains_any (s : Int) AC cC cn cl Hcn.out true (by
                        rw [← Hcl.out]
                        unfold clrL
                        rw [ints_in, decide_eq_true_eq, List.mem_filter, List.mem_range]
                        exact ⟨hlt3, HP.out.F.apart kx ky Hxm.out Hym.out Hxy.out s (hp.trans h1) (hq.trans h2)⟩) W (by rw [Hcn.out]; unfold maxLen; omega) ((HCe.out.ext he).ext heW))
                      obtain ⟨k0, k1⟩ := (HM.out.ext (heK.trans he)).c2
                      clear hp hq
                      go_wp2_with fail
                      refine hd1.out.mono ?_
                      rintro e w6 ⟨rfl, he6⟩
                      obtain ⟨k0', k1'⟩ := (HM.out.ext ((heK.trans he).trans he6)).c2
                      cases p with
                      | false =>
                        clear hd2 hcc hd1 k0 k1
                        go_wp2_with fail
                        go_roundw
                        case rel => exact ⟨s + 1, by omega, by go_num, he.trans he6⟩
                        case measure => simp [intOf]; omega
                      | true =>
                        clear hd1 k0 k1
                        go_wp2_with fail
                        refine (hd2.out w6 he6).mono ?_
                        rintro e w7 ⟨rfl, he7⟩
                        cases q with
                        | false =>
                          clear hd2 hcc
                          go_wp2_with fail
                          go_roundw
                          case rel => exact ⟨s + 1, by omega, by go_num, he.trans (he6.trans he7)⟩
                          case measure => simp [intOf]; omega
                        | true =>
                          have hc3 := Lib.hid (hcc.out (by first | rfl | trivial) (by first | rfl | trivial) w7 (he6.trans he7))
                          clear hd2 hcc
                          go_wp2_with fail
                          refine hc3.out.mono ?_
                          rintro e w8 ⟨rfl, rfl⟩
                          go_wp2_with fail
                          go_roundw
                          case rel => exact ⟨s + 1, by omega, by go_num, he.trans (he6.trans he7)⟩
                          case measure => simp [intOf]; omega
                    · go_wp2_with fail
                      go_roundw
                      case rel => exact ⟨t + 1, by omega, by go_num, he⟩
                      case measure => simp [intOf]; omega
                · go_wp2_with fail
                  go_roundw
                  case rel => exact ⟨j + 1, by omega, by go_num, he⟩
                  case measure => simp [intOf]; omega
            -- >>
            · have haw := Lib.hid (awake7_any wr)
              go_wp2_with fail
              refine haw.out.mono ?_
              rintro e w6 ⟨rfl, he6⟩
              go_wp2_with fail
              go_ret
              exact ⟨rfl, HE.out.trans ((heK.trans he).trans he6)⟩
end Go.Proofs.Pet
