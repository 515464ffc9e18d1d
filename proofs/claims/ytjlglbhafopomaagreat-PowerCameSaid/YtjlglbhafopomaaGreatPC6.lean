/-
  PowerCame walked.
-/
import Derived.Test.YtjlglbhafopomaaGreatPC5
namespace Go.Proofs.Pet
set_option linter.unusedSimpArgs false
open Go Go.RowKit Go.Maps Go.Shelf
open Go.Proofs.Pow (PM Sh Wv POk Up)

set_option maxRecDepth 100000 in
set_option maxHeartbeats 4000000 in
theorem powerCame_any (v v2 : Value) (n1 n2 : Int) (w : World) (hv : BytesIn w v) (hv2 : BytesIn w v2) (hn1 : 0 ≤ n1 ∧ n1 < 256) (hn2 : 0 ≤ n2 ∧ n2 < 256) :
    Calls Tryz.prog 14 #[v, v2, .int .u8 n1, .int .u8 n2] w fun e w' => e = .returned (.bool true) ∧ Ext w w' := by
  have hwo := Lib.hid (wound_any v w hv)
  have Hv2 := Lib.hid hv2
  clear hv hv2
  go_enter Tryz.func14, Tryz.ntmps14
  go_wp2_with fail
  refine hwo.out.mono ?_
  rintro e w1 ⟨rfl, hs1, he1⟩
  clear hwo
  have hma := Lib.hid (made7_any w.heap.size 0 (by omega) 6 (by omega) w1 hs1)
  go_wp2_with fail
  refine hma.out.mono ?_
  rintro e w2 ⟨mv, m, rfl, hO, hok, -, -, hap⟩
  have hE := Apart.ext_of he1 (Nat.le_refl _) hap
  have hml := hok.1.few
  have hval := hO.val
  obtain ⟨A1, c1, A2, c2, rfl, q1, q2, q3, q4, q5, q6⟩ := hO.val
  have hM := Blk.new w2 26 #[.slice A1 m.shafts.length c1, .slice A2 m.wvs.length c2]
  have hX := Ext.alloc w2 (.cells #[.slice A1 m.shafts.length c1, .slice A2 m.wvs.length c2] 26)
  have HV := Lib.hid (hval.ext hX)
  have hMw := hM
  have Hok := Lib.hid hok.1
  have hE' := hE.trans hX
  have hbi := Lib.hid (Hv2.out.ext hE')
  have HE := Lib.hid hE'
  obtain ⟨M, hMe⟩ : ∃ M, w2.heap.size = M := ⟨_, rfl⟩
  obtain ⟨k0, k1⟩ := hM.c2
  rw [hMe] at hMw k0 k1
  have HM := Lib.hid hMw
  clear hma hs1 he1 hap hok hval hO hM hMw hX hE hE' q5 q6 Hv2
  go_upto_region 2 with fail
  try rw [hMe]
  clear hMe
  generalize w2.alloc _ = w3 at *
  refine wp_region_chain 6 [(1, true), (5, true)] [] (by kernel_rfl) (by kernel_rfl) (by kernel_rfl) ?_
  simp only [List.take, List.drop, fill, Act.put, List.setIfInBounds_toArray, List.set_cons_zero, List.set_cons_succ, Nat.reduceAdd]
  repeat (first
    | refine Floats.mut rfl ?_
    | (apply Floats.float rfl
       · intro x W he hd K Q hK
         try (have he := he (by decide); have k1 := he.cell k1)
         try simp only [edges, DepsE, List.filter_cons, List.filter_nil, Region.binds, if_true, and_true, true_and, upd, Nat.reduceEqDiff, if_false] at hd
         try simp only [hd] at hK ⊢
         have HK := Lib.hid hK; clear hK
         go_wp2_with fail
         exact HK.out))
  refine Floats.done fun W he hG => ?_
  refine Chain.cons _ rfl ?_
  intro x hd K Q hK
  try simp only [edges, DepsE, List.filter_cons, List.filter_nil, Region.binds, if_true, and_true, true_and, upd, Nat.reduceEqDiff, if_false] at hd
  try simp only [hd] at hK ⊢
  clear hd
  have HK := Lib.hid hK; clear hK
  have hwo := Lib.hid (wound_any v2 W (hbi.out.ext he))
  go_wp2_with fail
  refine hwo.out.mono ?_
  rintro e w4 ⟨rfl, hs4, he4⟩
  have heA := he.trans he4
  obtain ⟨B, hB⟩ : ∃ B, W.heap.size = B := ⟨_, rfl⟩
  have hBl : w3.heap.size ≤ B := by rw [← hB]; exact he.size
  rw [hB] at hs4 ⊢
  clear hwo hB
  go_wp2_with fail
  refine HK.out _ _ (fun _ => heA) ?_
  clear HK
  refine Chain.cons _ rfl ?_
  intro x hd K Q hK
  try simp only [edges, DepsE, List.filter_cons, List.filter_nil, Region.binds, if_true, and_true, true_and, upd, Nat.reduceEqDiff, if_false] at hd
  try simp only [hd] at hK ⊢
  clear hd
  have HK := Lib.hid hK; clear hK
  have hor := Lib.hid (orderS_any B 0 (by omega) m.wvs.length (by omega) w4 hs4)
  go_wp2_with fail
  refine hor.out.mono ?_
  rintro e w5 ⟨S, f, rfl, hSl, hR, hp, -, hap⟩
  have heB := Apart.ext_of heA hBl hap
  clear hor hap hs4
  go_wp2_with fail
  refine HK.out _ _ (fun _ => heB) ?_
  clear HK
  refine Chain.nil ?_
  simp only [upd, Nat.reduceEqDiff, if_false, if_true]
  obtain ⟨l, hl⟩ : ∃ l, lst f m.wvs.length = l := ⟨_, rfl⟩
  have hA := hR.ints
  rw [show (List.range m.wvs.length).map f = l from hl] at hA
  rw [hl] at hp
  have Hgetl : Hid (∀ j, j < m.wvs.length → l[j]?.getD 0 = f j) := fun j hj => by rw [← hl]; exact lst_get f hj
  have Hp := Lib.hid hp
  have hpa := (perm_adds Hok.out hp).2
  have hpl := perm_len hp
  obtain ⟨xa, hxa⟩ : ∃ xa, Pow.addsF m (natL l) = xa := ⟨_, rfl⟩
  have hxl : xa.length = m.wvs.length := by rw [← hxa, addsF_len]
  have hxs : xa.sum = Pow.costF m fun _ => true := by rw [← hxa, Pow.addsF_sum (perm_nat hp)]
  have hxn : ∀ x, x ∈ xa → 0 ≤ x := by rw [← hxa]; exact Pow.addsF_nonneg Hok.out (perm_nat hp)
  have HA := Lib.hid hA; have Hxa := Lib.hid hxa; have Hxs := Lib.hid hxs; have Hxn := Lib.hid hxn
  have had := Lib.hid (Adds_any _ m (some ⟨S, 0, none⟩) m.wvs.length m.wvs.length l hpl 0 xa hpa (by rw [if_pos rfl]; exact hxa) w5 (HV.out.ext heB) (by unfold maxLen; omega) (Nat.le_refl _) hA)
  have Hpl := Lib.hid hpl
  have HR := Lib.hid hR
  obtain ⟨k0, k1'⟩ := (HM.out.ext heB).c2
  clear hl hp hA hpa hpl hxa hxs hxn hbi hR hG
  go_wp2_with fail
  refine had.out.mono ?_
  rintro e w6 ⟨ua, rfl, hO6, he6⟩
  obtain ⟨A4, c4, rfl, a1, a2, a3, -, -⟩ := hO6.open_
  rw [hxl] at a1 ⊢
  have Hxl := Lib.hid hxl
  have HA4 := Lib.hid a3
  have heA := heB.trans he6
  have hlen : ((m.wvs.length : Int) != (m.wvs.length : Int)) = false := by simp
  clear had hO6 a3 hxl k0 k1' k1
  go_wp2_with fail
  go_loopw [13, 48] (fun s i wr => ∃ j : Nat, j ≤ m.wvs.length ∧ i = .int .i64 (j : Int) ∧ s = .int .i64 ((xa.take j).sum) ∧ w6 = wr) (fun _ i _ => m.wvs.length - (intOf i).toNat)
  case atStart => exact ⟨0, Nat.zero_le _, rfl, by simp, rfl⟩
  case round =>
    obtain ⟨j, hj, rfl, rfl, rfl⟩ := hrel
    by_cases hlt : j < m.wvs.length
    · obtain ⟨b4, o4, rfl, l4⟩ := HA4.out j (by rw [Hxl.out]; exact hlt)
      have hsn : (xa.take (j + 1)).sum = (xa.take j).sum + xa[j]?.getD 0 := by
        rw [List.take_add_one, List.sum_append, List.getElem?_eq_getElem (by rw [Hxl.out]; exact hlt)]
        simp
      have hb1 := Pow.sum_take_le Hxn.out j
      have hb2 := Pow.sum_take_le Hxn.out (j + 1)
      have hcb := Pow.cost_bounds Hok.out (fun _ => true)
      rw [Hxs.out] at hb1 hb2
      have hx0 : 0 ≤ xa[j]?.getD 0 := by
        rw [List.getElem?_eq_getElem (by rw [Hxl.out]; exact hlt)]
        exact Hxn.out _ (List.getElem_mem _)
      rw [hsn] at hb2
      obtain ⟨x, hx⟩ : ∃ x, xa[j]?.getD 0 = x := ⟨_, rfl⟩
      rw [hx] at l4 hsn hx0 hb2
      obtain ⟨s0, hs0⟩ : ∃ s0, (xa.take j).sum = s0 := ⟨_, rfl⟩
      rw [hs0] at hsn hb1 hb2 ⊢
      obtain ⟨cf, hcf⟩ : ∃ cf, (Pow.costF m fun _ => true) = cf := ⟨_, rfl⟩
      rw [hcf] at hcb hb1 hb2
      have Hsn := Lib.hid hsn
      have hxd : decide (x < 0) = false := by simpa using hx0
      clear hsn hs0 hx hcf
      go_wp2_with fail
      go_roundw
      case rel => exact ⟨j + 1, by omega, by go_num, by rw [Hsn.out], by trivial⟩
      case measure => simp [intOf]; omega
    · obtain rfl : j = m.wvs.length := by omega
      have htk : xa.take m.wvs.length = xa := List.take_of_length_le (by rw [Hxl.out]; exact Nat.le_refl _)
      rw [htk, Hxs.out]
      have hlc := Lib.hid (lcost_any _ m Hok.out (some ⟨S, 0, none⟩) m.wvs.length m.wvs.length l Hpl.out (perm_in Hp.out) (by unfold maxLen; omega) w6 (HV.out.ext heA) (HA.out.ext he6))
      rw [perm_cost Hp.out] at hlc
      obtain ⟨cf, hcf⟩ : ∃ cf, (Pow.costF m fun _ => true) = cf := ⟨_, rfl⟩
      rw [hcf] at hlc ⊢
      obtain ⟨k0, k1⟩ := (HM.out.ext heA).c2
      have hcc : (cf != cf) = false := by simp
      clear htk hcf
      go_wp2_with fail
      refine hlc.out.mono ?_
      rintro e w7 ⟨rfl, he7⟩
      have heB := heA.trans he7
      by_cases hw2 : m.wvs.length < 2
      · have haw := Lib.hid (awake7_any w7)
        clear hlc
        go_wp2_with fail
        refine haw.out.mono ?_
        rintro e w8 ⟨rfl, he8⟩
        go_wp2_with fail
        go_ret
        exact ⟨rfl, HE.out.trans (heB.trans he8)⟩
      · clear hlc k0 k1
        have hn0 : (m.wvs.length : Int) ≠ 0 := by omega
        obtain ⟨ii, hii⟩ : ∃ ii : Nat, n1.tmod (m.wvs.length : Int) = ii := ⟨_, (Int.toNat_of_nonneg (Int.tmod_nonneg _ hn1.1)).symm⟩
        have hil : ii < m.wvs.length := by
          have := Int.tmod_lt_of_pos n1 (show (0 : Int) < (m.wvs.length : Int) by omega)
          rw [hii] at this
          omega
        obtain ⟨kk, hkk⟩ : ∃ kk : Nat, n2.tmod (m.wvs.length : Int) = kk := ⟨_, (Int.toNat_of_nonneg (Int.tmod_nonneg _ hn2.1)).symm⟩
        have hkl : kk < m.wvs.length := by
          have := Int.tmod_lt_of_pos n2 (show (0 : Int) < (m.wvs.length : Int) by omega)
          rw [hkk] at this
          omega
        go_upto_region 18 with fail
        refine wp_region_chain 11 [] [] (by kernel_rfl) (by kernel_rfl) (by kernel_rfl) ?_
        simp only [List.take, List.drop, fill, Act.put, List.setIfInBounds_toArray, List.set_cons_zero, List.set_cons_succ, Nat.reduceAdd]
        repeat (first
          | refine Floats.mut rfl ?_
          | (apply Floats.float rfl
             · intro x W he hd K Q hK
               try (have he := he (by decide))
               try simp only [edges, DepsE, List.filter_cons, List.filter_nil, Region.binds, if_true, and_true, true_and, upd, Nat.reduceEqDiff, if_false] at hd
               try simp only [hd] at hK ⊢
               have HK := Lib.hid hK; clear hK
               go_wp2_with fail
               exact HK.out))
        refine Floats.done fun W he hG => ?_
        refine Chain.nil ?_
        simp only [upd, Nat.reduceEqDiff, if_false, if_true]
        go_upto_region 19 with fail
        go_cut [16, 17] (fun a b wx => ∃ i k : Nat, a = .int .i64 (i : Int) ∧ b = .int .i64 (k : Int) ∧ i ≤ k ∧ k < m.wvs.length ∧ W = wx)
        case first =>
          by_cases hik : ii ≤ kk
          · go_wp2_with fail
            all_goals go_meet
            all_goals refine ⟨ii, kk, ?_, ?_, hik, hkl, rfl⟩ <;> first | rfl | (show Value.int _ _ = _; congr 1; omega)
          · go_wp2_with fail
            all_goals go_meet
            all_goals refine ⟨kk, ii, ?_, ?_, by omega, hil, rfl⟩ <;> first | rfl | (show Value.int _ _ = _; congr 1; omega)
        case rest =>
          obtain ⟨i, k, rfl, rfl, hik, hk, rfl⟩ := hcut
          have hi : i < m.wvs.length := by omega
          have he0 := he
          have heB := heA.trans (he7.trans he)
          have heS := (he6.trans he7).trans he
          have r0 := (HR.out.ext heS).cell hi
          obtain ⟨wh, hwh⟩ : ∃ wh : Nat, f i = wh := by
            have h1 := Hgetl.out i hi
            have h2 := perm_in Hp.out (l[i]?.getD 0) (by rw [List.getElem?_eq_getElem (by rw [Hpl.out]; exact hi)]; exact List.getElem_mem _)
            rw [h1] at h2
            exact ⟨_, (Int.toNat_of_nonneg h2.1).symm⟩
          rw [hwh] at r0
          have hwl : wh < m.wvs.length := by
            have h1 := Hgetl.out i hi
            have h2 := perm_in Hp.out (l[i]?.getD 0) (by rw [List.getElem?_eq_getElem (by rw [Hpl.out]; exact hi)]; exact List.getElem_mem _)
            rw [h1, hwh] at h2
            omega
          have Hlw : Hid (l[i]?.getD 0 = (wh : Int)) := by unfold Hid; rw [Hgetl.out i hi, hwh]
          have hcl := cloneI (some ⟨S, 0, none⟩) m.wvs.length l W (by rw [Hpl.out]; omega) (HA.out.ext heS)
          rw [Hpl.out] at hcl
          have Hcl := Lib.hid hcl
          clear hcl hwh he hG
          go_wp2_with fail
          refine Hcl.out.mono ?_
          rintro e w8 ⟨v8, rfl, hO8, he8⟩
          have hde := Lib.hid (deleteI W.heap.size v8 l w8 hO8 (by rw [Hpl.out]; omega) i (by rw [Hpl.out]; exact hi))
          have HO8 := Lib.hid hO8
          obtain ⟨A8, c8, rfl⟩ := ownsRow_slice hO8
          clear hO8
          go_wp2_with fail
          refine hde.out.mono ?_
          rintro e w9 ⟨v9, rfl, hO9, hb9, hg9⟩
          obtain ⟨D, hD⟩ : ∃ D, l.take i ++ l.drop (i + 1) = D := ⟨_, rfl⟩
          have hyl : D.length = m.wvs.length - 1 := by rw [← hD, List.length_append, List.length_take, List.length_drop, Hpl.out]; omega
          rw [hD] at hO9
          have HD := Lib.hid hD
          clear hD
          have he9 : Ext W w9 := ext_grown0 he8 hg9 fun k hk => (HO8.out.own_lt k hk).1
          clear hde hg9 hb9
          have hX := Ext.alloc w9 (.cells #[.int .i64 (wh : Int)] 3)
          have hW9 := Blk.new w9 3 #[.int .i64 (wh : Int)]
          have hlt9 := fun b hb => (hO9.own_lt b hb).2
          have hOX := hO9.ext hX
          have heX := he9.trans hX
          obtain ⟨L9, hL9⟩ : ∃ L9, w9.heap.size = L9 := ⟨_, rfl⟩
          rw [hL9] at hW9 hlt9
          have hin := Lib.hid (insertI W.heap.size v9 D _ hOX (by have := heX.size; exact this) (by omega) k (by omega) (wh : Int) L9 1 hW9 (fun e => by have := hlt9 L9 e; omega))
          have HOX := Lib.hid hOX
          obtain ⟨A9, c9, rfl⟩ := ownsRow_slice hO9
          have Hyl := Lib.hid hyl
          clear hO9 hW9 hOX hX he9 hlt9 hyl
          go_wp2_with fail
          try rw [hL9]
          refine hin.out.mono ?_
          rintro e wA ⟨vA, rfl, hOA, hgA, -⟩
          have heA9 : Ext W wA := ext_grown0 heX hgA fun k hk => (HOX.out.own_lt k hk).1
          obtain ⟨lt, hlt⟩ : ∃ lt, laterL l i k = lt := ⟨_, rfl⟩
          have hle : D.take k ++ (wh : Int) :: D.drop k = lt := by rw [← hlt]; unfold laterL; rw [Hlw.out, HD.out]
          rw [hle] at hOA
          have hpt : PermOf m.wvs.length lt := by rw [← hlt]; exact later_perm Hp.out (by rw [Hpl.out]; exact hi) hik (by rw [Hpl.out]; exact hk)
          have hlaw : Hid (∀ x, x < m.wvs.length → (x = wh → (Pow.addsF m (natL lt))[x]?.getD 0 ≤ xa[x]?.getD 0) ∧ (x ≠ wh → xa[x]?.getD 0 ≤ (Pow.addsF m (natL lt))[x]?.getD 0)) := fun x hx => by
            have := came_law Hok.out Hp.out (i := i) (k := k) (by rw [Hpl.out]; exact hi) hik (by rw [Hpl.out]; exact hk) Hlw.out hx
            rwa [hlt, Hxa.out] at this
          have hptl := perm_len hpt
          obtain ⟨AA, cA, rfl, z1, z2, z3, -, -⟩ := hOA.open_
          rw [hptl] at z1 ⊢
          obtain ⟨xb, hxb⟩ : ∃ xb, Pow.addsF m (natL lt) = xb := ⟨_, rfl⟩
          rw [hxb] at hlaw
          have hxbl : xb.length = m.wvs.length := by rw [← hxb, addsF_len]
          have heC := heB.trans heA9
          have had := Lib.hid (Adds_any _ m AA cA m.wvs.length lt hptl 0 xb (perm_adds Hok.out hpt).2 (by rw [if_pos rfl]; exact hxb) wA (HV.out.ext heC) (by unfold maxLen; omega) z1 z3)
          obtain ⟨k0, k1⟩ := (HM.out.ext heC).c2
          clear hin hgA heX hL9 hOA hle hlt hpt hptl z3 hxb Hcl r0
          go_wp2_with fail
          refine had.out.mono ?_
          rintro e wB ⟨ub, rfl, hOB, heB9⟩
          obtain ⟨A10, c10, rfl, y1, y2, y3, -, -⟩ := hOB.open_
          rw [hxbl] at y1 ⊢
          have Hxbl := Lib.hid hxbl
          have heD := heC.trans heB9
          have heE := (heS.trans heA9).trans heB9
          obtain ⟨b4, o4, rfl, l4⟩ := HA4.out.ext (((he7.trans he0).trans heA9).trans heB9) wh (by rw [Hxl.out]; exact hwl)
          obtain ⟨b10, o10, rfl, l10⟩ := y3 wh (by rw [Hxbl.out]; exact hwl)
          have Hy3 := Lib.hid y3
          have HA4' := Lib.hid (HA4.out.ext (((he7.trans he0).trans heA9).trans heB9))
          have hcmp := (hlaw.out wh hwl).1 rfl
          obtain ⟨va, hva⟩ : ∃ va, xa[wh]?.getD 0 = va := ⟨_, rfl⟩
          obtain ⟨vb, hvb⟩ : ∃ vb, xb[wh]?.getD 0 = vb := ⟨_, rfl⟩
          rw [hva] at l4 hcmp
          rw [hvb] at l10 hcmp
          have hcd : decide (vb > va) = false := by simpa using hcmp
          clear hva hvb had hOB y3 hxbl k0 k1
          go_upto_region 23 with fail
          refine wp_region_chain 20 [] [] (by kernel_rfl) (by kernel_rfl) (by kernel_rfl) ?_
          simp only [List.take, List.drop, fill, Act.put, List.setIfInBounds_toArray, List.set_cons_zero, List.set_cons_succ, Nat.reduceAdd]
          repeat (first
            | refine Floats.mut rfl ?_
            | (apply Floats.float rfl
               · intro x W he hd K Q hK
                 try (have he := he (by decide); have l4 := he.cell l4; have l10 := he.cell l10)
                 try simp only [edges, DepsE, List.filter_cons, List.filter_nil, Region.binds, if_true, and_true, true_and, upd, Nat.reduceEqDiff, if_false] at hd
                 try simp only [hd] at hK ⊢
                 have HK := Lib.hid hK; clear hK
                 go_wp2_with fail
                 exact HK.out))
          refine Floats.done fun W he hG => ?_
          refine Chain.nil ?_
          simp only [upd, Nat.reduceEqDiff, if_false, if_true]
          go_wp2_with fail
          have heF := heD.trans he
          have HA5 := Lib.hid (HA4'.out.ext he)
          have HA6 := Lib.hid (Hy3.out.ext he)
          clear l4 l10 he hG heA heB heC heD heE heS
          go_loopw [125] (fun i wr => ∃ j : Nat, j ≤ m.wvs.length ∧ i = .int .i64 (j : Int) ∧ Ext W wr) (fun i _ => m.wvs.length - (intOf i).toNat)
          case atStart => exact ⟨0, Nat.zero_le _, rfl, Ext.refl _⟩
          case round =>
            obtain ⟨j, hj, rfl, heR⟩ := hrel
            by_cases hlt : j < m.wvs.length
            · obtain ⟨b5, o5, e5, l5⟩ := HA5.out.ext heR j (by rw [Hxl.out]; exact hlt)
              obtain ⟨b6, o6, e6, l6⟩ := HA6.out.ext heR j (by rw [Hxbl.out]; exact hlt)
              cases e5
              cases e6
              have hcj := (hlaw.out j hlt).2
              obtain ⟨va, hva⟩ : ∃ va, xa[j]?.getD 0 = va := ⟨_, rfl⟩
              obtain ⟨vb, hvb⟩ : ∃ vb, xb[j]?.getD 0 = vb := ⟨_, rfl⟩
              rw [hva] at l5 hcj
              rw [hvb] at l6 hcj
              clear hva hvb
              by_cases hjw : j = wh
              · have ht1 : ((j : Int) != (wh : Int)) = false := by simp [hjw]
                clear hcj hjw
                go_upto_region 28 with fail
                refine wp_region_chain 14 [] [] (by kernel_rfl) (by kernel_rfl) (by kernel_rfl) ?_
                simp only [List.take, List.drop, fill, Act.put, List.setIfInBounds_toArray, List.set_cons_zero, List.set_cons_succ, Nat.reduceAdd]
                repeat (first
                  | refine Floats.mut rfl ?_
                  | (apply Floats.float rfl
                     · intro x W he hd K Q hK
                       try (have he := he (by decide); have l5 := he.cell l5; have l6 := he.cell l6)
                       try simp only [edges, DepsE, List.filter_cons, List.filter_nil, Region.binds, if_true, and_true, true_and, upd, Nat.reduceEqDiff, if_false] at hd
                       try simp only [hd] at hK ⊢
                       have HK := Lib.hid hK; clear hK
                       go_wp2_with fail
                       exact HK.out))
                refine Floats.done fun W he hG => ?_
                refine Chain.nil ?_
                simp only [upd, Nat.reduceEqDiff, if_false, if_true]
                go_wp2_with fail
                go_roundw
                case rel => exact ⟨j + 1, by omega, by go_num, heR.trans he⟩
                case measure => simp [intOf]; omega
              · have ht1 : ((j : Int) != (wh : Int)) = true := by simp; omega
                have ht2 : decide (vb < va) = false := by simpa using hcj hjw
                clear hcj hjw
                go_upto_region 28 with fail
                refine wp_region_chain 14 [] [] (by kernel_rfl) (by kernel_rfl) (by kernel_rfl) ?_
                simp only [List.take, List.drop, fill, Act.put, List.setIfInBounds_toArray, List.set_cons_zero, List.set_cons_succ, Nat.reduceAdd]
                repeat (first
                  | refine Floats.mut rfl ?_
                  | (apply Floats.float rfl
                     · intro x W he hd K Q hK
                       try (have he := he (by decide); have l5 := he.cell l5; have l6 := he.cell l6)
                       try simp only [edges, DepsE, List.filter_cons, List.filter_nil, Region.binds, if_true, and_true, true_and, upd, Nat.reduceEqDiff, if_false] at hd
                       try simp only [hd] at hK ⊢
                       have HK := Lib.hid hK; clear hK
                       go_wp2_with fail
                       exact HK.out))
                refine Floats.done fun W he hG => ?_
                refine Chain.nil ?_
                simp only [upd, Nat.reduceEqDiff, if_false, if_true]
                go_wp2_with fail
                go_roundw
                case rel => exact ⟨j + 1, by omega, by go_num, heR.trans he⟩
                case measure => simp [intOf]; omega
            · have haw := Lib.hid (awake7_any wr)
              go_wp2_with fail
              refine haw.out.mono ?_
              rintro e w8 ⟨rfl, he8⟩
              go_wp2_with fail
              go_ret
              exact ⟨rfl, HE.out.trans (heF.trans (heR.trans he8))⟩
end Go.Proofs.Pet
