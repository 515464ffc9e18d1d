/-
  PowerSeen walked.
-/
import Derived.Test.YtjlglbhafopomaaGreatPD7
namespace Go.Proofs.Pet
set_option linter.unusedSimpArgs false
open Go Go.RowKit Go.Maps Go.Shelf
open Go.Proofs.Pow (PM Sh Wv POk Up sightF explB hitL clrB clashB)

theorem groups64 (k : Nat) (hk : k ≤ 6) : (groupsI k).length ≤ 64 := by
  have : ∀ k : Fin 7, (Pow.groupsF k).length ≤ 64 := by decide
  have := this ⟨k, by omega⟩
  unfold groupsI
  rw [List.length_map]
  exact this
theorem slip_sure {m : PM} (hm : POk m) {l : List Int} (hs : sightE m l = 0) : slipE m l = (if clashB m (sightF l) then 7 else 0) ∧ sureE m l = (if clashB m (sightF l) then 7 else 0) := by
  constructor
  · unfold slipE
    rw [if_neg (by rw [hs]; decide)]
    have h := Pow.slipped_none (s := sightF l) hm.up hm.at_
    cases hc : clashB m (sightF l) with
    | true => rw [h.2 hc]; rfl
    | false =>
      cases hf : Pow.firstF m.shafts.length (explB m (sightF l)) with
      | none => rw [h.1 hf] at hc; cases hc
      | some x => rfl
  · unfold sureE
    rw [if_neg (by rw [hs]; decide)]
/-- what one sight less does -/
structure LessP (m : PM) (l l' : List Int) (c c' : Bool) (a b x y : List Int) : Prop where
  s0 : sightE m l = 0
  s1 : sightE m l' = 0
  c0 : clashB m (sightF l) = c
  c1 : clashB m (sightF l') = c'
  a_ : slipL m l' = a
  b_ : slipL m l = b
  x_ : sureV m l' = x
  y_ : sureV m l = y
  cc : c = false → c' = false
  len : c = false → a.length ≤ b.length
  sub : c = false → ∀ v, v ∈ x → v ∈ y
  lens : a.length ≤ 9 ∧ b.length ≤ 9 ∧ x.length ≤ 6 ∧ y.length ≤ 6
theorem less_all {m : PM} (hm : POk m) {l : List Int} {k : Nat} (hl : l.length = m.wvs.length) (hb : ∀ x, x ∈ l → 0 ≤ x ∧ x ≤ 2) : ∃ c c' a b x y, LessP m l (l.set k 0) c c' a b x y := by
  have hb' : ∀ x, x ∈ l.set k 0 → 0 ≤ x ∧ x ≤ 2 := fun x hx => by
    rcases List.mem_or_eq_of_mem_set hx with h | h
    · exact hb x h
    · omega
  have hs := sight_ok hm hl hb
  have hs' := sight_ok hm (l := l.set k 0) (by simpa using hl) hb'
  have hF : ∀ j, sightF (l.set k 0) j = sightF l j ∨ sightF (l.set k 0) j = 0 := fun j => by
    unfold sightF
    rw [List.getElem?_set]
    by_cases e : k = j
    · subst e
      rw [if_pos rfl]
      split
      · exact .inr rfl
      · exact .inr rfl
    · rw [if_neg e]; exact .inl rfl
  have hsl : ∀ t : List Int, (slipL m t).length ≤ m.shafts.length := fun t => by
    unfold slipL
    split
    · simp
    · rw [ints_length]
      cases hf : Pow.firstF m.shafts.length (explB m (sightF t)) with
      | none => simp
      | some z => have := Pow.up_len (Pow.firstF_some.1 hf).2.1; simpa using this
  have hsv : ∀ t : List Int, (sureV m t).length ≤ m.wvs.length := fun t => by
    unfold sureV
    split
    · exact Pow.sureC_len
    · simp
  have hz := hm.sz
  have hf := hm.few
  refine ⟨_, _, _, _, _, _, hs, hs', rfl, rfl, rfl, rfl, rfl, rfl, fun hc => (Pow.seen_less hm hF hc).1, fun hc => ?_, fun hc v hv => ?_, ⟨by have := hsl (l.set k 0); omega, by have := hsl l; omega, by have := hsv (l.set k 0); omega, by have := hsv l; omega⟩⟩
  · obtain ⟨h1, h2, -⟩ := Pow.seen_less hm hF hc
    unfold slipL
    rw [if_neg (by rw [hs']; decide), if_neg (by rw [hs]; decide), ints_length, ints_length]
    cases ha : Pow.firstF m.shafts.length (explB m (sightF (l.set k 0))) with
    | none => simp
    | some a =>
      cases hb2 : Pow.firstF m.shafts.length (explB m (sightF l)) with
      | none => rw [(Pow.slipped_none hm.up hm.at_).1 hb2] at hc; cases hc
      | some b => exact h2 a b ha hb2
  · obtain ⟨h1, -, h3⟩ := Pow.seen_less hm hF hc
    unfold sureV at hv ⊢
    rw [if_pos (by rw [(slip_sure hm hs').2, h1]; rfl)] at hv
    rw [if_pos (by rw [(slip_sure hm hs).2, hc]; rfl)]
    exact Pow.mem_sureC.2 (h3 v (Pow.mem_sureC.1 hv))
set_option maxRecDepth 100000 in
set_option maxHeartbeats 16000000 in
theorem powerSeen_any (v v2 : Value) (n1 : Int) (w : World) (hv : BytesIn w v) (hv2 : BytesIn w v2) (hn1 : 0 ≤ n1 ∧ n1 < 256) :
    Calls Tryz.prog 3 #[v, v2, .int .u8 n1] w fun e w' => e = .returned (.bool true) ∧ Ext w w' := by
  have hmf : ∀ (fn : Fn) (first cap : Array Value) (w : World), (Instr.makeFunc fn first cap).run Tryz.prog w = .ok (.func fn first cap) w := fun _ _ _ _ => rfl
  have hwo := Lib.hid (wound_any v w hv)
  have Hv2 := Lib.hid hv2
  clear hv hv2
  go_enter Tryz.func3, Tryz.ntmps3
  go_wp2_with fail
  refine hwo.out.mono ?_
  rintro e w1 ⟨rfl, hs1, he1⟩
  clear hwo
  have hma := Lib.hid (made7_any w.heap.size 0 (by omega) 6 (by omega) w1 hs1)
  go_wp2_with fail
  refine hma.out.mono ?_
  rintro e w2 ⟨mv, m, rfl, hO, hok, -, -, hap⟩
  have hE := Apart.ext_of he1 (Nat.le_refl _) hap
  have hml := hok.1.few
  have hms := hok.1.sz
  have hval := hO.val
  obtain ⟨A1, c1, A2, c2, rfl, q1, q2, q3, q4, q5, q6⟩ := hO.val
  have hM := Blk.new w2 26 #[.slice A1 m.shafts.length c1, .slice A2 m.wvs.length c2]
  have hX := Ext.alloc w2 (.cells #[.slice A1 m.shafts.length c1, .slice A2 m.wvs.length c2] 26)
  have HV := Lib.hid (hval.ext hX)
  have hMw := hM
  have Hok := Lib.hid hok.1
  have hE' := hE.trans hX
  have hbi := Lib.hid (wound_any v2 _ (Hv2.out.ext hE'))
  have HE := Lib.hid hE'
  obtain ⟨M, hMe⟩ : ∃ M, w2.heap.size = M := ⟨_, rfl⟩
  rw [hMe] at hMw
  have HM := Lib.hid hMw
  clear hma hs1 he1 hap hok hval hO hM hMw hX hE hE' q1 q2 q3 q4 q5 q6 Hv2
  go_upto_region 2 with fail
  try rw [hMe]
  clear hMe
  generalize w2.alloc _ = w3 at *
  go_wp2_with fail
  refine hbi.out.mono ?_
  rintro e w4 ⟨rfl, hs4, he4⟩
  obtain ⟨B, hB⟩ : ∃ B, w3.heap.size = B := ⟨_, rfl⟩
  have hBl : w3.heap.size ≤ B := by omega
  rw [hB] at hs4 ⊢
  have hMB : M < B := by have := HM.out.lt; omega
  obtain ⟨k0, k1⟩ := (HM.out.ext he4).c2
  have hst := Lib.hid (stopped_any B 0 (by omega) _ m Hok.out w4 hs4 fun W' ha => HV.out.ext (Apart.ext_of he4 hBl ha))
  have hs4l := hs4.lt
  clear hbi hB hs4
  go_wp2_with fail
  refine hst.out.mono ?_
  rintro e w5 ⟨u1, u2, l0, real, rfl, hO1, -, hll, hsw, -, hs5, hap⟩
  have heB := Apart.ext_of he4 hBl hap
  have hsz5 := hap.size
  obtain ⟨AS, cS, rfl, t1, t2, t3, -, -⟩ := hO1.open_
  rw [hll] at t1 ⊢
  have hX := Ext.alloc w5 (.cells #[.slice AS m.wvs.length cS] 30)
  have hS := Blk.new w5 30 #[.slice AS m.wvs.length cS]
  have hsX := hs5.ext hX
  have hOX := hO1.ext hX
  have heC := heB.trans hX
  have hsS := hs5.lt
  obtain ⟨Sb, hSb⟩ : ∃ Sb, w5.heap.size = Sb := ⟨_, rfl⟩
  rw [hSb] at hS hsS
  have HM5 := Lib.hid (HM.out.ext heC)
  have Hin := Lib.hid hsw.in_
  have HS := Lib.hid hS; have HsX := Lib.hid hsX; have HOX := Lib.hid hOX
  have heS := hS.c1
  have hw3S : w3.heap.size ≤ Sb := by have := heB.size; omega
  clear hst hap heB he4 k0 k1 hO1 hs5 hX t3 hsw hS hsX hOX
  go_upto_region 4 with fail
  try rw [hSb]
  clear hSb
  generalize w5.alloc _ = w6 at *
  by_cases hW0 : m.wvs.length = 0
  · have haw := Lib.hid (awake7_any w6)
    have ht : ((m.wvs.length : Int) == 0) = true := by simp [hW0]
    clear hW0
    go_wp2_with fail
    refine haw.out.mono ?_
    rintro e w7 ⟨rfl, he7⟩
    go_wp2_with fail
    go_ret
    exact ⟨rfl, HE.out.trans (heC.trans he7)⟩
  · have ht : ((m.wvs.length : Int) == 0) = false := beq_eq_false_iff_ne.2 (by omega)
    have hW : 0 < m.wvs.length := by omega
    obtain ⟨g, cg, eg, hgB, hSR, hcg⟩ := HOX.out.srow hll hW
    simp only [Value.slice.injEq] at eg
    obtain ⟨rfl, -, rfl⟩ := eg
    have hon := Lib.hid (once_any B _ (by omega) 2 (by omega) w6 HsX.out)
    have HSR := Lib.hid hSR
    clear hW0 HOX hSR
    have hgB2 : B < g := by omega
    go_wp2_with fail
    refine hon.out.mono ?_
    rintro e w7 ⟨q, rfl, hs7, ha7⟩
    have he7 := Apart.ext_of heC hBl ha7
    have HS7 := Lib.hid (HS.out.apart (by omega) ha7)
    have HM7 := Lib.hid (HM5.out.apart (by omega) ha7)
    have HR7 := Lib.hid (HSR.out.apart (by omega) ha7)
    have Hs7 := Lib.hid hs7
    have Hl := Lib.hid hll
    clear hon heC HS HM5 HSR hs7 HsX ha7 heS hll
    go_upto_if 44 with fail
    go_cut [] (fun wx => ∃ l : List Int, Hid (∀ x, x ∈ l → 0 ≤ x ∧ x ≤ 2) ∧ Hid (l.length = m.wvs.length) ∧ Hid (IntsAt wx (some ⟨g, 0, none⟩) l) ∧ Hid (Blk wx Sb 30 #[.slice (some ⟨g, 0, none⟩) m.wvs.length cS]) ∧ Hid (Blk wx M 26 #[.slice A1 m.shafts.length c1, .slice A2 m.wvs.length c2]) ∧ Ext w3 wx)
    case first =>
      -- <<F
      as_aux_lemma =>
      cases q with
      | false =>
        go_wp2_with fail
        go_meet
        exact ⟨l0, Hin, Hl, HR7.out.ints, HS7, HM7, he7⟩
      | true =>
        go_upto_region 7 with fail
        have hcS : Hid (∀ W, Apart B w7 W → W.cell? ⟨Sb, 0, none⟩ = some (.slice (some ⟨g, 0, none⟩) m.wvs.length cS)) := fun W ha => (HS7.out.apart (by omega) ha).c1
        clear ht
        refine wp_region_treeG (Apart B w7) (Apart.of_ext (Ext.drew _)) 8 [(5, true), (7, true)] [] (by kernel_rfl) (by kernel_rfl) (by kernel_rfl) (ds := [0, 1, 2, 3, 4, 6]) (by kernel_rfl) ?_
        simp only [List.take, List.drop, fill, Act.put, List.setIfInBounds_toArray, List.set_cons_zero, List.set_cons_succ, Nat.reduceAdd]
        repeat (first
          | (apply Unlock.float rfl
             · intro x W he hd K Qr hK
               try (have he := he (by decide); have hcW := hcS.out _ he)
               try simp only [edges, DepsE, List.filter_cons, List.filter_nil, Region.binds, if_true, and_true, true_and, upd, Nat.reduceEqDiff, if_false] at hd
               try simp only [hd] at hK ⊢
               have HK := Lib.hid hK; clear hK
               go_wp2_with fail
               exact HK.out))
        refine Unlock.nil ?_
        intro W he hG
        have hsW := Hs7.out.ext he
        refine Tree.next (ks := [(5, true)]) (by kernel_rfl) ?_
        refine TSteps.cons _ rfl ?_ trivial
        intro x hd K Qr hK
        try simp only [edges, DepsE, List.filter_cons, List.filter_nil, Region.binds, if_true, and_true, true_and, upd, Nat.reduceEqDiff, if_false] at hd
        try simp only [hd] at hK ⊢
        clear hd
        have HK := Lib.hid hK; clear hK
        have hu := Lib.hid (upto_any B _ (by omega) ((m.wvs.length : Int) - 1) (by omega) ((m.wvs.length : Int) - 1) (by omega) W hsW)
        clear hsW he
        go_wp2_with fail
        refine hu.out.mono ?_
        rintro e w8 ⟨a', rfl, ha0, ha1, hs8, ha8⟩
        obtain ⟨a, rfl⟩ : ∃ a : Nat, a' = a := ⟨a'.toNat, by omega⟩
        have hal : a < m.wvs.length := by omega
        replace ha8 := hG.trans ha8
        have Hs8 := Lib.hid hs8
        clear hu hG ha0 ha1 hs8
        go_wp2_with fail
        refine HK.out _ _ (fun _ => ha8) ?_
        clear HK
        refine Unlock.of (ds := []) (by kernel_rfl) ?_
        repeat (first
          | (apply Unlock.float rfl
             · intro x W he hd K Qr hK
               try (have he := he (by decide))
               try simp only [edges, DepsE, List.filter_cons, List.filter_nil, Region.binds, if_true, and_true, true_and, upd, Nat.reduceEqDiff, if_false] at hd
               try simp only [hd] at hK ⊢
               have HK := Lib.hid hK; clear hK
               go_wp2_with fail
               exact HK.out))
        refine Unlock.nil ?_
        refine Tree.next (ks := [(7, true)]) (by kernel_rfl) ?_
        refine TSteps.cons _ rfl ?_ trivial
        intro x hd K Qr hK
        try simp only [edges, DepsE, List.filter_cons, List.filter_nil, Region.binds, if_true, and_true, true_and, upd, Nat.reduceEqDiff, if_false] at hd
        try simp only [hd] at hK ⊢
        clear hd
        have HK := Lib.hid hK; clear hK
        have hu2 := Lib.hid (upto_any B _ (by omega) 2 (by omega) 2 (by omega) w8 Hs8.out)
        go_wp2_with fail
        refine hu2.out.mono ?_
        rintro e w9 ⟨y, rfl, hy0, hy2, -, ha9⟩
        have haA := ha8.trans ha9
        clear hu2 ha8 ha9
        go_wp2_with fail
        refine HK.out _ _ (fun _ => haA) ?_
        clear HK
        refine Unlock.of (ds := []) (by kernel_rfl) ?_
        repeat (first
          | (apply Unlock.float rfl
             · intro x W he hd K Qr hK
               try (have he := he (by decide))
               try simp only [edges, DepsE, List.filter_cons, List.filter_nil, Region.binds, if_true, and_true, true_and, upd, Nat.reduceEqDiff, if_false] at hd
               try simp only [hd] at hK ⊢
               have HK := Lib.hid hK; clear hK
               go_wp2_with fail
               exact HK.out))
        refine Unlock.nil ?_
        refine Tree.nil (by kernel_rfl) ?_
        simp only [upd, Nat.reduceEqDiff, if_false, if_true]
        have hRA := HR7.out.apart (by omega) haA
        obtain ⟨r1, r2⟩ := hRA.cell hal
        have hRB := Lib.hid ((hRA.set_ hal y).ints)
        have hSB := Lib.hid ((HS7.out.apart (by omega) haA).far (p := ⟨g, a, none⟩) (by show Sb ≠ g; have := HR7.out.lt; intro e; subst e; have h1 := HS7.out; obtain ⟨cs, h2, -⟩ := HR7.out; have := h1.symm.trans h2; cases this) (.int .i64 y))
        have hMB2 := Lib.hid ((HM7.out.apart (by omega) haA).far (p := ⟨g, a, none⟩) (by show M ≠ g; omega) (.int .i64 y))
        have heBB := Lib.hid (Below.setCell (Apart.ext_of he7 hBl haA) (p := ⟨g, a, none⟩) (by show _ ≤ g; omega) (.int .i64 y))
        clear hRA haA HR7 HS7 HM7 he7 hcS
        go_wp2_with fail
        go_meet
        refine ⟨l0.set a y, fun x hx => ?_, ?_, hRB, hSB, hMB2, heBB.out⟩
        · rcases List.mem_or_eq_of_mem_set hx with h | h
          · exact Hin.out x h
          · omega
        · unfold Hid; rw [List.length_set]; exact Hl.out
      -- >>
    case rest =>
      clear HR7 HS7 HM7 he7 Hs7 Hin Hl
      obtain ⟨l, hin, hll, hA, hS, hM, he⟩ := hcut
      obtain ⟨kk, hkk⟩ : ∃ kk : Nat, n1.tmod (m.wvs.length : Int) = kk := ⟨_, (Int.toNat_of_nonneg (Int.tmod_nonneg _ hn1.1)).symm⟩
      have hkl : kk < m.wvs.length := by
        have := Int.tmod_lt_of_pos n1 (show (0 : Int) < (m.wvs.length : Int) by omega)
        rw [hkk] at this
        omega
      have hn0 : (m.wvs.length : Int) ≠ 0 := by omega
      obtain ⟨c, c', a, b, x, y, hP⟩ := less_all Hok.out (k := kk) hll.out hin.out
      have HP := Lib.hid hP
      have hcl := cloneS (some ⟨g, 0, none⟩) cS l wc (by rw [hll.out]; omega) hA.out
      rw [hll.out] at hcl
      have Hcl := Lib.hid hcl
      have e0 := hS.out.c1
      clear hcl hP hin ht
      go_wp2_with fail
      refine Hcl.out.mono ?_
      rintro e w8 ⟨v8, rfl, hO8, he8⟩
      obtain ⟨g8, c8, rfl, hg8, hR8, hc8⟩ := hO8.srow hll.out hW
      obtain ⟨r1, r2⟩ := hR8.cell hkl
      have hR9 := (hR8.set_ hkl 0).ints
      have he9 : Ext wc (w8.setCell ⟨g8, kk, none⟩ (.int .i64 0)) := Below.setCell he8 (p := ⟨g8, kk, none⟩) (by show _ ≤ g8; omega) (.int .i64 0)
      have HA9 := Lib.hid (hA.out.ext he9); have HS9 := Lib.hid (hS.out.ext he9); have HM9 := Lib.hid (hM.out.ext he9); have HL9 := Lib.hid hR9
      have heD := he.trans he9
      have Hl' := Lib.hid (show (l.set kk 0).length = m.wvs.length by rw [List.length_set]; exact hll.out)
      clear Hcl hO8 he8 hR8 hR9 he9 hA hS hM he e0 hkk
      go_upto_region 11 with fail
      clear r1 r2
      generalize w8.setCell _ _ = w9 at *
      obtain ⟨h1, h2⟩ := slip_sure Hok.out HP.out.s1
      obtain ⟨h3, h4⟩ := slip_sure Hok.out HP.out.s0
      rw [HP.out.c1] at h1 h2
      rw [HP.out.c0] at h3 h4
      obtain ⟨E', hE'⟩ : ∃ E' : Int, (if c' then 7 else 0) = E' := ⟨_, rfl⟩
      obtain ⟨E, hEe⟩ : ∃ E : Int, (if c then 7 else 0) = E := ⟨_, rfl⟩
      rw [hE'] at h1 h2
      rw [hEe] at h3 h4
      obtain ⟨z1, z2, z3, z4⟩ := HP.out.lens
      obtain ⟨an, han⟩ : ∃ an, a.length = an := ⟨_, rfl⟩
      obtain ⟨bn, hbn⟩ : ∃ bn, b.length = bn := ⟨_, rfl⟩
      obtain ⟨xn, hxn⟩ : ∃ xn, x.length = xn := ⟨_, rfl⟩
      obtain ⟨yn, hyn⟩ : ∃ yn, y.length = yn := ⟨_, rfl⟩
      rw [han] at z1; rw [hbn] at z2; rw [hxn] at z3; rw [hyn] at z4
      have H2 := Lib.hid h2; have H3 := Lib.hid h3; have H4 := Lib.hid h4; have HE' := Lib.hid hE'; have HEe := Lib.hid hEe
      have Han := Lib.hid han; have Hbn := Lib.hid hbn; have Hxn := Lib.hid hxn; have Hyn := Lib.hid hyn
      have hm1 : m.wvs.length ≤ maxLen := by unfold maxLen; omega
      have hx1 := Lib.hid (Slipped_any _ m (some ⟨g8, 0, none⟩) c8 m.wvs.length (l.set kk 0) Hl'.out E' a h1 HP.out.a_ w9 (HV.out.ext heD) hm1 HL9.out)
      obtain ⟨k0, k1⟩ := HM9.out.c2
      clear h1 h2 h3 h4 hE' hEe han hbn hxn hyn hkl
      go_wp2_with fail
      refine hx1.out.mono ?_
      rintro e wA ⟨ua, rfl, hOa, heA⟩
      obtain ⟨AA, cA, rfl, -, -, -, -, -⟩ := hOa.open_
      rw [Han.out]
      have heE := heD.trans heA
      obtain ⟨k0', k1'⟩ := (HM9.out.ext heA).c2
      have e0 := (HS9.out.ext heA).c1
      have hx2 := Lib.hid (Slipped_any _ m (some ⟨g, 0, none⟩) cS m.wvs.length l hll.out E b H3.out HP.out.b_ wA (HV.out.ext heE) hm1 (HA9.out.ext heA))
      clear hx1 k0 k1 hOa
      go_wp2_with fail
      refine hx2.out.mono ?_
      rintro e wB ⟨ub, rfl, hOb, heB⟩
      obtain ⟨AB, cB, rfl, -, -, -, -, -⟩ := hOb.open_
      rw [Hbn.out]
      have heF := heE.trans heB
      have heAB := heA.trans heB
      obtain ⟨k0, k1⟩ := (HM9.out.ext heAB).c2
      have hx3 := Lib.hid (Surely_any _ m (some ⟨g8, 0, none⟩) c8 m.wvs.length (l.set kk 0) Hl'.out E' x H2.out HP.out.x_ wB (HV.out.ext heF) hm1 (HL9.out.ext heAB))
      clear hx2 k0' k1' hOb e0 heE heA heB
      go_wp2_with fail
      refine hx3.out.mono ?_
      rintro e wC ⟨ux, rfl, hOx, heC⟩
      obtain ⟨AX, cX, rfl, -, -, w3x, -, -⟩ := hOx.open_
      rw [Hxn.out]
      have heG := heF.trans heC
      have heAC := heAB.trans heC
      obtain ⟨k0', k1'⟩ := (HM9.out.ext heAC).c2
      have e0 := (HS9.out.ext heAC).c1
      have HX := Lib.hid w3x
      have hx4 := Lib.hid (Surely_any _ m (some ⟨g, 0, none⟩) cS m.wvs.length l hll.out E y H4.out HP.out.y_ wC (HV.out.ext heG) hm1 (HA9.out.ext heAC))
      clear hx3 k0 k1 hOx w3x heF heAB
      go_wp2_with fail
      refine hx4.out.mono ?_
      rintro e wD ⟨uy, rfl, hOy, heDD⟩
      obtain ⟨AY, cY, rfl, -, -, w3y, -, -⟩ := hOy.open_
      rw [Hyn.out]
      have heH := heG.trans heDD
      have heAD := heAC.trans heDD
      have HXD := Lib.hid (HX.out.ext heDD); have HYD := Lib.hid w3y
      have HAD := Lib.hid (HA9.out.ext heAD); have HSD := Lib.hid (HS9.out.ext heAD); have HMD := Lib.hid (HM9.out.ext heAD)
      have e1 := HSD.out.c1
      clear hx4 k0' k1' hOy w3y heG heAC e0 HX HA9 HS9 HM9 HL9 heD heAD heDD heC H2 H3 H4
      go_wp2_with fail
      go_loopw [21, 90] (fun q i wr => ∃ j : Nat, j ≤ m.wvs.length ∧ i = .int .i64 (j : Int) ∧ q = .bool (Pow.clashT m (sightF l) j) ∧ Ext wD wr) (fun _ i _ => m.wvs.length - (intOf i).toNat)
      case atStart => exact ⟨0, Nat.zero_le _, rfl, rfl, Ext.refl _⟩
      case round =>
        clear e1
        obtain ⟨j, hj, rfl, rfl, he⟩ := hrel
        by_cases hlt : j < m.wvs.length
        · -- <<L
          as_aux_lemma =>
          obtain ⟨b1, o1, e1, l1⟩ := HAD.out.ext he j (by rw [hll.out]; exact hlt)
          cases e1
          rw [Nat.zero_add] at l1
          obtain ⟨cb, hcb⟩ : ∃ cb, Pow.clashT m (sightF l) j = cb := ⟨_, rfl⟩
          have hcs := Pow.clashT_succ m (sightF l) j
          obtain ⟨sj, hsj⟩ : ∃ sj, l[j]?.getD 0 = sj := ⟨_, rfl⟩
          rw [hsj] at l1
          rw [hcb, show sightF l j = sj from hsj] at hcs
          rw [hcb]
          have hfo := Pow.freeT_opn Hok.out (sightF l) hlt
          have Hcs := Lib.hid hcs; have Hfo := Lib.hid hfo
          obtain ⟨k0, k1⟩ := (HMD.out.ext he).c2
          clear hcs hfo hcb hsj
          go_wp2_with fail
          go_loopw [24, 98] (fun q i wr => ∃ t : Nat, t ≤ m.shafts.length ∧ i = .int .i64 (t : Int) ∧ q = .bool (Pow.freeT m (sightF l) j t) ∧ Ext wD wr) (fun _ i _ => m.shafts.length - (intOf i).toNat)
          case atStart => exact ⟨0, Nat.zero_le _, rfl, rfl, he⟩
          case round =>
            clear he k0 k1 l1
            obtain ⟨t, ht, rfl, rfl, he⟩ := hrel
            by_cases hlt2 : t < m.shafts.length
            · have hX := Ext.alloc wr (.cells #[.int .i64 (t : Int)] 3)
              have hK := Blk.new wr 3 #[.int .i64 (t : Int)]
              have heX := he.trans hX
              have hfs := Pow.freeT_succ m (sightF l) j t
              obtain ⟨ft, hft⟩ : ∃ ft, Pow.freeT m (sightF l) j t = ft := ⟨_, rfl⟩
              obtain ⟨p, hp⟩ : ∃ p, m.drv t j = p := ⟨_, rfl⟩
              obtain ⟨q, hq⟩ : ∃ q, clrB m (sightF l) t = q := ⟨_, rfl⟩
              rw [hft, hp, hq] at hfs
              rw [hft]
              have hd := Lib.hid (drives_any _ m Hok.out t j hlt p hp _ (HV.out.ext (heH.trans heX)))
              have hgr := Lib.hid (fun W (heW : Ext (wr.alloc (.cells #[.int .i64 (t : Int)] 3)) W) => groups_any _ m hml W (HV.out.ext ((heH.trans heX).trans heW)))
              have hca : Hid (∀ W (heW : Ext (wr.alloc (.cells #[.int .i64 (t : Int)] 3)) W) (AG : Option Addr) (cG gn : Nat), gn = (groupsI m.wvs.length).length → RowsI W (.slice AG gn cG) (groupsI m.wvs.length) →
                  Calls Tryz.prog 27 #[.slice AG gn cG, .func (.func 29) #[] #[.pointer (some ⟨Sb, 0, none⟩), .pointer (some ⟨M, 0, none⟩), .pointer (some ⟨wr.heap.size, 0, none⟩)]] W fun e w' => e = .returned (.bool q) ∧ Ext W w') := by
                intro W heW AG cG gn hgn hR
                refine containsFuncR 29 #[] _ (enters_of Tryz.func29 (by kernel_rfl) rfl) (fun L => Pow.ranB m (sightF l) t (natL L)) AG cG gn _ hgn.symm q ?_ W (by rw [hgn]; have := groups64 m.wvs.length hml; omega) hR fun L hL => ?_
                · rw [← hq, ← Pow.ran_any]
                  unfold groupsI
                  rw [List.any_map]
                  congr 1
                  funext gg
                  show Pow.ranB m (sightF l) t (natL (ints gg)) = _
                  rw [natL_ints]
                · obtain ⟨gg, hgg, rfl⟩ := List.mem_map.1 hL
                  rw [natL_ints]
                  exact seen1_any Sb M _ m.wvs.length _ cS _ _ m Hok.out l hll.out rfl t gg ((Pow.mem_groupsF _ _).1 hgg) W (HV.out.ext ((heH.trans heX).trans heW)) (HSD.out.ext (heX.trans heW)) (HMD.out.ext (heX.trans heW)) (hK.ext heW) (HAD.out.ext (heX.trans heW))
              obtain ⟨k0, k1⟩ := (HMD.out.ext heX).c2
              have f0 := hK.c1
              have Hfs := Lib.hid hfs
              have HK1 := Lib.hid hK
              clear hfs hp hq hft hX hK
              cases ft with
              | true =>
                clear hd hgr hca
                go_wp2_with fail
                go_roundw
                case rel => exact ⟨t + 1, by omega, by go_num, by rw [Hfs.out]; rfl, heX⟩
                case measure => simp [intOf]; omega
              | false =>
                go_wp2_with fail
                refine hd.out.mono ?_
                rintro e w6 ⟨rfl, he6⟩
                obtain ⟨k0', k1'⟩ := (HMD.out.ext (heX.trans he6)).c2
                cases p with
                | false =>
                  clear hd hgr hca k0 k1 f0
                  go_wp2_with fail
                  go_roundw
                  case rel => exact ⟨t + 1, by omega, by go_num, by rw [Hfs.out]; rfl, heX.trans he6⟩
                  case measure => simp [intOf]; omega
                | true =>
                  have hgr2 := Lib.hid (hgr.out w6 he6)
                  clear hd hgr k0 k1 f0
                  go_wp2_with fail
                  refine hgr2.out.mono ?_
                  rintro e w7 ⟨gv, rfl, hG, heG⟩
                  obtain ⟨AG, cG, rfl, -, -, -, -⟩ := hG.open_
                  have hR := hG.rows
                  obtain ⟨gn, hgn⟩ : ∃ gn, (groupsI m.wvs.length).length = gn := ⟨_, rfl⟩
                  rw [hgn] at hR ⊢
                  have hcf := Lib.hid (hca.out w7 (he6.trans heG) AG cG gn hgn.symm hR)
                  clear hgr2 hca hG hR hgn
                  go_wp2_with fail
                  refine hcf.out.mono ?_
                  rintro e w8 ⟨rfl, he8⟩
                  clear hcf
                  cases q with
                  | true =>
                    go_wp2_with fail
                    go_roundw
                    case rel => exact ⟨t + 1, by omega, by go_num, by rw [Hfs.out]; rfl, (heX.trans he6).trans (heG.trans he8)⟩
                    case measure => simp [intOf]; omega
                  | false =>
                    go_wp2_with fail
                    go_roundw
                    case rel => exact ⟨t + 1, by omega, by go_num, by rw [Hfs.out]; rfl, (heX.trans he6).trans (heG.trans he8)⟩
                    case measure => simp [intOf]; omega
            · obtain rfl : t = m.shafts.length := by omega
              rw [Hfo.out]
              obtain ⟨em, hem⟩ : ∃ em, (Pow.opnS m (sightF l) j).isEmpty = em := ⟨_, rfl⟩
              have hcs := Hcs.out
              rw [hem] at hcs ⊢
              obtain ⟨sq, hsq⟩ : ∃ sq, decide (sj = 2) = sq := ⟨_, rfl⟩
              have hsq2 : (sj == 2) = sq := by rw [← hsq]; rfl
              rw [hsq] at hcs
              have Hcs2 := Lib.hid hcs
              clear hcs Hcs Hfo hem hsq
              cases cb with
              | true =>
                clear hsq2
                go_wp2_with fail
                go_roundw
                case rel => exact ⟨j + 1, by omega, by go_num, by rw [Hcs2.out]; rfl, he⟩
                case measure => simp [intOf]; omega
              | false =>
                cases sq with
                | false =>
                  go_wp2_with fail
                  go_roundw
                  case rel => exact ⟨j + 1, by omega, by go_num, by rw [Hcs2.out]; rfl, he⟩
                  case measure => simp [intOf]; omega
                | true =>
                  cases em with
                  | false =>
                    simp only [Bool.not_false]
                    go_wp2_with fail
                    go_roundw
                    case rel => exact ⟨j + 1, by omega, by go_num, by rw [Hcs2.out]; rfl, he⟩
                    case measure => simp [intOf]; omega
                  | true =>
                    simp only [Bool.not_true]
                    go_wp2_with fail
                    go_roundw
                    case rel => exact ⟨j + 1, by omega, by go_num, by rw [Hcs2.out]; rfl, he⟩
                    case measure => simp [intOf]; omega
          -- >>
        · -- <<M
          as_aux_lemma =>
          obtain rfl : j = m.wvs.length := by omega
          rw [Pow.clashT_full, HP.out.c0]
          have haw := Lib.hid (awake7_any wr)
          cases c with
          | true =>
            have hE7 : E = 7 := HEe.out.symm
            subst hE7
            have hEE : (E' != E') = false := by simp
            clear HEe HE' hlt hj
            go_wp2_with fail
            refine haw.out.mono ?_
            rintro e w6 ⟨rfl, he6⟩
            go_wp2_with fail
            go_ret
            exact ⟨rfl, HE.out.trans ((heH.trans he).trans he6)⟩
          | false =>
            have hE0 : E = 0 := HEe.out.symm
            have hc' := HP.out.cc rfl
            have hE1 : E' = 0 := by rw [← HE'.out, hc']; rfl
            have hab := HP.out.len rfl
            rw [Han.out, Hbn.out] at hab
            have Hsub := Lib.hid (HP.out.sub rfl)
            subst hE0 hE1
            clear HEe HE' hlt hj hc'
            go_wp2_with fail
            go_loopw [161] (fun i wq => ∃ t : Nat, t ≤ xn ∧ i = .int .i64 (t : Int) ∧ wr = wq) (fun i _ => xn - (intOf i).toNat)
            case atStart => exact ⟨0, Nat.zero_le _, rfl, rfl⟩
            case round =>
              obtain ⟨t, ht, rfl, rfl⟩ := hrel
              by_cases hlt : t < xn
              · obtain ⟨b2, o2, rfl, l2⟩ := HXD.out.ext he t (by rw [Hxn.out]; exact hlt)
                obtain ⟨xv, hxv⟩ : ∃ xv, x[t]? = some xv := ⟨_, List.getElem?_eq_getElem (by rw [Hxn.out]; exact hlt)⟩
                rw [hxv, Option.getD_some] at l2
                have hct := Lib.hid (contains_any xv AY cY yn y Hyn.out true (List.contains_iff_mem.2 (Hsub.out xv (List.mem_of_getElem? hxv))) wr (by rw [Hyn.out]; unfold maxLen; omega) (HYD.out.ext he))
                clear hxv
                go_wp2_with fail
                refine hct.out.mono ?_
                rintro e w6 ⟨rfl, rfl⟩
                go_wp2_with fail
                go_roundw
                case rel => exact ⟨t + 1, by omega, by go_num, by trivial⟩
                case measure => simp [intOf]; omega
              · go_wp2_with fail
                refine haw.out.mono ?_
                rintro e w6 ⟨rfl, he6⟩
                go_wp2_with fail
                go_ret
                exact ⟨rfl, HE.out.trans ((heH.trans he).trans he6)⟩
          -- >>
end Go.Proofs.Pet
