/-
  LoomWoven, walked.
-/
import Derived.Test.YtfglamdbnclcaaaGreatZM
import Derived.Test.YtfglamdbnclcaaaGreatR1
import Derived.Deep.DeepCutAuto
namespace Go.Proofs.Pet
open Go Go.RowKit Go.Maps Go.Shelf

theorem TabIn.tabC {w : World} {base S : Nat} {m : Mill} (h : TabIn w base S m.laced.length (fun i => rowsC m i (2 ^ m.orders.length))) (hl : m.laced.length ≤ maxLen) : TabI w (.slice (some ⟨S, 0, none⟩) m.laced.length m.laced.length) (Go.Proofs.Pet.tabC m) := by
  refine ⟨_, _, by rw [tabC_len], by rw [tabC_len]; exact Nat.le_refl _, hl, fun i hi => ?_⟩
  rw [tabC_len] at hi
  obtain ⟨u, h1, _, h3⟩ := h.at hi
  refine ⟨S, 0, u, rfl, by rw [Nat.zero_add]; exact h1, ?_⟩
  rw [tabC_get hi]
  exact h3.rows
theorem MillVal.cut {w : World} {A1 A2 : Option Addr} {c1 c2 k n : Nat} {m : Mill} (h : MillVal w (.agg #[.slice A1 m.laced.length c1, .int .i64 m.change, .slice A2 n c2]) m) (hk : k ≤ m.orders.length) : MillVal w (.agg #[.slice A1 m.laced.length c1, .int .i64 m.change, .slice A2 k c2]) (m.cut k) := by
  obtain ⟨B1, d1, B2, d2, e, h2, h3, h4, h5, h6, h7⟩ := h
  simp only [Value.agg.injEq, Array.mk.injEq, List.cons.injEq, Value.slice.injEq, and_true, true_and] at e
  obtain ⟨⟨rfl, rfl⟩, rfl, _, rfl⟩ := e
  have hl := cut_len hk
  refine ⟨A1, c1, A2, c2, by rw [hl]; rfl, h2, h3, by rw [hl]; omega, h5, h6, fun j hj => ?_⟩
  rw [hl] at hj
  obtain ⟨b, o, e1, e2⟩ := h7 j (by omega)
  refine ⟨b, o, e1, ?_⟩
  show OrdCells w b (o + j * 4) ((m.orders.take k)[j]?.getD default)
  rw [List.getElem?_take, if_pos hj]
  exact e2
set_option maxRecDepth 100000 in
set_option maxHeartbeats 8000000 in
theorem loomWoven_any (v v2 : Value) (w : World) (hv : BytesIn w v) (hv2 : BytesIn w v2) :
    Calls Tryz.prog 5 #[v, v2] w fun e w' => e = .returned (.bool true) ∧ Ext w w' := by
  have hwo := Lib.hid (wound_any v w hv)
  have Hv2 := Lib.hid hv2; clear hv hv2
  go_enter Tryz.func5, Tryz.ntmps5
  go_wp2_with fail
  refine hwo.out.mono ?_
  rintro e w1 ⟨rfl, hs1, he1⟩
  clear hwo
  have hma := Lib.hid (madeS_any w.heap.size 0 (by omega) 3 7 (by omega) (by omega) w1 hs1)
  go_wp2_with fail
  refine hma.out.mono ?_
  rintro e w2 ⟨mv, m, rfl, hm, hok, -, -, -, hap⟩
  have hE2 := Apart.ext_of he1 (Nat.le_refl _) hap
  clear hma hs1 he1 hap
  have l3 := hok.few
  have l1 := hok.looms
  have Hm := Lib.hid hm
  obtain ⟨A1, c1, A2, c2, rfl, q1, q2, q3, q4, -, -⟩ := hm
  have hwo := Lib.hid (wound_any v2 w2 (Hv2.out.ext hE2))
  have Hch := Lib.hid ((check_iff m).2 hok)
  have Hok := Lib.hid hok
  clear hok Hv2 q1 q2 q3 q4
  go_wp2_with fail
  refine hwo.out.mono ?_
  rintro e w3 ⟨rfl, hs3, he3⟩
  clear hwo
  obtain ⟨Q, hQ⟩ : ∃ Q, w2.heap.size = Q := ⟨_, rfl⟩
  have hQw := hE2.size
  rw [hQ] at hs3 hQw ⊢
  have hQ2 : w2.heap.size ≤ Q := by omega
  have hM := Blk.new w3 25 #[.slice A1 m.laced.length c1, .int .i64 m.change, .slice A2 m.orders.length c2]
  have hX := Ext.alloc w3 (.cells #[.slice A1 m.laced.length c1, .int .i64 m.change, .slice A2 m.orders.length c2] 25)
  have hs4 := hs3.ext hX
  have hE24 := he3.trans hX
  have hpl := Lib.hid (plan_ok _ m Hch.out _ (Hm.out.ext hE24))
  have hQ3 := hs3.lt
  clear hs3 he3 hX hQ
  go_wp2_with fail
  obtain ⟨M, hMe⟩ : ∃ M, w3.heap.size = M := ⟨_, rfl⟩
  rw [hMe] at hM hQ3 ⊢
  generalize w3.alloc _ = W4 at *
  clear hMe
  have HM : Hid (∀ W, Apart Q W4 W → Blk W M 25 #[.slice A1 m.laced.length c1, .int .i64 m.change, .slice A2 m.orders.length c2]) := fun W ha => hM.apart (by omega) ha
  have HE2 : Hid (∀ W, Apart Q W4 W → Ext w2 W) := fun W ha => Apart.ext_of hE24 hQ2 ha
  have HmV : Hid (∀ W, Apart Q W4 W → MillVal W (.agg #[.slice A1 m.laced.length c1, .int .i64 m.change, .slice A2 m.orders.length c2]) m) := fun W ha => Hm.out.ext (HE2.out W ha)
  have HE : Hid (∀ W, Apart Q W4 W → Ext w W) := fun W ha => hE2.trans (HE2.out W ha)
  clear hM hE24 hE2
  refine hpl.out.mono ?_
  intro e w6 h6
  obtain ⟨rows, pr, em, rfl, hrows, hpe, he6⟩ : ∃ rows pr em, e = .returned (.tuple #[pr, .int .i64 em]) ∧ RowsI w6 pr rows ∧ ((planF m = none ∧ em = 6 ∧ rows = []) ∨ (planF m = some rows ∧ em = 0)) ∧ Ext W4 w6 := by
    rcases h6 with ⟨h1, h2, h3⟩ | ⟨rows, r, h1, h2, h3, h4⟩
    · exact ⟨[], _, 6, h2, ⟨none, 0, rfl, Nat.le_refl _, Nat.zero_le _, fun i hi => absurd hi (by simp)⟩, .inl ⟨h1, rfl, rfl⟩, h3⟩
    · exact ⟨rows, r, 0, h2, h3, .inr ⟨h1, rfl⟩, h4⟩
  clear h6 hpl
  have ha6 : Apart Q W4 w6 := Apart.of_ext he6
  have HrR := Lib.hid (fun W (h : Ext w6 W) => hrows.ext h)
  have hmd := Lib.hid (made_any _ m Hch.out w6 (HmV.out w6 ha6))
  obtain ⟨k0, k1, k2⟩ := (HM.out w6 ha6).c3
  clear hrows
  go_wp2_with fail
  refine hmd.out.mono ?_
  rintro e w7 ⟨S, rfl, hT, he7⟩
  have ht := Lib.hid (hT.tabC (by unfold maxLen; omega))
  obtain ⟨hbd, hlc⟩ := tabC_law Hok.out
  have e6 := he7
  replace he7 := he6.trans he7
  have hbt := Lib.hid (boundsTop_any _ _ m (tabC m) true 0 hbd w7 (HmV.out w7 (Apart.of_ext he7)) ht.out)
  clear hmd hT k0 k1 k2 ha6 hbd
  obtain ⟨k0, k1, k2⟩ := (HM.out w7 (Apart.of_ext he7)).c3
  go_wp2_with fail
  refine hbt.out.mono ?_
  rintro e w8 ⟨rfl, he8⟩
  have ht8 := ht.out.ext he8
  replace e6 := e6.trans he8
  replace he8 := he7.trans he8
  obtain ⟨n', g, hle⟩ : ∃ n' g, leastE m (tabC m) = (n', g) := ⟨_, _, rfl⟩
  have hlt := Lib.hid (leastTop_any _ _ m (tabC m) n' g hle w8 (HmV.out w8 (Apart.of_ext he8)) ht8)
  have Hlc : Hid ((planF m = none ∧ n' = 0 ∧ g = 6) ∨ ∃ rows, planF m = some rows ∧ n' = chgF m rows rows.length ∧ g = 0) := by
    rw [hle] at hlc
    rcases hlc with ⟨h1, h2⟩ | ⟨rows, h1, h2⟩
    · cases h2; exact .inl ⟨h1, rfl, rfl⟩
    · cases h2; exact .inr ⟨rows, h1, rfl, rfl⟩
  clear hbt ht ht8 hlc hle k0 k1 k2 he7
  obtain ⟨k0, k1, k2⟩ := (HM.out w8 (Apart.of_ext he8)).c3
  go_wp2_with fail
  refine hlt.out.mono ?_
  rintro e w9 ⟨rfl, he9⟩
  replace e6 := e6.trans he9
  replace he9 := he8.trans he9
  obtain ⟨fi, ei, hfe⟩ : ∃ fi ei, firstE m = (fi, ei) := ⟨_, _, rfl⟩
  have hfs := Lib.hid (first_any _ m fi ei hfe w9 (HmV.out w9 (Apart.of_ext he9)))
  have Hfl : Hid ((planF m ≠ none ∧ ei = 6 ∧ fi = 0) ∨ ∃ k : Nat, k < m.orders.length ∧ planF m = none ∧ fi = k ∧ ei = 0 ∧ planF (m.cut k) ≠ none ∧ planF (m.cut (k + 1)) = none) := by
    have := first_law Hok.out
    rw [hfe] at this
    rcases this with ⟨h1, h2⟩ | ⟨k, h1, h2, h3, h4⟩
    · cases h2; exact .inl ⟨h1, rfl, rfl⟩
    · cases h3; exact .inr ⟨k, h1, h2, rfl, rfl, h4⟩
  clear hlt hfe k0 k1 k2 he8
  obtain ⟨k0, k1, k2⟩ := (HM.out w9 (Apart.of_ext he9)).c3
  go_wp2_with fail
  refine hfs.out.mono ?_
  rintro e w10 ⟨rfl, he10⟩
  replace e6 := e6.trans he10
  replace he10 := he9.trans he10
  have hck := check_any _ m w10 (HmV.out w10 (Apart.of_ext he10))
  rw [Hch.out] at hck
  have Hck := Lib.hid hck
  clear hfs hck k0 k1 k2 he9
  obtain ⟨k0, k1, k2⟩ := (HM.out w10 (Apart.of_ext he10)).c3
  have Hw : Hid ((em = 0 ∧ g = 0 ∧ ei = 6 ∧ planF m = some rows ∧ n' = chgF m rows rows.length) ∨ ∃ k : Nat, k < m.orders.length ∧ em = 6 ∧ g = 6 ∧ ei = 0 ∧ fi = k ∧ planF m = none ∧ planF (m.cut k) ≠ none ∧ planF (m.cut (k + 1)) = none) := by
    rcases hpe with ⟨h1, h2, h3⟩ | ⟨h1, h2⟩
    · rcases Hlc.out with ⟨_, h4, h5⟩ | ⟨_, h4, _⟩
      · rcases Hfl.out with ⟨h6, _⟩ | ⟨k, h6, _, h7, h8, h9, h10⟩
        · exact absurd h1 h6
        · exact .inr ⟨k, h6, h2, h5, h8, h7, h1, h9, h10⟩
      · rw [h1] at h4; cases h4
    · rcases Hlc.out with ⟨h4, _⟩ | ⟨rows', h4, h5, h6⟩
      · rw [h1] at h4; cases h4
      · rw [h1] at h4
        cases h4
        rcases Hfl.out with ⟨_, h7, _⟩ | ⟨_, _, h7, _⟩
        · exact .inl ⟨h2, h6, h7, h1, h5⟩
        · rw [h1] at h7; cases h7
  clear hpe Hlc Hfl
  have Hs4 := Lib.hid hs4
  clear hs4
  go_upto_region 7 with fail
  go_cut [107] (fun s wx => s = .bool false ∧ Ext w10 wx)
  case first =>
    rcases Hw.out with ⟨rfl, rfl, rfl, -, -⟩ | ⟨k, -, rfl, rfl, rfl, -, -, -, -⟩
    · go_wp2_with fail
      refine Hck.out.mono ?_
      rintro e w11 ⟨rfl, he11⟩
      go_wp2_with fail
      go_meet
      exact ⟨rfl, he11⟩
    · go_wp2_with fail
      refine Hck.out.mono ?_
      rintro e w11 ⟨rfl, he11⟩
      go_wp2_with fail
      go_meet
      exact ⟨rfl, he11⟩
  case rest =>
    obtain ⟨rfl, he11⟩ := hcut
    generalize wc = w11 at *
    replace e6 := e6.trans he11
    replace he11 := he10.trans he11
    clear Hck k0 k1 k2 he10
    go_upto_if 109 with fail
    go_cut [8] (fun s wx => s = .int .i64 em ∧ Ext W4 wx)
    case first =>
      obtain ⟨k0, k1, k2⟩ := (HM.out w11 (Apart.of_ext he11)).c3
      rcases Hw.out with ⟨rfl, rfl, rfl, hp, hn⟩ | ⟨k, hk, rfl, rfl, rfl, rfl, hp, hc1, hc2⟩
      · -- <<A
        have hpo := Lib.hid (plan_law Hch.out hp)
        have hb1 : rows.flatten.length ≤ 100 := by rw [hpo.out.all]; omega
        have hb2 : rows.length ≤ 1000 := by rw [hpo.out.len]; omega
        have hkp := kept_any _ pr m Hch.out rows hb1 hb2 true true (by have := hpo.out.kept; unfold keptQ at this; exact (Bool.and_eq_true_iff.1 this).1) hpo.out.kept w11 (HmV.out w11 (Apart.of_ext he11)) (HrR.out w11 e6)
        rw [if_pos rfl, ← hn] at hkp
        have hcg := Lib.hid (fun W h1 h2 => changes_any _ pr m rows 0 hpo.out.pl hb1 hb2 W (HmV.out W h1) (HrR.out W h2))
        simp only [if_pos, ← hn] at hcg
        have hks := Lib.hid (fun W h1 h2 => keeps_any _ pr m rows 0 hpo.out.pl true (by rw [if_pos rfl]; exact plan_keeps Hok.out hpo.out) hb1 hb2 W (HmV.out W h1) (HrR.out W h2))
        have Hkp := Lib.hid hkp
        clear hkp hn hb1 hb2
        go_wp2_with fail
        refine Hkp.out.mono ?_
        rintro e w12 ⟨rfl, he12⟩
        replace e6 := e6.trans he12
        replace he12 := he11.trans he12
        clear Hkp k0 k1 k2
        obtain ⟨k0, k1, k2⟩ := (HM.out w12 (Apart.of_ext he12)).c3
        go_wp2_with fail
        refine (hcg.out w12 (Apart.of_ext he12) e6).mono ?_
        rintro e w13 ⟨rfl, he13⟩
        replace e6 := e6.trans he13
        replace he13 := he12.trans he13
        clear hcg k0 k1 k2
        obtain ⟨k0, k1, k2⟩ := (HM.out w13 (Apart.of_ext he13)).c3
        go_wp2_with fail
        refine (hks.out w13 (Apart.of_ext he13) e6).mono ?_
        rintro e w14 ⟨rfl, he14⟩
        clear hks k0 k1 k2
        go_wp2_with fail
        go_meet
        exact ⟨rfl, he13.trans he14⟩
        -- >>
      · -- <<B
        have how := Lib.hid (own_any _ m w11 (HmV.out w11 (Apart.of_ext he11)) Hok.out.great)
        clear hp
        have Hc1 := Lib.hid hc1; have Hc2 := Lib.hid hc2
        clear hc1 hc2
        go_wp2_with fail
        refine how.out.mono ?_
        rintro e w12 ⟨ov, rfl, hov, he12⟩
        have Hov := Lib.hid hov
        obtain ⟨B1, d1, B2, d2, rfl, -, -, o4, o5, -, o7⟩ := hov
        obtain ⟨bb, oo, rfl, -⟩ := o7 0 (by omega)
        unfold maxLen at o5
        replace he12 := he11.trans he12
        have hcv := Lib.hid (Hov.out.cut (k := k) (by omega))
        clear how o7 k0 k1 k2 Hov
        go_upto_region 18 with fail
        have hL := Blk.new w12 25 #[.slice B1 m.laced.length d1, .int .i64 m.change, .slice (some ⟨bb, oo, none⟩) m.orders.length d2]
        have hXL := Ext.alloc w12 (.cells #[.slice B1 m.laced.length d1, .int .i64 m.change, .slice (some ⟨bb, oo, none⟩) m.orders.length d2] 25)
        obtain ⟨l0, l1', l2⟩ := hL.c3
        have f2 := hL.frozen 2
        go_upto_region 19 with fail
        have hL2 := Blk.new w12 25 #[.slice B1 m.laced.length d1, .int .i64 m.change, .slice (some ⟨bb, oo, none⟩) k d2]
        have hE3 := Ext.alloc w12 (.cells #[.slice B1 m.laced.length d1, .int .i64 m.change, .slice (some ⟨bb, oo, none⟩) k d2] 25)
        clear l0 l1' l2 f2 hL hXL
        obtain ⟨g', hg'⟩ : ∃ g', w12.heap.size = g' := ⟨_, rfl⟩
        rw [hg'] at hL2 ⊢
        generalize w12.alloc _ = w13 at *
        have hp1 := Lib.hid (plan_ok _ (m.cut k) ((check_iff _).2 (cut_ok Hok.out k)) w13 (hcv.out.ext hE3))
        obtain ⟨l0, l1', l2⟩ := hL2.c3
        go_wp2_with fail
        refine hp1.out.mono ?_
        intro e w14 h14
        obtain ⟨pr2, rfl, he14⟩ : ∃ pr2, e = .returned (.tuple #[pr2, .int .i64 0]) ∧ Ext w13 w14 := by
          rcases h14 with ⟨h1, _, _⟩ | ⟨_, r, _, h2, _, h4⟩
          · exact absurd h1 Hc1.out
          · exact ⟨r, h2, h4⟩
        have hL3 := hL2.ext he14
        have he124 := hE3.trans he14
        replace he14 := he12.trans he124
        clear hp1 h14 hcv hL2 hE3 l0 l1' l2
        have how := Lib.hid (own_off _ m w12 w14 he124 (HmV.out w12 (Apart.of_ext he12)) Hok.out.great)
        obtain ⟨k0, k1, k2⟩ := (HM.out w14 (Apart.of_ext he14)).c3
        have hg4 := hL3.lt
        have hg5 : W4.heap.size ≤ g' := by have := he12.size; omega
        clear he124
        go_wp2_with fail
        refine how.out.mono ?_
        rintro e w15 ⟨ov2, rfl, hov, he15⟩
        have Hov := Lib.hid hov
        obtain ⟨D1, f1, D2, f2, rfl, -, -, o4', o5', -, o7⟩ := hov.val
        obtain ⟨bb2, oo2, rfl, -⟩ := o7 0 (by omega)
        unfold maxLen at o5'
        have hL4 := hL3.ext he15
        replace he15 := he14.trans he15
        obtain ⟨l0, l1', l2⟩ := hL4.c3
        have z0 := hL4.frozen 0; have z1 := hL4.frozen 1; have z2 := hL4.frozen 2
        clear how o7 hov k0 k1 k2 hL3
        go_upto_region 23 with fail
        have hL5 : Blk _ _ 25 #[.slice D1 m.laced.length f1, .int .i64 m.change, .slice (some ⟨bb2, oo2, none⟩) m.orders.length f2] := ((hL4.set_ 0 (.slice D1 m.laced.length f1)).set_ 1 (.int .i64 m.change)).set_ 2 (.slice (some ⟨bb2, oo2, none⟩) m.orders.length f2)
        have hap5 := (((Apart.refl g' w15).set_ 0 (.slice D1 m.laced.length f1)).set_ 1 (.int .i64 m.change)).set_ 2 (.slice (some ⟨bb2, oo2, none⟩) m.orders.length f2)
        have hE5 : Ext W4 _ := Below.setCell (p := ⟨g', 2, none⟩) (Below.setCell (p := ⟨g', 1, none⟩) (Below.setCell (p := ⟨g', 0, none⟩) he15 hg5 (.slice D1 m.laced.length f1)) hg5 (.int .i64 m.change)) hg5 (.slice (some ⟨bb2, oo2, none⟩) m.orders.length f2)
        clear l0 l1' l2 z0 z1 z2 hL4
        generalize ((w15.setCell _ _).setCell _ _).setCell _ _ = w16 at *
        obtain ⟨l0, l1', l2⟩ := hL5.c3
        have z2 := hL5.frozen 2
        go_upto_region 24 with fail
        have hL6 : Blk _ _ 25 #[.slice D1 m.laced.length f1, .int .i64 m.change, .slice (some ⟨bb2, oo2, none⟩) (k + 1) f2] := hL5.set_ 2 (.slice (some ⟨bb2, oo2, none⟩) (k + 1) f2)
        have hap6 := hap5.set_ 2 (.slice (some ⟨bb2, oo2, none⟩) (k + 1) f2)
        have hE6 : Ext W4 _ := Below.setCell (p := ⟨g', 2, none⟩) hE5 hg5 (.slice (some ⟨bb2, oo2, none⟩) (k + 1) f2)
        have hcv := Lib.hid (((Hov.out.apart ⟨by omega, hg4⟩ hap6).val).cut (k := k + 1) (by omega))
        clear l0 l1' l2 z2 hL5 hap5 hap6 hE5
        generalize w16.setCell _ _ = w17 at *
        have hp1 := Lib.hid (plan_ok _ (m.cut (k + 1)) ((check_iff _).2 (cut_ok Hok.out (k + 1))) w17 hcv.out)
        obtain ⟨l0, l1', l2⟩ := hL6.c3
        go_wp2_with fail
        refine hp1.out.mono ?_
        intro e w18 h18
        obtain ⟨rfl, he18⟩ : e = .returned (.tuple #[.slice none 0 0, .int .i64 6]) ∧ Ext w17 w18 := by
          rcases h18 with ⟨_, h2, h3⟩ | ⟨_, r, h1, _, _, _⟩
          · exact ⟨h2, h3⟩
          · rw [Hc2.out] at h1; cases h1
        clear hp1 h18 hcv hL6 l0 l1' l2
        go_wp2_with fail
        go_meet
        exact ⟨rfl, hE6.trans he18⟩
        -- >>
    case rest =>
      obtain ⟨rfl, hew⟩ := hcut
      -- <<C
      have hap0 : Apart Q W4 wc := Apart.of_ext hew
      have hs0 := Hs4.out.ext hew
      have Hpl : Hid (planF m ≠ none → em = 0 ∧ ∀ rows', planF m = some rows' → n' = chgF m rows' rows'.length) := fun hne => by
        rcases Hw.out with ⟨h1, -, -, h2, h3⟩ | ⟨-, -, -, -, -, -, h1, -⟩
        · refine ⟨h1, fun rows' h4 => ?_⟩
          rw [h2] at h4
          cases h4
          exact h3
        · exact absurd h1 hne
      clear Hw HrR e6 he11 hew Hs4
      go_wp2_with fail
      go_loopw [28, 29, 30, 31, 32, 190] (fun _ _ _ _ _ iv wr => ∃ r : Nat, r ≤ 8 ∧ iv = .int .i64 r ∧ SpoolAt wr Q (21 * r) ∧ Apart Q W4 wr) (fun _ _ _ _ _ iv _ => 8 - (intOf iv).toNat)
      case atStart => exact ⟨0, by omega, rfl, hs0, hap0⟩
      case round =>
        clear hs0 hap0
        obtain ⟨r, hr, rfl, hsp, hap⟩ := hrel
        by_cases hlt : r < 8
        · obtain ⟨wo, hwo⟩ : ∃ wo, wo = wr := ⟨_, rfl⟩
          rw [← hwo] at hsp hap ⊢
          clear hwo
          have hgv := Lib.hid (given5_any Q _ (by omega) _ m Hok.out w2 wo Hm.out (HE2.out wo hap) hQ2 hsp)
          obtain ⟨k0, k1, k2⟩ := (HM.out wo hap).c3
          go_wp2_with fail
          refine hgv.out.mono ?_
          rintro e w20 ⟨gr, X, rfl, hgr, hgk, hs20, ha20⟩
          have hap20 := hap.trans ha20
          obtain ⟨rows2, hr2⟩ : ∃ rows2, (List.range m.laced.length).map X = rows2 := ⟨_, rfl⟩
          have hlaw := Lib.hid (given_law Hok.out hgk rows2 hr2)
          have hb1 : rows2.flatten.length ≤ 100 := by
            have := hgk.perm.length_eq
            rw [hr2] at this
            rw [this, ints, List.length_map, List.length_range]
            omega
          have hb2 : rows2.length ≤ 1000 := by rw [← hr2]; simp; omega
          rw [hr2] at hgr
          obtain ⟨qk, h0⟩ : ∃ q, keptB m rows2 = q := ⟨_, rfl⟩
          obtain ⟨qq, h1⟩ : ∃ q, keptQ m rows2 = q := ⟨_, rfl⟩
          obtain ⟨nv, hnv⟩ : ∃ nv, (if qk = true then chgF m rows2 rows2.length else 0) = nv := ⟨_, rfl⟩
          have hkp := kept_any _ gr m Hch.out rows2 hb1 hb2 qk qq h0 h1 w20 (HmV.out w20 hap20) hgr
          rw [hnv] at hkp
          have Hkp := Lib.hid hkp
          have hks := Lib.hid (fun W (h : Ext w20 W) => keeps_any _ gr m rows2 0 hlaw.out.1 qq (by rw [if_pos rfl, hlaw.out.2.1]; exact h1) hb1 hb2 W (HmV.out W (hap20.trans (Apart.of_ext h))) (hgr.ext h))
          have Hq : Hid (qq = true → em = 0 ∧ n' ≤ nv) := fun h => by
            obtain ⟨h2, h3, h4⟩ := hlaw.out.2.2 (h1.trans h)
            obtain ⟨h5, h6⟩ := Hpl.out h3
            refine ⟨h5, ?_⟩
            cases hpl : planF m with
            | none => exact absurd hpl h3
            | some pl =>
              have h7 := h4 pl hpl
              rw [h6 pl hpl, ← hnv, ← h0, if_pos h2]
              exact h7
          have Hs20 := Lib.hid hs20
          clear hgv k0 k1 k2 hgr hgk ha20 hs20 hr2 hlaw hb1 hb2 h0 h1 hnv hkp hsp hap
          obtain ⟨k0, k1, k2⟩ := (HM.out w20 hap20).c3
          go_wp2_with fail
          refine Hkp.out.mono ?_
          rintro e w21 ⟨rfl, he21⟩
          clear Hkp k0 k1 k2
          obtain ⟨k0, k1, k2⟩ := (HM.out w21 (hap20.trans (Apart.of_ext he21))).c3
          go_wp2_with fail
          refine (hks.out w21 he21).mono ?_
          rintro e w22 ⟨rfl, he22⟩
          replace he22 := he21.trans he22
          clear hks k0 k1 k2 he21
          cases qq with
          | false =>
            go_wp2_with fail
            go_roundw
            case rel => exact ⟨r + 1, by omega, by go_num, (Hs20.out.ext he22).mono (by omega), hap20.trans (Apart.of_ext he22)⟩
            case measure => simp [intOf]; omega
          | true =>
            obtain ⟨rfl, hle⟩ := Hq.out rfl
            have hd : decide (nv < n') = false := by rw [decide_eq_false_iff_not]; omega
            clear hle
            go_wp2_with fail
            go_roundw
            case rel => exact ⟨r + 1, by omega, by go_num, (Hs20.out.ext he22).mono (by omega), hap20.trans (Apart.of_ext he22)⟩
            case measure => simp [intOf]; omega
        · obtain rfl : r = 8 := by omega
          go_wp2_with fail
          refine (awake_any wr).mono ?_
          rintro e w8 ⟨rfl, he8⟩
          go_wp2_with fail
          go_ret
          exact ⟨rfl, (HE.out wr hap).trans he8⟩
      -- >>
end Go.Proofs.Pet
