/-
  What keeps answers, walked.
-/
import Derived.Test.YtfglamdbnclcaaaGreatO7
import Derived.Test.YtfglamdbnclcaaaGreatO8
import Derived.Test.YtfglamdbnclcaaaGreatR2
import Derived.Test.YtfglamdbnclcaaaGreatV4
namespace Go.Proofs.Pet
set_option linter.unusedSimpArgs false
open Go Go.RowKit Go.Maps Go.Shelf

set_option maxRecDepth 100000 in
set_option maxHeartbeats 4000000 in
theorem kept_any (v pv : Value) (m : Mill) (hch : checkE m = 0) (rows : List (List Int)) (hb : rows.flatten.length ≤ 100) (hb2 : rows.length ≤ 1000) (q0 q : Bool) (h0 : keptB m rows = q0) (hq : keptQ m rows = q) (w : World) (hv : MillVal w v m) (hp : RowsI w pv rows) :
    Calls Tryz.prog 22 #[v, pv] w fun e w' => e = .returned (.tuple #[.int .i64 (if q0 = true then chgF m rows rows.length else 0), .bool q]) ∧ Ext w w' := by
  obtain ⟨ti, hi, hz0, hz1, hz2⟩ := info_parts info_int
  have Hv := Lib.hid hv
  have Hlen : Hid (∀ j, j < rows.length → (rows[j]?.getD []).length ≤ 100) := fun j hj => by
    have h1 := flat_take hj
    have h2 := flat_le rows (j + 1)
    rw [h1, List.length_append] at h2
    omega
  have Hfl := Lib.hid (flat_le rows)
  obtain ⟨A1, c1, A2, c2, rfl, h2, h3, h4, h5, h6, h7⟩ := hv
  obtain ⟨l1, l2, l3⟩ := check_len hch
  obtain ⟨PA, pc, rfl, g2, g3, g4⟩ := hp
  have G4 := Lib.hid g4; clear g4
  unfold maxLen at g3
  have hE := Ext.alloc w (.cells #[.slice A1 m.laced.length c1, .int .i64 m.change, .slice A2 m.orders.length c2] 25)
  have hM := Blk.new w 25 #[.slice A1 m.laced.length c1, .int .i64 m.change, .slice A2 m.orders.length c2]
  have Hch := Lib.hid hch; have H0 := Lib.hid h0; have Hq := Lib.hid hq; have Hb := Lib.hid hb
  clear h6 h7 h3 h5 hch h0 hq
  obtain ⟨k0, k1, k2⟩ := hM.c3
  by_cases hll : rows.length = m.laced.length
  · have hd : ((rows.length : Int) != (m.laced.length : Int)) = false := by simp [hll]
    have hkl : ∀ k, k < rows.length → k < m.laced.length := fun k h => by omega
    have Hll := Lib.hid hll; have Hkl := Lib.hid hkl; clear hll hkl
    go_enter Tryz.func22, Tryz.ntmps22
    go_wp2_with fail
    obtain ⟨M, hMe⟩ : ∃ M, w.heap.size = M := ⟨_, rfl⟩
    rw [hMe] at hM ⊢
    generalize w.alloc _ = W2 at *
    clear hd k0 k1 k2
    have hMl := hM.lt
    go_loopw [6, 7, 20] (fun sv lv iv wr => ∃ (k : Nat) (s : Int), k ≤ rows.length ∧ iv = .int .i64 k ∧ sv = .int .i64 s ∧ (0 ≤ s ∧ s ≤ 100 * k) ∧ Hid (chgF m rows k = s) ∧ Ext W2 wr ∧ Hid (OwnI wr W2.heap.size 3 lv (rows.take k).flatten) ∧ Hid (∀ j, j < k → okW m j (rows[j]?.getD []) = true)) (fun _ _ iv _ => rows.length - (intOf iv).toNat)
    case atStart => exact ⟨0, 0, by omega, rfl, rfl, by omega, rfl, Ext.refl _, OwnI.nil _ _ _, fun j hj => absurd hj (by omega)⟩
    case round =>
      obtain ⟨k, s, hk, rfl, rfl, hsb, hs, he, hl, hno⟩ := hrel
      obtain ⟨k0, k1, k2⟩ := (hM.ext he).c3
      by_cases hlt : k < rows.length
      · obtain ⟨pb, po, u, e1, q1, hsl⟩ := G4.out k hlt
        subst e1
        have q1' := he.cell (hE.cell q1)
        obtain ⟨LA, lc, rfl, s1, s2, s3⟩ := (hsl.ext hE).ext he
        have hst : Hid (chgF m rows (k + 1) = s + chR m k (rvI (rows[k]?.getD []))) := by unfold Hid; rw [chgF, hs.out]
        have hbd := chgF_bd m rows Hlen.out (k + 1) (by omega)
        rw [hst.out] at hbd
        obtain ⟨qk, hqk⟩ : ∃ qk, okW m k (rows[k]?.getD []) = qk := ⟨_, rfl⟩
        have hwo := Lib.hid (woven_any _ m Hch.out k (Hkl.out k hlt) LA lc (rows[k]?.getD []) s1 s2 (Hlen.out k hlt) qk hqk wr ((Hv.out.ext hE).ext he) s3)
        have hn2 : Hid ((rows.take (k + 1)).flatten = (rows.take k).flatten ++ rows[k]?.getD []) := flat_take hlt
        have hle := Hfl.out (k + 1)
        rw [hn2.out, List.length_append] at hle
        have hle2 : (rows.take k).flatten.length + (rows[k]?.getD []).length ≤ 100 := by have := Hb.out; omega
        have hsrc : Hid (Src wr LA ((rows[k]?.getD []).map (Value.int .i64))) := s3.src
        have Hqk := Lib.hid hqk
        clear hle s3 hsl hqk
        cases qk with
        | false =>
          have hq0 : q0 = false := by rw [← H0.out]; exact keptB_false hlt Hqk.out
          have hq1 : q = false := by rw [← Hq.out]; unfold keptQ; rw [H0.out, hq0]; rfl
          subst hq0 hq1
          clear hle2 hbd
          generalize (rows[k]?.getD []) = ys at *
          go_wp2_with fail
          refine hwo.out.mono ?_
          rintro e w' ⟨rfl, he'⟩
          go_wp2_with fail
          go_ret2
          exact ⟨rfl, hE.trans (he.trans he')⟩
        | true =>
          obtain ⟨BB, cB, rfl, o1, o2, o3, o4, o5⟩ := hl.out.open_
          have O4 := Lib.hid o4; clear o3 o4 o5
          have hszr := he.size
          obtain ⟨ys, hys⟩ : ∃ ys, rows[k]?.getD [] = ys := ⟨_, rfl⟩
          have Hys := Lib.hid hys
          rw [hys] at hbd hle2 hst s1 hwo hsrc hn2 Hqk
          simp only [hys] at q1' ⊢
          clear hys
          obtain ⟨cc, hcc⟩ : ∃ cc, chR m k (rvI ys) = cc := ⟨_, rfl⟩
          rw [hcc] at hbd hst hwo
          clear hcc
          generalize hln : (rows.take k).flatten.length = L at *
          have HL := Lib.hid hln; clear hln
          simp only [if_true] at hwo
          go_wp2_with fail
          refine hwo.out.mono ?_
          rintro e w3 ⟨rfl, he3⟩
          have hez := he.trans he3
          have hsz3 := hez.size
          have hrow : Hid (w3.ownsRow W2.heap.size 3 1 (.slice BB L cB) L ((rows.take k).flatten.map (Value.int .i64))) := by
            have := hl.out.ext he3
            unfold OwnI at this
            rw [HL.out] at this
            exact this
          have hsrc3 := Lib.hid (hsrc.out.ext he3)
          have O43 := Lib.hid (fun ad (h : BB = some ad) => O4.out ad h)
          clear hwo he he3 hl
          go_wp2_with (at_builtin; refine wpList_app rfl _ _ 22 rfl W2.heap.size 3 ti (.int .i64 0) 1 8 Tryz.underlying22 hi hz0 hz1 hz2 rfl (by decide) _ _ _ rfl hrow.out LA ys.length lc (ys.map (Value.int .i64)) rfl (by simp) hsrc3.out one_ints ?c3 ?c4 ?c5 ?_; (case c3 => (unfold maxLen; omega)); (case c4 => omega); (case c5 => omega); intro v' w' hown' hg hblk)
          go_roundw
          case rel =>
            have hge := own_ge O4.out (L := L) (c := cB)
            refine ⟨k + 1, s + cc, by omega, by go_num, by go_num, hbd, hst, Below.grown hez hg hsz3 (fun j hj => hge j hj), ?_, ?_⟩
            · unfold Hid
              rw [hn2.out]
              unfold OwnI
              rw [List.map_append, List.length_append, HL.out]
              exact hown'
            · intro j hj
              by_cases e : j = k
              · subst e; rw [Hys.out]; exact Hqk.out
              · exact hno.out j (by omega)
          case measure => simp [intOf]; omega
      · have hke : k = rows.length := by omega
        subst hke
        have hq0 : q0 = true := by rw [← H0.out]; exact keptB_iff.2 ⟨Hll.out, hno.out⟩
        subst hq0
        have hqe : q = (decide rows.flatten.Nodup && decide (rows.flatten.length = m.orders.length)) := by rw [← Hq.out]; unfold keptQ; rw [H0.out, Bool.true_and]
        have hl := hl.out
        rw [List.take_length] at hl
        obtain ⟨ys, hys⟩ : ∃ ys, rows.flatten = ys := ⟨_, rfl⟩
        rw [hys] at hl hqe hb
        clear hys
        obtain ⟨BB, cB, rfl, o1, o2, o3, o4, o5⟩ := hl.open_
        have hso := Lib.hid (sortI W2.heap.size _ ys wr hl (by omega))
        have O4 := Lib.hid o4
        have hcs := compact_sorted ys
        have hsl : (ys.mergeSort fun x y => decide (x ≤ y)).length = ys.length := List.length_mergeSort _
        obtain ⟨xs, hxs⟩ : ∃ xs, (ys.mergeSort fun x y => decide (x ≤ y)) = xs := ⟨_, rfl⟩
        rw [hxs] at hso hcs hsl
        obtain ⟨L, hL⟩ : ∃ L, ys.length = L := ⟨_, rfl⟩
        rw [hL] at hso hcs hsl hqe hb o1 ⊢
        have Hsl := Lib.hid hsl; have Hcs := Lib.hid hcs; have Hqe := Lib.hid hqe
        clear o3 o4 o5 hxs hl hsl hcs hqe hL Hb Hfl Hlen hno
        go_wp2_with fail
        refine hso.out.mono ?_
        rintro e w3 ⟨rfl, hl3, hg3⟩
        have he3 : Ext W2 w3 := Below.grown he hg3 he.size (fun j hj => (own_ge O4.out (L := L) (c := cB)) j hj)
        obtain ⟨C, hC⟩ : ∃ C, (Lib.compact xs).length = C := ⟨_, rfl⟩
        have hco : Hid (∀ W, Ext w3 W → Calls Tryz.prog 84 #[.slice BB L cB] W fun e w4 => ∃ B4 c4, e = .returned (.slice B4 C c4) ∧ Ext W2 w4) := fun W heW =>
          (compactI W2.heap.size _ xs W (hl3.ext heW) (by rw [Hsl.out]; omega)).mono fun e w4 ⟨v4, h1, h2, _, h4⟩ => by
            obtain ⟨B4, c4, h5, _⟩ := h2.open_
            rw [hC] at h5
            exact ⟨B4, c4, by rw [h1, h5], Below.grown (he3.trans heW) h4 (he3.trans heW).size (fun j hj => (own_ge O4.out (L := L) (c := cB)) j hj)⟩
        have Hcs2 : Hid (C = L ↔ ys.Nodup) := by unfold Hid; rw [← hC]; exact Hcs.out
        have HE := Lib.hid hE
        clear hso k0 k1 k2 hC Hcs hE he hl3 hg3 O4 Hsl
        obtain ⟨k0, k1, k2⟩ := (hM.ext he3).c3
        by_cases hCL : C = L
        · have hnd := Lib.hid (Hcs2.out.1 hCL)
          subst hCL
          clear Hcs2
          go_upto_region 14 with fail
          refine wp_region_chainL 16 [(2, false)] [0, 4, 5] [3, 6, 7, 8, 9, 10, 11, 12, 13, 14, 15] (by kernel_rfl) (by kernel_rfl) (by kernel_rfl) ?_
          simp only [List.take, List.drop, fill, Act.put, List.setIfInBounds_toArray, List.set_cons_zero, List.set_cons_succ, Nat.reduceAdd]
          repeat (first
            | refine FloatsL.mut rfl ?_
            | (apply FloatsL.float rfl
               · intro x W he hd K Q hK
                 try (have he := he (by decide))
                 try simp only [edges, DepsE, List.filter_cons, List.filter_nil, Region.binds, if_true, and_true, true_and, upd, Nat.reduceEqDiff, if_false] at hd
                 try simp only [hd] at hK ⊢
                 have HK := Lib.hid hK; clear hK
                 go_wp2_with fail
                 exact HK.out))
          refine FloatsL.done fun W he hG => ?_
          have hcq := hco.out W he
          clear hG he
          refine ChainL.cons _ rfl ?_
          intro x hd K Q hK
          try simp only [edges, DepsE, List.filter_cons, List.filter_nil, Region.binds, if_true, and_true, true_and, upd, Nat.reduceEqDiff, if_false] at hd
          try simp only [hd] at hK ⊢
          clear hd
          have HK := Lib.hid hK; clear hK
          go_wp2_with fail
          refine hcq.mono ?_
          rintro e w4 ⟨B4, c4, rfl, he4⟩
          obtain ⟨j0, j1, j2⟩ := (hM.ext he4).c3
          go_wp2_with fail
          refine HK.out _ _ (fun h => by cases h) ?_
          clear HK
          refine ChainL.nil ?_
          try simp only [List.take, List.drop, upd, Nat.reduceEqDiff, if_false, if_true]
          repeat (first
            | refine Lates.skip rfl ?_
            | (apply Lates.late rfl
               · intro x hd K Q hK
                 try simp only [edges, DepsE, List.filter_cons, List.filter_nil, Region.binds, if_true, and_true, true_and, upd, Nat.reduceEqDiff, if_false] at hd
                 try simp only [hd] at hK ⊢
                 have HK := Lib.hid hK; clear hK
                 go_wp2_with fail
                 exact HK.out))
          refine Lates.done ?_
          simp only [upd, Nat.reduceEqDiff, if_false, if_true]
          go_wp2_with fail
          go_ret2
          refine ⟨?_, HE.out.trans he4⟩
          have hsE := hs.out
          rw [hsE, Hqe.out, decide_eq_true hnd.out, Bool.true_and, show decide (C = m.orders.length) = ((C : Int) == (m.orders.length : Int)) by rw [Bool.eq_iff_iff]; simp only [decide_eq_true_eq, beq_iff_eq]; omega]
          rfl
        · have hnd := Lib.hid (fun h => hCL (Hcs2.out.2 h))
          have hqf : q = false := by rw [Hqe.out, decide_eq_false hnd.out]; rfl
          have hd : ((C : Int) == (L : Int)) = false := by simp; omega
          subst hqf
          clear Hcs2 hCL Hqe hnd
          go_upto_region 14 with fail
          refine wp_region_chainL 16 [(2, false)] [0, 4, 5] [3, 6, 7, 8, 9, 10, 11, 12, 13, 14, 15] (by kernel_rfl) (by kernel_rfl) (by kernel_rfl) ?_
          simp only [List.take, List.drop, fill, Act.put, List.setIfInBounds_toArray, List.set_cons_zero, List.set_cons_succ, Nat.reduceAdd]
          repeat (first
            | refine FloatsL.mut rfl ?_
            | (apply FloatsL.float rfl
               · intro x W he hd K Q hK
                 try (have he := he (by decide))
                 try simp only [edges, DepsE, List.filter_cons, List.filter_nil, Region.binds, if_true, and_true, true_and, upd, Nat.reduceEqDiff, if_false] at hd
                 try simp only [hd] at hK ⊢
                 have HK := Lib.hid hK; clear hK
                 go_wp2_with fail
                 exact HK.out))
          refine FloatsL.done fun W he hG => ?_
          have hcq := hco.out W he
          clear hG he
          refine ChainL.cons _ rfl ?_
          intro x hd K Q hK
          try simp only [edges, DepsE, List.filter_cons, List.filter_nil, Region.binds, if_true, and_true, true_and, upd, Nat.reduceEqDiff, if_false] at hd
          try simp only [hd] at hK ⊢
          clear hd
          have HK := Lib.hid hK; clear hK
          go_wp2_with fail
          refine hcq.mono ?_
          rintro e w4 ⟨B4, c4, rfl, he4⟩
          obtain ⟨j0, j1, j2⟩ := (hM.ext he4).c3
          go_wp2_with fail
          refine HK.out _ _ (fun h => by cases h) ?_
          clear HK
          refine ChainL.nil ?_
          try simp only [List.take, List.drop, upd, Nat.reduceEqDiff, if_false, if_true]
          repeat (first
            | refine Lates.skip rfl ?_
            | (apply Lates.late rfl
               · intro x hd K Q hK
                 try simp only [edges, DepsE, List.filter_cons, List.filter_nil, Region.binds, if_true, and_true, true_and, upd, Nat.reduceEqDiff, if_false] at hd
                 try simp only [hd] at hK ⊢
                 have HK := Lib.hid hK; clear hK
                 go_wp2_with fail
                 exact HK.out))
          refine Lates.done ?_
          simp only [upd, Nat.reduceEqDiff, if_false, if_true]
          go_wp2_with fail
          go_ret2
          refine ⟨?_, HE.out.trans he4⟩
          have hsE := hs.out
          rw [hsE]
          rfl
  · have hd : ((rows.length : Int) != (m.laced.length : Int)) = true := by simp; omega
    have hq0 : q0 = false := by rw [← H0.out]; unfold keptB; rw [decide_eq_false hll]; rfl
    have hq1 : q = false := by rw [← Hq.out]; unfold keptQ; rw [H0.out, hq0]; rfl
    subst hq0 hq1
    clear hll
    go_enter Tryz.func22, Tryz.ntmps22
    go_wp2_with fail
    go_ret2
    exact ⟨rfl, hE⟩
end Go.Proofs.Pet
