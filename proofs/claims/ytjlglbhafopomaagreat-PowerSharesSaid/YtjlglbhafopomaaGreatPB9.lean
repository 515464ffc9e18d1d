/-
  The shares of a mill, walked: power's Shares.
-/
import Derived.Test.YtjlglbhafopomaaGreatPB8
namespace Go.Proofs.Pet
set_option linter.unusedSimpArgs false
open Go Go.RowKit Go.Maps Go.Shelf
open Go.Proofs.Pow (PM Sh Wv POk Up)

theorem Row.own {w : World} {b N base : Nat} {f : Nat → Int} (h : Row w b N f) (hb : base ≤ b) (hN : N ≤ maxLen) : OwnI w base 3 (.slice (some ⟨b, 0, none⟩) N N) ((List.range N).map f) := by
  obtain ⟨cs, h1, h2, h3⟩ := h
  have hlen : ((List.range N).map f).length = N := by simp
  unfold OwnI
  rw [hlen]
  refine ⟨by simp, .inr ⟨b, N, cs, rfl, hb, h1, Nat.le_refl _, hN, by simp [h2], ?_⟩⟩
  apply List.ext_getElem?
  intro i
  rw [Nat.mul_one, List.take_of_length_le (by simp [h2]), Array.getElem?_toList]
  by_cases hi : i < N
  · rw [h3 i hi, List.getElem?_map, List.getElem?_map, List.getElem?_range hi]; rfl
  · rw [Array.getElem?_eq_none (by omega), List.getElem?_eq_none (by simp; omega)]
theorem eql_six (b0 b1 b2 b3 b4 b5 : Bool) (W : World) : (binOp .eql 161 (.agg #[.bool b0, .bool b1, .bool b2, .bool b3, .bool b4, .bool b5]) (.agg #[.bool false, .bool false, .bool false, .bool false, .bool false, .bool false])).run Tryz.prog W = .ok (.bool (!b0 && !b1 && !b2 && !b3 && !b4 && !b5)) W := by
  cases b0 <;> cases b1 <;> cases b2 <;> cases b3 <;> cases b4 <;> cases b5 <;> kernel_rfl
theorem spotL_len : ∀ s, (Pow.spotL s).length = s * 24
  | 0 => rfl
  | s + 1 => by rw [Pow.spotL_succ, List.length_append, spotL_len s, List.length_map, List.length_range]; omega
theorem sharesErr (v : Value) (m : PM) (r : Int) (hr : checkP m = r) (h0 : r ≠ 0) (w : World) (hv : PMVal w v m) :
    Calls Tryz.prog 50 #[v] w fun e w' => e = .returned (.tuple #[.slice none 0 0, .int .i64 r]) ∧ Ext w w' := by
  have Hv := Lib.hid hv
  obtain ⟨A1, c1, A2, c2, rfl, h2, h3, h4, h5, h6, h7⟩ := hv
  have hE := Ext.alloc w (.cells #[.slice A1 m.shafts.length c1, .slice A2 m.wvs.length c2] 26)
  obtain ⟨k0, k1⟩ := (Blk.new w 26 #[.slice A1 m.shafts.length c1, .slice A2 m.wvs.length c2]).c2
  have ho := Lib.hid (openedErr _ m r hr h0 _ (Hv.out.ext hE))
  have hd : (r != 0) = true := by simpa using h0
  clear h6 h7 hr
  go_enter Tryz.func50, Tryz.ntmps50
  go_wp2_with fail
  refine ho.out.mono ?_
  rintro e w1 ⟨rfl, he1⟩
  go_wp2_with fail
  go_ret2
  exact ⟨rfl, hE.trans he1⟩

set_option maxRecDepth 20000 in
set_option maxHeartbeats 2000000 in
theorem shares_any (v : Value) (m : PM) (hr : checkP m = 0) (w : World) (hv : PMVal w v m) :
    Calls Tryz.prog 50 #[v] w fun e w' => ∃ S, e = .returned (.tuple #[.slice (some ⟨S, 0, none⟩) m.wvs.length m.wvs.length, .int .i64 0]) ∧ Row w' S m.wvs.length (Pow.shareP m) ∧ w.heap.size ≤ S ∧ Ext w w' := by
  obtain ⟨ti, hi, hz0, hz1, hz2⟩ := info_parts info_int
  have Hm := Lib.hid ((checkP_iff m).1 hr)
  have hml := Hm.out.few
  have hms := Hm.out.sz
  have Hv := Lib.hid hv
  obtain ⟨A1, c1, A2, c2, rfl, h2, h3, h4, h5, h6, h7⟩ := hv
  have hE := Ext.alloc w (.cells #[.slice A1 m.shafts.length c1, .slice A2 m.wvs.length c2] 26)
  have hM := Blk.new w 26 #[.slice A1 m.shafts.length c1, .slice A2 m.wvs.length c2]
  obtain ⟨k0, k1⟩ := hM.c2
  have ho := Lib.hid (opened_any _ m hr _ (Hv.out.ext hE))
  have H6 := Lib.hid h6
  have hmk : ∀ W : World, (Instr.makeSlice 31 (.int .i64 (m.wvs.length : Int)) (.int .i64 (m.wvs.length : Int))).run Tryz.prog W = .ok (.slice (some ⟨W.heap.size, 0, none⟩) m.wvs.length m.wvs.length) (W.alloc (.cells (madeCells #[.int .i64 0] m.wvs.length) 3)) := by
    intro W
    have := run_make (P := Tryz.prog) W 31 3 ti _ Tryz.underlying31 hi hz0 .i64 .i64 m.wvs.length m.wvs.length (by omega) (by omega) (by rw [hz2]; omega) (by omega)
    simpa [hz1, Value.cells] using this
  clear h6 h7 hr
  go_enter Tryz.func50, Tryz.ntmps50
  go_wp2_with fail
  refine ho.out.mono ?_
  rintro e w1 ⟨D, rfl, hD, hlD, he1⟩
  have hE1 := hE.trans he1
  have hM1 := hM.ext he1
  clear k0 k1 hM hE he1 ho
  have hX : Ext w1 ((w1.alloc (.cells (madeCells #[.int .i64 0] m.wvs.length) 3)).alloc (.cells #[.bool false, .bool false, .bool false, .bool false, .bool false, .bool false] 161)) := (Ext.alloc _ _).trans (Ext.alloc _ _)
  have hS := (Row.made (Blk.new w1 3 (madeCells #[.int .i64 0] m.wvs.length))).ext (Ext.alloc _ (.cells #[.bool false, .bool false, .bool false, .bool false, .bool false, .bool false] 161))
  have hN := Blk.new (w1.alloc (.cells (madeCells #[.int .i64 0] m.wvs.length) 3)) 161 #[.bool false, .bool false, .bool false, .bool false, .bool false, .bool false]
  rw [World.size_alloc] at hN
  have hM2 := hM1.ext hX
  obtain ⟨k0, k1⟩ := hM1.c2
  have k0' := hX.cell k0
  have k1' := hX.cell k1
  have HD := Lib.hid hD; have HM := Lib.hid hM1
  clear k0 hD hM1 hM2
  go_wp2_with fail
  clear k1 k0' k1' hmk
  generalize (w1.alloc _).alloc _ = w2 at *
  have hS0 : Row w2 w1.heap.size m.wvs.length (Pow.shareTo m (Pow.spotL 0)) := hS.congr fun j _ => rfl
  clear hS
  obtain ⟨S, hSe⟩ : ∃ S, w1.heap.size = S := ⟨_, rfl⟩
  rw [hSe] at hS0 hN ⊢
  have hDl : D < S := by have := HD.out.lt; omega
  have HSe := Lib.hid hSe
  go_loopw [29] (fun i wr => ∃ s : Nat, s ≤ m.shafts.length ∧ i = .int .i64 (s : Int) ∧ Ext w1 wr ∧ Row wr S m.wvs.length (Pow.shareTo m (Pow.spotL s)) ∧ Blk wr (S + 1) 161 #[.bool false, .bool false, .bool false, .bool false, .bool false, .bool false]) (fun i _ => m.shafts.length - (intOf i).toNat)
  case atStart => exact ⟨0, Nat.zero_le _, rfl, hX, hS0, hN⟩
  case round =>
    clear hX hS0 hN
    obtain ⟨s, hs, rfl, he, hR, hN⟩ := hrel
    by_cases hlt : s < m.shafts.length
    · obtain ⟨b, o, rfl, s1, s2⟩ := H6.out.ext (hE1.trans he) s hlt
      have hpr := Hm.out.price s hlt
      have hsh : m.shafts[s]?.getD default = m.sh s := rfl
      rw [hsh] at s1 s2
      have hX := Ext.alloc wr (.cells #[.int .i64 (m.sh s).up, .int .i64 (m.sh s).price] 105)
      have hB := Blk.new wr 105 #[.int .i64 (m.sh s).up, .int .i64 (m.sh s).price]
      generalize (m.sh s).up = up at *
      obtain ⟨pr, hpre⟩ : ∃ pr, (m.sh s).price = pr := ⟨_, rfl⟩
      rw [hpre] at s2 hX hB hpr
      have Hpr := Lib.hid hpre
      have heX := he.trans hX
      have hRX := hR.ext hX
      have hNX := hN.ext hX
      have hSwr : S + 1 < wr.heap.size := hN.lt
      clear he hR hN hX hpre
      go_upto_region 9 with fail
      clear s1 s2
      generalize wr.alloc _ = W2 at *
      generalize wr.heap.size = Bs at *
      have hs9 : s < 9 := by omega
      have DW := HD.out.ext heX
      have d0 := DW.drv hs9 (show 0 < 6 by decide)
      have d1 := DW.drv hs9 (show 1 < 6 by decide)
      have d2 := DW.drv hs9 (show 2 < 6 by decide)
      have d3 := DW.drv hs9 (show 3 < 6 by decide)
      have d4 := DW.drv hs9 (show 4 < 6 by decide)
      have d5 := DW.drv hs9 (show 5 < 6 by decide)
      rw [Nat.add_zero] at d0
      have n0 := hNX.cell 0
      have n1 := hNX.cell 1
      have n2 := hNX.cell 2
      have n3 := hNX.cell 3
      have n4 := hNX.cell 4
      have n5 := hNX.cell 5
      simp only [List.getElem?_toArray, List.getElem?_cons_succ, List.getElem?_cons_zero] at n0 n1 n2 n3 n4 n5
      have hnb : Hid ((!drvC m s 0 && !drvC m s 1 && !drvC m s 2 && !drvC m s 3 && !drvC m s 4 && !drvC m s 5) = true ↔ ∀ k, k < 6 → drvC m s k = false) := by
        unfold Hid
        constructor
        · intro h k hk
          simp only [Bool.and_eq_true, Bool.not_eq_true'] at h
          obtain ⟨⟨⟨⟨⟨h0, h1⟩, h2⟩, h3⟩, h4⟩, h5⟩ := h
          match k, hk with
          | 0, _ => exact h0
          | 1, _ => exact h1
          | 2, _ => exact h2
          | 3, _ => exact h3
          | 4, _ => exact h4
          | 5, _ => exact h5
        · intro h
          simp [h 0 (by decide), h 1 (by decide), h 2 (by decide), h 3 (by decide), h 4 (by decide), h 5 (by decide)]
      generalize drvC m s 0 = q0 at d0 hnb
      generalize drvC m s 1 = q1 at d1 hnb
      generalize drvC m s 2 = q2 at d2 hnb
      generalize drvC m s 3 = q3 at d3 hnb
      generalize drvC m s 4 = q4 at d4 hnb
      generalize drvC m s 5 = q5 at d5 hnb
      obtain ⟨q, hq⟩ : ∃ q, (!q0 && !q1 && !q2 && !q3 && !q4 && !q5) = q := ⟨_, rfl⟩
      rw [hq] at hnb
      have heq' := fun W => eql_six q0 q1 q2 q3 q4 q5 W
      rw [hq] at heq'
      have Heq := Lib.hid heq'
      clear hq heq'
      refine wp_region_chain 7 [] [] (by kernel_rfl) (by kernel_rfl) (by kernel_rfl) ?_
      simp only [List.take, List.drop, fill, Act.put, List.setIfInBounds_toArray, List.set_cons_zero, List.set_cons_succ, Nat.reduceAdd]
      repeat (first
        | refine Floats.mut rfl ?_
        | (apply Floats.float rfl
           · intro x W he hd K Q hK
             try (have he := he (by decide); have d0 := he.cell d0; have d1 := he.cell d1; have d2 := he.cell d2; have d3 := he.cell d3; have d4 := he.cell d4; have d5 := he.cell d5; have n0 := he.cell n0; have n1 := he.cell n1; have n2 := he.cell n2; have n3 := he.cell n3; have n4 := he.cell n4; have n5 := he.cell n5)
             try simp only [edges, DepsE, List.filter_cons, List.filter_nil, Region.binds, if_true, and_true, true_and, upd, Nat.reduceEqDiff, if_false] at hd
             try simp only [hd] at hK ⊢
             have HK := Lib.hid hK; clear hK
             go_wp2_with fail
             exact HK.out))
      refine Floats.done fun W he hG => ?_
      refine Chain.nil ?_
      simp only [upd, Nat.reduceEqDiff, if_false, if_true]
      have heW := Heq.out
      have heX2 := heX.trans he
      have hR2 := hRX.ext he
      have hN2 := hNX.ext he
      have hB2 := hB.ext he
      clear heX hRX hNX hB d0 d1 d2 d3 d4 d5 n0 n1 n2 n3 n4 n5 DW he hG Heq
      cases q with
      | true =>
        have hno : ∀ k, k < m.wvs.length → m.drv s k = false := fun k hk => by
          have := hnb.out.1 rfl k (by omega)
          simpa [drvC, hk] using this
        have hR3 := Lib.hid (hR2.congr fun j hj => (Pow.share_nobody hno hj).symm)
        clear hno hR2 hnb
        go_wp2_with fail
        go_roundw
        case rel => exact ⟨s + 1, by omega, by go_num, heX2, hR3.out, hN2⟩
        case measure => simp [intOf]; omega
      | false =>
        clear hnb
        go_wp2_with fail
        clear heW
        have hR3 : Row W S m.wvs.length (Pow.shareTo m (Pow.spotT s 0)) := hR2.congr fun j _ => by rw [Pow.spotT_zero]
        clear hR2
        go_loopw [42] (fun i wr => ∃ h : Nat, h ≤ 24 ∧ i = .int .i64 (h : Int) ∧ Ext w1 wr ∧ Row wr S m.wvs.length (Pow.shareTo m (Pow.spotT s h)) ∧ Blk wr (S + 1) 161 #[.bool false, .bool false, .bool false, .bool false, .bool false, .bool false] ∧ Blk wr Bs 105 #[.int .i64 up, .int .i64 pr]) (fun i _ => 24 - (intOf i).toNat)
        case atStart => exact ⟨0, by omega, rfl, heX2, hR3, hN2, hB2⟩
        case round =>
          clear heX2 hR3 hN2 hB2
          obtain ⟨h, hh, rfl, he, hR, hN, hB⟩ := hrel
          by_cases hlth : h < 24
          · have hal := Lib.hid (allg_any D m Hm.out wr (HD.out.ext he))
            go_wp2_with fail
            refine hal.out.mono ?_
            rintro e w3 ⟨gv, rfl, hg, he3⟩
            obtain ⟨A4, c4, rfl, r1, r2, r3, -, -⟩ := hg.open_
            have hE3 := he.trans he3
            obtain ⟨u, hu⟩ : ∃ u, Pow.cntU m.wvs.length (Pow.usesB m s h) = u := ⟨_, rfl⟩
            have hu6 := Pow.cntU_le m.wvs.length (Pow.usesB m s h)
            rw [hu] at hu6
            have Hu := Lib.hid hu
            have hus := Lib.hid (use_any D m Hm.out A4 c4 (Pow.allI m.wvs.length).length (Pow.allI m.wvs.length) rfl (Pow.all_in m) s h hlt (u : Int) (by rw [Pow.useI_all, hu]) w3 (HD.out.ext hE3) (by rw [allI_len]; unfold maxLen; omega) r3)
            have hR3 : Row w3 S m.wvs.length (fun j => if j < 0 then Pow.shareTo m (Pow.spotT s (h + 1)) j else Pow.shareTo m (Pow.spotT s h) j) := (hR.ext he3).congr fun j _ => by rw [if_neg (by omega)]
            have hN3 := hN.ext he3
            have hB3 := hB.ext he3
            clear hal r3 hg r1 r2 hu he he3 hR hN hB
            go_wp2_with fail
            refine hus.out.mono ?_
            rintro e w4 ⟨rfl, rfl⟩
            clear hus
            obtain ⟨-, k1⟩ := (HM.out.ext hE3).c2
            go_wp2_with fail
            clear k1
            have hm64 : (m.wvs.length : Int) ≤ 6 := by omega
            go_loopw [54] (fun i wr => ∃ k : Nat, k ≤ m.wvs.length ∧ i = .int .i64 (k : Int) ∧ Ext w1 wr ∧ Row wr S m.wvs.length (fun j => if j < k then Pow.shareTo m (Pow.spotT s (h + 1)) j else Pow.shareTo m (Pow.spotT s h) j) ∧ Blk wr (S + 1) 161 #[.bool false, .bool false, .bool false, .bool false, .bool false, .bool false] ∧ Blk wr Bs 105 #[.int .i64 up, .int .i64 pr]) (fun i _ => m.wvs.length - (intOf i).toNat)
            case atStart => exact ⟨0, by omega, rfl, hE3, hR3, hN3, hB3⟩
            case round =>
              clear hE3 hR3 hN3 hB3
              obtain ⟨k, hk, rfl, he, hR, hN, hB⟩ := hrel
              by_cases hltk : k < m.wvs.length
              · have hX := Ext.alloc wr (.cells #[.int .i64 (k : Int)] 3)
                have hI1 : IntsAt (wr.alloc (.cells #[.int .i64 (k : Int)] 3)) (some ⟨wr.heap.size, 0, none⟩) [(k : Int)] := by
                  intro j hj
                  obtain rfl : j = 0 := by simpa using hj
                  exact ⟨_, 0, rfl, (Blk.new wr 3 #[.int .i64 (k : Int)]).c1⟩
                obtain ⟨q, hq⟩ : ∃ q, Pow.usesB m s h k = q := ⟨_, rfl⟩
                have hE := he.trans hX
                obtain ⟨r1, hr1⟩ : ∃ r1, Pow.useI m [(k : Int)] s h = r1 := ⟨_, rfl⟩
                have Hq := Lib.hid hq
                have hone := Pow.useI_one m s h k
                have hle1 := Pow.useI_le m [(k : Int)] s h
                rw [hr1] at hle1
                simp only [List.length_singleton] at hle1
                rw [hr1, hq] at hone
                have hus := Lib.hid (use_any D m Hm.out (some ⟨wr.heap.size, 0, none⟩) 1 1 [(k : Int)] rfl (fun x hx => by rw [List.mem_singleton] at hx; subst hx; omega) s h hlt (r1 : Int) (by rw [hr1]) _ (HD.out.ext hE) (by unfold maxLen; omega) hI1)
                have hsn := Pow.shareTo_snoc m (Pow.spotT s h) (s, h) k
                rw [← Pow.spotT_succ] at hsn
                have hshr : Pow.shr m k (s, h) = if q then 60 * pr / (u : Int) else 0 := by
                  unfold Pow.shr
                  rw [hq, Hu.out, Hpr.out]
                rw [hshr] at hsn
                have hbd1 := Pow.shareTo_bounds Hm.out k (Pow.spotT s h) fun x hx => by
                  unfold Pow.spotT at hx
                  rcases List.mem_append.1 hx with g | g
                  · have := (Pow.mem_spotL (s := x.1) (h := x.2)).1 g; omega
                  · obtain ⟨t, -, rfl⟩ := List.mem_map.1 g; exact hlt
                have hlen : (Pow.spotT s h).length ≤ 300 := by unfold Pow.spotT; rw [List.length_append, spotL_len, List.length_map, List.length_range]; omega
                have hRX := hR.ext hX
                have hNX := hN.ext hX
                have hBX := hB.ext hX
                have hSk : S < wr.heap.size := hR.lt
                clear hI1 hr1 hshr hX he hR hN hB
                go_wp2_with fail
                refine hus.out.mono ?_
                rintro e w5 ⟨rfl, rfl⟩
                generalize wr.alloc _ = W6 at *
                cases q with
                | false =>
                  obtain rfl : r1 = 0 := by simp at hone; omega
                  have hsn' := Lib.hid hsn
                  clear hsn hone hus
                  go_wp2_with fail
                  go_roundw
                  case rel =>
                    refine ⟨k + 1, by omega, by go_num, hE, hRX.congr fun j hj => ?_, hNX, hBX⟩
                    by_cases ej : j = k
                    · subst ej
                      rw [if_neg (by omega), if_pos (by omega), hsn'.out]; simp
                    · by_cases ej2 : j < k
                      · rw [if_pos ej2, if_pos (by omega)]
                      · rw [if_neg ej2, if_neg (by omega)]
                  case measure => simp [intOf]; omega
                | true =>
                  obtain rfl : r1 = 1 := by simp at hone; omega
                  have hu0 : 0 < u := by rw [← Hu.out]; exact Pow.cntU_pos (U := Pow.usesB m s h) hltk Hq.out
                  obtain ⟨old, hold⟩ : ∃ old, Pow.shareTo m (Pow.spotT s h) k = old := ⟨_, rfl⟩
                  rw [hold] at hsn hbd1
                  have hdiv : (60 * pr).tdiv (u : Int) = 60 * pr / (u : Int) := Int.tdiv_eq_ediv_of_nonneg (by omega)
                  obtain ⟨qv, hqv⟩ : ∃ qv, 60 * pr / (u : Int) = qv := ⟨_, rfl⟩
                  have hqb : 0 ≤ qv ∧ qv ≤ 3600 := by
                    rw [← hqv]
                    refine ⟨Int.ediv_nonneg (by omega) (by omega), ?_⟩
                    exact Int.le_trans (Int.ediv_le_self _ (by omega)) (by omega)
                  rw [hqv] at hdiv hsn
                  rw [if_pos rfl] at hsn
                  have hu0' : (u : Int) ≠ 0 := by omega
                  have hud : ((u : Int) == 0) = false := by simpa using hu0'
                  have Hsn := Lib.hid hsn; have Hold := Lib.hid hold
                  have row := hRX.cell hltk
                  simp only [Nat.lt_irrefl, if_false] at row
                  rw [hold] at row
                  obtain ⟨-, p1⟩ := hBX.c2
                  clear hsn hold hqv hone hus
                  go_wp2_with fail
                  refine wp_region_chain 11 [] [] (by kernel_rfl) (by kernel_rfl) (by kernel_rfl) ?_
                  simp only [List.take, List.drop, fill, Act.put, List.setIfInBounds_toArray, List.set_cons_zero, List.set_cons_succ, Nat.reduceAdd]
                  repeat (first
                    | refine Floats.mut rfl ?_
                    | (apply Floats.float rfl
                       · intro x W he hd K Q hK
                         try (have he := he (by decide); have row := he.cell row; have p1 := he.cell p1)
                         try simp only [edges, DepsE, List.filter_cons, List.filter_nil, Region.binds, if_true, and_true, true_and, upd, Nat.reduceEqDiff, if_false] at hd
                         try simp only [hd] at hK ⊢
                         have HK := Lib.hid hK; clear hK
                         go_wp2_with fail
                         exact HK.out))
                  refine Floats.done fun W he hG => ?_
                  refine Chain.nil ?_
                  simp only [upd, Nat.reduceEqDiff, if_false, if_true]
                  have hR7 := hRX.ext he
                  have rowW := hR7.cell hltk
                  simp only [Nat.lt_irrefl, if_false] at rowW
                  have hfr := hR7.frozen k
                  have hE7 := hE.trans he
                  have hN7 := hNX.ext he
                  have hB7 := hBX.ext he
                  clear row p1 hRX hNX hBX hE
                  go_wp2_with fail
                  go_roundw
                  case rel =>
                    refine ⟨k + 1, by omega, by go_num, Below.setCell hE7 (by show _ ≤ S; have := HSe.out; omega) _, (hR7.set_ hltk (old + qv)).congr fun j hj => ?_, hN7.far (by show S + 1 ≠ S; omega) _, hB7.far (by show Bs ≠ S; omega) _⟩
                    by_cases ej : j = k
                    · subst ej
                      rw [if_pos rfl, if_pos (by omega), Hsn.out]
                    · rw [if_neg ej]
                      by_cases ej2 : j < k
                      · rw [if_pos ej2, if_pos (by omega)]
                      · rw [if_neg ej2, if_neg (by omega)]
                  case measure => simp [intOf]; omega
              · obtain rfl : k = m.wvs.length := by omega
                have hR4 := Lib.hid (hR.congr fun j hj => by rw [if_pos hj])
                clear hR
                go_wp2_with fail
                go_roundw
                case rel => exact ⟨h + 1, by omega, by go_num, he, hR4.out, hN, hB⟩
                case measure => simp [intOf]; omega
          · obtain rfl : h = 24 := by omega
            have hR4 := Lib.hid (hR.congr fun j _ => by rw [Pow.spotT_full])
            clear hR
            go_wp2_with fail
            go_roundw
            case rel => exact ⟨s + 1, by omega, by go_num, he, hR4.out, hN⟩
            case measure => simp [intOf]; omega
    · obtain rfl : s = m.shafts.length := by omega
      go_wp2_with fail
      go_ret2
      exact ⟨S, rfl, hR.congr fun j _ => (Pow.share_to m j).symm, by have := hE1.size; have := HSe.out; omega, hE1.trans he⟩
end Go.Proofs.Pet
