/- Joined texts: PB9, PBA, PBB, PBC, PO. -/
import Derived.Test.YtlekonngbmkdbaaGreatJ04
namespace Go.Proofs.Pet
set_option linter.unusedSimpArgs false
open Go Go.RowKit Go.Maps Go.Shelf
open Go.Proofs.Pow (PM Sh Wv POk Up)

theorem Row.own {w : World} {b N base : Nat} {f : Nat → Int} (h : Row w b N f) (hb : base ≤ b) (hN : N ≤ maxLen) : OwnI w base 3 (.slice (some ⟨b, 0, none⟩) N N) ((List.range N).map f) := by
  obtain ⟨cs, h1, h2, h3⟩ := h
  have hlen : ((List.range N).map f).length = N := by simp
  unfold OwnI
  rw [hlen]
  refine ⟨by simp, .inr ⟨b, N, cs, rfl, hb, h1, Nat.le_refl _, hN, by simp [h2], ?_⟩⟩
  apply List.ext_getElem?
  intro i
  rw [Nat.mul_one, List.take_of_length_le (by simp [h2]), Array.getElem?_toList]
  by_cases hi : i < N
  · rw [h3 i hi, List.getElem?_map, List.getElem?_map, List.getElem?_range hi]; rfl
  · rw [Array.getElem?_eq_none (by omega), List.getElem?_eq_none (by simp; omega)]
theorem eql_six (b0 b1 b2 b3 b4 b5 : Bool) (W : World) : (binOp .eql 187 (.agg #[.bool b0, .bool b1, .bool b2, .bool b3, .bool b4, .bool b5]) (.agg #[.bool false, .bool false, .bool false, .bool false, .bool false, .bool false])).run Tryz.prog W = .ok (.bool (!b0 && !b1 && !b2 && !b3 && !b4 && !b5)) W := by
  cases b0 <;> cases b1 <;> cases b2 <;> cases b3 <;> cases b4 <;> cases b5 <;> kernel_rfl
theorem spotL_len : ∀ s, (Pow.spotL s).length = s * 24
  | 0 => rfl
  | s + 1 => by rw [Pow.spotL_succ, List.length_append, spotL_len s, List.length_map, List.length_range]; omega
set_option maxRecDepth 20000 in
set_option maxHeartbeats 2000000 in
theorem shares_any (v : Value) (m : PM) (hr : checkP m = 0) (w : World) (hv : PMVal w v m) :
    Calls Tryz.prog 39 #[v] w fun e w' => ∃ S, e = .returned (.tuple #[.slice (some ⟨S, 0, none⟩) m.wvs.length m.wvs.length, .int .i64 0]) ∧ Row w' S m.wvs.length (Pow.shareP m) ∧ w.heap.size ≤ S ∧ Ext w w' := by
  obtain ⟨ti, hi, hz0, hz1, hz2⟩ := info_parts info_int
  have Hm := Lib.hid ((checkP_iff m).1 hr)
  have hml := Hm.out.few
  have hms := Hm.out.sz
  have Hv := Lib.hid hv
  obtain ⟨A1, c1, A2, c2, rfl, h2, h3, h4, h5, h6, h7⟩ := hv
  have hE := Ext.alloc w (.cells #[.slice A1 m.shafts.length c1, .slice A2 m.wvs.length c2] 56)
  have hM := Blk.new w 56 #[.slice A1 m.shafts.length c1, .slice A2 m.wvs.length c2]
  obtain ⟨k0, k1⟩ := hM.c2
  have ho := Lib.hid (opened_anyP _ m hr _ (Hv.out.ext hE))
  have H6 := Lib.hid h6
  have hmk : ∀ W : World, (Instr.makeSlice 22 (.int .i64 (m.wvs.length : Int)) (.int .i64 (m.wvs.length : Int))).run Tryz.prog W = .ok (.slice (some ⟨W.heap.size, 0, none⟩) m.wvs.length m.wvs.length) (W.alloc (.cells (madeCells #[.int .i64 0] m.wvs.length) 3)) := by
    intro W
    have := run_make (P := Tryz.prog) W 22 3 ti _ Tryz.underlying22 hi hz0 .i64 .i64 m.wvs.length m.wvs.length (by omega) (by omega) (by rw [hz2]; omega) (by omega)
    simpa [hz1, Value.cells] using this
  clear h6 h7 hr
  go_enter Tryz.func39, Tryz.ntmps39
  go_wp2_with fail
  refine ho.out.mono ?_
  rintro e w1 ⟨D, rfl, hD, hlD, he1⟩
  have hE1 := hE.trans he1
  have hM1 := hM.ext he1
  clear k0 k1 hM hE he1 ho
  have hX : Ext w1 ((w1.alloc (.cells (madeCells #[.int .i64 0] m.wvs.length) 3)).alloc (.cells #[.bool false, .bool false, .bool false, .bool false, .bool false, .bool false] 187)) := (Ext.alloc _ _).trans (Ext.alloc _ _)
  have hS := (Row.made (Blk.new w1 3 (madeCells #[.int .i64 0] m.wvs.length))).ext (Ext.alloc _ (.cells #[.bool false, .bool false, .bool false, .bool false, .bool false, .bool false] 187))
  have hN := Blk.new (w1.alloc (.cells (madeCells #[.int .i64 0] m.wvs.length) 3)) 187 #[.bool false, .bool false, .bool false, .bool false, .bool false, .bool false]
  rw [World.size_alloc] at hN
  have hM2 := hM1.ext hX
  obtain ⟨k0, k1⟩ := hM1.c2
  have k0' := hX.cell k0
  have k1' := hX.cell k1
  have HD := Lib.hid hD; have HM := Lib.hid hM1
  clear k0 hD hM1 hM2
  go_wp2_with fail
  clear k1 k0' k1' hmk
  generalize (w1.alloc _).alloc _ = w2 at *
  have hS0 : Row w2 w1.heap.size m.wvs.length (Pow.shareTo m (Pow.spotL 0)) := hS.congr fun j _ => rfl
  clear hS
  obtain ⟨S, hSe⟩ : ∃ S, w1.heap.size = S := ⟨_, rfl⟩
  rw [hSe] at hS0 hN ⊢
  have hDl : D < S := by have := HD.out.lt; omega
  have HSe := Lib.hid hSe
  go_loopw [29] (fun i wr => ∃ s : Nat, s ≤ m.shafts.length ∧ i = .int .i64 (s : Int) ∧ Ext w1 wr ∧ Row wr S m.wvs.length (Pow.shareTo m (Pow.spotL s)) ∧ Blk wr (S + 1) 187 #[.bool false, .bool false, .bool false, .bool false, .bool false, .bool false]) (fun i _ => m.shafts.length - (intOf i).toNat)
  case atStart => exact ⟨0, Nat.zero_le _, rfl, hX, hS0, hN⟩
  case round =>
    clear hX hS0 hN
    obtain ⟨s, hs, rfl, he, hR, hN⟩ := hrel
    by_cases hlt : s < m.shafts.length
    · obtain ⟨b, o, rfl, s1, s2⟩ := H6.out.ext (hE1.trans he) s hlt
      have hpr := Hm.out.price s hlt
      have hsh : m.shafts[s]?.getD default = m.sh s := rfl
      rw [hsh] at s1 s2
      have hX := Ext.alloc wr (.cells #[.int .i64 (m.sh s).up, .int .i64 (m.sh s).price] 84)
      have hB := Blk.new wr 84 #[.int .i64 (m.sh s).up, .int .i64 (m.sh s).price]
      generalize (m.sh s).up = up at *
      obtain ⟨pr, hpre⟩ : ∃ pr, (m.sh s).price = pr := ⟨_, rfl⟩
      rw [hpre] at s2 hX hB hpr
      have Hpr := Lib.hid hpre
      have heX := he.trans hX
      have hRX := hR.ext hX
      have hNX := hN.ext hX
      have hSwr : S + 1 < wr.heap.size := hN.lt
      clear he hR hN hX hpre
      go_upto_region 9 with fail
      clear s1 s2
      generalize wr.alloc _ = W2 at *
      generalize wr.heap.size = Bs at *
      have hs9 : s < 9 := by omega
      have DW := HD.out.ext heX
      have d0 := DW.drv hs9 (show 0 < 6 by decide)
      have d1 := DW.drv hs9 (show 1 < 6 by decide)
      have d2 := DW.drv hs9 (show 2 < 6 by decide)
      have d3 := DW.drv hs9 (show 3 < 6 by decide)
      have d4 := DW.drv hs9 (show 4 < 6 by decide)
      have d5 := DW.drv hs9 (show 5 < 6 by decide)
      rw [Nat.add_zero] at d0
      have n0 := hNX.cell 0
      have n1 := hNX.cell 1
      have n2 := hNX.cell 2
      have n3 := hNX.cell 3
      have n4 := hNX.cell 4
      have n5 := hNX.cell 5
      simp only [List.getElem?_toArray, List.getElem?_cons_succ, List.getElem?_cons_zero] at n0 n1 n2 n3 n4 n5
      have hnb : Hid ((!drvC m s 0 && !drvC m s 1 && !drvC m s 2 && !drvC m s 3 && !drvC m s 4 && !drvC m s 5) = true ↔ ∀ k, k < 6 → drvC m s k = false) := by
        unfold Hid
        constructor
        · intro h k hk
          simp only [Bool.and_eq_true, Bool.not_eq_true'] at h
          obtain ⟨⟨⟨⟨⟨h0, h1⟩, h2⟩, h3⟩, h4⟩, h5⟩ := h
          match k, hk with
          | 0, _ => exact h0
          | 1, _ => exact h1
          | 2, _ => exact h2
          | 3, _ => exact h3
          | 4, _ => exact h4
          | 5, _ => exact h5
        · intro h
          simp [h 0 (by decide), h 1 (by decide), h 2 (by decide), h 3 (by decide), h 4 (by decide), h 5 (by decide)]
      generalize drvC m s 0 = q0 at d0 hnb
      generalize drvC m s 1 = q1 at d1 hnb
      generalize drvC m s 2 = q2 at d2 hnb
      generalize drvC m s 3 = q3 at d3 hnb
      generalize drvC m s 4 = q4 at d4 hnb
      generalize drvC m s 5 = q5 at d5 hnb
      obtain ⟨q, hq⟩ : ∃ q, (!q0 && !q1 && !q2 && !q3 && !q4 && !q5) = q := ⟨_, rfl⟩
      rw [hq] at hnb
      have heq' := fun W => eql_six q0 q1 q2 q3 q4 q5 W
      rw [hq] at heq'
      have Heq := Lib.hid heq'
      clear hq heq'
      refine wp_region_chain 7 [] [] (by kernel_rfl) (by kernel_rfl) (by kernel_rfl) ?_
      simp only [List.take, List.drop, fill, Act.put, List.setIfInBounds_toArray, List.set_cons_zero, List.set_cons_succ, Nat.reduceAdd]
      repeat (first
        | refine Floats.mut rfl ?_
        | (apply Floats.float rfl
           · intro x W he hd K Q hK
             try (have he := he (by decide); have d0 := he.cell d0; have d1 := he.cell d1; have d2 := he.cell d2; have d3 := he.cell d3; have d4 := he.cell d4; have d5 := he.cell d5; have n0 := he.cell n0; have n1 := he.cell n1; have n2 := he.cell n2; have n3 := he.cell n3; have n4 := he.cell n4; have n5 := he.cell n5)
             try simp only [edges, DepsE, List.filter_cons, List.filter_nil, Region.binds, if_true, and_true, true_and, upd, Nat.reduceEqDiff, if_false] at hd
             try simp only [hd] at hK ⊢
             have HK := Lib.hid hK; clear hK
             go_wp2_with fail
             exact HK.out))
      refine Floats.done fun W he hG => ?_
      refine Chain.nil ?_
      simp only [upd, Nat.reduceEqDiff, if_false, if_true]
      have heW := Heq.out
      have heX2 := heX.trans he
      have hR2 := hRX.ext he
      have hN2 := hNX.ext he
      have hB2 := hB.ext he
      clear heX hRX hNX hB d0 d1 d2 d3 d4 d5 n0 n1 n2 n3 n4 n5 DW he hG Heq
      cases q with
      | true =>
        have hno : ∀ k, k < m.wvs.length → m.drv s k = false := fun k hk => by
          have := hnb.out.1 rfl k (by omega)
          simpa [drvC, hk] using this
        have hR3 := Lib.hid (hR2.congr fun j hj => (Pow.share_nobody hno hj).symm)
        clear hno hR2 hnb
        go_wp2_with fail
        go_roundw
        case rel => exact ⟨s + 1, by omega, by go_num, heX2, hR3.out, hN2⟩
        case measure => simp [intOf]; omega
      | false =>
        clear hnb
        go_wp2_with fail
        clear heW
        have hR3 : Row W S m.wvs.length (Pow.shareTo m (Pow.spotT s 0)) := hR2.congr fun j _ => by rw [Pow.spotT_zero]
        clear hR2
        go_loopw [42] (fun i wr => ∃ h : Nat, h ≤ 24 ∧ i = .int .i64 (h : Int) ∧ Ext w1 wr ∧ Row wr S m.wvs.length (Pow.shareTo m (Pow.spotT s h)) ∧ Blk wr (S + 1) 187 #[.bool false, .bool false, .bool false, .bool false, .bool false, .bool false] ∧ Blk wr Bs 84 #[.int .i64 up, .int .i64 pr]) (fun i _ => 24 - (intOf i).toNat)
        case atStart => exact ⟨0, by omega, rfl, heX2, hR3, hN2, hB2⟩
        case round =>
          clear heX2 hR3 hN2 hB2
          obtain ⟨h, hh, rfl, he, hR, hN, hB⟩ := hrel
          by_cases hlth : h < 24
          · have hal := Lib.hid (allg_any D m Hm.out wr (HD.out.ext he))
            go_wp2_with fail
            refine hal.out.mono ?_
            rintro e w3 ⟨gv, rfl, hg, he3⟩
            obtain ⟨A4, c4, rfl, r1, r2, r3, -, -⟩ := hg.open_
            have hE3 := he.trans he3
            obtain ⟨u, hu⟩ : ∃ u, Pow.cntU m.wvs.length (Pow.usesB m s h) = u := ⟨_, rfl⟩
            have hu6 := Pow.cntU_le m.wvs.length (Pow.usesB m s h)
            rw [hu] at hu6
            have Hu := Lib.hid hu
            have hus := Lib.hid (use_any D m Hm.out A4 c4 (Pow.allI m.wvs.length).length (Pow.allI m.wvs.length) rfl (Pow.all_in m) s h hlt (u : Int) (by rw [Pow.useI_all, hu]) w3 (HD.out.ext hE3) (by rw [allI_len]; unfold maxLen; omega) r3)
            have hR3 : Row w3 S m.wvs.length (fun j => if j < 0 then Pow.shareTo m (Pow.spotT s (h + 1)) j else Pow.shareTo m (Pow.spotT s h) j) := (hR.ext he3).congr fun j _ => by rw [if_neg (by omega)]
            have hN3 := hN.ext he3
            have hB3 := hB.ext he3
            clear hal r3 hg r1 r2 hu he he3 hR hN hB
            go_wp2_with fail
            refine hus.out.mono ?_
            rintro e w4 ⟨rfl, rfl⟩
            clear hus
            obtain ⟨-, k1⟩ := (HM.out.ext hE3).c2
            go_wp2_with fail
            clear k1
            have hm64 : (m.wvs.length : Int) ≤ 6 := by omega
            go_loopw [54] (fun i wr => ∃ k : Nat, k ≤ m.wvs.length ∧ i = .int .i64 (k : Int) ∧ Ext w1 wr ∧ Row wr S m.wvs.length (fun j => if j < k then Pow.shareTo m (Pow.spotT s (h + 1)) j else Pow.shareTo m (Pow.spotT s h) j) ∧ Blk wr (S + 1) 187 #[.bool false, .bool false, .bool false, .bool false, .bool false, .bool false] ∧ Blk wr Bs 84 #[.int .i64 up, .int .i64 pr]) (fun i _ => m.wvs.length - (intOf i).toNat)
            case atStart => exact ⟨0, by omega, rfl, hE3, hR3, hN3, hB3⟩
            case round =>
              clear hE3 hR3 hN3 hB3
              obtain ⟨k, hk, rfl, he, hR, hN, hB⟩ := hrel
              by_cases hltk : k < m.wvs.length
              · have hX := Ext.alloc wr (.cells #[.int .i64 (k : Int)] 3)
                have hI1 : IntsAt (wr.alloc (.cells #[.int .i64 (k : Int)] 3)) (some ⟨wr.heap.size, 0, none⟩) [(k : Int)] := by
                  intro j hj
                  obtain rfl : j = 0 := by simpa using hj
                  exact ⟨_, 0, rfl, (Blk.new wr 3 #[.int .i64 (k : Int)]).c1⟩
                obtain ⟨q, hq⟩ : ∃ q, Pow.usesB m s h k = q := ⟨_, rfl⟩
                have hE := he.trans hX
                obtain ⟨r1, hr1⟩ : ∃ r1, Pow.useI m [(k : Int)] s h = r1 := ⟨_, rfl⟩
                have Hq := Lib.hid hq
                have hone := Pow.useI_one m s h k
                have hle1 := Pow.useI_le m [(k : Int)] s h
                rw [hr1] at hle1
                simp only [List.length_singleton] at hle1
                rw [hr1, hq] at hone
                have hus := Lib.hid (use_any D m Hm.out (some ⟨wr.heap.size, 0, none⟩) 1 1 [(k : Int)] rfl (fun x hx => by rw [List.mem_singleton] at hx; subst hx; omega) s h hlt (r1 : Int) (by rw [hr1]) _ (HD.out.ext hE) (by unfold maxLen; omega) hI1)
                have hsn := Pow.shareTo_snoc m (Pow.spotT s h) (s, h) k
                rw [← Pow.spotT_succ] at hsn
                have hshr : Pow.shr m k (s, h) = if q then 60 * pr / (u : Int) else 0 := by
                  unfold Pow.shr
                  rw [hq, Hu.out, Hpr.out]
                rw [hshr] at hsn
                have hbd1 := Pow.shareTo_bounds Hm.out k (Pow.spotT s h) fun x hx => by
                  unfold Pow.spotT at hx
                  rcases List.mem_append.1 hx with g | g
                  · have := (Pow.mem_spotL (s := x.1) (h := x.2)).1 g; omega
                  · obtain ⟨t, -, rfl⟩ := List.mem_map.1 g; exact hlt
                have hlen : (Pow.spotT s h).length ≤ 300 := by unfold Pow.spotT; rw [List.length_append, spotL_len, List.length_map, List.length_range]; omega
                have hRX := hR.ext hX
                have hNX := hN.ext hX
                have hBX := hB.ext hX
                have hSk : S < wr.heap.size := hR.lt
                clear hI1 hr1 hshr hX he hR hN hB
                go_wp2_with fail
                refine hus.out.mono ?_
                rintro e w5 ⟨rfl, rfl⟩
                generalize wr.alloc _ = W6 at *
                cases q with
                | false =>
                  obtain rfl : r1 = 0 := by simp at hone; omega
                  have hsn' := Lib.hid hsn
                  clear hsn hone hus
                  go_wp2_with fail
                  go_roundw
                  case rel =>
                    refine ⟨k + 1, by omega, by go_num, hE, hRX.congr fun j hj => ?_, hNX, hBX⟩
                    by_cases ej : j = k
                    · subst ej
                      rw [if_neg (by omega), if_pos (by omega), hsn'.out]; simp
                    · by_cases ej2 : j < k
                      · rw [if_pos ej2, if_pos (by omega)]
                      · rw [if_neg ej2, if_neg (by omega)]
                  case measure => simp [intOf]; omega
                | true =>
                  obtain rfl : r1 = 1 := by simp at hone; omega
                  have hu0 : 0 < u := by rw [← Hu.out]; exact Pow.cntU_pos (U := Pow.usesB m s h) hltk Hq.out
                  obtain ⟨old, hold⟩ : ∃ old, Pow.shareTo m (Pow.spotT s h) k = old := ⟨_, rfl⟩
                  rw [hold] at hsn hbd1
                  have hdiv : (60 * pr).tdiv (u : Int) = 60 * pr / (u : Int) := Int.tdiv_eq_ediv_of_nonneg (by omega)
                  obtain ⟨qv, hqv⟩ : ∃ qv, 60 * pr / (u : Int) = qv := ⟨_, rfl⟩
                  have hqb : 0 ≤ qv ∧ qv ≤ 3600 := by
                    rw [← hqv]
                    refine ⟨Int.ediv_nonneg (by omega) (by omega), ?_⟩
                    exact Int.le_trans (Int.ediv_le_self _ (by omega)) (by omega)
                  rw [hqv] at hdiv hsn
                  rw [if_pos rfl] at hsn
                  have hu0' : (u : Int) ≠ 0 := by omega
                  have hud : ((u : Int) == 0) = false := by simpa using hu0'
                  have Hsn := Lib.hid hsn; have Hold := Lib.hid hold
                  have row := hRX.cell hltk
                  simp only [Nat.lt_irrefl, if_false] at row
                  rw [hold] at row
                  obtain ⟨-, p1⟩ := hBX.c2
                  clear hsn hold hqv hone hus
                  go_wp2_with fail
                  refine wp_region_chain 11 [] [] (by kernel_rfl) (by kernel_rfl) (by kernel_rfl) ?_
                  simp only [List.take, List.drop, fill, Act.put, List.setIfInBounds_toArray, List.set_cons_zero, List.set_cons_succ, Nat.reduceAdd]
                  repeat (first
                    | refine Floats.mut rfl ?_
                    | (apply Floats.float rfl
                       · intro x W he hd K Q hK
                         try (have he := he (by decide); have row := he.cell row; have p1 := he.cell p1)
                         try simp only [edges, DepsE, List.filter_cons, List.filter_nil, Region.binds, if_true, and_true, true_and, upd, Nat.reduceEqDiff, if_false] at hd
                         try simp only [hd] at hK ⊢
                         have HK := Lib.hid hK; clear hK
                         go_wp2_with fail
                         exact HK.out))
                  refine Floats.done fun W he hG => ?_
                  refine Chain.nil ?_
                  simp only [upd, Nat.reduceEqDiff, if_false, if_true]
                  have hR7 := hRX.ext he
                  have rowW := hR7.cell hltk
                  simp only [Nat.lt_irrefl, if_false] at rowW
                  have hfr := hR7.frozen k
                  have hE7 := hE.trans he
                  have hN7 := hNX.ext he
                  have hB7 := hBX.ext he
                  clear row p1 hRX hNX hBX hE
                  go_wp2_with fail
                  go_roundw
                  case rel =>
                    refine ⟨k + 1, by omega, by go_num, Below.setCell hE7 (by show _ ≤ S; have := HSe.out; omega) _, (hR7.set_ hltk (old + qv)).congr fun j hj => ?_, hN7.far (by show S + 1 ≠ S; omega) _, hB7.far (by show Bs ≠ S; omega) _⟩
                    by_cases ej : j = k
                    · subst ej
                      rw [if_pos rfl, if_pos (by omega), Hsn.out]
                    · rw [if_neg ej]
                      by_cases ej2 : j < k
                      · rw [if_pos ej2, if_pos (by omega)]
                      · rw [if_neg ej2, if_neg (by omega)]
                  case measure => simp [intOf]; omega
              · obtain rfl : k = m.wvs.length := by omega
                have hR4 := Lib.hid (hR.congr fun j hj => by rw [if_pos hj])
                clear hR
                go_wp2_with fail
                go_roundw
                case rel => exact ⟨h + 1, by omega, by go_num, he, hR4.out, hN, hB⟩
                case measure => simp [intOf]; omega
          · obtain rfl : h = 24 := by omega
            have hR4 := Lib.hid (hR.congr fun j _ => by rw [Pow.spotT_full])
            clear hR
            go_wp2_with fail
            go_roundw
            case rel => exact ⟨s + 1, by omega, by go_num, he, hR4.out, hN⟩
            case measure => simp [intOf]; omega
    · obtain rfl : s = m.shafts.length := by omega
      go_wp2_with fail
      go_ret2
      exact ⟨S, rfl, hR.congr fun j _ => (Pow.share_to m j).symm, by have := hE1.size; have := HSe.out; omega, hE1.trans he⟩
end Go.Proofs.Pet

namespace Go.Proofs.Pet
open Go Go.RowKit Go.Maps Go.Shelf
open Go.Proofs.Pow (PM Sh Wv POk Up)

/-- the error of Better, and its group -/
def bettE (m : PM) (sh : List Int) : Int := if sharedE m sh ≠ 0 then sharedE m sh else if (Pow.firstF m.wvs.length (Pow.moreB m sh)).isNone then 6 else 0
def bettL (m : PM) (sh : List Int) : List Int := if sharedE m sh ≠ 0 then [] else ints ((Pow.firstF m.wvs.length (Pow.moreB m sh)).getD [])
set_option maxRecDepth 20000 in
theorem Better_any (v : Value) (m : PM) (A : Option Addr) (c n : Nat) (sh : List Int) (hn : sh.length = n) (r : Int) (x : List Int) (hr : bettE m sh = r) (hx : bettL m sh = x) (w : World) (hv : PMVal w v m) (hl : n ≤ maxLen) (hA : IntsAt w A sh) :
    Calls Tryz.prog 99 #[v, .slice A n c] w fun e w' => ∃ u, e = .returned (.tuple #[u, .int .i64 r]) ∧ OwnI w' w.heap.size 3 u x ∧ Ext w w' := by
  have Hv := Lib.hid hv
  obtain ⟨A1, c1, A2, c2, rfl, h2, h3, h4, h5, h6, h7⟩ := hv
  have hE := Ext.alloc w (.cells #[.slice A1 m.shafts.length c1, .slice A2 m.wvs.length c2] 56)
  obtain ⟨k0, k1⟩ := (Blk.new w 56 #[.slice A1 m.shafts.length c1, .slice A2 m.wvs.length c2]).c2
  obtain ⟨r0, hr0⟩ : ∃ r0, sharedE m sh = r0 := ⟨_, rfl⟩
  have ho := Lib.hid (shared_anyP _ m A c n sh hn r0 hr0 _ (Hv.out.ext hE) hl (hA.ext hE))
  clear h6 h7
  go_enter Tryz.func99, Tryz.ntmps99
  go_wp2_with fail
  refine ho.out.mono ?_
  rintro e w1 ⟨pv, rfl, he1, hop⟩
  have hE1 := hE.trans he1
  by_cases h0 : r0 = 0
  · subst h0
    subst hn
    obtain ⟨D, rfl, hD, -⟩ := hop rfl
    obtain ⟨hc, hle, hsb⟩ := sharedE_ok hr0
    have hm := (checkP_iff m).1 hc
    have hbe := Lib.hid (bett_any D m hm A c _ sh rfl hle hsb w1 (hA.ext hE1) hD)
    unfold bettE at hr
    unfold bettL at hx
    rw [if_neg (by simp [hr0])] at hr hx
    have Hr := Lib.hid hr; have Hx := Lib.hid hx
    clear hx hr hr0 hD hc hA ho hle hsb hm hop
    go_wp2_with fail
    refine hbe.out.mono ?_
    rintro e w2 ⟨A3, k3, c3, rfl, he2, hf⟩
    have hE2 := hE1.trans he2
    have hsz := hE1.size
    cases hq : Pow.firstF m.wvs.length (Pow.moreB m sh) with
    | none =>
      obtain rfl : r = 6 := by rw [← Hr.out, hq]; rfl
      obtain rfl : x = [] := by rw [← Hx.out, hq]; rfl
      rw [Option.isSome_none]
      clear hf hq Hr Hx hbe
      go_wp2_with fail
      go_ret2
      exact ⟨_, rfl, OwnI.nil _ _ _, hE2⟩
    | some l =>
      obtain rfl : r = 0 := by rw [← Hr.out, hq]; rfl
      obtain rfl : x = ints l := by rw [← Hx.out, hq]; rfl
      have hO := (hf l hq).mono hsz
      rw [Option.isSome_some]
      clear hf hq Hr Hx hbe
      go_wp2_with fail
      go_ret2
      exact ⟨_, rfl, hO, hE2⟩
  · have hd : (r0 != 0) = true := by simpa using h0
    unfold bettE at hr
    unfold bettL at hx
    rw [if_pos (by rw [hr0]; exact h0)] at hr hx
    obtain rfl : r0 = r := hr0.symm.trans hr
    subst hx
    clear hr hr0 hA ho h0 hop
    go_wp2_with fail
    go_ret2
    exact ⟨_, rfl, OwnI.nil _ _ _, hE1⟩

def runsL (m : PM) (h : Int) (k : Nat) : List Int := ints ((List.range k).filter fun s => Pow.runsB m s h.toNat)
def runsE (m : PM) (h : Int) : Int := if checkP m ≠ 0 then checkP m else if inB h 0 23 = false then 3 else 0
end Go.Proofs.Pet

namespace Go.Proofs.Pet
set_option linter.unusedSimpArgs false
open Go Go.RowKit Go.Maps Go.Shelf
open Go.Proofs.Pow (PM Sh Wv POk Up)

def natL (g : List Int) : List Nat := g.map Int.toNat
theorem ints_natL {m : PM} {g : List Int} (h : Pow.InG m g) : ints (natL g) = g := by
  unfold ints natL
  rw [List.map_map]
  refine (List.map_congr_left fun x hx => ?_).trans (List.map_id g)
  have := h x hx
  show ((x.toNat : Nat) : Int) = id x
  simp only [id]
  omega
theorem natL_ints (l : List Nat) : natL (ints l) = l := by
  unfold ints natL
  rw [List.map_map]
  exact (List.map_congr_left fun x _ => rfl).trans (List.map_id l)
theorem nodup_all {n : Nat} {l : List Nat} (hn : l.Nodup) (hl : l.length = n) (hb : ∀ x, x ∈ l → x < n) {k : Nat} (hk : k < n) : k ∈ l := by
  by_cases h : k ∈ l
  · exact h
  · have := Pow.nodup_le (r := List.range n) (List.nodup_cons.2 ⟨h, hn⟩) fun x hx => by
      rcases List.mem_cons.1 hx with rfl | hx
      · exact List.mem_range.2 hk
      · exact List.mem_range.2 (hb x hx)
    rw [List.length_cons, List.length_range] at this
    omega
def addsE (m : PM) (g : List Int) : Int := if checkP m ≠ 0 then checkP m else if g.length ≠ m.wvs.length then 2 else groupE m g
/-- what has been written down after i of them -/
def addR (m : PM) (l : List Nat) (i k : Nat) : Int := if (l.take i).contains k then Pow.addF m l (l.findIdx fun x => decide (x = k)) else 0
theorem addR_zero (m : PM) (l : List Nat) (k : Nat) : addR m l 0 k = 0 := by simp [addR]
theorem addR_next {m : PM} {l : List Nat} (hn : l.Nodup) {i : Nat} (hi : i < l.length) (k : Nat) : (if k = l[i] then Pow.addF m l i else addR m l i k) = addR m l (i + 1) k := by
  unfold addR
  have ht : l.take (i + 1) = l.take i ++ [l[i]] := by rw [List.take_add_one, List.getElem?_eq_getElem hi]; rfl
  rw [ht]
  by_cases e : k = l[i]
  · subst e
    rw [if_pos rfl, if_pos (List.contains_iff_mem.2 (List.mem_append.2 (.inr (List.mem_singleton.2 rfl)))), Pow.findIdx_at hn hi]
  · rw [if_neg e]
    have : (l.take i ++ [l[i]]).contains k = (l.take i).contains k := by
      rw [Bool.eq_iff_iff, List.contains_iff_mem, List.contains_iff_mem, List.mem_append, List.mem_singleton]
      exact ⟨fun h => h.resolve_right e, .inl⟩
    rw [this]
theorem addR_all {m : PM} {l : List Nat} (_hl : l.length = m.wvs.length) (hall : ∀ k, k < m.wvs.length → k ∈ l) : (List.range m.wvs.length).map (addR m l l.length) = Pow.addsF m l := by
  unfold Pow.addsF
  refine List.map_congr_left fun k hk => ?_
  unfold addR
  rw [List.take_of_length_le (Nat.le_refl _), if_pos (by rw [List.contains_iff_mem]; exact hall k (List.mem_range.1 hk))]

set_option maxRecDepth 20000 in
set_option maxHeartbeats 1000000 in
theorem Adds_any (v : Value) (m : PM) (A : Option Addr) (c n : Nat) (g : List Int) (hn : g.length = n) (r : Int) (x : List Int) (hr : addsE m g = r) (hx : (if r = 0 then Pow.addsF m (natL g) else []) = x) (w : World) (hv : PMVal w v m) (hl : n ≤ maxLen) (hlc : n ≤ c) (hA : IntsAt w A g) :
    Calls Tryz.prog 32 #[v, .slice A n c] w fun e w' => ∃ u, e = .returned (.tuple #[u, .int .i64 r]) ∧ OwnI w' w.heap.size 3 u x ∧ Ext w w' := by
  obtain ⟨ti, hi, hz0, hz1, hz2⟩ := info_parts info_int
  subst hn
  have hl' := hl
  unfold maxLen at hl'
  have Hv := Lib.hid hv
  obtain ⟨A1, c1, A2, c2, rfl, h2, h3, h4, h5, h6, h7⟩ := hv
  have hwl : m.wvs.length ≤ maxLen := Nat.le_trans h4 h5
  unfold maxLen at hwl
  have hE := Ext.alloc w (.cells #[.slice A1 m.shafts.length c1, .slice A2 m.wvs.length c2] 56)
  have hM := Blk.new w 56 #[.slice A1 m.shafts.length c1, .slice A2 m.wvs.length c2]
  obtain ⟨k0, k1⟩ := hM.c2
  have HM := Lib.hid hM
  have Hr := Lib.hid hr; have Hx := Lib.hid hx
  have hck := pcheck_any _ m _ (Hv.out.ext hE)
  obtain ⟨cp, hcp⟩ : ∃ cp, checkP m = cp := ⟨_, rfl⟩
  rw [hcp] at hck
  have Hck := Lib.hid hck; have Hcp := Lib.hid hcp
  clear h6 h7 hM hr hx hck hcp
  go_enter Tryz.func32, Tryz.ntmps32
  go_wp2_with fail
  refine Hck.out.mono ?_
  rintro e w1 ⟨rfl, he1⟩
  have hE1 := hE.trans he1
  have hM1 := HM.out.ext he1
  clear k0 k1 he1
  obtain ⟨k0, k1⟩ := hM1.c2
  by_cases h0 : cp = 0
  · subst h0
    by_cases hle : g.length = m.wvs.length
    · have Hle := Lib.hid hle
      have hdl : ((g.length : Int) != (m.wvs.length : Int)) = false := by rw [hle]; simp
      clear hle
      obtain ⟨r0, hr0⟩ : ∃ r0, groupE m g = r0 := ⟨_, rfl⟩
      have ho := Lib.hid (grouped_any _ m A c g.length g rfl r0 hr0 w1 (Hv.out.ext hE1) hl hlc (hA.ext hE1))
      have Hr0 := Lib.hid hr0; clear hr0
      obtain rfl : r = r0 := by rw [← Hr.out, ← Hr0.out]; unfold addsE; rw [if_neg (by simp [Hcp.out]), if_neg (by simp [Hle.out])]
      go_wp2_with fail
      refine ho.out.mono ?_
      rintro e w2 ⟨pv, rfl, he2, hop⟩
      have hE2 := hE1.trans he2
      by_cases h0 : r = 0
      · subst h0
        obtain ⟨D, rfl, hD, -⟩ := hop rfl
        obtain ⟨hc, hg, hnd, hl6⟩ := groupE_ok Hr0.out
        have hm := (checkP_iff m).1 hc
        have HD := Lib.hid hD; have HA := Lib.hid (hA.ext hE2); have Hm := Lib.hid hm
        have hgl : ints (natL g) = g := ints_natL hg
        have hnl : (natL g).length = g.length := by simp [natL]
        have hndl : (natL g).Nodup := by
          rw [← hgl] at hnd
          exact (List.pairwise_map.1 hnd).imp fun h e => h (congrArg _ e)
        have Hx' : Hid (Pow.addsF m (natL g) = x) := by unfold Hid; rw [← Hx.out, if_pos rfl]
        have hbl : ∀ k, k ∈ natL g → k < m.wvs.length := fun k hk => by
          unfold natL at hk
          obtain ⟨y, hy, rfl⟩ := List.mem_map.1 hk
          have := hg y hy; omega
        have Hg := Lib.hid hg; have Hgl := Lib.hid hgl; have Hnl := Lib.hid hnl; have Hndl := Lib.hid hndl; have Hbl := Lib.hid hbl
        have hmk : ∀ W : World, (Instr.makeSlice 22 (.int .i64 (g.length : Int)) (.int .i64 (g.length : Int))).run Tryz.prog W = .ok (.slice (some ⟨W.heap.size, 0, none⟩) g.length g.length) (W.alloc (.cells (madeCells #[.int .i64 0] g.length) 3)) := by
          intro W
          have := run_make (P := Tryz.prog) W 22 3 ti _ Tryz.underlying22 hi hz0 .i64 .i64 g.length g.length (by omega) (by omega) (by rw [hz2]; omega) (by omega)
          simpa [hz1, Value.cells] using this
        have hX := Ext.alloc w2 (.cells (madeCells #[.int .i64 0] g.length) 3)
        have hS := Row.made (Blk.new w2 3 (madeCells #[.int .i64 0] g.length))
        clear hD hc hA ho hop hm hgl hnl hndl hbl hg hnd hdl k0 k1
        go_wp2_with fail
        clear hmk
        obtain ⟨S, hSe⟩ : ∃ S, w2.heap.size = S := ⟨_, rfl⟩
        rw [hSe] at hS ⊢
        have hS0 := hS.congr (g := addR m (natL g) 0) fun j _ => (addR_zero m _ j).symm
        generalize w2.alloc _ = w3 at *
        have HSe := Lib.hid hSe
        clear hS hSe
        go_loopw [37] (fun i wr => ∃ k : Nat, k ≤ g.length ∧ i = .int .i64 (k : Int) ∧ Ext w2 wr ∧ Row wr S g.length (addR m (natL g) k)) (fun i _ => g.length - (intOf i).toNat)
        case atStart => exact ⟨0, Nat.zero_le _, rfl, hX, hS0⟩
        case round =>
          clear hX hS0
          obtain ⟨i, hi', rfl, hew, hR⟩ := hrel
          by_cases hlt : i < g.length
          · obtain ⟨b, o, rfl, q1⟩ := HA.out.ext hew i hlt
            have hil : i < (natL g).length := by rw [Hnl.out]; exact hlt
            obtain ⟨kk, hkk⟩ : ∃ kk, (natL g)[i] = kk := ⟨_, rfl⟩
            have hgi : g[i]?.getD 0 = (kk : Int) := by
              rw [← Hgl.out, ints_get _ hil, List.getElem?_eq_getElem hil, ← hkk]; rfl
            rw [hgi] at q1
            have hkl : kk < m.wvs.length := Hbl.out kk (hkk ▸ List.getElem_mem hil)
            have hkl' : kk < g.length := by rw [Hle.out]; exact hkl
            have Hnx : Hid (∀ k, (if k = kk then Pow.addF m (natL g) i else addR m (natL g) i k) = addR m (natL g) (i + 1) k) := fun k => by rw [← hkk]; exact addR_next Hndl.out hil k
            have hca := Pow.cost_bounds Hm.out (Pow.befB (natL g) (i + 1))
            have hcb := Pow.cost_bounds Hm.out (Pow.befB (natL g) i)
            have hck : ∀ j, Pow.costF m (fun k => (g.take j).contains (k : Int)) = Pow.costF m (Pow.befB (natL g) j) := fun j => by
              congr 1
              funext k
              have : g.take j = ints ((natL g).take j) := by
                conv => lhs; rw [← Hgl.out]
                unfold ints; rw [List.map_take]
              rw [this, ints_contains]; rfl
            have Hadd : Hid (Pow.addF m (natL g) i = Pow.costF m (Pow.befB (natL g) (i + 1)) - Pow.costF m (Pow.befB (natL g) i)) := rfl
            obtain ⟨ca, hcae⟩ : ∃ ca, Pow.costF m (Pow.befB (natL g) (i + 1)) = ca := ⟨_, rfl⟩
            obtain ⟨cb, hcbe⟩ : ∃ cb, Pow.costF m (Pow.befB (natL g) i) = cb := ⟨_, rfl⟩
            rw [hcae] at hca Hadd
            rw [hcbe] at hcb Hadd
            have HcA := fun W (hW : Ext w2 W) => cost_anyP D m Hm.out (some ⟨b, o, none⟩) c (i + 1) (g.take (i + 1)) (by rw [List.length_take]; omega) (fun y hy => Hg.out y (List.mem_of_mem_take hy)) (by omega) ca ((hck _).trans hcae) W (HD.out.ext hW) ((HA.out.ext hW).take (i + 1))
            have HcB := fun W (hW : Ext w2 W) => cost_anyP D m Hm.out (some ⟨b, o, none⟩) c i (g.take i) (by rw [List.length_take]; omega) (fun y hy => Hg.out y (List.mem_of_mem_take hy)) (by omega) cb ((hck _).trans hcbe) W (HD.out.ext hW) ((HA.out.ext hW).take i)
            have HCA := Lib.hid HcA; have HCB := Lib.hid HcB
            have hic : i + 1 ≤ c := by omega
            clear HcA HcB hck hcae hcbe hkk hgi
            go_upto_region 13 with fail
            clear q1
            refine wp_region_chain 14 [(7, true), (12, true), (13, true)] [] (by kernel_rfl) (by kernel_rfl) (by kernel_rfl) ?_
            simp only [List.take, List.drop, fill, Act.put, List.setIfInBounds_toArray, List.set_cons_zero, List.set_cons_succ, Nat.reduceAdd]
            repeat (first
              | refine Floats.mut rfl ?_
              | (apply Floats.float rfl
                 · intro x W he hd K Q hK
                   try (have he := he (by decide))
                   try simp only [edges, DepsE, List.filter_cons, List.filter_nil, Region.binds, if_true, and_true, true_and, upd, Nat.reduceEqDiff, if_false] at hd
                   try simp only [hd] at hK ⊢
                   have HK := Lib.hid hK; clear hK
                   go_wp2_with fail
                   exact HK.out))
            refine Floats.done fun W he hG => ?_
            refine Chain.cons _ rfl ?_
            intro x hd K Q hK
            try simp only [edges, DepsE, List.filter_cons, List.filter_nil, Region.binds, if_true, and_true, true_and, upd, Nat.reduceEqDiff, if_false] at hd
            try simp only [hd] at hK ⊢
            clear hd
            have HK := Lib.hid hK; clear hK
            go_wp2_with fail
            refine (HCA.out W (hew.trans he)).mono ?_
            rintro e w4 ⟨rfl, he4⟩
            have hA4 := he.trans he4
            go_wp2_with fail
            refine HK.out _ _ (fun _ => hA4) ?_
            clear HK he he4 hG
            refine Chain.cons _ rfl ?_
            intro x hd K Q hK
            try simp only [edges, DepsE, List.filter_cons, List.filter_nil, Region.binds, if_true, and_true, true_and, upd, Nat.reduceEqDiff, if_false] at hd
            try simp only [hd] at hK ⊢
            clear hd
            have HK := Lib.hid hK; clear hK
            go_wp2_with fail
            refine (HCB.out w4 (hew.trans hA4)).mono ?_
            rintro e w5 ⟨rfl, he5⟩
            have hA5 := hA4.trans he5
            go_wp2_with fail
            refine HK.out _ _ (fun _ => hA5) ?_
            clear HK hA4 he5
            refine Chain.cons _ rfl ?_
            intro x hd K Q hK
            try simp only [edges, DepsE, List.filter_cons, List.filter_nil, Region.binds, if_true, and_true, true_and, upd, Nat.reduceEqDiff, if_false] at hd
            try simp only [hd] at hK ⊢
            clear hd
            have HK := Lib.hid hK; clear hK
            go_wp2_with fail
            refine HK.out _ _ (fun _ => hA5) ?_
            clear HK
            refine Chain.nil ?_
            simp only [upd, Nat.reduceEqDiff, if_false, if_true]
            have hR5 := hR.ext hA5
            have hcell := hR5.cell hkl'
            have hfr := hR5.frozen kk
            have hE5 := hew.trans hA5
            go_wp2_with fail
            go_roundw
            case rel =>
              refine ⟨i + 1, by omega, by go_num, Below.setCell hE5 (by show _ ≤ S; have := HSe.out; omega) _, (hR5.set_ hkl' (ca - cb)).congr fun j hj => ?_⟩
              rw [← Hnx.out, Hadd.out]
            case measure => simp [intOf]; omega
          · obtain rfl : i = g.length := by omega
            have hO := hR.own (base := S) (Nat.le_refl _) (by unfold maxLen; omega)
            have hxx : (List.range g.length).map (addR m (natL g) g.length) = x := by
              rw [← Hx'.out, ← addR_all (Hnl.out.trans Hle.out) fun k hk => nodup_all Hndl.out (Hnl.out.trans Hle.out) Hbl.out hk, Hnl.out, Hle.out]
            rw [hxx] at hO
            have HO := Lib.hid hO
            clear hO hxx hR
            go_wp2_with fail
            go_ret2
            exact ⟨_, rfl, HO.out.mono (by have := hE2.size; have := HSe.out; omega), hE2.trans hew⟩
      · obtain rfl : x = [] := by rw [← Hx.out, if_neg h0]
        have hd : (r != 0) = true := by simpa using h0
        clear h0 hop ho
        go_wp2_with fail
        go_ret2
        exact ⟨_, rfl, OwnI.nil _ _ _, hE2⟩
    · obtain rfl : r = 2 := by rw [← Hr.out]; unfold addsE; rw [if_neg (by simp [Hcp.out]), if_pos hle]
      obtain rfl : x = [] := by rw [← Hx.out]; rfl
      have hdl : ((g.length : Int) != (m.wvs.length : Int)) = true := by simp; omega
      go_wp2_with fail
      go_ret2
      exact ⟨_, rfl, OwnI.nil _ _ _, hE1⟩
  · obtain rfl : r = cp := by rw [← Hr.out, ← Hcp.out]; unfold addsE; rw [if_pos (by rw [Hcp.out]; exact h0)]
    obtain rfl : x = [] := by rw [← Hx.out, if_neg h0]
    have hd : (r != 0) = true := by simpa using h0
    clear h0
    go_wp2_with fail
    go_ret2
    exact ⟨_, rfl, OwnI.nil _ _ _, hE1⟩
end Go.Proofs.Pet

namespace Go.Proofs.Pet
set_option linter.unusedSimpArgs false
open Go Go.RowKit Go.Maps Go.Shelf
open Go.Proofs.Pow (PM Sh Wv POk Up)
attribute [local go_sem] Oper.semAt_some

theorem ownsRow_cellsP {w : World} {base size n : Nat} {e : TypeId} {v : Value} {xs : List Value} (h : w.ownsRow base e size v n xs) (j : Nat) (o : Obj) (hj : v.ownBlock = some j) (ho : w.heap[j]? = some o) : o.isCells = true := by
  rcases h.2 with ⟨rfl, _⟩ | ⟨g, cap, cur, rfl, _, hb, _⟩
  · cases hj
  · have : g = j := Option.some.inj hj
    subst this
    rw [hb] at ho
    cases ho; rfl
end Go.Proofs.Pet

namespace Go.Proofs.Pet
open Go Go.RowKit Go.Maps Go.Shelf
open Go.Proofs.Pow (PM Sh Wv POk Up)

def shFlat : List Sh → List Value
  | [] => []
  | x :: xs => .int .i64 x.up :: .int .i64 x.price :: shFlat xs
theorem shFlat_len : ∀ xs : List Sh, (shFlat xs).length = xs.length * 2
  | [] => rfl
  | x :: xs => by simp [shFlat, shFlat_len xs]; omega
theorem shFlat_one : ∀ (xs : List Sh), ∀ u ∈ shFlat xs, u.oneCell' = true
  | [], u, h => by cases h
  | x :: xs, u, h => by
    simp only [shFlat, List.mem_cons] at h
    rcases h with rfl | rfl | h
    · rfl
    · rfl
    · exact shFlat_one xs u h
theorem shFlat_append : ∀ xs ys : List Sh, shFlat (xs ++ ys) = shFlat xs ++ shFlat ys
  | [], _ => rfl
  | x :: xs, ys => by simp [shFlat, shFlat_append xs ys]
theorem shFlat_at : ∀ (xs : List Sh) (k : Nat), k < xs.length → (shFlat xs)[k * 2]? = some (.int .i64 (xs[k]?.getD default).up) ∧ (shFlat xs)[k * 2 + 1]? = some (.int .i64 (xs[k]?.getD default).price)
  | x :: xs, 0, _ => ⟨rfl, rfl⟩
  | x :: xs, k + 1, h => by
    have := shFlat_at xs k (by simpa using h)
    rw [show (k + 1) * 2 = k * 2 + 1 + 1 by omega]
    simpa [shFlat] using this
/-- weavers as cells, R says what their hours are -/
def WvF (R : Value → Wv → Prop) : List Value → List Wv → Prop
  | [], [] => True
  | s :: u :: cs, x :: xs => s = .int .i64 x.shaft ∧ R u x ∧ WvF R cs xs
  | _, _ => False
theorem WvF.map {R S : Value → Wv → Prop} (f : ∀ u x, R u x → S u x) : ∀ {cs : List Value} {xs : List Wv}, WvF R cs xs → WvF S cs xs
  | [], [], _ => trivial
  | _ :: _ :: _, _ :: _, ⟨h1, h2, h3⟩ => ⟨h1, f _ _ h2, h3.map f⟩
theorem WvF.append {R : Value → Wv → Prop} : ∀ {cs : List Value} {xs : List Wv} {ds : List Value} {ys : List Wv}, WvF R cs xs → WvF R ds ys → WvF R (cs ++ ds) (xs ++ ys)
  | [], [], _, _, _, h => h
  | _ :: _ :: _, _ :: _, _, _, ⟨h1, h2, h3⟩, h => ⟨h1, h2, h3.append h⟩
theorem WvF.length {R : Value → Wv → Prop} : ∀ {cs : List Value} {xs : List Wv}, WvF R cs xs → cs.length = xs.length * 2
  | [], [], _ => rfl
  | _ :: _ :: _, _ :: _, ⟨_, _, h3⟩ => by have := h3.length; simp; omega
theorem WvF.one {R : Value → Wv → Prop} (hR : ∀ u x, R u x → u.oneCell' = true) : ∀ {cs : List Value} {xs : List Wv}, WvF R cs xs → ∀ u ∈ cs, u.oneCell' = true
  | [], [], _, u, h => by cases h
  | _ :: _ :: _, _ :: _, ⟨h1, h2, h3⟩, u, h => by
    subst h1
    simp only [List.mem_cons] at h
    rcases h with rfl | rfl | h
    · rfl
    · exact hR _ _ h2
    · exact h3.one hR u h
theorem WvF.at_ {R : Value → Wv → Prop} : ∀ {cs : List Value} {xs : List Wv}, WvF R cs xs → ∀ k, k < xs.length → cs[k * 2]? = some (.int .i64 (xs[k]?.getD default).shaft) ∧ ∃ u, cs[k * 2 + 1]? = some u ∧ R u (xs[k]?.getD default)
  | [], [], _, k, h => absurd h (by simp)
  | _ :: _ :: _, _ :: _, ⟨h1, h2, h3⟩, 0, _ => ⟨by rw [h1]; rfl, _, rfl, h2⟩
  | _ :: _ :: cs, _ :: xs, ⟨h1, h2, h3⟩, k + 1, h => by
    obtain ⟨g1, u, g2, g3⟩ := h3.at_ k (by simpa using h)
    rw [show (k + 1) * 2 = k * 2 + 1 + 1 by omega]
    exact ⟨by simpa using g1, u, by simpa using g2, by simpa using g3⟩
theorem WvF.get {R : Value → Wv → Prop} : ∀ {cs : List Value} {x : Wv} {xs : List Wv}, WvF R cs (x :: xs) → ∃ u es, cs = .int .i64 x.shaft :: u :: es ∧ R u x ∧ WvF R es xs
  | _ :: u :: es, _, _, ⟨h1, h2, h3⟩ => ⟨u, es, by rw [h1], h2, h3⟩
/-- hours that can be read -/
def rdW (w : World) (u : Value) (x : Wv) : Prop := SlI w u x.hours
def ownW (w : World) (base : Nat) (u : Value) (x : Wv) : Prop := OwnI w base 3 u x.hours
def OwnShs (w : World) (base : Nat) (v : Value) (xs : List Sh) : Prop := w.ownsRow base 84 2 v xs.length (shFlat xs)
def OwnWvs (w : World) (base : Nat) (v : Value) (xs : List Wv) : Prop := ∃ cs, w.ownsRow base 86 2 v xs.length cs ∧ WvF (ownW w base) cs xs
section
variable {w w' : World} {base base' b : Nat} {v : Value} {xs : List Sh} {ys : List Wv}
theorem OwnShs.nil : OwnShs w base (.slice none 0 0) [] := World.ownsRow_nil _ _ _ _
theorem OwnWvs.nil : OwnWvs w base (.slice none 0 0) [] := ⟨[], World.ownsRow_nil _ _ _ _, trivial⟩
theorem OwnShs.ext (h : OwnShs w base v xs) (he : Ext w w') : OwnShs w' base v xs := ownsRow_ext2 h he
theorem OwnWvs.ext (h : OwnWvs w base v ys) (he : Ext w w') : OwnWvs w' base v ys := by
  obtain ⟨cs, h1, h2⟩ := h
  exact ⟨cs, ownsRow_ext2 h1 he, h2.map fun _ _ g => OwnI.ext g he⟩
theorem OwnShs.mono (h : OwnShs w base v xs) (hb : base' ≤ base) : OwnShs w base' v xs := ownsRow_mono h hb
theorem OwnWvs.mono (h : OwnWvs w base v ys) (hb : base' ≤ base) : OwnWvs w base' v ys := by
  obtain ⟨cs, h1, h2⟩ := h
  exact ⟨cs, ownsRow_mono h1 hb, h2.map fun _ _ g => OwnI.mono g hb⟩
theorem OwnShs.at_ (h : OwnShs w base v xs) : ∃ A c, v = .slice A xs.length c ∧ xs.length ≤ c ∧ c ≤ maxLen ∧ ShsAt w A xs := by
  rcases h.2 with ⟨rfl, h0⟩ | ⟨g, cap, cur, rfl, hg, hb, hn, hm, hs, hc⟩
  · have : xs = [] := List.length_eq_zero_iff.1 h0
    subst this
    exact ⟨none, 0, rfl, Nat.le_refl _, by unfold maxLen; omega, fun k hk => by simp at hk⟩
  · refine ⟨_, cap, rfl, hn, hm, fun k hk => ⟨g, 0, rfl, ?_⟩⟩
    obtain ⟨g1, g2⟩ := shFlat_at xs k hk
    rw [← hc, List.getElem?_take, if_pos (by omega), Array.getElem?_toList] at g1 g2
    have hB : Blk w g 84 cur := hb
    refine ⟨?_, ?_⟩
    · rw [Nat.zero_add, hB.cell]; exact g1
    · rw [Nat.zero_add, hB.cell]; exact g2
theorem OwnWvs.at_ (h : OwnWvs w base v ys) : ∃ A c, v = .slice A ys.length c ∧ ys.length ≤ c ∧ c ≤ maxLen ∧ WvsAt w A ys := by
  obtain ⟨cs, h, h2⟩ := h
  rcases h.2 with ⟨rfl, h0⟩ | ⟨g, cap, cur, rfl, hg, hb, hn, hm, hs, hc⟩
  · have : ys = [] := List.length_eq_zero_iff.1 h0
    subst this
    exact ⟨none, 0, rfl, Nat.le_refl _, by unfold maxLen; omega, fun k hk => by simp at hk⟩
  · refine ⟨_, cap, rfl, hn, hm, fun k hk => ⟨g, 0, rfl, ?_⟩⟩
    obtain ⟨g1, u, g2, g3⟩ := h2.at_ k hk
    obtain ⟨A, c, rfl, r1, r2, r3, -, -⟩ := OwnI.open_ g3
    rw [← hc, List.getElem?_take, if_pos (by omega), Array.getElem?_toList] at g1 g2
    have hB : Blk w g 86 cur := hb
    refine ⟨A, c, ⟨r1, r2⟩, ?_, ?_, r3⟩
    · rw [Nat.zero_add, hB.cell]; exact g1
    · rw [Nat.zero_add, hB.cell]; exact g2
end
/-- a mill of the call's own -/
def OwnPM (w : World) (base : Nat) (v : Value) (m : PM) : Prop := ∃ s1 s2, v = .agg #[s1, s2] ∧ OwnShs w base s1 m.shafts ∧ OwnWvs w base s2 m.wvs
section
variable {w w' : World} {base base' b : Nat} {v : Value} {m : PM}
theorem OwnPM.ext (h : OwnPM w base v m) (he : Ext w w') : OwnPM w' base v m := by
  obtain ⟨s1, s2, e, h1, h2⟩ := h
  exact ⟨s1, s2, e, h1.ext he, h2.ext he⟩
theorem OwnPM.mono (h : OwnPM w base v m) (hb : base' ≤ base) : OwnPM w base' v m := by
  obtain ⟨s1, s2, e, h1, h2⟩ := h
  exact ⟨s1, s2, e, h1.mono hb, h2.mono hb⟩
theorem OwnPM.val (h : OwnPM w base v m) : PMVal w v m := by
  obtain ⟨s1, s2, e, h1, h2⟩ := h
  obtain ⟨A1, c1, e1, g1, g2, g3⟩ := h1.at_
  obtain ⟨A2, c2, e2, g4, g5, g6⟩ := h2.at_
  exact ⟨A1, c1, A2, c2, by rw [e, e1, e2], g1, g2, g4, g5, g3, g6⟩
instance : Lift (OwnPM w b v m) w w' (OwnPM w' b v m) := ⟨fun he h => h.ext he⟩
end
/-! Copies. -/
theorem addr_off (b o j : Nat) : (⟨b, o, none⟩ : Addr).add j = ⟨b, o + j, none⟩ := by unfold Addr.add; split <;> simp_all
theorem ShsAt.src {w : World} {A : Option Addr} {xs : List Sh} (h : ShsAt w A xs) : Src w A (shFlat xs) := by
  cases xs with
  | nil => exact .inl rfl
  | cons x l =>
    obtain ⟨b, o, rfl, _⟩ := h 0 (by simp)
    refine .inr ⟨_, rfl, fun j u hu => ?_⟩
    rw [addr_off]
    have hj : j < (shFlat (x :: l)).length := (List.getElem?_eq_some_iff.1 hu).1
    rw [shFlat_len] at hj
    obtain ⟨k, hjk⟩ : ∃ k, j = k * 2 ∨ j = k * 2 + 1 := ⟨j / 2, by omega⟩
    have hk : k < (x :: l).length := by omega
    obtain ⟨b', o', e, h1, h2⟩ := h k hk
    simp only [Option.some.injEq, Addr.mk.injEq, and_true] at e
    obtain ⟨rfl, rfl⟩ := e
    obtain ⟨g1, g2⟩ := shFlat_at (x :: l) k hk
    rcases hjk with rfl | rfl
    · rw [g1] at hu
      rw [h1, ← hu]
    · rw [g2] at hu
      rw [show o + (k * 2 + 1) = o + k * 2 + 1 by omega, h2, ← hu]
theorem wv_cells {w : World} {b : Nat} : ∀ (xs : List Wv) (o : Nat), (∀ k, k < xs.length → WvCells w b (o + k * 2) (xs[k]?.getD default)) → ∃ cs, WvF (rdW w) cs xs ∧ ∀ j u, cs[j]? = some u → w.cell? ⟨b, o + j, none⟩ = some u
  | [], _, _ => ⟨[], trivial, fun j u h => by simp at h⟩
  | x :: xs, o, h => by
    obtain ⟨cs, h1, h2⟩ := wv_cells xs (o + 2) fun k hk => by
      have := h (k + 1) (by simpa using hk)
      rw [show o + (k + 1) * 2 = o + 2 + k * 2 by omega] at this
      simpa using this
    obtain ⟨A, c, hc, k0, k1, k2⟩ := h 0 (by simp)
    simp only [Nat.zero_mul, Nat.add_zero, List.getElem?_cons_zero, Option.getD_some] at k0 k1 k2 hc
    refine ⟨_ :: _ :: cs, ⟨rfl, ⟨A, c, rfl, hc.1, hc.2, k2⟩, h1⟩, fun j u hj => ?_⟩
    rcases j with _ | _ | j
    · simp at hj; subst hj; simpa using k0
    · simp at hj; subst hj; exact k1
    · have := h2 j u (by simpa using hj)
      rw [show o + (j + 1 + 1) = o + 2 + j by omega]
      exact this
theorem WvsAt.src {w : World} {A : Option Addr} {xs : List Wv} (h : WvsAt w A xs) : ∃ cs, WvF (rdW w) cs xs ∧ Src w A cs := by
  cases xs with
  | nil => exact ⟨[], trivial, .inl rfl⟩
  | cons x l =>
    obtain ⟨b, o, rfl, _⟩ := h 0 (by simp)
    obtain ⟨cs, h1, h2⟩ := wv_cells (w := w) (b := b) (x :: l) o fun k hk => by
      obtain ⟨b', o', e, hc⟩ := h k hk
      simp only [Option.some.injEq, Addr.mk.injEq, and_true] at e
      obtain ⟨rfl, rfl⟩ := e
      exact hc
    exact ⟨cs, h1, .inr ⟨_, rfl, fun j u hu => by rw [addr_off]; exact h2 j u hu⟩⟩
theorem rdW_one {w : World} (u : Value) (x : Wv) (h : rdW w u x) : u.oneCell' = true := by
  obtain ⟨A, c, rfl, _⟩ := h
  rfl
theorem info_shaft : (Tryz.prog.info? 84).map (fun i => (i.zero, i.size, i.bytes)) = some (some (.agg #[.int .i64 0, .int .i64 0]), 2, 16) := by kernel_rfl
theorem info_weaver : (Tryz.prog.info? 86).map (fun i => (i.zero, i.size, i.bytes)) = some (some (.agg #[.int .i64 0, .slice none 0 0]), 2, 32) := by kernel_rfl
set_option maxHeartbeats 400000 in
theorem cloneSh (A : Option Addr) (c : Nat) (xs : List Sh) (w : World) (hb : xs.length ≤ 1000) (hx : ShsAt w A xs) :
    Calls Tryz.prog 209 #[.slice A xs.length c] w fun e w' => ∃ v, e = .returned v ∧ OwnShs w' w.heap.size v xs ∧ Ext w w' := by
  obtain ⟨i, hi, hz0, hz1, hz2⟩ := info_parts info_shaft
  have hnil : ∀ W : World, (binOp .eql 53 (.slice A xs.length c) (.slice none 0 0)).run Tryz.prog W = .ok (.bool A.isNone) W := fun W => Lib.run_eql_slice_nil W 53 _ A _ _ 0 0 Tryz.underlying53
  cases A with
  | none =>
    have hx0 : xs = [] := by
      cases xs with
      | nil => rfl
      | cons x l => obtain ⟨b, o, e, _⟩ := hx 0 (by simp); cases e
    subst hx0
    have hnil' : ∀ W : World, (binOp .eql 53 (.slice none 0 c) (.slice none 0 0)).run Tryz.prog W = .ok (.bool true) W := fun W => hnil W
    clear hnil hx hb
    go_enter Tryz.func209, Tryz.ntmps209
    go_wp2
    go_ret
    exact ⟨_, rfl, OwnShs.nil, Ext.refl _⟩
  | some ad =>
    have hnil' : ∀ W : World, (binOp .eql 53 (.slice (some ad) xs.length c) (.slice none 0 0)).run Tryz.prog W = .ok (.bool false) W := fun W => hnil W
    clear hnil
    have hE := Ext.alloc w (.cells #[] 84)
    have hsrc := Lib.hid (ShsAt.src (hx.ext hE))
    have hlen := Lib.hid (shFlat_len xs)
    have hone := Lib.hid (shFlat_one xs)
    have hown := Lib.hid (World.ownsRow_made (w := w) (e := 84) (size := 2) #[] 0 (Nat.le_refl _) (by unfold maxLen; omega) (by simp))
    clear hx
    go_enter Tryz.func209, Tryz.ntmps209
    go_wp2_with (at_builtin; go_must (refine wpList_app rfl _ _ 53 rfl w.heap.size 84 i (.agg #[.int .i64 0, .int .i64 0]) 2 16 Tryz.underlying53 hi hz0 hz1 hz2 rfl (by decide) _ _ _ rfl hown.out (some ad) xs.length c (shFlat xs) rfl ?c1 hsrc.out ?c2 ?c3 ?c4 ?c5 ?_); (case c1 => exact hlen.out); (case c2 => exact hone.out); (case c3 => (unfold maxLen; omega)); (case c4 => omega); (case c5 => simp); intro v' w' hown' hg hblk)
    go_ret
    have hX : Ext w w' := ext_alloc_grown hg (fun k hk => Nat.le_of_eq (Option.some.inj hk))
    refine ⟨_, rfl, ?_, hX⟩
    simp only [Nat.zero_add, List.nil_append] at hown'
    exact hown'
set_option maxHeartbeats 400000 in
theorem cloneWv (A : Option Addr) (c : Nat) (xs : List Wv) (w0 w : World) (hb : xs.length ≤ 1000) (hx : WvsAt w0 A xs) (h0 : Ext w0 w) :
    Calls Tryz.prog 210 #[.slice A xs.length c] w fun e w' => ∃ v, e = .returned v ∧ (∃ cs, w'.ownsRow w.heap.size 86 2 v xs.length cs ∧ WvF (rdW w0) cs xs) ∧ Ext w w' := by
  obtain ⟨i, hi, hz0, hz1, hz2⟩ := info_parts info_weaver
  have hnil : ∀ W : World, (binOp .eql 54 (.slice A xs.length c) (.slice none 0 0)).run Tryz.prog W = .ok (.bool A.isNone) W := fun W => Lib.run_eql_slice_nil W 54 _ A _ _ 0 0 Tryz.underlying54
  cases A with
  | none =>
    have hx0 : xs = [] := by
      cases xs with
      | nil => rfl
      | cons x l => obtain ⟨b, o, e, _⟩ := hx 0 (by simp); cases e
    subst hx0
    have hnil' : ∀ W : World, (binOp .eql 54 (.slice none 0 c) (.slice none 0 0)).run Tryz.prog W = .ok (.bool true) W := fun W => hnil W
    clear hnil hx hb
    go_enter Tryz.func210, Tryz.ntmps210
    go_wp2
    go_ret
    exact ⟨_, rfl, ⟨[], World.ownsRow_nil _ _ _ _, trivial⟩, Ext.refl _⟩
  | some ad =>
    have hnil' : ∀ W : World, (binOp .eql 54 (.slice (some ad) xs.length c) (.slice none 0 0)).run Tryz.prog W = .ok (.bool false) W := fun W => hnil W
    clear hnil
    have hE := Ext.alloc w (.cells #[] 86)
    obtain ⟨cs, hcs, hsrc0⟩ := hx.src
    have hsrc := Lib.hid (hsrc0.ext (h0.trans hE))
    have hlen := Lib.hid hcs.length
    have hone := Lib.hid (hcs.one rdW_one)
    have Hcs := Lib.hid hcs
    clear hcs hsrc0
    have hown := Lib.hid (World.ownsRow_made (w := w) (e := 86) (size := 2) #[] 0 (Nat.le_refl _) (by unfold maxLen; omega) (by simp))
    clear hx
    go_enter Tryz.func210, Tryz.ntmps210
    go_wp2_with (at_builtin; go_must (refine wpList_app rfl _ _ 54 rfl w.heap.size 86 i (.agg #[.int .i64 0, .slice none 0 0]) 2 32 Tryz.underlying54 hi hz0 hz1 hz2 rfl (by decide) _ _ _ rfl hown.out (some ad) xs.length c cs rfl ?c1 hsrc.out ?c2 ?c3 ?c4 ?c5 ?_); (case c1 => exact hlen.out); (case c2 => exact hone.out); (case c3 => (unfold maxLen; omega)); (case c4 => omega); (case c5 => simp); intro v' w' hown' hg hblk)
    go_ret
    have hX : Ext w w' := ext_alloc_grown hg (fun k hk => Nat.le_of_eq (Option.some.inj hk))
    refine ⟨_, rfl, ?_, hX⟩
    simp only [Nat.zero_add, List.nil_append] at hown'
    exact ⟨cs, hown', Hcs.out⟩
end Go.Proofs.Pet
