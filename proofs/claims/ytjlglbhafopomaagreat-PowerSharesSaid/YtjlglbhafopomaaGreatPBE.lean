/-
  What one hour more costs, and the cheapest one, walked: power's least, Extra, Cheapest.
-/
import Derived.Test.YtjlglbhafopomaaGreatPBD
namespace Go.Proofs.Pet
set_option linter.unusedSimpArgs false
open Go Go.RowKit Go.Maps Go.Shelf
open Go.Proofs.Pow (PM Sh Wv POk Up)

theorem useE_known {m : PM} {k h : Int} (h0 : useE m k h = 0) : knownE m k = 0 ∧ inB h 0 23 = true ∧ (m.wv k.toNat).hours.contains h = false := by
  unfold useE at h0
  split at h0
  · rename_i h1; exact absurd h0 h1
  rename_i h1
  split at h0
  · exact absurd h0 (by decide)
  rename_i h2
  split at h0
  · exact absurd h0 (by decide)
  rename_i h3
  exact ⟨by simpa using h1, by simpa using h2, by simpa using h3⟩
theorem knownE_ok {m : PM} {k : Int} (h : knownE m k = 0) : checkP m = 0 ∧ 0 ≤ k ∧ k < m.wvs.length := by
  unfold knownE at h
  split at h
  · rename_i h1; exact absurd h h1
  rename_i h1
  split at h
  · exact absurd h (by decide)
  rename_i h2
  have := inB_iff.1 (by simpa using h2)
  exact ⟨by simpa using h1, this.1, by omega⟩
def extI (m : PM) (k h : Int) : Int := if useE m k h = 0 then Pow.extraF m k.toNat h.toNat else 0
theorem useP_ok {m : PM} {k h : Int} (h0 : useE m k h = 0) : checkP (Pow.useP m k.toNat h) = 0 := by
  obtain ⟨h1, h2, h3⟩ := useE_known h0
  obtain ⟨g1, g2, g3⟩ := knownE_ok h1
  have hb := inB_iff.1 h2
  obtain ⟨hh, rfl⟩ : ∃ hh : Nat, h = hh := ⟨h.toNat, by omega⟩
  exact (checkP_iff _).2 (Pow.use_ok ((checkP_iff m).1 g1) (by omega) (by omega) h3)

set_option maxRecDepth 20000 in
set_option maxHeartbeats 1000000 in
theorem Extra_any (v : Value) (m : PM) (k h : Int) (r x : Int) (hr : useE m k h = r) (hx : extI m k h = x) (w : World) (hv : PMVal w v m) :
    Calls Tryz.prog 42 #[v, .int .i64 k, .int .i64 h] w fun e w' => e = .returned (.tuple #[.int .i64 x, .int .i64 r]) ∧ Ext w w' := by
  have Hv := Lib.hid hv
  obtain ⟨A1, c1, A2, c2, rfl, h2, h3, h4, h5, h6, h7⟩ := hv
  have hE := Ext.alloc w (.cells #[.slice A1 m.shafts.length c1, .slice A2 m.wvs.length c2] 26)
  have hM := Blk.new w 26 #[.slice A1 m.shafts.length c1, .slice A2 m.wvs.length c2]
  obtain ⟨k0, k1⟩ := hM.c2
  have HM := Lib.hid hM
  have hu := Lib.hid (Use_any _ m k h r (useM m k h) hr rfl _ (Hv.out.ext hE))
  have Hr := Lib.hid hr; have Hx := Lib.hid hx
  clear h6 h7 hM hr hx
  go_enter Tryz.func42, Tryz.ntmps42
  go_wp2_with fail
  refine hu.out.mono ?_
  rintro e w1 ⟨u, rfl, hO, he1⟩
  have hE1 := hE.trans he1
  have hM1 := HM.out.ext he1
  have hval := hO.val
  obtain ⟨B1, e1, B2, e2, rfl, -⟩ := id hval
  have HV := Lib.hid hval
  clear hu k0 k1 hO hval
  by_cases h0 : r = 0
  · subst h0
    have hX := Ext.alloc w1 (.cells #[.slice B1 (useM m k h).shafts.length e1, .slice B2 (useM m k h).wvs.length e2] 26)
    have hN := Blk.new w1 26 #[.slice B1 (useM m k h).shafts.length e1, .slice B2 (useM m k h).wvs.length e2]
    have hEX := hE1.trans hX
    obtain ⟨k0, k1⟩ := (hM1.ext hX).c2
    have hum : useM m k h = Pow.useP m k.toNat h := by unfold useM; rw [if_pos Hr.out]
    obtain ⟨kn, -, -⟩ := useE_known Hr.out
    obtain ⟨hck, hk1, hk2⟩ := knownE_ok kn
    have hck2 : checkP (useM m k h) = 0 := by rw [hum]; exact useP_ok Hr.out
    have Hm := Lib.hid ((checkP_iff m).1 hck)
    have Hm2 := Lib.hid ((checkP_iff (useM m k h)).1 hck2)
    have HVX := Lib.hid (HV.out.ext hX)
    have Hxx : Hid (x = Pow.costF (useM m k h) (fun _ => true) - Pow.costF m (fun _ => true)) := by
      unfold Hid
      obtain ⟨-, hb, -⟩ := useE_known Hr.out
      have hb' := inB_iff.1 hb
      have hhn : ((h.toNat : Nat) : Int) = h := by omega
      rw [← Hx.out, hum]
      unfold extI
      rw [if_pos Hr.out]
      unfold Pow.extraF
      rw [hhn]
    have Hck := Lib.hid hck; have Hck2 := Lib.hid hck2
    clear hck hck2 kn hum Hx
    generalize useM m k h = m2 at *
    have ho1 := Lib.hid (opened_any _ m Hck.out _ (Hv.out.ext hEX))
    go_wp2_with fail
    refine ho1.out.mono ?_
    rintro e w3 ⟨D1, rfl, hD1, -, he3⟩
    have ho2 := Lib.hid (opened_any _ m2 Hck2.out w3 (HVX.out.ext he3))
    obtain ⟨j0, j1⟩ := (hN.ext he3).c2
    have hE3 := hEX.trans he3
    clear k0 k1 ho1 hEX hX hE1
    go_wp2_with fail
    refine ho2.out.mono ?_
    rintro e w4 ⟨D2, rfl, hD2, -, he4⟩
    have hE4 := hE3.trans he4
    have HD1 := Lib.hid (hD1.ext he4); have HD2 := Lib.hid hD2
    have hal := Lib.hid (allg_any D2 m2 Hm2.out w4 hD2)
    have hf2 := Hm2.out.few
    have hf1 := Hm.out.few
    clear ho2 j0 j1 hD1 hD2 he3 he4 hE3
    go_wp2_with fail
    refine hal.out.mono ?_
    rintro e w5 ⟨g2, rfl, hg2, he5⟩
    obtain ⟨A4, c4, rfl, -, -, r3, -, -⟩ := hg2.open_
    have hcb2 := Pow.cost_bounds Hm2.out (fun _ => true)
    have hcb1 := Pow.cost_bounds Hm.out (fun _ => true)
    obtain ⟨ct2, hct2⟩ : ∃ ct, Pow.costF m2 (fun _ => true) = ct := ⟨_, rfl⟩
    obtain ⟨ct1, hct1⟩ : ∃ ct, Pow.costF m (fun _ => true) = ct := ⟨_, rfl⟩
    rw [hct2] at hcb2 Hxx
    rw [hct1] at hcb1 Hxx
    have hcall := Lib.hid (cost_any D2 m2 Hm2.out A4 c4 (Pow.allI m2.wvs.length).length (Pow.allI m2.wvs.length) rfl (Pow.all_in m2) (by rw [allI_len]; omega) ct2 ((Pow.all_group m2).trans hct2) w5 (HD2.out.ext he5) r3)
    have Hct1 := Lib.hid hct1
    have hE5 := hE4.trans he5
    clear hal r3 hg2 hct1 hct2
    go_wp2_with fail
    refine hcall.out.mono ?_
    rintro e w6 ⟨rfl, he6⟩
    have hD16 := HD1.out.ext (he5.trans he6)
    have hE6 := hE5.trans he6
    have hal := Lib.hid (allg_any D1 m Hm.out w6 hD16)
    have HD16 := Lib.hid hD16
    clear hcall hD16 he5 he6
    go_wp2_with fail
    refine hal.out.mono ?_
    rintro e w7 ⟨g1, rfl, hg1, he7⟩
    obtain ⟨A5, c5, rfl, -, -, r5, -, -⟩ := hg1.open_
    have hcall := Lib.hid (cost_any D1 m Hm.out A5 c5 (Pow.allI m.wvs.length).length (Pow.allI m.wvs.length) rfl (Pow.all_in m) (by rw [allI_len]; omega) ct1 ((Pow.all_group m).trans Hct1.out) w7 (HD16.out.ext he7) r5)
    have hE7 := hE6.trans he7
    clear hal r5 hg1
    go_wp2_with fail
    refine hcall.out.mono ?_
    rintro e w8 ⟨rfl, he8⟩
    have hE8 := hE7.trans he8
    go_wp2_with fail
    go_ret2
    exact ⟨by rw [Hxx.out]; rfl, hE8⟩
  · obtain rfl : x = 0 := by rw [← Hx.out]; unfold extI; rw [if_neg (by rw [Hr.out]; exact h0)]
    have hd : (r != 0) = true := by simpa using h0
    have hX := Ext.alloc w1 (.cells #[.slice B1 (useM m k h).shafts.length e1, .slice B2 (useM m k h).wvs.length e2] 26)
    generalize useM m k h = m2 at *
    go_wp2_with fail
    go_ret2
    exact ⟨rfl, hE1.trans hX⟩
theorem pleast_any (n : Int) (A : Option Addr) (c L : Nat) (xs : List Int) (hL : xs.length = L) (r : Int) (hr : xs.foldl min n = r) (w : World) (hb : xs.length ≤ maxLen) (hx : IntsAt w A xs) :
    Calls Tryz.prog 116 #[.int .i64 n, .slice A L c] w fun e w' => e = .returned (.int .i64 r) ∧ w = w' := by
  subst hL
  unfold maxLen at hb
  have Hr := Lib.hid hr; clear hr
  go_enter Tryz.func116, Tryz.ntmps116
  go_wp2
  go_loopw [0, 6, 9] (fun a _ i wr => ∃ (k : Nat) (x : Int), k ≤ xs.length ∧ a = .int .i64 x ∧ i = .int .i64 k ∧ Hid ((xs.take k).foldl min n = x) ∧ w = wr) (fun _ _ i _ => xs.length - (intOf i).toNat)
  case atStart => exact ⟨0, n, by omega, rfl, rfl, rfl, rfl⟩
  case round =>
    obtain ⟨k, x, hk, rfl, rfl, hm, rfl⟩ := hrel
    by_cases hlt : k < xs.length
    · obtain ⟨b, o, rfl, h1⟩ := hx k hlt
      have hmin : Hid ((xs.take (k + 1)).foldl min n = min x (xs[k]?.getD 0)) := by
        unfold Hid
        rw [List.take_add_one, List.foldl_append, hm.out]
        simp [hlt]
      generalize xs[k]?.getD 0 = y at *
      go_wp2
      go_roundw
      case rel => exact ⟨k + 1, min x y, by omega, by first | (rw [Int.min_def]; done) | (rw [Int.min_def]; by_cases h : x ≤ y <;> simp [h] <;> omega), by go_num, hmin.out, trivial⟩
      case measure => simp [intOf]; omega
    · obtain rfl : k = xs.length := by omega
      have hq := hm.out
      rw [List.take_length, Hr.out] at hq
      subst hq
      go_wp2
      go_ret
      exact ⟨rfl, rfl⟩

theorem eql_none (W : World) : (binOp .eql 157 (.agg #[.int .i64 (-1), .int .i64 0]) (.agg #[.int .i64 (-1), .int .i64 0])).run Tryz.prog W = .ok (.bool true) W := by kernel_rfl
theorem eql_some (a : Nat) (x : Int) (W : World) : (binOp .eql 157 (.agg #[.int .i64 (a : Int), .int .i64 x]) (.agg #[.int .i64 (-1), .int .i64 0])).run Tryz.prog W = .ok (.bool false) W := by kernel_rfl
def bestV : Option (Nat × Int) → Int × Int
  | none => (-1, 0)
  | some (a, x) => ((a : Int), x)
def cheapV (m : PM) (k : Int) : Int × Int × Int := if knownE m k ≠ 0 then (0, 0, knownE m k) else match Pow.cheapF m k.toNat with
  | none => (0, 0, 6)
  | some (a, x) => ((a : Int), x, 0)
set_option maxRecDepth 20000 in
set_option maxHeartbeats 1000000 in
theorem Cheapest_any (v : Value) (m : PM) (k : Int) (at_ x r : Int) (hr : cheapV m k = (at_, x, r)) (w : World) (hv : PMVal w v m) :
    Calls Tryz.prog 43 #[v, .int .i64 k] w fun e w' => e = .returned (.tuple #[.int .i64 at_, .int .i64 x, .int .i64 r]) ∧ Ext w w' := by
  have Hv := Lib.hid hv
  obtain ⟨A1, c1, A2, c2, rfl, h2, h3, h4, h5, h6, h7⟩ := hv
  have hE := Ext.alloc w (.cells #[.slice A1 m.shafts.length c1, .slice A2 m.wvs.length c2] 26)
  have hM := Blk.new w 26 #[.slice A1 m.shafts.length c1, .slice A2 m.wvs.length c2]
  obtain ⟨k0, k1⟩ := hM.c2
  have HM := Lib.hid hM
  obtain ⟨r0, hr0⟩ : ∃ r0, knownE m k = r0 := ⟨_, rfl⟩
  have ho := Lib.hid (known_any _ m k r0 hr0 _ (Hv.out.ext hE))
  have Hr := Lib.hid hr; have Hr0 := Lib.hid hr0
  clear h6 h7 hM hr hr0
  go_enter Tryz.func43, Tryz.ntmps43
  go_wp2_with fail
  refine ho.out.mono ?_
  rintro e w1 ⟨pv, rfl, he1, -⟩
  have hE1 := hE.trans he1
  have HM1 := Lib.hid (HM.out.ext he1)
  clear ho k0 k1 he1 hE HM
  by_cases h0 : r0 = 0
  · subst h0
    obtain ⟨hck, hk1, hk2⟩ := knownE_ok Hr0.out
    obtain ⟨kk, rfl⟩ : ∃ kk : Nat, k = kk := ⟨k.toNat, by omega⟩
    have hX : Ext w1 ((w1.alloc (.cells #[.int .i64 (-1), .int .i64 0] 157)).alloc (.cells #[.int .i64 (-1), .int .i64 0] 157)) := (Ext.alloc _ _).trans (Ext.alloc _ _)
    have hN := (Blk.new w1 157 #[.int .i64 (-1), .int .i64 0]).alloc (.cells #[.int .i64 (-1), .int .i64 0] 157)
    have hB := Blk.new (w1.alloc (.cells #[.int .i64 (-1), .int .i64 0] 157)) 157 #[.int .i64 (-1), .int .i64 0]
    rw [World.size_alloc] at hB
    obtain ⟨n0, n1⟩ := (Blk.new w1 157 #[.int .i64 (-1), .int .i64 0]).c2
    have hfi : Hid (Pow.cheapF m kk = Pow.leastF (Pow.offerF m kk) 24) := rfl
    clear hck hk1
    go_wp2_with fail
    clear n0 n1
    obtain ⟨Nb, hNb⟩ : ∃ Nb, w1.heap.size = Nb := ⟨_, rfl⟩
    rw [hNb] at hN hB ⊢
    have HNb := Lib.hid hNb
    generalize (w1.alloc _).alloc _ = W2 at *
    clear hNb
    go_loopw [25] (fun i wr => ∃ h : Nat, h ≤ 24 ∧ i = .int .i64 (h : Int) ∧ Ext w1 wr ∧ Blk wr Nb 157 #[.int .i64 (-1), .int .i64 0] ∧ Blk wr (Nb + 1) 157 #[.int .i64 (bestV (Pow.leastF (Pow.offerF m kk) h)).1, .int .i64 (bestV (Pow.leastF (Pow.offerF m kk) h)).2]) (fun i _ => 24 - (intOf i).toNat)
    case atStart => exact ⟨0, by omega, rfl, hX, hN, hB⟩
    case round =>
      clear hX hN hB
      obtain ⟨h, hh, rfl, hew, hN, hB⟩ := hrel
      by_cases hlt : h < 24
      · have hM2 := HM1.out.ext hew
        obtain ⟨k0, k1⟩ := hM2.c2
        obtain ⟨q, hq⟩ : ∃ q, (m.wv kk).hours.contains (h : Int) = q := ⟨_, rfl⟩
        have hin : inB (h : Int) 0 23 = true := inB_iff.2 ⟨by omega, by omega⟩
        have hue : useE m kk h = if q then 5 else 0 := by
          unfold useE
          rw [if_neg (by simp [Hr0.out]), if_neg (by simp [hin])]
          show (if (m.wv kk).hours.contains (h : Int) = true then (5 : Int) else 0) = _
          rw [hq]
        have hof : Hid (Pow.offerF m kk h = if q then none else some (Pow.extraF m kk h)) := by unfold Hid Pow.offerF; rw [hq]
        have hei : extI m kk h = if q then 0 else Pow.extraF m kk h := by
          unfold extI
          rw [hue]
          cases q <;> rfl
        have hex := Extra_any _ m kk h _ _ hue hei wr (Hv.out.ext (hE1.trans hew))
        have Hst : Hid (Pow.leastF (Pow.offerF m kk) (h + 1) = match Pow.offerF m kk h, Pow.leastF (Pow.offerF m kk) h with
            | some x, some b => if x < b.2 then some (h, x) else some b
            | some x, none => some (h, x)
            | none, b => b) := rfl
        rw [hof.out] at Hst
        have Hex := Lib.hid hex
        clear hex hq hue hei hof
        generalize Pow.extraF m kk h = n at *
        go_wp2_with fail
        refine Hex.out.mono ?_
        rintro e w3 ⟨rfl, he3⟩
        have hew3 := hew.trans he3
        have hN3 := hN.ext he3
        have hB3 := hB.ext he3
        clear Hex k0 k1 hM2 hN hB he3 hew
        obtain ⟨n0, n1⟩ := hN3.c2
        cases q with
        | true =>
          have Hst2 : Hid (Pow.leastF (Pow.offerF m kk) (h + 1) = Pow.leastF (Pow.offerF m kk) h) := Hst.out
          obtain ⟨b0, b1⟩ := hB3.c2
          go_upto_region 10 with fail
          have hd5 : ((5 : Int) == 0) = false := by decide
          refine wp_region_chain 16 [(10, true), (11, true), (14, true), (15, true)] [] (by kernel_rfl) (by kernel_rfl) (by kernel_rfl) ?_
          simp only [List.take, List.drop, fill, Act.put, List.setIfInBounds_toArray, List.set_cons_zero, List.set_cons_succ, Nat.reduceAdd]
          repeat (first
            | refine Floats.mut rfl ?_
            | (apply Floats.float rfl
               · intro x W he hd K Q hK
                 try (have he := he (by decide); have b0 := he.cell b0; have b1 := he.cell b1; have n0 := he.cell n0; have n1 := he.cell n1)
                 try simp only [edges, DepsE, List.filter_cons, List.filter_nil, Region.binds, if_true, and_true, true_and, upd, Nat.reduceEqDiff, if_false] at hd
                 try simp only [hd] at hK ⊢
                 have HK := Lib.hid hK; clear hK
                 go_wp2_with fail
                 exact HK.out))
          refine Floats.done fun W he hG => ?_
          refine Chain.cons _ rfl ?_
          intro x hd K Q hK
          try simp only [edges, DepsE, List.filter_cons, List.filter_nil, Region.binds, if_true, and_true, true_and, upd, Nat.reduceEqDiff, if_false] at hd
          try simp only [hd] at hK ⊢
          clear hd
          have HK := Lib.hid hK; clear hK
          go_wp2_with fail
          refine HK.out _ _ (fun _ => he) ?_
          clear HK
          refine Chain.cons _ rfl ?_
          intro x hd K Q hK
          try simp only [edges, DepsE, List.filter_cons, List.filter_nil, Region.binds, if_true, and_true, true_and, upd, Nat.reduceEqDiff, if_false] at hd
          try simp only [hd] at hK ⊢
          clear hd
          have HK := Lib.hid hK; clear hK
          go_wp2_with fail
          refine HK.out _ _ (fun _ => he) ?_
          clear HK
          refine Chain.cons _ rfl ?_
          intro x hd K Q hK
          try simp only [edges, DepsE, List.filter_cons, List.filter_nil, Region.binds, if_true, and_true, true_and, upd, Nat.reduceEqDiff, if_false] at hd
          try simp only [hd] at hK ⊢
          clear hd
          have HK := Lib.hid hK; clear hK
          go_wp2_with fail
          refine HK.out _ _ (fun _ => he) ?_
          clear HK
          refine Chain.cons _ rfl ?_
          intro x hd K Q hK
          try simp only [edges, DepsE, List.filter_cons, List.filter_nil, Region.binds, if_true, and_true, true_and, upd, Nat.reduceEqDiff, if_false] at hd
          try simp only [hd] at hK ⊢
          clear hd
          have HK := Lib.hid hK; clear hK
          go_wp2_with fail
          refine HK.out _ _ (fun _ => he) ?_
          clear HK
          refine Chain.nil ?_
          simp only [upd, Nat.reduceEqDiff, if_false, if_true]
          go_wp2_with fail
          go_roundw
          case rel => exact ⟨h + 1, by omega, by go_num, hew3.trans he, hN3.ext he, by rw [Hst2.out]; exact hB3.ext he⟩
          case measure => simp [intOf]; omega
        | false =>
          have hst := Hst.out
          simp only [Bool.false_eq_true, if_false] at hst
          have hd0 : ((0 : Int) == 0) = true := rfl
          cases hl : Pow.leastF (Pow.offerF m kk) h with
          | none =>
            rw [hl] at hst hB3
            simp only [bestV] at hB3
            have Hst2 := Lib.hid hst
            obtain ⟨b0, b1⟩ := hB3.c2
            have heq := eql_none
            clear hst hl Hst
            go_upto_region 10 with fail
            refine wp_region_chain 16 [(10, true), (11, true), (14, true), (15, true)] [] (by kernel_rfl) (by kernel_rfl) (by kernel_rfl) ?_
            simp only [List.take, List.drop, fill, Act.put, List.setIfInBounds_toArray, List.set_cons_zero, List.set_cons_succ, Nat.reduceAdd]
            repeat (first
              | refine Floats.mut rfl ?_
              | (apply Floats.float rfl
                 · intro x W he hd K Q hK
                   try (have he := he (by decide); have b0 := he.cell b0; have b1 := he.cell b1; have n0 := he.cell n0; have n1 := he.cell n1)
                   try simp only [edges, DepsE, List.filter_cons, List.filter_nil, Region.binds, if_true, and_true, true_and, upd, Nat.reduceEqDiff, if_false] at hd
                   try simp only [hd] at hK ⊢
                   have HK := Lib.hid hK; clear hK
                   go_wp2_with fail
                   exact HK.out))
            refine Floats.done fun W he hG => ?_
            refine Chain.cons _ rfl ?_
            intro x hd K Q hK
            try simp only [edges, DepsE, List.filter_cons, List.filter_nil, Region.binds, if_true, and_true, true_and, upd, Nat.reduceEqDiff, if_false] at hd
            try simp only [hd] at hK ⊢
            clear hd
            have HK := Lib.hid hK; clear hK
            go_wp2_with fail
            refine HK.out _ _ (fun _ => he) ?_
            clear HK
            refine Chain.cons _ rfl ?_
            intro x hd K Q hK
            try simp only [edges, DepsE, List.filter_cons, List.filter_nil, Region.binds, if_true, and_true, true_and, upd, Nat.reduceEqDiff, if_false] at hd
            try simp only [hd] at hK ⊢
            clear hd
            have HK := Lib.hid hK; clear hK
            go_wp2_with fail
            refine HK.out _ _ (fun _ => he) ?_
            clear HK
            refine Chain.cons _ rfl ?_
            intro x hd K Q hK
            try simp only [edges, DepsE, List.filter_cons, List.filter_nil, Region.binds, if_true, and_true, true_and, upd, Nat.reduceEqDiff, if_false] at hd
            try simp only [hd] at hK ⊢
            clear hd
            have HK := Lib.hid hK; clear hK
            go_wp2_with fail
            refine HK.out _ _ (fun _ => he) ?_
            clear HK
            refine Chain.cons _ rfl ?_
            intro x hd K Q hK
            try simp only [edges, DepsE, List.filter_cons, List.filter_nil, Region.binds, if_true, and_true, true_and, upd, Nat.reduceEqDiff, if_false] at hd
            try simp only [hd] at hK ⊢
            clear hd
            have HK := Lib.hid hK; clear hK
            go_wp2_with fail
            refine HK.out _ _ (fun _ => he) ?_
            clear HK
            refine Chain.nil ?_
            simp only [upd, Nat.reduceEqDiff, if_false, if_true]
            have hB9 := hB3.ext he
            have hN9 := hN3.ext he
            have hew9 := hew3.trans he
            have g0 := hB9.frozen 0
            have g1 := hB9.frozen 1
            clear b0 b1 n0 n1
            obtain ⟨b0, b1⟩ := hB9.c2
            go_wp2_with fail
            go_roundw
            case rel =>
              refine ⟨h + 1, by omega, by go_num, Below.setCell (Below.setCell hew9 (p := ⟨Nb + 1, 0, none⟩) (by show _ ≤ Nb + 1; have := HNb.out; omega) _) (p := ⟨Nb + 1, 1, none⟩) (by show _ ≤ Nb + 1; have := HNb.out; omega) _, (hN9.far (by show Nb ≠ Nb + 1; omega) _).far (by show Nb ≠ Nb + 1; omega) _, ?_⟩
              rw [Hst2.out]
              simpa [bestV] using (hB9.set_ 0 (.int .i64 (h : Int))).set_ 1 (.int .i64 n)
            case measure => simp [intOf]; omega
          | some bb =>
            obtain ⟨a, y⟩ := bb
            rw [hl] at hst hB3
            simp only [bestV] at hB3
            obtain ⟨b0, b1⟩ := hB3.c2
            have heq := fun W => eql_some a y W
            have Hst2 := Lib.hid hst
            obtain ⟨mn, hmn⟩ : ∃ mn, min n y = mn := ⟨_, rfl⟩
            have Hls := Lib.hid (fun (b : Nat) (W : World) (hb : Blk W b 3 #[.int .i64 y]) => pleast_any n (some ⟨b, 0, none⟩) 1 1 [y] rfl mn (by simpa using hmn) W (by unfold maxLen; simp) (by
              intro j hj
              obtain rfl : j = 0 := by simpa using hj
              exact ⟨b, 0, rfl, hb.c1⟩))
            have Hmn := Lib.hid hmn
            clear hst hl Hst hmn
            go_upto_region 10 with fail
            refine wp_region_chain 16 [(10, true), (11, true), (14, true), (15, true)] [] (by kernel_rfl) (by kernel_rfl) (by kernel_rfl) ?_
            simp only [List.take, List.drop, fill, Act.put, List.setIfInBounds_toArray, List.set_cons_zero, List.set_cons_succ, Nat.reduceAdd]
            repeat (first
              | refine Floats.mut rfl ?_
              | (apply Floats.float rfl
                 · intro x W he hd K Q hK
                   try (have he := he (by decide); have b0 := he.cell b0; have b1 := he.cell b1; have n0 := he.cell n0; have n1 := he.cell n1)
                   try simp only [edges, DepsE, List.filter_cons, List.filter_nil, Region.binds, if_true, and_true, true_and, upd, Nat.reduceEqDiff, if_false] at hd
                   try simp only [hd] at hK ⊢
                   have HK := Lib.hid hK; clear hK
                   go_wp2_with fail
                   exact HK.out))
            refine Floats.done fun W he hG => ?_
            refine Chain.cons _ rfl ?_
            intro x hd K Q hK
            try simp only [edges, DepsE, List.filter_cons, List.filter_nil, Region.binds, if_true, and_true, true_and, upd, Nat.reduceEqDiff, if_false] at hd
            try simp only [hd] at hK ⊢
            clear hd
            have HK := Lib.hid hK; clear hK
            go_wp2_with fail
            have hX9 := Ext.alloc W (.cells #[.int .i64 y] 3)
            have hb9 := Blk.new W 3 #[.int .i64 y]
            have he9 := he.trans hX9
            refine HK.out _ _ (fun _ => he9) ?_
            clear HK he hG
            obtain ⟨bl, hble⟩ : ∃ bl, W.heap.size = bl := ⟨_, rfl⟩
            rw [hble] at hb9 ⊢
            generalize W.alloc _ = W5 at *
            clear hX9 hble
            refine Chain.cons _ rfl ?_
            intro x hd K Q hK
            try simp only [edges, DepsE, List.filter_cons, List.filter_nil, Region.binds, if_true, and_true, true_and, upd, Nat.reduceEqDiff, if_false] at hd
            try simp only [hd] at hK ⊢
            clear hd
            have HK := Lib.hid hK; clear hK
            go_wp2_with fail
            refine (Hls.out bl W5 hb9).mono ?_
            rintro e w9 ⟨rfl, rfl⟩
            go_wp2_with fail
            refine HK.out _ _ (fun _ => he9) ?_
            clear HK
            have hB9 := hB3.ext he9
            have hN9 := hN3.ext he9
            have hew9 := hew3.trans he9
            have g0 := hB9.frozen 0
            have g1 := hB9.frozen 1
            clear b0 b1 n0 n1
            by_cases hny : n < y
            · obtain rfl : mn = n := by rw [← Hmn.out]; omega
              have hne : (mn != y) = true := by simp; omega
              refine Chain.cons _ rfl ?_
              intro x hd K Q hK
              try simp only [edges, DepsE, List.filter_cons, List.filter_nil, Region.binds, if_true, and_true, true_and, upd, Nat.reduceEqDiff, if_false] at hd
              try simp only [hd] at hK ⊢
              clear hd
              have HK := Lib.hid hK; clear hK
              go_wp2_with fail
              refine HK.out _ _ (fun _ => he9) ?_
              clear HK
              refine Chain.cons _ rfl ?_
              intro x hd K Q hK
              try simp only [edges, DepsE, List.filter_cons, List.filter_nil, Region.binds, if_true, and_true, true_and, upd, Nat.reduceEqDiff, if_false] at hd
              try simp only [hd] at hK ⊢
              clear hd
              have HK := Lib.hid hK; clear hK
              go_wp2_with fail
              refine HK.out _ _ (fun _ => he9) ?_
              clear HK
              refine Chain.nil ?_
              simp only [upd, Nat.reduceEqDiff, if_false, if_true]
              obtain ⟨b0, b1⟩ := hB9.c2
              rw [if_pos hny] at Hst2
              go_wp2_with fail
              go_roundw
              case rel =>
                refine ⟨h + 1, by omega, by go_num, Below.setCell (Below.setCell hew9 (p := ⟨Nb + 1, 0, none⟩) (by show _ ≤ Nb + 1; have := HNb.out; omega) _) (p := ⟨Nb + 1, 1, none⟩) (by show _ ≤ Nb + 1; have := HNb.out; omega) _, (hN9.far (by show Nb ≠ Nb + 1; omega) _).far (by show Nb ≠ Nb + 1; omega) _, ?_⟩
                rw [Hst2.out]
                simpa [bestV] using (hB9.set_ 0 (.int .i64 (h : Int))).set_ 1 (.int .i64 mn)
              case measure => simp [intOf]; omega
            · obtain rfl : mn = y := by rw [← Hmn.out]; omega
              have hne : (mn != mn) = false := by simp
              refine Chain.cons _ rfl ?_
              intro x hd K Q hK
              try simp only [edges, DepsE, List.filter_cons, List.filter_nil, Region.binds, if_true, and_true, true_and, upd, Nat.reduceEqDiff, if_false] at hd
              try simp only [hd] at hK ⊢
              clear hd
              have HK := Lib.hid hK; clear hK
              go_wp2_with fail
              refine HK.out _ _ (fun _ => he9) ?_
              clear HK
              refine Chain.cons _ rfl ?_
              intro x hd K Q hK
              try simp only [edges, DepsE, List.filter_cons, List.filter_nil, Region.binds, if_true, and_true, true_and, upd, Nat.reduceEqDiff, if_false] at hd
              try simp only [hd] at hK ⊢
              clear hd
              have HK := Lib.hid hK; clear hK
              go_wp2_with fail
              refine HK.out _ _ (fun _ => he9) ?_
              clear HK
              refine Chain.nil ?_
              simp only [upd, Nat.reduceEqDiff, if_false, if_true]
              rw [if_neg (by omega)] at Hst2
              go_wp2_with fail
              go_roundw
              case rel => exact ⟨h + 1, by omega, by go_num, hew9, hN9, by rw [Hst2.out]; exact hB9⟩
              case measure => simp [intOf]; omega
      · obtain rfl : h = 24 := by omega
        obtain ⟨n0, n1⟩ := hN.c2
        have Hr2 := Hr.out
        unfold cheapV at Hr2
        rw [if_neg (by simp [Hr0.out])] at Hr2
        have hfi2 : Pow.cheapF m (kk : Int).toNat = Pow.leastF (Pow.offerF m kk) 24 := rfl
        rw [hfi2] at Hr2
        cases hl : Pow.leastF (Pow.offerF m kk) 24 with
        | none =>
          rw [hl] at Hr2 hB
          simp only [Prod.mk.injEq] at Hr2
          obtain ⟨rfl, rfl, rfl⟩ := Hr2
          simp only [bestV] at hB
          obtain ⟨b0, b1⟩ := hB.c2
          have heq := eql_none
          clear hl hfi2 hfi
          go_wp2_with fail
          go_ret3
          exact ⟨rfl, hE1.trans hew⟩
        | some b =>
          obtain ⟨a, y⟩ := b
          rw [hl] at Hr2 hB
          simp only [Prod.mk.injEq] at Hr2
          obtain ⟨rfl, rfl, rfl⟩ := Hr2
          simp only [bestV] at hB
          obtain ⟨b0, b1⟩ := hB.c2
          have heq := fun W => eql_some a y W
          clear hl hfi2 hfi
          go_upto_region 15 with fail
          refine wp_region_chain 5 [] [] (by kernel_rfl) (by kernel_rfl) (by kernel_rfl) ?_
          simp only [List.take, List.drop, fill, Act.put, List.setIfInBounds_toArray, List.set_cons_zero, List.set_cons_succ, Nat.reduceAdd]
          repeat (first
            | refine Floats.mut rfl ?_
            | (apply Floats.float rfl
               · intro x W he hd K Q hK
                 try (have he := he (by decide); have b0 := he.cell b0; have b1 := he.cell b1)
                 try simp only [edges, DepsE, List.filter_cons, List.filter_nil, Region.binds, if_true, and_true, true_and, upd, Nat.reduceEqDiff, if_false] at hd
                 try simp only [hd] at hK ⊢
                 have HK := Lib.hid hK; clear hK
                 go_wp2_with fail
                 exact HK.out))
          refine Floats.done fun W he hG => ?_
          refine Chain.nil ?_
          simp only [upd, Nat.reduceEqDiff, if_false, if_true]
          go_wp2_with fail
          go_ret3
          exact ⟨rfl, hE1.trans (hew.trans he)⟩
  · unfold cheapV at Hr
    rw [if_pos (by rw [Hr0.out]; exact h0), Hr0.out] at Hr
    have Hr2 := Hr.out
    simp only [Prod.mk.injEq] at Hr2
    obtain ⟨rfl, rfl, rfl⟩ := Hr2
    have hd : (r0 != 0) = true := by simpa using h0
    clear Hr
    go_wp2_with fail
    go_ret3
    exact ⟨rfl, hE1⟩
end Go.Proofs.Pet
