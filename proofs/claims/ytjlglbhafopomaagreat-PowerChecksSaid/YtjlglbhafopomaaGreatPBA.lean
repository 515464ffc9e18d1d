/-
  power's Better, Runs, Adds, walked.
-/
import Derived.Test.YtjlglbhafopomaaGreatPB9
namespace Go.Proofs.Pet
open Go Go.RowKit Go.Maps Go.Shelf
open Go.Proofs.Pow (PM Sh Wv POk Up)

/-- the error of Better, and its group -/
def bettE (m : PM) (sh : List Int) : Int := if sharedE m sh ≠ 0 then sharedE m sh else if (Pow.firstF m.wvs.length (Pow.moreB m sh)).isNone then 6 else 0
def bettL (m : PM) (sh : List Int) : List Int := if sharedE m sh ≠ 0 then [] else ints ((Pow.firstF m.wvs.length (Pow.moreB m sh)).getD [])
set_option maxRecDepth 20000 in
theorem Better_any (v : Value) (m : PM) (A : Option Addr) (c n : Nat) (sh : List Int) (hn : sh.length = n) (r : Int) (x : List Int) (hr : bettE m sh = r) (hx : bettL m sh = x) (w : World) (hv : PMVal w v m) (hl : n ≤ maxLen) (hA : IntsAt w A sh) :
    Calls Tryz.prog 52 #[v, .slice A n c] w fun e w' => ∃ u, e = .returned (.tuple #[u, .int .i64 r]) ∧ OwnI w' w.heap.size 3 u x ∧ Ext w w' := by
  have Hv := Lib.hid hv
  obtain ⟨A1, c1, A2, c2, rfl, h2, h3, h4, h5, h6, h7⟩ := hv
  have hE := Ext.alloc w (.cells #[.slice A1 m.shafts.length c1, .slice A2 m.wvs.length c2] 26)
  obtain ⟨k0, k1⟩ := (Blk.new w 26 #[.slice A1 m.shafts.length c1, .slice A2 m.wvs.length c2]).c2
  obtain ⟨r0, hr0⟩ : ∃ r0, sharedE m sh = r0 := ⟨_, rfl⟩
  have ho := Lib.hid (shared_any _ m A c n sh hn r0 hr0 _ (Hv.out.ext hE) hl (hA.ext hE))
  clear h6 h7
  go_enter Tryz.func52, Tryz.ntmps52
  go_wp2_with fail
  refine ho.out.mono ?_
  rintro e w1 ⟨pv, rfl, he1, hop⟩
  have hE1 := hE.trans he1
  by_cases h0 : r0 = 0
  · subst h0
    subst hn
    obtain ⟨D, rfl, hD, -⟩ := hop rfl
    obtain ⟨hc, hle, hsb⟩ := sharedE_ok hr0
    have hm := (checkP_iff m).1 hc
    have hbe := Lib.hid (bett_any D m hm A c _ sh rfl hle hsb w1 (hA.ext hE1) hD)
    unfold bettE at hr
    unfold bettL at hx
    rw [if_neg (by simp [hr0])] at hr hx
    have Hr := Lib.hid hr; have Hx := Lib.hid hx
    clear hx hr hr0 hD hc hA ho hle hsb hm hop
    go_wp2_with fail
    refine hbe.out.mono ?_
    rintro e w2 ⟨A3, k3, c3, rfl, he2, hf⟩
    have hE2 := hE1.trans he2
    have hsz := hE1.size
    cases hq : Pow.firstF m.wvs.length (Pow.moreB m sh) with
    | none =>
      obtain rfl : r = 6 := by rw [← Hr.out, hq]; rfl
      obtain rfl : x = [] := by rw [← Hx.out, hq]; rfl
      rw [Option.isSome_none]
      clear hf hq Hr Hx hbe
      go_wp2_with fail
      go_ret2
      exact ⟨_, rfl, OwnI.nil _ _ _, hE2⟩
    | some l =>
      obtain rfl : r = 0 := by rw [← Hr.out, hq]; rfl
      obtain rfl : x = ints l := by rw [← Hx.out, hq]; rfl
      have hO := (hf l hq).mono hsz
      rw [Option.isSome_some]
      clear hf hq Hr Hx hbe
      go_wp2_with fail
      go_ret2
      exact ⟨_, rfl, hO, hE2⟩
  · have hd : (r0 != 0) = true := by simpa using h0
    unfold bettE at hr
    unfold bettL at hx
    rw [if_pos (by rw [hr0]; exact h0)] at hr hx
    obtain rfl : r0 = r := hr0.symm.trans hr
    subst hx
    clear hr hr0 hA ho h0 hop
    go_wp2_with fail
    go_ret2
    exact ⟨_, rfl, OwnI.nil _ _ _, hE1⟩

def runsL (m : PM) (h : Int) (k : Nat) : List Int := ints ((List.range k).filter fun s => Pow.runsB m s h.toNat)
theorem runsL_succ (m : PM) (h : Int) (k : Nat) : runsL m h (k + 1) = if Pow.runsB m k h.toNat then runsL m h k ++ [(k : Int)] else runsL m h k := by
  unfold runsL
  rw [List.range_succ, List.filter_append]
  by_cases hq : Pow.runsB m k h.toNat = true
  · rw [if_pos hq]; simp [hq, ints]
  · rw [if_neg hq]; simp [hq, ints]
theorem runsL_len (m : PM) (h : Int) (k : Nat) : (runsL m h k).length ≤ k := by
  unfold runsL
  rw [ints_length]
  exact Nat.le_trans (List.length_filter_le _ _) (by simp)
def runsE (m : PM) (h : Int) : Int := if checkP m ≠ 0 then checkP m else if inB h 0 23 = false then 3 else 0
set_option maxRecDepth 20000 in
set_option maxHeartbeats 1000000 in
theorem Runs_any (v : Value) (m : PM) (at_ : Int) (r : Int) (x : List Int) (hr : runsE m at_ = r) (hx : (if r = 0 then runsL m at_ m.shafts.length else []) = x) (w : World) (hv : PMVal w v m) :
    Calls Tryz.prog 77 #[v, .int .i64 at_] w fun e w' => ∃ u, e = .returned (.tuple #[u, .int .i64 r]) ∧ OwnI w' w.heap.size 3 u x ∧ Ext w w' := by
  obtain ⟨ti, hi, hz0, hz1, hz2⟩ := info_parts info_int
  have Hv := Lib.hid hv
  obtain ⟨A1, c1, A2, c2, rfl, h2, h3, h4, h5, h6, h7⟩ := hv
  have hE := Ext.alloc w (.cells #[.slice A1 m.shafts.length c1, .slice A2 m.wvs.length c2] 26)
  have hM := Blk.new w 26 #[.slice A1 m.shafts.length c1, .slice A2 m.wvs.length c2]
  obtain ⟨k0, k1⟩ := hM.c2
  have HM := Lib.hid hM
  have Hr := Lib.hid hr
  clear h6 h7 hM hr
  by_cases hc : checkP m = 0
  · have ho := Lib.hid (opened_any _ m hc _ (Hv.out.ext hE))
    have hm := (checkP_iff m).1 hc
    have hms := hm.sz
    have hml := hm.few
    have Hm := Lib.hid hm
    obtain ⟨q, hq⟩ : ∃ q, inB at_ 0 23 = q := ⟨_, rfl⟩
    have hho := Lib.hid (hour_any at_ q hq)
    have Hc := Lib.hid hc; have Hq := Lib.hid hq
    clear hc hm hq
    go_enter Tryz.func77, Tryz.ntmps77
    go_wp2_with fail
    refine ho.out.mono ?_
    rintro e w1 ⟨D, rfl, hD, -, he1⟩
    have HD := Lib.hid hD
    have hE1 := hE.trans he1
    have hM1 := HM.out.ext he1
    clear ho hD k0 k1
    go_wp2_with fail
    refine (hho.out w1).mono ?_
    rintro e w2 ⟨rfl, rfl⟩
    cases q with
    | false =>
      obtain rfl : r = 3 := by rw [← Hr.out]; unfold runsE; simp [Hc.out, Hq.out]
      obtain rfl : x = [] := by rw [← hx]; rfl
      go_wp2_with fail
      go_ret2
      exact ⟨_, rfl, OwnI.nil _ _ _, hE1⟩
    | true =>
      obtain rfl : r = 0 := by rw [← Hr.out]; unfold runsE; simp [Hc.out, Hq.out]
      rw [if_pos rfl] at hx
      have Hx := Lib.hid hx; clear hx
      obtain ⟨hh, rfl⟩ : ∃ hh : Nat, at_ = hh := ⟨at_.toNat, by have := inB_iff.1 Hq.out; omega⟩
      obtain ⟨k0, k1⟩ := hM1.c2
      go_wp2_with fail
      clear k0 k1
      go_loopw [8, 26] (fun v i wr => ∃ k : Nat, k ≤ m.shafts.length ∧ i = .int .i64 (k : Int) ∧ Hid (OwnI wr w1.heap.size 3 v (runsL m hh k)) ∧ Ext w1 wr) (fun _ i _ => m.shafts.length - (intOf i).toNat)
      case atStart => exact ⟨0, Nat.zero_le _, rfl, Lib.hid (OwnI.nil _ _ _), Ext.refl _⟩
      case round =>
        obtain ⟨k, hk, rfl, hO, he⟩ := hrel
        by_cases hlt : k < m.shafts.length
        · have hal := Lib.hid (allg_any D m Hm.out wr (HD.out.ext he))
          go_wp2_with fail
          refine hal.out.mono ?_
          rintro e w3 ⟨gv, rfl, hg, he3⟩
          obtain ⟨A4, c4, rfl, r1, r2, r3, -, -⟩ := hg.open_
          have hE3 := he.trans he3
          obtain ⟨u, hu⟩ : ∃ u, Pow.useI m (Pow.allI m.wvs.length) k hh = u := ⟨_, rfl⟩
          have hus := Lib.hid (use_any D m Hm.out A4 c4 (Pow.allI m.wvs.length).length (Pow.allI m.wvs.length) rfl (Pow.all_in m) k hh hlt (u : Int) (by rw [hu]) w3 (HD.out.ext hE3) (by rw [allI_len]; unfold maxLen; omega) r3)
          have hur := Pow.use_runs m k hh
          rw [hu] at hur
          have Hs := Lib.hid (runsL_succ m hh k)
          have hlen := runsL_len m hh k
          have hO3 := hO.out.ext he3
          obtain ⟨q2, hq2⟩ : ∃ q2, Pow.runsB m k hh = q2 := ⟨_, rfl⟩
          have hq3 : Pow.runsB m k (hh : Int).toNat = q2 := hq2
          rw [hq3] at Hs
          rw [hq2] at hur
          clear hal r3 hg r1 r2 hu he he3 hO hq2 hq3
          go_wp2_with fail
          refine hus.out.mono ?_
          rintro e w4 ⟨rfl, rfl⟩
          cases q2 with
          | false =>
            obtain rfl : u = 0 := by simp at hur; omega
            have hs' := Hs.out
            simp only [Bool.false_eq_true, if_false] at hs'
            have Hs' := Lib.hid hs'
            have HO3 := Lib.hid hO3
            clear hs' hO3 hus hur Hs
            go_wp2_with fail
            go_roundw
            case rel => exact ⟨k + 1, by omega, by go_num, by rw [Hs'.out]; exact HO3, hE3⟩
            case measure => simp [intOf]; omega
          | true =>
            have hu0 : 0 < u := by simpa using hur
            have hd : decide (0 < (u : Int)) = true := by simp; omega
            have hd' : decide (0 < u) = true := by simp; omega
            have hs' := Hs.out
            simp only [if_true] at hs'
            have Hs' := Lib.hid hs'
            have hX := Ext.alloc w3 (.cells #[.int .i64 (k : Int)] 3)
            have hsrc := Src.one w3 (.int .i64 (k : Int)) 3
            have hOX := hO3.ext hX
            have hsz := hE3.size
            have hszX := hX.size
            obtain ⟨A3, c3, rfl, r1, r2, r3, r4, r5⟩ := hO3.open_
            have Hw : Hid (∀ v' w', w'.ownsRow w1.heap.size 3 1 v' ((runsL m hh k).length + 1) ((runsL m hh k).map (Value.int .i64) ++ [.int .i64 (k : Int)]) → (w3.alloc (.cells #[.int .i64 (k : Int)] 3)).grownBy w' (Value.slice A3 (runsL m hh k).length c3).ownBlock → OwnI w' w1.heap.size 3 v' (runsL m hh (k + 1)) ∧ Ext w1 w') := by
              intro v' w' hown hg
              refine ⟨by unfold OwnI; rw [Hs'.out, List.length_append, List.map_append]; exact hown, ext_grown hE3 hg fun j hj => (hO3.own_lt j hj).1⟩
            clear r3 r4 r5 hO3 hs' Hs hus
            go_wp2_with (at_builtin; refine wpList_app rfl _ _ 31 rfl w1.heap.size 3 ti (.int .i64 0) 1 8 Tryz.underlying31 hi hz0 hz1 hz2 rfl (by decide) (.slice A3 (runsL m hh k).length c3) (runsL m hh k).length _ rfl hOX (some ⟨w3.heap.size, 0, none⟩) 1 1 [.int .i64 (k : Int)] rfl rfl hsrc ?c2 ?c3 ?c4 ?c5 ?_; (case c2 => (intro u hu; rw [List.mem_singleton] at hu; subst hu; rfl)); (case c3 => (unfold maxLen; omega)); (case c4 => omega); (case c5 => omega); intro v' w5 hown hg hblk; have HO := Lib.hid (Hw.out v' w5 hown hg); clear hown hg hblk)
            go_roundw
            case rel => exact ⟨k + 1, by omega, by go_num, HO.out.1, HO.out.2⟩
            case measure => simp [intOf]; omega
        · obtain rfl : k = m.shafts.length := by omega
          go_wp2_with fail
          go_ret2
          exact ⟨_, rfl, by rw [← Hx.out]; exact hO.out.mono hE1.size, hE1.trans he⟩
  · have ho := Lib.hid (openedErr _ m _ rfl hc _ (Hv.out.ext hE))
    obtain rfl : r = checkP m := by rw [← Hr.out]; unfold runsE; rw [if_pos hc]
    obtain rfl : x = [] := by rw [← hx, if_neg hc]
    have hd : (checkP m != 0) = true := by simpa using hc
    clear hx Hr
    generalize checkP m = r at *
    go_enter Tryz.func77, Tryz.ntmps77
    go_wp2_with fail
    refine ho.out.mono ?_
    rintro e w1 ⟨rfl, he1⟩
    go_wp2_with fail
    go_ret2
    exact ⟨_, rfl, OwnI.nil _ _ _, hE.trans he1⟩
end Go.Proofs.Pet
