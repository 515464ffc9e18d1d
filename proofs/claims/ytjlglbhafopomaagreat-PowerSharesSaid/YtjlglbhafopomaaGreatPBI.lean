/-
  Sights: Surely, Prove, Proves, walked.
-/
import Derived.Test.YtjlglbhafopomaaGreatPBH
namespace Go.Proofs.Pet
open Go Go.RowKit Go.Maps Go.Shelf
open Go.Proofs.Pow (PM Sh Wv POk Up sightF clrB opnS hitL explB clashB proofB)

def sureK (m : PM) (l : List Int) (n : Nat) : List Int := ((List.range n).filter fun k => decide (sightF l k = 2) && decide ((opnS m (sightF l) k).length = 1)).map fun k => (opnS m (sightF l) k)[0]?.getD 0
theorem sureK_succ (m : PM) (l : List Int) (k : Nat) : sureK m l (k + 1) = sureK m l k ++ if decide (sightF l k = 2) && decide ((opnS m (sightF l) k).length = 1) then [(opnS m (sightF l) k)[0]?.getD 0] else [] := by
  unfold sureK
  rw [List.range_succ, List.filter_append, List.map_append]
  congr 1
  cases h : decide (sightF l k = 2) && decide ((opnS m (sightF l) k).length = 1) <;> simp [h]
theorem sureK_len (m : PM) (l : List Int) (k : Nat) : (sureK m l k).length ≤ k := by
  unfold sureK
  rw [List.length_map]
  exact Nat.le_trans (List.length_filter_le _ _) (by simp)
def sureE (m : PM) (l : List Int) : Int := if sightE m l ≠ 0 then sightE m l else if clashB m (sightF l) = true then 7 else 0
def sureV (m : PM) (l : List Int) : List Int := if sureE m l = 0 then Lib.compact (Pow.sortL (Pow.sureL m (sightF l))) else []
set_option maxRecDepth 20000 in
set_option maxHeartbeats 1000000 in
theorem Surely_any (v : Value) (m : PM) (A : Option Addr) (c n : Nat) (l : List Int) (hn : l.length = n) (r : Int) (x : List Int) (hr : sureE m l = r) (hx : sureV m l = x) (w : World) (hv : PMVal w v m) (hl : n ≤ maxLen) (hA : IntsAt w A l) :
    Calls Tryz.prog 25 #[v, .slice A n c] w fun e w' => ∃ u, e = .returned (.tuple #[u, .int .i64 r]) ∧ OwnI w' w.heap.size 3 u x ∧ Ext w w' := by
  obtain ⟨ti, hi, hz0, hz1, hz2⟩ := info_parts info_int
  have Hv := Lib.hid hv
  obtain ⟨A1, c1, A2, c2, rfl, h2, h3, h4, h5, h6, h7⟩ := hv
  have hE := Ext.alloc w (.cells #[.slice A1 m.shafts.length c1, .slice A2 m.wvs.length c2] 26)
  have hM := Blk.new w 26 #[.slice A1 m.shafts.length c1, .slice A2 m.wvs.length c2]
  obtain ⟨k0, k1⟩ := hM.c2
  obtain ⟨r0, hr0⟩ : ∃ r0, sightE m l = r0 := ⟨_, rfl⟩
  have ho := Lib.hid (sighted_any _ m A c n l hn r0 hr0 _ (Hv.out.ext hE) hl (hA.ext hE))
  have Hr := Lib.hid hr; have Hx := Lib.hid hx; have Hr0 := Lib.hid hr0
  clear h6 h7 hM hr hx hr0
  go_enter Tryz.func25, Tryz.ntmps25
  go_wp2_with fail
  refine ho.out.mono ?_
  rintro e w1 ⟨pv, rfl, he1, hop⟩
  have hE1 := hE.trans he1
  clear k0 k1 ho
  by_cases h0 : r0 = 0
  · subst h0
    obtain ⟨D, rfl, hD, -⟩ := hop rfl
    obtain ⟨hck, hle, -⟩ := sightE_ok Hr0.out
    have Hm := Lib.hid ((checkP_iff m).1 hck)
    have hml := Hm.out.few
    have Hn := Lib.hid hn; have Hle := Lib.hid (hn.symm.trans hle)
    have hn6 : n ≤ 6 := by omega
    have HD := Lib.hid hD; have HA := Lib.hid (hA.ext hE1)
    obtain ⟨q, hq⟩ : ∃ q, clashB m (sightF l) = q := ⟨_, rfl⟩
    have hcl := Lib.hid (clash_any D m Hm.out A c n l Hn.out Hle.out q hq w1 HD.out HA.out)
    have Hq := Lib.hid hq
    clear hD hck hle hn hop hA hq
    go_wp2_with fail
    refine hcl.out.mono ?_
    rintro e w2 ⟨rfl, he2⟩
    have hE2 := hE1.trans he2
    clear hcl
    cases q with
    | true =>
      obtain rfl : r = 7 := by rw [← Hr.out]; unfold sureE; rw [if_neg (by simp [Hr0.out]), if_pos Hq.out]
      obtain rfl : x = [] := by rw [← Hx.out]; unfold sureV; rw [Hr.out]; rfl
      go_wp2_with fail
      go_ret2
      exact ⟨_, rfl, OwnI.nil _ _ _, hE2⟩
    | false =>
      obtain rfl : r = 0 := by rw [← Hr.out]; unfold sureE; rw [if_neg (by simp [Hr0.out]), if_neg (by simp [Hq.out])]
      have Hx2 : Hid (Lib.compact (Pow.sortL (sureK m l n)) = x) := by
        unfold Hid
        rw [← Hx.out]
        unfold sureV
        rw [if_pos Hr.out, Hle.out]
        rfl
      go_wp2_with fail
      go_loopw [8, 28] (fun v iv wr => ∃ k : Nat, k ≤ n ∧ iv = .int .i64 (k : Int) ∧ Hid (OwnI wr w2.heap.size 3 v (sureK m l k)) ∧ Ext w2 wr) (fun _ iv _ => n - (intOf iv).toNat)
      case atStart => exact ⟨0, Nat.zero_le _, rfl, Lib.hid (OwnI.nil _ _ _), Ext.refl _⟩
      case round =>
        obtain ⟨k, hk, rfl, hO, hew⟩ := hrel
        by_cases hlt : k < n
        · have heA := he2.trans hew
          obtain ⟨b, o, e0, q1⟩ := HA.out.ext heA k (by have := Hn.out; omega)
          have hxs : Hid (sightF l k = l[k]?.getD 0) := rfl
          have hkl : k < m.wvs.length := by have := Hle.out; omega
          obtain ⟨os, hos⟩ : ∃ os, opnS m (sightF l) k = os := ⟨_, rfl⟩
          have hop := Lib.hid (open_any D m Hm.out A c n l Hn.out Hle.out k hkl os hos wr (HD.out.ext heA) (HA.out.ext heA))
          have hs := sureK_succ m l k
          rw [hos, hxs.out] at hs
          have hln := sureK_len m l k
          generalize l[k]?.getD 0 = y at *
          have Hs := Lib.hid hs
          subst e0
          obtain ⟨A5, c5, rfl, -, -, -, -, -⟩ := hO.out.open_
          clear hos hs
          go_wp2_with fail
          refine hop.out.mono ?_
          rintro e w3 ⟨u, rfl, hOu, he3⟩
          have hE3 := hew.trans he3
          have hO3 := hO.out.ext he3
          obtain ⟨A3, c3, rfl, r1, r2, r3, -, -⟩ := hOu.open_
          clear hop hOu hO he3 hew
          by_cases h2 : y = 2
          · subst h2
            by_cases hl1 : os.length = 1
            · obtain ⟨z, rfl⟩ := List.length_eq_one_iff.1 hl1
              have hs2 : Hid (sureK m l (k + 1) = sureK m l k ++ [z]) := by unfold Hid; rw [Hs.out]; simp
              obtain ⟨b3, o3, e3, c9⟩ := r3 0 (by simp)
              subst e3
              have hX := Ext.alloc w3 (.cells #[.int .i64 z] 3)
              have hsrc := Src.one w3 (.int .i64 z) 3
              have hOX := hO3.ext hX
              have hsz := hE3.size
              have hszX := hX.size
              have Hw : Hid (∀ v' w', w'.ownsRow w2.heap.size 3 1 v' ((sureK m l k).length + 1) ((sureK m l k).map (Value.int .i64) ++ [.int .i64 z]) → (w3.alloc (.cells #[.int .i64 z] 3)).grownBy w' (Value.slice A5 (sureK m l k).length c5).ownBlock → OwnI w' w2.heap.size 3 v' (sureK m l (k + 1)) ∧ Ext w2 w') := by
                intro v' w' hown hg
                refine ⟨by unfold OwnI; rw [hs2.out, List.length_append, List.map_append]; exact hown, ext_grown hE3 hg fun j hj => (hO3.own_lt j hj).1⟩
              clear r3 hO3 hl1
              simp only [List.length_singleton, List.getElem?_cons_zero, Option.getD_some, Nat.add_zero] at *
              go_wp2_with (at_builtin; refine wpList_app rfl _ _ 31 rfl w2.heap.size 3 ti (.int .i64 0) 1 8 Tryz.underlying31 hi hz0 hz1 hz2 rfl (by decide) (.slice A5 (sureK m l k).length c5) (sureK m l k).length _ rfl hOX (some ⟨w3.heap.size, 0, none⟩) 1 1 [.int .i64 z] rfl rfl hsrc ?c2 ?c3 ?c4 ?c5 ?_; (case c2 => (intro u hu; rw [List.mem_singleton] at hu; subst hu; rfl)); (case c3 => (unfold maxLen; omega)); (case c4 => omega); (case c5 => omega); intro v' w5 hown hg hblk; have HO := Lib.hid (Hw.out v' w5 hown hg); clear hown hg hblk)
              go_roundw
              case rel => exact ⟨k + 1, by omega, by go_num, HO.out.1, HO.out.2⟩
              case measure => simp [intOf]; omega
            · have hd1 : ((os.length : Int) == 1) = false := by simp; omega
              have hs2 : Hid (sureK m l (k + 1) = sureK m l k) := by unfold Hid; rw [Hs.out]; simp [hl1]
              have HO3 := Lib.hid hO3
              generalize os.length = ol at *
              clear r3 hO3 hl1
              go_wp2_with fail
              go_roundw
              case rel => exact ⟨k + 1, by omega, by go_num, by rw [hs2.out]; exact HO3, hE3⟩
              case measure => simp [intOf]; omega
          · have hd1 : (y == 2) = false := by simpa using h2
            have hs2 : Hid (sureK m l (k + 1) = sureK m l k) := by unfold Hid; rw [Hs.out]; simp [h2]
            have HO3 := Lib.hid hO3
            clear r3 hO3 h2
            go_wp2_with fail
            go_roundw
            case rel => exact ⟨k + 1, by omega, by go_num, by rw [hs2.out]; exact HO3, hE3⟩
            case measure => simp [intOf]; omega
        · obtain rfl : k = n := by omega
          have hln := sureK_len m l k
          generalize sureK m l k = sk at *
          have hsort := Lib.hid (sortI _ _ sk wr hO.out (by omega))
          obtain ⟨A5, c5, e5, -, -, -, -, -⟩ := hO.out.open_
          subst e5
          go_wp2_with fail
          refine hsort.out.mono ?_
          rintro e w3 ⟨rfl, hO3, hg3⟩
          have hE3 : Ext w2 w3 := Below.grown hew hg3 hew.size (fun j hj => (hO.out.own_lt j hj).1)
          have hcomp := Lib.hid (compactI _ _ _ w3 hO3 (by rw [List.length_mergeSort]; omega))
          clear hsort
          go_wp2_with fail
          refine hcomp.out.mono ?_
          rintro e w4 ⟨u, rfl, hO4, -, hg4⟩
          have hE4 : Ext w2 w4 := Below.grown hE3 hg4 hE3.size (fun j hj => (hO3.own_lt j hj).1)
          have hO5 : OwnI w4 w2.heap.size 3 u x := by rw [← Hx2.out]; exact hO4
          obtain ⟨A6, c6, rfl, -, -, -, -, -⟩ := hO5.open_
          have HO5 := Lib.hid hO5
          clear hO5 hO4 hcomp
          go_wp2_with fail
          go_ret2
          exact ⟨_, rfl, HO5.out.mono hE2.size, hE2.trans hE4⟩
  · obtain rfl : r = r0 := by rw [← Hr.out]; unfold sureE; rw [if_pos (by rw [Hr0.out]; exact h0), Hr0.out]
    obtain rfl : x = [] := by rw [← Hx.out]; unfold sureV; rw [Hr.out, if_neg h0]
    have hd : (r != 0) = true := by simpa using h0
    clear hA h0 hop
    go_wp2_with fail
    go_ret2
    exact ⟨_, rfl, OwnI.nil _ _ _, hE1⟩
set_option maxRecDepth 20000 in
theorem prove1_any (D Mb Db Sb ct : Nat) (hct : ct ≤ 10) (m : PM) (hm : POk m) (A : Option Addr) (c n : Nat) (l : List Int) (hn : l.length = n) (hl : n = m.wvs.length) (w : World) (hMb : Blk w Mb 3 #[.int .i64 (ct : Int)]) (hDb : Blk w Db 135 #[.pointer (some ⟨D, 0, none⟩)]) (hSb : Blk w Sb 30 #[.slice A n c]) (hD : DeskAt w D m) (hA : IntsAt w A l) (g : List Nat) (hg : Up m.wvs.length 0 g) :
    Tells Tryz.prog w 127 #[] #[.pointer (some ⟨Mb, 0, none⟩), .pointer (some ⟨Db, 0, none⟩), .pointer (some ⟨Sb, 0, none⟩)] (fun W v l => SlI W v (ints l)) g (decide (g.length = ct) && proofB m (sightF l) g) := by
  intro W v hW hv
  obtain ⟨B, d, rfl, s1, s2, hB⟩ := hv
  have hlen := ints_length g
  have hml := hm.few
  have hgl := Pow.up_len hg
  rw [hlen] at s1 ⊢
  have hex := Lib.hid (proof_any D m hm A c n l hn hl B d g.length (ints g) hlen (ints_inG hg) (by omega) (proofB m (sightF l) g) (by rw [natL_ints]) W (hD.ext hW) (hA.ext hW) hB)
  generalize proofB m (sightF l) g = q at *
  have e0 := (hMb.ext hW).c1
  have e1 := (hDb.ext hW).c1
  have e2 := (hSb.ext hW).c1
  clear hMb hDb hSb hD hA hB hlen hn hl
  generalize g.length = gl at *
  show Calls Tryz.prog 127 #[_, .pointer (some ⟨Mb, 0, none⟩), .pointer (some ⟨Db, 0, none⟩), .pointer (some ⟨Sb, 0, none⟩)] W _
  by_cases h : gl = ct
  · subst h
    go_enter Tryz.func127, Tryz.ntmps127
    go_wp2_with fail
    refine hex.out.mono ?_
    rintro e w4 ⟨rfl, he4⟩
    go_wp2_with fail
    go_ret
    exact ⟨by simp, he4⟩
  · have hd : ((gl : Int) == (ct : Int)) = false := by simp; omega
    go_enter Tryz.func127, Tryz.ntmps127
    go_wp2_with fail
    go_ret
    exact ⟨by simp [h], Ext.refl _⟩
end Go.Proofs.Pet
