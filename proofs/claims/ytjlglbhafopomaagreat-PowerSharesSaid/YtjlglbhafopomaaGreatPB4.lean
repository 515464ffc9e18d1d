/-
  How many of a group use power of a shaft in an hour; the group of all; walked.
-/
import Derived.Test.YtjlglbhafopomaaGreatPB3
namespace Go.Proofs.Pet
open Go Go.RowKit Go.Maps Go.Shelf
open Go.Proofs.Pow (PM Sh Wv POk)

theorem useI_take (m : PM) (g : List Int) (s h k : Nat) (hk : k < g.length) (kk : Nat) (e : g[k]?.getD 0 = (kk : Int)) : Pow.useI m (g.take (k + 1)) s h = Pow.useI m (g.take k) s h + if Pow.usesB m s h kk then 1 else 0 := by
  have : g.take (k + 1) = g.take k ++ [(kk : Int)] := by
    rw [List.take_add_one, List.getElem?_eq_getElem hk]
    rw [List.getElem?_eq_getElem hk] at e
    simp only [Option.getD_some] at e
    rw [e]; rfl
  rw [this, Pow.useI_snoc]

set_option maxRecDepth 20000 in
set_option maxHeartbeats 1000000 in
theorem use_any (D : Nat) (m : PM) (hm : POk m) (A : Option Addr) (c n : Nat) (g : List Int) (hn : g.length = n) (hg : Pow.InG m g) (s h : Nat) (hs : s < m.shafts.length) (r : Int) (hr : (Pow.useI m g s h : Int) = r) (w : World) (hD : DeskAt w D m) (hl : n ≤ maxLen) (hA : IntsAt w A g) :
    Calls Tryz.prog 122 #[.pointer (some ⟨D, 0, none⟩), .slice A n c, .int .i64 s, .int .i64 h] w fun e w' => e = .returned (.int .i64 r) ∧ w = w' := by
  subst hr
  subst hn
  have hs9 : s < 9 := by have := hm.sz; omega
  have hml := hm.few
  unfold maxLen at hl
  go_enter Tryz.func122, Tryz.ntmps122
  go_wp2
  go_loopw [9, 14] (fun u i wr => ∃ k : Nat, k ≤ g.length ∧ i = .int .i64 k ∧ (∃ n : Nat, n ≤ k ∧ u = .int .i64 (n : Int) ∧ Hid (Pow.useI m (g.take k) s h = n)) ∧ w = wr) (fun _ i _ => g.length - (intOf i).toNat)
  case atStart => exact ⟨0, Nat.zero_le _, rfl, ⟨0, Nat.le_refl _, rfl, rfl⟩, rfl⟩
  case round =>
    obtain ⟨k, hk, rfl, ⟨nn, hnk, rfl, hnn⟩, rfl⟩ := hrel
    by_cases hlt : k < g.length
    · obtain ⟨b, o, rfl, c1⟩ := hA k hlt
      have hgk := hg (g[k]?.getD 0) (by simp [hlt])
      obtain ⟨kk, hkk⟩ : ∃ kk : Nat, g[k]?.getD 0 = kk := ⟨_, (Int.toNat_of_nonneg hgk.1).symm⟩
      have Hst := Lib.hid (useI_take m g s h k hlt kk hkk)
      rw [hkk] at c1 hgk
      have hkl : kk < m.wvs.length := by omega
      have hk6 : kk < 6 := by omega
      have Hkk := Lib.hid hkk; clear hkk
      have d1 := hD.drv hs9 hk6
      obtain ⟨A1, c1', A2, c2', d2, d3, -, -, d4⟩ := hD.slices
      obtain ⟨b2, o2, rfl, A3, c3, h3, j1, j2, j3⟩ := d4 kk hkl
      have hwv : m.wvs[kk]?.getD default = m.wv kk := rfl
      rw [hwv] at h3 j1 j2 j3
      obtain ⟨q, hq⟩ : ∃ q, drvC m s kk = q := ⟨_, rfl⟩
      obtain ⟨q2, hq2⟩ : ∃ q2, (m.wv kk).hours.contains (h : Int) = q2 := ⟨_, rfl⟩
      have hqq : Hid (Pow.usesB m s h kk = (q && q2)) := by
        unfold Hid Pow.usesB
        rw [hq2, ← hq]
        simp [drvC, hkl]
      rw [hq] at d1
      have Ho := Lib.hid (contains_any (h : Int) A3 c3 _ (m.wv kk).hours rfl q2 hq2 w (Nat.le_trans h3.1 h3.2) j3)
      clear d2 d4 j1 j3 hq hq2
      generalize (m.wv kk).hours.length = hl at *
      cases q with
      | false =>
        go_wp2_with fail
        go_roundw
        case rel =>
          refine ⟨k + 1, by omega, by go_num, ⟨nn, by omega, rfl, ?_⟩, by trivial⟩
          unfold Hid
          rw [Hst.out, hnn.out, hqq.out]; simp
        case measure => simp [intOf]; omega
      | true =>
        go_wp2_with fail
        refine Ho.out.mono ?_
        rintro e w' ⟨rfl, rfl⟩
        cases q2 with
        | false =>
          go_wp2_with fail
          go_roundw
          case rel =>
            refine ⟨k + 1, by omega, by go_num, ⟨nn, by omega, rfl, ?_⟩, by trivial⟩
            unfold Hid
            rw [Hst.out, hnn.out, hqq.out]; simp
          case measure => simp [intOf]; omega
        | true =>
          go_wp2_with fail
          go_roundw
          case rel =>
            refine ⟨k + 1, by omega, by go_num, ⟨nn + 1, by omega, by go_num, ?_⟩, by trivial⟩
            unfold Hid
            rw [Hst.out, hnn.out, hqq.out]; simp
          case measure => simp [intOf]; omega
    · obtain rfl : k = g.length := by omega
      have hr := hnn.out
      rw [List.take_of_length_le (Nat.le_refl _)] at hr
      have Hr := Lib.hid hr; clear hr hnn
      go_wp2
      go_ret
      exact ⟨by rw [Hr.out]; rfl, rfl⟩

theorem allI_succ (k : Nat) : Pow.allI (k + 1) = Pow.allI k ++ [(k : Int)] := by
  unfold Pow.allI; rw [List.range_succ, List.map_append]; rfl
theorem allI_len (k : Nat) : (Pow.allI k).length = k := by simp [Pow.allI]
set_option maxRecDepth 20000 in
set_option maxHeartbeats 1000000 in
theorem allg_any (D : Nat) (m : PM) (hm : POk m) (w : World) (hD : DeskAt w D m) :
    Calls Tryz.prog 114 #[.pointer (some ⟨D, 0, none⟩)] w fun e w' => ∃ v, e = .returned v ∧ OwnI w' w.heap.size 3 v (Pow.allI m.wvs.length) ∧ Ext w w' := by
  obtain ⟨ti, hi, hz0, hz1, hz2⟩ := info_parts info_int
  have hml := hm.few
  obtain ⟨A1, c1', A2, c2', d2, d3, -, -, -⟩ := hD.slices
  go_enter Tryz.func114, Tryz.ntmps114
  go_wp2
  go_loopw [3, 11] (fun v i wr => ∃ k : Nat, k ≤ m.wvs.length ∧ i = .int .i64 k ∧ Hid (OwnI wr w.heap.size 3 v (Pow.allI k)) ∧ Ext w wr) (fun _ i _ => m.wvs.length - (intOf i).toNat)
  case atStart => exact ⟨0, Nat.zero_le _, rfl, Lib.hid (OwnI.nil _ _ _), Ext.refl _⟩
  case round =>
    obtain ⟨k, hk, rfl, hO, he⟩ := hrel
    by_cases hlt : k < m.wvs.length
    · have hX := Ext.alloc wr (.cells #[.int .i64 (k : Int)] 3)
      have hsrc := Src.one wr (.int .i64 (k : Int)) 3
      have hOX := hO.out.ext hX
      have hsz := he.size
      have hszX := hX.size
      obtain ⟨A3, c3, rfl, r1, r2, r3, r4, r5⟩ := hO.out.open_
      have hlen := allI_len k
      have Hw : Hid (∀ v' w', w'.ownsRow w.heap.size 3 1 v' ((Pow.allI k).length + 1) ((Pow.allI k).map (Value.int .i64) ++ [.int .i64 (k : Int)]) → (wr.alloc (.cells #[.int .i64 (k : Int)] 3)).grownBy w' (Value.slice A3 (Pow.allI k).length c3).ownBlock → OwnI w' w.heap.size 3 v' (Pow.allI (k + 1)) ∧ Ext w w') := by
        intro v' w' hown hg
        refine ⟨by unfold OwnI; rw [allI_succ, List.length_append, List.map_append]; exact hown, ext_grown he hg fun j hj => (hO.out.own_lt j hj).1⟩
      clear r3 r4 r5 hO
      go_wp2_with (at_builtin; refine wpList_app rfl _ _ 31 rfl w.heap.size 3 ti (.int .i64 0) 1 8 Tryz.underlying31 hi hz0 hz1 hz2 rfl (by decide) (.slice A3 (Pow.allI k).length c3) (Pow.allI k).length _ rfl hOX (some ⟨wr.heap.size, 0, none⟩) 1 1 [.int .i64 (k : Int)] rfl rfl hsrc ?c2 ?c3 ?c4 ?c5 ?_; (case c2 => (intro u hu; rw [List.mem_singleton] at hu; subst hu; rfl)); (case c3 => (unfold maxLen; omega)); (case c4 => omega); (case c5 => omega); intro v' w5 hown hg hblk; have HO := Lib.hid (Hw.out v' w5 hown hg); clear hown hg hblk)
      go_roundw
      case rel => exact ⟨k + 1, by omega, by go_num, HO.out.1, HO.out.2⟩
      case measure => simp [intOf]; omega
    · obtain rfl : k = m.wvs.length := by omega
      go_wp2
      go_ret
      exact ⟨_, rfl, hO.out, he⟩
end Go.Proofs.Pet
