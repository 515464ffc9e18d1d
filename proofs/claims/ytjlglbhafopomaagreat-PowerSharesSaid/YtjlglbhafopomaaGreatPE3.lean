/-
  The reference's Runs, Grouped and Cost, walked.
-/
import Derived.Test.YtjlglbhafopomaaGreatPE2
import Derived.Test.YtjlglbhafopomaaGreatPB5
namespace Go.Proofs.Pet
set_option linter.unusedSimpArgs false
open Go Go.RowKit Go.Maps Go.Shelf
open Go.Proofs.Pow (PM Sh Wv POk Up)

set_option maxRecDepth 20000 in
set_option maxHeartbeats 1000000 in
theorem runs7_any (v : Value) (m : PM) (hm : POk m) (A : Option Addr) (c n : Nat) (g : List Int) (hn : g.length = n) (hg : Pow.InG m g) (hl : n ≤ 100) (s h : Nat) (q : Bool) (hq : Pow.mkG m g s h = q) (w : World) (hv : PMVal w v m) (hA : IntsAt w A g) :
    Calls Tryz.prog 75 #[v, .slice A n c, .int .i64 (s : Int), .int .i64 (h : Int)] w fun e w' => e = .returned (.bool q) ∧ Ext w w' := by
  -- <<R
  have Hv := Lib.hid hv
  obtain ⟨A1, c1, A2, c2, rfl, -, -, -, -, -, h7⟩ := hv
  have hE := Ext.alloc w (.cells #[.slice A1 m.shafts.length c1, .slice A2 m.wvs.length c2] 54)
  have HM := Lib.hid (Blk.new w 54 #[.slice A1 m.shafts.length c1, .slice A2 m.wvs.length c2])
  have H7 := Lib.hid (h7.ext hE)
  have HA := Lib.hid (hA.ext hE)
  replace Hv := Lib.hid (Hv.out.ext hE)
  have Hn := Lib.hid hn
  have hsz := hm.sz
  have hfew := hm.few
  have Hm := Lib.hid hm
  have Hg := Lib.hid hg
  unfold Pow.mkG at hq
  have Hq : Hid ((g.drop 0).any (Pow.usesI m s h) = q) := hq
  clear hq h7 hA hn hm hg
  go_enter Tryz.func75, Tryz.ntmps75
  go_wp2_with fail
  generalize w.alloc _ = w1 at *
  go_loopw [9] (fun i wr => ∃ j : Nat, j ≤ n ∧ i = .int .i64 (j : Int) ∧ Hid ((g.drop j).any (Pow.usesI m s h) = q) ∧ Ext w1 wr) (fun i _ => n - (intOf i).toNat)
  case atStart => exact ⟨0, Nat.zero_le _, rfl, Hq, Ext.refl _⟩
  case round =>
    clear Hq
    obtain ⟨j, hj, rfl, hq, he⟩ := hrel
    by_cases hlt : j < n
    · have hl1 : j < g.length := by rw [Hn.out]; exact hlt
      obtain ⟨b, o, rfl, l1⟩ := HA.out.ext he j hl1
      rw [List.getElem?_eq_getElem hl1, Option.getD_some] at l1
      have hq2 := hq.out
      rw [List.drop_eq_getElem_cons hl1, List.any_cons] at hq2
      have hx := Hg.out g[j] (List.getElem_mem hl1)
      obtain ⟨k, hk⟩ : ∃ k : Nat, g[j] = k := ⟨_, (Int.toNat_of_nonneg hx.1).symm⟩
      rw [hk] at l1 hq2 hx
      have hkl : k < m.wvs.length := by omega
      obtain ⟨k0, k1⟩ := (HM.out.ext he).c2
      obtain ⟨b2, o2, rfl, A3, c3, hc3, j1, j2, j3⟩ := H7.out.ext he k hkl
      rw [show m.wvs[k]?.getD default = m.wv k from rfl] at hc3 j1 j2 j3
      obtain ⟨hs, hhs⟩ : ∃ hs, (m.wv k).hours = hs := ⟨_, rfl⟩
      obtain ⟨hd, hhd⟩ : ∃ d, hs.length = d := ⟨_, rfl⟩
      obtain ⟨q1, hq1⟩ : ∃ q1, hs.contains (h : Int) = q1 := ⟨_, rfl⟩
      obtain ⟨L, hL⟩ : ∃ L, m.line (m.wv k).shaft = L := ⟨_, rfl⟩
      obtain ⟨q3, hq3⟩ : ∃ q3, L.contains (s : Int) = q3 := ⟨_, rfl⟩
      have hu : Pow.usesI m s h (k : Int) = (q3 && q1) := by
        unfold Pow.usesI
        rw [Int.toNat_natCast, hL, hhs, hq1, hq3]
      rw [hu] at hq2
      rw [hhs, hhd] at hc3 j2
      rw [hhs] at j3
      have Hs := Lib.hid (fun W => has_any (h : Int) A3 c3 hd hs hhd q1 hq1 W (by omega))
      have J3 := Lib.hid j3
      have Hln := Lib.hid (fun W (hW : Ext wr W) => line7_any _ m Hm.out k hkl W (Hv.out.ext (he.trans hW)))
      have Hql : Hid (∀ W A4 c4, IntsAt W A4 L → Calls Tryz.prog 110 #[.slice A4 L.length c4, .int .i64 (s : Int)] W fun e w' => e = .returned (.bool q3) ∧ W = w') := fun W A4 c4 h4 => has_any (s : Int) A4 c4 L.length L rfl q3 hq3 W (by
        have h1 := (Hm.out.at_ k hkl)
        obtain ⟨z, hz⟩ : ∃ z : Nat, (m.wv k).shaft = z := ⟨_, (Int.toNat_of_nonneg h1.1).symm⟩
        rw [hz] at h1 hL
        have h2 := line_len Hm.out.up z (by omega)
        rw [hL] at h2
        unfold maxLen; omega) h4
      rw [hL] at Hln
      have Hq2 := Lib.hid hq2
      clear hk hhs hhd hq1 hL hq3 hu hq2 hq hx hl1 j1 j3 hsz hc3
      have hew := he
      clear he
      cases q1 with
      | true =>
        go_upto_region 6 with fail
        refine wp_region_tree 20 [(10, true), (17, true), (19, true)] [] (by kernel_rfl) (by kernel_rfl) (by kernel_rfl) (ds := [0, 1, 2, 3, 4, 5, 6, 7, 8, 9]) (by kernel_rfl) ?_
        simp only [List.take, List.drop, fill, Act.put, List.setIfInBounds_toArray, List.set_cons_zero, List.set_cons_succ, Nat.reduceAdd]
        repeat (first
          | (apply Unlock.float rfl
             · intro x W he hd K Qr hK
               try (have he := he (by decide); have k0 := he.cell k0; have k1 := he.cell k1; have l1 := he.cell l1; have j2 := he.cell j2)
               try simp only [edges, DepsE, List.filter_cons, List.filter_nil, Region.binds, if_true, and_true, true_and, upd, Nat.reduceEqDiff, if_false] at hd
               try simp only [hd] at hK ⊢
               have HK := Lib.hid hK; clear hK
               go_wp2_with fail
               exact HK.out))
        refine Unlock.nil ?_
        intro W he hG
        refine Tree.next (ks := [(10, true)]) (by kernel_rfl) ?_
        refine TSteps.cons _ rfl ?_ trivial
        intro x hd K Qr hK
        try simp only [edges, DepsE, List.filter_cons, List.filter_nil, Region.binds, if_true, and_true, true_and, upd, Nat.reduceEqDiff, if_false] at hd
        try simp only [hd] at hK ⊢
        clear hd
        have HK := Lib.hid hK; clear hK
        go_wp2_with fail
        refine (Hs.out W (J3.out.ext he)).mono ?_
        rintro e w5 ⟨rfl, rfl⟩
        go_wp2_with fail
        refine HK.out _ _ (fun _ => he) ?_
        clear HK
        refine Unlock.of (ds := [11, 12, 13, 14, 15, 16, 18]) (by kernel_rfl) ?_
        repeat (first
          | (apply Unlock.float rfl
             · intro x W he hd K Qr hK
               try (have he := he (by decide); have k0 := he.cell k0; have k1 := he.cell k1; have l1 := he.cell l1)
               try simp only [edges, DepsE, List.filter_cons, List.filter_nil, Region.binds, if_true, and_true, true_and, upd, Nat.reduceEqDiff, if_false] at hd
               try simp only [hd] at hK ⊢
               have HK := Lib.hid hK; clear hK
               go_wp2_with fail
               exact HK.out))
        refine Unlock.nil ?_
        refine Tree.next (ks := [(17, true)]) (by kernel_rfl) ?_
        refine TSteps.cons _ rfl ?_ trivial
        intro x hd K Qr hK
        try simp only [edges, DepsE, List.filter_cons, List.filter_nil, Region.binds, if_true, and_true, true_and, upd, Nat.reduceEqDiff, if_false] at hd
        try simp only [hd] at hK ⊢
        clear hd
        have HK := Lib.hid hK; clear hK
        go_wp2_with fail
        refine (Hln.out W he).mono ?_
        rintro e w5 ⟨v9, rfl, hO, he5⟩
        obtain ⟨A9, c9, rfl, -, -, y3, -, -⟩ := hO.open_
        have heA := he.trans he5
        have hI9 := Lib.hid (Hql.out w5 A9 c9 y3)
        clear y3 hO
        go_wp2_with fail
        refine HK.out _ _ (fun _ => heA) ?_
        clear HK
        refine Unlock.of (ds := []) (by kernel_rfl) ?_
        repeat (first
          | (apply Unlock.float rfl
             · intro x W he hd K Qr hK
               try (have he := he (by decide); skip)
               try simp only [edges, DepsE, List.filter_cons, List.filter_nil, Region.binds, if_true, and_true, true_and, upd, Nat.reduceEqDiff, if_false] at hd
               try simp only [hd] at hK ⊢
               have HK := Lib.hid hK; clear hK
               go_wp2_with fail
               exact HK.out))
        refine Unlock.nil ?_
        refine Tree.next (ks := [(19, true)]) (by kernel_rfl) ?_
        refine TSteps.cons _ rfl ?_ trivial
        intro x hd K Qr hK
        try simp only [edges, DepsE, List.filter_cons, List.filter_nil, Region.binds, if_true, and_true, true_and, upd, Nat.reduceEqDiff, if_false] at hd
        try simp only [hd] at hK ⊢
        clear hd
        have HK := Lib.hid hK; clear hK
        go_wp2_with fail
        refine hI9.out.mono ?_
        rintro e w5 ⟨rfl, rfl⟩
        go_wp2_with fail
        refine HK.out _ _ (fun _ => heA) ?_
        clear HK hI9
        cases q3 with
        | true =>
          refine Tree.nil (by kernel_rfl) ?_
          simp only [upd, Nat.reduceEqDiff, if_false, if_true]
          go_wp2_with fail
          go_ret
          exact ⟨by rw [← Hq2.out]; rfl, hE.trans (hew.trans heA)⟩
        | false =>
          refine Tree.nil (by kernel_rfl) ?_
          simp only [upd, Nat.reduceEqDiff, if_false, if_true]
          go_wp2_with fail
          go_roundw
          case rel => exact ⟨j + 1, by omega, by go_num, Lib.hid (by simpa using Hq2.out), hew.trans heA⟩
          case measure => simp [intOf]; omega
      | false =>
        go_upto_region 6 with fail
        refine wp_region_tree 20 [(10, true), (17, true), (19, true)] [] (by kernel_rfl) (by kernel_rfl) (by kernel_rfl) (ds := [0, 1, 2, 3, 4, 5, 6, 7, 8, 9]) (by kernel_rfl) ?_
        simp only [List.take, List.drop, fill, Act.put, List.setIfInBounds_toArray, List.set_cons_zero, List.set_cons_succ, Nat.reduceAdd]
        repeat (first
          | (apply Unlock.float rfl
             · intro x W he hd K Qr hK
               try (have he := he (by decide); have k0 := he.cell k0; have k1 := he.cell k1; have l1 := he.cell l1; have j2 := he.cell j2)
               try simp only [edges, DepsE, List.filter_cons, List.filter_nil, Region.binds, if_true, and_true, true_and, upd, Nat.reduceEqDiff, if_false] at hd
               try simp only [hd] at hK ⊢
               have HK := Lib.hid hK; clear hK
               go_wp2_with fail
               exact HK.out))
        refine Unlock.nil ?_
        intro W he hG
        refine Tree.next (ks := [(10, true)]) (by kernel_rfl) ?_
        refine TSteps.cons _ rfl ?_ trivial
        intro x hd K Qr hK
        try simp only [edges, DepsE, List.filter_cons, List.filter_nil, Region.binds, if_true, and_true, true_and, upd, Nat.reduceEqDiff, if_false] at hd
        try simp only [hd] at hK ⊢
        clear hd
        have HK := Lib.hid hK; clear hK
        go_wp2_with fail
        refine (Hs.out W (J3.out.ext he)).mono ?_
        rintro e w5 ⟨rfl, rfl⟩
        go_wp2_with fail
        refine HK.out _ _ (fun _ => he) ?_
        clear HK
        refine Unlock.of (ds := [11, 12, 13, 14, 15, 16, 18]) (by kernel_rfl) ?_
        repeat (first
          | (apply Unlock.float rfl
             · intro x W he hd K Qr hK
               try (have he := he (by decide); skip)
               try simp only [edges, DepsE, List.filter_cons, List.filter_nil, Region.binds, if_true, and_true, true_and, upd, Nat.reduceEqDiff, if_false] at hd
               try simp only [hd] at hK ⊢
               have HK := Lib.hid hK; clear hK
               go_wp2_with fail
               exact HK.out))
        refine Unlock.nil ?_
        refine Tree.next (ks := [(17, true)]) (by kernel_rfl) ?_
        refine TSteps.cons _ rfl ?_ trivial
        intro x hd K Qr hK
        try simp only [edges, DepsE, List.filter_cons, List.filter_nil, Region.binds, if_true, and_true, true_and, upd, Nat.reduceEqDiff, if_false] at hd
        try simp only [hd] at hK ⊢
        clear hd
        have HK := Lib.hid hK; clear hK
        go_wp2_with fail
        refine HK.out _ _ (fun _ => he) ?_
        clear HK
        refine Unlock.of (ds := []) (by kernel_rfl) ?_
        repeat (first
          | (apply Unlock.float rfl
             · intro x W he hd K Qr hK
               try (have he := he (by decide); skip)
               try simp only [edges, DepsE, List.filter_cons, List.filter_nil, Region.binds, if_true, and_true, true_and, upd, Nat.reduceEqDiff, if_false] at hd
               try simp only [hd] at hK ⊢
               have HK := Lib.hid hK; clear hK
               go_wp2_with fail
               exact HK.out))
        refine Unlock.nil ?_
        refine Tree.next (ks := [(19, true)]) (by kernel_rfl) ?_
        refine TSteps.cons _ rfl ?_ trivial
        intro x hd K Qr hK
        try simp only [edges, DepsE, List.filter_cons, List.filter_nil, Region.binds, if_true, and_true, true_and, upd, Nat.reduceEqDiff, if_false] at hd
        try simp only [hd] at hK ⊢
        clear hd
        have HK := Lib.hid hK; clear hK
        go_wp2_with fail
        refine HK.out _ _ (fun _ => he) ?_
        clear HK
        refine Tree.nil (by kernel_rfl) ?_
        simp only [upd, Nat.reduceEqDiff, if_false, if_true]
        go_wp2_with fail
        go_roundw
        case rel => exact ⟨j + 1, by omega, by go_num, Lib.hid (by simpa using Hq2.out), hew.trans he⟩
        case measure => simp [intOf]; omega
    · obtain rfl : j = n := by omega
      have : q = false := by rw [← hq.out, show g.drop j = [] from List.drop_of_length_le (by rw [Hn.out]; exact Nat.le_refl _)]; rfl
      subst this
      clear hq
      go_wp2_with fail
      go_ret
      exact ⟨rfl, hE.trans he⟩
  -- >>
/-- the error of a group at a mill that is fit -/
def grpE (m : PM) (g : List Int) : Int := if (g.all fun k => inB k 0 (m.wvs.length - 1)) = false then 1 else if twiceB g = true then 5 else 0
/-- the sum of the hours before h, and of the shafts before s in the hour h -/
def sumS (m : PM) (mk : Nat → Nat → Bool) (h s : Nat) : Int := ((List.range s).map fun i => if mk i h then (m.sh i).price else 0).sum
def sumH (m : PM) (mk : Nat → Nat → Bool) (h : Nat) : Int := ((List.range h).map fun t => sumS m mk t m.shafts.length).sum
theorem sumS_succ (m : PM) (mk : Nat → Nat → Bool) (h s : Nat) : sumS m mk h (s + 1) = sumS m mk h s + if mk s h then (m.sh s).price else 0 := by
  unfold sumS
  rw [List.range_succ, List.map_append, List.sum_append]
  simp
theorem sumH_succ (m : PM) (mk : Nat → Nat → Bool) (h : Nat) : sumH m mk (h + 1) = sumH m mk h + sumS m mk h m.shafts.length := by
  unfold sumH
  rw [List.range_succ, List.map_append, List.sum_append]
  simp
theorem sumH_sumM (m : PM) (mk : Nat → Nat → Bool) : sumH m mk 24 = Pow.sumM m mk := by
  unfold Pow.sumM
  rw [Pow.sum_flat']
  rfl
set_option maxRecDepth 20000 in
set_option maxHeartbeats 1000000 in
theorem cost7_any (v : Value) (m : PM) (hm : POk m) (A : Option Addr) (c n : Nat) (g : List Int) (hn : g.length = n) (hg : Pow.InG m g) (hl : n ≤ 100) (r : Int) (hr : Pow.costF m (fun k => g.contains (k : Int)) = r) (w : World) (hv : PMVal w v m) (hA : IntsAt w A g) :
    Calls Tryz.prog 37 #[v, .slice A n c] w fun e w' => e = .returned (.int .i64 r) ∧ Ext w w' := by
  -- <<C
  have Hv := Lib.hid hv
  obtain ⟨A1, c1, A2, c2, rfl, -, -, -, -, h6, -⟩ := hv
  have hE := Ext.alloc w (.cells #[.slice A1 m.shafts.length c1, .slice A2 m.wvs.length c2] 54)
  have HM := Lib.hid (Blk.new w 54 #[.slice A1 m.shafts.length c1, .slice A2 m.wvs.length c2])
  have H6 := Lib.hid (h6.ext hE)
  have HR := Lib.hid (fun (s h : Nat) (q : Bool) (hq : Pow.mkG m g s h = q) (W : World) (hW : Ext (w.alloc (.cells #[.slice A1 m.shafts.length c1, .slice A2 m.wvs.length c2] 54)) W) => runs7_any _ m hm A c n g hn hg hl s h q hq W (Hv.out.ext (hE.trans hW)) (hA.ext (hE.trans hW)))
  have hsz := hm.sz
  have Hp := Lib.hid hm.price
  rw [← Pow.cost_mkG hg, ← sumH_sumM] at hr
  obtain ⟨mk, hmk⟩ : ∃ mk, Pow.mkG m g = mk := ⟨_, rfl⟩
  rw [hmk] at hr HR
  have Hr := Lib.hid hr
  clear hr h6 hA hn hm hg hmk Hv hl
  go_enter Tryz.func37, Tryz.ntmps37
  go_wp2_with fail
  generalize w.alloc _ = w1 at *
  go_loopw [5, 6] (fun a i wr => ∃ (j : Nat) (x : Int), j ≤ 24 ∧ i = .int .i64 (j : Int) ∧ a = .int .i64 x ∧ 0 ≤ x ∧ x ≤ 600 * j ∧ Hid (sumH m mk j = x) ∧ Ext w1 wr) (fun _ i _ => 24 - (intOf i).toNat)
  case atStart => exact ⟨0, 0, by omega, rfl, rfl, by omega, by omega, Lib.hid rfl, Ext.refl _⟩
  case round =>
    obtain ⟨j, x, hj, rfl, rfl, hx0, hx1, hx, he⟩ := hrel
    by_cases hlt : j < 24
    · have hd9 : decide ((j : Int) < 24) = true := decide_eq_true (by omega)
      go_wp2_with fail
      go_loopw [5, 7] (fun a i wr => ∃ (s : Nat) (y : Int), s ≤ m.shafts.length ∧ i = .int .i64 (s : Int) ∧ a = .int .i64 (x + y) ∧ 0 ≤ y ∧ y ≤ 60 * s ∧ Hid (sumS m mk j s = y) ∧ Ext w1 wr) (fun _ i _ => m.shafts.length - (intOf i).toNat)
      case atStart => exact ⟨0, 0, by omega, rfl, by rw [Int.add_zero], by omega, by omega, Lib.hid rfl, he⟩
      case round =>
        obtain ⟨s, y, hs, rfl, rfl, hy0, hy1, hy, he2⟩ := hrel
        obtain ⟨k0, k1⟩ := (HM.out.ext he2).c2
        by_cases hls : s < m.shafts.length
        · obtain ⟨b1, o1, rfl, s1, s2⟩ := H6.out.ext he2 s hls
          rw [show m.shafts[s]?.getD default = m.sh s from rfl] at s2
          have hp := Hp.out s hls
          obtain ⟨q, hq⟩ : ∃ q, mk s j = q := ⟨_, rfl⟩
          have hy' := sumS_succ m mk j s
          rw [hq, hy.out] at hy'
          obtain ⟨p, hpp⟩ : ∃ p, (m.sh s).price = p := ⟨_, rfl⟩
          rw [hpp] at hy' s2 hp
          have HY := Lib.hid hy'
          have hc := Lib.hid (HR.out s j q hq wr he2)
          have Hpp := Lib.hid hpp
          clear hq hy hy' hpp s1 s2
          cases q with
          | true =>
            go_wp2_with fail
            refine hc.out.mono ?_
            rintro e w5 ⟨rfl, he5⟩
            have he3 := he2.trans he5
            clear hc k0 k1
            obtain ⟨k0, k1⟩ := (HM.out.ext he3).c2
            obtain ⟨b1, o1, e1, s1, s2⟩ := H6.out.ext he3 s hls
            cases e1
            rw [show m.shafts[s]?.getD default = m.sh s from rfl, Hpp.out] at s2
            clear s1
            go_wp2_with fail
            go_roundw
            case rel => exact ⟨s + 1, y + p, by omega, by go_num, by rw [Int.add_assoc], by omega, by omega, Lib.hid (by simpa using HY.out), he3⟩
            case measure => simp [intOf]; omega
          | false =>
            go_wp2_with fail
            refine hc.out.mono ?_
            rintro e w5 ⟨rfl, he5⟩
            clear hc
            go_wp2_with fail
            go_roundw
            case rel => exact ⟨s + 1, y, by omega, by go_num, rfl, by omega, by omega, Lib.hid (by simpa using HY.out), he2.trans he5⟩
            case measure => simp [intOf]; omega
        · obtain rfl : s = m.shafts.length := by omega
          have hxs := sumH_succ m mk j
          rw [hx.out, hy.out] at hxs
          have Hxs := Lib.hid hxs
          clear hxs hx hy
          go_wp2_with fail
          go_roundw
          case rel => exact ⟨j + 1, x + y, by omega, by go_num, rfl, by omega, by omega, Hxs, he2⟩
          case measure => simp [intOf]; omega
    · obtain rfl : j = 24 := by omega
      have : x = r := by rw [← hx.out, Hr.out]
      subst this
      clear hx Hr
      go_wp2_with fail
      go_ret
      exact ⟨rfl, hE.trans he⟩
  -- >>
end Go.Proofs.Pet
