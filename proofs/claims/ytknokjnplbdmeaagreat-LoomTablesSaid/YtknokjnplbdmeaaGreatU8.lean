/-
  The reference's step of the table, walked.
-/
import Derived.Test.YtknokjnplbdmeaaGreatU7
namespace Go.Proofs.Pet
open Go Go.RowKit Go.Maps Go.Shelf

set_option maxRecDepth 20000 in
set_option maxHeartbeats 4000000 in
theorem step5_any (v tv : Value) (m : Mill) (hch : checkE m = 0) (loom set order : Nat) (hl : loom < m.laced.length) (ho : order < m.orders.length) (hs : set < 2 ^ m.orders.length) (hso : set.testBit order = true) (num : Nat → Nat → Int)
    (hnum : ∀ x, 0 ≤ num (sdiff set (2 ^ order)) x ∧ num (sdiff set (2 ^ order)) x ≤ 99) (w : World) (hv : MillVal w v m) (hT : RowIn w tv loom (sdiff set (2 ^ order)) m.orders.length (num (sdiff set (2 ^ order)))) :
    Calls Tryz.prog 62 #[v, tv, .int .i64 (loom : Int), .int .i64 (set : Int), .int .i64 (order : Int)] w fun e w' => e = .returned (.int .i64 (stepS m num loom set order)) ∧ Ext w w' := by
  have Hv := Lib.hid hv
  have Hch := Lib.hid hch
  obtain ⟨l1, l2, l3⟩ := check_len hch
  obtain ⟨ho1, ho2, ho3⟩ := check_orders hch
  have Hord := Lib.hid ho1; clear ho1
  obtain ⟨A1, c1, A2, c2, rfl, h2, h3, h4, h5, h6, h7⟩ := hv
  have H6 := Lib.hid h6; have H7 := Lib.hid h7; clear h6 h7
  obtain ⟨lb0, lo0, rfl, cl0⟩ := H6.out loom hl
  obtain ⟨b0, o0, rfl, AA0, ca0, _, p10, _, p30, _, _⟩ := H7.out order ho
  unfold maxLen at h3 h5
  have hE := Ext.alloc w (.cells #[.slice (some ⟨lb0, lo0, none⟩) m.laced.length c1, .int .i64 m.change, .slice (some ⟨b0, o0, none⟩) m.orders.length c2] 35)
  have hM := Blk.new w 35 #[.slice (some ⟨lb0, lo0, none⟩) m.laced.length c1, .int .i64 m.change, .slice (some ⟨b0, o0, none⟩) m.orders.length c2]
  have hset : set < 128 := by
    have h1 : 2 ^ m.orders.length ≤ 2 ^ 7 := Nat.pow_le_pow_right (by omega) (by omega)
    have h2 : (2 : Nat) ^ 7 = 128 := by decide
    omega
  have hsd := sdiff_pow (by omega) hso
  obtain ⟨q, hq⟩ : ∃ q, m.weaves loom order = q := ⟨_, rfl⟩
  have hwv := Lib.hid (weaves5_any _ m loom order ho q hq _ (Hv.out.ext hE))
  have hS1 : Hid (q = false → stepS m num loom set order = 99) := fun h => by unfold stepS; rw [hq, if_pos h]
  have hS2 : Hid (q = true → stepS m num loom set order = if 99 ≤ stepN m num loom (sdiff set (2 ^ order)) order then 99 else if m.byy order < daysOf m m.orders.length set + m.change * stepN m num loom (sdiff set (2 ^ order)) order then 99 else stepN m num loom (sdiff set (2 ^ order)) order) := fun h => by
    unfold stepS; rw [hq, if_neg (by rw [h]; simp)]; rfl
  have hac := Lib.hid (acL_step m num loom set order)
  obtain ⟨rest, hrest⟩ : ∃ rest, sdiff set (2 ^ order) = rest := ⟨_, rfl⟩
  rw [hrest] at hsd hnum hT
  simp only [hrest] at hS2 hac
  obtain ⟨T, hTn⟩ : ∃ T, num rest = T := ⟨_, rfl⟩
  rw [hTn] at hnum hT hac
  obtain ⟨res, hres⟩ : ∃ res, stepS m num loom set order = res := ⟨_, rfl⟩
  rw [hres] at hS1 hS2 ⊢
  clear hrest hTn hres hq
  generalize stepN m num loom rest order = sn at *
  obtain ⟨p, hp⟩ : ∃ p, 2 ^ order = p := ⟨_, rfl⟩
  have hpp : p ≤ 64 := by
    have h1 : 2 ^ order ≤ 2 ^ 6 := Nat.pow_le_pow_right (by omega) (by omega)
    have h2 : (2 : Nat) ^ 6 = 64 := by decide
    omega
  rw [hp] at hsd
  have hsub : (set : Int) - (p : Int) = (rest : Int) := by omega
  have Hp := Lib.hid hp; clear hp
  have Hnum := Lib.hid hnum; clear hnum
  obtain ⟨ta, tao, tN, tc, tb, tbo, tN', tc2, td, td0, tK, tc3, rfl, t2, t3, t4, t5, t6, t7⟩ := hT
  have T7 := Lib.hid t7; clear t7
  obtain ⟨k0, k1, k2⟩ := hM.c3
  go_enter Tryz.func62, Tryz.ntmps62
  go_wp2_with fail
  refine hwv.out.mono ?_
  rintro e w1 ⟨rfl, he1⟩
  have hE1 := hE.trans he1
  have hM1 := hM.ext he1
  clear hE hM he1 hwv k0 k1 k2
  cases q with
  | false =>
    have hr := hS1.out rfl
    go_wp2_with fail
    go_ret
    exact ⟨by rw [hr]; rfl, hE1⟩
  | true =>
    have hS3 := Lib.hid (hS2.out rfl)
    clear hS1 hS2
    obtain ⟨k0, k1, k2⟩ := hM1.c3
    have hli := Lib.hid (list5_any _ m set (by omega) (by omega) w1 (Hv.out.ext hE1))
    go_wp2_with fail
    refine hli.out.mono ?_
    rintro e w2 ⟨lv, rfl, hlv, he2⟩
    have hE2 := hE1.trans he2
    have hM2 := hM1.ext he2
    obtain ⟨LA, lc, rfl, ll1, ll2, ll3, _⟩ := hlv.open_
    have hil : (ints (Pet.bits m.orders.length set)).length = (Pet.bits m.orders.length set).length := by unfold ints; simp
    rw [hil] at ll1 ⊢
    have hlb := bits_length_le m.orders.length set
    have hmem : Hid (∀ x, x ∈ Pet.bits m.orders.length set → x < m.orders.length) := fun x hx => by unfold Pet.bits at hx; simp at hx; omega
    have hds : Hid (dsL m (Pet.bits m.orders.length set) = daysOf m m.orders.length set) := dsL_bits m set m.orders.length
    generalize Pet.bits m.orders.length set = L at *
    have LL := Lib.hid ll3; have Hil := Lib.hid hil
    clear hE1 hM1 he2 hli hlv ll3 hil k0 k1 k2
    go_wp2_with fail
    go_loopw [14, 15] (fun bv iv wr => ∃ (k pk : Nat), k ≤ order ∧ iv = .int .i64 k ∧ bv = .int .i64 pk ∧ Hid (2 ^ k = pk) ∧ w2 = wr) (fun _ iv _ => order - (intOf iv).toNat)
    case atStart => exact ⟨0, 1, by omega, rfl, rfl, rfl, rfl⟩
    case round =>
    obtain ⟨k, pk, hk, rfl, rfl, hpk, rfl⟩ := hrel
    by_cases hlt : k < order
    · have hpk2 : pk ≤ 64 := by
        have h1 : 2 ^ k ≤ 2 ^ 6 := Nat.pow_le_pow_right (by omega) (by omega)
        have h2 : (2 : Nat) ^ 6 = 64 := by decide
        rw [hpk.out] at h1; omega
      go_wp2_with fail
      go_roundw
      case rel => exact ⟨k + 1, 2 * pk, by omega, by go_num, by first | rfl | go_num, (by unfold Hid; rw [Nat.pow_succ, hpk.out]; omega), by trivial⟩
      case measure => simp [intOf]; omega
    obtain rfl : order = k := by omega
    obtain rfl : p = pk := by rw [← hpk.out, Hp.out]
    clear hlt hpk hk
    obtain ⟨k0, k1, k2⟩ := hM2.c3
    by_cases hr0 : rest = 0
    · subst hr0
      rw [Nat.add_zero] at t5
      have cl0' := hE2.cell cl0
      have p10' := hE2.cell p10
      have hpo : Hid (m.pat order = (m.orders[order]?.getD default).pattern) := rfl
      obtain ⟨po0, hpo0⟩ : ∃ y, (m.orders[order]?.getD default).pattern = y := ⟨_, rfl⟩
      rw [hpo0] at p10' hpo
      clear hpo0
      generalize m.laced[loom]?.getD 0 = la0 at *
      by_cases hlp : la0 = po0
      · have hlpd : (la0 != po0) = false := by simp [hlp]
        have ha0 : Hid ((if (0 : Nat) = 0 then chg la0 (m.pat order) else 99) = 0) := by unfold Hid chg; rw [if_pos rfl, hpo.out, if_pos hlp]
        clear hlp
        go_wp2_with fail
        go_quiet (fail)
        go_wp2_with fail
        go_loopw [12, 16, 17, 18] (fun dv nv iv _ wr => ∃ (i : Nat) (d n : Int), i ≤ L.length ∧ iv = .int .i64 i ∧ dv = .int .i64 d ∧ nv = .int .i64 n ∧ (0 ≤ d ∧ d ≤ 140) ∧ (0 ≤ n ∧ n ≤ 99) ∧ Hid (dsL m (L.take i) = d) ∧ Hid (acL m T order 0 (L.take i) = n) ∧ Ext w wr ∧ Ext w2 wr ∧ Blk wr w.heap.size 35 #[.slice (some ⟨lb0, lo0, none⟩) m.laced.length c1, .int .i64 m.change, .slice (some ⟨b0, o0, none⟩) m.orders.length c2]) (fun _ _ iv _ _ => L.length - (intOf iv).toNat)
        case atStart => exact ⟨0, 0, 0, by omega, rfl, rfl, rfl, by omega, by omega, rfl, rfl, hE2.trans (Ext.drewN _ _), Ext.drewN _ _, hM2⟩
        case round =>
          clear hE2 hM2
          obtain ⟨i, d, n, hi, rfl, rfl, rfl, hd, hn, hdd, hnn, he, heB, hMr⟩ := hrel
          obtain ⟨k0, k1, k2⟩ := hMr.c3
          by_cases hlt : i < L.length
          · obtain ⟨x, hx⟩ : ∃ x, L[i] = x := ⟨_, rfl⟩
            have hxm := hmem.out x (by rw [← hx]; exact List.getElem_mem hlt)
            have htk : L.take (i + 1) = L.take i ++ [x] := by rw [List.take_succ_eq_append_getElem hlt, hx]
            have hd2 : Hid (dsL m (L.take (i + 1)) = d + (m.orders[x]?.getD default).days) := by unfold Hid; rw [htk, dsL_snoc, hdd.out]
            have hn2 : Hid (acL m T order 0 (L.take (i + 1)) = if x = order ∨ T x = 99 then n else min n (T x + chg (m.pat x) (m.pat order))) := by unfold Hid; rw [htk, acL_snoc, hnn.out]
            have hdb : 0 ≤ d + (m.orders[x]?.getD default).days ∧ d + (m.orders[x]?.getD default).days ≤ 140 := by
              have := dsL_bd Hch.out (L.take (i + 1)) (fun y hy => hmem.out y (List.mem_of_mem_take hy))
              rw [hd2.out, List.length_take] at this
              omega
            obtain ⟨lb, lo, rfl, cl⟩ := LL.out.ext heB i (by rw [Hil.out]; exact hlt)
            have hxv : (ints L)[i]?.getD 0 = (x : Int) := by unfold ints; simp [hlt, hx]
            rw [hxv] at cl
            obtain ⟨b2, o2, e1, AA, ca, hca, p1, p2, p3, p4, p5⟩ := H7.out.ext he x hxm
            simp only [Option.some.injEq, Addr.mk.injEq, and_true] at e1
            obtain ⟨rfl, rfl⟩ := e1
            have p1' := he.cell p10
            have t3' := he.cell t3
            have t5' := he.cell t5
            have t7' := he.cell (T7.out x hxm)
            have hpx : Hid (m.pat x = (m.orders[x]?.getD default).pattern) := rfl
            have hpo : Hid (m.pat order = (m.orders[order]?.getD default).pattern) := rfl
            clear p5 hx htk hxv hca p4 p3
            generalize (m.orders[x]?.getD default).days = dx at *
            generalize (m.orders[x]?.getD default).pattern = px at *
            generalize (m.orders[order]?.getD default).pattern = po at *
            have hTb := Hnum.out x
            by_cases hxo : x = order
            · have hxd : ((x : Int) == (order : Int)) = true := by simp [hxo]
              have hn3 : Hid (acL m T order 0 (L.take (i + 1)) = n) := by unfold Hid; rw [hn2.out, if_pos (.inl hxo)]
              clear hxo
              go_wp2_with fail
              go_quiet (fail)
              go_wp2_with fail
              go_quiet (fail)
              go_wp2_with fail
              go_roundw
              case rel => exact ⟨i + 1, d + dx, n, by omega, by go_num, by first | rfl | go_num, rfl, hdb, hn, hd2, hn3, (by first | exact he | exact he.trans (Ext.drewN _ _) | exact (he.trans (Ext.drewN _ _)).trans (Ext.drewN _ _) | exact ((he.trans (Ext.drewN _ _)).trans (Ext.drewN _ _)).trans (Ext.drewN _ _) | exact (((he.trans (Ext.drewN _ _)).trans (Ext.drewN _ _)).trans (Ext.drewN _ _)).trans (Ext.drewN _ _)), (by first | exact heB.trans (Ext.drewN _ _) | exact (heB.trans (Ext.drewN _ _)).trans (Ext.drewN _ _) | exact ((heB.trans (Ext.drewN _ _)).trans (Ext.drewN _ _)).trans (Ext.drewN _ _) | exact (((heB.trans (Ext.drewN _ _)).trans (Ext.drewN _ _)).trans (Ext.drewN _ _)).trans (Ext.drewN _ _)), hMr⟩
              case measure => simp [intOf]; omega
            · have hxd : ((x : Int) == (order : Int)) = false := by simp; omega
              by_cases h99 : T x = 99
              · have hn3 : Hid (acL m T order 0 (L.take (i + 1)) = n) := by unfold Hid; rw [hn2.out, if_pos (.inr h99)]
                rw [h99] at t7'
                clear hxo h99
                go_wp2_with fail
                go_quiet (fail)
                go_wp2_with fail
                go_quiet (fail)
                go_wp2_with fail
                go_roundw
                case rel => exact ⟨i + 1, d + dx, n, by omega, by go_num, by first | rfl | go_num, rfl, hdb, hn, hd2, hn3, (by first | exact he | exact he.trans (Ext.drewN _ _) | exact (he.trans (Ext.drewN _ _)).trans (Ext.drewN _ _) | exact ((he.trans (Ext.drewN _ _)).trans (Ext.drewN _ _)).trans (Ext.drewN _ _) | exact (((he.trans (Ext.drewN _ _)).trans (Ext.drewN _ _)).trans (Ext.drewN _ _)).trans (Ext.drewN _ _)), (by first | exact heB.trans (Ext.drewN _ _) | exact (heB.trans (Ext.drewN _ _)).trans (Ext.drewN _ _) | exact ((heB.trans (Ext.drewN _ _)).trans (Ext.drewN _ _)).trans (Ext.drewN _ _) | exact (((heB.trans (Ext.drewN _ _)).trans (Ext.drewN _ _)).trans (Ext.drewN _ _)).trans (Ext.drewN _ _)), hMr⟩
                case measure => simp [intOf]; omega
              · have h99d : (T x == 99) = false := by simpa using h99
                have hn3 : Hid (acL m T order 0 (L.take (i + 1)) = min n (T x + if px = po then 0 else 1)) := by unfold Hid; rw [hn2.out, if_neg (by intro h; rcases h with h | h; exact hxo h; exact h99 h), hpx.out, hpo.out]; rfl
                clear hxo h99
                generalize T x = tx at *
                by_cases hpp : px = po
                · have hpd : (px != po) = false := by simp [hpp]
                  have hn4 : Hid (acL m T order 0 (L.take (i + 1)) = min n tx) := by unfold Hid; rw [hn3.out, if_pos hpp, Int.add_zero]
                  clear hpp
                  go_wp2_with fail
                  go_quiet (fail)
                  go_wp2_with fail
                  go_quiet (fail)
                  go_wp2_with fail
                  go_quiet (fail)
                  go_wp2_with fail
                  go_quiet (fail)
                  go_wp2_with fail
                  go_roundw
                  case rel => exact ⟨i + 1, d + dx, min n tx, by omega, by go_num, by first | rfl | go_num, by first | rfl | go_num, hdb, by omega, hd2, hn4, (by first | exact he | exact he.trans (Ext.drewN _ _) | exact (he.trans (Ext.drewN _ _)).trans (Ext.drewN _ _) | exact ((he.trans (Ext.drewN _ _)).trans (Ext.drewN _ _)).trans (Ext.drewN _ _) | exact (((he.trans (Ext.drewN _ _)).trans (Ext.drewN _ _)).trans (Ext.drewN _ _)).trans (Ext.drewN _ _)), (by first | exact heB.trans (Ext.drewN _ _) | exact (heB.trans (Ext.drewN _ _)).trans (Ext.drewN _ _) | exact ((heB.trans (Ext.drewN _ _)).trans (Ext.drewN _ _)).trans (Ext.drewN _ _) | exact (((heB.trans (Ext.drewN _ _)).trans (Ext.drewN _ _)).trans (Ext.drewN _ _)).trans (Ext.drewN _ _)), hMr⟩
                  case measure => simp [intOf]; omega
                · have hpd : (px != po) = true := by simpa using hpp
                  have hn4 : Hid (acL m T order 0 (L.take (i + 1)) = min n (tx + 1)) := by unfold Hid; rw [hn3.out, if_neg hpp]
                  clear hpp
                  go_wp2_with fail
                  go_quiet (fail)
                  go_wp2_with fail
                  go_quiet (fail)
                  go_wp2_with fail
                  go_quiet (fail)
                  go_wp2_with fail
                  go_quiet (fail)
                  go_wp2_with fail
                  go_roundw
                  case rel => exact ⟨i + 1, d + dx, min n (tx + 1), by omega, by go_num, by first | rfl | go_num, by first | rfl | go_num, hdb, by omega, hd2, hn4, (by first | exact he | exact he.trans (Ext.drewN _ _) | exact (he.trans (Ext.drewN _ _)).trans (Ext.drewN _ _) | exact ((he.trans (Ext.drewN _ _)).trans (Ext.drewN _ _)).trans (Ext.drewN _ _) | exact (((he.trans (Ext.drewN _ _)).trans (Ext.drewN _ _)).trans (Ext.drewN _ _)).trans (Ext.drewN _ _)), (by first | exact heB.trans (Ext.drewN _ _) | exact (heB.trans (Ext.drewN _ _)).trans (Ext.drewN _ _) | exact ((heB.trans (Ext.drewN _ _)).trans (Ext.drewN _ _)).trans (Ext.drewN _ _) | exact (((heB.trans (Ext.drewN _ _)).trans (Ext.drewN _ _)).trans (Ext.drewN _ _)).trans (Ext.drewN _ _)), hMr⟩
                  case measure => simp [intOf]; omega
          · obtain rfl : i = L.length := by omega
            have e1 := hdd.out
            have e2 := hnn.out
            rw [List.take_length] at e1 e2
            have hsn : sn = n := by rw [← e2, ← hac.out, ha0.out]
            have hres : Hid (res = if 99 ≤ n then 99 else if m.byy order < d + m.change * n then 99 else n) := by unfold Hid; rw [hS3.out, hsn, ← hds.out, e1]
            clear e1 e2 hsn
            have p3' := he.cell p30
            have hby : Hid (m.byy order = (m.orders[order]?.getD default).by_) := rfl
            have hbb := (Hord.out (m.orders[order]?.getD default) (by simp [ho])).2.2
            clear p10 p30
            generalize (m.orders[order]?.getD default).by_ = by0 at *
            by_cases h9 : 99 ≤ n
            · have hr : res = 99 := by rw [hres.out, if_pos h9]
              obtain rfl : n = 99 := by omega
              subst hr
              clear h9
              go_wp2_with fail
              go_quiet (fail)
              go_wp2_with fail
              go_ret
              exact ⟨rfl, he.trans (Ext.drewN _ _)⟩
            · have hd9 : decide (n < 99) = true := by simp; omega
              obtain ⟨z, hz⟩ : ∃ z, m.change * n = z := ⟨_, rfl⟩
              have hzb : 0 ≤ z ∧ z ≤ 495 := by
                have h1 : (0 : Int) ≤ m.change * n := Int.mul_nonneg ho2 hn.1
                have h3 : m.change * n ≤ 5 * n := Int.mul_le_mul_of_nonneg_right ho3 hn.1
                omega
              by_cases hb : by0 < d + z
              · have hr : res = 99 := by rw [hres.out, if_neg h9, hby.out, hz, if_pos hb]
                subst hr
                clear h9
                go_wp2_with fail
                go_quiet (fail)
                go_wp2_with fail
                go_ret
                exact ⟨rfl, he.trans (Ext.drewN _ _)⟩
              · have hr : res = n := by rw [hres.out, if_neg h9, hby.out, hz, if_neg hb]
                have hdb : decide (by0 < d + z) = false := by simpa using hb
                subst hr
                clear h9 hb
                go_wp2_with fail
                go_quiet (fail)
                go_wp2_with fail
                go_ret
                exact ⟨rfl, he.trans (Ext.drewN _ _)⟩
      · have hlpd : (la0 != po0) = true := by simpa using hlp
        have ha0 : Hid ((if (0 : Nat) = 0 then chg la0 (m.pat order) else 99) = 1) := by unfold Hid chg; rw [if_pos rfl, hpo.out, if_neg hlp]
        clear hlp
        go_wp2_with fail
        go_quiet (fail)
        go_wp2_with fail
        go_loopw [12, 16, 17, 18] (fun dv nv iv _ wr => ∃ (i : Nat) (d n : Int), i ≤ L.length ∧ iv = .int .i64 i ∧ dv = .int .i64 d ∧ nv = .int .i64 n ∧ (0 ≤ d ∧ d ≤ 140) ∧ (0 ≤ n ∧ n ≤ 99) ∧ Hid (dsL m (L.take i) = d) ∧ Hid (acL m T order 1 (L.take i) = n) ∧ Ext w wr ∧ Ext w2 wr ∧ Blk wr w.heap.size 35 #[.slice (some ⟨lb0, lo0, none⟩) m.laced.length c1, .int .i64 m.change, .slice (some ⟨b0, o0, none⟩) m.orders.length c2]) (fun _ _ iv _ _ => L.length - (intOf iv).toNat)
        case atStart => exact ⟨0, 0, 1, by omega, rfl, rfl, rfl, by omega, by omega, rfl, rfl, hE2.trans (Ext.drewN _ _), Ext.drewN _ _, hM2⟩
        case round =>
          clear hE2 hM2
          obtain ⟨i, d, n, hi, rfl, rfl, rfl, hd, hn, hdd, hnn, he, heB, hMr⟩ := hrel
          obtain ⟨k0, k1, k2⟩ := hMr.c3
          by_cases hlt : i < L.length
          · obtain ⟨x, hx⟩ : ∃ x, L[i] = x := ⟨_, rfl⟩
            have hxm := hmem.out x (by rw [← hx]; exact List.getElem_mem hlt)
            have htk : L.take (i + 1) = L.take i ++ [x] := by rw [List.take_succ_eq_append_getElem hlt, hx]
            have hd2 : Hid (dsL m (L.take (i + 1)) = d + (m.orders[x]?.getD default).days) := by unfold Hid; rw [htk, dsL_snoc, hdd.out]
            have hn2 : Hid (acL m T order 1 (L.take (i + 1)) = if x = order ∨ T x = 99 then n else min n (T x + chg (m.pat x) (m.pat order))) := by unfold Hid; rw [htk, acL_snoc, hnn.out]
            have hdb : 0 ≤ d + (m.orders[x]?.getD default).days ∧ d + (m.orders[x]?.getD default).days ≤ 140 := by
              have := dsL_bd Hch.out (L.take (i + 1)) (fun y hy => hmem.out y (List.mem_of_mem_take hy))
              rw [hd2.out, List.length_take] at this
              omega
            obtain ⟨lb, lo, rfl, cl⟩ := LL.out.ext heB i (by rw [Hil.out]; exact hlt)
            have hxv : (ints L)[i]?.getD 0 = (x : Int) := by unfold ints; simp [hlt, hx]
            rw [hxv] at cl
            obtain ⟨b2, o2, e1, AA, ca, hca, p1, p2, p3, p4, p5⟩ := H7.out.ext he x hxm
            simp only [Option.some.injEq, Addr.mk.injEq, and_true] at e1
            obtain ⟨rfl, rfl⟩ := e1
            have p1' := he.cell p10
            have t3' := he.cell t3
            have t5' := he.cell t5
            have t7' := he.cell (T7.out x hxm)
            have hpx : Hid (m.pat x = (m.orders[x]?.getD default).pattern) := rfl
            have hpo : Hid (m.pat order = (m.orders[order]?.getD default).pattern) := rfl
            clear p5 hx htk hxv hca p4 p3
            generalize (m.orders[x]?.getD default).days = dx at *
            generalize (m.orders[x]?.getD default).pattern = px at *
            generalize (m.orders[order]?.getD default).pattern = po at *
            have hTb := Hnum.out x
            by_cases hxo : x = order
            · have hxd : ((x : Int) == (order : Int)) = true := by simp [hxo]
              have hn3 : Hid (acL m T order 1 (L.take (i + 1)) = n) := by unfold Hid; rw [hn2.out, if_pos (.inl hxo)]
              clear hxo
              go_wp2_with fail
              go_quiet (fail)
              go_wp2_with fail
              go_quiet (fail)
              go_wp2_with fail
              go_roundw
              case rel => exact ⟨i + 1, d + dx, n, by omega, by go_num, by first | rfl | go_num, rfl, hdb, hn, hd2, hn3, (by first | exact he | exact he.trans (Ext.drewN _ _) | exact (he.trans (Ext.drewN _ _)).trans (Ext.drewN _ _) | exact ((he.trans (Ext.drewN _ _)).trans (Ext.drewN _ _)).trans (Ext.drewN _ _) | exact (((he.trans (Ext.drewN _ _)).trans (Ext.drewN _ _)).trans (Ext.drewN _ _)).trans (Ext.drewN _ _)), (by first | exact heB.trans (Ext.drewN _ _) | exact (heB.trans (Ext.drewN _ _)).trans (Ext.drewN _ _) | exact ((heB.trans (Ext.drewN _ _)).trans (Ext.drewN _ _)).trans (Ext.drewN _ _) | exact (((heB.trans (Ext.drewN _ _)).trans (Ext.drewN _ _)).trans (Ext.drewN _ _)).trans (Ext.drewN _ _)), hMr⟩
              case measure => simp [intOf]; omega
            · have hxd : ((x : Int) == (order : Int)) = false := by simp; omega
              by_cases h99 : T x = 99
              · have hn3 : Hid (acL m T order 1 (L.take (i + 1)) = n) := by unfold Hid; rw [hn2.out, if_pos (.inr h99)]
                rw [h99] at t7'
                clear hxo h99
                go_wp2_with fail
                go_quiet (fail)
                go_wp2_with fail
                go_quiet (fail)
                go_wp2_with fail
                go_roundw
                case rel => exact ⟨i + 1, d + dx, n, by omega, by go_num, by first | rfl | go_num, rfl, hdb, hn, hd2, hn3, (by first | exact he | exact he.trans (Ext.drewN _ _) | exact (he.trans (Ext.drewN _ _)).trans (Ext.drewN _ _) | exact ((he.trans (Ext.drewN _ _)).trans (Ext.drewN _ _)).trans (Ext.drewN _ _) | exact (((he.trans (Ext.drewN _ _)).trans (Ext.drewN _ _)).trans (Ext.drewN _ _)).trans (Ext.drewN _ _)), (by first | exact heB.trans (Ext.drewN _ _) | exact (heB.trans (Ext.drewN _ _)).trans (Ext.drewN _ _) | exact ((heB.trans (Ext.drewN _ _)).trans (Ext.drewN _ _)).trans (Ext.drewN _ _) | exact (((heB.trans (Ext.drewN _ _)).trans (Ext.drewN _ _)).trans (Ext.drewN _ _)).trans (Ext.drewN _ _)), hMr⟩
                case measure => simp [intOf]; omega
              · have h99d : (T x == 99) = false := by simpa using h99
                have hn3 : Hid (acL m T order 1 (L.take (i + 1)) = min n (T x + if px = po then 0 else 1)) := by unfold Hid; rw [hn2.out, if_neg (by intro h; rcases h with h | h; exact hxo h; exact h99 h), hpx.out, hpo.out]; rfl
                clear hxo h99
                generalize T x = tx at *
                by_cases hpp : px = po
                · have hpd : (px != po) = false := by simp [hpp]
                  have hn4 : Hid (acL m T order 1 (L.take (i + 1)) = min n tx) := by unfold Hid; rw [hn3.out, if_pos hpp, Int.add_zero]
                  clear hpp
                  go_wp2_with fail
                  go_quiet (fail)
                  go_wp2_with fail
                  go_quiet (fail)
                  go_wp2_with fail
                  go_quiet (fail)
                  go_wp2_with fail
                  go_quiet (fail)
                  go_wp2_with fail
                  go_roundw
                  case rel => exact ⟨i + 1, d + dx, min n tx, by omega, by go_num, by first | rfl | go_num, by first | rfl | go_num, hdb, by omega, hd2, hn4, (by first | exact he | exact he.trans (Ext.drewN _ _) | exact (he.trans (Ext.drewN _ _)).trans (Ext.drewN _ _) | exact ((he.trans (Ext.drewN _ _)).trans (Ext.drewN _ _)).trans (Ext.drewN _ _) | exact (((he.trans (Ext.drewN _ _)).trans (Ext.drewN _ _)).trans (Ext.drewN _ _)).trans (Ext.drewN _ _)), (by first | exact heB.trans (Ext.drewN _ _) | exact (heB.trans (Ext.drewN _ _)).trans (Ext.drewN _ _) | exact ((heB.trans (Ext.drewN _ _)).trans (Ext.drewN _ _)).trans (Ext.drewN _ _) | exact (((heB.trans (Ext.drewN _ _)).trans (Ext.drewN _ _)).trans (Ext.drewN _ _)).trans (Ext.drewN _ _)), hMr⟩
                  case measure => simp [intOf]; omega
                · have hpd : (px != po) = true := by simpa using hpp
                  have hn4 : Hid (acL m T order 1 (L.take (i + 1)) = min n (tx + 1)) := by unfold Hid; rw [hn3.out, if_neg hpp]
                  clear hpp
                  go_wp2_with fail
                  go_quiet (fail)
                  go_wp2_with fail
                  go_quiet (fail)
                  go_wp2_with fail
                  go_quiet (fail)
                  go_wp2_with fail
                  go_quiet (fail)
                  go_wp2_with fail
                  go_roundw
                  case rel => exact ⟨i + 1, d + dx, min n (tx + 1), by omega, by go_num, by first | rfl | go_num, by first | rfl | go_num, hdb, by omega, hd2, hn4, (by first | exact he | exact he.trans (Ext.drewN _ _) | exact (he.trans (Ext.drewN _ _)).trans (Ext.drewN _ _) | exact ((he.trans (Ext.drewN _ _)).trans (Ext.drewN _ _)).trans (Ext.drewN _ _) | exact (((he.trans (Ext.drewN _ _)).trans (Ext.drewN _ _)).trans (Ext.drewN _ _)).trans (Ext.drewN _ _)), (by first | exact heB.trans (Ext.drewN _ _) | exact (heB.trans (Ext.drewN _ _)).trans (Ext.drewN _ _) | exact ((heB.trans (Ext.drewN _ _)).trans (Ext.drewN _ _)).trans (Ext.drewN _ _) | exact (((heB.trans (Ext.drewN _ _)).trans (Ext.drewN _ _)).trans (Ext.drewN _ _)).trans (Ext.drewN _ _)), hMr⟩
                  case measure => simp [intOf]; omega
          · obtain rfl : i = L.length := by omega
            have e1 := hdd.out
            have e2 := hnn.out
            rw [List.take_length] at e1 e2
            have hsn : sn = n := by rw [← e2, ← hac.out, ha0.out]
            have hres : Hid (res = if 99 ≤ n then 99 else if m.byy order < d + m.change * n then 99 else n) := by unfold Hid; rw [hS3.out, hsn, ← hds.out, e1]
            clear e1 e2 hsn
            have p3' := he.cell p30
            have hby : Hid (m.byy order = (m.orders[order]?.getD default).by_) := rfl
            have hbb := (Hord.out (m.orders[order]?.getD default) (by simp [ho])).2.2
            clear p10 p30
            generalize (m.orders[order]?.getD default).by_ = by0 at *
            by_cases h9 : 99 ≤ n
            · have hr : res = 99 := by rw [hres.out, if_pos h9]
              obtain rfl : n = 99 := by omega
              subst hr
              clear h9
              go_wp2_with fail
              go_quiet (fail)
              go_wp2_with fail
              go_ret
              exact ⟨rfl, he.trans (Ext.drewN _ _)⟩
            · have hd9 : decide (n < 99) = true := by simp; omega
              obtain ⟨z, hz⟩ : ∃ z, m.change * n = z := ⟨_, rfl⟩
              have hzb : 0 ≤ z ∧ z ≤ 495 := by
                have h1 : (0 : Int) ≤ m.change * n := Int.mul_nonneg ho2 hn.1
                have h3 : m.change * n ≤ 5 * n := Int.mul_le_mul_of_nonneg_right ho3 hn.1
                omega
              by_cases hb : by0 < d + z
              · have hr : res = 99 := by rw [hres.out, if_neg h9, hby.out, hz, if_pos hb]
                subst hr
                clear h9
                go_wp2_with fail
                go_quiet (fail)
                go_wp2_with fail
                go_ret
                exact ⟨rfl, he.trans (Ext.drewN _ _)⟩
              · have hr : res = n := by rw [hres.out, if_neg h9, hby.out, hz, if_neg hb]
                have hdb : decide (by0 < d + z) = false := by simpa using hb
                subst hr
                clear h9 hb
                go_wp2_with fail
                go_quiet (fail)
                go_wp2_with fail
                go_ret
                exact ⟨rfl, he.trans (Ext.drewN _ _)⟩
    · have hrd : ((rest : Int) == 0) = false := by simp; omega
      have ha0 : Hid ((if rest = 0 then chg (m.laced[loom]?.getD 0) (m.pat order) else 99) = 99) := if_neg hr0
      go_wp2_with fail
      go_loopw [12, 16, 17, 18] (fun dv nv iv _ wr => ∃ (i : Nat) (d n : Int), i ≤ L.length ∧ iv = .int .i64 i ∧ dv = .int .i64 d ∧ nv = .int .i64 n ∧ (0 ≤ d ∧ d ≤ 140) ∧ (0 ≤ n ∧ n ≤ 99) ∧ Hid (dsL m (L.take i) = d) ∧ Hid (acL m T order 99 (L.take i) = n) ∧ Ext w wr ∧ Ext w2 wr ∧ Blk wr w.heap.size 35 #[.slice (some ⟨lb0, lo0, none⟩) m.laced.length c1, .int .i64 m.change, .slice (some ⟨b0, o0, none⟩) m.orders.length c2]) (fun _ _ iv _ _ => L.length - (intOf iv).toNat)
      case atStart => exact ⟨0, 0, 99, by omega, rfl, rfl, rfl, by omega, by omega, rfl, rfl, hE2, Ext.refl _, hM2⟩
      case round =>
        clear hE2 hM2
        obtain ⟨i, d, n, hi, rfl, rfl, rfl, hd, hn, hdd, hnn, he, heB, hMr⟩ := hrel
        obtain ⟨k0, k1, k2⟩ := hMr.c3
        by_cases hlt : i < L.length
        · obtain ⟨x, hx⟩ : ∃ x, L[i] = x := ⟨_, rfl⟩
          have hxm := hmem.out x (by rw [← hx]; exact List.getElem_mem hlt)
          have htk : L.take (i + 1) = L.take i ++ [x] := by rw [List.take_succ_eq_append_getElem hlt, hx]
          have hd2 : Hid (dsL m (L.take (i + 1)) = d + (m.orders[x]?.getD default).days) := by unfold Hid; rw [htk, dsL_snoc, hdd.out]
          have hn2 : Hid (acL m T order 99 (L.take (i + 1)) = if x = order ∨ T x = 99 then n else min n (T x + chg (m.pat x) (m.pat order))) := by unfold Hid; rw [htk, acL_snoc, hnn.out]
          have hdb : 0 ≤ d + (m.orders[x]?.getD default).days ∧ d + (m.orders[x]?.getD default).days ≤ 140 := by
            have := dsL_bd Hch.out (L.take (i + 1)) (fun y hy => hmem.out y (List.mem_of_mem_take hy))
            rw [hd2.out, List.length_take] at this
            omega
          obtain ⟨lb, lo, rfl, cl⟩ := LL.out.ext heB i (by rw [Hil.out]; exact hlt)
          have hxv : (ints L)[i]?.getD 0 = (x : Int) := by unfold ints; simp [hlt, hx]
          rw [hxv] at cl
          obtain ⟨b2, o2, e1, AA, ca, hca, p1, p2, p3, p4, p5⟩ := H7.out.ext he x hxm
          simp only [Option.some.injEq, Addr.mk.injEq, and_true] at e1
          obtain ⟨rfl, rfl⟩ := e1
          have p1' := he.cell p10
          have t3' := he.cell t3
          have t5' := he.cell t5
          have t7' := he.cell (T7.out x hxm)
          have hpx : Hid (m.pat x = (m.orders[x]?.getD default).pattern) := rfl
          have hpo : Hid (m.pat order = (m.orders[order]?.getD default).pattern) := rfl
          clear p5 hx htk hxv hca p4 p3
          generalize (m.orders[x]?.getD default).days = dx at *
          generalize (m.orders[x]?.getD default).pattern = px at *
          generalize (m.orders[order]?.getD default).pattern = po at *
          have hTb := Hnum.out x
          by_cases hxo : x = order
          · have hxd : ((x : Int) == (order : Int)) = true := by simp [hxo]
            have hn3 : Hid (acL m T order 99 (L.take (i + 1)) = n) := by unfold Hid; rw [hn2.out, if_pos (.inl hxo)]
            clear hxo
            go_wp2_with fail
            go_quiet (fail)
            go_wp2_with fail
            go_quiet (fail)
            go_wp2_with fail
            go_roundw
            case rel => exact ⟨i + 1, d + dx, n, by omega, by go_num, by first | rfl | go_num, rfl, hdb, hn, hd2, hn3, (by first | exact he | exact he.trans (Ext.drewN _ _) | exact (he.trans (Ext.drewN _ _)).trans (Ext.drewN _ _) | exact ((he.trans (Ext.drewN _ _)).trans (Ext.drewN _ _)).trans (Ext.drewN _ _) | exact (((he.trans (Ext.drewN _ _)).trans (Ext.drewN _ _)).trans (Ext.drewN _ _)).trans (Ext.drewN _ _)), (by first | exact heB.trans (Ext.drewN _ _) | exact (heB.trans (Ext.drewN _ _)).trans (Ext.drewN _ _) | exact ((heB.trans (Ext.drewN _ _)).trans (Ext.drewN _ _)).trans (Ext.drewN _ _) | exact (((heB.trans (Ext.drewN _ _)).trans (Ext.drewN _ _)).trans (Ext.drewN _ _)).trans (Ext.drewN _ _)), hMr⟩
            case measure => simp [intOf]; omega
          · have hxd : ((x : Int) == (order : Int)) = false := by simp; omega
            by_cases h99 : T x = 99
            · have hn3 : Hid (acL m T order 99 (L.take (i + 1)) = n) := by unfold Hid; rw [hn2.out, if_pos (.inr h99)]
              rw [h99] at t7'
              clear hxo h99
              go_wp2_with fail
              go_quiet (fail)
              go_wp2_with fail
              go_quiet (fail)
              go_wp2_with fail
              go_roundw
              case rel => exact ⟨i + 1, d + dx, n, by omega, by go_num, by first | rfl | go_num, rfl, hdb, hn, hd2, hn3, (by first | exact he | exact he.trans (Ext.drewN _ _) | exact (he.trans (Ext.drewN _ _)).trans (Ext.drewN _ _) | exact ((he.trans (Ext.drewN _ _)).trans (Ext.drewN _ _)).trans (Ext.drewN _ _) | exact (((he.trans (Ext.drewN _ _)).trans (Ext.drewN _ _)).trans (Ext.drewN _ _)).trans (Ext.drewN _ _)), (by first | exact heB.trans (Ext.drewN _ _) | exact (heB.trans (Ext.drewN _ _)).trans (Ext.drewN _ _) | exact ((heB.trans (Ext.drewN _ _)).trans (Ext.drewN _ _)).trans (Ext.drewN _ _) | exact (((heB.trans (Ext.drewN _ _)).trans (Ext.drewN _ _)).trans (Ext.drewN _ _)).trans (Ext.drewN _ _)), hMr⟩
              case measure => simp [intOf]; omega
            · have h99d : (T x == 99) = false := by simpa using h99
              have hn3 : Hid (acL m T order 99 (L.take (i + 1)) = min n (T x + if px = po then 0 else 1)) := by unfold Hid; rw [hn2.out, if_neg (by intro h; rcases h with h | h; exact hxo h; exact h99 h), hpx.out, hpo.out]; rfl
              clear hxo h99
              generalize T x = tx at *
              by_cases hpp : px = po
              · have hpd : (px != po) = false := by simp [hpp]
                have hn4 : Hid (acL m T order 99 (L.take (i + 1)) = min n tx) := by unfold Hid; rw [hn3.out, if_pos hpp, Int.add_zero]
                clear hpp
                go_wp2_with fail
                go_quiet (fail)
                go_wp2_with fail
                go_quiet (fail)
                go_wp2_with fail
                go_quiet (fail)
                go_wp2_with fail
                go_quiet (fail)
                go_wp2_with fail
                go_roundw
                case rel => exact ⟨i + 1, d + dx, min n tx, by omega, by go_num, by first | rfl | go_num, by first | rfl | go_num, hdb, by omega, hd2, hn4, (by first | exact he | exact he.trans (Ext.drewN _ _) | exact (he.trans (Ext.drewN _ _)).trans (Ext.drewN _ _) | exact ((he.trans (Ext.drewN _ _)).trans (Ext.drewN _ _)).trans (Ext.drewN _ _) | exact (((he.trans (Ext.drewN _ _)).trans (Ext.drewN _ _)).trans (Ext.drewN _ _)).trans (Ext.drewN _ _)), (by first | exact heB.trans (Ext.drewN _ _) | exact (heB.trans (Ext.drewN _ _)).trans (Ext.drewN _ _) | exact ((heB.trans (Ext.drewN _ _)).trans (Ext.drewN _ _)).trans (Ext.drewN _ _) | exact (((heB.trans (Ext.drewN _ _)).trans (Ext.drewN _ _)).trans (Ext.drewN _ _)).trans (Ext.drewN _ _)), hMr⟩
                case measure => simp [intOf]; omega
              · have hpd : (px != po) = true := by simpa using hpp
                have hn4 : Hid (acL m T order 99 (L.take (i + 1)) = min n (tx + 1)) := by unfold Hid; rw [hn3.out, if_neg hpp]
                clear hpp
                go_wp2_with fail
                go_quiet (fail)
                go_wp2_with fail
                go_quiet (fail)
                go_wp2_with fail
                go_quiet (fail)
                go_wp2_with fail
                go_quiet (fail)
                go_wp2_with fail
                go_roundw
                case rel => exact ⟨i + 1, d + dx, min n (tx + 1), by omega, by go_num, by first | rfl | go_num, by first | rfl | go_num, hdb, by omega, hd2, hn4, (by first | exact he | exact he.trans (Ext.drewN _ _) | exact (he.trans (Ext.drewN _ _)).trans (Ext.drewN _ _) | exact ((he.trans (Ext.drewN _ _)).trans (Ext.drewN _ _)).trans (Ext.drewN _ _) | exact (((he.trans (Ext.drewN _ _)).trans (Ext.drewN _ _)).trans (Ext.drewN _ _)).trans (Ext.drewN _ _)), (by first | exact heB.trans (Ext.drewN _ _) | exact (heB.trans (Ext.drewN _ _)).trans (Ext.drewN _ _) | exact ((heB.trans (Ext.drewN _ _)).trans (Ext.drewN _ _)).trans (Ext.drewN _ _) | exact (((heB.trans (Ext.drewN _ _)).trans (Ext.drewN _ _)).trans (Ext.drewN _ _)).trans (Ext.drewN _ _)), hMr⟩
                case measure => simp [intOf]; omega
        · obtain rfl : i = L.length := by omega
          have e1 := hdd.out
          have e2 := hnn.out
          rw [List.take_length] at e1 e2
          have hsn : sn = n := by rw [← e2, ← hac.out, ha0.out]
          have hres : Hid (res = if 99 ≤ n then 99 else if m.byy order < d + m.change * n then 99 else n) := by unfold Hid; rw [hS3.out, hsn, ← hds.out, e1]
          clear e1 e2 hsn
          have p3' := he.cell p30
          have hby : Hid (m.byy order = (m.orders[order]?.getD default).by_) := rfl
          have hbb := (Hord.out (m.orders[order]?.getD default) (by simp [ho])).2.2
          clear p10 p30
          generalize (m.orders[order]?.getD default).by_ = by0 at *
          by_cases h9 : 99 ≤ n
          · have hr : res = 99 := by rw [hres.out, if_pos h9]
            obtain rfl : n = 99 := by omega
            subst hr
            clear h9
            go_wp2_with fail
            go_quiet (fail)
            go_wp2_with fail
            go_ret
            exact ⟨rfl, he.trans (Ext.drewN _ _)⟩
          · have hd9 : decide (n < 99) = true := by simp; omega
            obtain ⟨z, hz⟩ : ∃ z, m.change * n = z := ⟨_, rfl⟩
            have hzb : 0 ≤ z ∧ z ≤ 495 := by
              have h1 : (0 : Int) ≤ m.change * n := Int.mul_nonneg ho2 hn.1
              have h3 : m.change * n ≤ 5 * n := Int.mul_le_mul_of_nonneg_right ho3 hn.1
              omega
            by_cases hb : by0 < d + z
            · have hr : res = 99 := by rw [hres.out, if_neg h9, hby.out, hz, if_pos hb]
              subst hr
              clear h9
              go_wp2_with fail
              go_quiet (fail)
              go_wp2_with fail
              go_ret
              exact ⟨rfl, he.trans (Ext.drewN _ _)⟩
            · have hr : res = n := by rw [hres.out, if_neg h9, hby.out, hz, if_neg hb]
              have hdb : decide (by0 < d + z) = false := by simpa using hb
              subst hr
              clear h9 hb
              go_wp2_with fail
              go_quiet (fail)
              go_wp2_with fail
              go_ret
              exact ⟨rfl, he.trans (Ext.drewN _ _)⟩
end Go.Proofs.Pet
