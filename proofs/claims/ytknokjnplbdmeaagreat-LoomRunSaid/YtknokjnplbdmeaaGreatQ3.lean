import Derived.Test.YtknokjnplbdmeaaGreatP17
namespace Go.Proofs.Pet
open Go Go.RowKit Go.Maps Go.Shelf

theorem all_take_snoc (xs : List Int) (p : Int → Bool) {k : Nat} (hk : k < xs.length) : (xs.take (k + 1)).all p = ((xs.take k).all p && p (xs[k]?.getD 0)) := by
  rw [List.take_succ_eq_append_getElem hk, List.all_append]
  simp [hk]
set_option maxRecDepth 20000 in
theorem over5_any (v : Value) (m : Mill) (hch : checkE m = 0) (A : Option Addr) (c : Nat) (looms : List Int) (hl : looms.length ≤ 8) (b : Int) (hb : 0 ≤ b ∧ b ≤ 99) (w : World) (hv : MillVal w v m) (hx : IntsAt w A looms) :
    Calls Tryz.prog 128 #[v, .slice A looms.length c, .int .i64 b] w fun e w' => e = .returned (.int .i64 (overF m looms b m.orders.length)) ∧ Ext w w' := by
  obtain ⟨A1, c1, A2, c2, rfl, h2, h3, h4, h5, h6, h7⟩ := hv
  obtain ⟨l1, l2, l3⟩ := check_len hch
  have hE := Ext.alloc w (.cells #[.slice A1 m.laced.length c1, .int .i64 m.change, .slice A2 m.orders.length c2] 35)
  have hM := Blk.new w 35 #[.slice A1 m.laced.length c1, .int .i64 m.change, .slice A2 m.orders.length c2]
  have Hx := Lib.hid hx; have H7 := Lib.hid h7; have Hch := Lib.hid hch
  have hob := Lib.hid (overF_bd hch looms b hb hl)
  obtain ⟨z, hz⟩ : ∃ z, b * (looms.length : Int) = z := ⟨_, rfl⟩
  have hzb : 0 ≤ z ∧ z ≤ 792 := by
    have h1 : (0 : Int) ≤ b * looms.length := Int.mul_nonneg hb.1 (by omega)
    have h3 : b * (looms.length : Int) ≤ 99 * (looms.length : Int) := Int.mul_le_mul_of_nonneg_right hb.2 (by omega)
    omega
  have hz0 : Hid (overF m looms b 0 + z = 0) := by unfold Hid; rw [overF, ← hz, Int.neg_mul]; omega
  have Hz := Lib.hid hz; clear hz
  clear h6 h7 hx hch h3 h5
  obtain ⟨k0, k1, k2⟩ := hM.c3
  go_enter Tryz.func128, Tryz.ntmps128
  go_wp2_with fail
  go_loopw [7, 8] (fun nv iv wr => ∃ (k : Nat) (t : Int), k ≤ m.orders.length ∧ iv = .int .i64 k ∧ nv = .int .i64 t ∧ Hid (overF m looms b k + z = t) ∧ Ext w wr ∧ Blk wr w.heap.size 35 #[.slice A1 m.laced.length c1, .int .i64 m.change, .slice A2 m.orders.length c2]) (fun _ iv _ => m.orders.length - (intOf iv).toNat)
  case atStart => exact ⟨0, 0, by omega, rfl, rfl, hz0.out, hE, hM⟩
  case round =>
    clear hE hM k0 k1 k2
    obtain ⟨k, t, hk, rfl, rfl, ht, he, hMr⟩ := hrel
    obtain ⟨k0, k1, k2⟩ := hMr.c3
    have htb : -1000 ≤ t ∧ t ≤ 1000 := by have := hob.out k hk; have := ht.out; omega
    by_cases hlt : k < m.orders.length
    · obtain ⟨b2, o2, rfl, A', ca, hca, p1, p2, p3, p4, p5⟩ := H7.out.ext he k hlt
      have hX := Ext.alloc wr (.cells #[.int .i64 (m.orders[k]?.getD default).pattern, .int .i64 (m.orders[k]?.getD default).days, .int .i64 (m.orders[k]?.getD default).by_, .slice A' (m.orders[k]?.getD default).on.length ca] 99)
      have hbo := Blk.new wr 99 #[.int .i64 (m.orders[k]?.getD default).pattern, .int .i64 (m.orders[k]?.getD default).days, .int .i64 (m.orders[k]?.getD default).by_, .slice A' (m.orders[k]?.getD default).on.length ca]
      have hMX := hMr.ext hX
      have hst : Hid (overF m looms b (k + 1) + z = t + if aloneB (m.orders[k]?.getD default) looms b = true then (m.orders[k]?.getD default).days else 0) := by unfold Hid; rw [overF, ← ht.out]; omega
      have hbd := hob.out (k + 1) (by omega)
      have Hon := Lib.hid (p5.ext hX); clear p5
      have Hxl := Lib.hid (Hx.out.ext (he.trans hX))
      have hdb := (check_orders Hch.out).1 (m.orders[k]?.getD default) (by simp [hlt])
      have heX := he.trans hX
      have hcb := Nat.le_trans hca.1 hca.2
      unfold maxLen at hcb
      generalize m.orders[k]?.getD default = x0 at *
      obtain ⟨q0, hq0⟩ : ∃ q0, decide (x0.by_ ≤ b) = q0 := ⟨_, rfl⟩
      have hal : Hid (aloneB x0 looms b = (q0 && x0.on.all fun n => looms.contains n)) := by unfold Hid aloneB; rw [hq0]
      go_wp2_with fail
      clear k0 k1 k2 p1 p2 p3 p4 hq0
      generalize wr.alloc _ = W1 at *
      go_loopw [10, 11] (fun av jv w' => ∃ (j : Nat) (q : Bool), j ≤ x0.on.length ∧ jv = .int .i64 j ∧ av = .bool q ∧ Hid (q = (q0 && (x0.on.take j).all fun n => looms.contains n)) ∧ w' = W1) (fun _ jv _ => x0.on.length - (intOf jv).toNat)
      case atStart => exact ⟨0, q0, by omega, rfl, rfl, by simp [Hid], rfl⟩
      case round =>
        obtain ⟨j, q, hj, rfl, rfl, hq, rfl⟩ := hrel
        obtain ⟨g0, g1, g2, g3⟩ := hbo.c4
        obtain ⟨k0, k1, k2⟩ := hMX.c3
        by_cases hltj : j < x0.on.length
        · have hsn : Hid ((x0.on.take (j + 1)).all (fun n => looms.contains n) = ((x0.on.take j).all (fun n => looms.contains n) && looms.contains (x0.on[j]?.getD 0))) := all_take_snoc _ _ hltj
          obtain ⟨b3, o3, rfl, cc⟩ := Hon.out j hltj
          cases q with
          | true =>
            obtain ⟨q2, hq2⟩ : ∃ q2, looms.contains (x0.on[j]?.getD 0) = q2 := ⟨_, rfl⟩
            have hha := Lib.hid (has_any (x0.on[j]?.getD 0) A c looms.length looms rfl q2 hq2 wr (by unfold maxLen; omega) Hxl.out)
            have Hq2 := Lib.hid hq2; clear hq2
            generalize x0.on[j]?.getD 0 = y at *
            go_wp2_with fail
            refine hha.out.mono ?_
            rintro e w' ⟨rfl, rfl⟩
            go_wp2_with fail
            go_roundw
            case rel =>
              refine ⟨j + 1, q2, by omega, by go_num, rfl, ?_, trivial⟩
              unfold Hid
              rw [hsn.out, ← Bool.and_assoc, ← hq.out, Hq2.out]; simp
            case measure => simp [intOf]; omega
          | false =>
            go_wp2_with fail
            go_roundw
            case rel =>
              refine ⟨j + 1, false, by omega, by go_num, rfl, ?_, trivial⟩
              unfold Hid
              rw [hsn.out, ← Bool.and_assoc, ← hq.out]; simp
            case measure => simp [intOf]; omega
        · obtain rfl : j = x0.on.length := by omega
          have hqa : Hid (aloneB x0 looms b = q) := by
            unfold Hid; rw [hal.out, hq.out, List.take_length]
          cases q with
          | true =>
            have hst2 : Hid (overF m looms b (k + 1) + z = t + x0.days) := by unfold Hid; rw [hst.out, if_pos hqa.out]
            go_wp2_with fail
            go_roundw
            case rel => exact ⟨k + 1, t + x0.days, by omega, by go_num, by first | rfl | go_num, hst2, heX, hMX⟩
            case measure => simp [intOf]; omega
          | false =>
            have hst2 : Hid (overF m looms b (k + 1) + z = t) := by unfold Hid; rw [hst.out, if_neg (by rw [hqa.out]; simp)]; omega
            go_wp2_with fail
            go_roundw
            case rel => exact ⟨k + 1, t, by omega, by go_num, rfl, hst2, heX, hMX⟩
            case measure => simp [intOf]; omega
    · obtain rfl : k = m.orders.length := by omega
      have hz1 := Hz.out
      have hfin : Hid (t - z = overF m looms b m.orders.length) := by unfold Hid; have := ht.out; omega
      go_wp2_with fail
      go_ret
      exact ⟨by rw [← hfin.out]; rfl, he⟩
end Go.Proofs.Pet
