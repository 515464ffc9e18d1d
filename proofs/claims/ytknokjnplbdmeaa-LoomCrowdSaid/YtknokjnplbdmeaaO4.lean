/-
  LoomCrowd: the law's own count, walked.
-/
import Derived.Test.YtknokjnplbdmeaaO3
import Derived.Test.YtknokjnplbdmeaaO2
namespace Go.Proofs.Pet
open Go Go.RowKit Go.Maps Go.Shelf

theorem lover1_any (looms : List Int) (x : Int) (B : Nat) (A : Option Addr) (c : Nat) (w : World) (hl : looms.length ≤ maxLen) (hB : Blk w B 22 #[.slice A looms.length c]) (hx : IntsAt w A looms) :
    Calls Try.prog 99 #[.int .i64 x, .pointer (some ⟨B, 0, none⟩)] w fun e w' => e = .returned (.bool (!looms.contains x)) ∧ w = w' := by
  have hc := Lib.hid (contains_any x A c looms.length looms rfl (looms.contains x) rfl w hl hx)
  generalize looms.contains x = q at *
  have k0 := hB.c1
  clear hx
  go_enter Try.func99, Try.ntmps99
  go_wp2_with fail
  refine hc.out.mono ?_
  rintro e w' ⟨rfl, rfl⟩
  go_wp2_with fail
  go_ret
  exact ⟨rfl, rfl⟩
set_option maxRecDepth 20000 in
set_option maxHeartbeats 1000000 in
theorem lover_any (v : Value) (m : Mill) (hch : checkE m = 0) (A : Option Addr) (c : Nat) (looms : List Int) (hl : looms.length ≤ 8) (b : Int) (hb : 0 ≤ b ∧ b ≤ 99) (w : World) (hv : MillVal w v m) (hx : IntsAt w A looms) :
    Calls Try.prog 40 #[v, .slice A looms.length c, .int .i64 b] w fun e w' => e = .returned (.int .i64 (overF m looms b m.orders.length)) ∧ Ext w w' := by
  have hmf : ∀ (fn : Fn) (first cap : Array Value) (w : World), (Instr.makeFunc fn first cap).run Try.prog w = .ok (.func fn first cap) w := fun _ _ _ _ => rfl
  obtain ⟨A1, c1, A2, c2, rfl, h2, h3, h4, h5, h6, h7⟩ := hv
  obtain ⟨l1, l2, l3⟩ := check_len hch
  have hE : Ext w ((w.alloc (.cells #[.slice A1 m.laced.length c1, .int .i64 m.change, .slice A2 m.orders.length c2] 25)).alloc (.cells #[.slice A looms.length c] 22)) := (Ext.alloc _ _).trans (Ext.alloc _ _)
  have hM := (Blk.new w 25 #[.slice A1 m.laced.length c1, .int .i64 m.change, .slice A2 m.orders.length c2]).alloc (.cells #[.slice A looms.length c] 22)
  have hL := Blk.new (w.alloc (.cells #[.slice A1 m.laced.length c1, .int .i64 m.change, .slice A2 m.orders.length c2] 25)) 22 #[.slice A looms.length c]
  rw [World.size_alloc] at hL
  have Hx := Lib.hid hx; have H7 := Lib.hid h7; have Hch := Lib.hid hch
  have hob := Lib.hid (overF_bd hch looms b hb hl)
  have hob0 := hob.out 0 (by omega)
  obtain ⟨z, hz⟩ : ∃ z, overF m looms b 0 = z := ⟨_, rfl⟩
  rw [hz] at hob0
  have hz1 : -b * (looms.length : Int) = z := by rw [← hz]; rfl
  have Hz := Lib.hid hz; clear hz
  clear h6 h7 hx hch h3 h5
  obtain ⟨k0, k1, k2⟩ := hM.c3
  have k3 := hL.c1
  go_enter Try.func40, Try.ntmps40
  go_wp2_with fail
  go_loopw [7, 18] (fun nv iv wr => ∃ (k : Nat) (t : Int), k ≤ m.orders.length ∧ iv = .int .i64 k ∧ nv = .int .i64 t ∧ (-1000 ≤ t ∧ t ≤ 20 * k) ∧ Hid (overF m looms b k = t) ∧ Ext w wr ∧ Blk wr w.heap.size 25 #[.slice A1 m.laced.length c1, .int .i64 m.change, .slice A2 m.orders.length c2] ∧
      Blk wr (w.heap.size + 1) 22 #[.slice A looms.length c]) (fun _ iv _ => m.orders.length - (intOf iv).toNat)
  case atStart => exact ⟨0, z, by omega, rfl, by rw [← hz1], by omega, Hz.out, hE, hM, hL⟩
  case round =>
    clear hE hM hL k0 k1 k2 k3
    obtain ⟨k, t, hk, rfl, rfl, htb, ht, he, hMr, hLr⟩ := hrel
    obtain ⟨k0, k1, k2⟩ := hMr.c3
    by_cases hlt : k < m.orders.length
    · obtain ⟨b2, o2, rfl, A', ca, hca, p1, p2, p3, p4, p5⟩ := H7.out.ext he k hlt
      have hX := Ext.alloc wr (.cells #[.int .i64 (m.orders[k]?.getD default).pattern, .int .i64 (m.orders[k]?.getD default).days, .int .i64 (m.orders[k]?.getD default).by_, .slice A' (m.orders[k]?.getD default).on.length ca] 78)
      have hbo := Blk.new wr 78 #[.int .i64 (m.orders[k]?.getD default).pattern, .int .i64 (m.orders[k]?.getD default).days, .int .i64 (m.orders[k]?.getD default).by_, .slice A' (m.orders[k]?.getD default).on.length ca]
      have hLX := hLr.ext hX
      have hMX := hMr.ext hX
      have hst : Hid (overF m looms b (k + 1) = t + if aloneB (m.orders[k]?.getD default) looms b = true then (m.orders[k]?.getD default).days else 0) := by unfold Hid; rw [overF, ht.out]
      have hbd := hob.out (k + 1) (by omega)
      have hev := containsFuncI 99 #[] #[.pointer (some ⟨w.heap.size + 1, 0, none⟩)] (enters_of Try.func99 (by kernel_rfl) rfl) (fun n => !looms.contains n) A' ca (m.orders[k]?.getD default).on _ (Nat.le_trans hca.1 hca.2) (p5.ext hX) (fun x hx' => by
        intro W u hW hu
        obtain rfl : u = .int .i64 x := hu
        refine (lover1_any looms x _ A c W (by unfold maxLen; omega) (hLX.ext hW) (Hx.out.ext (he.trans (hX.trans hW)))).mono ?_
        rintro e w' ⟨rfl, rfl⟩
        exact ⟨rfl, Ext.refl _⟩)
      obtain ⟨q, hq⟩ : ∃ q, ((m.orders[k]?.getD default).on.all fun n => looms.contains n) = q := ⟨_, rfl⟩
      have hq2 : ((m.orders[k]?.getD default).on.any fun n => !looms.contains n) = !q := by rw [← hq, List.not_all_eq_any_not]
      rw [hq2] at hev
      clear hq2
      have hal : Hid (aloneB (m.orders[k]?.getD default) looms b = (decide ((m.orders[k]?.getD default).by_ ≤ b) && q)) := by unfold Hid aloneB; rw [hq]
      have Hev := Lib.hid hev; clear hev p5 hq
      obtain ⟨g0, g1, g2, g3⟩ := hbo.c4
      have hdb := (check_orders Hch.out).1 (m.orders[k]?.getD default) (by simp [hlt])
      generalize m.orders[k]?.getD default = x0 at *
      by_cases hby : x0.by_ ≤ b
      · go_wp2_with fail
        refine Hev.out.mono ?_
        rintro e w' ⟨rfl, he'⟩
        have hbo' := hbo.ext he'
        clear g0 g1 g2 g3
        obtain ⟨g0, g1, g2, g3⟩ := hbo'.c4
        cases q with
        | true =>
          have hst2 : Hid (overF m looms b (k + 1) = t + x0.days) := by unfold Hid; rw [hst.out, if_pos]; rw [hal.out]; simpa using hby
          rw [hst2.out] at hbd
          go_wp2_with fail
          go_roundw
          case rel => exact ⟨k + 1, t + x0.days, by omega, by go_num, by first | rfl | go_num, hbd, hst2, he.trans (hX.trans he'), hMX.ext he', hLX.ext he'⟩
          case measure => simp [intOf]; omega
        | false =>
          have hst2 : Hid (overF m looms b (k + 1) = t) := by unfold Hid; rw [hst.out, if_neg (by rw [hal.out]; simp)]; omega
          rw [hst2.out] at hbd
          go_wp2_with fail
          go_roundw
          case rel => exact ⟨k + 1, t, by omega, by go_num, rfl, hbd, hst2, he.trans (hX.trans he'), hMX.ext he', hLX.ext he'⟩
          case measure => simp [intOf]; omega
      · have hdby : decide (x0.by_ ≤ b) = false := by simpa using hby
        have hst2 : Hid (overF m looms b (k + 1) = t) := by unfold Hid; rw [hst.out, if_neg (by rw [hal.out, hdby]; simp)]; omega
        rw [hst2.out] at hbd
        clear hby
        go_wp2_with fail
        go_roundw
        case rel => exact ⟨k + 1, t, by omega, by go_num, rfl, hbd, hst2, he.trans hX, hMX, hLX⟩
        case measure => simp [intOf]; omega
    · have hke : k = m.orders.length := by omega
      subst hke
      go_wp2_with fail
      go_ret
      exact ⟨by rw [ht.out]; rfl, he⟩
end Go.Proofs.Pet
