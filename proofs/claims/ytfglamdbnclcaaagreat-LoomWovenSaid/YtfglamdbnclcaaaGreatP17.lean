/-
  Contracts of functions, each proved once.
-/
import Derived.Test.YtfglamdbnclcaaaGreatP16
namespace Go.Proofs.Pet
open Go Go.RowKit Go.Maps Go.Shelf

set_option maxRecDepth 20000 in
set_option maxHeartbeats 1000000 in
theorem list_any (s : Nat) (hs : s < 256) (w : World) :
    Calls Tryz.prog 47 #[.int .i64 (s : Int)] w fun e w' => ∃ r, e = .returned r ∧ OwnI w' w.heap.size 3 r (ints (bits 8 s)) ∧ Ext w w' := by
  obtain ⟨ti, hi, hz0, hz1, hz2⟩ := info_parts info_int
  go_enter Tryz.func47, Tryz.ntmps47
  go_wp2_with fail
  go_loopw [3, 4] (fun v i wr => ∃ k : Nat, k ≤ 8 ∧ i = .int .i64 k ∧ Ext w wr ∧ Hid (OwnI wr w.heap.size 3 v (ints (bits k s)))) (fun _ i _ => 8 - (intOf i).toNat)
  case atStart => exact ⟨0, by omega, rfl, Ext.refl _, OwnI.nil _ _ _⟩
  case round =>
    obtain ⟨k, hk, rfl, he, ho⟩ := hrel
    obtain ⟨B, cB, rfl, o1, o2, o3, o4, o5⟩ := ho.out.open_
    have O4 := Lib.hid o4; clear o3 o4 o5
    have hil : (ints (bits k s)).length = (bits k s).length := by unfold ints; simp
    have hbl := bits_length_le k s
    have hszr := he.size
    obtain ⟨z, hz⟩ : ∃ z : Nat, s / 2 ^ k = z := ⟨_, rfl⟩
    have hzi : (s : Int) / 2 ^ k = (z : Int) := by rw [← hz]; simp
    have Hz := Lib.hid hz; clear hz
    by_cases hpos : 0 < z
    · have hk8 : k < 8 := by
        rcases Nat.lt_or_ge k 8 with h | h
        · exact h
        · exfalso
          have h1 : 2 ^ 8 ≤ 2 ^ k := Nat.pow_le_pow_right (by omega) h
          have h2 : (2 : Nat) ^ 8 = 256 := by decide
          have h3 := Hz.out
          rw [Nat.div_eq_of_lt (by omega)] at h3
          omega
      generalize hln : (ints (bits k s)).length = L at *
      have HL := Lib.hid hln; clear hln
      obtain ⟨q, hq⟩ : ∃ q, s.testBit k = q := ⟨_, rfl⟩
      have hbit := bit_test s k (by omega) q hq
      rw [hzi] at hbit
      have Hq := Lib.hid hq; clear hq
      cases q with
      | true =>
        go_wp2_with (at_builtin; refine wpList_app rfl _ _ 22 rfl w.heap.size 3 ti (.int .i64 0) 1 8 Tryz.underlying22 hi hz0 hz1 hz2 rfl (by decide) _ _ _ rfl (ownsRow_alloc_of HL.out ho.out) (some ⟨wr.heap.size, 0, none⟩) 1 1 [.int .i64 k] rfl rfl (Src.one _ _ _) ?c2 ?c3 ?c4 ?c5 ?_; (case c2 => (intro u hu; simp at hu; subst hu; rfl)); (case c3 => (unfold maxLen; omega)); (case c4 => omega); (case c5 => (simp; omega)); intro v' w' hown' hg hblk)
        go_roundw
        case rel =>
          have hge := own_ge O4.out (L := L) (c := cB)
          refine ⟨k + 1, by omega, by go_num, ext_grown he hg (fun j hj => by have := hge j hj; omega), ?_⟩
          unfold Hid
          rw [bits_succ, if_pos Hq.out, ints_append]
          unfold OwnI
          rw [List.map_append, List.length_append, HL.out]
          exact hown'
        case measure => simp [intOf]; omega
      | false =>
        go_wp2_with fail
        go_roundw
        case rel => exact ⟨k + 1, by omega, by go_num, he, by unfold Hid; rw [bits_succ, if_neg (by rw [Hq.out]; simp)]; exact ho.out⟩
        case measure => simp [intOf]; omega
    · have hz0' : z = 0 := by omega
      have hzi0 : (s : Int) / 2 ^ k = 0 := by rw [hzi, hz0']; rfl
      have hlt : s < 2 ^ k := by
        have h3 := Hz.out
        rw [hz0'] at h3
        exact Nat.lt_of_div_eq_zero (Nat.two_pow_pos k) h3
      have hb8 : Hid (ints (bits 8 s) = ints (bits k s)) := by
        have := bits_more hlt (8 - k)
        rw [show k + (8 - k) = 8 by omega] at this
        unfold Hid; rw [this]
      clear hz0' hlt hpos hzi
      go_wp2_with fail
      go_ret
      refine ⟨_, rfl, ?_, he⟩
      rw [hb8.out]; exact ho.out
/-- whether all looms of an order are in a list, and it must be done by a day -/
def aloneB (o : Ord) (looms : List Int) (by_ : Int) : Bool := decide (o.by_ ≤ by_) && o.on.all fun k => looms.contains k
def overF (m : Mill) (looms : List Int) (by_ : Int) : Nat → Int
  | 0 => -by_ * looms.length
  | k + 1 => overF m looms by_ k + if aloneB (m.orders[k]?.getD default) looms by_ = true then (m.orders[k]?.getD default).days else 0
theorem over1_any (looms : List Int) (x : Int) (B : Nat) (A : Option Addr) (c : Nat) (w : World) (hl : looms.length ≤ maxLen) (hB : Blk w B 22 #[.slice A looms.length c]) (hx : IntsAt w A looms) :
    Calls Tryz.prog 108 #[.int .i64 x, .pointer (some ⟨B, 0, none⟩)] w fun e w' => e = .returned (.bool (looms.contains x)) ∧ w = w' := by
  have hc := Lib.hid (contains_any x A c looms.length looms rfl (looms.contains x) rfl w hl hx)
  generalize looms.contains x = q at *
  have k0 := hB.c1
  clear hx
  go_enter Tryz.func108, Tryz.ntmps108
  go_wp2_with fail
  refine hc.out.mono ?_
  rintro e w' ⟨rfl, rfl⟩
  go_wp2_with fail
  go_ret
  exact ⟨rfl, rfl⟩
theorem overF_bd {m : Mill} (hch : checkE m = 0) (looms : List Int) (b : Int) (hb : 0 ≤ b ∧ b ≤ 99) (hl : looms.length ≤ 8) : ∀ k, k ≤ m.orders.length → -1000 ≤ overF m looms b k ∧ overF m looms b k ≤ 20 * k
  | 0, _ => by
    have h1 : (0 : Int) ≤ b * looms.length := Int.mul_nonneg hb.1 (by omega)
    have h2 : b * (looms.length : Int) ≤ 99 * 8 := by
      have h3 : b * (looms.length : Int) ≤ 99 * (looms.length : Int) := Int.mul_le_mul_of_nonneg_right hb.2 (by omega)
      omega
    rw [overF, Int.neg_mul]; omega
  | k + 1, hk => by
    have ih := overF_bd hch looms b hb hl k (by omega)
    have ho := (check_orders hch).1 (m.orders[k]?.getD default) (by simp [show k < m.orders.length by omega])
    rw [overF]
    split <;> omega
set_option maxRecDepth 20000 in
set_option maxHeartbeats 1000000 in
theorem over_any (v : Value) (m : Mill) (hch : checkE m = 0) (A : Option Addr) (c : Nat) (looms : List Int) (hl : looms.length ≤ 8) (b : Int) (hb : 0 ≤ b ∧ b ≤ 99) (w : World) (hv : MillVal w v m) (hx : IntsAt w A looms) :
    Calls Tryz.prog 46 #[v, .slice A looms.length c, .int .i64 b] w fun e w' => e = .returned (.int .i64 (overF m looms b m.orders.length)) ∧ Ext w w' := by
  have hmf : ∀ (fn : Fn) (first cap : Array Value) (w : World), (Instr.makeFunc fn first cap).run Tryz.prog w = .ok (.func fn first cap) w := fun _ _ _ _ => rfl
  obtain ⟨A1, c1, A2, c2, rfl, h2, h3, h4, h5, h6, h7⟩ := hv
  obtain ⟨l1, l2, l3⟩ := check_len hch
  have hE : Ext w ((w.alloc (.cells #[.slice A1 m.laced.length c1, .int .i64 m.change, .slice A2 m.orders.length c2] 25)).alloc (.cells #[.slice A looms.length c] 22)) := (Ext.alloc _ _).trans (Ext.alloc _ _)
  have hM := (Blk.new w 25 #[.slice A1 m.laced.length c1, .int .i64 m.change, .slice A2 m.orders.length c2]).alloc (.cells #[.slice A looms.length c] 22)
  have hL := Blk.new (w.alloc (.cells #[.slice A1 m.laced.length c1, .int .i64 m.change, .slice A2 m.orders.length c2] 25)) 22 #[.slice A looms.length c]
  rw [World.size_alloc] at hL
  have Hx := Lib.hid hx; have H7 := Lib.hid h7; have Hch := Lib.hid hch
  have hob := Lib.hid (overF_bd hch looms b hb hl)
  have hob0 := hob.out 0 (by omega)
  obtain ⟨z, hz⟩ : ∃ z, overF m looms b 0 = z := ⟨_, rfl⟩
  rw [hz] at hob0
  have hz1 : -b * (looms.length : Int) = z := by rw [← hz]; rfl
  have Hz := Lib.hid hz; clear hz
  clear h6 h7 hx hch h3 h5
  obtain ⟨k0, k1, k2⟩ := hM.c3
  have k3 := hL.c1
  go_enter Tryz.func46, Tryz.ntmps46
  go_wp2_with fail
  go_loopw [7, 18] (fun nv iv wr => ∃ (k : Nat) (t : Int), k ≤ m.orders.length ∧ iv = .int .i64 k ∧ nv = .int .i64 t ∧ (-1000 ≤ t ∧ t ≤ 20 * k) ∧ Hid (overF m looms b k = t) ∧ Ext w wr ∧ Blk wr w.heap.size 25 #[.slice A1 m.laced.length c1, .int .i64 m.change, .slice A2 m.orders.length c2] ∧
      Blk wr (w.heap.size + 1) 22 #[.slice A looms.length c]) (fun _ iv _ => m.orders.length - (intOf iv).toNat)
  case atStart => exact ⟨0, z, by omega, rfl, by rw [← hz1], by omega, Hz.out, hE, hM, hL⟩
  case round =>
    clear hE hM hL k0 k1 k2 k3
    obtain ⟨k, t, hk, rfl, rfl, htb, ht, he, hMr, hLr⟩ := hrel
    obtain ⟨k0, k1, k2⟩ := hMr.c3
    by_cases hlt : k < m.orders.length
    · obtain ⟨b2, o2, rfl, A', ca, hca, p1, p2, p3, p4, p5⟩ := H7.out.ext he k hlt
      have hX := Ext.alloc wr (.cells #[.int .i64 (m.orders[k]?.getD default).pattern, .int .i64 (m.orders[k]?.getD default).days, .int .i64 (m.orders[k]?.getD default).by_, .slice A' (m.orders[k]?.getD default).on.length ca] 28)
      have hbo := Blk.new wr 28 #[.int .i64 (m.orders[k]?.getD default).pattern, .int .i64 (m.orders[k]?.getD default).days, .int .i64 (m.orders[k]?.getD default).by_, .slice A' (m.orders[k]?.getD default).on.length ca]
      have hLX := hLr.ext hX
      have hMX := hMr.ext hX
      have hst : Hid (overF m looms b (k + 1) = t + if aloneB (m.orders[k]?.getD default) looms b = true then (m.orders[k]?.getD default).days else 0) := by unfold Hid; rw [overF, ht.out]
      have hbd := hob.out (k + 1) (by omega)
      have hev := everyI 108 #[] #[.pointer (some ⟨w.heap.size + 1, 0, none⟩)] (enters_of Tryz.func108 (by kernel_rfl) rfl) (fun n => looms.contains n) A' ca (m.orders[k]?.getD default).on _ (Nat.le_trans hca.1 hca.2) (p5.ext hX) (fun x hx' => by
        intro W u hW hu
        obtain rfl : u = .int .i64 x := hu
        refine (over1_any looms x _ A c W (by unfold maxLen; omega) (hLX.ext hW) (Hx.out.ext (he.trans (hX.trans hW)))).mono ?_
        rintro e w' ⟨rfl, rfl⟩
        exact ⟨rfl, Ext.refl _⟩)
      obtain ⟨q, hq⟩ : ∃ q, ((m.orders[k]?.getD default).on.all fun n => looms.contains n) = q := ⟨_, rfl⟩
      rw [hq] at hev
      have hal : Hid (aloneB (m.orders[k]?.getD default) looms b = (decide ((m.orders[k]?.getD default).by_ ≤ b) && q)) := by unfold Hid aloneB; rw [hq]
      have Hev := Lib.hid hev; clear hev p5 hq
      obtain ⟨g0, g1, g2, g3⟩ := hbo.c4
      have hdb := (check_orders Hch.out).1 (m.orders[k]?.getD default) (by simp [hlt])
      generalize m.orders[k]?.getD default = x0 at *
      by_cases hby : x0.by_ ≤ b
      · go_wp2_with fail
        refine Hev.out.mono ?_
        rintro e w' ⟨rfl, he'⟩
        have hbo' := hbo.ext he'
        clear g0 g1 g2 g3
        obtain ⟨g0, g1, g2, g3⟩ := hbo'.c4
        cases q with
        | true =>
          have hst2 : Hid (overF m looms b (k + 1) = t + x0.days) := by unfold Hid; rw [hst.out, if_pos]; rw [hal.out]; simpa using hby
          rw [hst2.out] at hbd
          go_wp2_with fail
          go_roundw
          case rel => exact ⟨k + 1, t + x0.days, by omega, by go_num, by first | rfl | go_num, hbd, hst2, he.trans (hX.trans he'), hMX.ext he', hLX.ext he'⟩
          case measure => simp [intOf]; omega
        | false =>
          have hst2 : Hid (overF m looms b (k + 1) = t) := by unfold Hid; rw [hst.out, if_neg (by rw [hal.out]; simp)]; omega
          rw [hst2.out] at hbd
          go_wp2_with fail
          go_roundw
          case rel => exact ⟨k + 1, t, by omega, by go_num, rfl, hbd, hst2, he.trans (hX.trans he'), hMX.ext he', hLX.ext he'⟩
          case measure => simp [intOf]; omega
      · have hdby : decide (x0.by_ ≤ b) = false := by simpa using hby
        have hst2 : Hid (overF m looms b (k + 1) = t) := by unfold Hid; rw [hst.out, if_neg (by rw [hal.out, hdby]; simp)]; omega
        rw [hst2.out] at hbd
        clear hby
        go_wp2_with fail
        go_roundw
        case rel => exact ⟨k + 1, t, by omega, by go_num, rfl, hbd, hst2, he.trans hX, hMX, hLX⟩
        case measure => simp [intOf]; omega
    · have hke : k = m.orders.length := by omega
      subst hke
      go_wp2_with fail
      go_ret
      exact ⟨by rw [ht.out]; rfl, he⟩
end Go.Proofs.Pet

namespace Go.Proofs.Pet
open Go Go.RowKit Go.Maps Go.Shelf

/-- the first set of looms that has too much to do by a day, in the order of lists; 0 if there is none -/
def crIn (m : Mill) (b : Int) : Nat → Nat
  | 0 => 0
  | k + 1 => if 0 < overF m (ints (bits 8 (k + 1))) b m.orders.length ∧ (crIn m b k = 0 ∨ aheadB (ints (bits 8 (k + 1))) (ints (bits 8 (crIn m b k))) = true) then k + 1 else crIn m b k
/-- the first crowd: day and set; (0, 0) if there is none by day k -/
def crBy (m : Mill) (N : Nat) : Nat → Nat × Nat
  | 0 => (0, 0)
  | k + 1 => if crBy m N k = (0, 0) then (if crIn m (k + 1 : Nat) N = 0 then (0, 0) else (k + 1, crIn m (k + 1 : Nat) N)) else crBy m N k
theorem crBy_stop (m : Mill) (N k : Nat) (h : crBy m N k ≠ (0, 0)) : ∀ d, crBy m N (k + d) = crBy m N k
  | 0 => rfl
  | d + 1 => by
    have ih := crBy_stop m N k h d
    show crBy m N (k + d + 1) = _
    rw [crBy, if_neg (by rw [ih]; exact h), ih]
def crA (mv : Value) (s b _cb _z Lb : Nat) (ov : Int) (_c3 : Bool) : Nat → Value → World → Prop
  | 0 => fun v _ => v = mv
  | 1 => fun v _ => v = .int .i64 s
  | 2 => fun v W => OwnI W Lb 3 v (ints (bits 8 s))
  | 3 => fun v _ => v = .int .i64 ((b : Int) + 1)
  | 4 => fun v _ => v = .int .i64 ov
  | 5 => fun v _ => v = .bool false
  | 6 => fun v _ => v = .bool false
  | 7 => fun v _ => v = undef
  | 8 => fun v _ => v = undef
  | 9 => fun v _ => v = undef
  | 10 => fun v _ => v = undef
  | 11 => fun v _ => v = undef
  | 12 => fun v _ => v = undef
  | 13 => fun v _ => v = undef
  | 14 => fun v _ => v = undef
  | 15 => fun v _ => v = undef
  | 16 => fun v _ => v = undef
  | 17 => fun v _ => v = undef
  | 18 => fun v _ => v = undef
  | 19 => fun v _ => v = .bool false
  | _ => fun _ _ => True
theorem crA.ext {mv : Value} {s b cb z Lb : Nat} {ov : Int} {c3 : Bool} {w w' : World} (he : Ext w w') (j : Nat) (v : Value) (h : crA mv s b cb z Lb ov c3 j v w) : crA mv s b cb z Lb ov c3 j v w' := by
  match j, h with
  | 0, h | 1, h | 3, h | 4, h | 5, h | 6, h | 7, h | 8, h | 9, h | 10, h | 11, h | 12, h | 13, h | 14, h | 15, h | 16, h | 17, h | 18, h | 19, h => exact h
  | 2, h => exact OwnI.ext h he
  | _ + 20, h => trivial
def crB (mv : Value) (s b _cb _z Lb : Nat) (ov : Int) (_c3 : Bool) : Nat → Value → World → Prop
  | 0 => fun v _ => v = mv
  | 1 => fun v _ => v = .int .i64 s
  | 2 => fun v W => OwnI W Lb 3 v (ints (bits 8 s))
  | 3 => fun v _ => v = .int .i64 ((b : Int) + 1)
  | 4 => fun v _ => v = .int .i64 ov
  | 5 => fun v _ => v = .bool true
  | 6 => fun v _ => v = .bool true
  | 7 => fun v _ => v = .agg #[.int .i64 0, .int .i64 0]
  | 8 => fun v _ => v = .agg #[.int .i64 0, .int .i64 0]
  | 9 => fun v _ => v = .bool true
  | 10 => fun v _ => v = .bool true
  | 11 => fun v _ => v = undef
  | 12 => fun v _ => v = undef
  | 13 => fun v _ => v = undef
  | 14 => fun v _ => v = undef
  | 15 => fun v _ => v = undef
  | 16 => fun v _ => v = undef
  | 17 => fun v _ => v = undef
  | 18 => fun v _ => v = .bool true
  | 19 => fun v _ => v = .bool true
  | _ => fun _ _ => True
theorem crB.ext {mv : Value} {s b cb z Lb : Nat} {ov : Int} {c3 : Bool} {w w' : World} (he : Ext w w') (j : Nat) (v : Value) (h : crB mv s b cb z Lb ov c3 j v w) : crB mv s b cb z Lb ov c3 j v w' := by
  match j, h with
  | 0, h | 1, h | 3, h | 4, h | 5, h | 6, h | 7, h | 8, h | 9, h | 10, h | 11, h | 12, h | 13, h | 14, h | 15, h | 16, h | 17, h | 18, h | 19, h => exact h
  | 2, h => exact OwnI.ext h he
  | _ + 20, h => trivial
def crC (mv : Value) (s b cb z Lb : Nat) (ov : Int) (c3 : Bool) : Nat → Value → World → Prop
  | 0 => fun v _ => v = mv
  | 1 => fun v _ => v = .int .i64 s
  | 2 => fun v W => OwnI W Lb 3 v (ints (bits 8 s))
  | 3 => fun v _ => v = .int .i64 ((b : Int) + 1)
  | 4 => fun v _ => v = .int .i64 ov
  | 5 => fun v _ => v = .bool true
  | 6 => fun v _ => v = .bool true
  | 7 => fun v _ => v = .agg #[.int .i64 ((b : Int) + 1), .int .i64 z]
  | 8 => fun v _ => v = .agg #[.int .i64 0, .int .i64 0]
  | 9 => fun v _ => v = .bool false
  | 10 => fun v _ => v = .bool false
  | 11 => fun v _ => v = .int .i64 s
  | 12 => fun v W => OwnI W Lb 3 v (ints (bits 8 s))
  | 13 => fun v _ => v = .pointer (some ⟨cb, 1, none⟩)
  | 14 => fun v _ => v = .int .i64 z
  | 15 => fun v W => OwnI W Lb 3 v (ints (bits 8 z))
  | 16 => fun v _ => ∃ r : Int, v = .int .i64 r ∧ decide (r < 0) = c3
  | 17 => fun v _ => v = .bool c3
  | 18 => fun v _ => v = .bool c3
  | 19 => fun v _ => v = .bool c3
  | _ => fun _ _ => True
theorem crC.ext {mv : Value} {s b cb z Lb : Nat} {ov : Int} {c3 : Bool} {w w' : World} (he : Ext w w') (j : Nat) (v : Value) (h : crC mv s b cb z Lb ov c3 j v w) : crC mv s b cb z Lb ov c3 j v w' := by
  match j, h with
  | 0, h | 1, h | 3, h | 4, h | 5, h | 6, h | 7, h | 8, h | 9, h | 10, h | 11, h | 13, h | 14, h | 16, h | 17, h | 18, h | 19, h => exact h
  | 2, h => exact OwnI.ext h he
  | 12, h => exact OwnI.ext h he
  | 15, h => exact OwnI.ext h he
  | _ + 20, h => trivial
def crD (y z cb Lb : Nat) : Nat → Value → World → Prop
  | 0 => fun v _ => v = .pointer (some ⟨cb, 1, none⟩)
  | 1 => fun v _ => v = .int .i64 z
  | 2 => fun v W => OwnI W Lb 3 v (ints (bits 8 z))
  | 3 => fun v _ => v = .pointer (some ⟨cb, 0, none⟩)
  | 4 => fun v _ => v = .int .i64 y
  | 5 => fun v W => ∃ r, v = .agg #[r, .int .i64 y] ∧ OwnI W Lb 3 r (ints (bits 8 z))
  | _ => fun _ _ => True
theorem crD.ext {y z cb Lb : Nat} {w w' : World} (he : Ext w w') (j : Nat) (v : Value) (h : crD y z cb Lb j v w) : crD y z cb Lb j v w' := by
  match j, h with
  | 0, h | 1, h | 3, h | 4, h => exact h
  | 2, h => exact OwnI.ext h he
  | 5, ⟨r, h1, h2⟩ => exact ⟨r, h1, h2.ext he⟩
  | _ + 6, h => trivial
set_option maxRecDepth 20000 in
set_option maxHeartbeats 2000000 in
theorem crowded_ok (v : Value) (m : Mill) (hch : checkE m = 0) (N : Nat) (hN : 2 ^ m.laced.length = N) (y0 z0 : Nat) (hR0 : crBy m (N - 1) 99 = (y0, z0)) (w : World) (hv : MillVal w v m) :
    Calls Tryz.prog 11 #[v] w fun e w' => ∃ r : Value, e = .returned (.tuple #[.agg #[r, .int .i64 (y0 : Int)], .int .i64 (if y0 = 0 then 6 else 0)]) ∧ SlI w' r (if y0 = 0 then [] else ints (bits 8 z0)) ∧ Ext w w' := by
  have HR0 : Unit → crBy m (N - 1) 99 = (y0, z0) := fun _ => hR0
  clear hR0
  have hP : (2 : Int) ^ m.laced.length = (N : Int) ∧ N ≤ 8 ∧ 2 ≤ N := by
    obtain ⟨l1, l2, l3⟩ := check_len hch
    have h1 : 2 ^ m.laced.length ≤ 2 ^ 3 := Nat.pow_le_pow_right (by omega) l2
    have h2 : (2 : Nat) ^ 3 = 8 := by decide
    have h3 : 2 ^ 1 ≤ 2 ^ m.laced.length := Nat.pow_le_pow_right (by omega) l1
    have h4 : ((2 ^ m.laced.length : Nat) : Int) = (2 : Int) ^ m.laced.length := by simp
    omega
  obtain ⟨hP1, hP2, hP3⟩ := hP
  have HP1 := Lib.hid hP1; clear hP1
  clear hN
  have Hv := Lib.hid hv
  obtain ⟨A1, c1, A2, c2, rfl, h2, h3, h4, h5, h6, h7⟩ := hv
  obtain ⟨l1, l2, l3⟩ := check_len hch
  have Hch := Lib.hid hch
  have hE : Ext w ((w.alloc (.cells #[.slice A1 m.laced.length c1, .int .i64 m.change, .slice A2 m.orders.length c2] 25)).alloc (.cells #[.slice none 0 0, .int .i64 0] 31)) := (Ext.alloc _ _).trans (Ext.alloc _ _)
  have hM := (Blk.new w 25 #[.slice A1 m.laced.length c1, .int .i64 m.change, .slice A2 m.orders.length c2]).alloc (.cells #[.slice none 0 0, .int .i64 0] 31)
  have hR := Blk.new (w.alloc (.cells #[.slice A1 m.laced.length c1, .int .i64 m.change, .slice A2 m.orders.length c2] 25)) 31 #[.slice none 0 0, .int .i64 0]
  rw [World.size_alloc] at hR
  have hck := check_any _ m _ (Hv.out.ext hE)
  rw [hch] at hck
  have Hck := Lib.hid hck; clear hck hch h6 h7 h3 h5
  obtain ⟨k0, k1, k2⟩ := hM.c3
  go_enter Tryz.func11, Tryz.ntmps11
  go_wp2_with fail
  refine Hck.out.mono ?_
  rintro e w1 ⟨rfl, he1⟩
  have hE1 := hE.trans he1
  have hM1 := hM.ext he1
  have hR1 := hR.ext he1
  clear hM hE hR he1 Hck k0 k1 k2
  have hX := Ext.alloc w1 (.cells #[.int .i64 0, .int .i64 0] 96)
  have hB := Blk.new w1 96 #[.int .i64 0, .int .i64 0]
  have hE2 := hE1.trans hX
  have hM2 := hM1.ext hX
  have hR2 := hR1.ext hX
  have hR1' := hR1
  clear hM1 hR1 hE1 hX
  go_wp2_with fail
  have hcb : w.heap.size + 2 ≤ w1.heap.size := by have := hR1'.lt; omega
  generalize w1.alloc _ = W at *
  generalize w1.heap.size = cb at *
  go_loopw [6] (fun bv wr => ∃ (k y z : Nat), k ≤ 99 ∧ bv = .int .i64 ((k : Int) + 1) ∧ ((y = 0 ∧ z = 0) ∨ (1 ≤ y ∧ 1 ≤ z)) ∧ y ≤ 99 ∧ z < N ∧ Hid (crBy m (N - 1) k = (y, z)) ∧ Ext w wr ∧ Blk wr w.heap.size 25 #[.slice A1 m.laced.length c1, .int .i64 m.change, .slice A2 m.orders.length c2] ∧
      Blk wr (w.heap.size + 1) 31 #[.slice none 0 0, .int .i64 0] ∧ Blk wr cb 96 #[.int .i64 y, .int .i64 z]) (fun bv _ => 100 - (intOf bv).toNat)
  case atStart => exact ⟨0, 0, 0, by omega, rfl, .inl ⟨rfl, rfl⟩, by omega, by omega, rfl, hE2, hM2, hR2, hB⟩
  case round =>
    clear hE2 hM2 hR2 hB
    obtain ⟨k, y, z, hk, rfl, hyz, hy, hz, hcr, he, hMr, hRr, hBr⟩ := hrel
    obtain ⟨q0, q1⟩ := hBr.c2
    by_cases hend : k < 99 ∧ y = 0
    · obtain ⟨hlt, rfl⟩ := hend
      have hz0 : z = 0 := by omega
      subst hz0
      clear hyz hy hk
      go_wp2_with fail
      go_loopw [7] (fun lv wr => ∃ (s z : Nat), 1 ≤ s ∧ s ≤ N ∧ lv = .int .i64 s ∧ z < N ∧ Hid (crIn m (k + 1 : Nat) (s - 1) = z) ∧ Ext w wr ∧ Blk wr w.heap.size 25 #[.slice A1 m.laced.length c1, .int .i64 m.change, .slice A2 m.orders.length c2] ∧
        Blk wr (w.heap.size + 1) 31 #[.slice none 0 0, .int .i64 0] ∧ Blk wr cb 96 #[.int .i64 (if z = 0 then 0 else k + 1 : Nat), .int .i64 z]) (fun lv _ => N - (intOf lv).toNat)
      case atStart => exact ⟨1, 0, by omega, by omega, rfl, by omega, rfl, he, hMr, hRr, hBr⟩
      case round =>
        clear he hMr hRr hBr q0 q1
        obtain ⟨s, z, hs1, hs2, rfl, hz, hin, he, hMr, hRr, hBr⟩ := hrel
        obtain ⟨k0, k1, k2⟩ := hMr.c3
        by_cases hlts : s < N
        · obtain ⟨ov, hov⟩ : ∃ ov, overF m (ints (bits 8 s)) ((k : Int) + 1) m.orders.length = ov := ⟨_, rfl⟩
          have hst : Hid (crIn m (k + 1 : Nat) s = if 0 < ov ∧ (z = 0 ∨ aheadB (ints (bits 8 s)) (ints (bits 8 z)) = true) then s else z) := by
            obtain ⟨s', rfl⟩ : ∃ s', s = s' + 1 := ⟨s - 1, by omega⟩
            have h1 := hin.out
            rw [show s' + 1 - 1 = s' by omega] at h1
            unfold Hid
            rw [crIn, h1]
            have h2 : ((k + 1 : Nat) : Int) = (k : Int) + 1 := by omega
            rw [h2, hov]
          obtain ⟨c3, hc3⟩ : ∃ c3, aheadB (ints (bits 8 s)) (ints (bits 8 z)) = c3 := ⟨_, rfl⟩
          have Hov := Lib.hid hov; have Hc3 := Lib.hid hc3
          simp only [hc3] at hst
          clear hov hc3
          obtain ⟨yy, hyy⟩ : ∃ yy : Nat, (if z = 0 then 0 else k + 1 : Nat) = yy := ⟨_, rfl⟩
          rw [hyy] at hBr
          have Hyy := Lib.hid hyy; clear hyy
          obtain ⟨P, hP⟩ : ∃ P : Int, (N : Int) = P := ⟨_, rfl⟩
          have hP1 : (2 : Int) ^ m.laced.length = P := HP1.out.trans hP
          have hPb : (s : Int) < P ∧ 2 ≤ P ∧ P ≤ 8 := by omega
          have HP := Lib.hid hP; clear hP
          go_wp2_with fail
--BEGIN
          by_cases hc1 : 0 < ov
          · by_cases hz0 : z = 0
            · subst hz0
              have hyy0 : yy = 0 := by rw [← Hyy.out]; rfl
              subst hyy0
              refine wp_region_apart 20 (by kernel_rfl) (by kernel_rfl) (fun W' => Ext wr W') (crB (.agg #[.slice A1 m.laced.length c1, .int .i64 m.change, .slice A2 m.orders.length c2]) s k cb 0 wr.heap.size ov c3) (fun _ _ _ _ => True) (Ext.drew _) ?_ ?_
              · simp only [List.take, AllOps2, fill, Act.put, List.setIfInBounds_toArray, List.set_cons_zero, List.set_cons_succ, Nat.reduceAdd, Deps, DepsL, List.filter_cons, List.filter_nil, Region.binds, if_true, and_true]
                refine ⟨?_, ?_, ?_, ?_, ?_, ?_, ?_, ?_, ?_, ?_, ?_, ?_, ?_, ?_, ?_, ?_, ?_, ?_, ?_, ?_⟩
                all_goals
                  intro Ld x W' hG hnl hLR hAp hdl hd K Q hK
                case refine_3 =>
                  simp only [crB] at hd
                  simp only [hd] at hK ⊢
                  have HK := Lib.hid hK; clear hK
                  have HL := Lib.hid hLR; clear hLR hAp hdl
                  go_wp2_with fail
                  refine (list_any s (by omega) W').mono ?_
                  rintro e w' ⟨rv, rfl, hrv, he'⟩
                  go_wp2
                  exact HK.out _ _ (hrv.mono hG.size) (hG.trans he') (fun j hj => ⟨crB.ext he' j _ (HL.out j hj), .inl trivial⟩)
                case refine_5 =>
                  have hx0 : x 0 = _ := hd.1
                  have hx2 : OwnI W' wr.heap.size 3 (x 2) (ints (bits 8 s)) := hd.2.1
                  have hx3 : x 3 = _ := hd.2.2.1
                  obtain ⟨AF, cF, e2, f1, f2, f3, _⟩ := hx2.open_
                  have hil : (ints (bits 8 s)).length ≤ 8 := by unfold ints; have := bits_length_le 8 s; rw [List.length_map]; omega
                  simp only [hx0, e2, hx3] at hK ⊢
                  have HK := Lib.hid hK; clear hK
                  have HL := Lib.hid hLR; clear hLR hAp hdl hd e2 hx0 hx2 hx3
                  have hcc := over_any _ m Hch.out AF cF (ints (bits 8 s)) hil ((k : Int) + 1) (by omega) W' (Hv.out.ext (he.trans hG)) f3
                  rw [Hov.out] at hcc
                  have Hcc := Lib.hid hcc; clear hcc f3
                  generalize ints (bits 8 s) = ls at *
                  go_wp2_with fail
                  refine Hcc.out.mono ?_
                  rintro e w' ⟨rfl, he'⟩
                  go_wp2
                  exact HK.out _ _ rfl (hG.trans he') (fun j hj => ⟨crB.ext he' j _ (HL.out j hj), .inl trivial⟩)
                all_goals
                  try (simp only [crB] at hd; simp only [hd] at hK ⊢)
                  have HK := Lib.hid hK; clear hK
                  have HL := Lib.hid hLR; clear hLR hAp hdl
                  obtain ⟨r0, r1, r2⟩ := (hMr.ext hG).c3
                  obtain ⟨t0, t1⟩ := (hBr.ext hG).c2
                  go_wp2_with fail
                  first
                    | exact HK.out _ _ rfl hG (fun j hj => ⟨HL.out j hj, .inl trivial⟩)
                    | exact HK.out _ _ (by simp [crB, *]) hG (fun j hj => ⟨HL.out j hj, .inl trivial⟩)
              · intro x W3 hG _ hR
                simp only [AllR, crB, true_and] at hR
                obtain ⟨hrest, r19⟩ := hR
                clear hrest
                simp only [List.take, List.drop, fill, Act.put, List.setIfInBounds_toArray, List.set_cons_zero, List.set_cons_succ, Nat.reduceAdd, r19]
                clear r19
                have heC := he.trans hG
                have hMC := hMr.ext hG
                have hRC := hRr.ext hG
                have hBC := hBr.ext hG
                have hBD := hBC.row #[.int .i64 ((k : Int) + 1), .int .i64 s]
                have heD := heC.setRow (g := cb) (by omega) #[.int .i64 ((k : Int) + 1), .int .i64 s]
                have hMD := hMC.rowFar (g' := cb) (by omega) #[.int .i64 ((k : Int) + 1), .int .i64 s]
                have hRD := hRC.rowFar (g' := cb) (by omega) #[.int .i64 ((k : Int) + 1), .int .i64 s]
                have HBC := Lib.hid hBC; clear hBC
                go_wp2_with (refine wpList_store_row rfl 96 _ _ rfl cb #[.int .i64 ((k : Int) + 1), .int .i64 s] rfl rfl 96 _ HBC.out (by kernel_rfl) rfl (by simp only [List.all_toArray, List.all_cons, List.all_nil]; rfl) ?_)
                go_roundw
                case rel =>
                  refine ⟨s + 1, s, by omega, by omega, by go_num, by omega, by unfold Hid; rw [Nat.add_sub_cancel, hst.out, if_pos ⟨hc1, .inl rfl⟩], heD, hMD, hRD, ?_⟩
                  rw [if_neg (by omega)]
                  exact hBD
                case measure => simp [intOf]; omega
            · have hyy0 : yy = k + 1 := by rw [← Hyy.out, if_neg hz0]
              subst hyy0
              have hbr2 : Blk wr cb 96 #[.int .i64 ((k : Int) + 1), .int .i64 z] := hBr
              clear hBr
              have hBr := hbr2
              have hkb : (((k : Int) + 1) == 0) = false := by simp; omega
              have Hz0 := Lib.hid hz0; clear hz0
              refine wp_region_apart 20 (by kernel_rfl) (by kernel_rfl) (fun W' => Ext wr W') (crC (.agg #[.slice A1 m.laced.length c1, .int .i64 m.change, .slice A2 m.orders.length c2]) s k cb z wr.heap.size ov c3) (fun _ _ _ _ => True) (Ext.drew _) ?_ ?_
              · simp only [List.take, AllOps2, fill, Act.put, List.setIfInBounds_toArray, List.set_cons_zero, List.set_cons_succ, Nat.reduceAdd, Deps, DepsL, List.filter_cons, List.filter_nil, Region.binds, if_true, and_true]
                refine ⟨?_, ?_, ?_, ?_, ?_, ?_, ?_, ?_, ?_, ?_, ?_, ?_, ?_, ?_, ?_, ?_, ?_, ?_, ?_, ?_⟩
                all_goals
                  intro Ld x W' hG hnl hLR hAp hdl hd K Q hK
                case refine_3 =>
                  simp only [crC] at hd
                  simp only [hd] at hK ⊢
                  have HK := Lib.hid hK; clear hK
                  have HL := Lib.hid hLR; clear hLR hAp hdl
                  go_wp2_with fail
                  refine (list_any s (by omega) W').mono ?_
                  rintro e w' ⟨rv, rfl, hrv, he'⟩
                  go_wp2
                  exact HK.out _ _ (hrv.mono hG.size) (hG.trans he') (fun j hj => ⟨crC.ext he' j _ (HL.out j hj), .inl trivial⟩)
                case refine_5 =>
                  have hx0 : x 0 = _ := hd.1
                  have hx2 : OwnI W' wr.heap.size 3 (x 2) (ints (bits 8 s)) := hd.2.1
                  have hx3 : x 3 = _ := hd.2.2.1
                  obtain ⟨AF, cF, e2, f1, f2, f3, _⟩ := hx2.open_
                  have hil : (ints (bits 8 s)).length ≤ 8 := by unfold ints; have := bits_length_le 8 s; rw [List.length_map]; omega
                  simp only [hx0, e2, hx3] at hK ⊢
                  have HK := Lib.hid hK; clear hK
                  have HL := Lib.hid hLR; clear hLR hAp hdl hd e2 hx0 hx2 hx3
                  have hcc := over_any _ m Hch.out AF cF (ints (bits 8 s)) hil ((k : Int) + 1) (by omega) W' (Hv.out.ext (he.trans hG)) f3
                  rw [Hov.out] at hcc
                  have Hcc := Lib.hid hcc; clear hcc f3
                  generalize ints (bits 8 s) = ls at *
                  go_wp2_with fail
                  refine Hcc.out.mono ?_
                  rintro e w' ⟨rfl, he'⟩
                  go_wp2
                  exact HK.out _ _ rfl (hG.trans he') (fun j hj => ⟨crC.ext he' j _ (HL.out j hj), .inl trivial⟩)
                case refine_13 =>
                  have hx11 : x 11 = _ := hd.1
                  have hx10 : x 10 = _ := hd.2.1
                  simp only [hx11, hx10] at hK ⊢
                  have HK := Lib.hid hK; clear hK
                  have HL := Lib.hid hLR; clear hLR hAp hdl hd hx11 hx10
                  go_wp2_with fail
                  refine (list_any s (by omega) W').mono ?_
                  rintro e w' ⟨rv, rfl, hrv, he'⟩
                  go_wp2
                  exact HK.out _ _ (hrv.mono hG.size) (hG.trans he') (fun j hj => ⟨crC.ext he' j _ (HL.out j hj), .inl trivial⟩)
                case refine_16 =>
                  have hx14 : x 14 = _ := hd.1
                  have hx12 : OwnI W' wr.heap.size 3 (x 12) (ints (bits 8 s)) := hd.2.1
                  have hx10 : x 10 = _ := hd.2.2
                  simp only [hx14, hx10] at hK ⊢
                  have HK := Lib.hid hK; clear hK
                  have HL := Lib.hid hLR; clear hLR hAp hdl hd hx14 hx10 hx12
                  go_wp2_with fail
                  refine (list_any z (by omega) W').mono ?_
                  rintro e w' ⟨rv, rfl, hrv, he'⟩
                  go_wp2
                  exact HK.out _ _ (hrv.mono hG.size) (hG.trans he') (fun j hj => ⟨crC.ext he' j _ (HL.out j hj), .inl trivial⟩)
                case refine_17 =>
                  have hx12 : OwnI W' wr.heap.size 3 (x 12) (ints (bits 8 s)) := hd.1
                  have hx15 : OwnI W' wr.heap.size 3 (x 15) (ints (bits 8 z)) := hd.2.1
                  have hx10 : x 10 = _ := hd.2.2.2
                  obtain ⟨AF, cF, e2, f1, f2, f3, _⟩ := hx12.open_
                  obtain ⟨AG, cG, e3, g1, g2, g3, _⟩ := hx15.open_
                  have hil : (ints (bits 8 s)).length ≤ 8 := by unfold ints; have := bits_length_le 8 s; rw [List.length_map]; omega
                  simp only [e2, e3, hx10] at hK ⊢
                  have HK := Lib.hid hK; clear hK
                  have HL := Lib.hid hLR; clear hLR hAp hdl hd e2 e3 hx10 hx12 hx15
                  have hcc := Lib.hid (compare_any AF AG cF cG (ints (bits 8 s)) (ints (bits 8 z)) c3 Hc3.out W' (by unfold maxLen; omega) f3 g3)
                  clear f3 g3
                  generalize ints (bits 8 s) = ls at *
                  generalize ints (bits 8 z) = lz at *
                  go_wp2_with fail
                  refine hcc.out.mono ?_
                  rintro e w' ⟨r, rfl, hr, rfl⟩
                  go_wp2
                  exact HK.out _ _ ⟨r, rfl, hr⟩ hG (fun j hj => ⟨HL.out j hj, .inl trivial⟩)
                case refine_18 =>
                  have hx16 : ∃ r : Int, x 16 = .int .i64 r ∧ decide (r < 0) = c3 := hd.1
                  have hx10 : x 10 = _ := hd.2
                  obtain ⟨r, e2, hr⟩ := hx16
                  simp only [e2, hx10] at hK ⊢
                  have HK := Lib.hid hK; clear hK
                  have HL := Lib.hid hLR; clear hLR hAp hdl hd e2 hx10
                  go_wp2_with fail
                  exact HK.out _ _ rfl hG (fun j hj => ⟨HL.out j hj, .inl trivial⟩)
                all_goals
                  try (simp only [crC] at hd; simp only [hd] at hK ⊢)
                  have HK := Lib.hid hK; clear hK
                  have HL := Lib.hid hLR; clear hLR hAp hdl
                  obtain ⟨r0, r1, r2⟩ := (hMr.ext hG).c3
                  obtain ⟨t0, t1⟩ := (hBr.ext hG).c2
                  go_wp2_with fail
                  first
                    | exact HK.out _ _ rfl hG (fun j hj => ⟨HL.out j hj, .inl trivial⟩)
                    | exact HK.out _ _ (by simp [crC, *]) hG (fun j hj => ⟨HL.out j hj, .inl trivial⟩)
              · intro x W3 hG _ hR
                simp only [AllR, crC, true_and] at hR
                obtain ⟨hrest, r19⟩ := hR
                clear hrest
                simp only [List.take, List.drop, fill, Act.put, List.setIfInBounds_toArray, List.set_cons_zero, List.set_cons_succ, Nat.reduceAdd, r19]
                clear r19
                have heC := he.trans hG
                have hMC := hMr.ext hG
                have hRC := hRr.ext hG
                have hBC := hBr.ext hG
                cases c3 with
                | true =>
                  have hBD := hBC.row #[.int .i64 ((k : Int) + 1), .int .i64 s]
                  have heD := heC.setRow (g := cb) (by omega) #[.int .i64 ((k : Int) + 1), .int .i64 s]
                  have hMD := hMC.rowFar (g' := cb) (by omega) #[.int .i64 ((k : Int) + 1), .int .i64 s]
                  have hRD := hRC.rowFar (g' := cb) (by omega) #[.int .i64 ((k : Int) + 1), .int .i64 s]
                  have HBC := Lib.hid hBC; clear hBC
                  go_wp2_with (refine wpList_store_row rfl 96 _ _ rfl cb #[.int .i64 ((k : Int) + 1), .int .i64 s] rfl rfl 96 _ HBC.out (by kernel_rfl) rfl (by simp only [List.all_toArray, List.all_cons, List.all_nil]; rfl) ?_)
                  go_roundw
                  case rel =>
                    refine ⟨s + 1, s, by omega, by omega, by go_num, by omega, by unfold Hid; rw [Nat.add_sub_cancel, hst.out, if_pos ⟨hc1, .inr rfl⟩], heD, hMD, hRD, ?_⟩
                    rw [if_neg (by omega)]
                    exact hBD
                  case measure => simp [intOf]; omega
                | false =>
                  go_wp2_with fail
                  go_roundw
                  case rel => exact ⟨s + 1, z, by omega, by omega, by go_num, hz, by unfold Hid; rw [Nat.add_sub_cancel, hst.out, if_neg]; rintro ⟨_, g | g⟩; exact Hz0.out g; exact absurd g (by simp), heC, hMC, hRC, by rw [if_neg Hz0.out]; exact hBC⟩
                  case measure => simp [intOf]; omega
          · have hd1 : decide (0 < ov) = false := by simpa using hc1
            refine wp_region_apart 20 (by kernel_rfl) (by kernel_rfl) (fun W' => Ext wr W') (crA (.agg #[.slice A1 m.laced.length c1, .int .i64 m.change, .slice A2 m.orders.length c2]) s k cb z wr.heap.size ov c3) (fun _ _ _ _ => True) (Ext.drew _) ?_ ?_
            · simp only [List.take, AllOps2, fill, Act.put, List.setIfInBounds_toArray, List.set_cons_zero, List.set_cons_succ, Nat.reduceAdd, Deps, DepsL, List.filter_cons, List.filter_nil, Region.binds, if_true, and_true]
              refine ⟨?_, ?_, ?_, ?_, ?_, ?_, ?_, ?_, ?_, ?_, ?_, ?_, ?_, ?_, ?_, ?_, ?_, ?_, ?_, ?_⟩
              all_goals
                intro Ld x W' hG hnl hLR hAp hdl hd K Q hK
              case refine_3 =>
                simp only [crA] at hd
                simp only [hd] at hK ⊢
                have HK := Lib.hid hK; clear hK
                have HL := Lib.hid hLR; clear hLR hAp hdl
                go_wp2_with fail
                refine (list_any s (by omega) W').mono ?_
                rintro e w' ⟨rv, rfl, hrv, he'⟩
                go_wp2
                exact HK.out _ _ (hrv.mono hG.size) (hG.trans he') (fun j hj => ⟨crA.ext he' j _ (HL.out j hj), .inl trivial⟩)
              case refine_5 =>
                have hx0 : x 0 = _ := hd.1
                have hx2 : OwnI W' wr.heap.size 3 (x 2) (ints (bits 8 s)) := hd.2.1
                have hx3 : x 3 = _ := hd.2.2.1
                obtain ⟨AF, cF, e2, f1, f2, f3, _⟩ := hx2.open_
                have hil : (ints (bits 8 s)).length ≤ 8 := by unfold ints; have := bits_length_le 8 s; rw [List.length_map]; omega
                simp only [hx0, e2, hx3] at hK ⊢
                have HK := Lib.hid hK; clear hK
                have HL := Lib.hid hLR; clear hLR hAp hdl hd e2 hx0 hx2 hx3
                have hcc := over_any _ m Hch.out AF cF (ints (bits 8 s)) hil ((k : Int) + 1) (by omega) W' (Hv.out.ext (he.trans hG)) f3
                rw [Hov.out] at hcc
                have Hcc := Lib.hid hcc; clear hcc f3
                generalize ints (bits 8 s) = ls at *
                go_wp2_with fail
                refine Hcc.out.mono ?_
                rintro e w' ⟨rfl, he'⟩
                go_wp2
                exact HK.out _ _ rfl (hG.trans he') (fun j hj => ⟨crA.ext he' j _ (HL.out j hj), .inl trivial⟩)
              all_goals
                try (simp only [crA] at hd; simp only [hd] at hK ⊢)
                have HK := Lib.hid hK; clear hK
                have HL := Lib.hid hLR; clear hLR hAp hdl
                obtain ⟨r0, r1, r2⟩ := (hMr.ext hG).c3
                obtain ⟨t0, t1⟩ := (hBr.ext hG).c2
                go_wp2_with fail
                first
                  | exact HK.out _ _ rfl hG (fun j hj => ⟨HL.out j hj, .inl trivial⟩)
                  | exact HK.out _ _ (by simp [crA, *]) hG (fun j hj => ⟨HL.out j hj, .inl trivial⟩)
            · intro x W3 hG _ hR
              simp only [AllR, crA, true_and] at hR
              obtain ⟨hrest, r19⟩ := hR
              clear hrest
              simp only [List.take, List.drop, fill, Act.put, List.setIfInBounds_toArray, List.set_cons_zero, List.set_cons_succ, Nat.reduceAdd, r19]
              clear r19
              have heC := he.trans hG
              have hMC := hMr.ext hG
              have hRC := hRr.ext hG
              have hBC := hBr.ext hG
              go_wp2_with fail
              go_roundw
              case rel => exact ⟨s + 1, z, by omega, by omega, by go_num, hz, by unfold Hid; rw [Nat.add_sub_cancel, hst.out, if_neg (fun g => hc1 g.1)], heC, hMC, hRC, by rw [Hyy.out]; exact hBC⟩
              case measure => simp [intOf]; omega
--END
        · have hse : s = N := by omega
          subst hse
          have hpost : Hid (crBy m (s - 1) (k + 1) = (if z = 0 then 0 else k + 1, z)) := by
            unfold Hid
            rw [crBy, hcr.out, if_pos rfl, hin.out]
            by_cases g : z = 0
            · rw [if_pos g, if_pos g, g]
            · rw [if_neg g, if_neg g]
          have hP1 := HP1.out
          obtain ⟨P, hP⟩ : ∃ P : Int, (s : Int) = P := ⟨_, rfl⟩
          rw [hP] at hP1
          have hPb : 2 ≤ P ∧ P ≤ 8 := by omega
          obtain ⟨yy, hyy⟩ : ∃ yy : Nat, (if z = 0 then 0 else k + 1 : Nat) = yy := ⟨_, rfl⟩
          rw [hyy] at hBr
          simp only [hyy] at hpost
          have hyb : (yy = 0 ∧ z = 0) ∨ (1 ≤ yy ∧ 1 ≤ z) := by
            rw [← hyy]
            by_cases g : z = 0
            · rw [if_pos g]; exact .inl ⟨rfl, g⟩
            · rw [if_neg g]; exact .inr ⟨by omega, by omega⟩
          have hyb2 : yy ≤ 99 := by rw [← hyy]; split <;> omega
          have Hyy := Lib.hid hyy; clear hyy
          go_wp2_with fail
          go_roundw
          case rel => exact ⟨k + 1, yy, z, by omega, by go_num, hyb, hyb2, hz, hpost, he, hMr, hRr, hBr⟩
          case measure => simp [intOf]; omega
    · by_cases hy0 : y = 0
      · have hz0 : z = 0 := by omega
        have hk99 : k = 99 := by omega
        subst hy0; subst hz0; subst hk99
        have hy00 : y0 = 0 ∧ z0 = 0 := by
          have h1 := HR0 ()
          rw [hcr.out] at h1
          simp only [Prod.mk.injEq] at h1
          omega
        obtain ⟨hy1, hz1⟩ := hy00
        subst hy1; subst hz1
        have HcrU : Unit → crBy m (N - 1) 99 = (0, 0) := fun _ => hcr.out
        clear hcr HR0 hyz hend HcrU
        have heF := he.setRow (g := w.heap.size + 1) (by omega) #[.slice none 0 0, .int .i64 0]
        have hbF := hRr.row #[.slice none 0 0, .int .i64 0]
        have v0 := hbF.c2.1
        have v1 := hbF.c2.2
        go_wp2_with (refine wpList_store_row rfl 31 _ _ rfl _ #[.slice none 0 0, .int .i64 0] rfl rfl 31 _ hRr (by kernel_rfl) rfl (by simp only [List.all_toArray, List.all_cons, List.all_nil]; rfl) ?_)
        refine bodyPost_ret (v := .tuple #[.agg #[.slice none 0 0, .int .i64 0], .int .i64 6]) ?_ rfl ⟨.slice none 0 0, rfl, SlI.nil _, heF⟩
        simp [results, Tryz.results11, go_sem, v0, v1]
      · have hz1 : 1 ≤ z := by omega
        have e1 : ((y : Int) == 0) = false := by simp; omega
        have e2 : ((z : Int) == 0) = false := by simp; omega
        have hyz0 : Hid (y0 = y ∧ z0 = z) := by
          have h1 := HR0 ()
          have h2 := crBy_stop m (N - 1) k (by rw [hcr.out]; intro h; simp at h; omega) (99 - k)
          rw [show k + (99 - k) = 99 by omega, h1, hcr.out] at h2
          unfold Hid
          simpa using h2
        obtain ⟨rfl, rfl⟩ := hyz0.out
        clear hcr HR0 hyz hend hyz0
        by_cases hk99 : k < 99
        · go_wp2_with fail
          refine wp_region_apart 6 (by kernel_rfl) (by kernel_rfl) (fun W' => Ext wr W') (crD y0 z0 cb wr.heap.size) (fun _ _ _ _ => True) (Ext.drew _) ?_ ?_
          · simp only [List.take, AllOps2, fill, Act.put, List.setIfInBounds_toArray, List.set_cons_zero, List.set_cons_succ, Nat.reduceAdd, Deps, DepsL, List.filter_cons, List.filter_nil, Region.binds, if_true, and_true]
            refine ⟨?_, ?_, ?_, ?_, ?_, ?_⟩
            all_goals
              intro Ld x W' hG hnl hLR hAp hdl hd K Q hK
            case refine_3 =>
              simp only [crD] at hd
              simp only [hd] at hK ⊢
              have HK := Lib.hid hK; clear hK
              have HL := Lib.hid hLR; clear hLR hAp hdl
              go_wp2_with fail
              refine (list_any z0 (by omega) W').mono ?_
              rintro e w' ⟨rv, rfl, hrv, he'⟩
              go_wp2
              exact HK.out _ _ (hrv.mono hG.size) (hG.trans he') (fun j hj => ⟨crD.ext he' j _ (HL.out j hj), .inl trivial⟩)
            case refine_6 =>
              have hx2 : OwnI W' wr.heap.size 3 (x 2) (ints (bits 8 z0)) := hd.1
              have hx4 : x 4 = _ := hd.2
              obtain ⟨AF, cF, e2, _⟩ := hx2.open_
              have HX2 := Lib.hid hx2
              rw [e2] at HX2
              simp only [e2, hx4] at hK ⊢
              have HK := Lib.hid hK; clear hK
              have HL := Lib.hid hLR; clear hLR hAp hdl hd e2 hx4 hx2
              go_wp2_with fail
              exact HK.out _ _ ⟨_, rfl, HX2.out⟩ hG (fun j hj => ⟨HL.out j hj, .inl trivial⟩)
            all_goals
              try (simp only [crD] at hd; simp only [hd] at hK ⊢)
              have HK := Lib.hid hK; clear hK
              have HL := Lib.hid hLR; clear hLR hAp hdl
              obtain ⟨t0, t1⟩ := (hBr.ext hG).c2
              go_wp2_with fail
              exact HK.out _ _ rfl hG (fun j hj => ⟨HL.out j hj, .inl trivial⟩)
          · intro x W3 hG _ hR
            simp only [AllR, crD, true_and] at hR
            obtain ⟨hrest, rv, r5, hrv⟩ := hR
            clear hrest
            obtain ⟨AF, cF, rfl, f1, f2, f3, _⟩ := hrv.open_
            simp only [List.take, List.drop, fill, Act.put, List.setIfInBounds_toArray, List.set_cons_zero, List.set_cons_succ, Nat.reduceAdd, r5]
            clear r5
            have heC := he.trans hG
            have hRC := hRr.ext hG
            have heF := heC.setRow (g := w.heap.size + 1) (by omega) #[.slice AF (ints (bits 8 z0)).length cF, .int .i64 y0]
            have hbF := hRC.row #[.slice AF (ints (bits 8 z0)).length cF, .int .i64 y0]
            have hsF : SlI (W3.setRow (w.heap.size + 1) #[.slice AF (ints (bits 8 z0)).length cF, .int .i64 y0]) (.slice AF (ints (bits 8 z0)).length cF) (ints (bits 8 z0)) :=
              (hrv.apart (b := w.heap.size + 1) (fun e => hrv.ne_blk hRC (by decide) e.symm) (show Apart (w.heap.size + 1) W3 (W3.setRow (w.heap.size + 1) #[.slice AF (ints (bits 8 z0)).length cF, .int .i64 y0]) from ⟨rfl, rfl, rfl, by simp [World.setRow], fun j _ hne => setRow_other W3 _ j _ hne⟩)).sl
            have v0 := hbF.c2.1
            have v1 := hbF.c2.2
            have HSF := Lib.hid hsF; clear hsF f3 hrv
            have hy0 : y0 ≠ 0 := by omega
            refine wpList_store_row rfl 31 _ _ rfl _ #[.slice AF (ints (bits 8 z0)).length cF, .int .i64 y0] rfl rfl 31 _ hRC (by kernel_rfl) rfl (by simp only [List.all_toArray, List.all_cons, List.all_nil]; rfl) ?_
            generalize W3.setRow _ _ = W4 at *
            go_wp2_with fail
            refine bodyPost_ret (v := .tuple #[.agg #[.slice AF (ints (bits 8 z0)).length cF, .int .i64 y0], .int .i64 0]) ?_ rfl ⟨_, rfl, HSF.out, heF⟩
            simp [results, Tryz.results11, go_sem, v0, v1]
        · have hkd : decide ((k : Int) + 1 ≤ 99) = false := by simp; omega
          go_wp2_with fail
          refine wp_region_apart 6 (by kernel_rfl) (by kernel_rfl) (fun W' => Ext wr W') (crD y0 z0 cb wr.heap.size) (fun _ _ _ _ => True) (Ext.drew _) ?_ ?_
          · simp only [List.take, AllOps2, fill, Act.put, List.setIfInBounds_toArray, List.set_cons_zero, List.set_cons_succ, Nat.reduceAdd, Deps, DepsL, List.filter_cons, List.filter_nil, Region.binds, if_true, and_true]
            refine ⟨?_, ?_, ?_, ?_, ?_, ?_⟩
            all_goals
              intro Ld x W' hG hnl hLR hAp hdl hd K Q hK
            case refine_3 =>
              simp only [crD] at hd
              simp only [hd] at hK ⊢
              have HK := Lib.hid hK; clear hK
              have HL := Lib.hid hLR; clear hLR hAp hdl
              go_wp2_with fail
              refine (list_any z0 (by omega) W').mono ?_
              rintro e w' ⟨rv, rfl, hrv, he'⟩
              go_wp2
              exact HK.out _ _ (hrv.mono hG.size) (hG.trans he') (fun j hj => ⟨crD.ext he' j _ (HL.out j hj), .inl trivial⟩)
            case refine_6 =>
              have hx2 : OwnI W' wr.heap.size 3 (x 2) (ints (bits 8 z0)) := hd.1
              have hx4 : x 4 = _ := hd.2
              obtain ⟨AF, cF, e2, _⟩ := hx2.open_
              have HX2 := Lib.hid hx2
              rw [e2] at HX2
              simp only [e2, hx4] at hK ⊢
              have HK := Lib.hid hK; clear hK
              have HL := Lib.hid hLR; clear hLR hAp hdl hd e2 hx4 hx2
              go_wp2_with fail
              exact HK.out _ _ ⟨_, rfl, HX2.out⟩ hG (fun j hj => ⟨HL.out j hj, .inl trivial⟩)
            all_goals
              try (simp only [crD] at hd; simp only [hd] at hK ⊢)
              have HK := Lib.hid hK; clear hK
              have HL := Lib.hid hLR; clear hLR hAp hdl
              obtain ⟨t0, t1⟩ := (hBr.ext hG).c2
              go_wp2_with fail
              exact HK.out _ _ rfl hG (fun j hj => ⟨HL.out j hj, .inl trivial⟩)
          · intro x W3 hG _ hR
            simp only [AllR, crD, true_and] at hR
            obtain ⟨hrest, rv, r5, hrv⟩ := hR
            clear hrest
            obtain ⟨AF, cF, rfl, f1, f2, f3, _⟩ := hrv.open_
            simp only [List.take, List.drop, fill, Act.put, List.setIfInBounds_toArray, List.set_cons_zero, List.set_cons_succ, Nat.reduceAdd, r5]
            clear r5
            have heC := he.trans hG
            have hRC := hRr.ext hG
            have heF := heC.setRow (g := w.heap.size + 1) (by omega) #[.slice AF (ints (bits 8 z0)).length cF, .int .i64 y0]
            have hbF := hRC.row #[.slice AF (ints (bits 8 z0)).length cF, .int .i64 y0]
            have hsF : SlI (W3.setRow (w.heap.size + 1) #[.slice AF (ints (bits 8 z0)).length cF, .int .i64 y0]) (.slice AF (ints (bits 8 z0)).length cF) (ints (bits 8 z0)) :=
              (hrv.apart (b := w.heap.size + 1) (fun e => hrv.ne_blk hRC (by decide) e.symm) (show Apart (w.heap.size + 1) W3 (W3.setRow (w.heap.size + 1) #[.slice AF (ints (bits 8 z0)).length cF, .int .i64 y0]) from ⟨rfl, rfl, rfl, by simp [World.setRow], fun j _ hne => setRow_other W3 _ j _ hne⟩)).sl
            have v0 := hbF.c2.1
            have v1 := hbF.c2.2
            have HSF := Lib.hid hsF; clear hsF f3 hrv
            have hy0 : y0 ≠ 0 := by omega
            refine wpList_store_row rfl 31 _ _ rfl _ #[.slice AF (ints (bits 8 z0)).length cF, .int .i64 y0] rfl rfl 31 _ hRC (by kernel_rfl) rfl (by simp only [List.all_toArray, List.all_cons, List.all_nil]; rfl) ?_
            generalize W3.setRow _ _ = W4 at *
            go_wp2_with fail
            refine bodyPost_ret (v := .tuple #[.agg #[.slice AF (ints (bits 8 z0)).length cF, .int .i64 y0], .int .i64 0]) ?_ rfl ⟨_, rfl, HSF.out, heF⟩
            simp [results, Tryz.results11, go_sem, v0, v1]
end Go.Proofs.Pet
