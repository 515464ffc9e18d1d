/-
  law7's great and same, Eq of shafts (partly printed by gen_pe7.py).
-/
import Derived.Test.YtjlglbhafopomaaGreatPE6
namespace Go.Proofs.Pet
open Go Go.RowKit Go.Maps Go.Shelf
open Go.Proofs.Pow (PM Sh Wv POk Up)

def greatP (m : PM) : Bool := (m.wvs.any fun o => decide (30 < o.hours.length)) || decide (14 < m.shafts.length) || decide (10 < m.wvs.length)
set_option maxHeartbeats 1000000 in
theorem great7_any (v : Value) (m : PM) (q : Bool) (hq : greatP m = q) (w : World) (hv : PMVal w v m) :
    Calls Tryz.prog 31 #[v] w fun e w' => e = .returned (.bool q) ∧ Ext w w' := by
  obtain ⟨A1, c1, A2, c2, rfl, h2, h3, h4, h5, h6, h7⟩ := hv
  unfold maxLen at h3 h5
  have Hq := Lib.hid hq; clear hq
  have hE1 := Ext.alloc w (.cells #[.slice A1 m.shafts.length c1, .slice A2 m.wvs.length c2] 26)
  have hM := Blk.new w 26 #[.slice A1 m.shafts.length c1, .slice A2 m.wvs.length c2]
  have H7 := Lib.hid h7
  obtain ⟨k0, k1⟩ := hM.c2
  clear h6 h7
  go_enter Tryz.func31, Tryz.ntmps31
  go_wp2_with fail
  clear k0 k1
  go_loopw [8] (fun i wr => ∃ k : Nat, k ≤ m.wvs.length ∧ i = .int .i64 k ∧ Hid (∀ j, j < k → ¬ 30 < (m.wv j).hours.length) ∧ Ext w wr ∧ Blk wr w.heap.size 26 #[.slice A1 m.shafts.length c1, .slice A2 m.wvs.length c2]) (fun i _ => m.wvs.length - (intOf i).toNat)
  case atStart => exact ⟨0, by omega, rfl, fun j hj => absurd hj (by omega), hE1, hM⟩
  case round =>
    clear hE1 hM
    obtain ⟨k, hk, rfl, hm, he, hM'⟩ := hrel
    by_cases hlt : k < m.wvs.length
    · obtain ⟨b, o, rfl, A, ca, hca, h1, h2', -⟩ := H7.out.ext he k hlt
      rw [show m.wvs[k]?.getD default = m.wv k from rfl] at h1 h2' hca
      have hmem := Lib.hid (wv_mem hlt)
      obtain ⟨hl, hhl⟩ : ∃ hl, (m.wv k).hours.length = hl := ⟨_, rfl⟩
      rw [hhl] at h2' hca
      have Hhl := Lib.hid hhl
      clear hhl
      unfold maxLen at hca
      generalize (m.wv k).shaft = sh at *
      by_cases h8 : 30 < hl
      · go_wp2
        go_ret
        refine ⟨?_, he.trans (Ext.alloc _ _)⟩
        have : greatP m = true := by
          unfold greatP
          rw [List.any_eq_true.2 ⟨m.wv k, hmem.out, by rw [Hhl.out]; simpa using h8⟩]; simp
        rw [← Hq.out, this]; rfl
      · have hd : decide (30 < (hl : Int)) = false := by simp; omega
        go_wp2
        go_roundw
        case rel =>
          refine ⟨k + 1, by omega, by go_num, fun j hj => ?_, he.trans (Ext.alloc _ _), hM'.alloc _⟩
          by_cases ej : j = k
          · subst ej; rw [Hhl.out]; exact h8
          · exact hm.out j (by omega)
        case measure => simp [intOf]; omega
    · have h0 : (m.wvs.any fun o => decide (30 < o.hours.length)) = false := by
        rw [List.any_eq_false]
        intro y hy hpy
        obtain ⟨j, hj, rfl⟩ := List.mem_iff_getElem.1 hy
        have := hm.out j (by omega)
        unfold PM.wv at this
        simp [hj] at this hpy
        omega
      have H0 := Lib.hid h0; clear h0
      obtain ⟨k0, k1⟩ := hM'.c2
      by_cases h8 : 14 < m.shafts.length
      · go_wp2
        go_ret
        refine ⟨?_, he⟩
        have : greatP m = true := by unfold greatP; simp [h8]
        rw [← Hq.out, this]; rfl
      · have hd : decide (14 < (m.shafts.length : Int)) = false := by simp; omega
        go_wp2
        go_ret
        refine ⟨?_, he⟩
        have : greatP m = decide (10 < m.wvs.length) := by unfold greatP; rw [H0.out]; simp [h8]
        rw [← Hq.out, this]
        simp
        omega

set_option maxHeartbeats 1000000 in
theorem equalShP (A B : Option Addr) (c d : Nat) (xs ys : List Sh) (q : Bool) (hq : decide (xs = ys) = q) (w : World) (hb : xs.length ≤ maxLen) (_hb2 : ys.length ≤ maxLen) (hx : ShsAt w A xs) (hy : ShsAt w B ys) :
    Calls Tryz.prog 169 #[.slice A xs.length c, .slice B ys.length d] w fun e w' => e = .returned (.bool q) ∧ Ext w w' := by
  unfold maxLen at hb
  have Hx := Lib.hid hx; have Hy := Lib.hid hy
  clear hx hy
  by_cases hlen : xs.length = ys.length
  · have Hq := Lib.hid hq; clear hq
    have Hlen := Lib.hid hlen
    have hne : ((xs.length : Int) != (ys.length : Int)) = false := by rw [hlen]; simp
    clear hlen
    go_enter Tryz.func169, Tryz.ntmps169
    go_wp2
    go_loopw [5, 13] (fun _ i wr => ∃ k : Nat, k ≤ xs.length ∧ i = .int .i64 k ∧ Hid (∀ j, j < k → xs[j]?.getD default = ys[j]?.getD default) ∧ Ext w wr) (fun _ i _ => xs.length - (intOf i).toNat)
    case atStart => exact ⟨0, by omega, rfl, fun j hj => absurd hj (by omega), Ext.refl _⟩
    case round =>
      obtain ⟨k, hk, rfl, hm, he⟩ := hrel
      by_cases hlt : k < xs.length
      · obtain ⟨b, o, rfl, h1, h2⟩ := Hx.out.ext he k hlt
        have hlt2 : k < ys.length := by have := Hlen.out; omega
        obtain ⟨b2, o2, rfl, h3, h4⟩ := Hy.out.ext he k hlt2
        generalize hga : xs[k]?.getD default = x at *
        generalize hgb : ys[k]?.getD default = y at *
        have Hga := Lib.hid hga; clear hga
        have Hgb := Lib.hid hgb; clear hgb
        obtain ⟨u1, p1⟩ := x
        obtain ⟨u2, p2⟩ := y
        by_cases hu : u1 = u2
        · by_cases hp : p1 = p2
          · subst hu
            subst hp
            have hd : (u1 != u1) = false := by simp
            have hd2 : (p1 != p1) = false := by simp
            go_wp2_with fail
            go_quiet (fail)
            go_wp2
            go_roundw
            case rel =>
              refine ⟨k + 1, by omega, by go_num, fun j hj => ?_, he.trans (Ext.drewN _ _)⟩
              by_cases ej : j = k
              · subst ej; rw [Hga.out, Hgb.out]
              · exact hm.out j (by omega)
            case measure => simp [intOf]; omega
          · subst hu
            have hd : (u1 == u1) = true := by simp
            have hd2 : (p1 == p2) = false := beq_eq_false_iff_ne.2 hp
            have Hxy := Lib.hid hp; clear hp
            go_wp2_with fail
            go_quiet (fail)
            go_wp2
            go_ret
            refine ⟨?_, he.trans (Ext.drewN _ _)⟩
            rw [← Hq.out, decide_eq_false (fun h => Hxy.out (by
              have := Hga.out
              rw [h, Hgb.out] at this
              injection this with a b; exact b.symm))]; rfl
        · have hd : (u1 == u2) = false := beq_eq_false_iff_ne.2 hu
          have Hxy := Lib.hid hu; clear hu
          go_wp2_with fail
          go_quiet (fail)
          go_wp2
          go_ret
          refine ⟨?_, he.trans (Ext.drewN _ _)⟩
          rw [← Hq.out, decide_eq_false (fun h => Hxy.out (by
            have := Hga.out
            rw [h, Hgb.out] at this
            injection this with a b; exact a.symm))]; rfl
      · go_wp2
        go_ret
        refine ⟨?_, he⟩
        have : xs = ys := List.ext_getElem Hlen.out fun j h1 h2 => by
          have := hm.out j (by omega)
          simpa [h1, h2] using this
        rw [← Hq.out, decide_eq_true this]; rfl
  · have hne : ((xs.length : Int) != (ys.length : Int)) = true := by simp; omega
    have : decide (xs = ys) = false := decide_eq_false (fun h => hlen (by rw [h]))
    rw [this] at hq
    subst hq
    clear hlen
    go_enter Tryz.func169, Tryz.ntmps169
    go_wp2
    go_ret
    exact ⟨rfl, Ext.refl _⟩
theorem eqShP (A B : Option Addr) (c d : Nat) (xs ys : List Sh) (q : Bool) (hq : decide (xs = ys) = q) (w : World) (hb : xs.length ≤ maxLen) (hb2 : ys.length ≤ maxLen) (hx : ShsAt w A xs) (hy : ShsAt w B ys) :
    Calls Tryz.prog 117 #[.slice A xs.length c, .slice B ys.length d] w fun e w' => e = .returned (.bool q) ∧ Ext w w' := by
  have H := Lib.hid (equalShP A B c d xs ys q hq w hb hb2 hx hy)
  clear hq hx hy
  go_enter Tryz.func117, Tryz.ntmps117
  go_wp2_with fail
  refine H.out.mono ?_
  rintro e w' ⟨rfl, he⟩
  go_wp2
  go_ret
  exact ⟨rfl, he⟩

end Go.Proofs.Pet
