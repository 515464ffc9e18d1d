/-
  LoomCrowd, walked.
-/
import Derived.Test.YtknokjnplbdmeaaO4
import Derived.Deep.DeepCutAuto
namespace Go.Proofs.Pet
open Go Go.RowKit Go.Maps Go.Shelf

set_option maxRecDepth 100000 in
set_option maxHeartbeats 4000000 in
theorem loomCrowd_any (v : Value) (which day : Int) (w : World) (hv : BytesIn w v) (_hwh : 0 ≤ which ∧ which < 256) (hda : 0 ≤ day ∧ day < 256) :
    Calls Try.prog 6 #[v, .int .u8 which, .int .u8 day] w fun e w' => e = .returned (.bool true) ∧ Ext w w' := by
  obtain ⟨ti, hi, hz0, hz1, hz2⟩ := info_parts info_int
  have hwo := Lib.hid (wound_any v w hv)
  have Hv := Lib.hid hv; clear hv
  go_enter Try.func6, Try.ntmps6
  go_wp2_with fail
  refine hwo.out.mono ?_
  rintro e w1 ⟨rfl, hs1, he1⟩
  clear hwo
  have hma := Lib.hid (madeS_any w.heap.size 0 (by omega) 3 7 (by omega) (by omega) w1 hs1)
  go_wp2_with fail
  refine hma.out.mono ?_
  rintro e w2 ⟨mv, m, rfl, hm, hok, hlm, hom, _, hap⟩
  have hE := Apart.ext_of he1 (Nat.le_refl _) hap
  have hch := (check_iff m).2 hok
  clear hma hs1 he1 hap hlm hom
  obtain ⟨l1, l2, l3⟩ := check_len hch
  have Hm := Lib.hid hm
  obtain ⟨A1, c1, A2, c2, rfl, q1, q2, q3, q4, _, _⟩ := hm
  have hM := Blk.new w2 25 #[.slice A1 m.laced.length c1, .int .i64 m.change, .slice A2 m.orders.length c2]
  have hX := Ext.alloc w2 (.cells #[.slice A1 m.laced.length c1, .int .i64 m.change, .slice A2 m.orders.length c2] 25)
  obtain ⟨y, z, hyz⟩ : ∃ y z, crowE m = (y, z) := ⟨_, _, rfl⟩
  have hcr := Lib.hid (crowded_any _ m 0 hch y z hyz _ (Hm.out.ext hX))
  have Hch := Lib.hid hch; have Hok := Lib.hid hok; have Hyz := Lib.hid hyz
  clear hch hok hyz
  obtain ⟨k0, k1, k2⟩ := hM.c3
  go_wp2_with fail
  obtain ⟨M, hMe⟩ : ∃ M, w2.heap.size = M := ⟨_, rfl⟩
  rw [hMe] at hM ⊢
  have hE := hE.trans hX
  have Hm := Lib.hid (Hm.out.ext hX)
  generalize w2.alloc _ = W2 at *
  clear hMe hX k0 k1 k2 q1 q2 q3 q4
  refine hcr.out.mono ?_
  rintro e w3 ⟨rv, rfl, hrv, he3⟩
  clear hcr
  replace hE := up he3 hE; replace Hm := up he3 Hm; replace hM := up he3 hM
  clear he3
  obtain ⟨Ac, cc, rfl, q1, q2, q3⟩ := hrv
  obtain ⟨ev, hev⟩ : ∃ ev : Int, (if y = 0 then (6 : Int) else 0) = ev := ⟨_, rfl⟩
  obtain ⟨cl, hcl⟩ : ∃ cl, (if y = 0 then [] else ints (bits 8 z)) = cl := ⟨_, rfl⟩
  simp only [if_true]
  rw [hev]
  rw [hcl] at q1 q3 ⊢
  have Hev := Lib.hid (show (y = 0 ∧ ev = 6) ∨ (y ≠ 0 ∧ ev = 0) by
    by_cases h : y = 0
    · rw [if_pos h] at hev; exact .inl ⟨h, hev.symm⟩
    · rw [if_neg h] at hev; exact .inr ⟨h, hev.symm⟩)
  have Hcl := Lib.hid hcl
  have Hq3 := Lib.hid q3
  clear hev hcl q3
  have hC := Blk.new w3 51 #[.slice Ac cl.length cc, .int .i64 (y : Int)]
  have hX := Ext.alloc w3 (.cells #[.slice Ac cl.length cc, .int .i64 (y : Int)] 51)
  replace hE := up hX hE; replace Hm := up hX Hm; replace hM := up hX hM; replace Hq3 := up hX Hq3
  obtain ⟨C, hCe⟩ : ∃ C, w3.heap.size = C := ⟨_, rfl⟩
  go_upto_region 3 with fail
  rw [hCe] at hC
  clear hCe hX
  generalize w3.alloc _ = W3 at *
  go_cut [33] (fun s33 wx => s33 = .bool false ∧ W3 = wx)
  case first =>
    rcases Hev.out with ⟨_, rfl⟩ | ⟨_, rfl⟩ <;> (go_wp2_with fail; go_meet; exact ⟨rfl, rfl⟩)
  case rest =>
    obtain ⟨rfl, rfl⟩ := hcut
    go_upto_if 35 with fail
    go_cut [] (fun wx => Ext W3 wx)
    case first =>
      rcases Hev.out with ⟨_, rfl⟩ | ⟨hy, rfl⟩
      · go_wp2_with fail
        go_meet
        exact Ext.refl _
      · have hcl : cl = ints (bits 8 z) := by rw [← Hcl.out, if_neg hy]
        subst hcl
        obtain ⟨g1, g2, g3, g4⟩ := crowE_some Hch.out Hyz.out hy
        obtain ⟨n0, hn0⟩ : ∃ n0, overF m (ints (bits 8 z)) y m.orders.length = n0 := ⟨_, rfl⟩
        have hoE := overE_any Hch.out g2.1 g2.2 (b := (y : Int)) (by omega)
        rw [hn0] at g3 hoE
        rw [if_neg (by omega)] at hoE
        have hlen : (ints (bits 8 z)).length ≤ 8 := by have := bits_length_le 8 z; simpa [ints] using this
        have hov := Lib.hid (overTop_any _ m Ac cc (ints (bits 8 z)) hlen y n0 0 hoE W3 Hm.out Hq3.out)
        have G4 := Lib.hid g4
        obtain ⟨k0, k1, k2⟩ := hM.c3
        obtain ⟨x0, x1⟩ := hC.c2
        have Hn0 := Lib.hid hn0
        clear g2 g4 hn0 hoE hlen
        go_wp2_with fail
        refine hov.out.mono ?_
        rintro e w5 ⟨rfl, he5⟩
        clear hov k0 k1 k2 x0 x1
        have hM5 := hM.ext he5
        have hpl := Lib.hid (plan_ok _ m Hch.out w5 (Hm.out.ext he5))
        obtain ⟨k0, k1, k2⟩ := hM5.c3
        go_wp2_with fail
        refine hpl.out.mono ?_
        rintro e w6 (⟨_, rfl, he6⟩ | ⟨rows, rv, hsome, _⟩)
        · have heX := he5.trans he6
          have hlv := Lib.hid (lover_any _ m Hch.out Ac cc (ints (bits 8 z)) (by have := bits_length_le 8 z; simpa [ints] using this) y (by omega) w6 (Hm.out.ext heX) (Hq3.out.ext heX))
          rw [Hn0.out] at hlv
          clear hpl k0 k1 k2
          obtain ⟨k0, k1, k2⟩ := (hM.ext heX).c3
          obtain ⟨x0, x1⟩ := (hC.ext heX).c2
          go_wp2_with fail
          refine hlv.out.mono ?_
          rintro e w7 ⟨rfl, he7⟩
          clear hlv k0 k1 k2 x0 x1
          go_wp2_with fail
          go_meet
          exact heX.trans he7
        · rw [G4.out] at hsome; cases hsome
    case rest =>
      replace hE := up hcut hE; replace Hm := up hcut Hm; replace hM := up hcut hM; replace hC := up hcut hC; replace Hq3 := up hcut Hq3
      obtain ⟨k0, k1, k2⟩ := hM.c3
      go_wp2_with fail
      go_loopw [14, 70] (fun lv iv wr => ∃ j s : Nat, j ≤ m.laced.length ∧ iv = .int .i64 j ∧ Hid (s < 2 ^ j) ∧ (j = m.laced.length → 1 ≤ s) ∧ Ext wc wr ∧ OwnI wr wc.heap.size 3 lv (ints (bits j s))) (fun _ iv _ => m.laced.length - (intOf iv).toNat)
      case atStart => exact ⟨0, 0, by omega, rfl, by unfold Hid; simp, by omega, Ext.refl _, OwnI.nil _ _ _⟩
      case round =>
        obtain ⟨j, s, hj, rfl, hs, hs1, he, hl⟩ := hrel
        by_cases hlt : j < m.laced.length
        · obtain ⟨A5, c5, rfl, r1, r2, r3, r4, r5⟩ := hl.open_
          have hX5 := Ext.alloc wr (.cells #[.int .i64 j] 3)
          have hlX := hl.ext hX5
          have hsrc := Src.one wr (.int .i64 j) 3
          have hlen := bits_length_le j s
          have hil : (ints (bits j s)).length = (bits j s).length := by simp [ints]
          have hz0' : s = 0 ∨ 1 ≤ (ints (bits j s)).length := by
            rcases Nat.eq_zero_or_pos (bits j s).length with h | h
            · exact .inl (bits_none hs.out h)
            · exact .inr (by omega)
          have hszw := he.size
          obtain ⟨k0, k1, k2⟩ := (hM.ext he).c3
          have Hl := Lib.hid hl
          rw [← hil] at hlen
          clear r3 r4 r5 hil hl
          have hszX := hX5.size
          have hApp : ∀ v' w12, w12.ownsRow wc.heap.size 3 1 v' ((ints (bits j s)).length + 1) ((ints (bits j s)).map (Value.int .i64) ++ [.int .i64 (j : Int)]) → (wr.alloc (.cells #[.int .i64 j] 3)).grownBy w12 (Value.slice A5 (ints (bits j s)).length c5).ownBlock →
              Ext wc w12 ∧ OwnI w12 wc.heap.size 3 v' (ints (bits (j + 1) (s + 2 ^ j))) ∧ s + 2 ^ j < 2 ^ (j + 1) := by
            intro v' w12 hown hg
            have e := bits_add hs.out
            refine ⟨Below.grown (he.trans hX5) hg (by have := hszX; omega) (fun g hg' => (Hl.out.own_lt g hg').1), ?_, by have := hs.out; rw [Nat.pow_succ]; omega⟩
            rw [e, ints_append]
            unfold OwnI; rw [List.length_append, List.map_append]; exact hown
          have HApp := Lib.hid hApp; clear hApp
          rcases hz0' with h0 | h0
          · subst h0
            have hnil : ints (bits j 0) = [] := by unfold bits; simp [ints]
            have Hl0 : Hid (OwnI wr wc.heap.size 3 (.slice A5 0 c5) (ints (bits j 0))) := by have := Hl.out; rw [hnil] at this; rw [hnil]; exact this
            simp only [hnil, List.length_nil, List.map_nil, List.nil_append] at HApp hlX hlen ⊢
            clear hnil
            go_wp2_with (at_builtin; refine wpList_app rfl _ _ 22 rfl wc.heap.size 3 ti (.int .i64 0) 1 8 Try.underlying22 hi hz0 hz1 hz2 rfl (by decide) (.slice A5 0 c5) 0 [] rfl hlX (some ⟨wr.heap.size, 0, none⟩) 1 1 [.int .i64 j] rfl rfl hsrc ?c2 ?c3 ?c4 ?c5 ?_; (case c2 => (intro u hu; rw [List.mem_singleton] at hu; subst hu; rfl)); (case c3 => (unfold maxLen; omega)); (case c4 => omega); (case c5 => (simp; omega)); intro v' w12 hown hg hblk; have hN := HApp.out v' w12 hown hg; have HN := Lib.hid hN; clear hN)
            all_goals go_roundw
            all_goals first
              | (case measure => simp [intOf]; omega)
              | (case rel => have h9 := HN.out; exact ⟨j + 1, 0 + 2 ^ j, by omega, by go_num, HN.out.2.2, fun _ => by have := Nat.two_pow_pos j; omega, HN.out.1, HN.out.2.1⟩)
              | (case rel => exact ⟨j + 1, 0, by omega, by go_num, by have := hs.out; unfold Hid; rw [Nat.pow_succ]; omega, fun h => by rename_i g; simp at g; omega, he, by rw [bits_same hs.out]; exact Hl0.out⟩)
          · have hne0 : (((ints (bits j s)).length : Int) == 0) = false := beq_eq_false_iff_ne.2 (by omega)
            have hs0 : 1 ≤ s := by
              rcases Nat.eq_zero_or_pos s with h | h
              · subst h; have : ints (bits j 0) = [] := by unfold bits; simp [ints]
                rw [this] at h0; simp at h0
              · exact h
            go_wp2_with (at_builtin; refine wpList_app rfl _ _ 22 rfl wc.heap.size 3 ti (.int .i64 0) 1 8 Try.underlying22 hi hz0 hz1 hz2 rfl (by decide) (.slice A5 (ints (bits j s)).length c5) (ints (bits j s)).length _ rfl hlX (some ⟨wr.heap.size, 0, none⟩) 1 1 [.int .i64 j] rfl rfl hsrc ?c2 ?c3 ?c4 ?c5 ?_; (case c2 => (intro u hu; rw [List.mem_singleton] at hu; subst hu; rfl)); (case c3 => (unfold maxLen; omega)); (case c4 => omega); (case c5 => (simp; omega)); intro v' w12 hown hg hblk; have hN := HApp.out v' w12 hown hg; have HN := Lib.hid hN; clear hN)
            all_goals go_roundw
            all_goals first
              | (case measure => simp [intOf]; omega)
              | (case rel => have h9 := HN.out; exact ⟨j + 1, s + 2 ^ j, by omega, by go_num, HN.out.2.2, fun _ => by have := Nat.two_pow_pos j; omega, HN.out.1, HN.out.2.1⟩)
              | (case rel => exact ⟨j + 1, s, by omega, by go_num, by have := hs.out; unfold Hid; rw [Nat.pow_succ]; omega, fun h => by omega, he, by rw [bits_same hs.out]; exact Hl.out⟩)
        · obtain rfl : j = m.laced.length := by omega
          have hs1 := hs1 rfl
          have hs := hs.out
          rw [← bits_eight l2 hs] at hl
          obtain ⟨A5, c5, rfl, r1, r2, r3, r4, r5⟩ := hl.open_
          clear r4 r5 hl
          obtain ⟨b, hb⟩ : ∃ b : Nat, 1 + day.toNat % 99 = b := ⟨_, rfl⟩
          have hbb : 1 ≤ b ∧ b ≤ 99 := by omega
          have hbd : day % 99 = (b : Int) - 1 := by omega
          have Hbd := Lib.hid hbd
          clear hbd hb
          have hoE := overE_any Hch.out hs1 hs (b := (b : Int)) (by omega)
          have hfst := fun ho => crowE_first Hch.out Hyz.out hs1 hs hbb ho
          have hlen : (ints (bits 8 s)).length ≤ 8 := by have := bits_length_le 8 s; simpa [ints] using this
          obtain ⟨n0, hn0⟩ : ∃ n0, overF m (ints (bits 8 s)) b m.orders.length = n0 := ⟨_, rfl⟩
          rw [hn0] at hoE
          simp only [hn0] at hfst
          obtain ⟨rr, kk, hrk⟩ : ∃ rr kk, overE m (ints (bits 8 s)) b = (rr, kk) := ⟨_, _, rfl⟩
          replace hE := up he hE; replace Hm := up he Hm; replace hM := up he hM; replace hC := up he hC; replace Hq3 := up he Hq3
          have hov := Lib.hid (overTop_any _ m A5 c5 (ints (bits 8 s)) hlen b rr kk hrk wr Hm.out r3)
          obtain ⟨k0, k1, k2⟩ := hM.c3
          have HoE := Lib.hid hoE; have Hrk := Lib.hid hrk; have Hn0 := Lib.hid hn0; have Hf := Lib.hid hfst; have Hr3 := Lib.hid r3
          clear hoE hrk hn0 hfst r3
          go_wp2_with fail
          rw [show 1 + day % 99 = (b : Int) from by have := Hbd.out; omega]
          by_cases hneg : n0 < 1
          · have hoE := HoE.out
            rw [if_pos hneg, Hrk.out] at hoE
            simp only [Prod.mk.injEq] at hoE
            obtain ⟨rfl, rfl⟩ := hoE
            refine hov.out.mono ?_
            rintro e w5 ⟨rfl, he5⟩
            clear hov k0 k1 k2
            replace hE := up he5 hE; replace Hm := up he5 Hm; replace hM := up he5 hM; replace hC := up he5 hC; replace Hq3 := up he5 Hq3; replace Hr3 := up he5 Hr3
            have hlv := Lib.hid (lover_any _ m Hch.out A5 c5 (ints (bits 8 s)) hlen b (by omega) w5 Hm.out Hr3.out)
            rw [Hn0.out] at hlv
            obtain ⟨k0, k1, k2⟩ := hM.c3
            go_wp2_with fail
            refine hlv.out.mono ?_
            rintro e w6 ⟨rfl, he6⟩
            clear hlv k0 k1 k2
            replace hE := up he6 hE; replace Hm := up he6 Hm; replace hM := up he6 hM; replace hC := up he6 hC; replace Hq3 := up he6 Hq3; replace Hr3 := up he6 Hr3
            go_wp2_with fail
            refine (awake_any w6).mono ?_
            rintro e w7 ⟨rfl, he7⟩
            go_wp2_with fail
            go_ret
            exact ⟨rfl, hE.trans he7⟩
          · have hoE := HoE.out
            rw [if_neg hneg, Hrk.out] at hoE
            simp only [Prod.mk.injEq] at hoE
            obtain ⟨rfl, rfl⟩ := hoE
            obtain ⟨f1, f2, f3⟩ := Hf.out (by omega)
            rcases Hev.out with ⟨h1, _⟩ | ⟨_, rfl⟩
            · exact absurd h1 f1
            have hcl : cl = ints (bits 8 z) := by rw [← Hcl.out, if_neg f1]
            subst hcl
            have F3 := Lib.hid f3
            have hnn : (1 : Int) ≤ rr := by omega
            clear f3 hneg
            refine hov.out.mono ?_
            rintro e w5 ⟨rfl, he5⟩
            clear hov k0 k1 k2
            replace hE := up he5 hE; replace Hm := up he5 Hm; replace hM := up he5 hM; replace hC := up he5 hC; replace Hq3 := up he5 Hq3; replace Hr3 := up he5 Hr3
            have hlv := Lib.hid (lover_any _ m Hch.out A5 c5 (ints (bits 8 s)) hlen b (by omega) w5 Hm.out Hr3.out)
            rw [Hn0.out] at hlv
            obtain ⟨k0, k1, k2⟩ := hM.c3
            go_wp2_with fail
            refine hlv.out.mono ?_
            rintro e w6 ⟨rfl, he6⟩
            clear hlv k0 k1 k2
            replace hE := up he6 hE; replace Hm := up he6 Hm; replace hM := up he6 hM; replace hC := up he6 hC; replace Hq3 := up he6 Hq3; replace Hr3 := up he6 Hr3
            obtain ⟨x0, x1⟩ := hC.c2
            by_cases hyb : y = b
            · subst hyb
              have hcm := Lib.hid (compare_any A5 Ac c5 cc (ints (bits 8 s)) (ints (bits 8 z)) false (F3.out rfl) w6 (by unfold maxLen; omega) Hr3.out Hq3.out)
              go_wp2_with fail
              refine hcm.out.mono ?_
              rintro e w7 ⟨cr, rfl, hcr, rfl⟩
              have hcr : 0 ≤ cr := by simpa using hcr
              clear hcm
              go_wp2_with fail
              refine (awake_any w6).mono ?_
              rintro e w7 ⟨rfl, he7⟩
              go_wp2_with fail
              go_ret
              exact ⟨rfl, hE.trans he7⟩
            · have hyb2 : y < b := by omega
              go_wp2_with fail
              refine (awake_any w6).mono ?_
              rintro e w7 ⟨rfl, he7⟩
              go_wp2_with fail
              go_ret
              exact ⟨rfl, hE.trans he7⟩
end Go.Proofs.Pet
