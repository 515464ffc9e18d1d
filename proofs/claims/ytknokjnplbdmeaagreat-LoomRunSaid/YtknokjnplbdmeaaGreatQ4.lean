import Derived.Test.YtknokjnplbdmeaaGreatQ3
namespace Go.Proofs.Pet
open Go Go.RowKit Go.Maps Go.Shelf

/-- the errors of looms and a day -/
def crowdC (m : Mill) (looms : List Int) (b : Int) : Int :=
  if (looms.all fun k => inB k 0 (m.laced.length - 1)) = false then 1 else if looms.length = 0 ∨ risingB looms = false then 4 else if inB b 1 99 = false then 3 else 0
/-- what Over answers -/
def overE (m : Mill) (looms : List Int) (b : Int) : Int × Int :=
  if checkE m ≠ 0 then (0, checkE m) else if crowdC m looms b ≠ 0 then (0, crowdC m looms b) else if overF m looms b m.orders.length < 1 then (0, 6) else (overF m looms b m.orders.length, 0)
set_option maxRecDepth 20000 in
theorem overTop_any (v : Value) (m : Mill) (A : Option Addr) (c : Nat) (looms : List Int) (hl : looms.length ≤ 8) (b : Int) (r k : Int) (hr : overE m looms b = (r, k)) (w : World) (hv : MillVal w v m) (hx : IntsAt w A looms) :
    Calls Tryz.prog 131 #[v, .agg #[.slice A looms.length c, .int .i64 b]] w fun e w' => e = .returned (.tuple #[.int .i64 r, .int .i64 k]) ∧ Ext w w' := by
  have hmf : ∀ (fn : Fn) (first cap : Array Value) (w : World), (Instr.makeFunc fn first cap).run Tryz.prog w = .ok (.func fn first cap) w := fun _ _ _ _ => rfl
  have Hv := Lib.hid hv
  obtain ⟨A1, c1, A2, c2, rfl, h2, h3, h4, h5, h6, h7⟩ := hv
  have hE : Ext w ((w.alloc (.cells #[.slice A1 m.laced.length c1, .int .i64 m.change, .slice A2 m.orders.length c2] 25)).alloc (.cells #[.slice A looms.length c, .int .i64 b] 53)) := (Ext.alloc _ _).trans (Ext.alloc _ _)
  have hM := (Blk.new w 25 #[.slice A1 m.laced.length c1, .int .i64 m.change, .slice A2 m.orders.length c2]).alloc (.cells #[.slice A looms.length c, .int .i64 b] 53)
  have hC := Blk.new (w.alloc (.cells #[.slice A1 m.laced.length c1, .int .i64 m.change, .slice A2 m.orders.length c2] 25)) 53 #[.slice A looms.length c, .int .i64 b]
  rw [World.size_alloc] at hC
  have Hx := Lib.hid hx
  have Hr := Lib.hid hr
  clear hx hr h2 h3 h4 h5 h6 h7
  have hck := check_any _ m _ (Hv.out.ext hE)
  obtain ⟨e0, he0⟩ : ∃ e0, checkE m = e0 := ⟨_, rfl⟩
  rw [he0] at hck
  have Hck := Lib.hid hck; clear hck
  have He0 := Lib.hid he0; clear he0
  obtain ⟨k0, k1, k2⟩ := hM.c3
  go_enter Tryz.func131, Tryz.ntmps131
  go_wp2_with fail
  refine Hck.out.mono ?_
  rintro e w1 ⟨rfl, he1⟩
  have hE1 := hE.trans he1
  have hM1 := hM.ext he1
  have hC1 := hC.ext he1
  clear hE hM hC he1 Hck k0 k1 k2
  by_cases h0 : e0 = 0
  · subst h0
    have hev := everyI 90 #[.agg #[.slice A1 m.laced.length c1, .int .i64 m.change, .slice A2 m.orders.length c2]] #[] (enters_of Tryz.func90 (by kernel_rfl) rfl) (fun k => inB k 0 (m.laced.length - 1)) A c looms w1 (by unfold maxLen; omega) (Hx.out.ext hE1) (fun x _ => by
      intro W u hW hu
      obtain rfl : u = .int .i64 x := hu
      exact loom_any _ m x _ rfl W (Hv.out.ext (hE1.trans hW)))
    obtain ⟨qa, hqa⟩ : ∃ qa, (looms.all fun k => inB k 0 (m.laced.length - 1)) = qa := ⟨_, rfl⟩
    rw [hqa] at hev
    have Hev := Lib.hid hev; clear hev
    have Hqa := Lib.hid hqa; clear hqa
    obtain ⟨k0, k1, k2⟩ := hM1.c3
    obtain ⟨g0, g1⟩ := hC1.c2
    go_wp2_with fail
    refine Hev.out.mono ?_
    rintro e w2 ⟨rfl, he2⟩
    have hE2 := hE1.trans he2
    have hM2 := hM1.ext he2
    have hC2 := hC1.ext he2
    clear hE1 hM1 hC1 he2 Hev k0 k1 k2 g0 g1
    obtain ⟨k0, k1, k2⟩ := hM2.c3
    obtain ⟨g0, g1⟩ := hC2.c2
    cases qa with
    | false =>
      have hR : Hid ((0, 1) = (r, k)) := by unfold Hid; rw [← Hr.out]; unfold overE crowdC; rw [if_neg (by rw [He0.out]; simp), Hqa.out]; rfl
      go_wp2_with fail
      go_ret2
      have := hR.out
      simp only [Prod.mk.injEq] at this
      exact ⟨by rw [← this.1, ← this.2]; rfl, hE2⟩
    | true =>
      by_cases hn0 : looms.length = 0
      · have hR : Hid ((0, 4) = (r, k)) := by unfold Hid; rw [← Hr.out]; unfold overE crowdC; rw [if_neg (by rw [He0.out]; simp), Hqa.out]; simp [hn0]
        have hdn : ((looms.length : Int) == 0) = true := by simp [hn0]
        have HN := Lib.hid hn0; clear hn0
        go_wp2_with fail
        go_ret2
        have := hR.out
        simp only [Prod.mk.injEq] at this
        exact ⟨by rw [← this.1, ← this.2]; rfl, hE2⟩
      · have hdn : ((looms.length : Int) == 0) = false := by simpa using hn0
        obtain ⟨qr, hqr⟩ : ∃ qr, risingB looms = qr := ⟨_, rfl⟩
        have hri := Lib.hid (rising_any A c looms qr hqr w2 (by unfold maxLen; omega) (Hx.out.ext hE2))
        have Hqr := Lib.hid hqr; clear hqr
        go_wp2_with fail
        refine hri.out.mono ?_
        rintro e w3 ⟨rfl, he3⟩
        have hE3 := hE2.trans he3
        have hM3 := hM2.ext he3
        have hC3 := hC2.ext he3
        clear hE2 hM2 hC2 he3 hri k0 k1 k2 g0 g1
        obtain ⟨k0, k1, k2⟩ := hM3.c3
        obtain ⟨g0, g1⟩ := hC3.c2
        cases qr with
        | false =>
          have hR : Hid ((0, 4) = (r, k)) := by unfold Hid; rw [← Hr.out]; unfold overE crowdC; rw [if_neg (by rw [He0.out]; simp), Hqa.out, Hqr.out]; simp
          clear hn0
          go_wp2_with fail
          go_ret2
          have := hR.out
          simp only [Prod.mk.injEq] at this
          exact ⟨by rw [← this.1, ← this.2]; rfl, hE3⟩
        | true =>
          obtain ⟨qb, hqb⟩ : ∃ qb, inB b 1 99 = qb := ⟨_, rfl⟩
          have hin := Lib.hid (in_any b 1 99 qb hqb w3)
          have Hqb := Lib.hid hqb; clear hqb
          go_wp2_with fail
          refine hin.out.mono ?_
          rintro e w4 ⟨rfl, rfl⟩
          cases qb with
          | false =>
            have hR : Hid ((0, 3) = (r, k)) := by unfold Hid; rw [← Hr.out]; unfold overE crowdC; rw [if_neg (by rw [He0.out]; simp), Hqa.out, Hqr.out, Hqb.out]; simp [hn0]
            clear hn0
            go_wp2_with fail
            go_ret2
            have := hR.out
            simp only [Prod.mk.injEq] at this
            exact ⟨by rw [← this.1, ← this.2]; rfl, hE3⟩
          | true =>
            have hbb : 0 ≤ b ∧ b ≤ 99 := by have := Hqb.out; unfold inB at this; simp at this; omega
            have hR : Hid ((if overF m looms b m.orders.length < 1 then (0, 6) else (overF m looms b m.orders.length, 0)) = (r, k)) := by
              unfold Hid; rw [← Hr.out]; unfold overE
              rw [if_neg (show ¬ checkE m ≠ 0 by rw [He0.out]; simp), if_neg (show ¬ crowdC m looms b ≠ 0 by unfold crowdC; rw [Hqa.out, Hqr.out, Hqb.out]; simp [hn0])]
            have hov := Lib.hid (over_any _ m He0.out A c looms hl b hbb _ (Hv.out.ext hE3) (Hx.out.ext hE3))
            have hob := overF_bd He0.out looms b hbb hl m.orders.length (by omega)
            obtain ⟨ov, hov'⟩ : ∃ ov, overF m looms b m.orders.length = ov := ⟨_, rfl⟩
            rw [hov'] at hov hR hob
            clear hn0 hov'
            obtain ⟨l1, l2, l3⟩ := check_len He0.out
            go_wp2_with fail
            refine hov.out.mono ?_
            rintro e w5 ⟨rfl, he5⟩
            have hE5 := hE3.trans he5
            by_cases h1 : ov < 1
            · have hR2 : Hid ((0, 6) = (r, k)) := by have := hR.out; rw [if_pos h1] at this; exact this
              go_wp2_with fail
              go_ret2
              have := hR2.out
              simp only [Prod.mk.injEq] at this
              exact ⟨by rw [← this.1, ← this.2]; rfl, hE5⟩
            · have hR2 : Hid ((ov, 0) = (r, k)) := by have := hR.out; rw [if_neg h1] at this; exact this
              have hd1 : decide (ov < 1) = false := by simpa using h1
              go_wp2_with fail
              go_ret2
              have := hR2.out
              simp only [Prod.mk.injEq] at this
              exact ⟨by rw [← this.1, ← this.2]; rfl, hE5⟩
  · have hd : (e0 != 0) = true := by simpa using h0
    have hR : Hid ((0, e0) = (r, k)) := by unfold Hid; rw [← Hr.out]; unfold overE; rw [if_pos (by rw [He0.out]; exact h0), He0.out]
    clear h0
    go_wp2_with fail
    go_ret2
    have := hR.out
    simp only [Prod.mk.injEq] at this
    exact ⟨by rw [← this.1, ← this.2]; rfl, hE1⟩
set_option maxRecDepth 20000 in
theorem crowd_any (v : Value) (m : Mill) (A : Option Addr) (c : Nat) (looms : List Int) (hl : looms.length ≤ 8) (b : Int) (r : Int) (hr : crowdC m looms b = r) (w : World) (hv : MillVal w v m) (hx : IntsAt w A looms) (_hll : 1 ≤ m.laced.length ∧ m.laced.length ≤ 3) :
    Calls Tryz.prog 130 #[v, .agg #[.slice A looms.length c, .int .i64 b]] w fun e w' => e = .returned (.int .i64 r) ∧ Ext w w' := by
  have Hv := Lib.hid hv
  obtain ⟨A1, c1, A2, c2, rfl, h2, h3, h4, h5, h6, h7⟩ := hv
  have hE : Ext w ((w.alloc (.cells #[.slice A1 m.laced.length c1, .int .i64 m.change, .slice A2 m.orders.length c2] 35)).alloc (.cells #[.slice A looms.length c, .int .i64 b] 53)) := (Ext.alloc _ _).trans (Ext.alloc _ _)
  have hM := (Blk.new w 35 #[.slice A1 m.laced.length c1, .int .i64 m.change, .slice A2 m.orders.length c2]).alloc (.cells #[.slice A looms.length c, .int .i64 b] 53)
  have hC := Blk.new (w.alloc (.cells #[.slice A1 m.laced.length c1, .int .i64 m.change, .slice A2 m.orders.length c2] 35)) 53 #[.slice A looms.length c, .int .i64 b]
  rw [World.size_alloc] at hC
  have Hx := Lib.hid hx
  have Hr := Lib.hid hr
  clear hx hr h2 h3 h4 h5 h6 h7
  obtain ⟨k0, k1, k2⟩ := hM.c3
  obtain ⟨g0, g1⟩ := hC.c2
  go_enter Tryz.func130, Tryz.ntmps130
  go_wp2_with fail
  generalize (w.alloc _).alloc _ = w0 at *
  clear k0 k1 k2 g0 g1
  go_loopw [10] (fun iv wr => ∃ k : Nat, k ≤ looms.length ∧ iv = .int .i64 k ∧ wr = w0 ∧ Hid (∀ j, j < k → inB (looms[j]?.getD 0) 0 (m.laced.length - 1) = true)) (fun iv _ => looms.length - (intOf iv).toNat)
  case atStart => exact ⟨0, by omega, rfl, rfl, fun j hj => absurd hj (by omega)⟩
  case round =>
    obtain ⟨k, hk, rfl, rfl, hno⟩ := hrel
    obtain ⟨k0, k1, k2⟩ := hM.c3
    obtain ⟨g0, g1⟩ := hC.c2
    by_cases hlt : k < looms.length
    · obtain ⟨b3, o3, rfl, cc⟩ := Hx.out.ext hE k hlt
      have hin : Hid (∀ y, looms[k]?.getD 0 = y → inB y 0 (m.laced.length - 1) = (decide (0 ≤ y) && decide (y < (m.laced.length : Int)))) := by
        intro y _; unfold inB; congr 1; rw [Bool.eq_iff_iff]; simp; omega
      obtain ⟨y, hy⟩ : ∃ y, looms[k]?.getD 0 = y := ⟨_, rfl⟩
      have Hin := Lib.hid (hin.out y hy)
      rw [hy] at cc
      have Hy := Lib.hid hy; clear hy hin
      by_cases hy0 : y < 0
      · have hR : Hid (r = 1) := by
          unfold Hid; rw [← Hr.out]; unfold crowdC; rw [if_pos]
          refine all_false (x := y) ?_ ?_
          · rw [← Hy.out]; simp [hlt]
          · rw [Hin.out]; simp; omega
        go_wp2_with fail
        go_ret
        exact ⟨by rw [hR.out]; rfl, hE⟩
      · have hd0 : decide (y < 0) = false := by simpa using hy0
        by_cases hyl : (m.laced.length : Int) ≤ y
        · have hR : Hid (r = 1) := by
            unfold Hid; rw [← Hr.out]; unfold crowdC; rw [if_pos]
            refine all_false (x := y) ?_ ?_
            · rw [← Hy.out]; simp [hlt]
            · rw [Hin.out]; simp; omega
          clear hy0
          go_wp2_with fail
          go_ret
          exact ⟨by rw [hR.out]; rfl, hE⟩
        · have hdl : decide ((m.laced.length : Int) ≤ y) = false := by simpa using hyl
          have hq : Hid (inB y 0 (m.laced.length - 1) = true) := by unfold Hid; rw [Hin.out]; simp; omega
          clear hy0 hyl
          go_wp2_with fail
          go_roundw
          case rel =>
            refine ⟨k + 1, by omega, by go_num, trivial, fun j hj => ?_⟩
            by_cases e : j = k
            · subst e; rw [Hy.out]; exact hq.out
            · exact hno.out j (by omega)
          case measure => simp [intOf]; omega
    · obtain rfl : k = looms.length := by omega
      have Hall : Hid ((looms.all fun k => inB k 0 (m.laced.length - 1)) = true) := all_true_of hno.out
      clear hlt hno hk
      by_cases hn0 : looms.length = 0
      · have hR : Hid (r = 4) := by unfold Hid; rw [← Hr.out]; unfold crowdC; rw [Hall.out]; simp [hn0]
        have hdn : ((looms.length : Int) == 0) = true := by simp [hn0]
        have HN := Lib.hid hn0; clear hn0
        go_wp2_with fail
        go_ret
        exact ⟨by rw [hR.out]; rfl, hE⟩
      · have hdn : ((looms.length : Int) == 0) = false := by simpa using hn0
        obtain ⟨qr, hqr⟩ : ∃ qr, risingB looms = qr := ⟨_, rfl⟩
        have hri := Lib.hid (rising5_any A c looms qr hqr wr (by unfold maxLen; omega) (Hx.out.ext hE))
        have Hqr := Lib.hid hqr; clear hqr
        go_wp2_with fail
        refine hri.out.mono ?_
        rintro e w3 ⟨rfl, he3⟩
        have hE3 := hE.trans he3
        have hC3 := hC.ext he3
        clear hri k0 k1 k2 g0 g1
        obtain ⟨g0, g1⟩ := hC3.c2
        cases qr with
        | false =>
          have hR : Hid (r = 4) := by unfold Hid; rw [← Hr.out]; unfold crowdC; rw [Hall.out, Hqr.out]; simp
          clear hn0
          go_wp2_with fail
          go_ret
          exact ⟨by rw [hR.out]; rfl, hE3⟩
        | true =>
          have hC0 : Hid (crowdC m looms b = if inB b 1 99 = false then 3 else 0) := by unfold Hid crowdC; rw [Hall.out, Hqr.out]; simp [hn0]
          clear hn0
          by_cases hb1 : b < 1
          · have hR : Hid (r = 3) := by unfold Hid; rw [← Hr.out, hC0.out, if_pos]; unfold inB; simp; omega
            go_wp2_with fail
            go_ret
            exact ⟨by rw [hR.out]; rfl, hE3⟩
          · have hd1 : decide (b < 1) = false := by simpa using hb1
            by_cases hb9 : 99 < b
            · have hR : Hid (r = 3) := by unfold Hid; rw [← Hr.out, hC0.out, if_pos]; unfold inB; simp; omega
              clear hb1
              go_wp2_with fail
              go_ret
              exact ⟨by rw [hR.out]; rfl, hE3⟩
            · have hd9 : decide (99 < b) = false := by simpa using hb9
              have hR : Hid (r = 0) := by unfold Hid; rw [← Hr.out, hC0.out, if_neg]; unfold inB; simp; omega
              clear hb1 hb9
              go_wp2_with fail
              go_ret
              exact ⟨by rw [hR.out]; rfl, hE3⟩
theorem crowded_err (v : Value) (m : Mill) (r : Int) (hr : checkE m = r) (h0 : r ≠ 0) (w : World) (hv : MillVal w v m) :
    Calls Tryz.prog 26 #[v] w fun e w' => e = .returned (.tuple #[.agg #[.slice none 0 0, .int .i64 0], .int .i64 r]) ∧ Ext w w' := by
  have Hv := Lib.hid hv
  obtain ⟨A1, c1, A2, c2, rfl, h2, h3, h4, h5, h6, h7⟩ := hv
  have hE : Ext w ((w.alloc (.cells #[.slice A1 m.laced.length c1, .int .i64 m.change, .slice A2 m.orders.length c2] 25)).alloc (.cells #[.slice none 0 0, .int .i64 0] 53)) := (Ext.alloc _ _).trans (Ext.alloc _ _)
  have hM := (Blk.new w 25 #[.slice A1 m.laced.length c1, .int .i64 m.change, .slice A2 m.orders.length c2]).alloc (.cells #[.slice none 0 0, .int .i64 0] 53)
  have hR := Blk.new (w.alloc (.cells #[.slice A1 m.laced.length c1, .int .i64 m.change, .slice A2 m.orders.length c2] 25)) 53 #[.slice none 0 0, .int .i64 0]
  rw [World.size_alloc] at hR
  have hck := check_any _ m _ (Hv.out.ext hE)
  rw [hr] at hck
  have Hck := Lib.hid hck
  have hd : (r != 0) = true := by simpa using h0
  clear hck h2 h3 h4 h5 h6 h7 hr h0
  obtain ⟨k0, k1, k2⟩ := hM.c3
  go_enter Tryz.func26, Tryz.ntmps26
  go_wp2_with fail
  refine Hck.out.mono ?_
  rintro e w1 ⟨rfl, he1⟩
  have hR1 := hR.ext he1
  obtain ⟨j0, j1⟩ := hR1.c2
  have f0 := hR1.frozen 0
  have f1 := hR1.frozen 1
  have hE1 := hE.trans he1
  have HEF := Lib.hid (Below.setCell (Below.setCell hE1 (p := ⟨w.heap.size + 1, 0, none⟩) (by show _ ≤ w.heap.size + 1; omega) (.slice none 0 0)) (p := ⟨w.heap.size + 1, 1, none⟩) (by show _ ≤ w.heap.size + 1; omega) (.int .i64 0))
  have hRF := (hR1.set_ 0 (.slice none 0 0)).set_ 1 (.int .i64 0)
  have v0 := hRF.c2.1
  have v1 := hRF.c2.2
  clear hE hM hR he1 Hck k0 k1 k2 hE1
  go_wp2_with fail
  refine bodyPost_ret (v := .tuple #[.agg #[.slice none 0 0, .int .i64 0], .int .i64 r]) ?_ rfl ⟨rfl, HEF.out⟩
  simp [results, Tryz.results26, go_sem, v0, v1]
/-- what Crowded answers, whatever the mill -/
def crowE (m : Mill) : Nat × Nat := if checkE m = 0 then crBy m (2 ^ m.laced.length - 1) 99 else (0, 0)
theorem crowded_any (v : Value) (m : Mill) (r : Int) (hr : checkE m = r) (y z : Nat) (hyz : crowE m = (y, z)) (w : World) (hv : MillVal w v m) :
    Calls Tryz.prog 26 #[v] w fun e w' => ∃ rv : Value, e = .returned (.tuple #[.agg #[rv, .int .i64 (y : Int)], .int .i64 (if r = 0 then (if y = 0 then 6 else 0) else r)]) ∧ SlI w' rv (if y = 0 then [] else ints (bits 8 z)) ∧ Ext w w' := by
  by_cases h0 : r = 0
  · subst h0
    unfold crowE at hyz
    rw [if_pos hr] at hyz
    exact (crowded_ok v m hr _ rfl y z hyz w hv).mono fun e w' ⟨rv, h1, h2, h3⟩ => ⟨rv, by rw [if_pos rfl]; exact h1, h2, h3⟩
  · unfold crowE at hyz
    rw [if_neg (by rw [hr]; exact h0)] at hyz
    simp only [Prod.mk.injEq] at hyz
    obtain ⟨rfl, rfl⟩ := hyz
    exact (crowded_err v m r hr h0 w hv).mono fun e w' ⟨h1, h3⟩ => ⟨_, by rw [if_neg h0]; exact h1, by rw [if_pos rfl]; exact ⟨none, 0, rfl, Nat.le_refl _, Nat.zero_le _, fun k hk => by cases hk⟩, h3⟩
end Go.Proofs.Pet
