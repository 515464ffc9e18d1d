/-
  The examples of power's chapter, walked: awake.
-/
import Derived.Test.YtjlglbhafopomaaGreatPBK
namespace Go.Proofs.Pet
open Go Go.RowKit Go.Maps Go.Shelf
open Go.Proofs.Pow (PM Sh Wv POk Up threeM)

set_option maxRecDepth 20000 in
set_option maxHeartbeats 2000000 in
theorem awake7_any (w : World) : Calls Tryz.prog 20 #[] w fun e w' => e = .returned (.bool true) ∧ Ext w w' := by
  go_enter Tryz.func20, Tryz.ntmps20
  go_wp2_with fail
  refine (three_any w).mono ?_
  rintro e w1 ⟨P1, Q1, rfl, hv1, hE1⟩
  have hc := Lib.hid (three_shares_any _ w1 hv1)
  clear hv1
  go_wp2_with fail
  refine hc.out.mono ?_
  rintro e w2 ⟨L1, d1, rfl, hL1, he2⟩
  have hE2 := hE1.trans he2
  have HL1 := Lib.hid hL1
  clear hc hE1 he2 hL1
  go_wp2_with fail
  refine (three_any w2).mono ?_
  rintro e w3 ⟨P1, Q1, rfl, hv1, he1⟩
  have HL1' := Lib.hid (HL1.out.ext he1)
  have hEa := hE2.trans he1
  have hX := Ext.alloc w3 (.cells #[.int .i64 2, .int .i64 1, .int .i64 0] 3)
  have hI : IntsAt (w3.alloc (.cells #[.int .i64 2, .int .i64 1, .int .i64 0] 3)) (some ⟨w3.heap.size, 0, none⟩) [2, 1, 0] := ints_blk (Blk.new w3 3 #[.int .i64 2, .int .i64 1, .int .i64 0]) rfl
  have hc := Lib.hid (three_adds_any _ _ _ (hv1.ext hX) hI)
  have hEb := hEa.trans hX
  have HL1'' := Lib.hid (HL1'.out.ext hX)
  clear hI hv1 hEa he1 HL1 HL1' hE2
  go_wp2_with fail
  refine hc.out.mono ?_
  rintro e w4 ⟨L2, d2, rfl, hLn, he2⟩
  have HL1 := Lib.hid (HL1''.out.ext he2)
  have HL2 := Lib.hid hLn
  have hE4 := hEb.trans he2
  clear hLn he2 hEb hc HL1'' hX
  go_wp2_with fail
  refine (three_any w4).mono ?_
  rintro e w5 ⟨P1, Q1, rfl, hv1, he1⟩
  have HL1' := Lib.hid (HL1.out.ext he1)
  have HL2' := Lib.hid (HL2.out.ext he1)
  have hEa := hE4.trans he1
  have hX := Ext.alloc w5 (.cells #[.int .i64 1300, .int .i64 380, .int .i64 300] 3)
  have hI : IntsAt (w5.alloc (.cells #[.int .i64 1300, .int .i64 380, .int .i64 300] 3)) (some ⟨w5.heap.size, 0, none⟩) [1300, 380, 300] := ints_blk (Blk.new w5 3 #[.int .i64 1300, .int .i64 380, .int .i64 300]) rfl
  have hc := Lib.hid (three_better_any _ _ _ (hv1.ext hX) hI)
  have hEb := hEa.trans hX
  have HL1'' := Lib.hid (HL1'.out.ext hX)
  have HL2'' := Lib.hid (HL2'.out.ext hX)
  clear hI hv1 hEa he1 HL1 HL1' HL2 HL2' hE4
  go_wp2_with fail
  refine hc.out.mono ?_
  rintro e w6 ⟨L3, d3, rfl, hLn, he2⟩
  have HL1 := Lib.hid (HL1''.out.ext he2)
  have HL2 := Lib.hid (HL2''.out.ext he2)
  have HL3 := Lib.hid hLn
  have hE6 := hEb.trans he2
  clear hLn he2 hEb hc HL1'' HL2'' hX
  go_wp2_with fail
  refine (three_any w6).mono ?_
  rintro e w7 ⟨P1, Q1, rfl, hv1, he1⟩
  have HL1' := Lib.hid (HL1.out.ext he1)
  have HL2' := Lib.hid (HL2.out.ext he1)
  have HL3' := Lib.hid (HL3.out.ext he1)
  have hEa := hE6.trans he1
  have hc := Lib.hid (three_cheap_any _ _ hv1)
  have hEb := hEa
  have HL1'' := HL1'
  have HL2'' := HL2'
  have HL3'' := HL3'
  clear hv1 hEa he1 HL1 HL1' HL2 HL2' HL3 HL3' hE6
  go_wp2_with fail
  refine hc.out.mono ?_
  rintro e w8 ⟨rfl, he2⟩
  have HL1 := Lib.hid (HL1''.out.ext he2)
  have HL2 := Lib.hid (HL2''.out.ext he2)
  have HL3 := Lib.hid (HL3''.out.ext he2)
  have hE8 := hEb.trans he2
  clear he2 hEb hc HL1'' HL2'' HL3''
  go_wp2_with fail
  refine (three_any w8).mono ?_
  rintro e w9 ⟨P1, Q1, rfl, hv1, he1⟩
  have HL1' := Lib.hid (HL1.out.ext he1)
  have HL2' := Lib.hid (HL2.out.ext he1)
  have HL3' := Lib.hid (HL3.out.ext he1)
  have hEa := hE8.trans he1
  have hX := Ext.alloc w9 (.cells #[.int .i64 2, .int .i64 2, .int .i64 1] 36)
  have hI : IntsAt (w9.alloc (.cells #[.int .i64 2, .int .i64 2, .int .i64 1] 36)) (some ⟨w9.heap.size, 0, none⟩) [2, 2, 1] := ints_blk (Blk.new w9 36 #[.int .i64 2, .int .i64 2, .int .i64 1]) rfl
  have hc := Lib.hid (three_sure_any _ _ _ (hv1.ext hX) hI)
  have hEb := hEa.trans hX
  have HL1'' := Lib.hid (HL1'.out.ext hX)
  have HL2'' := Lib.hid (HL2'.out.ext hX)
  have HL3'' := Lib.hid (HL3'.out.ext hX)
  clear hI hv1 hEa he1 HL1 HL1' HL2 HL2' HL3 HL3' hE8
  go_wp2_with fail
  refine hc.out.mono ?_
  rintro e w10 ⟨L4, d4, rfl, hLn, he2⟩
  have HL1 := Lib.hid (HL1''.out.ext he2)
  have HL2 := Lib.hid (HL2''.out.ext he2)
  have HL3 := Lib.hid (HL3''.out.ext he2)
  have HL4 := Lib.hid hLn
  have hE10 := hEb.trans he2
  clear hLn he2 hEb hc HL1'' HL2'' HL3'' hX
  go_wp2_with fail
  refine (three_any w10).mono ?_
  rintro e w11 ⟨P1, Q1, rfl, hv1, he1⟩
  have HL1' := Lib.hid (HL1.out.ext he1)
  have HL2' := Lib.hid (HL2.out.ext he1)
  have HL3' := Lib.hid (HL3.out.ext he1)
  have HL4' := Lib.hid (HL4.out.ext he1)
  have hEa := hE10.trans he1
  have hX := Ext.alloc w11 (.cells #[.int .i64 2, .int .i64 0, .int .i64 2] 36)
  have hI : IntsAt (w11.alloc (.cells #[.int .i64 2, .int .i64 0, .int .i64 2] 36)) (some ⟨w11.heap.size, 0, none⟩) [2, 0, 2] := ints_blk (Blk.new w11 36 #[.int .i64 2, .int .i64 0, .int .i64 2]) rfl
  have hc := Lib.hid (three_slipped_any _ _ _ (hv1.ext hX) hI)
  have hEb := hEa.trans hX
  have HL1'' := Lib.hid (HL1'.out.ext hX)
  have HL2'' := Lib.hid (HL2'.out.ext hX)
  have HL3'' := Lib.hid (HL3'.out.ext hX)
  have HL4'' := Lib.hid (HL4'.out.ext hX)
  clear hI hv1 hEa he1 HL1 HL1' HL2 HL2' HL3 HL3' HL4 HL4' hE10
  go_wp2_with fail
  refine hc.out.mono ?_
  rintro e w12 ⟨L5, d5, rfl, hLn, he2⟩
  have HL1 := Lib.hid (HL1''.out.ext he2)
  have HL2 := Lib.hid (HL2''.out.ext he2)
  have HL3 := Lib.hid (HL3''.out.ext he2)
  have HL4 := Lib.hid (HL4''.out.ext he2)
  have HL5 := Lib.hid hLn
  have hE12 := hEb.trans he2
  clear hLn he2 hEb hc HL1'' HL2'' HL3'' HL4'' hX
  go_wp2_with fail
  refine (three_any w12).mono ?_
  rintro e w13 ⟨P1, Q1, rfl, hv1, he1⟩
  have HL1' := Lib.hid (HL1.out.ext he1)
  have HL2' := Lib.hid (HL2.out.ext he1)
  have HL3' := Lib.hid (HL3.out.ext he1)
  have HL4' := Lib.hid (HL4.out.ext he1)
  have HL5' := Lib.hid (HL5.out.ext he1)
  have hEa := hE12.trans he1
  have hX := Ext.alloc w13 (.cells #[.int .i64 2, .int .i64 1, .int .i64 0] 36)
  have hI : IntsAt (w13.alloc (.cells #[.int .i64 2, .int .i64 1, .int .i64 0] 36)) (some ⟨w13.heap.size, 0, none⟩) [2, 1, 0] := ints_blk (Blk.new w13 36 #[.int .i64 2, .int .i64 1, .int .i64 0]) rfl
  have hc := Lib.hid (three_prove_any _ _ _ (hv1.ext hX) hI)
  have hEb := hEa.trans hX
  have HL1'' := Lib.hid (HL1'.out.ext hX)
  have HL2'' := Lib.hid (HL2'.out.ext hX)
  have HL3'' := Lib.hid (HL3'.out.ext hX)
  have HL4'' := Lib.hid (HL4'.out.ext hX)
  have HL5'' := Lib.hid (HL5'.out.ext hX)
  clear hI hv1 hEa he1 HL1 HL1' HL2 HL2' HL3 HL3' HL4 HL4' HL5 HL5' hE12
  go_wp2_with fail
  refine hc.out.mono ?_
  rintro e w14 ⟨L6, d6, rfl, hLn, he2⟩
  have HL1 := Lib.hid (HL1''.out.ext he2)
  have HL2 := Lib.hid (HL2''.out.ext he2)
  have HL3 := Lib.hid (HL3''.out.ext he2)
  have HL4 := Lib.hid (HL4''.out.ext he2)
  have HL5 := Lib.hid (HL5''.out.ext he2)
  have HL6 := Lib.hid hLn
  have hE14 := hEb.trans he2
  clear hLn he2 hEb hc HL1'' HL2'' HL3'' HL4'' HL5'' hX
  have hX := Ext.alloc w14 (.cells #[.int .i64 840, .int .i64 840, .int .i64 300] 3)
  have hI : IntsAt (w14.alloc (.cells #[.int .i64 840, .int .i64 840, .int .i64 300] 3)) (some ⟨w14.heap.size, 0, none⟩) [840, 840, 300] := ints_blk (Blk.new w14 3 #[.int .i64 840, .int .i64 840, .int .i64 300]) rfl
  have hc := Lib.hid (eqI L1 (some ⟨w14.heap.size, 0, none⟩) d1 3 [840, 840, 300] [840, 840, 300] true (by simp) _ (by unfold maxLen; simp) (HL1.out.ext hX) hI)
  have hEb := hE14.trans hX
  have HL2'' := Lib.hid (HL2.out.ext hX)
  have HL3'' := Lib.hid (HL3.out.ext hX)
  have HL4'' := Lib.hid (HL4.out.ext hX)
  have HL5'' := Lib.hid (HL5.out.ext hX)
  clear hI hE14 HL2 HL3 HL4 HL5
  go_wp2_with fail
  refine hc.out.mono ?_
  rintro e v1 ⟨rfl, he2⟩
  have HL2 := Lib.hid (HL2''.out.ext he2)
  have HL3 := Lib.hid (HL3''.out.ext he2)
  have HL4 := Lib.hid (HL4''.out.ext he2)
  have HL5 := Lib.hid (HL5''.out.ext he2)
  have hF1 := hEb.trans he2
  clear hEb he2 hc hX HL2'' HL3'' HL4'' HL5''
  have hX := Ext.alloc v1 (.cells #[.int .i64 10, .int .i64 14, .int .i64 9] 3)
  have hI : IntsAt (v1.alloc (.cells #[.int .i64 10, .int .i64 14, .int .i64 9] 3)) (some ⟨v1.heap.size, 0, none⟩) [10, 14, 9] := ints_blk (Blk.new v1 3 #[.int .i64 10, .int .i64 14, .int .i64 9]) rfl
  have hc := Lib.hid (eqI L2 (some ⟨v1.heap.size, 0, none⟩) d2 3 [10, 14, 9] [10, 14, 9] true (by simp) _ (by unfold maxLen; simp) (HL2.out.ext hX) hI)
  have hEb := hF1.trans hX
  have HL3'' := Lib.hid (HL3.out.ext hX)
  have HL4'' := Lib.hid (HL4.out.ext hX)
  have HL5'' := Lib.hid (HL5.out.ext hX)
  clear hI hF1 HL3 HL4 HL5
  go_wp2_with fail
  refine hc.out.mono ?_
  rintro e v2 ⟨rfl, he2⟩
  have HL3 := Lib.hid (HL3''.out.ext he2)
  have HL4 := Lib.hid (HL4''.out.ext he2)
  have HL5 := Lib.hid (HL5''.out.ext he2)
  have hF2 := hEb.trans he2
  clear hEb he2 hc hX HL3'' HL4'' HL5''
  have hX := Ext.alloc v2 (.cells #[.int .i64 0] 3)
  have hI : IntsAt (v2.alloc (.cells #[.int .i64 0] 3)) (some ⟨v2.heap.size, 0, none⟩) [0] := ints_blk (Blk.new v2 3 #[.int .i64 0]) rfl
  have hc := Lib.hid (eqI L3 (some ⟨v2.heap.size, 0, none⟩) d3 1 [0] [0] true (by simp) _ (by unfold maxLen; simp) (HL3.out.ext hX) hI)
  have hEb := hF2.trans hX
  have HL4'' := Lib.hid (HL4.out.ext hX)
  have HL5'' := Lib.hid (HL5.out.ext hX)
  clear hI hF2 HL4 HL5
  go_wp2_with fail
  refine hc.out.mono ?_
  rintro e v3 ⟨rfl, he2⟩
  have HL4 := Lib.hid (HL4''.out.ext he2)
  have HL5 := Lib.hid (HL5''.out.ext he2)
  have hF3 := hEb.trans he2
  clear hEb he2 hc hX HL4'' HL5''
  have hX := Ext.alloc v3 (.cells #[.int .i64 1] 3)
  have hI : IntsAt (v3.alloc (.cells #[.int .i64 1] 3)) (some ⟨v3.heap.size, 0, none⟩) [1] := ints_blk (Blk.new v3 3 #[.int .i64 1]) rfl
  have hc := Lib.hid (eqI L4 (some ⟨v3.heap.size, 0, none⟩) d4 1 [1] [1] true (by simp) _ (by unfold maxLen; simp) (HL4.out.ext hX) hI)
  have hEb := hF3.trans hX
  have HL5'' := Lib.hid (HL5.out.ext hX)
  clear hI hF3 HL5
  go_wp2_with fail
  refine hc.out.mono ?_
  rintro e v4 ⟨rfl, he2⟩
  have HL5 := Lib.hid (HL5''.out.ext he2)
  have hF4 := hEb.trans he2
  clear hEb he2 hc hX HL5''
  have hX := Ext.alloc v4 (.cells #[.int .i64 0] 3)
  have hI : IntsAt (v4.alloc (.cells #[.int .i64 0] 3)) (some ⟨v4.heap.size, 0, none⟩) [0] := ints_blk (Blk.new v4 3 #[.int .i64 0]) rfl
  have hc := Lib.hid (eqI L5 (some ⟨v4.heap.size, 0, none⟩) d5 1 [0] [0] true (by simp) _ (by unfold maxLen; simp) (HL5.out.ext hX) hI)
  have hEb := hF4.trans hX
  clear hI hF4
  go_wp2_with fail
  refine hc.out.mono ?_
  rintro e v5 ⟨rfl, he2⟩
  have hF5 := hEb.trans he2
  clear hEb he2 hc hX
  go_wp2_with fail
  go_ret
  exact ⟨rfl, hF5⟩
end Go.Proofs.Pet
