/-
  loom.Made, walked.
-/
import Derived.Test.YtknokjnplbdmeaaU11
namespace Go.Proofs.Pet
open Go Go.RowKit Go.Maps Go.Shelf

set_option maxRecDepth 20000 in
theorem madeErr_any (v : Value) (m : Mill) (r : Int) (hr : checkE m = r) (h0 : r ≠ 0) (w : World) (hv : MillVal w v m) :
    Calls Try.prog 42 #[v] w fun e w' => e = .returned (.tuple #[.slice none 0 0, .int .i64 r]) ∧ Ext w w' := by
  have Hv := Lib.hid hv
  obtain ⟨A1, c1, A2, c2, rfl, h2, h3, h4, h5, h6, h7⟩ := hv
  have hE := Ext.alloc w (.cells #[.slice A1 m.laced.length c1, .int .i64 m.change, .slice A2 m.orders.length c2] 25)
  have hM := Blk.new w 25 #[.slice A1 m.laced.length c1, .int .i64 m.change, .slice A2 m.orders.length c2]
  have hop := Lib.hid (openedErr _ m r hr h0 _ (Hv.out.ext hE))
  have hd : (r != 0) = true := by simpa using h0
  have H0 := Lib.hid h0
  clear h2 h3 h4 h5 h6 h7 h0 hr
  obtain ⟨k0, k1, k2⟩ := hM.c3
  go_enter Try.func42, Try.ntmps42
  go_wp2_with fail
  refine hop.out.mono ?_
  rintro e w1 ⟨rfl, he1⟩
  have hE1 := hE.trans he1
  go_wp2_with fail
  go_ret2
  exact ⟨rfl, hE1⟩
end Go.Proofs.Pet
