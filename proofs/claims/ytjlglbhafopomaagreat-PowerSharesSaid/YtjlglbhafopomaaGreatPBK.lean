/-
  The examples of power's chapter, walked: awake.
-/
import Derived.Test.YtjlglbhafopomaaGreatPBJ
namespace Go.Proofs.Pet
open Go Go.RowKit Go.Maps Go.Shelf
open Go.Proofs.Pow (PM Sh Wv POk Up sightF clrB opnS hitL explB clashB proofB threeM)

theorem ints_blk {w : World} {b : Nat} {t : TypeId} {xs : List Int} {cs : Array Value} (hb : Blk w b t cs) (hc : cs = (xs.map (Value.int .i64)).toArray) : IntsAt w (some ⟨b, 0, none⟩) xs := by
  subst hc
  intro k hk
  refine ⟨b, 0, rfl, ?_⟩
  rw [Nat.zero_add, hb.cell, List.getElem?_toArray, List.getElem?_map, List.getElem?_eq_getElem hk]
  rfl
set_option maxRecDepth 20000 in
theorem three_any (w : World) : Calls Tryz.prog 84 #[] w fun e w' => ∃ A1 A2, e = .returned (.agg #[.slice A1 3 3, .slice A2 3 3]) ∧ PMVal w' (.agg #[.slice A1 3 3, .slice A2 3 3]) threeM ∧ Ext w w' := by
  go_enter Tryz.func84, Tryz.ntmps84
  go_wp2_with fail
  obtain ⟨W0, h0⟩ : ∃ W0, w.alloc (.cells #[.slice (some ⟨w.heap.size + 1, 0, none⟩) 3 3, .slice (some ⟨w.heap.size + 1 + 1 + 1 + 1 + 1, 0, none⟩) 3 3] 26) = W0 := ⟨_, rfl⟩
  have e0 : Ext w W0 := h0 ▸ Ext.alloc _ _
  have b0 : Blk W0 (w.heap.size) 26 #[.slice (some ⟨w.heap.size + 1, 0, none⟩) 3 3, .slice (some ⟨w.heap.size + 1 + 1 + 1 + 1 + 1, 0, none⟩) 3 3] := by
    have := Blk.new w 26 #[.slice (some ⟨w.heap.size + 1, 0, none⟩) 3 3, .slice (some ⟨w.heap.size + 1 + 1 + 1 + 1 + 1, 0, none⟩) 3 3]
    rw [h0] at this; exact this
  have z0 : W0.heap.size = w.heap.size + 1 := by rw [← h0, World.size_alloc]
  obtain ⟨W1, h1⟩ : ∃ W1, W0.alloc (.cells #[.int .i64 (-1), .int .i64 6, .int .i64 0, .int .i64 4, .int .i64 0, .int .i64 3] 105) = W1 := ⟨_, rfl⟩
  have e1 : Ext W0 W1 := h1 ▸ Ext.alloc _ _
  have b1 : Blk W1 (w.heap.size + 1) 105 #[.int .i64 (-1), .int .i64 6, .int .i64 0, .int .i64 4, .int .i64 0, .int .i64 3] := by
    have := Blk.new W0 105 #[.int .i64 (-1), .int .i64 6, .int .i64 0, .int .i64 4, .int .i64 0, .int .i64 3]
    rw [h1, z0] at this; exact this
  have z1 : W1.heap.size = w.heap.size + 1 + 1 := by rw [← h1, World.size_alloc, z0]
  obtain ⟨W2, h2⟩ : ∃ W2, W1.alloc (.cells #[.int .i64 0, .int .i64 1] 3) = W2 := ⟨_, rfl⟩
  have e2 : Ext W1 W2 := h2 ▸ Ext.alloc _ _
  have b2 : Blk W2 (w.heap.size + 1 + 1) 3 #[.int .i64 0, .int .i64 1] := by
    have := Blk.new W1 3 #[.int .i64 0, .int .i64 1]
    rw [h2, z1] at this; exact this
  have z2 : W2.heap.size = w.heap.size + 1 + 1 + 1 := by rw [← h2, World.size_alloc, z1]
  obtain ⟨W3, h3⟩ : ∃ W3, W2.alloc (.cells #[.int .i64 1, .int .i64 2] 3) = W3 := ⟨_, rfl⟩
  have e3 : Ext W2 W3 := h3 ▸ Ext.alloc _ _
  have b3 : Blk W3 (w.heap.size + 1 + 1 + 1) 3 #[.int .i64 1, .int .i64 2] := by
    have := Blk.new W2 3 #[.int .i64 1, .int .i64 2]
    rw [h3, z2] at this; exact this
  have z3 : W3.heap.size = w.heap.size + 1 + 1 + 1 + 1 := by rw [← h3, World.size_alloc, z2]
  obtain ⟨W4, h4⟩ : ∃ W4, W3.alloc (.cells #[.int .i64 1] 3) = W4 := ⟨_, rfl⟩
  have e4 : Ext W3 W4 := h4 ▸ Ext.alloc _ _
  have b4 : Blk W4 (w.heap.size + 1 + 1 + 1 + 1) 3 #[.int .i64 1] := by
    have := Blk.new W3 3 #[.int .i64 1]
    rw [h4, z3] at this; exact this
  have z4 : W4.heap.size = w.heap.size + 1 + 1 + 1 + 1 + 1 := by rw [← h4, World.size_alloc, z3]
  obtain ⟨W5, h5⟩ : ∃ W5, W4.alloc (.cells #[.int .i64 1, .slice (some ⟨w.heap.size + 1 + 1, 0, none⟩) 2 2, .int .i64 1, .slice (some ⟨w.heap.size + 1 + 1 + 1, 0, none⟩) 2 2, .int .i64 2, .slice (some ⟨w.heap.size + 1 + 1 + 1 + 1, 0, none⟩) 1 1] 82) = W5 := ⟨_, rfl⟩
  have e5 : Ext W4 W5 := h5 ▸ Ext.alloc _ _
  have b5 : Blk W5 (w.heap.size + 1 + 1 + 1 + 1 + 1) 82 #[.int .i64 1, .slice (some ⟨w.heap.size + 1 + 1, 0, none⟩) 2 2, .int .i64 1, .slice (some ⟨w.heap.size + 1 + 1 + 1, 0, none⟩) 2 2, .int .i64 2, .slice (some ⟨w.heap.size + 1 + 1 + 1 + 1, 0, none⟩) 1 1] := by
    have := Blk.new W4 82 #[.int .i64 1, .slice (some ⟨w.heap.size + 1 + 1, 0, none⟩) 2 2, .int .i64 1, .slice (some ⟨w.heap.size + 1 + 1 + 1, 0, none⟩) 2 2, .int .i64 2, .slice (some ⟨w.heap.size + 1 + 1 + 1 + 1, 0, none⟩) 1 1]
    rw [h5, z4] at this; exact this
  have z5 : W5.heap.size = w.heap.size + 1 + 1 + 1 + 1 + 1 + 1 := by rw [← h5, World.size_alloc, z4]
  rw [h0, h1, h2, h3, h4, h5]
  have B5 := b5
  have B4 := b4.ext e5
  have B3 := (b3.ext e4).ext e5
  have B2 := ((b2.ext e3).ext e4).ext e5
  have B1 := (((b1.ext e2).ext e3).ext e4).ext e5
  have B0 := ((((b0.ext e1).ext e2).ext e3).ext e4).ext e5
  have E := ((((e0.trans e1).trans e2).trans e3).trans e4).trans e5
  have i2 : IntsAt W5 (some ⟨w.heap.size + 1 + 1, 0, none⟩) [0, 1] := ints_blk B2 rfl
  have i3 : IntsAt W5 (some ⟨w.heap.size + 1 + 1 + 1, 0, none⟩) [1, 2] := ints_blk B3 rfl
  have i4 : IntsAt W5 (some ⟨w.heap.size + 1 + 1 + 1 + 1, 0, none⟩) [1] := ints_blk B4 rfl
  have v0 := B0.cell 0
  have v1 := B0.cell 1
  refine bodyPost_ret (v := .agg #[.slice (some ⟨w.heap.size + 1, 0, none⟩) 3 3, .slice (some ⟨w.heap.size + 1 + 1 + 1 + 1 + 1, 0, none⟩) 3 3]) ?_ rfl ⟨_, _, rfl, ⟨_, 3, _, 3, rfl, Nat.le_refl _, by unfold maxLen; omega, Nat.le_refl _, by unfold maxLen; omega, ?_, ?_⟩, E⟩
  · simp only [List.getElem?_toArray, List.getElem?_cons_succ, List.getElem?_cons_zero] at v0 v1
    simp [results, Tryz.results84, go_sem, v0, v1]
  · intro k hk
    refine ⟨_, 0, rfl, ?_⟩
    match k, hk with
    | 0, _ => exact ⟨B1.cell 0, B1.cell 1⟩
    | 1, _ => exact ⟨B1.cell 2, B1.cell 3⟩
    | 2, _ => exact ⟨B1.cell 4, B1.cell 5⟩
  · intro k hk
    refine ⟨_, 0, rfl, ?_⟩
    match k, hk with
    | 0, _ => exact ⟨_, 2, ⟨Nat.le_refl _, by unfold maxLen; omega⟩, B5.cell 0, B5.cell 1, i2⟩
    | 1, _ => exact ⟨_, 2, ⟨Nat.le_refl _, by unfold maxLen; omega⟩, B5.cell 2, B5.cell 3, i3⟩
    | 2, _ => exact ⟨_, 1, ⟨Nat.le_refl _, by unfold maxLen; omega⟩, B5.cell 4, B5.cell 5, i4⟩
theorem three_check : checkP threeM = 0 := by kernel_rfl
/-- a list comes back, and no error -/
def Lists (xs : List Int) (r : Int) (w : World) (e : Ending) (w' : World) : Prop := ∃ A c, e = .returned (.tuple #[.slice A xs.length c, .int .i64 r]) ∧ IntsAt w' A xs ∧ Ext w w'
theorem lists_of {xs : List Int} {r : Int} {w w' : World} {e : Ending} (h : ∃ u, e = .returned (.tuple #[u, .int .i64 r]) ∧ OwnI w' w.heap.size 3 u xs ∧ Ext w w') : Lists xs r w e w' := by
  obtain ⟨u, rfl, hO, he⟩ := h
  obtain ⟨A, c, rfl, -, -, h3, -, -⟩ := hO.open_
  exact ⟨A, c, rfl, h3, he⟩
theorem three_shares_any (v : Value) (w : World) (hv : PMVal w v threeM) : Calls Tryz.prog 50 #[v] w (Lists [840, 840, 300] 0 w) :=
  (shares_any v threeM three_check w hv).mono fun _e _w' ⟨_S, h1, h2, _, h4⟩ => ⟨_, _, h1, Pow.three_shares ▸ h2.ints, h4⟩
theorem three_adds_any (v : Value) (A : Option Addr) (w : World) (hv : PMVal w v threeM) (hA : IntsAt w A [2, 1, 0]) : Calls Tryz.prog 41 #[v, .slice A 3 3] w (Lists [10, 14, 9] 0 w) :=
  (Adds_any v threeM A 3 3 [2, 1, 0] rfl 0 [10, 14, 9] (by kernel_rfl) (by rw [if_pos rfl]; exact Pow.three_adds) w hv (by unfold maxLen; omega) (Nat.le_refl _) hA).mono fun _ _ h => lists_of h
theorem three_better_any (v : Value) (A : Option Addr) (w : World) (hv : PMVal w v threeM) (hA : IntsAt w A [1300, 380, 300]) : Calls Tryz.prog 52 #[v, .slice A 3 3] w (Lists [0] 0 w) :=
  (Better_any v threeM A 3 3 [1300, 380, 300] rfl 0 [0] (by kernel_rfl) (by kernel_rfl) w hv (by unfold maxLen; omega) hA).mono fun _ _ h => lists_of h
theorem three_cheap_any (v : Value) (w : World) (hv : PMVal w v threeM) : Calls Tryz.prog 43 #[v, .int .i64 2] w fun e w' => e = .returned (.tuple #[.int .i64 0, .int .i64 3, .int .i64 0]) ∧ Ext w w' :=
  Cheapest_any v threeM 2 0 3 0 (by
    unfold cheapV
    rw [if_neg (by rw [show knownE threeM 2 = 0 by kernel_rfl]; simp)]
    rw [show Pow.cheapF threeM (2 : Int).toNat = some (0, 3) from Pow.three_cheap]
    rfl) w hv
theorem sortL_two : Lib.compact (Pow.sortL [1, 1]) = [1] := by
  have : Pow.sortL [1, 1] = [1, 1] := by
    have h := Pow.sortL_perm [1, 1]
    exact List.perm_replicate (n := 2) |>.1 h
  rw [this]
  rfl
theorem three_sure_any (v : Value) (A : Option Addr) (w : World) (hv : PMVal w v threeM) (hA : IntsAt w A [2, 2, 1]) : Calls Tryz.prog 25 #[v, .slice A 3 3] w (Lists [1] 0 w) :=
  (Surely_any v threeM A 3 3 [2, 2, 1] rfl 0 [1] (by kernel_rfl) (by unfold sureV; rw [if_pos (by kernel_rfl), Pow.three_sure.2]; exact sortL_two) w hv (by unfold maxLen; omega) hA).mono fun _ _ h => lists_of h
theorem three_slipped_any (v : Value) (A : Option Addr) (w : World) (hv : PMVal w v threeM) (hA : IntsAt w A [2, 0, 2]) : Calls Tryz.prog 24 #[v, .slice A 3 3] w (Lists [0] 0 w) :=
  (Slipped_any v threeM A 3 3 [2, 0, 2] rfl 0 [0] (by kernel_rfl) (by kernel_rfl) w hv (by unfold maxLen; omega) hA).mono fun _ _ h => lists_of h
theorem three_prove_any (v : Value) (A : Option Addr) (w : World) (hv : PMVal w v threeM) (hA : IntsAt w A [2, 1, 0]) : Calls Tryz.prog 65 #[v, .slice A 3 3] w (Lists [] 7 w) :=
  (Prove_any v threeM A 3 3 [2, 1, 0] rfl 7 [] (by kernel_rfl) (by kernel_rfl) w hv (by unfold maxLen; omega) hA).mono fun _ _ h => lists_of h
end Go.Proofs.Pet
