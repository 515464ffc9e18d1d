/-
  Mills made of numbers, walked.
-/
import Derived.Test.YtfglamdbnclcaaaGreatO1
import Derived.Test.YtfglamdbnclcaaaGreatP20
import Derived.Test.YtfglamdbnclcaaaGreatOA
import Derived.Deep.DeepCutAuto
namespace Go.Proofs.Pet
set_option linter.unusedSimpArgs false
open Go Go.RowKit Go.Maps Go.Shelf

/-- a mill being made: w0 is the world at first, b the spool's block, R the result's, M the mill's -/
structure MkS (w0 : World) (b R M B0 : Nat) (la : List Int) (ch : Int) (os : List Ord) (k : Nat) (v1 v2 : Value) (W : World) : Prop where
  ap : Apart b w0 W
  sp : SpoolAt W b k
  br : Blk W R 25 zeroM
  bm : Blk W M 25 #[v1, .int .i64 ch, v2]
  o1 : OwnI W B0 3 v1 la
  o2 : OwnOB W B0 v2 os
  lt : b < w0.heap.size ∧ w0.heap.size ≤ R ∧ R < M ∧ M < B0
section
variable {w0 W W' : World} {b R M B0 k k' : Nat} {la : List Int} {ch : Int} {os : List Ord} {v1 v2 : Value}
theorem MkS.turn (h : MkS w0 b R M B0 la ch os k v1 v2 W) (ha : Apart b W W') (hs : SpoolAt W' b k') : MkS w0 b R M B0 la ch os k' v1 v2 W' := by
  obtain ⟨h1, h2, h3, h4, h5, h6, g1, g2, g3, g4⟩ := h
  exact ⟨h1.trans ha, hs, h3.apart (by omega) ha, h4.apart (by omega) ha, h5.apartB (by omega) ha, h6.apart (by omega) ha, g1, g2, g3, g4⟩
theorem MkS.ext (h : MkS w0 b R M B0 la ch os k v1 v2 W) (he : Ext W W') : MkS w0 b R M B0 la ch os k v1 v2 W' := h.turn (Apart.of_ext he) (h.sp.ext he)
theorem Apart.grown {w1 : World} {v : Value} (h : Apart b w0 w1) (hg : w1.grownBy W' v.ownBlock) (hr : ∀ j, v.ownBlock = some j → w0.heap.size ≤ j) : Apart b w0 W' := by
  obtain ⟨g1, g2, g3, g4, g5⟩ := h
  refine ⟨hg.os.trans g1, hg.tape.trans g2, hg.output.trans g3, Nat.le_trans g4 hg.size, fun j hj hne => ?_⟩
  rw [hg.block j (by omega) (fun e => by have := hr j e.symm; omega)]
  exact g5 j hj hne
theorem SpoolAt.grown {v : Value} (h : SpoolAt W b k) (hg : W.grownBy W' v.ownBlock) (hr : ∀ j, v.ownBlock = some j → b < j) : SpoolAt W' b k := by
  obtain ⟨A, n, c, st, a, h1, h2, h3, h4, h5⟩ := h
  refine ⟨A, n, c, st, a, h1.grown hg (fun e => by have := hr b e.symm; omega), h2, h3, h4, fun j hj => ?_⟩
  obtain ⟨b', o, u, rfl, g2, g3⟩ := h5 j hj
  refine ⟨b', o, u, rfl, g2, ?_⟩
  have hlt := cell_lt g3
  unfold World.cell? at g3 ⊢
  rw [hg.block b' hlt (fun e => by have := hr b' e.symm; omega)]
  exact g3
theorem MkS.monoK (h : MkS w0 b R M B0 la ch os k v1 v2 W) (hk : k ≤ k') : MkS w0 b R M B0 la ch os k' v1 v2 W := h.turn (Apart.refl _ _) (h.sp.mono hk)
theorem Src.list (w : World) (cs : List Value) (t : TypeId) : Src (w.alloc (.cells cs.toArray t)) (some ⟨w.heap.size, 0, none⟩) cs := .inr ⟨_, rfl, fun j u hj => by
  have hb := Blk.new w t cs.toArray
  have e : (⟨w.heap.size, 0, none⟩ : Addr).add j = ⟨w.heap.size, j, none⟩ := by rw [addr_add]; simp
  rw [e, hb.cell, List.getElem?_toArray]
  exact hj⟩
theorem MkS.pushL {v1' : Value} {x : Int} (h : MkS w0 b R M B0 la ch [] k v1 (.slice none 0 0) W) (hown : W'.ownsRow B0 3 1 v1' (la.length + 1) (la.map (Value.int .i64) ++ [.int .i64 x])) (hg : W.grownBy W' v1.ownBlock) :
    W'.cell? ⟨M, 0, none⟩ = some v1 ∧ W'.frozen? ⟨M, 0, none⟩ = false ∧ MkS w0 b R M B0 (la ++ [x]) ch [] k v1' (.slice none 0 0) (W'.setCell ⟨M, 0, none⟩ v1') := by
  obtain ⟨h1, h2, h3, h4, h5, h6, g1, g2, g3, g4⟩ := h
  have hge : ∀ j, v1.ownBlock = some j → B0 ≤ j := fun j hj => (h5.own_lt j hj).1
  have hM := h4.grown hg (fun e => by have := hge M e.symm; omega)
  have hR := h3.grown hg (fun e => by have := hge R e.symm; omega)
  have h2' := h2.grown hg (fun j hj => by have := hge j hj; omega)
  have hO : OwnI W' B0 3 v1' (la ++ [x]) := by
    unfold OwnI; rw [List.length_append, List.map_append]; exact hown
  refine ⟨hM.c3.1, hM.frozen 0, ((h1.grown hg (fun j hj => by have := hge j hj; omega)).above (by show w0.heap.size ≤ M; omega) _), h2'.apart (by omega : b < M) ((Apart.refl M W').set_ 0 v1'), hR.far (by show R ≠ M; omega) _, by simpa using hM.set_ 0 v1', hO.far hM (by decide) 0 v1', OwnOB.nil _ _, g1, g2, g3, g4⟩
theorem MkS.pushO {v2' s : Value} {cs : List Value} {x : Ord} (h : MkS w0 b R M B0 la ch os k v1 v2 W) (o1 : W.ownsRow B0 28 4 v2 os.length cs) (o2 : OrdOwn W B0 cs os) (hs : OwnI W B0 3 s x.on)
    (hown : W'.ownsRow B0 28 4 v2' (os.length + 1) (cs ++ [.int .i64 x.pattern, .int .i64 x.days, .int .i64 x.by_, s])) (hg : W.grownBy W' v2.ownBlock) :
    W'.cell? ⟨M, 2, none⟩ = some v2 ∧ W'.frozen? ⟨M, 2, none⟩ = false ∧ MkS w0 b R M B0 la ch (os ++ [x]) k v1 v2' (W'.setCell ⟨M, 2, none⟩ v2') := by
  obtain ⟨h1, h2, h3, h4, h5, h6, g1, g2, g3, g4⟩ := h
  have hge : ∀ j, v2.ownBlock = some j → B0 ≤ j := fun j hj => (ownsRow_own o1 j hj).1
  have hM := h4.grown hg (fun e => by have := hge M e.symm; omega)
  have hR := h3.grown hg (fun e => by have := hge R e.symm; omega)
  have h2' := h2.grown hg (fun j hj => by have := hge j hj; omega)
  have hO := OwnOB.push o1 o2 hs hown hg
  have hL := h5.grownT (by decide) hg o1
  refine ⟨hM.c3.2.2, hM.frozen 2, ((h1.grown hg (fun j hj => by have := hge j hj; omega)).above (by show w0.heap.size ≤ M; omega) _), h2'.apart (by omega : b < M) ((Apart.refl M W').set_ 2 v2'), hR.far (by show R ≠ M; omega) _, by simpa using hM.set_ 2 v2', hL.far hM (by decide) 2 v2', hO.far hM (by decide) (.inl (by decide)) 2 v2', g1, g2, g3, g4⟩
end
set_option maxRecDepth 100000 in
set_option maxHeartbeats 4000000 in
theorem madeS_any (b k : Nat) (hk : k ≤ 1000) (looms orders : Int) (hl : 1 ≤ looms ∧ looms ≤ 3) (ho : 0 ≤ orders ∧ orders ≤ 7) (w : World) (hs : SpoolAt w b k) :
    Calls Tryz.prog 20 #[.pointer (some ⟨b, 0, none⟩), .int .i64 looms, .int .i64 orders] w fun e w' => ∃ v m, e = .returned v ∧ MillVal w' v m ∧ MillOk m ∧ m.laced.length ≤ looms ∧ m.orders.length ≤ orders ∧ SpoolAt w' b 2000 ∧ Apart b w w' := by
  obtain ⟨ti, hi, hz0, hz1, hz2⟩ := info_parts info_int
  obtain ⟨ti2, hi2, hy0, hy1, hy2⟩ := info_parts info_order
  have hR := Blk.new w 25 zeroM
  have hX := Ext.alloc w (.cells zeroM 25)
  have hsp := hs.ext hX
  have hbl := hs.lt
  have hup := Lib.hid (upto_any b k (by omega) 3 (by omega) 3 (by omega) _ hsp)
  clear hsp
  go_enter Tryz.func20, Tryz.ntmps20
  go_wp2_with fail
  refine hup.out.mono ?_
  rintro e w1 ⟨ch, rfl, hc1, hc2, hs1, ha1⟩
  clear hup
  have hszA := ha1.size
  rw [World.size_alloc] at hszA
  have hX1 := Ext.alloc w1 (.cells #[.slice none 0 0, .int .i64 ch, .slice none 0 0] 25)
  have hM := Blk.new w1 25 #[.slice none 0 0, .int .i64 ch, .slice none 0 0]
  have hap := (Apart.of_ext (b := b) hX).trans ha1
  have hS : MkS w b w.heap.size w1.heap.size (w1.heap.size + 1) [] ch [] (k + 1) (.slice none 0 0) (.slice none 0 0) (w1.alloc (.cells #[.slice none 0 0, .int .i64 ch, .slice none 0 0] 25)) :=
    ⟨hap.trans (Apart.of_ext hX1), hs1.ext hX1, (hR.apart (by omega) ha1).ext hX1, hM, OwnI.nil _ _ _, OwnOB.nil _ _, hbl, Nat.le_refl _, by omega, by omega⟩
  have hfr := Lib.hid (from_any b (k + 1) (by omega) 1 looms (by omega) looms (by omega) _ hS.sp)
  clear hap hM hR ha1 hX
  go_wp2_with fail
  obtain ⟨R, hR⟩ : ∃ R, w.heap.size = R := ⟨_, rfl⟩
  obtain ⟨M, hM⟩ : ∃ M, w1.heap.size = M := ⟨_, rfl⟩
  rw [hR, hM] at hS
  rw [hM]
  have hRw : w.heap.size ≤ R := by omega
  generalize hW2 : w1.alloc _ = W2 at *
  refine hfr.out.mono ?_
  rintro e w3 ⟨L, rfl, hL1, hL2, hs3, ha3⟩
  have hS := hS.turn ha3 hs3
  have hR' := Lib.hid hR; have hM' := Lib.hid hM
  clear hfr hs3 ha3 hs1 hX1 hR hM hW2 hszA
  obtain ⟨Ln, rfl⟩ : ∃ Ln : Nat, L = (Ln : Int) := ⟨L.toNat, by omega⟩
  go_wp2_with fail
  go_loopw [17] (fun iv wr => ∃ i : Nat, ∃ la v1, i ≤ Ln ∧ iv = .int .i64 i ∧ la.length = i ∧ Hid (∀ x, x ∈ la → (-1 : Int) ≤ x ∧ x ≤ 9) ∧ Hid (MkS w b R M (M + 1) la ch [] (k + 2 + i) v1 (.slice none 0 0) wr)) (fun iv _ => Ln - (intOf iv).toNat)
  case atStart => exact ⟨0, [], _, by omega, rfl, rfl, fun x hx => by simp at hx, Lib.hid hS⟩
  case round =>
    clear hS
    obtain ⟨i, la, v1, hi', rfl, hla, hlx, hS⟩ := hrel
    subst hla
    by_cases hlt : la.length < Ln
    · obtain ⟨A1, c1, rfl, g1, g2, g3, g4, g5⟩ := hS.out.o1.open_
      obtain ⟨k0, k1, k2⟩ := hS.out.bm.c3
      clear g3 g4 g5
      have hszM := hS.out.bm.lt
      go_wp2_with fail
      refine wp_region_chainG (fun W => W.cell? ⟨M, 0, none⟩ = some (.slice A1 la.length c1)) (k0) 6 [(3, true), (4, true), (5, false)] [] (by kernel_rfl) (by kernel_rfl) (by kernel_rfl) ?_
      simp only [List.take, List.drop, fill, Act.put, List.setIfInBounds_toArray, List.set_cons_zero, List.set_cons_succ, Nat.reduceAdd]
      repeat (first
        | refine Floats.mut rfl ?_
        | (apply Floats.float rfl
           · intro x W he hd K Q hK
             try (have he := he (by decide); have k0 : W.cell? _ = some _ := he)
             try simp only [edges, DepsE, List.filter_cons, List.filter_nil, Region.binds, if_true, and_true, true_and, upd, Nat.reduceEqDiff, if_false] at hd
             try simp only [hd] at hK ⊢
             have HK := Lib.hid hK; clear hK
             go_wp2_with fail
             exact HK.out))
      refine Floats.done fun W he hG => ?_
      have hS1 := hS.out.ext he
      have hfr := Lib.hid (from_any b _ (by omega) (-1) 3 (by omega) 3 (by omega) W hS1.sp)
      clear hG
      refine Chain.cons _ rfl ?_
      intro x hd K Q hK
      try simp only [edges, DepsE, List.filter_cons, List.filter_nil, Region.binds, if_true, and_true, true_and, upd, Nat.reduceEqDiff, if_false] at hd
      try simp only [hd] at hK ⊢
      clear hd
      have HK := Lib.hid hK; clear hK
      go_wp2_with fail
      refine hfr.out.mono ?_
      rintro e w4 ⟨xv, rfl, hx1, hx2, hs4, ha4⟩
      have hS2 := hS1.turn ha4 hs4
      clear hfr hS1 ha4 hs4
      go_wp2_with fail
      refine HK.out _ _ (fun _ => hS2.bm.c3.1) ?_
      clear HK
      refine Chain.cons _ rfl ?_
      intro x hd K Q hK
      try simp only [edges, DepsE, List.filter_cons, List.filter_nil, Region.binds, if_true, and_true, true_and, upd, Nat.reduceEqDiff, if_false] at hd
      try simp only [hd] at hK ⊢
      clear hd
      have HK := Lib.hid hK; clear hK
      have hb5 := Ext.alloc w4 (.cells #[.int .i64 xv] 3)
      have hS3 := hS2.ext hb5
      have hsrc := Src.one w4 (.int .i64 xv) 3
      go_wp2_with fail
      refine HK.out _ _ (fun _ => hS3.bm.c3.1) ?_
      clear HK
      refine Chain.cons _ rfl ?_
      intro x hd K Q hK
      try simp only [edges, DepsE, List.filter_cons, List.filter_nil, Region.binds, if_true, and_true, true_and, upd, Nat.reduceEqDiff, if_false] at hd
      try simp only [hd] at hK ⊢
      clear hd
      have HK := Lib.hid hK; clear hK
      have hsz5 := hS3.bm.lt
      refine wpList_app rfl _ _ 22 rfl (M + 1) 3 ti (.int .i64 0) 1 8 Tryz.underlying22 hi hz0 hz1 hz2 rfl (by decide) (.slice A1 la.length c1) la.length _ rfl hS3.o1 (some ⟨w4.heap.size, 0, none⟩) 1 _ [.int .i64 xv] rfl rfl hsrc (fun u hu => by rw [List.mem_singleton] at hu; subst hu; rfl) (by simp only [maxLen]; omega) (by omega) (by omega) ?_
      intro v' w5 hown hg hblk
      obtain ⟨q0, q1, hS6⟩ := hS3.pushL hown hg
      have HS6 := Lib.hid hS6; clear hS6
      obtain ⟨A9, c9, rfl⟩ := ownsRow_slice hown
      refine HK.out _ _ (fun h => by cases h) ?_
      clear HK
      refine Chain.nil ?_
      simp only [upd, Nat.reduceEqDiff, if_false, if_true]
      go_wp2_with fail
      go_roundw
      case rel =>
        refine ⟨la.length + 1, la ++ [xv], _, by omega, by go_num, by simp, ?_, by rw [← Nat.add_assoc]; exact HS6⟩
        intro y hy
        rcases List.mem_append.1 hy with h | h
        · exact hlx.out y h
        · rw [List.mem_singleton] at h; subst h; omega
      case measure => simp [intOf]; omega
    · have hLe : la.length = Ln := by omega
      subst hLe
      have hfr := Lib.hid (from_any b _ (by omega) 6 24 (by omega) 24 (by omega) wr hS.out.sp)
      go_wp2_with fail
      refine hfr.out.mono ?_
      rintro e w4 ⟨by_, rfl, hb1, hb2, hs4, ha4⟩
      have hS4 := hS.out.turn ha4 hs4
      clear hfr hs4 ha4 hS
      have hup := Lib.hid (upto_any b _ (by omega) orders (by omega) orders (by omega) w4 hS4.sp)
      go_wp2_with fail
      refine hup.out.mono ?_
      rintro e w5 ⟨N, rfl, hN1, hN2, hs5, ha5⟩
      have hS5 := hS4.turn ha5 hs5
      clear hup hs5 ha5 hS4
      obtain ⟨Nn, rfl⟩ : ∃ Nn : Nat, N = (Nn : Int) := ⟨N.toNat, by omega⟩
      go_wp2_with fail
      go_loopw [32] (fun iv wr => ∃ i : Nat, ∃ os v2, i ≤ Nn ∧ iv = .int .i64 i ∧ os.length = i ∧ Hid (∀ o, o ∈ os → OrdOk la.length o) ∧ Hid (MkS w b R M (M + 1) la ch os (k + 20 + 20 * i) v1 v2 wr)) (fun iv _ => Nn - (intOf iv).toNat)
      case atStart => exact ⟨0, [], _, by omega, rfl, rfl, fun x hx => by simp at hx, Lib.hid (hS5.turn (Apart.refl _ _) (hS5.sp.mono (by omega)))⟩
      case round =>
        clear hS5
        obtain ⟨i, os, v2, hi', rfl, hos, hox, hS⟩ := hrel
        subst hos
        by_cases hlt : os.length < Nn
        · have hup := Lib.hid (upto_any b _ (by omega) 3 (by omega) 3 (by omega) wr hS.out.sp)
          go_wp2_with fail
          refine hup.out.mono ?_
          rintro e w6 ⟨pat, rfl, hp1, hp2, hs6, ha6⟩
          have hS6 := hS.out.turn ha6 hs6
          clear hup hs6 ha6 hS
          have hup := Lib.hid (from_any b _ (by omega) 1 6 (by omega) 6 (by omega) w6 hS6.sp)
          go_wp2_with fail
          refine hup.out.mono ?_
          rintro e w7 ⟨dy, rfl, hd1, hd2, hs7, ha7⟩
          have hS7 := hS6.turn ha7 hs7
          clear hup hs7 ha7 hS6
          have hup := Lib.hid (from_any b _ (by omega) 2 by_ (by omega) by_ (by omega) w7 hS7.sp)
          go_wp2_with fail
          refine hup.out.mono ?_
          rintro e w8 ⟨yy, rfl, hy8, hy9, hs8, ha8⟩
          have hS8 := hS7.turn ha8 hs8
          clear hup hs8 ha8 hS7
          have hX8 := Ext.alloc w8 (.cells #[.int .i64 pat, .int .i64 dy, .int .i64 yy, .slice none 0 0] 28)
          have hO8 := Blk.new w8 28 #[.int .i64 pat, .int .i64 dy, .int .i64 yy, .slice none 0 0]
          have hA8 : Apart b w8 _ := Apart.of_ext hX8
          have hsp8 := hS8.sp.ext hX8
          have hbs := hS8.bm.lt
          have hblt := hS8.lt
          obtain ⟨A1, c1, rfl, g1, g2, _, _, _⟩ := hS8.o1.open_
          obtain ⟨k0, k1, k2⟩ := (hS8.ext hX8).bm.c3
          go_wp2_with fail
          obtain ⟨O, hOe⟩ : ∃ O, w8.heap.size = O := ⟨_, rfl⟩
          rw [hOe] at hO8 ⊢
          generalize w8.alloc _ = W9 at *
          have HOe := Lib.hid hOe; clear hOe
          have HSe := Lib.hid hS8
          clear hX8 k0 k1 k2 hS8
          go_loopw [45] (fun iv wr => ∃ j : Nat, ∃ on v3, j ≤ la.length ∧ iv = .int .i64 j ∧ on.length ≤ j ∧ Hid (∀ x, x ∈ on → (0 : Int) ≤ x ∧ x < j) ∧ Hid (risingB on = true) ∧ Apart b w8 wr ∧ SpoolAt wr b (k + 20 + 20 * os.length + 1 + 1 + 1 + j) ∧ Blk wr O 28 #[.int .i64 pat, .int .i64 dy, .int .i64 yy, v3] ∧ OwnI wr (O + 1) 3 v3 on) (fun iv _ => la.length - (intOf iv).toNat)
          case atStart => exact ⟨0, [], _, by omega, rfl, Nat.le_refl _, fun x hx => by simp at hx, rfl, hA8, hsp8, hO8, OwnI.nil _ _ _⟩
          case round =>
            clear hA8 hsp8 hO8
            obtain ⟨j, on, v3, hj, rfl, honl, honr, honu, hA, hsp, hO, hon⟩ := hrel
            have hszO := hO.lt
            by_cases hltj : j < la.length
            · have hoc := Lib.hid (once_any b _ (by omega) 2 (by omega) wr hsp)
              go_wp2_with fail
              refine hoc.out.mono ?_
              rintro e w10 ⟨q, rfl, hs10, ha10⟩
              have hO := hO.apart (by have := HOe.out; omega) ha10
              have hon := hon.apartB (by have := HOe.out; omega) ha10
              have hA := hA.trans ha10
              have hsp := hs10
              clear hoc hs10 ha10
              cases q with
              | false =>
                go_wp2_with fail
                go_roundw
                case rel => exact ⟨j + 1, on, v3, by omega, by go_num, by omega, fun x hx => by have := honr.out x hx; omega, honu, hA, by rw [← Nat.add_assoc]; exact hsp, hO, hon⟩
                case measure => simp [intOf]; omega
              | true =>
                obtain ⟨A3, c3, rfl, r1, r2, r3, r4, r5⟩ := hon.open_
                obtain ⟨p0, p1, p2, p3⟩ := hO.c4
                have hX := Ext.alloc w10 (.cells #[.int .i64 j] 3)
                have hsrc := Src.one w10 (.int .i64 j) 3
                have honX := hon.ext hX
                have hOX := hO.ext hX
                have hszX := hOX.lt
                have hAX := hA.trans (Apart.of_ext hX)
                have hspX := hsp.ext hX
                have HonX := Lib.hid honX
                clear r3 r4 r5
                have hOe := HOe.out
                have hbO : b < O := by omega
                have Hon11 : ∀ v' w11, w11.ownsRow (O + 1) 3 1 v' (on.length + 1) (on.map (Value.int .i64) ++ [.int .i64 (j : Int)]) → (w10.alloc (.cells #[.int .i64 j] 3)).grownBy w11 (Value.slice A3 on.length c3).ownBlock →
                    Blk w11 O 28 #[.int .i64 pat, .int .i64 dy, .int .i64 yy, .slice A3 on.length c3] ∧ Apart b w8 (w11.setCell ⟨O, 3, none⟩ v') ∧ SpoolAt (w11.setCell ⟨O, 3, none⟩ v') b (k + 20 + 20 * os.length + 1 + 1 + 1 + j + 1) ∧ Blk (w11.setCell ⟨O, 3, none⟩ v') O 28 #[.int .i64 pat, .int .i64 dy, .int .i64 yy, v'] ∧ OwnI (w11.setCell ⟨O, 3, none⟩ v') (O + 1) 3 v' (on ++ [(j : Int)]) := by
                  intro v' w11 hown hg
                  have hge := fun g hg' => (HonX.out.own_lt g hg').1
                  have hO11 := hOX.grown hg (ownsRow_ne_blk honX hOX (by decide))
                  have hA11 := hAX.grown hg (fun g hg' => by have := hge g hg'; omega)
                  have hsp11 := hspX.grown hg (fun g hg' => by have := hge g hg'; omega)
                  have hon11 : OwnI w11 (O + 1) 3 v' (on ++ [(j : Int)]) := by unfold OwnI; rw [List.length_append, List.map_append]; exact hown
                  exact ⟨hO11, hA11.above (by show w8.heap.size ≤ O; omega) _, hsp11.apart hbO ((Apart.refl O w11).set_ 3 _), by simpa using hO11.set_ 3 v', hon11.far hO11 (by decide) 3 v'⟩
                have Hon12 := Lib.hid Hon11
                clear Hon11 hOe
                go_wp2_with (at_builtin; refine wpList_app rfl _ _ 22 rfl (O + 1) 3 ti (.int .i64 0) 1 8 Tryz.underlying22 hi hz0 hz1 hz2 rfl (by decide) (.slice A3 on.length c3) on.length _ rfl honX (some ⟨w10.heap.size, 0, none⟩) 1 1 [.int .i64 j] rfl rfl hsrc ?c2 ?c3 ?c4 ?c5 ?_; (case c2 => (intro u hu; rw [List.mem_singleton] at hu; subst hu; rfl)); (case c3 => (unfold maxLen; omega)); (case c4 => omega); (case c5 => omega); intro v' w11 hown hg hblk; obtain ⟨hO11, hrest⟩ := Hon12.out v' w11 hown hg; obtain ⟨A9, c9, rfl⟩ := ownsRow_slice hown; have Hrest := Lib.hid hrest; clear hrest hsrc; obtain ⟨z0, z1, z2, z3⟩ := hO11.c4; have zf := hO11.frozen 3)
                go_roundw
                case rel =>
                  refine ⟨j + 1, on ++ [(j : Int)], _, by omega, by go_num, by rw [List.length_append, List.length_singleton]; omega, ?_, ?_, Hrest.out⟩
                  · intro y hy
                    rcases List.mem_append.1 hy with h | h
                    · have := honr.out y h; omega
                    · rw [List.mem_singleton] at h; subst h; omega
                  · exact rising_snoc honu.out fun y hy => (honr.out y hy).2
                case measure => simp [intOf]; omega
            · obtain rfl : j = la.length := by omega
              have Honr := Lib.hid (show ∀ x, x ∈ on → (0 : Int) ≤ x ∧ x < (la.length : Int) from honr.out)
              have hz' : on.length = 0 ∨ ((on.length : Int) == 0) = false := by
                by_cases hz : on.length = 0
                · exact .inl hz
                · exact .inr (by simpa using hz)
              have Hz := Lib.hid hz'; clear hz'
              obtain ⟨A3, c3, rfl, r1, r2, r3, r4, r5⟩ := hon.open_
              have Hon := Lib.hid hon
              clear r3 r4 r5 hon
              obtain ⟨p0, p1, p2, p3⟩ := hO.c4
              have hla0 : ((la.length : Int) - 1) = ((la.length - 1 : Nat) : Int) := by omega
              have hup := Lib.hid (upto_any b _ (by omega) ((la.length : Int) - 1) (by omega) ((la.length : Int) - 1) (by omega) wr hsp)
              obtain ⟨k0, k1, k2⟩ := (HSe.out.turn hA hsp).bm.c3
              clear hla0
              have HS9 := Lib.hid HSe.out
              go_upto_if 60 with fail
              go_cut [] (fun wx => ∃ on v3, Hid (on ≠ [] ∧ on.length ≤ 3) ∧ Hid (∀ x, x ∈ on → (0 : Int) ≤ x ∧ x < (la.length : Int)) ∧ Hid (risingB on = true) ∧ Apart b w8 wx ∧ SpoolAt wx b (k + 20 + 20 * os.length + 10) ∧ Blk wx O 28 #[.int .i64 pat, .int .i64 dy, .int .i64 yy, v3] ∧ Hid (OwnI wx (O + 1) 3 v3 on))
              case first =>
                rcases Hz.out with hz | hz
                · have hnil : on = [] := List.length_eq_zero_iff.1 hz
                  subst hnil
                  go_wp2_with fail
                  refine hup.out.mono ?_
                  rintro e w10 ⟨r, rfl, hr1, hr2, hs10, ha10⟩
                  have hO := hO.apart (by have := HOe.out; omega) ha10
                  have hA := hA.trans ha10
                  have hX := Ext.alloc w10 (.cells #[.int .i64 r] 3)
                  have hb10 := Blk.new w10 3 #[.int .i64 r]
                  have hOX := hO.ext hX
                  obtain ⟨z0, z1, z2, z3⟩ := hOX.c4
                  have zf := hOX.frozen 3
                  have hA := (hA.trans (Apart.of_ext hX)).above (p := ⟨O, 3, none⟩) (by show w8.heap.size ≤ O; have := HOe.out; omega) (.slice (some ⟨w10.heap.size, 0, none⟩) 1 1)
                  have hsp := (hs10.ext hX).apart (by have := HOe.out; omega : b < O) ((Apart.refl O _).set_ 3 (.slice (some ⟨w10.heap.size, 0, none⟩) 1 1))
                  have hszO := hO.lt
                  have hO2 := hOX.set_ 3 (.slice (some ⟨w10.heap.size, 0, none⟩) 1 1)
                  have hon2 : OwnI ((w10.alloc (.cells #[.int .i64 r] 3)).setCell ⟨O, 3, none⟩ (.slice (some ⟨w10.heap.size, 0, none⟩) 1 1)) (O + 1) 3 (.slice (some ⟨w10.heap.size, 0, none⟩) 1 1) [r] :=
                    OwnI.far (xs := [r]) ⟨by simp [maxLen], .inr ⟨_, 1, _, rfl, by omega, hb10, Nat.le_refl _, by simp [maxLen], rfl, rfl⟩⟩ hOX (by decide) 3 _
                  rw [World.setCell_alloc_past _ _ _ _ hszO] at hA hsp hO2 hon2
                  have hrg : Hid (∀ x, x ∈ [r] → (0 : Int) ≤ x ∧ x < (la.length : Int)) := fun x hx => by rw [List.mem_singleton] at hx; subst hx; omega
                  have Hon2 := Lib.hid hon2
                  clear hup hs10 ha10 p0 p1 p2 p3 k0 k1 k2 hO hOX hX hb10 hon2
                  go_wp2_with fail
                  go_meet
                  exact ⟨[r], _, by unfold Hid; simp, hrg, rfl, hA, hsp.mono (by omega), hO2, Hon2⟩
                · go_wp2_with fail
                  go_meet
                  exact ⟨on, _, by unfold Hid; refine ⟨fun h => ?_, by omega⟩; subst h; simp at hz, Honr, honu, hA, hsp.mono (by omega), hO, Hon⟩
              case rest =>
                clear hA hsp hO Hon p0 p1 p2 p3 k0 k1 k2 hup Honr honu Hz
                obtain ⟨on, v3, hne, hrg, hup, hA, hsp, hO, hon⟩ := hcut
                have honl := hne.out.2
                have hS9 := HSe.out.turn hA hsp
                obtain ⟨cs, o1, o2⟩ := hS9.o2
                obtain ⟨A2, c2, rfl⟩ := ownsRow_slice o1
                obtain ⟨A4, c4, rfl, r1, r2, r3, r4, r5⟩ := hon.out.open_
                obtain ⟨p0, p1, p2, p3⟩ := hO.c4
                obtain ⟨k0, k1, k2⟩ := hS9.bm.c3
                have hX9 := Ext.alloc wc (.cells #[.int .i64 pat, .int .i64 dy, .int .i64 yy, .slice A4 on.length c4] 28)
                have hsrc := Src.list wc [.int .i64 pat, .int .i64 dy, .int .i64 yy, .slice A4 on.length c4] 28
                have hpO := fun v2' w' => MkS.pushO (W' := w') (v2' := v2') (x := ⟨pat, dy, yy, on⟩) (hS9.ext hX9) (ownsRow_ext2 o1 hX9) (o2.map fun _ _ g => g.ext hX9) ((hon.out.ext hX9).mono (by have := HOe.out; omega))
                have o1x := ownsRow_ext2 o1 hX9
                have hszM := (hS9.ext hX9).bm.lt
                have HpO := Lib.hid hpO
                have Ho2 := Lib.hid o2
                clear hpO r3 r4 r5 o2 o1
                go_wp2_with (at_builtin; refine wpList_app rfl _ _ 23 rfl (M + 1) 28 ti2 _ 4 48 Tryz.underlying23 hi2 hy0 hy1 hy2 rfl (by decide) (.slice A2 os.length c2) os.length cs rfl o1x (some ⟨wc.heap.size, 0, none⟩) 1 1 [.int .i64 pat, .int .i64 dy, .int .i64 yy, .slice A4 on.length c4] rfl rfl hsrc ?c2 ?c3 ?c4 ?c5 ?_; (case c2 => (intro u hu; simp only [List.mem_cons, List.not_mem_nil, or_false] at hu; rcases hu with rfl | rfl | rfl | rfl <;> rfl)); (case c3 => (unfold maxLen; omega)); (case c4 => omega); (case c5 => omega); intro v' w12 hown hg hblk; obtain ⟨q0, q1, hS12⟩ := HpO.out v' w12 hown hg; obtain ⟨A9, c9, rfl⟩ := ownsRow_slice hown; have HS12 := Lib.hid hS12; clear hS12 hsrc)
                go_roundw
                case rel =>
                  refine ⟨os.length + 1, os ++ [⟨pat, dy, yy, on⟩], _, by omega, by go_num, by simp, ?_, Lib.hid (HS12.out.monoK (by omega))⟩
                  intro o ho
                  rcases List.mem_append.1 ho with h | h
                  · exact hox.out o h
                  · rw [List.mem_singleton] at h; subst h
                    exact ⟨⟨hp1, by show pat ≤ 9; omega⟩, ⟨hd1, by show dy ≤ 20; omega⟩, ⟨by show 1 ≤ yy; omega, by show yy ≤ 99; omega⟩, hne.out.1, hrg.out, hup.out⟩
                case measure => simp [intOf]; omega
        · obtain rfl : os.length = Nn := by omega
          have hS9 := hS.out
          have hbr : Blk wr w.heap.size 25 #[.slice none 0 0, .int .i64 0, .slice none 0 0] := by rw [hR'.out]; exact hS9.br
          have hfin : ∀ u0 u1 u2, MkS w b w.heap.size M (M + 1) la ch os (k + 20 + 20 * os.length) v1 v2 wr → OwnI (((wr.setCell ⟨w.heap.size, 0, none⟩ u0).setCell ⟨w.heap.size, 1, none⟩ u1).setCell ⟨w.heap.size, 2, none⟩ u2) (M + 1) 3 v1 la ∧
              OwnOB (((wr.setCell ⟨w.heap.size, 0, none⟩ u0).setCell ⟨w.heap.size, 1, none⟩ u1).setCell ⟨w.heap.size, 2, none⟩ u2) (M + 1) v2 os ∧ Blk (((wr.setCell ⟨w.heap.size, 0, none⟩ u0).setCell ⟨w.heap.size, 1, none⟩ u1).setCell ⟨w.heap.size, 2, none⟩ u2) w.heap.size 25 #[u0, u1, u2] ∧
              SpoolAt (((wr.setCell ⟨w.heap.size, 0, none⟩ u0).setCell ⟨w.heap.size, 1, none⟩ u1).setCell ⟨w.heap.size, 2, none⟩ u2) b 2000 ∧ Apart b w (((wr.setCell ⟨w.heap.size, 0, none⟩ u0).setCell ⟨w.heap.size, 1, none⟩ u1).setCell ⟨w.heap.size, 2, none⟩ u2) := by
            intro u0 u1 u2 h
            have b1 := h.br
            have b2 := b1.set_ 0 u0
            have b3 := b2.set_ 1 u1
            have b4 := b3.set_ 2 u2
            have hAp := (((Apart.refl w.heap.size wr).set_ 0 u0).set_ 1 u1).set_ 2 u2
            refine ⟨((h.o1.far b1 (by decide) 0 u0).far b2 (by decide) 1 u1).far b3 (by decide) 2 u2, ((h.o2.far b1 (by decide) (.inl (by decide)) 0 u0).far b2 (by decide) (.inl (by decide)) 1 u1).far b3 (by decide) (.inl (by decide)) 2 u2, by simpa [zeroM] using b4, (h.sp.mono (by omega)).apart h.lt.1 hAp, ?_⟩
            exact ((h.ap.above (p := ⟨w.heap.size, 0, none⟩) (Nat.le_refl _) _).above (p := ⟨w.heap.size, 1, none⟩) (Nat.le_refl _) _).above (p := ⟨w.heap.size, 2, none⟩) (Nat.le_refl _) _
          have Hfin := Lib.hid (fun u0 u1 u2 => hfin u0 u1 u2 (by rw [hR'.out]; exact hS9))
          clear hfin
          obtain ⟨A1, c1, rfl, r1, r2, r3, _, _⟩ := hS9.o1.open_
          obtain ⟨A2, c2, rfl, r4, r5, r6⟩ := hS9.o2.ords
          obtain ⟨k0, k1, k2⟩ := hS9.bm.c3
          obtain ⟨y0, y1, y2⟩ := hbr.c3
          have f0 := hbr.frozen 0; have f1 := hbr.frozen 1; have f2 := hbr.frozen 2
          clear r3 r6 hS9 hS hbr
          go_wp2_with fail
          obtain ⟨e1, e2, e3, e4, e5⟩ := Hfin.out (.slice A1 la.length c1) (.int .i64 ch) (.slice A2 os.length c2)
          clear k0 k1 k2 y0 y1 y2 f0 f1 f2
          obtain ⟨A1', c1', h1', _, _, r3, _, _⟩ := e1.open_
          obtain ⟨A2', c2', h2', _, _, r6⟩ := e2.ords
          simp only [Value.slice.injEq, true_and] at h1' h2'
          obtain ⟨rfl, rfl⟩ := h1'
          obtain ⟨rfl, rfl⟩ := h2'
          obtain ⟨v0, v1', v2'⟩ := e3.c3
          refine bodyPost_ret (v := .agg #[.slice A1 la.length c1, .int .i64 ch, .slice A2 os.length c2]) ?_ rfl ⟨_, ⟨la, ch, os⟩, rfl, ⟨A1, c1, A2, c2, rfl, r1, r2, r4, r5, r3, r6⟩, ⟨⟨by show 1 ≤ la.length; omega, by show la.length ≤ 3; omega⟩, by show os.length ≤ 7; omega, hlx.out, ⟨hc1, by show ch ≤ 5; omega⟩, hox.out⟩, by show (la.length : Int) ≤ _; omega, by show (os.length : Int) ≤ _; omega, e4, e5⟩
          simp [results, Tryz.results20, go_sem, v0, v1', v2']
end Go.Proofs.Pet
