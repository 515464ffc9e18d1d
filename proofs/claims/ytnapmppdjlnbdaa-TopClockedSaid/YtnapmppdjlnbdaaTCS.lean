/-
  Attics with a truth made of numbers, walked: law10's Made.
-/
import Derived.Test.YtnapmppdjlnbdaaJ09
import Derived.Lib.MinMax
import Derived.Test.YtnapmppdjlnbdaaJ11
namespace Go.Proofs.Pet
set_option linter.unusedSimpArgs false
open Go Go.RowKit Go.Maps Go.Shelf
open Go.Proofs.Clk (Cl Rd Gp Att shF MadeC)

theorem wpList_rowStore {ops : Array Oper} {rest : List Oper} {op : Oper} {a : Act} {w : World} {Q : Exit → Act → World → Prop} (hgd : op.guard = none) (ty : TypeId) (x y : Operand) (ho : op.op = .store ty x y)
    (b : Nat) (hx : a.eval x = .pointer (some ⟨b, 0, none⟩)) (cs : Array Value) (hB : Blk w b ty cs) (g : Array Value) (hy : a.eval y = .agg g) (hs : (Try.prog.info? ty).map (·.size) = some g.size) (he : g.size = cs.size) (h1 : g.all (·.oneCell') = true) (h : wpList Try.prog ops Q rest (a.put op.dst undef) (w.setRow b g)) : wpList Try.prog ops Q (op :: rest) a w :=
  wpList_plain hgd fun K hK => by
    unfold Oper.wp execOp
    simp only [ho, hx, hy, Instr.storeAt, Instr.sureAddr, Sem.run_bind, Sem.run_pure, Result.andThen_ok, run_storeVar_row (P := Try.prog) w b ty ty cs g hB hs he.symm h1]
    exact hK _ _ h
set_option maxRecDepth 100000 in
set_option maxHeartbeats 16000000 in
theorem madeC_any (b : Nat) (w : World) (hs : SpoolAt w b 0) :
    Calls Try.prog 4 #[.pointer (some ⟨b, 0, none⟩), .int .i64 200, .int .i64 4, .int .i64 2, .int .i64 4] w fun e w' => ∃ v, ∃ B1 B2 B3 : Option Addr, ∃ l1 k1 l2 k2 l3 k3 : Nat, ∃ a : Att, ∃ S G T : List Int, e = .returned (.tuple #[v, .agg #[.slice B1 l1 k1, .slice B2 l2 k2, .slice B3 l3 k3]]) ∧ AttVal w' v a ∧ OwnI w' w.heap.size 3 (.slice B3 l3 k3) T ∧ MadeC a S G T ∧ Apart b w w' := by
  obtain ⟨ti, hi, hz0, hz1, hz2⟩ := info_parts info_int
  obtain ⟨tc, hic, hc0, hc1, hc2⟩ := info_parts info_Cl
  obtain ⟨tg, hig, hg0, hg1, hg2⟩ := info_parts info_Gp
  obtain ⟨tr, hir, hr0, hr1, hr2⟩ := info_parts info_rd
  have hX : Ext w ((w.alloc (.cells Z5 27)).alloc (.cells Z3 30)) := (Ext.alloc _ _).trans (Ext.alloc _ _)
  have hR := (Blk.new w 27 Z5).alloc (.cells Z3 30)
  have hQ := Blk.new (w.alloc (.cells Z5 27)) 30 Z3
  rw [World.size_alloc] at hQ
  have hbl := hs.lt
  have HR := Lib.hid hR; have HQ := Lib.hid hQ
  have hf1 := Lib.hid (from_any b 0 (by omega) 1 200 (by omega) 200 (by omega) _ (hs.ext hX))
  have HA := Lib.hid (Apart.of_ext (b := b) hX)
  unfold Z5 Z3 at hf1
  clear hX hR hQ hs
  go_enter Try.func4, Try.ntmps4
  go_wp2_with fail
  refine hf1.out.mono ?_
  rintro e w1 ⟨mi, rfl, hm1, hm2, hs1, ha1⟩
  have HA1 := Lib.hid (HA.out.trans ha1)
  have HR1 := Lib.hid (HR.out.apart (by omega) ha1); have HQ1 := Lib.hid (HQ.out.apart (by omega) ha1)
  have hf2 := Lib.hid (from_any b 1 (by omega) 1 4 (by omega) 4 (by omega) _ hs1)
  clear hf1 HA HR HQ hs1 ha1
  go_wp2_with fail
  refine hf2.out.mono ?_
  rintro e w2 ⟨ev, rfl, he1, he2, hs2, ha2⟩
  have hX2 : Ext w2 ((w2.alloc (.cells #[.int .i64 mi, .int .i64 ev, .slice none 0 0, .slice none 0 0, .slice none 0 0] 27)).alloc (.cells Z3 30)) := (Ext.alloc _ _).trans (Ext.alloc _ _)
  have hO := (Blk.new w2 27 #[.int .i64 mi, .int .i64 ev, .slice none 0 0, .slice none 0 0, .slice none 0 0]).alloc (.cells Z3 30)
  have hT := Blk.new (w2.alloc (.cells #[.int .i64 mi, .int .i64 ev, .slice none 0 0, .slice none 0 0, .slice none 0 0] 27)) 30 Z3
  rw [World.size_alloc] at hT
  have hR2 := HR1.out.apart (by omega) ha2
  have hQ2 := HQ1.out.apart (by omega) ha2
  have hbig : w.heap.size + 1 < w2.heap.size := hQ2.lt
  have HS : Hid (MkC w b w2.heap.size (w2.heap.size + 1) (w2.heap.size + 2) 2 ⟨mi, ev, [], [], []⟩ [] [] [] (.slice none 0 0) (.slice none 0 0) (.slice none 0 0) (.slice none 0 0) (.slice none 0 0) (.slice none 0 0) ((w2.alloc (.cells #[.int .i64 mi, .int .i64 ev, .slice none 0 0, .slice none 0 0, .slice none 0 0] 27)).alloc (.cells Z3 30))) :=
    ⟨⟨(HA1.out.trans ha2).trans (Apart.of_ext hX2), hs2.ext hX2, hR2.ext hX2, hQ2.ext hX2, hO, hT, by omega, by omega, by omega, by omega⟩, ⟨World.ownsRow_nil _ _ _ _, World.ownsRow_nil _ _ _ _, World.ownsRow_nil _ _ _ _⟩, OwnI.nil _ _ _, OwnI.nil _ _ _, OwnI.nil _ _ _, NoCom.nil _, NoCom.nil _, NoCom.nil _⟩
  obtain ⟨o0, o1, o2, o3, o4⟩ := hO.c5
  unfold Z3 at o0 o1 o2 o3 o4 HS
  clear hf2 HA1 HR1 HQ1 hX2 hO hT hR2 hQ2 hs2 ha2
  go_wp2_with fail
  obtain ⟨O, hO⟩ : ∃ O, w2.heap.size = O := ⟨_, rfl⟩
  rw [hO] at HS hbig ⊢
  clear hO o0 o1 o2 o3 o4
  generalize (w2.alloc _).alloc _ = w3 at *
  obtain ⟨N, hN⟩ : ∃ N : Nat, ev = (N : Int) := ⟨ev.toNat, by omega⟩
  subst hN
  go_loopw [27] (fun iv wr => ∃ i : Nat, ∃ T : List Int, ∃ tv : Value, i ≤ N ∧ iv = .int .i64 (i : Int) ∧ T.length = i ∧ Hid (∀ t, t ∈ T → 0 ≤ t ∧ t ≤ mi) ∧ Hid (MkC w b O (O + 1) (O + 2) (2 + i) ⟨mi, N, [], [], []⟩ [] [] T (.slice none 0 0) (.slice none 0 0) (.slice none 0 0) (.slice none 0 0) (.slice none 0 0) tv wr)) (fun iv _ => N - (intOf iv).toNat)
  case atStart => exact ⟨0, [], _, Nat.zero_le _, rfl, rfl, Lib.hid (fun t h => by cases h), HS⟩
  case round =>
    clear HS
    obtain ⟨i, T, tv, hi', rfl, hTl, hTb, hS⟩ := hrel
    by_cases hlt : i < N
    · -- <<A
      subst hTl
      obtain ⟨At, ct, rfl⟩ := ownsRow_slice hS.out.ot
      have k0 := hS.out.bk.bt.c3.2.2
      have k1 := hS.out.bk.bo.c5.1
      go_upto_region 5 with fail
      refine wp_region_chainG (fun W => W.cell? ⟨O + 1, 2, none⟩ = some (.slice At T.length ct) ∧ W.cell? ⟨O, 0, none⟩ = some (.int .i64 mi)) (⟨k0, k1⟩) 9 [(5, true), (6, true), (7, false), (8, false)] [] (by kernel_rfl) (by kernel_rfl) (by kernel_rfl) ?_
      simp only [List.take, List.drop, fill, Act.put, List.setIfInBounds_toArray, List.set_cons_zero, List.set_cons_succ, Nat.reduceAdd]
      repeat (first
        | refine Floats.mut rfl ?_
        | (apply Floats.float rfl
           · intro x W he hd K Q hK
             try (have he := he (by decide); obtain ⟨k0, k1⟩ := he)
             try simp only [edges, DepsE, List.filter_cons, List.filter_nil, Region.binds, if_true, and_true, true_and, upd, Nat.reduceEqDiff, if_false] at hd
             try simp only [hd] at hK ⊢
             have HK := Lib.hid hK; clear hK
             go_wp2_with fail
             exact HK.out))
      refine Floats.done fun W he hG => ?_
      have hS1 := hS.out.ext he
      have hu := Lib.hid (upto_any b _ (by omega) mi (by omega) mi (by omega) W hS1.bk.sp)
      clear hG k0 k1
      refine Chain.cons _ rfl ?_
      intro x hd K Q hK
      try simp only [edges, DepsE, List.filter_cons, List.filter_nil, Region.binds, if_true, and_true, true_and, upd, Nat.reduceEqDiff, if_false] at hd
      try simp only [hd] at hK ⊢
      clear hd
      have HK := Lib.hid hK; clear hK
      go_wp2_with fail
      refine hu.out.mono ?_
      rintro e w4 ⟨xv, rfl, hx1, hx2, hs4, ha4⟩
      have hS2 := hS1.turn ha4 hs4
      clear hu hS1 ha4 hs4
      go_wp2_with fail
      refine HK.out _ _ (fun _ => ⟨hS2.bk.bt.c3.2.2, hS2.bk.bo.c5.1⟩) ?_
      clear HK
      refine Chain.cons _ rfl ?_
      intro x hd K Q hK
      try simp only [edges, DepsE, List.filter_cons, List.filter_nil, Region.binds, if_true, and_true, true_and, upd, Nat.reduceEqDiff, if_false] at hd
      try simp only [hd] at hK ⊢
      clear hd
      have HK := Lib.hid hK; clear hK
      have hb5 := Ext.alloc w4 (.cells #[.int .i64 xv] 3)
      have hS3 := hS2.ext hb5
      have hsrc := Src.one w4 (.int .i64 xv) 3
      go_wp2_with fail
      refine HK.out _ _ (fun _ => ⟨hS3.bk.bt.c3.2.2, hS3.bk.bo.c5.1⟩) ?_
      clear HK
      refine Chain.cons _ rfl ?_
      intro x hd K Q hK
      try simp only [edges, DepsE, List.filter_cons, List.filter_nil, Region.binds, if_true, and_true, true_and, upd, Nat.reduceEqDiff, if_false] at hd
      try simp only [hd] at hK ⊢
      clear hd
      have HK := Lib.hid hK; clear hK
      have hsz5 := hS3.bk.bt.lt
      refine wpList_app rfl _ _ 28 rfl (O + 2) 3 ti (.int .i64 0) 1 8 Try.underlying28 hi hz0 hz1 hz2 rfl (by decide) (.slice At T.length ct) T.length _ rfl hS3.ot (some ⟨w4.heap.size, 0, none⟩) 1 _ [.int .i64 xv] rfl rfl hsrc (fun u hu => by
        rw [List.mem_singleton] at hu; subst hu; rfl) (by simp only [maxLen]; omega) (by omega) (by omega) ?_
      intro v' w5 hown hg hblk
      obtain ⟨⟨q0, q1⟩, hS6⟩ := hS3.pushT (x := xv) hown hg hblk
      have HS6 := Lib.hid hS6; clear hS6
      obtain ⟨A9, c9, rfl⟩ := ownsRow_slice hown
      refine HK.out _ _ (fun h => by cases h) ?_
      clear HK
      refine Chain.cons _ rfl ?_
      intro x hd K Q hK
      try simp only [edges, DepsE, List.filter_cons, List.filter_nil, Region.binds, if_true, and_true, true_and, upd, Nat.reduceEqDiff, if_false] at hd
      try simp only [hd] at hK ⊢
      clear hd
      have HK := Lib.hid hK; clear hK
      go_wp2_with fail
      refine HK.out _ _ (fun h => by cases h) ?_
      clear HK
      refine Chain.nil ?_
      simp only [upd, Nat.reduceEqDiff, if_false, if_true]
      clear hS2 hS3 hsrc hown hg hblk hb5
      go_wp2_with fail
      go_roundw
      case rel => exact ⟨T.length + 1, T ++ [xv], _, by omega, by go_num, by simp, Lib.hid (fun t ht => by
        rcases List.mem_append.1 ht with h | h
        · exact hTb.out t h
        · rw [List.mem_singleton] at h; subst h; exact ⟨hx1, hx2⟩), Lib.hid (HS6.out.monoK (by omega))⟩
      case measure => simp [intOf]; omega
      -- >>
    · -- <<B
      obtain rfl : i = N := by omega
      have hS6 := Lib.hid (hS.out.monoK (show 2 + i ≤ 6 by omega))
      have hu := Lib.hid (upto_any b _ (by omega) 2 (by omega) 2 (by omega) wr hS6.out.bk.sp)
      clear hS
      go_wp2_with fail
      refine hu.out.mono ?_
      rintro e w4 ⟨nc, rfl, hn1, hn2, hs4, ha4⟩
      have hS7 := Lib.hid (hS6.out.turn ha4 hs4)
      clear hu hS6 hs4 ha4
      obtain ⟨M, hM⟩ : ∃ M : Nat, nc = (M : Int) := ⟨nc.toNat, by omega⟩
      subst hM
      go_wp2_with fail
      go_loopw [42] (fun iv wr => ∃ j : Nat, ∃ cs : List Cl, ∃ S G : List Int, ∃ cv sv nv : Value, j ≤ M ∧ iv = .int .i64 (j : Int) ∧ Hid (cs.length = j) ∧ Hid (S.length = j) ∧ Hid (G.length = j) ∧ Hid (MadeC ⟨mi, i, cs, [], []⟩ S G T) ∧ Hid (MkC w b O (O + 1) (O + 2) (7 + 6 * j) ⟨mi, i, cs, [], []⟩ S G T cv (.slice none 0 0) (.slice none 0 0) sv nv tv wr)) (fun iv _ => M - (intOf iv).toNat)
      case atStart => exact ⟨0, [], [], [], _, _, _, Nat.zero_le _, rfl, rfl, rfl, rfl, Lib.hid (MadeC.start ⟨hm1, hm2⟩ (by omega) hTl hTb.out), hS7⟩
      case round =>
        clear hS7 hTb
        obtain ⟨j, cs, S, G, cv, sv, nv, hj, rfl, hcl, hSl, hGl, hM, hS⟩ := hrel
        by_cases hlj : j < M
        · -- <<C
          obtain ⟨Ac, cc, rfl⟩ := ownsRow_slice hS.out.at_.cl
          obtain ⟨As, cs', rfl⟩ := ownsRow_slice hS.out.os
          obtain ⟨Ag, cg, rfl⟩ := ownsRow_slice hS.out.on
          have hj2 : j < 2 := by omega
          have hcs2 : cs.length < 2 := by have := hcl.out; omega
          have hS2' : S.length < 2 := by have := hSl.out; omega
          have hG2' : G.length < 2 := by have := hGl.out; omega
          have hf1 := Lib.hid (from_any b _ (by omega) (-60) 60 (by omega) 60 (by omega) wr hS.out.bk.sp)
          go_wp2_with fail
          refine hf1.out.mono ?_
          rintro e w4 ⟨se, rfl, hse1, hse2, hs4, ha4⟩
          have hS4 := Lib.hid (hS.out.turn ha4 hs4)
          have hf2 := Lib.hid (from_any b _ (by omega) (-30) 30 (by omega) 30 (by omega) w4 hs4)
          clear hf1 hs4 ha4
          go_wp2_with fail
          refine hf2.out.mono ?_
          rintro e w5 ⟨ge, rfl, hge1, hge2, hs5, ha5⟩
          have hS5 := Lib.hid (hS4.out.turn ha5 hs5)
          clear hf2 hs5 ha5 hS4 hS
          go_upto_region 10 with fail
          have k0 := hS5.out.bk.bo.c5.2.2.1
          refine wp_region_chainG (fun W => W.cell? ⟨O, 2, none⟩ = some (.slice Ac cs.length cc)) (k0) 12 [(4, true), (7, true), (8, true), (9, true), (10, false), (11, false)] [] (by kernel_rfl) (by kernel_rfl) (by kernel_rfl) ?_
          simp only [List.take, List.drop, fill, Act.put, List.setIfInBounds_toArray, List.set_cons_zero, List.set_cons_succ, Nat.reduceAdd]
          repeat (first
            | refine Floats.mut rfl ?_
            | (apply Floats.float rfl
               · intro x W he hd K Q hK
                 try (have he := he (by decide); have k0 : W.cell? _ = some _ := he)
                 try simp only [edges, DepsE, List.filter_cons, List.filter_nil, Region.binds, if_true, and_true, true_and, upd, Nat.reduceEqDiff, if_false] at hd
                 try simp only [hd] at hK ⊢
                 have HK := Lib.hid hK; clear hK
                 go_wp2_with fail
                 exact HK.out))
          refine Floats.done fun W he hG => ?_
          have hS6 := hS5.out.ext he
          have hr1 := Lib.hid (around_any b _ (by omega) se 3 60 (by omega) (by omega) (by omega) W hS6.bk.sp)
          clear hG k0
          refine Chain.cons _ rfl ?_
          intro x hd K Q hK
          try simp only [edges, DepsE, List.filter_cons, List.filter_nil, Region.binds, if_true, and_true, true_and, upd, Nat.reduceEqDiff, if_false] at hd
          try simp only [hd] at hK ⊢
          clear hd
          have HK := Lib.hid hK; clear hK
          go_wp2_with fail
          refine hr1.out.mono ?_
          rintro e w6 ⟨lo, hi', rfl, hlh, hs6, ha6⟩
          have hS7 := hS6.turn ha6 hs6
          have hr2 := Lib.hid (around_any b _ (by omega) ge 3 30 (by omega) (by omega) (by omega) w6 hs6)
          clear hr1 hS6 ha6 hs6
          go_wp2_with fail
          refine HK.out _ _ (fun _ => hS7.bk.bo.c5.2.2.1) ?_
          clear HK
          refine Chain.cons _ rfl ?_
          intro x hd K Q hK
          try simp only [edges, DepsE, List.filter_cons, List.filter_nil, Region.binds, if_true, and_true, true_and, upd, Nat.reduceEqDiff, if_false] at hd
          try simp only [hd] at hK ⊢
          clear hd
          have HK := Lib.hid hK; clear hK
          go_wp2_with fail
          refine hr2.out.mono ?_
          rintro e w7 ⟨lo2, hi2, rfl, hlh2, hs7, ha7⟩
          have hS8 := hS7.turn ha7 hs7
          clear hr2 hS7 ha7 hs7
          go_wp2_with fail
          refine HK.out _ _ (fun _ => hS8.bk.bo.c5.2.2.1) ?_
          clear HK
          refine Chain.cons _ rfl ?_
          intro x hd K Q hK
          try simp only [edges, DepsE, List.filter_cons, List.filter_nil, Region.binds, if_true, and_true, true_and, upd, Nat.reduceEqDiff, if_false] at hd
          try simp only [hd] at hK ⊢
          clear hd
          have HK := Lib.hid hK; clear hK
          go_wp2_with fail
          refine HK.out _ _ (fun _ => hS8.bk.bo.c5.2.2.1) ?_
          clear HK
          refine Chain.cons _ rfl ?_
          intro x hd K Q hK
          try simp only [edges, DepsE, List.filter_cons, List.filter_nil, Region.binds, if_true, and_true, true_and, upd, Nat.reduceEqDiff, if_false] at hd
          try simp only [hd] at hK ⊢
          clear hd
          have HK := Lib.hid hK; clear hK
          have hb5 := Ext.alloc w7 (.cells #[.int .i64 lo, .int .i64 hi', .int .i64 lo2, .int .i64 hi2] 64)
          have hS9 := hS8.ext hb5
          have hsrcB := Blk.new w7 64 #[.int .i64 lo, .int .i64 hi', .int .i64 lo2, .int .i64 hi2]
          have hsrc : Src (w7.alloc (.cells #[.int .i64 lo, .int .i64 hi', .int .i64 lo2, .int .i64 hi2] 64)) (some ⟨w7.heap.size, 0, none⟩) [.int .i64 lo, .int .i64 hi', .int .i64 lo2, .int .i64 hi2] := .inr ⟨_, rfl, fun j x hj => by
            have e : (⟨w7.heap.size, 0, none⟩ : Addr).add j = ⟨w7.heap.size, j, none⟩ := by rw [addr_add]; simp
            rw [e, hsrcB.cell]
            simpa using hj⟩
          go_wp2_with fail
          refine HK.out _ _ (fun _ => hS9.bk.bo.c5.2.2.1) ?_
          clear HK
          refine Chain.cons _ rfl ?_
          intro x hd K Q hK
          try simp only [edges, DepsE, List.filter_cons, List.filter_nil, Region.binds, if_true, and_true, true_and, upd, Nat.reduceEqDiff, if_false] at hd
          try simp only [hd] at hK ⊢
          clear hd
          have HK := Lib.hid hK; clear hK
          have hsz5 := hS9.bk.bt.lt
          refine wpList_app rfl _ _ 23 rfl (O + 2) 64 tc (.agg #[.int .i64 0, .int .i64 0, .int .i64 0, .int .i64 0]) 4 32 Try.underlying23 hic hc0 hc1 hc2 rfl (by decide) (.slice Ac cs.length cc) cs.length _ rfl hS9.at_.cl (some ⟨w7.heap.size, 0, none⟩) 1 _ [.int .i64 lo, .int .i64 hi', .int .i64 lo2, .int .i64 hi2] rfl rfl hsrc (fun u hu => by
            simp only [List.mem_cons, List.not_mem_nil, or_false] at hu
            rcases hu with rfl | rfl | rfl | rfl <;> rfl) (by simp only [maxLen]; omega) (by omega) (by omega) ?_
          intro v' w8 hown hg hblk
          obtain ⟨⟨q0, q1⟩, hS10⟩ := hS9.pushC (x := ⟨lo, hi', lo2, hi2⟩) hown hg
          have HS10 := Lib.hid hS10; clear hS10
          obtain ⟨A9, c9, rfl⟩ := ownsRow_slice hown
          refine HK.out _ _ (fun h => by cases h) ?_
          clear HK
          refine Chain.cons _ rfl ?_
          intro x hd K Q hK
          try simp only [edges, DepsE, List.filter_cons, List.filter_nil, Region.binds, if_true, and_true, true_and, upd, Nat.reduceEqDiff, if_false] at hd
          try simp only [hd] at hK ⊢
          clear hd
          have HK := Lib.hid hK; clear hK
          go_wp2_with fail
          refine HK.out _ _ (fun h => by cases h) ?_
          clear HK
          refine Chain.nil ?_
          simp only [upd, Nat.reduceEqDiff, if_false, if_true]
          clear hS8 hS9 hsrc hsrcB hown hg hblk hb5 hS5
          go_upto_region 11 with fail
          clear q0 q1
          generalize w8.setCell _ _ = w9 at *
          have k0 := HS10.out.bk.bt.c3.1
          have k1 := HS10.out.bk.bt.c3.2.1
          refine wp_region_treeG (fun W => W.cell? ⟨O + 1, 0, none⟩ = some (.slice As S.length cs') ∧ W.cell? ⟨O + 1, 1, none⟩ = some (.slice Ag G.length cg)) (⟨k0, k1⟩) 13 [(3, true), (4, true), (8, true), (9, true), (11, false)] [12] (by kernel_rfl) (by kernel_rfl) (by kernel_rfl) (ds := [0, 1, 2, 5, 6, 7]) (by kernel_rfl) ?_
          simp only [List.take, List.drop, fill, Act.put, List.setIfInBounds_toArray, List.set_cons_zero, List.set_cons_succ, Nat.reduceAdd]
          repeat (first
            | (apply Unlock.float rfl
               · intro x W he hd K Qr hK
                 try (have he := he (by decide); obtain ⟨k0, k1⟩ := he)
                 try simp only [edges, DepsE, List.filter_cons, List.filter_nil, Region.binds, if_true, and_true, true_and, upd, Nat.reduceEqDiff, if_false] at hd
                 try simp only [hd] at hK ⊢
                 have HK := Lib.hid hK; clear hK
                 go_wp2_with fail
                 exact HK.out))
          refine Unlock.nil ?_
          intro W he hG
          have HX0 := Lib.hid (HS10.out.x.ext he)
          have cel : ∀ {S' : List Int} {u : Value} {W' : World}, MkX w b O (O + 1) (O + 2) (7 + 6 * j + 1 + 1 + 2 + 2) ⟨mi, i, cs ++ [⟨lo, hi', lo2, hi2⟩], [], []⟩ S' G T (.slice A9 (cs.length + 1) c9) (.slice none 0 0) (.slice none 0 0) (.slice As S.length cs') (.slice Ag G.length cg) u (.slice Ag G.length cg) tv W' → W'.cell? ⟨O + 1, 0, none⟩ = some (.slice As S.length cs') ∧ W'.cell? ⟨O + 1, 1, none⟩ = some (.slice Ag G.length cg) := fun h => ⟨h.bk.bt.c3.1, h.bk.bt.c3.2.1⟩
          refine Tree.cut (f' := 2) (rem' := [(9, true), (11, false)]) (fun y y' W6 => ∃ (vb1 : Nat) (A5 : Option Addr) (c5 vb2 : Nat), y' = upd (upd (upd (upd y 3 (.slice (some ⟨vb1, 0, none⟩) 1 1)) 4 (.slice A5 (S.length + 1) c5)) 10 (.pointer (some ⟨O + 1, 0, none⟩))) 8 (.slice (some ⟨vb2, 0, none⟩) 1 1) ∧ MkX w b O (O + 1) (O + 2) (7 + 6 * j + 1 + 1 + 2 + 2) ⟨mi, i, cs ++ [⟨lo, hi', lo2, hi2⟩], [], []⟩ (S ++ [se]) G T (.slice A9 (cs.length + 1) c9) (.slice none 0 0) (.slice none 0 0) (.slice As S.length cs') (.slice Ag G.length cg) (.slice A5 (S.length + 1) c5) (.slice Ag G.length cg) tv W6 ∧ Blk W6 vb2 3 #[.int .i64 ge]) ?_ ?_
          · -- <<P
            rintro y' W6 ⟨vb1, A5, c5, vb2, rfl, hX6, hb6⟩
            clear hG he k0 k1
            have hsrc := Src.blk hb6
            have hsz6 := hX6.bk.bt.lt
            refine Tree.next (ks := [(9, true)]) (by kernel_rfl) ?_
            refine TSteps.cons _ rfl ?_ trivial
            intro x hd K Qr hK
            try simp only [edges, DepsE, List.filter_cons, List.filter_nil, Region.binds, if_true, and_true, true_and, upd, Nat.reduceEqDiff, if_false] at hd
            try simp only [hd] at hK ⊢
            clear hd
            have HK := Lib.hid hK; clear hK
            refine wpList_app rfl _ _ 28 rfl (O + 2) 3 ti (.int .i64 0) 1 8 Try.underlying28 hi hz0 hz1 hz2 rfl (by decide) (.slice Ag G.length cg) G.length _ rfl hX6.on (some ⟨vb2, 0, none⟩) 1 1 [.int .i64 ge] rfl rfl hsrc (fun u hu => by
                rw [List.mem_singleton] at hu; subst hu; rfl) (by simp only [maxLen]; omega) (by omega) (by omega) ?_
            intro v7 w7' hown hg hblk
            obtain ⟨A7, c7, rfl⟩ := ownsRow_slice hown
            have hX7 := hX6.growN (x := ge) hown hg hblk
            refine HK.out _ _ (fun _ => ⟨hX7.bk.bt.c3.1, hX7.bk.bt.c3.2.1⟩) ?_
            clear HK hX6 hb6 hsrc hown hg hblk hsz6
            refine Unlock.of (ds := []) (by kernel_rfl) ?_
            repeat (first
              | (apply Unlock.float rfl
                 · intro x W he hd K Qr hK
                   try (have he := he (by decide); skip)
                   try simp only [edges, DepsE, List.filter_cons, List.filter_nil, Region.binds, if_true, and_true, true_and, upd, Nat.reduceEqDiff, if_false] at hd
                   try simp only [hd] at hK ⊢
                   have HK := Lib.hid hK; clear hK
                   go_wp2_with fail
                   exact HK.out))
            refine Unlock.nil ?_
            refine Tree.next (ks := [(11, false)]) (by kernel_rfl) ?_
            refine TSteps.cons _ rfl ?_ trivial
            intro x hd K Qr hK
            try simp only [edges, DepsE, List.filter_cons, List.filter_nil, Region.binds, if_true, and_true, true_and, upd, Nat.reduceEqDiff, if_false] at hd
            try simp only [hd] at hK ⊢
            clear hd
            have HK := Lib.hid hK; clear hK
            have q0 := hX7.bk.bt.c3.1
            have f0 := hX7.bk.bt.frozen 0
            have HX8 := Lib.hid (hX7.set0 (.slice A5 (S.length + 1) c5))
            clear hX7
            go_wp2_with fail
            refine HK.out undef _ (fun h => by cases h) ?_
            clear HK q0 f0
            refine Unlock.of (ds := [12]) (by kernel_rfl) ?_
            repeat (first
              | (apply Unlock.float rfl
                 · intro x W he hd K Qr hK
                   try (have he := he (by decide); skip)
                   try simp only [edges, DepsE, List.filter_cons, List.filter_nil, Region.binds, if_true, and_true, true_and, upd, Nat.reduceEqDiff, if_false] at hd
                   try simp only [hd] at hK ⊢
                   have HK := Lib.hid hK; clear hK
                   go_wp2_with fail
                   exact HK.out))
            refine Unlock.nil ?_
            refine Tree.nil (by kernel_rfl) ?_
            simp only [upd, Nat.reduceEqDiff, if_false, if_true]
            generalize World.setCell _ _ _ = w8' at *
            have q1 := HX8.out.bk.bt.c3.2.1
            have f1 := HX8.out.bk.bt.frozen 1
            have HX9 := Lib.hid (HX8.out.set1 (.slice A7 (G.length + 1) c7)).c
            have hMd := Lib.hid (hM.out.pushC hcs2 (s := se) (g := ge) (c := ⟨lo, hi', lo2, hi2⟩) (by show -60 ≤ lo ∧ lo ≤ se ∧ se ≤ hi' ∧ hi' ≤ 60 ∧ hi' - lo ≤ 3; omega) (by show -30 ≤ lo2 ∧ lo2 ≤ ge ∧ ge ≤ hi2 ∧ hi2 ≤ 30 ∧ hi2 - lo2 ≤ 3; omega))
            clear HX8
            go_wp2_with fail
            go_roundw
            case rel => exact ⟨j + 1, _, _, _, _, _, _, by omega, by go_num, Lib.hid (by rw [List.length_append, hcl.out]; rfl), Lib.hid (by rw [List.length_append, hSl.out]; rfl), Lib.hid (by rw [List.length_append, hGl.out]; rfl), hMd, Lib.hid (HX9.out.monoK (by omega))⟩
            case measure => simp [intOf]; omega
            -- >>
          · -- <<Q
            intro hcut
            have Hcut := Lib.hid hcut
            clear hcut hG k0 k1
            refine Tree.next (ks := [(3, true), (8, true)]) (by kernel_rfl) ?_
            refine TSteps.cons _ rfl ?_ (TSteps.cons _ rfl ?_ trivial)
            · intro x hd K Qr hK
              try simp only [edges, DepsE, List.filter_cons, List.filter_nil, Region.binds, if_true, and_true, true_and, upd, Nat.reduceEqDiff, if_false] at hd
              try simp only [hd] at hK ⊢
              clear hd
              have HK := Lib.hid hK; clear hK
              have hb5 := Ext.alloc W (.cells #[.int .i64 se] 3)
              have hX1 := HX0.out.ext hb5
              have hBs := Blk.new W 3 #[.int .i64 se]
              go_wp2_with fail
              refine HK.out _ _ (fun _ => cel hX1) ?_
              clear HK
              refine Unlock.of (ds := []) (by kernel_rfl) ?_
              repeat (first
                | (apply Unlock.float rfl
                   · intro x W he hd K Qr hK
                     try (have he := he (by decide); skip)
                     try simp only [edges, DepsE, List.filter_cons, List.filter_nil, Region.binds, if_true, and_true, true_and, upd, Nat.reduceEqDiff, if_false] at hd
                     try simp only [hd] at hK ⊢
                     have HK := Lib.hid hK; clear hK
                     go_wp2_with fail
                     exact HK.out))
              refine Unlock.nil ?_
              obtain ⟨vb1, hvb1⟩ : ∃ vb, W.heap.size = vb := ⟨_, rfl⟩
              rw [hvb1] at hBs ⊢
              clear hvb1 hb5
              generalize W.alloc _ = W1 at *
              have HBs := Lib.hid hBs; have HX1 := Lib.hid hX1
              clear hBs hX1 HX0 he
              refine Tree.next (ks := [(4, true), (8, true)]) (by kernel_rfl) ?_
              refine TSteps.cons _ rfl ?_ (TSteps.cons _ rfl ?_ trivial)
              · intro x hd K Qr hK
                try simp only [edges, DepsE, List.filter_cons, List.filter_nil, Region.binds, if_true, and_true, true_and, upd, Nat.reduceEqDiff, if_false] at hd
                try simp only [hd] at hK ⊢
                clear hd
                have HK := Lib.hid hK; clear hK
                have hsrc := Src.blk HBs.out
                have hsz6 := HX1.out.bk.bt.lt
                refine wpList_app rfl _ _ 28 rfl (O + 2) 3 ti (.int .i64 0) 1 8 Try.underlying28 hi hz0 hz1 hz2 rfl (by decide) (.slice As S.length cs') S.length _ rfl HX1.out.os (some ⟨vb1, 0, none⟩) 1 1 [.int .i64 se] rfl rfl hsrc (fun u hu => by
                rw [List.mem_singleton] at hu; subst hu; rfl) (by simp only [maxLen]; omega) (by omega) (by omega) ?_
                intro v2 W2 hown hg hblk
                obtain ⟨A5, c5, rfl⟩ := ownsRow_slice hown
                have hX2 := HX1.out.growS (x := se) hown hg hblk
                refine HK.out _ _ (fun _ => cel hX2) ?_
                clear HK hsrc hown hg hblk hsz6
                refine Unlock.of (ds := [10]) (by kernel_rfl) ?_
                repeat (first
                  | (apply Unlock.float rfl
                     · intro x W he hd K Qr hK
                       try (have he := he (by decide); skip)
                       try simp only [edges, DepsE, List.filter_cons, List.filter_nil, Region.binds, if_true, and_true, true_and, upd, Nat.reduceEqDiff, if_false] at hd
                       try simp only [hd] at hK ⊢
                       have HK := Lib.hid hK; clear hK
                       go_wp2_with fail
                       exact HK.out))
                refine Unlock.nil ?_
                refine Tree.next (ks := [(8, true)]) (by kernel_rfl) ?_
                refine TSteps.cons _ rfl ?_ trivial
                intro x hd K Qr hK
                try simp only [edges, DepsE, List.filter_cons, List.filter_nil, Region.binds, if_true, and_true, true_and, upd, Nat.reduceEqDiff, if_false] at hd
                try simp only [hd] at hK ⊢
                clear hd
                have HK := Lib.hid hK; clear hK
                have hb7 := Ext.alloc W2 (.cells #[.int .i64 ge] 3)
                have hX3 := hX2.ext hb7
                go_wp2_with fail
                refine HK.out _ _ (fun _ => cel hX3) ?_
                clear HK
                refine Unlock.of (ds := []) (by kernel_rfl) ?_
                repeat (first
                  | (apply Unlock.float rfl
                     · intro x W he hd K Qr hK
                       try (have he := he (by decide); skip)
                       try simp only [edges, DepsE, List.filter_cons, List.filter_nil, Region.binds, if_true, and_true, true_and, upd, Nat.reduceEqDiff, if_false] at hd
                       try simp only [hd] at hK ⊢
                       have HK := Lib.hid hK; clear hK
                       go_wp2_with fail
                       exact HK.out))
                refine Unlock.nil ?_
                exact Tree.eq (by kernel_rfl) (Hcut.out _ _ ⟨vb1, A5, c5, _, rfl, hX3, Blk.new _ _ _⟩)
              · intro x hd K Qr hK
                try simp only [edges, DepsE, List.filter_cons, List.filter_nil, Region.binds, if_true, and_true, true_and, upd, Nat.reduceEqDiff, if_false] at hd
                try simp only [hd] at hK ⊢
                clear hd
                have HK := Lib.hid hK; clear hK
                have hb7 := Ext.alloc W1 (.cells #[.int .i64 ge] 3)
                have hX2 := HX1.out.ext hb7
                have hB2 := HBs.out.ext hb7
                have hBg := Blk.new W1 3 #[.int .i64 ge]
                have hsv : ∀ g, (Value.slice As S.length cs').ownBlock = some g → g < W1.heap.size := fun g hg => (ownsRow_own HX1.out.os g hg).2
                go_wp2_with fail
                refine HK.out _ _ (fun _ => cel hX2) ?_
                clear HK
                refine Unlock.of (ds := []) (by kernel_rfl) ?_
                repeat (first
                  | (apply Unlock.float rfl
                     · intro x W he hd K Qr hK
                       try (have he := he (by decide); skip)
                       try simp only [edges, DepsE, List.filter_cons, List.filter_nil, Region.binds, if_true, and_true, true_and, upd, Nat.reduceEqDiff, if_false] at hd
                       try simp only [hd] at hK ⊢
                       have HK := Lib.hid hK; clear hK
                       go_wp2_with fail
                       exact HK.out))
                refine Unlock.nil ?_
                obtain ⟨vb2, hvb2⟩ : ∃ vb, W1.heap.size = vb := ⟨_, rfl⟩
                rw [hvb2] at hBg hsv ⊢
                clear hvb2 hb7
                generalize W1.alloc _ = W2 at *
                refine Tree.next (ks := [(4, true)]) (by kernel_rfl) ?_
                refine TSteps.cons _ rfl ?_ trivial
                intro x hd K Qr hK
                try simp only [edges, DepsE, List.filter_cons, List.filter_nil, Region.binds, if_true, and_true, true_and, upd, Nat.reduceEqDiff, if_false] at hd
                try simp only [hd] at hK ⊢
                clear hd
                have HK := Lib.hid hK; clear hK
                have hsrc := Src.blk hB2
                have hsz6 := hX2.bk.bt.lt
                refine wpList_app rfl _ _ 28 rfl (O + 2) 3 ti (.int .i64 0) 1 8 Try.underlying28 hi hz0 hz1 hz2 rfl (by decide) (.slice As S.length cs') S.length _ rfl hX2.os (some ⟨vb1, 0, none⟩) 1 1 [.int .i64 se] rfl rfl hsrc (fun u hu => by
                rw [List.mem_singleton] at hu; subst hu; rfl) (by simp only [maxLen]; omega) (by omega) (by omega) ?_
                intro v2 W3 hown hg hblk
                obtain ⟨A5, c5, rfl⟩ := ownsRow_slice hown
                have hX3 := hX2.growS (x := se) hown hg hblk
                refine HK.out _ _ (fun _ => cel hX3) ?_
                have hB3 := hBg.grown hg (fun e => by have := hsv vb2 e.symm; omega)
                clear HK hsrc hown hg hblk
                refine Unlock.of (ds := [10]) (by kernel_rfl) ?_
                repeat (first
                  | (apply Unlock.float rfl
                     · intro x W he hd K Qr hK
                       try (have he := he (by decide); skip)
                       try simp only [edges, DepsE, List.filter_cons, List.filter_nil, Region.binds, if_true, and_true, true_and, upd, Nat.reduceEqDiff, if_false] at hd
                       try simp only [hd] at hK ⊢
                       have HK := Lib.hid hK; clear hK
                       go_wp2_with fail
                       exact HK.out))
                refine Unlock.nil ?_
                exact Tree.eq (by kernel_rfl) (Hcut.out _ _ ⟨vb1, A5, c5, vb2, by rw [upd_comm (show 8 ≠ 4 by decide), upd_comm (show 8 ≠ 10 by decide)], hX3, hB3⟩)
            · intro x hd K Qr hK
              try simp only [edges, DepsE, List.filter_cons, List.filter_nil, Region.binds, if_true, and_true, true_and, upd, Nat.reduceEqDiff, if_false] at hd
              try simp only [hd] at hK ⊢
              clear hd
              have HK := Lib.hid hK; clear hK
              have hb7 := Ext.alloc W (.cells #[.int .i64 ge] 3)
              have hX1 := HX0.out.ext hb7
              have hBg := Blk.new W 3 #[.int .i64 ge]
              have hsv : ∀ g, (Value.slice As S.length cs').ownBlock = some g → g < W.heap.size := fun g hg => (ownsRow_own HX0.out.os g hg).2
              go_wp2_with fail
              refine HK.out _ _ (fun _ => cel hX1) ?_
              clear HK
              refine Unlock.of (ds := []) (by kernel_rfl) ?_
              repeat (first
                | (apply Unlock.float rfl
                   · intro x W he hd K Qr hK
                     try (have he := he (by decide); skip)
                     try simp only [edges, DepsE, List.filter_cons, List.filter_nil, Region.binds, if_true, and_true, true_and, upd, Nat.reduceEqDiff, if_false] at hd
                     try simp only [hd] at hK ⊢
                     have HK := Lib.hid hK; clear hK
                     go_wp2_with fail
                     exact HK.out))
              refine Unlock.nil ?_
              obtain ⟨vb2, hvb2⟩ : ∃ vb, W.heap.size = vb := ⟨_, rfl⟩
              rw [hvb2] at hBg hsv ⊢
              clear hvb2 hb7
              generalize W.alloc _ = W1 at *
              have HX1 := Lib.hid hX1; have HBg := Lib.hid hBg
              clear hX1 HX0 he hBg
              refine Tree.next (ks := [(3, true)]) (by kernel_rfl) ?_
              refine TSteps.cons _ rfl ?_ trivial
              intro x hd K Qr hK
              try simp only [edges, DepsE, List.filter_cons, List.filter_nil, Region.binds, if_true, and_true, true_and, upd, Nat.reduceEqDiff, if_false] at hd
              try simp only [hd] at hK ⊢
              clear hd
              have HK := Lib.hid hK; clear hK
              have hb5 := Ext.alloc W1 (.cells #[.int .i64 se] 3)
              have hX2 := HX1.out.ext hb5
              have hB2 := HBg.out.ext hb5
              have hBs := Blk.new W1 3 #[.int .i64 se]
              go_wp2_with fail
              refine HK.out _ _ (fun _ => cel hX2) ?_
              clear HK
              refine Unlock.of (ds := []) (by kernel_rfl) ?_
              repeat (first
                | (apply Unlock.float rfl
                   · intro x W he hd K Qr hK
                     try (have he := he (by decide); skip)
                     try simp only [edges, DepsE, List.filter_cons, List.filter_nil, Region.binds, if_true, and_true, true_and, upd, Nat.reduceEqDiff, if_false] at hd
                     try simp only [hd] at hK ⊢
                     have HK := Lib.hid hK; clear hK
                     go_wp2_with fail
                     exact HK.out))
              refine Unlock.nil ?_
              obtain ⟨vb1, hvb1⟩ : ∃ vb, W1.heap.size = vb := ⟨_, rfl⟩
              rw [hvb1] at hBs ⊢
              clear hvb1 hb5
              generalize W1.alloc _ = W2 at *
              refine Tree.next (ks := [(4, true)]) (by kernel_rfl) ?_
              refine TSteps.cons _ rfl ?_ trivial
              intro x hd K Qr hK
              try simp only [edges, DepsE, List.filter_cons, List.filter_nil, Region.binds, if_true, and_true, true_and, upd, Nat.reduceEqDiff, if_false] at hd
              try simp only [hd] at hK ⊢
              clear hd
              have HK := Lib.hid hK; clear hK
              have hsrc := Src.blk hBs
              have hsz6 := hX2.bk.bt.lt
              refine wpList_app rfl _ _ 28 rfl (O + 2) 3 ti (.int .i64 0) 1 8 Try.underlying28 hi hz0 hz1 hz2 rfl (by decide) (.slice As S.length cs') S.length _ rfl hX2.os (some ⟨vb1, 0, none⟩) 1 1 [.int .i64 se] rfl rfl hsrc (fun u hu => by
                rw [List.mem_singleton] at hu; subst hu; rfl) (by simp only [maxLen]; omega) (by omega) (by omega) ?_
              intro v2 W3 hown hg hblk
              obtain ⟨A5, c5, rfl⟩ := ownsRow_slice hown
              have hX3 := hX2.growS (x := se) hown hg hblk
              refine HK.out _ _ (fun _ => cel hX3) ?_
              have hB3 := hB2.grown hg (fun e => by have := hsv vb2 e.symm; omega)
              clear HK hsrc hown hg hblk
              refine Unlock.of (ds := [10]) (by kernel_rfl) ?_
              repeat (first
                | (apply Unlock.float rfl
                   · intro x W he hd K Qr hK
                     try (have he := he (by decide); skip)
                     try simp only [edges, DepsE, List.filter_cons, List.filter_nil, Region.binds, if_true, and_true, true_and, upd, Nat.reduceEqDiff, if_false] at hd
                     try simp only [hd] at hK ⊢
                     have HK := Lib.hid hK; clear hK
                     go_wp2_with fail
                     exact HK.out))
              refine Unlock.nil ?_
              exact Tree.eq (by kernel_rfl) (Hcut.out _ _ ⟨vb1, A5, c5, vb2, by rw [upd_comm (show 8 ≠ 3 by decide), upd_comm (show 8 ≠ 4 by decide), upd_comm (show 8 ≠ 10 by decide)], hX3, hB3⟩)
            -- >>
          -- >>
        · -- <<D
          obtain rfl : j = M := by omega
          have hQ1 := Lib.hid (hS.out.monoK (show 7 + 6 * j ≤ 19 by omega))
          have hu := Lib.hid (upto_any b _ (by omega) 4 (by omega) 4 (by omega) wr hQ1.out.bk.sp)
          clear hS
          go_wp2_with fail
          refine hu.out.mono ?_
          rintro e w4 ⟨nr, rfl, hnr1, hnr2, hs4, ha4⟩
          have hQ2 := Lib.hid (hQ1.out.turn ha4 hs4)
          clear hu hQ1 hs4 ha4
          obtain ⟨R, hR⟩ : ∃ R : Nat, nr = (R : Int) := ⟨nr.toNat, by omega⟩
          subst hR
          go_wp2_with fail
          go_loopw [76] (fun iv wr => ∃ q : Nat, ∃ rs : List Rd, ∃ rv : Value, q ≤ R ∧ iv = .int .i64 (q : Int) ∧ Hid (rs.length ≤ q) ∧ Hid (MadeC ⟨mi, i, cs, rs, []⟩ S G T) ∧ Hid (MkC w b O (O + 1) (O + 2) (20 + 2 * q) ⟨mi, i, cs, rs, []⟩ S G T cv rv (.slice none 0 0) sv nv tv wr)) (fun iv _ => R - (intOf iv).toNat)
          case atStart => exact ⟨0, [], _, Nat.zero_le _, rfl, Lib.hid (Nat.zero_le _), hM, hQ2⟩
          case round =>
            clear hQ2 hM
            obtain ⟨q, rs, rv, hq, rfl, hrl, hM, hS⟩ := hrel
            by_cases hlq : q < R
            · -- <<E
              obtain ⟨Ac, cc, hcv⟩ := ownsRow_slice hS.out.at_.cl
              subst hcv
              have k0 := hS.out.bk.bo.c5.2.2.1
              by_cases hc0 : cs.length = 0
              · -- <<F
                have hd : decide ((0 : Int) < (cs.length : Int)) = false := by simp [hc0]
                have hd' : decide (0 < cs.length) = false := by simp [hc0]
                have Hc0 := Lib.hid hc0
                clear hc0
                go_wp2_with fail
                go_roundw
                case rel => exact ⟨q + 1, rs, rv, by omega, by go_num, Lib.hid (by have := hrl.out; omega), hM, Lib.hid (hS.out.monoK (by omega))⟩
                case measure => simp [intOf]; omega
                -- >>
              · -- <<G
                have hd : decide ((0 : Int) < (cs.length : Int)) = true := by simp; omega
                have hd' : decide (0 < cs.length) = true := by simp; omega
                obtain ⟨Ar, cr, hrv⟩ := ownsRow_slice hS.out.at_.rd
                subst hrv
                have hcs2 : cs.length ≤ 2 := hM.out.ncl
                have k1 := hS.out.bk.bo.c5.2.1
                have HQ := Lib.hid hS.out
                go_upto_region 16 with fail
                clear hd hd'
                refine wp_region_treeG (fun W => W.cell? ⟨O, 2, none⟩ = some (.slice Ac cs.length cc) ∧ W.cell? ⟨O, 1, none⟩ = some (.int .i64 (i : Int))) (⟨k0, k1⟩) 13 [(5, true), (10, true), (12, true)] [] (by kernel_rfl) (by kernel_rfl) (by kernel_rfl) (ds := [0, 1, 2, 3, 4, 6, 7, 8, 9]) (by kernel_rfl) ?_
                simp only [List.take, List.drop, fill, Act.put, List.setIfInBounds_toArray, List.set_cons_zero, List.set_cons_succ, Nat.reduceAdd]
                repeat (first
                  | (apply Unlock.float rfl
                     · intro x W he hd K Qr hK
                       try (have he := he (by decide); obtain ⟨k0, k1⟩ := he)
                       try simp only [edges, DepsE, List.filter_cons, List.filter_nil, Region.binds, if_true, and_true, true_and, upd, Nat.reduceEqDiff, if_false] at hd
                       try simp only [hd] at hK ⊢
                       have HK := Lib.hid hK; clear hK
                       go_wp2_with fail
                       exact HK.out))
                refine Unlock.nil ?_
                intro W he hG
                have HX0 := Lib.hid (HQ.out.ext he)
                have cel : ∀ {kk : Nat} {W' : World}, MkC w b O (O + 1) (O + 2) (kk) ⟨mi, i, cs, rs, []⟩ S G T (.slice Ac cs.length cc) (.slice Ar rs.length cr) (.slice none 0 0) sv nv tv W' → W'.cell? ⟨O, 2, none⟩ = some (.slice Ac cs.length cc) ∧ W'.cell? ⟨O, 1, none⟩ = some (.int .i64 (i : Int)) := fun h => ⟨h.bk.bo.c5.2.2.1, h.bk.bo.c5.2.1⟩
                refine Tree.cut (f' := 0) (rem' := []) (fun y y' W6 => ∃ (u1 u2 : Int) (rb : Nat), y' = upd (upd (upd (upd y 5 (.int .i64 u1)) 10 (.int .i64 u2)) 11 (.agg #[.int .i64 u1, .int .i64 u2, .int .i64 0])) 12 (.pointer (some ⟨rb, 0, none⟩)) ∧ (0 ≤ u1 ∧ u1 ≤ (cs.length : Int) - 1) ∧ (0 ≤ u2 ∧ u2 ≤ (i : Int) - 1) ∧ O + 1 < rb ∧ (∀ g, (Value.slice Ar rs.length cr).ownBlock = some g → g ≠ rb) ∧ MkC w b O (O + 1) (O + 2) (20 + 2 * q + 1 + 1) ⟨mi, i, cs, rs, []⟩ S G T (.slice Ac cs.length cc) (.slice Ar rs.length cr) (.slice none 0 0) sv nv tv W6 ∧ Blk W6 rb 66 #[.int .i64 0, .int .i64 0, .int .i64 0]) ?_ ?_
                · -- <<GP
                  rintro y' W6 ⟨u1, u2, rb, rfl, hu1, hu2, hrb, hnb, hX6, hB6⟩
                  clear hG he cel HX0
                  have HX6 := Lib.hid hX6; have HB6 := Lib.hid hB6
                  clear hX6 hB6 k0 k1
                  refine Tree.nil (by kernel_rfl) ?_
                  simp only [upd, Nat.reduceEqDiff, if_false, if_true]
                  obtain ⟨cN, hcN⟩ : ∃ n : Nat, u1 = (n : Int) := ⟨u1.toNat, by omega⟩
                  obtain ⟨eN, heN⟩ : ∃ n : Nat, u2 = (n : Int) := ⟨u2.toNat, by omega⟩
                  subst hcN heN
                  have hcl1 : cN < cs.length := by omega
                  have hel1 : eN < T.length := by omega
                  have hSl' : cN < S.length := by have := hSl.out; have := hcl.out; omega
                  have hGl' : cN < G.length := by have := hGl.out; have := hcl.out; omega
                  have Hnb := Lib.hid hnb
                  have Hcl1 := Lib.hid hcl1
                  have HTl := Lib.hid hTl
                  have hr0 := HB6.out.c3
                  obtain ⟨z0, z1, z2⟩ := hr0
                  have f0 := HB6.out.frozen 0; have f1 := HB6.out.frozen 1; have f2 := HB6.out.frozen 2
                  have hq1 := NoB.of HX6.out.at_.cl HB6.out (by decide)
                  have hq3 : ∀ g, (Value.slice none 0 0).ownBlock = some g → g ≠ rb := fun g hg => by cases hg
                  have HB7 := Lib.hid (((HB6.out.set_ 0 (.int .i64 (cN : Int))).set_ 1 (.int .i64 (eN : Int))).set_ 2 (.int .i64 0))
                  simp only [List.setIfInBounds_toArray, List.set_cons_succ, List.set_cons_zero] at HB7
                  have HX7 := Lib.hid (((HX6.out.off HB6.out (by decide) hrb hq1 hnb hq3 0 (.int .i64 (cN : Int))).off (HB6.out.set_ 0 _) (by decide) hrb hq1 hnb hq3 1 (.int .i64 (eN : Int))).off ((HB6.out.set_ 0 _).set_ 1 _) (by decide) hrb hq1 hnb hq3 2 (.int .i64 0))
                  have Hq1 := Lib.hid hq1
                  clear hnb hcl1 hTl hq1 hq3 HX6 HB6 hu1 hu2
                  go_upto_region 17 with fail
                  clear z0 z1 z2 f0 f1 f2
                  generalize World.setCell _ _ _ = W7 at *
                  obtain ⟨As, ca, hsv, -, -, hsI, -, -⟩ := HX7.out.os.open_
                  obtain ⟨Ag, cg, hnv, -, -, hgI, -, -⟩ := HX7.out.on.open_
                  obtain ⟨At, ct, htv, -, -, htI, -, -⟩ := HX7.out.ot.open_
                  subst hsv hnv htv
                  obtain ⟨sb, so, rfl, s0⟩ := hsI cN hSl'
                  obtain ⟨gb, go, rfl, g0⟩ := hgI cN hGl'
                  obtain ⟨tb, to_, rfl, m0⟩ := htI eN hel1
                  have hsb := hM.out.ss (S[cN]?.getD 0) (by rw [List.getElem?_eq_getElem hSl']; exact List.getElem_mem hSl')
                  have hgb := hM.out.gs (G[cN]?.getD 0) (by rw [List.getElem?_eq_getElem hGl']; exact List.getElem_mem hGl')
                  have htb := hM.out.ts (T[eN]?.getD 0) (by rw [List.getElem?_eq_getElem hel1]; exact List.getElem_mem hel1)
                  have htb2 : 0 ≤ T[eN]?.getD 0 ∧ T[eN]?.getD 0 ≤ mi := htb
                  obtain ⟨sN, hsN⟩ : ∃ x, S[cN]?.getD 0 = x := ⟨_, rfl⟩
                  obtain ⟨gN, hgN⟩ : ∃ x, G[cN]?.getD 0 = x := ⟨_, rfl⟩
                  obtain ⟨mN, hmN⟩ : ∃ n : Nat, T[eN]?.getD 0 = (n : Int) := ⟨(T[eN]?.getD 0).toNat, by omega⟩
                  rw [hsN] at s0 hsb; rw [hgN] at g0 hgb; rw [hmN] at m0 htb2
                  have HsN := Lib.hid hsN; have HgN := Lib.hid hgN; have HmN := Lib.hid hmN
                  obtain ⟨t0, t1, t2⟩ := HX7.out.bk.bt.c3
                  obtain ⟨r0, r1, r2⟩ := HB7.out.c3
                  clear hsN hgN hmN htb hsI hgI htI
                  refine wp_region_chain 20 [(18, true), (19, true)] [] (by kernel_rfl) (by kernel_rfl) (by kernel_rfl) ?_
                  simp only [List.take, List.drop, fill, Act.put, List.setIfInBounds_toArray, List.set_cons_zero, List.set_cons_succ, Nat.reduceAdd]
                  repeat (first
                    | refine Floats.mut rfl ?_
                    | (apply Floats.float rfl
                       · intro x W he hd K Q hK
                         try (have he := he (by decide); have t0 := he.cell t0; have t1 := he.cell t1; have t2 := he.cell t2; have r0 := he.cell r0; have r1 := he.cell r1; have s0 := he.cell s0; have g0 := he.cell g0; have m0 := he.cell m0)
                         try simp only [edges, DepsE, List.filter_cons, List.filter_nil, Region.binds, if_true, and_true, true_and, upd, Nat.reduceEqDiff, if_false] at hd
                         try simp only [hd] at hK ⊢
                         have HK := Lib.hid hK; clear hK
                         go_wp2_with fail
                         exact HK.out))
                  refine Floats.done fun W he hG => ?_
                  have hsh := Lib.hid (showsL_any sN gN mN hsb hgb (by omega) W)
                  refine Chain.cons _ rfl ?_
                  intro x hd K Q hK
                  try simp only [edges, DepsE, List.filter_cons, List.filter_nil, Region.binds, if_true, and_true, true_and, upd, Nat.reduceEqDiff, if_false] at hd
                  try simp only [hd] at hK ⊢
                  clear hd
                  have HK := Lib.hid hK; clear hK
                  go_wp2_with fail
                  refine hsh.out.mono ?_
                  rintro e W8 ⟨rfl, rfl⟩
                  go_wp2_with fail
                  refine HK.out _ _ (fun _ => he) ?_
                  clear HK hsh
                  refine Chain.cons _ rfl ?_
                  intro x hd K Q hK
                  try simp only [edges, DepsE, List.filter_cons, List.filter_nil, Region.binds, if_true, and_true, true_and, upd, Nat.reduceEqDiff, if_false] at hd
                  try simp only [hd] at hK ⊢
                  clear hd
                  have HK := Lib.hid hK; clear hK
                  go_wp2_with fail
                  refine HK.out _ _ (fun _ => he) ?_
                  clear HK
                  refine Chain.nil ?_
                  simp only [upd, Nat.reduceEqDiff, if_false, if_true]
                  have HX8 := Lib.hid (HX7.out.ext he)
                  have HB8 := Lib.hid (HB7.out.ext he)
                  clear t0 t1 t2 r0 r1 r2 s0 g0 m0 he hG HX7 HB7
                  have HB9 := Lib.hid (HB8.out.set_ 2 (.int .i64 (shF sN gN mN)))
                  simp only [List.setIfInBounds_toArray, List.set_cons_succ, List.set_cons_zero] at HB9
                  have hq3 : ∀ g, (Value.slice none 0 0).ownBlock = some g → g ≠ rb := fun g hg => by cases hg
                  have HX9 := Lib.hid (HX8.out.off HB8.out (by decide) hrb Hq1.out Hnb.out hq3 2 (.int .i64 (shF sN gN mN)))
                  obtain ⟨-, -, r2⟩ := HB8.out.c3
                  have f2 := HB8.out.frozen 2
                  clear hq3 HB8 HX8
                  go_upto_region 18 with fail
                  clear r2 f2
                  generalize World.setCell _ _ _ = W9 at *
                  have hMd := Lib.hid (hM.out.pushR (r := ⟨(cN : Int), (eN : Int), shF sN gN mN⟩) (by show rs.length < 4; have := hrl.out; omega) ⟨⟨Int.natCast_nonneg _, by show (cN : Int) < (cs.length : Int); have := Hcl1.out; omega⟩, Int.natCast_nonneg _, by show (eN : Int) < (i : Int); have := HTl.out; omega⟩ (by
                    show shF (S[((cN : Int)).toNat]?.getD 0) (G[((cN : Int)).toNat]?.getD 0) (T[((eN : Int)).toNat]?.getD 0) = shF sN gN mN
                    rw [Int.toNat_natCast, Int.toNat_natCast, HsN.out, HgN.out, HmN.out]))
                  obtain ⟨sh, hsh⟩ : ∃ x, shF sN gN mN = x := ⟨_, rfl⟩
                  rw [hsh] at HB9 hMd
                  clear hsh
                  obtain ⟨r0, r1, r2⟩ := HB9.out.c3
                  obtain ⟨-, -, -, o3, -⟩ := HX9.out.bk.bo.c5
                  have hb5 := Ext.alloc W9 (.cells #[.int .i64 (cN : Int), .int .i64 (eN : Int), .int .i64 sh] 66)
                  have hX10 := HX9.out.ext hb5
                  have hsrcB := Blk.new W9 66 #[.int .i64 (cN : Int), .int .i64 (eN : Int), .int .i64 sh]
                  have hsrc : Src (W9.alloc (.cells #[.int .i64 (cN : Int), .int .i64 (eN : Int), .int .i64 sh] 66)) (some ⟨W9.heap.size, 0, none⟩) [.int .i64 (cN : Int), .int .i64 (eN : Int), .int .i64 sh] := .inr ⟨_, rfl, fun j x hj => by
                    have e : (⟨W9.heap.size, 0, none⟩ : Addr).add j = ⟨W9.heap.size, j, none⟩ := by rw [addr_add]; simp
                    rw [e, hsrcB.cell]
                    simpa using hj⟩
                  have hown10 := hX10.at_.rd
                  have hrs4 : rs.length < 4 := by have := hrl.out; omega
                  have hsz10 : O + 2 ≤ (W9.alloc (.cells #[.int .i64 (cN : Int), .int .i64 (eN : Int), .int .i64 sh] 66)).heap.size := by have := hX10.bk.bt.lt; omega
                  have HX10 := Lib.hid hX10; have Hsrc := Lib.hid hsrc
                  clear hsrcB hsrc hb5 hX10
                  go_wp2_with (at_builtin; refine wpList_app rfl _ _ 24 rfl (O + 2) 66 tr (.agg #[.int .i64 0, .int .i64 0, .int .i64 0]) 3 24 Try.underlying24 hir hr0 hr1 hr2 rfl (by decide) (.slice Ar rs.length cr) rs.length _ rfl hown10 (some ⟨W9.heap.size, 0, none⟩) 1 1 [.int .i64 (cN : Int), .int .i64 (eN : Int), .int .i64 sh] rfl rfl Hsrc.out ?c2 ?c3 ?c4 ?c5 ?_; (case c2 => (intro u hu; simp only [List.mem_cons, List.not_mem_nil, or_false] at hu; rcases hu with rfl | rfl | rfl <;> rfl)); (case c3 => (unfold maxLen; omega)); (case c4 => omega); (case c5 => exact hsz10); intro v' w11 hown hg hblk; have H11 := HX10.out.pushR (x := ⟨(cN : Int), (eN : Int), sh⟩) hown hg; obtain ⟨⟨q0, q1⟩, h11⟩ := H11; have HX11 := Lib.hid h11; obtain ⟨A9, c9, rfl⟩ := ownsRow_slice hown; clear hown hg hblk h11)
                  go_roundw
                  case rel => exact ⟨q + 1, _, _, by omega, by go_num, Lib.hid (by rw [List.length_append]; have := hrl.out; simp; omega), hMd, Lib.hid (HX11.out.monoK (by omega))⟩
                  case measure => simp [intOf]; omega
                  -- >>
                · -- <<GQ
                  intro hcut
                  have Hcut := Lib.hid hcut
                  clear hcut hG k0 k1 HQ
                  refine Tree.next (ks := [(5, true), (12, true)]) (by kernel_rfl) ?_
                  refine TSteps.cons _ rfl ?_ (TSteps.cons _ rfl ?_ trivial)
                  · intro x hd K Qr hK
                    try simp only [edges, DepsE, List.filter_cons, List.filter_nil, Region.binds, if_true, and_true, true_and, upd, Nat.reduceEqDiff, if_false] at hd
                    try simp only [hd] at hK ⊢
                    clear hd
                    have HK := Lib.hid hK; clear hK
                    have hu := Lib.hid (upto_any b _ (by omega) ((cs.length : Int) - 1) (by omega) ((cs.length : Int) - 1) (by omega) W HX0.out.bk.sp)
                    go_wp2_with fail
                    refine hu.out.mono ?_
                    rintro e W1 ⟨u1, rfl, hu1, hu2, hs1, ha1⟩
                    have HX1 := Lib.hid (HX0.out.turn ha1 hs1)
                    clear hu hs1 ha1 HX0 he
                    go_wp2_with fail
                    refine HK.out _ _ (fun _ => cel HX1.out) ?_
                    clear HK
                    refine Unlock.of (ds := []) (by kernel_rfl) ?_
                    repeat (first
                      | (apply Unlock.float rfl
                         · intro x W he hd K Qr hK
                           try (have he := he (by decide); skip)
                           try simp only [edges, DepsE, List.filter_cons, List.filter_nil, Region.binds, if_true, and_true, true_and, upd, Nat.reduceEqDiff, if_false] at hd
                           try simp only [hd] at hK ⊢
                           have HK := Lib.hid hK; clear hK
                           go_wp2_with fail
                           exact HK.out))
                    refine Unlock.nil ?_
                    refine Tree.next (ks := [(10, true), (12, true)]) (by kernel_rfl) ?_
                    refine TSteps.cons _ rfl ?_ (TSteps.cons _ rfl ?_ trivial)
                    · intro x hd K Qr hK
                      try simp only [edges, DepsE, List.filter_cons, List.filter_nil, Region.binds, if_true, and_true, true_and, upd, Nat.reduceEqDiff, if_false] at hd
                      try simp only [hd] at hK ⊢
                      clear hd
                      have HK := Lib.hid hK; clear hK
                      have hu := Lib.hid (upto_any b _ (by omega) ((i : Int) - 1) (by omega) ((i : Int) - 1) (by omega) W1 HX1.out.bk.sp)
                      go_wp2_with fail
                      refine hu.out.mono ?_
                      rintro e W2 ⟨u2, rfl, hv1, hv2, hs2, ha2⟩
                      have HX2 := Lib.hid (HX1.out.turn ha2 hs2)
                      clear hu hs2 ha2 HX1
                      go_wp2_with fail
                      refine HK.out _ _ (fun _ => cel HX2.out) ?_
                      clear HK
                      refine Unlock.of (ds := [11]) (by kernel_rfl) ?_
                      repeat (first
                        | (apply Unlock.float rfl
                           · intro x W he hd K Qr hK
                             try (have he := he (by decide); skip)
                             try simp only [edges, DepsE, List.filter_cons, List.filter_nil, Region.binds, if_true, and_true, true_and, upd, Nat.reduceEqDiff, if_false] at hd
                             try simp only [hd] at hK ⊢
                             have HK := Lib.hid hK; clear hK
                             go_wp2_with fail
                             exact HK.out))
                      refine Unlock.nil ?_
                      refine Tree.next (ks := [(12, true)]) (by kernel_rfl) ?_
                      refine TSteps.cons _ rfl ?_ trivial
                      intro x hd K Qr hK
                      try simp only [edges, DepsE, List.filter_cons, List.filter_nil, Region.binds, if_true, and_true, true_and, upd, Nat.reduceEqDiff, if_false] at hd
                      try simp only [hd] at hK ⊢
                      clear hd
                      have HK := Lib.hid hK; clear hK
                      have hb7 := Ext.alloc W2 (.cells #[.int .i64 0, .int .i64 0, .int .i64 0] 66)
                      have hX3 := HX2.out.ext hb7
                      have hlt := HX2.out.bk.bt.lt
                      have hnb : ∀ g, (Value.slice Ar rs.length cr).ownBlock = some g → g ≠ W2.heap.size := fun g hg => by have := (ownsRow_own HX2.out.at_.rd g hg).2; omega
                      go_wp2_with fail
                      refine HK.out _ _ (fun _ => cel hX3) ?_
                      clear HK
                      refine Unlock.of (ds := []) (by kernel_rfl) ?_
                      repeat (first
                        | (apply Unlock.float rfl
                           · intro x W he hd K Qr hK
                             try (have he := he (by decide); skip)
                             try simp only [edges, DepsE, List.filter_cons, List.filter_nil, Region.binds, if_true, and_true, true_and, upd, Nat.reduceEqDiff, if_false] at hd
                             try simp only [hd] at hK ⊢
                             have HK := Lib.hid hK; clear hK
                             go_wp2_with fail
                             exact HK.out))
                      refine Unlock.nil ?_
                      exact Tree.eq (by kernel_rfl) (Hcut.out _ _ ⟨u1, u2, _, rfl, ⟨hu1, hu2⟩, ⟨hv1, hv2⟩, hlt, hnb, hX3, Blk.new _ _ _⟩)
                    · intro x hd K Qr hK
                      try simp only [edges, DepsE, List.filter_cons, List.filter_nil, Region.binds, if_true, and_true, true_and, upd, Nat.reduceEqDiff, if_false] at hd
                      try simp only [hd] at hK ⊢
                      clear hd
                      have HK := Lib.hid hK; clear hK
                      have hb7 := Ext.alloc W1 (.cells #[.int .i64 0, .int .i64 0, .int .i64 0] 66)
                      have HX2 := Lib.hid (HX1.out.ext hb7)
                      have hB2 := Blk.new W1 66 #[.int .i64 0, .int .i64 0, .int .i64 0]
                      have hlt := HX1.out.bk.bt.lt
                      have hnb : ∀ g, (Value.slice Ar rs.length cr).ownBlock = some g → g ≠ W1.heap.size := fun g hg => by have := (ownsRow_own HX1.out.at_.rd g hg).2; omega
                      go_wp2_with fail
                      refine HK.out _ _ (fun _ => cel HX2.out) ?_
                      clear HK
                      refine Unlock.of (ds := []) (by kernel_rfl) ?_
                      repeat (first
                        | (apply Unlock.float rfl
                           · intro x W he hd K Qr hK
                             try (have he := he (by decide); skip)
                             try simp only [edges, DepsE, List.filter_cons, List.filter_nil, Region.binds, if_true, and_true, true_and, upd, Nat.reduceEqDiff, if_false] at hd
                             try simp only [hd] at hK ⊢
                             have HK := Lib.hid hK; clear hK
                             go_wp2_with fail
                             exact HK.out))
                      refine Unlock.nil ?_
                      obtain ⟨rb, hrb⟩ : ∃ rb, W1.heap.size = rb := ⟨_, rfl⟩
                      rw [hrb] at hB2 hlt hnb ⊢
                      clear hrb hb7 HX1
                      generalize W1.alloc _ = W2 at *
                      refine Tree.next (ks := [(10, true)]) (by kernel_rfl) ?_
                      refine TSteps.cons _ rfl ?_ trivial
                      intro x hd K Qr hK
                      try simp only [edges, DepsE, List.filter_cons, List.filter_nil, Region.binds, if_true, and_true, true_and, upd, Nat.reduceEqDiff, if_false] at hd
                      try simp only [hd] at hK ⊢
                      clear hd
                      have HK := Lib.hid hK; clear hK
                      have hu := Lib.hid (upto_any b _ (by omega) ((i : Int) - 1) (by omega) ((i : Int) - 1) (by omega) W2 HX2.out.bk.sp)
                      have hbl2 := HX2.out.bk.lt
                      go_wp2_with fail
                      refine hu.out.mono ?_
                      rintro e W3 ⟨u2, rfl, hv1, hv2, hs2, ha2⟩
                      have HX3 := Lib.hid (HX2.out.turn ha2 hs2)
                      have hB3 := hB2.apart (by omega) ha2
                      clear hu hs2 ha2 HX2
                      go_wp2_with fail
                      refine HK.out _ _ (fun _ => cel HX3.out) ?_
                      clear HK
                      refine Unlock.of (ds := [11]) (by kernel_rfl) ?_
                      repeat (first
                        | (apply Unlock.float rfl
                           · intro x W he hd K Qr hK
                             try (have he := he (by decide); skip)
                             try simp only [edges, DepsE, List.filter_cons, List.filter_nil, Region.binds, if_true, and_true, true_and, upd, Nat.reduceEqDiff, if_false] at hd
                             try simp only [hd] at hK ⊢
                             have HK := Lib.hid hK; clear hK
                             go_wp2_with fail
                             exact HK.out))
                      refine Unlock.nil ?_
                      exact Tree.eq (by kernel_rfl) (Hcut.out _ _ ⟨u1, u2, rb, by rw [upd_comm (show 12 ≠ 10 by decide), upd_comm (show 12 ≠ 11 by decide)], ⟨hu1, hu2⟩, ⟨hv1, hv2⟩, hlt, hnb, HX3.out, hB3⟩)
                  · intro x hd K Qr hK
                    try simp only [edges, DepsE, List.filter_cons, List.filter_nil, Region.binds, if_true, and_true, true_and, upd, Nat.reduceEqDiff, if_false] at hd
                    try simp only [hd] at hK ⊢
                    clear hd
                    have HK := Lib.hid hK; clear hK
                    have hb7 := Ext.alloc W (.cells #[.int .i64 0, .int .i64 0, .int .i64 0] 66)
                    have HX1 := Lib.hid (HX0.out.ext hb7)
                    have hB2 := Blk.new W 66 #[.int .i64 0, .int .i64 0, .int .i64 0]
                    have hlt := HX0.out.bk.bt.lt
                    have hnb : ∀ g, (Value.slice Ar rs.length cr).ownBlock = some g → g ≠ W.heap.size := fun g hg => by have := (ownsRow_own HX0.out.at_.rd g hg).2; omega
                    go_wp2_with fail
                    refine HK.out _ _ (fun _ => cel HX1.out) ?_
                    clear HK
                    refine Unlock.of (ds := []) (by kernel_rfl) ?_
                    repeat (first
                      | (apply Unlock.float rfl
                         · intro x W he hd K Qr hK
                           try (have he := he (by decide); skip)
                           try simp only [edges, DepsE, List.filter_cons, List.filter_nil, Region.binds, if_true, and_true, true_and, upd, Nat.reduceEqDiff, if_false] at hd
                           try simp only [hd] at hK ⊢
                           have HK := Lib.hid hK; clear hK
                           go_wp2_with fail
                           exact HK.out))
                    refine Unlock.nil ?_
                    obtain ⟨rb, hrb⟩ : ∃ rb, W.heap.size = rb := ⟨_, rfl⟩
                    rw [hrb] at hB2 hlt hnb ⊢
                    clear hrb hb7 HX0 he
                    generalize W.alloc _ = W1 at *
                    refine Tree.next (ks := [(5, true)]) (by kernel_rfl) ?_
                    refine TSteps.cons _ rfl ?_ trivial
                    intro x hd K Qr hK
                    try simp only [edges, DepsE, List.filter_cons, List.filter_nil, Region.binds, if_true, and_true, true_and, upd, Nat.reduceEqDiff, if_false] at hd
                    try simp only [hd] at hK ⊢
                    clear hd
                    have HK := Lib.hid hK; clear hK
                    have hu := Lib.hid (upto_any b _ (by omega) ((cs.length : Int) - 1) (by omega) ((cs.length : Int) - 1) (by omega) W1 HX1.out.bk.sp)
                    have hbl2 := HX1.out.bk.lt
                    go_wp2_with fail
                    refine hu.out.mono ?_
                    rintro e W2 ⟨u1, rfl, hu1, hu2, hs1, ha1⟩
                    have HX2 := Lib.hid (HX1.out.turn ha1 hs1)
                    have hB3 := hB2.apart (by omega) ha1
                    clear hu hs1 ha1 HX1 hB2
                    go_wp2_with fail
                    refine HK.out _ _ (fun _ => cel HX2.out) ?_
                    clear HK
                    refine Unlock.of (ds := []) (by kernel_rfl) ?_
                    repeat (first
                      | (apply Unlock.float rfl
                         · intro x W he hd K Qr hK
                           try (have he := he (by decide); skip)
                           try simp only [edges, DepsE, List.filter_cons, List.filter_nil, Region.binds, if_true, and_true, true_and, upd, Nat.reduceEqDiff, if_false] at hd
                           try simp only [hd] at hK ⊢
                           have HK := Lib.hid hK; clear hK
                           go_wp2_with fail
                           exact HK.out))
                    refine Unlock.nil ?_
                    refine Tree.next (ks := [(10, true)]) (by kernel_rfl) ?_
                    refine TSteps.cons _ rfl ?_ trivial
                    intro x hd K Qr hK
                    try simp only [edges, DepsE, List.filter_cons, List.filter_nil, Region.binds, if_true, and_true, true_and, upd, Nat.reduceEqDiff, if_false] at hd
                    try simp only [hd] at hK ⊢
                    clear hd
                    have HK := Lib.hid hK; clear hK
                    have hu := Lib.hid (upto_any b _ (by omega) ((i : Int) - 1) (by omega) ((i : Int) - 1) (by omega) W2 HX2.out.bk.sp)
                    go_wp2_with fail
                    refine hu.out.mono ?_
                    rintro e W3 ⟨u2, rfl, hv1, hv2, hs2, ha2⟩
                    have HX3 := Lib.hid (HX2.out.turn ha2 hs2)
                    have hB4 := hB3.apart (by omega) ha2
                    clear hu hs2 ha2 HX2
                    go_wp2_with fail
                    refine HK.out _ _ (fun _ => cel HX3.out) ?_
                    clear HK
                    refine Unlock.of (ds := [11]) (by kernel_rfl) ?_
                    repeat (first
                      | (apply Unlock.float rfl
                         · intro x W he hd K Qr hK
                           try (have he := he (by decide); skip)
                           try simp only [edges, DepsE, List.filter_cons, List.filter_nil, Region.binds, if_true, and_true, true_and, upd, Nat.reduceEqDiff, if_false] at hd
                           try simp only [hd] at hK ⊢
                           have HK := Lib.hid hK; clear hK
                           go_wp2_with fail
                           exact HK.out))
                    refine Unlock.nil ?_
                    exact Tree.eq (by kernel_rfl) (Hcut.out _ _ ⟨u1, u2, rb, by rw [upd_comm (show 12 ≠ 5 by decide), upd_comm (show 12 ≠ 10 by decide), upd_comm (show 12 ≠ 11 by decide)], ⟨hu1, hu2⟩, ⟨hv1, hv2⟩, hlt, hnb, HX3.out, hB4⟩)
                  -- >>
                -- >>
              -- >>
            · -- <<H
              have hQ3 := Lib.hid (hS.out.monoK (show 20 + 2 * q ≤ 28 by omega))
              have hu := Lib.hid (upto_any b _ (by omega) 2 (by omega) 2 (by omega) wr hQ3.out.bk.sp)
              clear hS
              go_wp2_with fail
              refine hu.out.mono ?_
              rintro e w5 ⟨ng, rfl, hng1, hng2, hs5, ha5⟩
              have hQ4 := Lib.hid (hQ3.out.turn ha5 hs5)
              clear hu hQ3 hs5 ha5 hlq hq
              obtain ⟨V, hV⟩ : ∃ V : Nat, ng = (V : Int) := ⟨ng.toNat, by omega⟩
              subst hV
              go_wp2_with fail
              go_loopw [123] (fun iv wr => ∃ q : Nat, ∃ gs : List Gp, ∃ gv : Value, q ≤ V ∧ iv = .int .i64 (q : Int) ∧ Hid (gs.length ≤ q) ∧ Hid (MadeC ⟨mi, i, cs, rs, gs⟩ S G T) ∧ Hid (MkC w b O (O + 1) (O + 2) (29 + 4 * q) ⟨mi, i, cs, rs, gs⟩ S G T cv rv gv sv nv tv wr)) (fun iv _ => V - (intOf iv).toNat)
              case atStart => exact ⟨0, [], _, Nat.zero_le _, rfl, Lib.hid (Nat.zero_le _), hM, hQ4⟩
              case round =>
                clear hQ4 hM hrl
                obtain ⟨q, gs, gv, hq, rfl, hgl, hM, hS⟩ := hrel
                by_cases hlq : q < V
                · -- <<J
                  obtain ⟨Agp, cgp, hgv⟩ := ownsRow_slice hS.out.at_.gp
                  subst hgv
                  have k1 := hS.out.bk.bo.c5.2.1
                  have HQ := Lib.hid hS.out
                  go_upto_region 22 with fail
                  refine wp_region_treeG (fun W => W.cell? ⟨O, 1, none⟩ = some (.int .i64 (i : Int))) (k1) 12 [(4, true), (9, true), (11, true)] [] (by kernel_rfl) (by kernel_rfl) (by kernel_rfl) (ds := [0, 1, 2, 3, 5, 6, 7, 8]) (by kernel_rfl) ?_
                  simp only [List.take, List.drop, fill, Act.put, List.setIfInBounds_toArray, List.set_cons_zero, List.set_cons_succ, Nat.reduceAdd]
                  repeat (first
                    | (apply Unlock.float rfl
                       · intro x W he hd K Qr hK
                         try (have he := he (by decide); have k1 : W.cell? _ = some _ := he)
                         try simp only [edges, DepsE, List.filter_cons, List.filter_nil, Region.binds, if_true, and_true, true_and, upd, Nat.reduceEqDiff, if_false] at hd
                         try simp only [hd] at hK ⊢
                         have HK := Lib.hid hK; clear hK
                         go_wp2_with fail
                         exact HK.out))
                  refine Unlock.nil ?_
                  intro W he hG
                  have HX0 := Lib.hid (HQ.out.ext he)
                  have cel : ∀ {kk : Nat} {W' : World}, MkC w b O (O + 1) (O + 2) (kk) ⟨mi, i, cs, rs, gs⟩ S G T cv rv (.slice Agp gs.length cgp) sv nv tv W' → W'.cell? ⟨O, 1, none⟩ = some (.int .i64 (i : Int)) := fun h => h.bk.bo.c5.2.1
                  refine Tree.cut (f' := 0) (rem' := []) (fun y y' W6 => ∃ (u1 u2 : Int) (rb : Nat), y' = upd (upd (upd (upd y 4 (.int .i64 u1)) 9 (.int .i64 u2)) 10 (.agg #[.int .i64 u1, .int .i64 u2, .int .i64 0, .int .i64 0])) 11 (.pointer (some ⟨rb, 0, none⟩)) ∧ (0 ≤ u1 ∧ u1 ≤ (i : Int) - 1) ∧ (0 ≤ u2 ∧ u2 ≤ (i : Int) - 1) ∧ O + 1 < rb ∧ (∀ g, (Value.slice Agp gs.length cgp).ownBlock = some g → g ≠ rb) ∧ MkC w b O (O + 1) (O + 2) (29 + 4 * q + 1 + 1) ⟨mi, i, cs, rs, gs⟩ S G T cv rv (.slice Agp gs.length cgp) sv nv tv W6 ∧ Blk W6 rb 58 #[.int .i64 0, .int .i64 0, .int .i64 0, .int .i64 0]) ?_ ?_
                  · -- <<JP
                    rintro y' W6 ⟨u1, u2, rb, rfl, hu1, hu2, hrb, hnb, hX6, hB6⟩
                    clear hG he cel HX0
                    have HX6 := Lib.hid hX6; have HB6 := Lib.hid hB6
                    clear hX6 hB6 k1
                    refine Tree.nil (by kernel_rfl) ?_
                    simp only [upd, Nat.reduceEqDiff, if_false, if_true]
                    obtain ⟨cN, hcN⟩ : ∃ n : Nat, u1 = (n : Int) := ⟨u1.toNat, by omega⟩
                    obtain ⟨eN, heN⟩ : ∃ n : Nat, u2 = (n : Int) := ⟨u2.toNat, by omega⟩
                    subst hcN heN
                    have hcl1 : cN < T.length := by omega
                    have hel1 : eN < T.length := by omega
                    have Hnb := Lib.hid hnb
                    have HTl := Lib.hid hTl
                    obtain ⟨z0, z1, z2, z3⟩ := HB6.out.c4
                    have f0 := HB6.out.frozen 0; have f1 := HB6.out.frozen 1; have f2 := HB6.out.frozen 2; have f3 := HB6.out.frozen 3
                    have hq1 := NoB.of HX6.out.at_.cl HB6.out (by decide)
                    have hq2 := NoB.of HX6.out.at_.rd HB6.out (by decide)
                    have HB7 := Lib.hid ((((HB6.out.set_ 0 (.int .i64 (cN : Int))).set_ 1 (.int .i64 (eN : Int))).set_ 2 (.int .i64 0)).set_ 3 (.int .i64 0))
                    simp only [List.setIfInBounds_toArray, List.set_cons_succ, List.set_cons_zero] at HB7
                    have HX7 := Lib.hid ((((HX6.out.off HB6.out (by decide) hrb hq1 hq2 hnb 0 (.int .i64 (cN : Int))).off (HB6.out.set_ 0 _) (by decide) hrb hq1 hq2 hnb 1 (.int .i64 (eN : Int))).off ((HB6.out.set_ 0 _).set_ 1 _) (by decide) hrb hq1 hq2 hnb 2 (.int .i64 0)).off (((HB6.out.set_ 0 _).set_ 1 _).set_ 2 _) (by decide) hrb hq1 hq2 hnb 3 (.int .i64 0))
                    have Hq1 := Lib.hid hq1; have Hq2 := Lib.hid hq2
                    clear hnb hTl hq1 hq2 HX6 HB6 hu1 hu2
                    go_upto_region 23 with fail
                    clear z0 z1 z2 z3 f0 f1 f2 f3
                    generalize World.setCell _ _ _ = W7 at *
                    obtain ⟨At, ct, htv, -, -, htI, -, -⟩ := HX7.out.ot.open_
                    subst htv
                    obtain ⟨tb, to_, rfl, m0⟩ := htI eN hel1
                    obtain ⟨tb', to', e1, m1⟩ := htI cN hcl1
                    cases e1
                    have htb : 0 ≤ T[eN]?.getD 0 ∧ T[eN]?.getD 0 ≤ mi := hM.out.ts (T[eN]?.getD 0) (by rw [List.getElem?_eq_getElem hel1]; exact List.getElem_mem hel1)
                    have htb' : 0 ≤ T[cN]?.getD 0 ∧ T[cN]?.getD 0 ≤ mi := hM.out.ts (T[cN]?.getD 0) (by rw [List.getElem?_eq_getElem hcl1]; exact List.getElem_mem hcl1)
                    obtain ⟨mN, hmN⟩ : ∃ x, T[eN]?.getD 0 = x := ⟨_, rfl⟩
                    obtain ⟨nN, hnN⟩ : ∃ x, T[cN]?.getD 0 = x := ⟨_, rfl⟩
                    rw [hmN] at m0 htb; rw [hnN] at m1 htb'
                    have HmN := Lib.hid hmN; have HnN := Lib.hid hnN
                    obtain ⟨-, -, t2⟩ := HX7.out.bk.bt.c3
                    obtain ⟨r0, r1, -, -⟩ := HB7.out.c4
                    have hbl7 := HX7.out.bk.lt
                    clear hmN hnN htI
                    refine wp_region_chain 16 [(14, false), (15, false)] [] (by kernel_rfl) (by kernel_rfl) (by kernel_rfl) ?_
                    simp only [List.take, List.drop, fill, Act.put, List.setIfInBounds_toArray, List.set_cons_zero, List.set_cons_succ, Nat.reduceAdd]
                    repeat (first
                      | refine Floats.mut rfl ?_
                      | (apply Floats.float rfl
                         · intro x W he hd K Q hK
                           try (have he := he (by decide); have t2 := he.cell t2; have r0 := he.cell r0; have r1 := he.cell r1; have m0 := he.cell m0; have m1 := he.cell m1)
                           try simp only [edges, DepsE, List.filter_cons, List.filter_nil, Region.binds, if_true, and_true, true_and, upd, Nat.reduceEqDiff, if_false] at hd
                           try simp only [hd] at hK ⊢
                           have HK := Lib.hid hK; clear hK
                           go_wp2_with fail
                           exact HK.out))
                    refine Floats.done fun W he hG => ?_
                    have HX8 := Lib.hid (HX7.out.ext he)
                    have HB8 := Lib.hid (HB7.out.ext he)
                    have har := Lib.hid (around_any b _ (by omega) (mN - nN) 20 240 (by omega) (by omega) (by omega) W HX8.out.bk.sp)
                    clear t2 r0 r1 m0 m1 hG he HX7 HB7
                    refine Chain.cons _ rfl ?_
                    intro x hd K Q hK
                    try simp only [edges, DepsE, List.filter_cons, List.filter_nil, Region.binds, if_true, and_true, true_and, upd, Nat.reduceEqDiff, if_false] at hd
                    try simp only [hd] at hK ⊢
                    clear hd
                    have HK := Lib.hid hK; clear hK
                    go_wp2_with fail
                    refine har.out.mono ?_
                    rintro e W8 ⟨lo, hi', rfl, hlh, hs8, ha8⟩
                    have HX9 := Lib.hid (HX8.out.turn ha8 hs8)
                    have HB9 := Lib.hid (HB8.out.apart (by omega) ha8)
                    clear har hs8 ha8 HX8 HB8
                    go_wp2_with fail
                    refine HK.out _ _ (fun h => by cases h) ?_
                    clear HK
                    refine Chain.cons _ rfl ?_
                    intro x hd K Q hK
                    try simp only [edges, DepsE, List.filter_cons, List.filter_nil, Region.binds, if_true, and_true, true_and, upd, Nat.reduceEqDiff, if_false] at hd
                    try simp only [hd] at hK ⊢
                    clear hd
                    have HK := Lib.hid hK; clear hK
                    go_wp2_with fail
                    refine HK.out _ _ (fun h => by cases h) ?_
                    clear HK
                    refine Chain.nil ?_
                    simp only [upd, Nat.reduceEqDiff, if_false, if_true]
                    obtain ⟨-, -, r2, r3⟩ := HB9.out.c4
                    have f2 := HB9.out.frozen 2; have f3 := HB9.out.frozen 3
                    have HB10 := Lib.hid ((HB9.out.set_ 2 (.int .i64 lo)).set_ 3 (.int .i64 hi'))
                    simp only [List.setIfInBounds_toArray, List.set_cons_succ, List.set_cons_zero] at HB10
                    have HX10 := Lib.hid ((HX9.out.off HB9.out (by decide) hrb Hq1.out Hq2.out Hnb.out 2 (.int .i64 lo)).off (HB9.out.set_ 2 _) (by decide) hrb Hq1.out Hq2.out Hnb.out 3 (.int .i64 hi'))
                    clear HB9 HX9
                    go_upto_region 24 with fail
                    clear r2 r3 f2 f3
                    generalize World.setCell _ _ _ = W9 at *
                    have hMd := Lib.hid (hM.out.pushG (g := ⟨(cN : Int), (eN : Int), lo, hi'⟩) (by show gs.length < 2; have := hgl.out; omega) ⟨⟨Int.natCast_nonneg _, by show (cN : Int) < (i : Int); have := HTl.out; omega⟩, ⟨Int.natCast_nonneg _, by show (eN : Int) < (i : Int); have := HTl.out; omega⟩, by show -240 ≤ lo ∧ hi' ≤ 240; omega⟩ (by
                      show lo ≤ T[((eN : Int)).toNat]?.getD 0 - T[((cN : Int)).toNat]?.getD 0 ∧ T[((eN : Int)).toNat]?.getD 0 - T[((cN : Int)).toNat]?.getD 0 ≤ hi'
                      rw [Int.toNat_natCast, Int.toNat_natCast, HmN.out, HnN.out]
                      omega))
                    obtain ⟨r0, r1, r2, r3⟩ := HB10.out.c4
                    obtain ⟨-, -, -, -, o4⟩ := HX10.out.bk.bo.c5
                    have hb5 := Ext.alloc W9 (.cells #[.int .i64 (cN : Int), .int .i64 (eN : Int), .int .i64 lo, .int .i64 hi'] 58)
                    have hX11 := HX10.out.ext hb5
                    have hsrcB := Blk.new W9 58 #[.int .i64 (cN : Int), .int .i64 (eN : Int), .int .i64 lo, .int .i64 hi']
                    have hsrc : Src (W9.alloc (.cells #[.int .i64 (cN : Int), .int .i64 (eN : Int), .int .i64 lo, .int .i64 hi'] 58)) (some ⟨W9.heap.size, 0, none⟩) [.int .i64 (cN : Int), .int .i64 (eN : Int), .int .i64 lo, .int .i64 hi'] := .inr ⟨_, rfl, fun j x hj => by
                      have e : (⟨W9.heap.size, 0, none⟩ : Addr).add j = ⟨W9.heap.size, j, none⟩ := by rw [addr_add]; simp
                      rw [e, hsrcB.cell]
                      simpa using hj⟩
                    have hown11 := hX11.at_.gp
                    have hgs4 : gs.length < 2 := by have := hgl.out; omega
                    have hsz11 : O + 2 ≤ (W9.alloc (.cells #[.int .i64 (cN : Int), .int .i64 (eN : Int), .int .i64 lo, .int .i64 hi'] 58)).heap.size := by have := hX11.bk.bt.lt; omega
                    have HX11 := Lib.hid hX11; have Hsrc := Lib.hid hsrc
                    clear hsrcB hsrc hb5 hX11
                    go_wp2_with (at_builtin; refine wpList_app rfl _ _ 25 rfl (O + 2) 58 tg (.agg #[.int .i64 0, .int .i64 0, .int .i64 0, .int .i64 0]) 4 32 Try.underlying25 hig hg0 hg1 hg2 rfl (by decide) (.slice Agp gs.length cgp) gs.length _ rfl hown11 (some ⟨W9.heap.size, 0, none⟩) 1 1 [.int .i64 (cN : Int), .int .i64 (eN : Int), .int .i64 lo, .int .i64 hi'] rfl rfl Hsrc.out ?c2 ?c3 ?c4 ?c5 ?_; (case c2 => (intro u hu; simp only [List.mem_cons, List.not_mem_nil, or_false] at hu; rcases hu with rfl | rfl | rfl | rfl <;> rfl)); (case c3 => (unfold maxLen; omega)); (case c4 => omega); (case c5 => exact hsz11); intro v' w11 hown hg hblk; have H12 := HX11.out.pushG (x := ⟨(cN : Int), (eN : Int), lo, hi'⟩) hown hg; obtain ⟨⟨q0, q1⟩, h12⟩ := H12; have HX12 := Lib.hid h12; obtain ⟨A9, c9, rfl⟩ := ownsRow_slice hown; clear hown hg hblk h12)
                    go_roundw
                    case rel => exact ⟨q + 1, _, _, by omega, by go_num, Lib.hid (by rw [List.length_append]; have := hgl.out; simp; omega), hMd, Lib.hid (HX12.out.monoK (by omega))⟩
                    case measure => simp [intOf]; omega
                    -- >>
                  · -- <<JQ
                    intro hcut
                    have Hcut := Lib.hid hcut
                    clear hcut hG k1 HQ
                    refine Tree.next (ks := [(4, true), (11, true)]) (by kernel_rfl) ?_
                    refine TSteps.cons _ rfl ?_ (TSteps.cons _ rfl ?_ trivial)
                    · intro x hd K Qr hK
                      try simp only [edges, DepsE, List.filter_cons, List.filter_nil, Region.binds, if_true, and_true, true_and, upd, Nat.reduceEqDiff, if_false] at hd
                      try simp only [hd] at hK ⊢
                      clear hd
                      have HK := Lib.hid hK; clear hK
                      have hu := Lib.hid (upto_any b _ (by omega) ((i : Int) - 1) (by omega) ((i : Int) - 1) (by omega) W HX0.out.bk.sp)
                      go_wp2_with fail
                      refine hu.out.mono ?_
                      rintro e W1 ⟨u1, rfl, hu1, hu2, hs1, ha1⟩
                      have HX1 := Lib.hid (HX0.out.turn ha1 hs1)
                      clear hu hs1 ha1 HX0 he
                      go_wp2_with fail
                      refine HK.out _ _ (fun _ => cel HX1.out) ?_
                      clear HK
                      refine Unlock.of (ds := []) (by kernel_rfl) ?_
                      repeat (first
                        | (apply Unlock.float rfl
                           · intro x W he hd K Qr hK
                             try (have he := he (by decide); skip)
                             try simp only [edges, DepsE, List.filter_cons, List.filter_nil, Region.binds, if_true, and_true, true_and, upd, Nat.reduceEqDiff, if_false] at hd
                             try simp only [hd] at hK ⊢
                             have HK := Lib.hid hK; clear hK
                             go_wp2_with fail
                             exact HK.out))
                      refine Unlock.nil ?_
                      refine Tree.next (ks := [(9, true), (11, true)]) (by kernel_rfl) ?_
                      refine TSteps.cons _ rfl ?_ (TSteps.cons _ rfl ?_ trivial)
                      · intro x hd K Qr hK
                        try simp only [edges, DepsE, List.filter_cons, List.filter_nil, Region.binds, if_true, and_true, true_and, upd, Nat.reduceEqDiff, if_false] at hd
                        try simp only [hd] at hK ⊢
                        clear hd
                        have HK := Lib.hid hK; clear hK
                        have hu := Lib.hid (upto_any b _ (by omega) ((i : Int) - 1) (by omega) ((i : Int) - 1) (by omega) W1 HX1.out.bk.sp)
                        go_wp2_with fail
                        refine hu.out.mono ?_
                        rintro e W2 ⟨u2, rfl, hv1, hv2, hs2, ha2⟩
                        have HX2 := Lib.hid (HX1.out.turn ha2 hs2)
                        clear hu hs2 ha2 HX1
                        go_wp2_with fail
                        refine HK.out _ _ (fun _ => cel HX2.out) ?_
                        clear HK
                        refine Unlock.of (ds := [10]) (by kernel_rfl) ?_
                        repeat (first
                          | (apply Unlock.float rfl
                             · intro x W he hd K Qr hK
                               try (have he := he (by decide); skip)
                               try simp only [edges, DepsE, List.filter_cons, List.filter_nil, Region.binds, if_true, and_true, true_and, upd, Nat.reduceEqDiff, if_false] at hd
                               try simp only [hd] at hK ⊢
                               have HK := Lib.hid hK; clear hK
                               go_wp2_with fail
                               exact HK.out))
                        refine Unlock.nil ?_
                        refine Tree.next (ks := [(11, true)]) (by kernel_rfl) ?_
                        refine TSteps.cons _ rfl ?_ trivial
                        intro x hd K Qr hK
                        try simp only [edges, DepsE, List.filter_cons, List.filter_nil, Region.binds, if_true, and_true, true_and, upd, Nat.reduceEqDiff, if_false] at hd
                        try simp only [hd] at hK ⊢
                        clear hd
                        have HK := Lib.hid hK; clear hK
                        have hb7 := Ext.alloc W2 (.cells #[.int .i64 0, .int .i64 0, .int .i64 0, .int .i64 0] 58)
                        have hX3 := HX2.out.ext hb7
                        have hlt := HX2.out.bk.bt.lt
                        have hnb : ∀ g, (Value.slice Agp gs.length cgp).ownBlock = some g → g ≠ W2.heap.size := fun g hg => by have := (ownsRow_own HX2.out.at_.gp g hg).2; omega
                        go_wp2_with fail
                        refine HK.out _ _ (fun _ => cel hX3) ?_
                        clear HK
                        refine Unlock.of (ds := []) (by kernel_rfl) ?_
                        repeat (first
                          | (apply Unlock.float rfl
                             · intro x W he hd K Qr hK
                               try (have he := he (by decide); skip)
                               try simp only [edges, DepsE, List.filter_cons, List.filter_nil, Region.binds, if_true, and_true, true_and, upd, Nat.reduceEqDiff, if_false] at hd
                               try simp only [hd] at hK ⊢
                               have HK := Lib.hid hK; clear hK
                               go_wp2_with fail
                               exact HK.out))
                        refine Unlock.nil ?_
                        exact Tree.eq (by kernel_rfl) (Hcut.out _ _ ⟨u1, u2, _, rfl, ⟨hu1, hu2⟩, ⟨hv1, hv2⟩, hlt, hnb, hX3, Blk.new _ _ _⟩)
                      · intro x hd K Qr hK
                        try simp only [edges, DepsE, List.filter_cons, List.filter_nil, Region.binds, if_true, and_true, true_and, upd, Nat.reduceEqDiff, if_false] at hd
                        try simp only [hd] at hK ⊢
                        clear hd
                        have HK := Lib.hid hK; clear hK
                        have hb7 := Ext.alloc W1 (.cells #[.int .i64 0, .int .i64 0, .int .i64 0, .int .i64 0] 58)
                        have HX2 := Lib.hid (HX1.out.ext hb7)
                        have hB2 := Blk.new W1 58 #[.int .i64 0, .int .i64 0, .int .i64 0, .int .i64 0]
                        have hlt := HX1.out.bk.bt.lt
                        have hnb : ∀ g, (Value.slice Agp gs.length cgp).ownBlock = some g → g ≠ W1.heap.size := fun g hg => by have := (ownsRow_own HX1.out.at_.gp g hg).2; omega
                        go_wp2_with fail
                        refine HK.out _ _ (fun _ => cel HX2.out) ?_
                        clear HK
                        refine Unlock.of (ds := []) (by kernel_rfl) ?_
                        repeat (first
                          | (apply Unlock.float rfl
                             · intro x W he hd K Qr hK
                               try (have he := he (by decide); skip)
                               try simp only [edges, DepsE, List.filter_cons, List.filter_nil, Region.binds, if_true, and_true, true_and, upd, Nat.reduceEqDiff, if_false] at hd
                               try simp only [hd] at hK ⊢
                               have HK := Lib.hid hK; clear hK
                               go_wp2_with fail
                               exact HK.out))
                        refine Unlock.nil ?_
                        obtain ⟨rb, hrb⟩ : ∃ rb, W1.heap.size = rb := ⟨_, rfl⟩
                        rw [hrb] at hB2 hlt hnb ⊢
                        clear hrb hb7 HX1
                        generalize W1.alloc _ = W2 at *
                        refine Tree.next (ks := [(9, true)]) (by kernel_rfl) ?_
                        refine TSteps.cons _ rfl ?_ trivial
                        intro x hd K Qr hK
                        try simp only [edges, DepsE, List.filter_cons, List.filter_nil, Region.binds, if_true, and_true, true_and, upd, Nat.reduceEqDiff, if_false] at hd
                        try simp only [hd] at hK ⊢
                        clear hd
                        have HK := Lib.hid hK; clear hK
                        have hu := Lib.hid (upto_any b _ (by omega) ((i : Int) - 1) (by omega) ((i : Int) - 1) (by omega) W2 HX2.out.bk.sp)
                        have hbl2 := HX2.out.bk.lt
                        go_wp2_with fail
                        refine hu.out.mono ?_
                        rintro e W3 ⟨u2, rfl, hv1, hv2, hs2, ha2⟩
                        have HX3 := Lib.hid (HX2.out.turn ha2 hs2)
                        have hB3 := hB2.apart (by omega) ha2
                        clear hu hs2 ha2 HX2
                        go_wp2_with fail
                        refine HK.out _ _ (fun _ => cel HX3.out) ?_
                        clear HK
                        refine Unlock.of (ds := [10]) (by kernel_rfl) ?_
                        repeat (first
                          | (apply Unlock.float rfl
                             · intro x W he hd K Qr hK
                               try (have he := he (by decide); skip)
                               try simp only [edges, DepsE, List.filter_cons, List.filter_nil, Region.binds, if_true, and_true, true_and, upd, Nat.reduceEqDiff, if_false] at hd
                               try simp only [hd] at hK ⊢
                               have HK := Lib.hid hK; clear hK
                               go_wp2_with fail
                               exact HK.out))
                        refine Unlock.nil ?_
                        exact Tree.eq (by kernel_rfl) (Hcut.out _ _ ⟨u1, u2, rb, by rw [upd_comm (show 11 ≠ 9 by decide), upd_comm (show 11 ≠ 10 by decide)], ⟨hu1, hu2⟩, ⟨hv1, hv2⟩, hlt, hnb, HX3.out, hB3⟩)
                    · intro x hd K Qr hK
                      try simp only [edges, DepsE, List.filter_cons, List.filter_nil, Region.binds, if_true, and_true, true_and, upd, Nat.reduceEqDiff, if_false] at hd
                      try simp only [hd] at hK ⊢
                      clear hd
                      have HK := Lib.hid hK; clear hK
                      have hb7 := Ext.alloc W (.cells #[.int .i64 0, .int .i64 0, .int .i64 0, .int .i64 0] 58)
                      have HX1 := Lib.hid (HX0.out.ext hb7)
                      have hB2 := Blk.new W 58 #[.int .i64 0, .int .i64 0, .int .i64 0, .int .i64 0]
                      have hlt := HX0.out.bk.bt.lt
                      have hnb : ∀ g, (Value.slice Agp gs.length cgp).ownBlock = some g → g ≠ W.heap.size := fun g hg => by have := (ownsRow_own HX0.out.at_.gp g hg).2; omega
                      go_wp2_with fail
                      refine HK.out _ _ (fun _ => cel HX1.out) ?_
                      clear HK
                      refine Unlock.of (ds := []) (by kernel_rfl) ?_
                      repeat (first
                        | (apply Unlock.float rfl
                           · intro x W he hd K Qr hK
                             try (have he := he (by decide); skip)
                             try simp only [edges, DepsE, List.filter_cons, List.filter_nil, Region.binds, if_true, and_true, true_and, upd, Nat.reduceEqDiff, if_false] at hd
                             try simp only [hd] at hK ⊢
                             have HK := Lib.hid hK; clear hK
                             go_wp2_with fail
                             exact HK.out))
                      refine Unlock.nil ?_
                      obtain ⟨rb, hrb⟩ : ∃ rb, W.heap.size = rb := ⟨_, rfl⟩
                      rw [hrb] at hB2 hlt hnb ⊢
                      clear hrb hb7 HX0 he
                      generalize W.alloc _ = W1 at *
                      refine Tree.next (ks := [(4, true)]) (by kernel_rfl) ?_
                      refine TSteps.cons _ rfl ?_ trivial
                      intro x hd K Qr hK
                      try simp only [edges, DepsE, List.filter_cons, List.filter_nil, Region.binds, if_true, and_true, true_and, upd, Nat.reduceEqDiff, if_false] at hd
                      try simp only [hd] at hK ⊢
                      clear hd
                      have HK := Lib.hid hK; clear hK
                      have hu := Lib.hid (upto_any b _ (by omega) ((i : Int) - 1) (by omega) ((i : Int) - 1) (by omega) W1 HX1.out.bk.sp)
                      have hbl2 := HX1.out.bk.lt
                      go_wp2_with fail
                      refine hu.out.mono ?_
                      rintro e W2 ⟨u1, rfl, hu1, hu2, hs1, ha1⟩
                      have HX2 := Lib.hid (HX1.out.turn ha1 hs1)
                      have hB3 := hB2.apart (by omega) ha1
                      clear hu hs1 ha1 HX1 hB2
                      go_wp2_with fail
                      refine HK.out _ _ (fun _ => cel HX2.out) ?_
                      clear HK
                      refine Unlock.of (ds := []) (by kernel_rfl) ?_
                      repeat (first
                        | (apply Unlock.float rfl
                           · intro x W he hd K Qr hK
                             try (have he := he (by decide); skip)
                             try simp only [edges, DepsE, List.filter_cons, List.filter_nil, Region.binds, if_true, and_true, true_and, upd, Nat.reduceEqDiff, if_false] at hd
                             try simp only [hd] at hK ⊢
                             have HK := Lib.hid hK; clear hK
                             go_wp2_with fail
                             exact HK.out))
                      refine Unlock.nil ?_
                      refine Tree.next (ks := [(9, true)]) (by kernel_rfl) ?_
                      refine TSteps.cons _ rfl ?_ trivial
                      intro x hd K Qr hK
                      try simp only [edges, DepsE, List.filter_cons, List.filter_nil, Region.binds, if_true, and_true, true_and, upd, Nat.reduceEqDiff, if_false] at hd
                      try simp only [hd] at hK ⊢
                      clear hd
                      have HK := Lib.hid hK; clear hK
                      have hu := Lib.hid (upto_any b _ (by omega) ((i : Int) - 1) (by omega) ((i : Int) - 1) (by omega) W2 HX2.out.bk.sp)
                      go_wp2_with fail
                      refine hu.out.mono ?_
                      rintro e W3 ⟨u2, rfl, hv1, hv2, hs2, ha2⟩
                      have HX3 := Lib.hid (HX2.out.turn ha2 hs2)
                      have hB4 := hB3.apart (by omega) ha2
                      clear hu hs2 ha2 HX2
                      go_wp2_with fail
                      refine HK.out _ _ (fun _ => cel HX3.out) ?_
                      clear HK
                      refine Unlock.of (ds := [10]) (by kernel_rfl) ?_
                      repeat (first
                        | (apply Unlock.float rfl
                           · intro x W he hd K Qr hK
                             try (have he := he (by decide); skip)
                             try simp only [edges, DepsE, List.filter_cons, List.filter_nil, Region.binds, if_true, and_true, true_and, upd, Nat.reduceEqDiff, if_false] at hd
                             try simp only [hd] at hK ⊢
                             have HK := Lib.hid hK; clear hK
                             go_wp2_with fail
                             exact HK.out))
                      refine Unlock.nil ?_
                      exact Tree.eq (by kernel_rfl) (Hcut.out _ _ ⟨u1, u2, rb, by rw [upd_comm (show 11 ≠ 4 by decide), upd_comm (show 11 ≠ 9 by decide), upd_comm (show 11 ≠ 10 by decide)], ⟨hu1, hu2⟩, ⟨hv1, hv2⟩, hlt, hnb, HX3.out, hB4⟩)
                    -- >>
                  -- >>
                · -- <<K
                  obtain rfl : q = V := by omega
                  obtain ⟨Ac, cc, rfl⟩ := ownsRow_slice hS.out.at_.cl
                  obtain ⟨Ar, cr, rfl⟩ := ownsRow_slice hS.out.at_.rd
                  obtain ⟨Agp, cgp, rfl⟩ := ownsRow_slice hS.out.at_.gp
                  obtain ⟨As, ca, rfl⟩ := ownsRow_slice hS.out.os
                  obtain ⟨Ag, cg, rfl⟩ := ownsRow_slice hS.out.on
                  obtain ⟨At, ct, rfl⟩ := ownsRow_slice hS.out.ot
                  have HTl := Lib.hid hTl
                  clear hTl
                  have HD0 := hS
                  clear hS
                  go_upto_region 26 with fail
                  obtain ⟨o0, o1, o2, o3, o4⟩ := HD0.out.bk.bo.c5
                  obtain ⟨t0, t1, t2⟩ := HD0.out.bk.bt.c3
                  refine wp_region_chainG (fun W => W.cell? ⟨O, 0, none⟩ = some (.int .i64 mi) ∧ W.cell? ⟨O, 1, none⟩ = some (.int .i64 (i : Int)) ∧ W.cell? ⟨O, 2, none⟩ = some (.slice Ac cs.length cc) ∧ W.cell? ⟨O, 3, none⟩ = some (.slice Ar rs.length cr) ∧ W.cell? ⟨O, 4, none⟩ = some (.slice Agp gs.length cgp) ∧ W.cell? ⟨O + 1, 0, none⟩ = some (.slice As S.length ca) ∧ W.cell? ⟨O + 1, 1, none⟩ = some (.slice Ag G.length cg) ∧ W.cell? ⟨O + 1, 2, none⟩ = some (.slice At T.length ct)) (⟨o0, o1, o2, o3, o4, t0, t1, t2⟩) 3 [(2, true)] [] (by kernel_rfl) (by kernel_rfl) (by kernel_rfl) ?_
                  simp only [List.take, List.drop, fill, Act.put, List.setIfInBounds_toArray, List.set_cons_zero, List.set_cons_succ, Nat.reduceAdd]
                  repeat (first
                    | refine Floats.mut rfl ?_
                    | (apply Floats.float rfl
                       · intro x W he hd K Q hK
                         try (have he := he (by decide); obtain ⟨o0, o1, o2, o3, o4, t0, t1, t2⟩ := he)
                         try simp only [edges, DepsE, List.filter_cons, List.filter_nil, Region.binds, if_true, and_true, true_and, upd, Nat.reduceEqDiff, if_false] at hd
                         try simp only [hd] at hK ⊢
                         have HK := Lib.hid hK; clear hK
                         go_wp2_with fail
                         exact HK.out))
                  refine Floats.done fun W he hG => ?_
                  have HD := Lib.hid (HD0.out.ext he)
                  clear HD0 o0 o1 o2 o3 o4 t0 t1 t2 hG he
                  obtain ⟨Wd, hWd⟩ : ∃ Wd, Wd = W := ⟨_, rfl⟩
                  subst hWd
                  have hbr := HD.out.bk.br
                  have hbq := HD.out.bk.bq
                  have hbt2 : Blk (Wd.setRow w.heap.size #[.int .i64 mi, .int .i64 (i : Int), .slice Ac cs.length cc, .slice Ar rs.length cr, .slice Agp gs.length cgp]) (O + 1) 30 #[.slice As S.length ca, .slice Ag G.length cg, .slice At T.length ct] := HD.out.bk.bt.rowFar (by have := HD.out.bk.lt; omega) _
                  have hbo2 : Blk (Wd.setRow w.heap.size #[.int .i64 mi, .int .i64 (i : Int), .slice Ac cs.length cc, .slice Ar rs.length cr, .slice Agp gs.length cgp]) O 27 #[.int .i64 mi, .int .i64 (i : Int), .slice Ac cs.length cc, .slice Ar rs.length cr, .slice Agp gs.length cgp] := HD.out.bk.bo.rowFar (by have := HD.out.bk.lt; omega) _
                  obtain ⟨t0, t1, t2⟩ := hbt2.c3
                  obtain ⟨o0, o1, o2, o3, o4⟩ := hbo2.c5
                  have hbq2 : Blk (Wd.setRow w.heap.size #[.int .i64 mi, .int .i64 (i : Int), .slice Ac cs.length cc, .slice Ar rs.length cr, .slice Agp gs.length cgp]) (w.heap.size + 1) 30 Z3 := hbq.rowFar (by omega) _
                  have hne : w.heap.size ≠ w.heap.size + 1 := by omega
                  have hbr9 : Blk ((Wd.setRow w.heap.size #[.int .i64 mi, .int .i64 (i : Int), .slice Ac cs.length cc, .slice Ar rs.length cr, .slice Agp gs.length cgp]).setRow (w.heap.size + 1) #[.slice As S.length ca, .slice Ag G.length cg, .slice At T.length ct]) w.heap.size 27 #[.int .i64 mi, .int .i64 (i : Int), .slice Ac cs.length cc, .slice Ar rs.length cr, .slice Agp gs.length cgp] := (Blk.row hbr _).rowFar hne _
                  have hbq9 : Blk ((Wd.setRow w.heap.size #[.int .i64 mi, .int .i64 (i : Int), .slice Ac cs.length cc, .slice Ar rs.length cr, .slice Agp gs.length cgp]).setRow (w.heap.size + 1) #[.slice As S.length ca, .slice Ag G.length cg, .slice At T.length ct]) (w.heap.size + 1) 30 #[.slice As S.length ca, .slice Ag G.length cg, .slice At T.length ct] := Blk.row hbq2 _
                  have Hbr := Lib.hid hbr; have Hbq2 := Lib.hid hbq2; have Hr9 := Lib.hid hbr9; have Hq9 := Lib.hid hbq9
                  have hrow : ∀ {ty : TypeId} {base size n : Nat} {e : TypeId} {v : Value} {xs : List Value}, Wd.ownsRow base e size v n xs → w.heap.size + 1 < base → ((Wd.setRow w.heap.size #[.int .i64 mi, .int .i64 (i : Int), .slice Ac cs.length cc, .slice Ar rs.length cr, .slice Agp gs.length cgp]).setRow (w.heap.size + 1) #[.slice As S.length ca, .slice Ag G.length cg, .slice At T.length ct]).ownsRow base e size v n xs := by
                    intro _ base size n e v xs h hb
                    obtain ⟨h1, h2⟩ := h
                    refine ⟨h1, ?_⟩
                    rcases h2 with h2 | ⟨g, cap, cur, rfl, hg, hg', r⟩
                    · exact .inl h2
                    · exact .inr ⟨g, cap, cur, rfl, hg, Blk.rowFar (Blk.rowFar hg' (by omega) _) (by omega) _, r⟩
                  have HA9 := Lib.hid (show AttO ((Wd.setRow w.heap.size #[.int .i64 mi, .int .i64 (i : Int), .slice Ac cs.length cc, .slice Ar rs.length cr, .slice Agp gs.length cgp]).setRow (w.heap.size + 1) #[.slice As S.length ca, .slice Ag G.length cg, .slice At T.length ct]) (O + 2) (.slice Ac cs.length cc) (.slice Ar rs.length cr) (.slice Agp gs.length cgp) ⟨mi, i, cs, rs, gs⟩ from ⟨hrow (ty := 0) HD.out.at_.cl (by omega), hrow (ty := 0) HD.out.at_.rd (by omega), hrow (ty := 0) HD.out.at_.gp (by omega)⟩)
                  have HT9 := Lib.hid (show OwnI ((Wd.setRow w.heap.size #[.int .i64 mi, .int .i64 (i : Int), .slice Ac cs.length cc, .slice Ar rs.length cr, .slice Agp gs.length cgp]).setRow (w.heap.size + 1) #[.slice As S.length ca, .slice Ag G.length cg, .slice At T.length ct]) (O + 2) 3 (.slice At T.length ct) T from hrow (ty := 0) HD.out.ot (by omega))
                  have hap : Apart b w ((Wd.setRow w.heap.size #[.int .i64 mi, .int .i64 (i : Int), .slice Ac cs.length cc, .slice Ar rs.length cr, .slice Agp gs.length cgp]).setRow (w.heap.size + 1) #[.slice As S.length ca, .slice Ag G.length cg, .slice At T.length ct]) := by
                    obtain ⟨g1, g2, g3, g4, g5⟩ := HD.out.bk.ap
                    refine ⟨g1, g2, g3, by simpa [World.setRow] using g4, fun x hx hnb => ?_⟩
                    rw [setRow_other _ _ _ _ (by omega), setRow_other _ _ _ _ (by omega)]
                    exact g5 x hx hnb
                  have HAp := Lib.hid hap
                  have HM := hM
                  clear hbr hbq hbt2 hbo2 hbq2 hbr9 hbq9 hap hrow HD hM hcl hSl hGl hgl hne hlq hq
                  have hGx := Lib.hid (And.intro o0 (And.intro o1 (And.intro o2 (And.intro o3 (And.intro o4 (And.intro t0 (And.intro t1 t2)))))))
                  clear o0 o1 o2 o3 o4 t0 t1 t2
                  refine Chain.cons _ rfl ?_
                  intro x hd K Q hK
                  try simp only [edges, DepsE, List.filter_cons, List.filter_nil, Region.binds, if_true, and_true, true_and, upd, Nat.reduceEqDiff, if_false] at hd
                  try simp only [hd] at hK ⊢
                  clear hd
                  have HK := Lib.hid hK; clear hK
                  go_wp2_with (refine wpList_rowStore rfl 27 _ _ rfl w.heap.size rfl _ Hbr.out #[.int .i64 mi, .int .i64 (i : Int), .slice Ac cs.length cc, .slice Ar rs.length cr, .slice Agp gs.length cgp] rfl (by kernel_rfl) rfl (by kernel_rfl) ?_)
                  refine HK.out undef _ (fun _ => hGx.out) ?_
                  clear HK hGx
                  refine Chain.nil ?_
                  simp only [upd, Nat.reduceEqDiff, if_false, if_true]
                  go_wp2_with (refine wpList_rowStore rfl 30 _ _ rfl (w.heap.size + 1) rfl _ Hbq2.out #[.slice As S.length ca, .slice Ag G.length cg, .slice At T.length ct] rfl (by kernel_rfl) rfl (by kernel_rfl) ?_)
                  refine bodyPost_ret (v := .tuple #[.agg #[.int .i64 mi, .int .i64 (i : Int), .slice Ac cs.length cc, .slice Ar rs.length cr, .slice Agp gs.length cgp], .agg #[.slice As S.length ca, .slice Ag G.length cg, .slice At T.length ct]]) ?_ rfl ⟨_, As, Ag, At, _, _, _, _, _, _, ⟨mi, i, cs, rs, gs⟩, S, G, T, rfl, HA9.out.val, HT9.out.mono (by omega), HM.out, HAp.out⟩
                  obtain ⟨z0, z1, z2, z3, z4⟩ := Hr9.out.c5
                  obtain ⟨y0, y1, y2⟩ := Hq9.out.c3
                  simp [results, Try.results4, go_sem, z0, z1, z2, z3, z4, y0, y1, y2]
                  -- >>
              -- >>
          -- >>
      -- >>
end Go.Proofs.Pet
