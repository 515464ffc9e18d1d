/-
  LoomCarded, walked.
-/
import Derived.Test.YtknokjnplbdmeaaC6
import Derived.Test.YtknokjnplbdmeaaC2
import Derived.Test.YtknokjnplbdmeaaU6
namespace Go.Proofs.Pet
set_option linter.unusedSimpArgs false
open Go Go.RowKit Go.Maps Go.Shelf

set_option maxRecDepth 100000 in
set_option maxHeartbeats 8000000 in
theorem loomCarded_any (v v2 : Value) (w : World) (hv : BytesIn w v) (hv2 : BytesIn w v2) :
    Calls Try.prog 10 #[v, v2] w fun e w' => e = .returned (.bool true) ∧ Ext w w' := by
  obtain ⟨ti, hi, hz0, hz1, hz2⟩ := info_parts info_int
  obtain ⟨tc, hc, hc0, hc1, hc2⟩ := info_parts info_chain
  have hwo := Lib.hid (woundB_any v w w hv (Ext.refl w))
  have Hv2 := Lib.hid hv2; clear hv hv2
  go_enter Try.func10, Try.ntmps10
  go_wp2_with fail
  refine hwo.out.mono ?_
  rintro e w1 ⟨rfl, hs1, he1⟩
  have hwo2 := Lib.hid (woundB_any v2 w w1 Hv2.out he1)
  clear hwo
  go_wp2_with fail
  refine hwo2.out.mono ?_
  rintro e w2 ⟨rfl, hq2, he2⟩
  have hs2 := hs1.at_.ext he2
  have hlt1 := hs1.at_.lt
  have hE := he1.trans he2
  obtain ⟨b1, hb1⟩ : ∃ b1, w.heap.size = b1 := ⟨_, rfl⟩
  obtain ⟨b2, hb2⟩ : ∃ b2, w1.heap.size = b2 := ⟨_, rfl⟩
  rw [hb1] at hs2 hq2 hlt1 ⊢
  rw [hb2] at hq2 hlt1 ⊢
  have hb2l := hq2.at_.lt
  have Hb1 := Lib.hid hb1
  clear hwo2 hs1 he1 he2 hb1 hb2
  have hfr := Lib.hid (from_any b1 0 (by omega) 1 5 (by omega) 5 (by omega) w2 hs2)
  go_wp2_with fail
  refine hfr.out.mono ?_
  rintro e w3 ⟨L, rfl, hL1, hL2, hs3, ha3⟩
  clear hfr hs2
  obtain ⟨Ln, rfl⟩ : ∃ Ln : Nat, L = (Ln : Int) := ⟨L.toNat, by omega⟩
  go_wp2_with fail
  go_loopw [7, 36] (fun cv iv wr => ∃ i : Nat, ∃ css, i ≤ Ln ∧ iv = .int .i64 i ∧ css.length = i ∧ Hid (∀ c, c ∈ css → CardsOk c) ∧ Apart b1 w2 wr ∧ SpoolAt wr b1 (1 + 10 * i) ∧ Hid (Chains wr w2.heap.size cv css)) (fun _ iv _ => Ln - (intOf iv).toNat)
  case atStart => exact ⟨0, [], by omega, rfl, rfl, fun c h => (by cases h), ha3, hs3, Chains.nil _ _⟩
  case round =>
    clear ha3 hs3
    obtain ⟨i, css, hiL, rfl, hcl, hck, hap, hsp, hch⟩ := hrel
    subst hcl
    have hszr := hap.size
    by_cases hlt : css.length < Ln
    · -- part 1
      -- <<A
      have hX := Ext.alloc wr (.cells #[.int .i64 2, .slice none 0 0, .int .i64 0, .int .i64 0] 100)
      have hY := Blk.new wr 100 #[.int .i64 2, .slice none 0 0, .int .i64 0, .int .i64 0]
      have hfr := Lib.hid (from_any b1 _ (by omega) 1 3 (by omega) 3 (by omega) _ (hsp.ext hX))
      go_wp2_with fail
      obtain ⟨W8, hW8⟩ : ∃ W8, W8 = wr := ⟨_, rfl⟩
      rw [← hW8] at hX hY hfr hap hsp hch hszr ⊢
      clear hW8
      obtain ⟨Y, hYe⟩ : ∃ Y, W8.heap.size = Y := ⟨_, rfl⟩
      rw [hYe] at hY hszr ⊢
      have hYe' : W8.heap.size ≤ Y := by omega
      have hb8 : b1 < W8.heap.size := by omega
      have hapX := Apart.of_ext (b := b1) hX
      generalize W8.alloc _ = wa at *
      refine hfr.out.mono ?_
      rintro e w4 ⟨N, rfl, hN1, hN2, hs4, ha4⟩
      have hY4 := hY.apart (by omega) ha4
      have hap4 := hapX.trans ha4
      clear hfr hX hY hapX ha4
      obtain ⟨Nn, rfl⟩ : ∃ Nn : Nat, N = (Nn : Int) := ⟨N.toNat, by omega⟩
      go_wp2_with fail
      go_loopw [41] (fun jv wr => ∃ xs v1, xs.length ≤ Nn ∧ jv = .int .i64 xs.length ∧ Hid (∀ x, x ∈ xs → (0 : Int) ≤ x ∧ x ≤ 1) ∧ Hid (InS W8 b1 Y xs (1 + 10 * css.length + 1 + xs.length) v1 wr)) (fun jv _ => Nn - (intOf jv).toNat)
      case atStart => exact ⟨[], _, by simp, rfl, fun x h => (by cases h), ⟨hap4, hs4, hY4, OwnI.nil _ _ _, hb8, hYe'⟩⟩
      case round =>
        clear hs4 hY4 hap4
        obtain ⟨xs, v1, hxN, rfl, hxs, hS⟩ := hrel
        by_cases hltj : xs.length < Nn
        · obtain ⟨A1, c1, rfl, g1, g2, g3, g4, g5⟩ := hS.out.o1.open_
          obtain ⟨k0, k1, k2, k3⟩ := hS.out.bm.c4
          clear g3 g4 g5 k0 k2 k3
          have hszM := hS.out.bm.lt
          go_wp2_with fail
          refine wp_region_chainG (fun W => W.cell? ⟨Y, 1, none⟩ = some (.slice A1 xs.length c1)) (k1) 6 [(3, true), (4, true), (5, false)] [] (by kernel_rfl) (by kernel_rfl) (by kernel_rfl) ?_
          simp only [List.take, List.drop, fill, Act.put, List.setIfInBounds_toArray, List.set_cons_zero, List.set_cons_succ, Nat.reduceAdd]
          repeat (first
            | refine Floats.mut rfl ?_
            | (apply Floats.float rfl
               · intro x W he hd K Q hK
                 try (have he := he (by decide); have k1 : W.cell? _ = some _ := he)
                 try simp only [edges, DepsE, List.filter_cons, List.filter_nil, Region.binds, if_true, and_true, true_and, upd, Nat.reduceEqDiff, if_false] at hd
                 try simp only [hd] at hK ⊢
                 have HK := Lib.hid hK; clear hK
                 go_wp2_with fail
                 exact HK.out))
          refine Floats.done fun W he hG => ?_
          have hS1 := hS.out.ext he
          have hfr := Lib.hid (upto_any b1 _ (by omega) 1 (by omega) 1 (by omega) W hS1.sp)
          clear hG
          refine Chain.cons _ rfl ?_
          intro x hd K Q hK
          try simp only [edges, DepsE, List.filter_cons, List.filter_nil, Region.binds, if_true, and_true, true_and, upd, Nat.reduceEqDiff, if_false] at hd
          try simp only [hd] at hK ⊢
          clear hd
          have HK := Lib.hid hK; clear hK
          go_wp2_with fail
          refine hfr.out.mono ?_
          rintro e w5 ⟨xv, rfl, hx1, hx2, hs5, ha5⟩
          have hS2 := hS1.turn ha5 hs5
          clear hfr hS1 ha5 hs5 hS
          go_wp2_with fail
          refine HK.out _ _ (fun _ => hS2.bm.c4.2.1) ?_
          clear HK
          refine Chain.cons _ rfl ?_
          intro x hd K Q hK
          try simp only [edges, DepsE, List.filter_cons, List.filter_nil, Region.binds, if_true, and_true, true_and, upd, Nat.reduceEqDiff, if_false] at hd
          try simp only [hd] at hK ⊢
          clear hd
          have HK := Lib.hid hK; clear hK
          have hb5 := Ext.alloc w5 (.cells #[.int .i64 xv] 3)
          have hS3 := hS2.ext hb5
          have hsrc := Src.one w5 (.int .i64 xv) 3
          go_wp2_with fail
          refine HK.out _ _ (fun _ => hS3.bm.c4.2.1) ?_
          clear HK
          refine Chain.cons _ rfl ?_
          intro x hd K Q hK
          try simp only [edges, DepsE, List.filter_cons, List.filter_nil, Region.binds, if_true, and_true, true_and, upd, Nat.reduceEqDiff, if_false] at hd
          try simp only [hd] at hK ⊢
          clear hd
          have HK := Lib.hid hK; clear hK
          have hsz5 := hS3.bm.lt
          refine wpList_app rfl _ _ 22 rfl (Y + 1) 3 ti (.int .i64 0) 1 8 Try.underlying22 hi hz0 hz1 hz2 rfl (by decide) (.slice A1 xs.length c1) xs.length _ rfl hS3.o1 (some ⟨w5.heap.size, 0, none⟩) 1 _ [.int .i64 xv] rfl rfl hsrc (fun u hu => by rw [List.mem_singleton] at hu; subst hu; rfl) (by simp only [maxLen]; omega) (by omega) (by omega) ?_
          intro v' w6 hown hg hblk
          obtain ⟨q0, q1, hS6⟩ := hS3.push hown hg
          have HS6 := Lib.hid hS6; clear hS6
          obtain ⟨A9, c9, rfl⟩ := ownsRow_slice hown
          refine HK.out _ _ (fun h => by cases h) ?_
          clear HK
          refine Chain.nil ?_
          simp only [upd, Nat.reduceEqDiff, if_false, if_true]
          go_wp2_with fail
          go_roundw
          case rel =>
            refine ⟨xs ++ [xv], _, by rw [List.length_append, List.length_singleton]; omega, by rw [List.length_append, List.length_singleton]; go_num, ?_, by rw [List.length_append, List.length_singleton, ← Nat.add_assoc]; exact HS6⟩
            intro y hy
            rcases List.mem_append.1 hy with h | h
            · exact hxs.out y h
            · rw [List.mem_singleton] at h; subst h; omega
          case measure => simp [intOf]; omega
        · have hxe : xs.length = Nn := by omega
          subst hxe
          have hchr := hch.out.apart (by omega) hS.out.ap
          obtain ⟨cs, o1, o2⟩ := hchr
          obtain ⟨Av, cv', rfl⟩ := ownsRow_slice o1
          obtain ⟨A1, c1, rfl, g1, g2, _, _, _⟩ := hS.out.o1.open_
          obtain ⟨k0, k1, k2, k3⟩ := hS.out.bm.c4
          go_upto_region 10 with fail
          have hX9 := Ext.alloc wr (.cells #[.int .i64 2, .slice A1 xs.length c1, .int .i64 0, .int .i64 0] 100)
          have hsrc := Src.list wr [.int .i64 2, .slice A1 xs.length c1, .int .i64 0, .int .i64 0] 100
          have o1x := ownsRow_ext2 o1 hX9
          have hsz2 : w2.heap.size ≤ (wr.alloc (.cells #[.int .i64 2, .slice A1 xs.length c1, .int .i64 0, .int .i64 0] 100)).heap.size := by
            have h1 := hS.out.ap.size; have h2 := hX9.size; have h3 := hap.size
            omega
          have hln : css.length ≤ 5 := by omega
          have hpO : ∀ v' w12, w12.ownsRow w2.heap.size 100 4 v' (css.length + 1) (cs ++ [.int .i64 2, .slice A1 xs.length c1, .int .i64 0, .int .i64 0]) → (wr.alloc (.cells #[.int .i64 2, .slice A1 xs.length c1, .int .i64 0, .int .i64 0] 100)).grownBy w12 (Value.slice Av css.length cv').ownBlock →
              Apart b1 w2 w12 ∧ SpoolAt w12 b1 (1 + 10 * (css.length + 1)) ∧ Hid (Chains w12 w2.heap.size v' (css ++ [xs])) := by
            intro v' w12 hown hg
            have hge := fun j hj => (ownsRow_own o1x j hj).1
            refine ⟨((hap.trans hS.out.ap).trans (Apart.of_ext hX9)).grown hg hge, ((hS.out.sp.ext hX9).grown hg (fun j hj => by have := hge j hj; omega)).mono (by omega), ?_⟩
            exact Chains.push o1x (o2.map fun _ _ g => g.ext hX9) ((hS.out.o1.mono (by omega : w2.heap.size ≤ Y + 1)).ext hX9) hown hg
          have HpO := Lib.hid hpO
          have hxok : Hid (CardsOk xs) := ⟨⟨by omega, by omega⟩, hxs.out⟩
          clear hpO o1 o2 hap hsp hch hS
          go_wp2_with (at_builtin; refine wpList_app rfl _ _ 96 rfl w2.heap.size 100 tc _ 4 48 Try.underlying96 hc hc0 hc1 hc2 rfl (by decide) (.slice Av css.length cv') css.length cs rfl o1x (some ⟨wr.heap.size, 0, none⟩) 1 1 [.int .i64 2, .slice A1 xs.length c1, .int .i64 0, .int .i64 0] rfl rfl hsrc ?c2 ?c3 ?c4 ?c5 ?_; (case c2 => (intro u hu; simp only [List.mem_cons, List.not_mem_nil, or_false] at hu; rcases hu with rfl | rfl | rfl | rfl <;> rfl)); (case c3 => (unfold maxLen; omega)); (case c4 => omega); (case c5 => exact hsz2); intro v' w12 hown hg hblk; obtain ⟨q0, q1, q2⟩ := HpO.out v' w12 hown hg; obtain ⟨A9, c9, rfl⟩ := ownsRow_slice hown; clear hsrc)
          go_roundw
          case rel =>
            refine ⟨css.length + 1, css ++ [xs], by omega, by go_num, by simp, ?_, q0, q1, q2⟩
            intro y hy
            rcases List.mem_append.1 hy with h | h
            · exact hck.out y h
            · rw [List.mem_singleton] at h; subst h; exact hxok.out
          case measure => simp [intOf]; omega
      -- >>
    · have hLe : css.length = Ln := by omega
      subst hLe
      have hmk : ∀ W : World, (Instr.makeSlice 22 (.int .i64 (css.length : Int)) (.int .i64 (css.length : Int))).run Try.prog W = .ok (.slice (some ⟨W.heap.size, 0, none⟩) css.length css.length) (W.alloc (.cells (madeCells #[.int .i64 0] css.length) 3)) := by
        intro W
        have := run_make (P := Try.prog) W 22 3 ti _ Try.underlying22 hi hz0 .i64 .i64 css.length css.length (by omega) (by omega) (by rw [hz2]; omega) (by omega)
        simpa [hz1, Value.cells] using this
      obtain ⟨g, cg, _, _, e0, _⟩ := hch.out.at_ (k := 0) (by omega)
      subst e0
      have hX := Ext.alloc wr (.cells (madeCells #[.int .i64 0] css.length) 3)
      have hRw := Row.made (Blk.new wr 3 (madeCells #[.int .i64 0] css.length))
      go_wp2_with fail
      clear hmk
      obtain ⟨W3, hW3⟩ : ∃ W3, W3 = wr := ⟨_, rfl⟩
      rw [← hW3] at hX hRw hap hsp hch hszr ⊢
      clear hW3
      obtain ⟨N, hN⟩ : ∃ N, W3.heap.size = N := ⟨_, rfl⟩
      rw [hN] at hRw hszr ⊢
      have hN3 : W3.heap.size ≤ N := by omega
      clear hN
      generalize W3.alloc _ = W4 at *
      go_loopw [61] (fun iv wr => ∃ i : Nat, i ≤ css.length ∧ iv = .int .i64 i ∧ Ext W3 wr ∧ Row wr N css.length (fun j => if j < i then (numB css j : Int) else 0)) (fun iv _ => css.length - (intOf iv).toNat)
      case atStart => exact ⟨0, by omega, rfl, hX, hRw.congr fun j _ => by simp⟩
      case round =>
        clear hX hRw
        obtain ⟨i, hiN, rfl, he, hR⟩ := hrel
        by_cases hlti : i < css.length
        · have r0 := hR.cell hlti
          have f0 := hR.frozen i
          simp only [Nat.lt_irrefl, if_false] at r0
          go_wp2_with fail
          have hR5 := hR.set_ hlti (i : Int)
          have he5 : Ext W3 (wr.setCell ⟨N, i, none⟩ (.int .i64 (i : Int))) := Below.setCell he hN3 _
          clear r0 f0 hR he
          generalize wr.setCell _ _ = W5 at *
          go_wp2_with fail
          -- <<B
          go_loopw [11] (fun kv wr => ∃ j : Nat, j ≤ i ∧ kv = .int .i64 ((j : Int) - 1) ∧ Ext W3 wr ∧ Row wr N css.length (fun x => if x < i then (numB css x : Int) else if x = i then (numU css i j : Int) else 0)) (fun kv _ => (intOf kv + 1).toNat)
          case atStart =>
            refine ⟨i, Nat.le_refl _, rfl, he5, hR5.congr fun j _ => ?_⟩
            rw [numU_self]
            by_cases e : j = i
            · subst e; simp
            · simp [e]
          case round =>
            clear hR5 he5
            obtain ⟨j, hji, rfl, he, hR⟩ := hrel
            by_cases hj0 : j = 0
            · subst hj0
              go_wp2_with fail
              go_roundw
              case rel =>
                refine ⟨i + 1, by omega, by go_num, he, hR.congr fun x _ => ?_⟩
                by_cases e : x = i
                · subst e; simp [numB]
                · by_cases e2 : x < i
                  · rw [if_pos e2, if_pos (by omega)]
                  · rw [if_neg e2, if_neg e, if_neg (by omega)]
              case measure => simp [intOf]; omega
            · obtain ⟨k, rfl⟩ : ∃ k, j = k + 1 := ⟨j - 1, by omega⟩
              have ek : ((k + 1 : Nat) : Int) - 1 = (k : Int) := by omega
              rw [ek]
              clear ek hj0
              have hkn : k < css.length := by omega
              obtain ⟨g1, c1, A1, d1, e1, x0, x1, x2, x3, hci⟩ := (hch.out.ext he).at_ hlti
              obtain ⟨g2, c2, A2, d2, e2, y0, y1, y2, y3, hck'⟩ := (hch.out.ext he).at_ hkn
              simp only [Value.slice.injEq, Option.some.injEq, Addr.mk.injEq, and_true, true_and] at e1 e2
              obtain ⟨rfl, rfl⟩ := e1
              obtain ⟨rfl, rfl⟩ := e2
              have hoi := hck.out (css[i]?.getD []) (by rw [List.getElem?_eq_getElem hlti]; exact List.getElem_mem hlti)
              have hok := hck.out (css[k]?.getD []) (by rw [List.getElem?_eq_getElem hkn]; exact List.getElem_mem hkn)
              have hns := Lib.hid (numU_succ css (i := i) (j := k) (by omega))
              obtain ⟨xi, hxi⟩ : ∃ xi, css[i]?.getD [] = xi := ⟨_, rfl⟩
              obtain ⟨xk, hxk⟩ : ∃ xk, css[k]?.getD [] = xk := ⟨_, rfl⟩
              rw [hxi] at x1 hci hoi hns
              rw [hxk] at y1 hck' hok hns
              have Hdf := Lib.hid (fun W (hW : Ext wr W) => differ_any _ _ xi xk hoi hok W (hci.ext hW) (hck'.ext hW))
              have hdv : (difT xi xk = none ∧ difV xi xk = (0, 6)) ∨ ∃ t : Nat, difT xi xk = some t ∧ difV xi xk = ((t : Int), 0) := by
                unfold difV
                cases difT xi xk with
                | none => exact .inl ⟨rfl, rfl⟩
                | some t => exact .inr ⟨t, rfl, rfl⟩
              obtain ⟨p1, hp1⟩ : ∃ p1, (difV xi xk).1 = p1 := ⟨_, rfl⟩
              obtain ⟨p2, hp2⟩ : ∃ p2, (difV xi xk).2 = p2 := ⟨_, rfl⟩
              rw [hp1, hp2] at Hdf
              have Hdv : Hid ((difT xi xk = none ∧ p1 = 0 ∧ p2 = 6) ∨ ((∃ t : Nat, difT xi xk = some t) ∧ 0 ≤ p1 ∧ p2 = 0)) := by
                rcases hdv with ⟨h1, h2⟩ | ⟨t, h1, h2⟩
                · rw [h2] at hp1 hp2; exact .inl ⟨h1, hp1.symm, hp2.symm⟩
                · rw [h2] at hp1 hp2; exact .inr ⟨⟨t, h1⟩, by rw [← hp1]; show (0 : Int) ≤ (t : Int); omega, hp2.symm⟩
              clear hdv hp1 hp2 hxi hxk hci hck' hoi hok
              go_wp2_with fail
              refine wp_region_factsB 13 (by kernel_rfl) (by kernel_rfl) (fun W => Ext wr W) (valsR [.slice (some ⟨g, 0, none⟩) css.length cg, .int .i64 i, .pointer (some ⟨g, i * 4, none⟩), .agg #[.int .i64 2, .slice A1 xi.length d1, .int .i64 0, .int .i64 0],
                .slice (some ⟨g, 0, none⟩) css.length cg, .int .i64 k, .pointer (some ⟨g, k * 4, none⟩), .agg #[.int .i64 2, .slice A2 xk.length d2, .int .i64 0, .int .i64 0], .tuple #[.int .i64 p1, .int .i64 p2], .tuple #[.int .i64 p1, .int .i64 p2], .int .i64 p1, .int .i64 p2, .int .i64 p1]) (Ext.drew _) ?_ ?_
              · simp only [List.take, AllOpsB, fill, Act.put, List.setIfInBounds_toArray, List.set_cons_zero, List.set_cons_succ, Nat.reduceAdd, Deps, List.filter_cons, List.filter_nil, Region.binds, if_true, and_true]
                refine ⟨?_, ?_, ?_, ?_, ?_, ?_, ?_, ?_, ?_, ?_, ?_, ?_, ?_⟩
                all_goals
                  intro x W hG hd K Q hK
                  try (simp only [valsR, List.getElem?_cons_succ, List.getElem?_cons_zero, Option.getD_some] at hd; simp only [hd] at hK ⊢)
                  have u0 := hG.cell x0; have u1 := hG.cell x1; have u2 := hG.cell x2; have u3 := hG.cell x3
                  have z0 := hG.cell y0; have z1 := hG.cell y1; have z2 := hG.cell y2; have z3 := hG.cell y3
                  have HK := Lib.hid hK; clear hK
                case refine_9 =>
                  go_wp2_with fail
                  refine (Hdf.out _ hG).mono ?_
                  rintro e w' ⟨rfl, he⟩
                  go_wp2
                  exact HK.out _ _ rfl (hG.trans he) (fun _ _ h => h)
                all_goals
                  go_wp2
                  exact HK.out _ _ rfl hG (fun _ _ h => h)
              · intro x W hG hRR
                simp only [AllR, valsR, true_and, List.getElem?_cons_succ, List.getElem?_cons_zero, Option.getD_some] at hRR
                obtain ⟨⟨⟨⟨⟨⟨⟨⟨⟨⟨⟨⟨r0, r1⟩, r2⟩, r3⟩, r4⟩, r5⟩, r6⟩, r7⟩, r8⟩, r9⟩, r10⟩, r11⟩, r12⟩ := hRR
                simp only [List.take, List.drop, fill, Act.put, List.setIfInBounds_toArray, List.set_cons_zero, List.set_cons_succ, Nat.reduceAdd, r0, r1, r2, r3, r4, r5, r6, r7, r8, r9, r10, r11, r12]
                clear r0 r1 r2 r3 r4 r5 r6 r7 r8 r9 r10 r11 r12 x0 x1 x2 x3 y0 y1 y2 y3 Hdf
                have heW := he.trans hG
                have hRW := hR.ext hG
                clear he hR hG
                rcases Hdv.out with ⟨hdn, rfl, rfl⟩ | ⟨⟨t, hdt⟩, hp1, rfl⟩
                · have r0 := hRW.cell hlti
                  have f0 := hRW.frozen i
                  have Hdn := Lib.hid hdn
                  clear hdn
                  go_wp2_with fail
                  go_roundw
                  case rel =>
                    refine ⟨k, by omega, rfl, Below.setCell heW hN3 _, (hRW.set_ hlti (k : Int)).congr fun x _ => ?_⟩
                    have e := hns.out
                    rw [if_pos Hdn.out] at e
                    rw [e]
                    by_cases e : x = i
                    · subst e; simp
                    · simp [e]
                  case measure => simp [intOf]
                · have Hdt := Lib.hid hdt
                  clear hdt
                  go_wp2_with fail
                  go_roundw
                  case rel =>
                    refine ⟨k, by omega, rfl, heW, hRW.congr fun x _ => ?_⟩
                    have e := hns.out
                    rw [if_neg (by rw [Hdt.out]; simp)] at e
                    rw [e]
                  case measure => simp [intOf]
          -- >>
        · obtain rfl : i = css.length := by omega
          have hRn : Row wr N css.length (fun j => (numB css j : Int)) := hR.congr fun j hj => by simp [hj]
          have r0 : wr.cell? ⟨N, 0, none⟩ = some (.int .i64 0) := by
            have := hRn.cell (j := 0) (by omega)
            simpa [numB_zero] using this
          have hq3 := (hq2.apart (Nat.le_refl _) (by omega) hap).ext he
          have hch3 := Lib.hid (hch.out.ext he)
          have hEw := (Apart.ext_of (hE) (by have := Hb1.out; omega) hap).trans he
          have hszw := hEw.size
          have hb2w : b2 < wr.heap.size := hq3.at_.lt
          have hNb2 : N ≠ b2 := by omega
          clear hR he hch hap hsp
          have hX6 := Ext.alloc wr (.cells #[.int .i64 0] 3)
          have hL6 := Blk.new wr 3 #[.int .i64 0]
          have hX7 := Ext.alloc (wr.alloc (.cells #[.int .i64 0] 3)) (.cells #[.slice (some ⟨wr.heap.size, 0, none⟩) 1 1, .int .i64 2, .slice none 0 0] 25)
          have hM7 := Blk.new (wr.alloc (.cells #[.int .i64 0] 3)) 25 #[.slice (some ⟨wr.heap.size, 0, none⟩) 1 1, .int .i64 2, .slice none 0 0]
          have hup := Lib.hid (upto_any b2 0 (by omega) 7 (by omega) 7 (by omega) _ ((hq3.at_.ext hX6).ext hX7))
          go_wp2_with fail
          clear r0
          have hRn6 := hRn.ext hX6
          have hch6 := Lib.hid (hch3.out.ext hX6)
          have hq6 := (hq3.at_.ext hX6)
          have hEw6 := hEw.trans hX6
          rw [World.size_alloc] at hM7
          obtain ⟨LB, hLB⟩ : ∃ LB, wr.heap.size = LB := ⟨_, rfl⟩
          rw [hLB] at hL6 hM7 hX7 hb2w hup ⊢
          have hs6 : (wr.alloc (.cells #[.int .i64 0] 3)).heap.size = LB + 1 := by rw [World.size_alloc, hLB]
          clear hRn hch3 hq3 hEw hX6
          generalize wr.alloc _ = W6 at *
          obtain ⟨M, hM⟩ : ∃ M, LB + 1 = M := ⟨_, rfl⟩
          rw [hM] at hM7 hs6 ⊢
          generalize W6.alloc _ = W7 at *
          refine hup.out.mono ?_
          rintro e w8 ⟨Nq, rfl, hq1, hq2', hs8, ha8⟩
          clear hup
          obtain ⟨Nn, rfl⟩ : ∃ Nn : Nat, Nq = (Nn : Int) := ⟨Nq.toNat, by omega⟩
          have hR8 : Hid (RnS W6 b2 M (M + 1) (.slice (some ⟨LB, 0, none⟩) 1 1) (cardM css []).orders [] (1 + 10 * 0) (.slice none 0 0) (.slice none 0 0) (.slice none 0 0) w8) :=
            ⟨(Apart.of_ext hX7).trans ha8, hs8, hM7.apart (by omega) ha8, ⟨[], World.ownsRow_nil _ _ _ _, trivial, (fun g e => by cases e), (fun g e => by cases e)⟩, OwnI.nil _ _ _, OwnI.nil _ _ _, (fun g e => by cases e), by omega, by omega, by omega⟩
          clear hs8 ha8 hM7 hX7
          go_wp2_with fail
          go_loopw [15, 16, 110] (fun rv ov iv wr => ∃ oc vo, oc.length ≤ Nn ∧ iv = .int .i64 oc.length ∧ Hid (∀ c, c ∈ oc → c < css.length) ∧ Hid (RnS W6 b2 M (M + 1) (.slice (some ⟨LB, 0, none⟩) 1 1) (cardM css oc).orders oc (1 + 10 * oc.length) vo rv ov wr)) (fun _ _ iv _ => Nn - (intOf iv).toNat)
          case atStart => exact ⟨[], _, by simp, rfl, fun c h => (by cases h), hR8.out⟩
          case round =>
            clear hR8
            obtain ⟨oc, vo, hoN, rfl, hoc, hS⟩ := hrel
            by_cases hltq : oc.length < Nn
            · -- <<D
              obtain ⟨Ar, cr, As, cs', rfl, rfl⟩ := hS.out.slices
              have hup := Lib.hid (upto_any b2 _ (by omega) ((css.length : Int) - 1) (by omega) ((css.length : Int) - 1) (by omega) wr hS.out.sp)
              go_wp2_with fail
              refine hup.out.mono ?_
              rintro e w9 ⟨r, rfl, hr1, hr2, hs9, ha9⟩
              have hS9 := Lib.hid (hS.out.turn ha9 hs9)
              clear hup hs9 ha9 hS
              obtain ⟨c, rfl⟩ : ∃ c : Nat, r = (c : Int) := ⟨r.toNat, by omega⟩
              have hcn : c < css.length := by omega
              have nc := (hRn6.apart hNb2 hS9.out.ap).cell hcn
              obtain ⟨tr, ho, ho0, ho1, ho2⟩ := info_parts info_order
              obtain ⟨nb, hnb⟩ : ∃ nb, (numB css c : Int) = nb := ⟨_, rfl⟩
              simp only [hnb] at nc
              have Hnb := Lib.hid hnb
              obtain ⟨cso, o1, _⟩ := hS9.out.oo
              obtain ⟨Ao, co, rfl⟩ := ownsRow_slice o1
              have hol : (cardM css oc).orders.length = oc.length := cardM_len css oc
              rw [hol] at hS9
              obtain ⟨k0, k1, k2⟩ := hS9.out.bm.c3
              clear o1 hnb k0 k1 hol
              have hsM := hS9.out.bm.lt
              go_wp2_with fail
              refine wp_region_chainG (fun W => W.cell? ⟨M, 2, none⟩ = some (.slice Ao oc.length co) ∧ W.cell? ⟨N, c, none⟩ = some (.int .i64 nb)) (⟨k2, nc⟩) 10 [(6, true), (7, true), (8, true), (9, false)] [] (by kernel_rfl) (by kernel_rfl) (by kernel_rfl) ?_
              simp only [List.take, List.drop, fill, Act.put, List.setIfInBounds_toArray, List.set_cons_zero, List.set_cons_succ, Nat.reduceAdd]
              repeat (first
                | refine Floats.mut rfl ?_
                | (apply Floats.float rfl
                   · intro x W he hd K Q hK
                     try (have he := he (by decide); have k2 : W.cell? _ = some _ := he.1; have nc : W.cell? _ = some _ := he.2)
                     try simp only [edges, DepsE, List.filter_cons, List.filter_nil, Region.binds, if_true, and_true, true_and, upd, Nat.reduceEqDiff, if_false] at hd
                     try simp only [hd] at hK ⊢
                     have HK := Lib.hid hK; clear hK
                     go_wp2_with fail
                     exact HK.out))
              refine Floats.done fun W he hG => ?_
              have hS10 := Lib.hid (hS9.out.ext he)
              have nc10 := he.cell nc
              clear hG k2 nc hS9 he
              refine Chain.cons _ rfl ?_
              intro x hd K Q hK
              try simp only [edges, DepsE, List.filter_cons, List.filter_nil, Region.binds, if_true, and_true, true_and, upd, Nat.reduceEqDiff, if_false] at hd
              try simp only [hd] at hK ⊢
              clear hd
              have HK := Lib.hid hK; clear hK
              have hX := Ext.alloc W (.cells #[.int .i64 0] 3)
              have hOn := Blk.new W 3 #[.int .i64 0]
              have hS11 := Lib.hid (hS10.out.ext hX)
              have nc11 := hX.cell nc10
              go_wp2_with fail
              refine HK.out _ _ (fun _ => ⟨hS11.out.bm.c3.2.2, nc11⟩) ?_
              clear HK hX
              have hb1 := hS10.out.bm.lt
              obtain ⟨H, hH⟩ : ∃ H, W.heap.size = H := ⟨_, rfl⟩
              rw [hH] at hOn hb1 ⊢
              have n1 : ∀ vv xs, OwnI W (M + 1) 3 vv xs → ∀ g, vv.ownBlock = some g → (Value.slice (some ⟨H, 0, none⟩) 1 1).ownBlock ≠ some g := fun vv xs h g e e2 => by
                have h1 := (h.own_lt g e).2
                have : H = g := Option.some.inj e2
                omega
              have hrn := n1 _ _ hS10.out.rr; have hsn := n1 _ _ hS10.out.ss
              have Hrn := Lib.hid hrn; have Hsn := Lib.hid hsn
              clear n1 hH hrn hsn hS10 nc10
              generalize W.alloc _ = W11 at *
              refine Chain.cons _ rfl ?_
              intro x hd K Q hK
              try simp only [edges, DepsE, List.filter_cons, List.filter_nil, Region.binds, if_true, and_true, true_and, upd, Nat.reduceEqDiff, if_false] at hd
              try simp only [hd] at hK ⊢
              clear hd
              have HK := Lib.hid hK; clear hK
              go_wp2_with fail
              refine HK.out _ _ (fun _ => ⟨hS11.out.bm.c3.2.2, nc11⟩) ?_
              clear HK
              refine Chain.cons _ rfl ?_
              intro x hd K Q hK
              try simp only [edges, DepsE, List.filter_cons, List.filter_nil, Region.binds, if_true, and_true, true_and, upd, Nat.reduceEqDiff, if_false] at hd
              try simp only [hd] at hK ⊢
              clear hd
              have HK := Lib.hid hK; clear hK
              have hX12 := Ext.alloc W11 (.cells #[.int .i64 nb, .int .i64 1, .int .i64 99, .slice (some ⟨H, 0, none⟩) 1 1] 78)
              have hS12 := Lib.hid (hS11.out.ext hX12)
              have nc12 := hX12.cell nc11
              have hOn12 := hOn.ext hX12
              have hsrc := Src.list W11 [.int .i64 nb, .int .i64 1, .int .i64 99, .slice (some ⟨H, 0, none⟩) 1 1] 78
              go_wp2_with fail
              refine HK.out _ _ (fun _ => ⟨hS12.out.bm.c3.2.2, nc12⟩) ?_
              clear HK hS11 nc11 hOn hX12
              refine Chain.cons _ rfl ?_
              intro x hd K Q hK
              try simp only [edges, DepsE, List.filter_cons, List.filter_nil, Region.binds, if_true, and_true, true_and, upd, Nat.reduceEqDiff, if_false] at hd
              try simp only [hd] at hK ⊢
              clear hd
              have HK := Lib.hid hK; clear hK
              obtain ⟨csx, p1, p2, p3, p4⟩ := hS12.out.oo
              have p1' := p1
              rw [cardM_len] at p1'
              have hsz : M + 1 ≤ (W11.alloc (.cells #[.int .i64 nb, .int .i64 1, .int .i64 99, .slice (some ⟨H, 0, none⟩) 1 1] 78)).heap.size := by have := hS12.out.bm.lt; omega
              refine wpList_app rfl _ _ 23 rfl (M + 1) 78 tr _ 4 48 Try.underlying23 ho ho0 ho1 ho2 rfl (by decide) (.slice Ao oc.length co) oc.length csx rfl p1' (some ⟨W11.heap.size, 0, none⟩) 1 1 [.int .i64 nb, .int .i64 1, .int .i64 99, .slice (some ⟨H, 0, none⟩) 1 1] rfl rfl hsrc (fun u hu => by simp only [List.mem_cons, List.not_mem_nil, or_false] at hu; rcases hu with rfl | rfl | rfl | rfl <;> rfl) (by unfold maxLen; omega) (by omega) hsz ?_
              intro v' w13 hown hg hblk
              obtain ⟨q0, q1, hS13⟩ := hS12.out.pushO (x := ⟨nb, 1, 99, [0]⟩) p1 p2 p3 p4 ⟨by simp [maxLen], .inr ⟨_, 1, _, rfl, by omega, hOn12, Nat.le_refl _, by simp [maxLen], rfl, rfl⟩⟩ Hrn.out Hsn.out (by rw [cardM_len]; exact hown) hg
              have HS13 := Lib.hid hS13
              obtain ⟨A9, c9, rfl⟩ := ownsRow_slice hown
              refine HK.out _ _ (fun h => by cases h) ?_
              clear HK hS13 p1 p2 p3 p4 p1' hsz hsrc hown hg hblk hS12 nc12 hOn12
              refine Chain.nil ?_
              simp only [upd, Nat.reduceEqDiff, if_false, if_true]
              go_upto_region 33 with fail
              clear q0 q1
              generalize w13.setCell _ _ = W14 at *
              have hX15 := Ext.alloc W14 (.cells #[.int .i64 (oc.length : Int)] 3)
              have hS15 := Lib.hid (HS13.out.ext hX15)
              have hsrc := Src.one W14 (.int .i64 (oc.length : Int)) 3
              have r1 := hS15.out.rowR
              have hsz15 : M + 1 ≤ (W14.alloc (.cells #[.int .i64 (oc.length : Int)] 3)).heap.size := hS15.out.bm.lt
              clear HS13 hX15
              have happ2 : ∀ (w16 : World) (vr' : Value), w16.ownsRow (M + 1) 3 1 vr' (oc.length + 1) ((ints (List.range oc.length)).map (Value.int .i64) ++ [.int .i64 (oc.length : Int)]) → (W14.alloc (.cells #[.int .i64 (oc.length : Int)] 3)).grownBy w16 (Value.slice Ar oc.length cr).ownBlock →
                  (vr'.ownBlock = (Value.slice Ar oc.length cr).ownBlock ∨ vr'.ownBlock = some (W14.alloc (.cells #[.int .i64 (oc.length : Int)] 3)).heap.size) →
                  (w16.alloc (.cells #[.int .i64 (c : Int)] 3)).ownsRow (M + 1) 3 1 (.slice As oc.length cs') oc.length ((ints oc).map (Value.int .i64)) ∧ M + 1 ≤ (w16.alloc (.cells #[.int .i64 (c : Int)] 3)).heap.size ∧
                  ∀ (w18 : World) (vs' : Value), w18.ownsRow (M + 1) 3 1 vs' (oc.length + 1) ((ints oc).map (Value.int .i64) ++ [.int .i64 (c : Int)]) → (w16.alloc (.cells #[.int .i64 (c : Int)] 3)).grownBy w18 (Value.slice As oc.length cs').ownBlock →
                    (vs'.ownBlock = (Value.slice As oc.length cs').ownBlock ∨ vs'.ownBlock = some (w16.alloc (.cells #[.int .i64 (c : Int)] 3)).heap.size) →
                    RnS W6 b2 M (M + 1) (.slice (some ⟨LB, 0, none⟩) 1 1) ((cardM css oc).orders ++ [⟨nb, 1, 99, [0]⟩]) (oc ++ [c]) (1 + 10 * oc.length + 1) (.slice A9 (oc.length + 1) c9) vr' vs' w18 := by
                intro w16 vr' g1 g2 g3
                have hX17 := Ext.alloc w16 (.cells #[.int .i64 (c : Int)] 3)
                have h6 : OwnI w16 (M + 1) 3 (.slice As oc.length cs') (ints oc) := hS15.out.ss.grownI g2 r1 fun g e1 e2 => hS15.out.ne g e2 e1
                refine ⟨?_, ?_, fun w18 vs' k1 k2 k3 => hS15.out.pushR g1 g2 g3 hX17 k1 k2 k3⟩
                · have := h6.ext hX17
                  unfold OwnI at this
                  rwa [ints_len2] at this
                · have h1 := g2.size; have h2 := hX17.size
                  omega
              have Happ2 := Lib.hid happ2
              clear happ2
              go_wp2_with (at_builtin; first
                | (refine wpList_app rfl _ _ 22 rfl (M + 1) 3 ti (.int .i64 0) 1 8 Try.underlying22 hi hz0 hz1 hz2 rfl (by decide) (.slice Ar oc.length cr) oc.length _ rfl r1 (some ⟨W14.heap.size, 0, none⟩) 1 1 [.int .i64 (oc.length : Int)] rfl rfl hsrc ?c2 ?c3 ?c4 ?c5 ?_; (case c2 => (intro u hu; rw [List.mem_singleton] at hu; subst hu; rfl)); (case c3 => (unfold maxLen; omega)); (case c4 => omega); (case c5 => exact hsz15); intro vr' w16 g1 g2 g3; obtain ⟨r2, hsz17, hfin⟩ := Happ2.out w16 vr' g1 g2 g3; have Hfin := Lib.hid hfin; clear hfin; obtain ⟨Ar', cr', rfl⟩ := ownsRow_slice g1; have hsrc2 := Src.one w16 (.int .i64 (c : Int)) 3; clear hsrc g1 g2 g3)
                | (refine wpList_app rfl _ _ 22 rfl (M + 1) 3 ti (.int .i64 0) 1 8 Try.underlying22 hi hz0 hz1 hz2 rfl (by decide) (.slice As oc.length cs') oc.length _ rfl r2 (some ⟨w16.heap.size, 0, none⟩) 1 1 [.int .i64 (c : Int)] rfl rfl hsrc2 ?c2 ?c3 ?c4 ?c5 ?_; (case c2 => (intro u hu; rw [List.mem_singleton] at hu; subst hu; rfl)); (case c3 => (unfold maxLen; omega)); (case c4 => omega); (case c5 => exact hsz17); intro vs' w18 k1 k2 k3; have hS18 := Lib.hid (Hfin.out w18 vs' k1 k2 k3); obtain ⟨As', cs'', rfl⟩ := ownsRow_slice k1; clear hsrc2 k1 k2 k3))
              go_roundw
              case rel =>
                refine ⟨oc ++ [c], .slice A9 (oc.length + 1) c9, by rw [List.length_append, List.length_singleton]; omega, by rw [List.length_append, List.length_singleton]; go_num, ?_, ?_⟩
                · intro y hy
                  rcases List.mem_append.1 hy with h | h
                  · exact hoc.out y h
                  · rw [List.mem_singleton] at h; subst h; exact hcn
                · have e : (cardM css (oc ++ [c])).orders = (cardM css oc).orders ++ [⟨nb, 1, 99, [0]⟩] := by
                    unfold cardM; rw [List.map_append, ← Hnb.out]; rfl
                  rw [e, List.length_append, List.length_singleton]
                  exact hS18.out.turn (Apart.refl _ _) (hS18.out.sp.mono (by omega))
              case measure => simp [intOf]; omega
              -- >>
            · have hoe : oc.length = Nn := by omega
              subst hoe
              obtain ⟨Ar, cr, As, cs', rfl, rfl⟩ := hS.out.slices
              -- what is read from here on
              have hchr := Lib.hid (hch6.out.apart (by omega) hS.out.ap)
              have hEr := Apart.ext_of hEw6 (by have := Hb1.out; omega) hS.out.ap
              have hLr := hL6.apart (by omega) hS.out.ap
              have hMr := hS.out.bm
              obtain ⟨cso, o1, o2, _, _⟩ := hS.out.oo
              obtain ⟨Ao, co, rfl⟩ := ownsRow_slice o1
              obtain ⟨_, _, ea, h1, h2, hia, _⟩ := hS.out.rr.open_
              obtain ⟨_, _, eb, h3, h4, hib, _⟩ := hS.out.ss.open_
              rw [ints_len2] at ea eb h1 h3
              rw [List.length_range] at ea h1
              injection ea with ea1 _ ea2
              injection eb with eb1 _ eb2
              subst ea1; subst ea2; subst eb1; subst eb2
              have hok : Hid (MillOk (cardM css oc)) := cardM_ok css oc (by omega) fun c hc => by have := hoc.out c hc; omega
              have hmv : Hid (MillVal wr (.agg #[.slice (some ⟨LB, 0, none⟩) 1 1, .int .i64 2, .slice Ao (cardM css oc).orders.length co]) (cardM css oc)) := by
                obtain ⟨A2, c2, e9, z1, z2, z3⟩ := OwnOB.ords (⟨cso, o1, o2⟩ : OwnOB wr (M + 1) (.slice Ao (cardM css oc).orders.length co) (cardM css oc).orders)
                injection e9 with e91 _ e92
                subst e91; subst e92
                refine ⟨_, 1, _, _, rfl, Nat.le_refl _, by unfold maxLen; omega, z1, z2, fun k hk => ?_, z3⟩
                obtain rfl : k = 0 := by simpa [cardM] using hk
                exact ⟨LB, 0, rfl, hLr.cell 0⟩
              have Hia := Lib.hid hia; have Hib := Lib.hid hib
              clear o1 o2 hia hib hS hch6 hEw6 hL6 hRn6 hq6 hLr
              generalize wr = W9 at *
              have hcs : Hid (∀ c, c ∈ css → ChainOk c) := fun c h => (hck.out c h).1
              have hL1' : 1 ≤ css.length := by omega
              have hocl : oc.length ≤ 7 := by omega
              go_wp2_with fail
              go_loopw [19, 20, 140] (fun wv lv iv wr => ∃ j : Nat, j ≤ oc.length ∧ iv = .int .i64 j ∧ wv = .int .i64 (wantC css 0 (oc.take j)) ∧ lv = .int .i64 ((((oc.take j).getLast?).getD 0 : Nat) : Int) ∧ Ext W9 wr) (fun _ _ iv _ => oc.length - (intOf iv).toNat)
              case atStart => exact ⟨0, by omega, rfl, rfl, rfl, Ext.refl _⟩
              case round =>
                obtain ⟨j, hj, rfl, rfl, rfl, he⟩ := hrel
                by_cases hltj : j < oc.length
                · -- <<E
                  obtain ⟨bA, oA, rfl, cA⟩ := Hib.out.ext he j (by rw [ints_len2]; exact hltj)
                  obtain ⟨c, hc⟩ : ∃ c, oc[j] = c := ⟨_, rfl⟩
                  have hcl : c < css.length := hc ▸ hoc.out _ (List.getElem_mem hltj)
                  have e0 : (ints oc)[j]?.getD 0 = (c : Int) := by unfold ints; simp [hltj, hc]
                  rw [e0] at cA
                  have e1 : wantC css 0 (oc.take (j + 1)) = wantC css 0 (oc.take j) + if difT (css[((oc.take j).getLast?).getD 0]?.getD []) (css[c]?.getD []) = none then 0 else 1 := by
                    rw [List.take_succ_eq_append_getElem hltj, wantC_snoc, hc]
                  have e2 : ((oc.take (j + 1)).getLast?).getD 0 = c := by
                    rw [List.take_succ_eq_append_getElem hltj, List.getLast?_concat, hc]; rfl
                  have hll : ((oc.take j).getLast?).getD 0 < css.length := by
                    cases h : (oc.take j).getLast? with
                    | none => exact hL1'
                    | some x => exact hoc.out x (List.mem_of_mem_take (List.mem_of_getLast? h))
                  have hwb := wantC_bd css (oc.take j) 0
                  rw [List.length_take] at hwb
                  have E1 := Lib.hid e1; have E2 := Lib.hid e2; clear e0 e1 e2 hc
                  obtain ⟨lj, hlj⟩ : ∃ lj, ((oc.take j).getLast?).getD 0 = lj := ⟨_, rfl⟩
                  obtain ⟨wj, hwj⟩ : ∃ wj, wantC css 0 (oc.take j) = wj := ⟨_, rfl⟩
                  simp only [hlj, hwj] at E1
                  rw [hlj] at hll ⊢
                  rw [hwj] at hwb ⊢
                  clear hlj hwj
                  obtain ⟨g1, c1, A1, d1, e1, x0, x1, x2, x3, hci⟩ := (hchr.out.ext he).at_ hll
                  obtain ⟨g2, c2, A2, d2, e2, y0, y1, y2, y3, hck'⟩ := (hchr.out.ext he).at_ hcl
                  simp only [Value.slice.injEq, Option.some.injEq, Addr.mk.injEq, and_true, true_and] at e1 e2
                  obtain ⟨rfl, rfl⟩ := e1
                  obtain ⟨rfl, rfl⟩ := e2
                  have hoi := hck.out (css[lj]?.getD []) (by rw [List.getElem?_eq_getElem hll]; exact List.getElem_mem hll)
                  have hok2 := hck.out (css[c]?.getD []) (by rw [List.getElem?_eq_getElem hcl]; exact List.getElem_mem hcl)
                  obtain ⟨xi, hxi⟩ : ∃ xi, css[lj]?.getD [] = xi := ⟨_, rfl⟩
                  obtain ⟨xk, hxk⟩ : ∃ xk, css[c]?.getD [] = xk := ⟨_, rfl⟩
                  simp only [hxi, hxk] at E1
                  rw [hxi] at x1 hci hoi
                  rw [hxk] at y1 hck' hok2
                  have Hdf := Lib.hid (fun W (hW : Ext wr W) => differ_any _ _ xi xk hoi hok2 W (hci.ext hW) (hck'.ext hW))
                  have hdv : (difT xi xk = none ∧ difV xi xk = (0, 6)) ∨ ∃ t : Nat, difT xi xk = some t ∧ difV xi xk = ((t : Int), 0) := by
                    unfold difV
                    cases difT xi xk with
                    | none => exact .inl ⟨rfl, rfl⟩
                    | some t => exact .inr ⟨t, rfl, rfl⟩
                  obtain ⟨p1, hp1⟩ : ∃ p1, (difV xi xk).1 = p1 := ⟨_, rfl⟩
                  obtain ⟨p2, hp2⟩ : ∃ p2, (difV xi xk).2 = p2 := ⟨_, rfl⟩
                  rw [hp1, hp2] at Hdf
                  have Hdv : Hid ((difT xi xk = none ∧ p1 = 0 ∧ p2 = 6) ∨ ((∃ t : Nat, difT xi xk = some t) ∧ p2 = 0)) := by
                    rcases hdv with ⟨h1, h2⟩ | ⟨t, h1, h2⟩
                    · rw [h2] at hp1 hp2; exact .inl ⟨h1, hp1.symm, hp2.symm⟩
                    · rw [h2] at hp1 hp2; exact .inr ⟨⟨t, h1⟩, hp2.symm⟩
                  clear hdv hp1 hp2 hxi hxk hci hck' hoi hok2
                  go_wp2_with fail
                  refine wp_region_factsB 13 (by kernel_rfl) (by kernel_rfl) (fun W => Ext wr W) (valsR [.slice (some ⟨g, 0, none⟩) css.length cg, .int .i64 lj, .pointer (some ⟨g, lj * 4, none⟩), .agg #[.int .i64 2, .slice A1 xi.length d1, .int .i64 0, .int .i64 0],
                    .slice (some ⟨g, 0, none⟩) css.length cg, .int .i64 c, .pointer (some ⟨g, c * 4, none⟩), .agg #[.int .i64 2, .slice A2 xk.length d2, .int .i64 0, .int .i64 0], .tuple #[.int .i64 p1, .int .i64 p2], .tuple #[.int .i64 p1, .int .i64 p2], .int .i64 p1, .int .i64 p2, .int .i64 p1]) (Ext.drew _) ?_ ?_
                  · simp only [List.take, AllOpsB, fill, Act.put, List.setIfInBounds_toArray, List.set_cons_zero, List.set_cons_succ, Nat.reduceAdd, Deps, List.filter_cons, List.filter_nil, Region.binds, if_true, and_true]
                    refine ⟨?_, ?_, ?_, ?_, ?_, ?_, ?_, ?_, ?_, ?_, ?_, ?_, ?_⟩
                    all_goals
                      intro x W hG hd K Q hK
                      try (simp only [valsR, List.getElem?_cons_succ, List.getElem?_cons_zero, Option.getD_some] at hd; simp only [hd] at hK ⊢)
                      have u0 := hG.cell x0; have u1 := hG.cell x1; have u2 := hG.cell x2; have u3 := hG.cell x3
                      have z0 := hG.cell y0; have z1 := hG.cell y1; have z2 := hG.cell y2; have z3 := hG.cell y3
                      have HK := Lib.hid hK; clear hK
                    case refine_9 =>
                      go_wp2_with fail
                      refine (Hdf.out _ hG).mono ?_
                      rintro e w' ⟨rfl, he⟩
                      go_wp2
                      exact HK.out _ _ rfl (hG.trans he) (fun _ _ h => h)
                    all_goals
                      go_wp2
                      exact HK.out _ _ rfl hG (fun _ _ h => h)
                  · intro x W hG hRR
                    simp only [AllR, valsR, true_and, List.getElem?_cons_succ, List.getElem?_cons_zero, Option.getD_some] at hRR
                    obtain ⟨⟨⟨⟨⟨⟨⟨⟨⟨⟨⟨⟨r0, r1⟩, r2⟩, r3⟩, r4⟩, r5⟩, r6⟩, r7⟩, r8⟩, r9⟩, r10⟩, r11⟩, r12⟩ := hRR
                    simp only [List.take, List.drop, fill, Act.put, List.setIfInBounds_toArray, List.set_cons_zero, List.set_cons_succ, Nat.reduceAdd, r0, r1, r2, r3, r4, r5, r6, r7, r8, r9, r10, r11, r12]
                    clear r0 r1 r2 r3 r4 r5 r6 r7 r8 r9 r10 r11 r12 x0 x1 x2 x3 y0 y1 y2 y3 Hdf cA
                    have heW := he.trans hG
                    clear he hG
                    rcases Hdv.out with ⟨hdn, rfl, rfl⟩ | ⟨⟨t, hdt⟩, rfl⟩
                    · have Hdn := Lib.hid hdn
                      clear hdn
                      go_wp2_with fail
                      go_roundw
                      case rel =>
                        refine ⟨j + 1, by omega, by go_num, ?_, ?_, heW⟩
                        · rw [E1.out, if_pos Hdn.out, Int.add_zero]
                        · rw [E2.out]
                      case measure => simp [intOf]; omega
                    · have Hdt := Lib.hid hdt
                      clear hdt
                      go_wp2_with fail
                      go_roundw
                      case rel =>
                        refine ⟨j + 1, by omega, by go_num, ?_, ?_, heW⟩
                        · rw [E1.out, if_neg (by rw [Hdt.out]; simp)]
                        · rw [E2.out]
                      case measure => simp [intOf]; omega
                  -- >>
                · obtain rfl : j = oc.length := by omega
                  rw [List.take_length]
                  obtain ⟨-, q1, q2, q3, few, q4, q5⟩ := cardM_law hcs.out (by omega) (by omega) hocl hoc.out
                  have hwb := wantC_bd css oc 0
                  have hEd : endsF (cardM css oc) 0 (ints (List.range oc.length)) (ints (List.range oc.length)).length = endsF (cardM css oc) 0 (ints (List.range oc.length)) oc.length := by rw [ints_len2, List.length_range]
                  have hxl : (ints (List.range oc.length)).length = oc.length := by rw [ints_len2, List.length_range]
                  have hlast : ∀ k, oc.length = k + 1 → (endsF (cardM css oc) 0 (ints (List.range oc.length)) oc.length)[k]?.getD 0 = (oc.length : Int) + 2 * wantC css 0 oc := fun k hk => by
                    rw [← q3]
                    unfold endsF
                    rw [List.getElem?_map, List.getElem?_range (by omega)]
                    simp only [Option.map_some, Option.getD_some]
                    rw [← hk, List.take_of_length_le (by rw [hxl]; exact Nat.le_refl _)]
                  have hrun := fun W (hW : Ext W9 W) => runTop_any (.agg #[.slice (some ⟨LB, 0, none⟩) 1 1, .int .i64 2, .slice Ao (cardM css oc).orders.length co]) (cardM css oc) 0 Ar cr (ints (List.range oc.length)) 0 q1 W (hmv.out.ext hW) (by rw [hxl]; exact h1) h2 (by rw [hxl]; omega) (Hia.out.ext hW)
                  have hcost := fun W (hW : Ext W9 W) => cost_any (.agg #[.slice (some ⟨LB, 0, none⟩) 1 1, .int .i64 2, .slice Ao (cardM css oc).orders.length co]) (cardM css oc) 0 Ar cr (ints (List.range oc.length)) _ q4 W (hmv.out.ext hW) (by rw [hxl]; exact h1) h2 (Hia.out.ext hW)
                  simp only [if_true] at hrun
                  have e9 : (0 : Int).toNat = 0 := rfl
                  rw [hxl] at hrun hcost
                  simp only [e9, q2] at hrun
                  have Hrun := Lib.hid hrun; have Hcost := Lib.hid hcost; have Hlast := Lib.hid hlast
                  have hel := endsF_len (cardM css oc) 0 (ints (List.range oc.length)) oc.length
                  obtain ⟨es, hes⟩ : ∃ es, endsF (cardM css oc) 0 (ints (List.range oc.length)) oc.length = es := ⟨_, rfl⟩
                  obtain ⟨want, hwant⟩ : ∃ want, wantC css 0 oc = want := ⟨_, rfl⟩
                  simp only [hes] at Hrun Hlast
                  simp only [hwant] at Hrun Hlast
                  rw [hes] at hel
                  rw [hwant] at hwb q5 ⊢
                  have hE1 := hEr.trans he
                  obtain ⟨k0, k1, k2⟩ := (hMr.ext he).c3
                  clear hes hwant hrun hcost hlast hEd hxl q1 q2 q3 q4 e9
                  go_wp2_with fail
                  refine (Hrun.out _ he).mono ?_
                  rintro e w10 ⟨r, rfl, ⟨Ae, ce, rfl, s2, s3, s4⟩, he10⟩
                  rw [hel] at s2 ⊢
                  have hX := he.trans he10
                  clear k0 k1 k2
                  obtain ⟨k0, k1, k2⟩ := (hMr.ext hX).c3
                  go_wp2_with fail
                  refine (Hcost.out _ hX).mono ?_
                  rintro e w11 ⟨rfl, he11⟩
                  have hd1 : decide (want < few) = false := by simpa using q5
                  have S4 := Lib.hid s4
                  clear k0 k1 k2 s4 Hrun Hcost
                  have hE2 := hE1.trans (he10.trans he11)
                  rcases Nat.eq_zero_or_pos oc.length with h0 | h0
                  · have hd2 : (oc.length == 0) = true := by simpa using h0
                    have hd3 : ((oc.length : Int) == 0) = true := by simpa using h0
                    clear h0
                    go_wp2_with fail
                    refine (awake_any w11).mono ?_
                    rintro e w12 ⟨rfl, he12⟩
                    go_wp2_with fail
                    go_ret
                    exact ⟨rfl, hE2.trans he12⟩
                  · have hl := Hlast.out (oc.length - 1) (by omega)
                    obtain ⟨be, oe, rfl, c0⟩ := (show IntsAt w10 Ae es from S4.out).ext he11 (oc.length - 1) (by rw [hel]; omega)
                    rw [hl] at c0
                    have hd2 : (oc.length == 0) = false := by rw [beq_eq_false_iff_ne]; omega
                    have hd3 : ((oc.length : Int) == 0) = false := by rw [beq_eq_false_iff_ne]; omega
                    clear hl
                    go_wp2_with fail
                    refine (awake_any w11).mono ?_
                    rintro e w12 ⟨rfl, he12⟩
                    go_wp2_with fail
                    go_ret
                    exact ⟨rfl, hE2.trans he12⟩
end Go.Proofs.Pet
