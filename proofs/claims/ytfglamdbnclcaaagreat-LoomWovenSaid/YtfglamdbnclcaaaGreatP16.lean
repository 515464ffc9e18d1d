/-
  Contracts of functions, each proved once.
-/
import Derived.Test.YtfglamdbnclcaaaGreatP15
namespace Go.Proofs.Pet
open Go Go.RowKit Go.Maps Go.Shelf

/-- append(nil, make([]T, n)...) lays n zeros -/
theorem run_append_zeros {P : Program} {w : World} (t u ty e : TypeId) (i : TypeInfo) (z : Value) (k : IntKind) (ht : P.underlying t = some (.slice e)) (hu : P.underlying u = some (.int k)) (hi : P.info? e = some i) (hz : i.zero = some z)
    (n : Nat) (h0 : 0 < n) (hs : 0 < i.size) (h63 : (n : Int) ≤ 9223372036854775807) (h48 : n * i.bytes ≤ 281474976710656) :
    (Builtin.append_ #[t, u] ty #[.slice none 0 0, .int .i64 n]).run P w =
      .ok (.slice (some ⟨w.heap.size, 0, none⟩) n (grownCap w n 0 e)) (w.drew.alloc (.cells (Builtin.zeroCells z.cells n ++ Builtin.zeroCells z.cells (grownCap w n 0 e - n)) e)) := by
  have hn : n ≠ 0 := by omega
  have h63' : ¬ (9223372036854775807 < (n : Int)) := by omega
  have h48' : ¬ (281474976710656 < Builtin.nextslicecap n 0 * i.bytes) := by rw [nextslicecap_zero h0]; omega
  have hw : IntKind.i64.wrap (n : Int) = (n : Int) := by rw [IntKind.wrap_i64]; omega
  have n1 : ¬ ((n : Int) < 0) := by omega
  have n2 : ¬ (281474976710656 < (n : Int) * (i.bytes : Int)) := by
    have : (n : Int) * (i.bytes : Int) = ((n * i.bytes : Nat) : Int) := by simp
    omega
  have n3 : n * i.size ≠ 0 := Nat.ne_of_gt (Nat.mul_pos h0 hs)
  have n4 : ¬ (n = 0 ∨ i.size = 0) := by omega
  simp [Builtin.append_, run_underlying ht, run_underlying hu, asInt, asIntOf, sizeOf, typeInfo, zeroValue, hi, hz, hw, n1, n2, n3, hn, h63', h48', Question.forced, run_firstCells_none, newRow, grownCap]
theorem wpList_app_run {P : Program} {w : World} {ops : Array Oper} {rest : List Oper} {o : Oper} {a : Act} {Q : Exit → Act → World → Prop} (hgd : o.guard = none) (s x : Operand) (t u : TypeId)
    (ho : o.op = .call { callee := .builtin .append, args := #[s, x], argTypes := #[t, u] }) (v v2 v' : Value) (w' : World) (hs : a.eval s = v) (hx : a.eval x = v2)
    (hrun : (Builtin.append_ #[t, u] o.type #[v, v2]).run P w = .ok v' w') (h : wpList P ops Q rest (a.put o.dst v') w') : wpList P ops Q (o :: rest) a w :=
  wpList_plain hgd fun K hK => by
    unfold Oper.wp execOp
    simp only [ho, resolve, invoke, builtin, Sem.run_bind, Sem.run_pure, Result.andThen_ok, List.map_toArray, List.map_cons, List.map_nil, hs, hx, hrun]
    exact hK _ _ h
set_option maxRecDepth 20000 in
theorem grow_any (n : Nat) (hn : n ≤ 1000) (w : World) :
    Calls Tryz.prog 170 #[.slice none 0 0, .int .i64 (n : Int)] w fun e w' => ∃ r, e = .returned r ∧ OwnI w' w.heap.size 3 r [] ∧ Ext w w' := by
  obtain ⟨i, hi, hz0, hz1, hz2⟩ := info_parts info_int
  by_cases h0 : 0 < n
  · have happ := run_append_zeros (P := Tryz.prog) (w := w) 22 3 22 3 i (.int .i64 0) .i64 Tryz.underlying22 Tryz.underlying3 hi hz0 n h0 (by omega) (by omega) (by rw [hz2]; omega)
    obtain ⟨cs, hcs⟩ : ∃ cs, (Builtin.zeroCells (Value.int .i64 0).cells n ++ Builtin.zeroCells (Value.int .i64 0).cells (grownCap w n 0 3 - n)) = cs := ⟨_, rfl⟩
    have hge := grownCap_ge w n 0 3
    have hle := grownCap_le_maxLen w n 0 3 (by unfold maxLen; omega)
    have hsz : cs.size = grownCap w n 0 3 := by
      rw [← hcs, Array.size_append, size_zeroCells, size_zeroCells]
      simp only [Value.cells, List.size_toArray, List.length_cons, List.length_nil]
      omega
    rw [hcs] at happ
    have hb := Blk.new w.drew 3 cs
    have hE : Ext w (w.drew.alloc (.cells cs 3)) := (Ext.drew w).trans (Ext.alloc _ _)
    obtain ⟨G, hG⟩ : ∃ G, grownCap w n 0 3 = G := ⟨_, rfl⟩
    rw [hG] at happ hge hle hsz
    clear hcs hG
    go_enter Tryz.func170, Tryz.ntmps170
    have Happ := Lib.hid happ; clear happ
    go_wp2_with (at_builtin; refine wpList_app_run rfl _ _ 22 3 rfl _ _ _ _ rfl rfl Happ.out ?_)
    go_ret
    refine ⟨_, rfl, ?_, hE⟩
    exact ⟨rfl, .inr ⟨w.heap.size, G, cs, rfl, Nat.le_refl _, hb, Nat.zero_le _, hle, by omega, by simp⟩⟩
  · obtain rfl : n = 0 := by omega
    go_enter Tryz.func170, Tryz.ntmps170
    go_wp2_with fail
    go_ret
    exact ⟨_, rfl, OwnI.nil _ _ _, Ext.refl _⟩
/-- rows of ints, wherever they lie -/
def RowsI (w : World) (v : Value) (xss : List (List Int)) : Prop :=
  ∃ A c, v = .slice A xss.length c ∧ xss.length ≤ c ∧ c ≤ maxLen ∧ ∀ i, i < xss.length → ∃ b o u, A = some ⟨b, o, none⟩ ∧ w.cell? ⟨b, o + i, none⟩ = some u ∧ SlI w u (xss[i]?.getD [])
theorem RowsI.ext {w w' : World} {v : Value} {xss : List (List Int)} (h : RowsI w v xss) (he : Ext w w') : RowsI w' v xss := by
  obtain ⟨A, c, h1, h2, h3, h4⟩ := h
  refine ⟨A, c, h1, h2, h3, fun i hi => ?_⟩
  obtain ⟨b, o, u, g1, g2, g3⟩ := h4 i hi
  exact ⟨b, o, u, g1, he.cell g2, g3.ext he⟩
theorem flat_take {xss : List (List Int)} {k : Nat} (hk : k < xss.length) : (xss.take (k + 1)).flatten = (xss.take k).flatten ++ xss[k]?.getD [] := by
  rw [List.take_succ_eq_append_getElem hk, List.flatten_append]
  simp [hk]
theorem flat_le (xss : List (List Int)) : ∀ k, (xss.take k).flatten.length ≤ xss.flatten.length := by
  intro k
  have := congrArg List.length (congrArg List.flatten (List.take_append_drop k xss))
  rw [List.flatten_append, List.length_append] at this
  omega
set_option maxRecDepth 20000 in
set_option maxHeartbeats 1000000 in
theorem concat_any (v : Value) (xss : List (List Int)) (hb : xss.flatten.length ≤ 1000) (hb2 : xss.length ≤ 1000) (w : World) (hv : RowsI w v xss) :
    Calls Tryz.prog 144 #[v] w fun e w' => ∃ r, e = .returned r ∧ OwnI w' w.heap.size 3 r xss.flatten ∧ Ext w w' := by
  obtain ⟨ti, hi, hz0, hz1, hz2⟩ := info_parts info_int
  obtain ⟨A, c, rfl, h2, h3, h4⟩ := hv
  have H4 := Lib.hid h4; clear h4
  have Hfl := Lib.hid (flat_le xss)
  unfold maxLen at h3
  go_enter Tryz.func144, Tryz.ntmps144
  go_wp2_with fail
  go_loopw [3, 11] (fun sv iv wr => ∃ (k s : Nat), k ≤ xss.length ∧ iv = .int .i64 k ∧ sv = .int .i64 s ∧ s ≤ 1000 ∧ Hid ((xss.take k).flatten.length = s) ∧ w = wr) (fun _ iv _ => xss.length - (intOf iv).toNat)
  case atStart => exact ⟨0, 0, by omega, rfl, rfl, by omega, rfl, rfl⟩
  case round =>
    obtain ⟨k, s, hk, rfl, rfl, hs, hse, rfl⟩ := hrel
    by_cases hlt : k < xss.length
    · obtain ⟨b, o, u, rfl, p1, A', c', rfl, p2, p3, p4⟩ := H4.out k hlt
      have hn2 : Hid ((xss.take (k + 1)).flatten.length = s + (xss[k]?.getD []).length) := by
        unfold Hid; rw [flat_take hlt, List.length_append, hse.out]
      have hle : s + (xss[k]?.getD []).length ≤ 1000 := by have := Hfl.out (k + 1); rw [hn2.out] at this; omega
      clear p4
      generalize (xss[k]?.getD []).length = L at *
      go_wp2_with fail
      go_roundw
      case rel => exact ⟨k + 1, s + L, by omega, by go_num, by go_num, hle, hn2, by trivial⟩
      case measure => simp [intOf]; omega
    · have hke : k = xss.length := by omega
      subst hke
      have hgr := Lib.hid (grow_any s hs w)
      go_wp2_with fail
      refine hgr.out.mono ?_
      rintro e w1 ⟨r, rfl, hr, he1⟩
      go_wp2_with fail
      go_loopw [6, 27] (fun rv iv wr => ∃ k : Nat, k ≤ xss.length ∧ iv = .int .i64 k ∧ Ext w wr ∧ Hid (OwnI wr w.heap.size 3 rv (xss.take k).flatten)) (fun _ iv _ => xss.length - (intOf iv).toNat)
      case atStart => exact ⟨0, by omega, rfl, he1, hr⟩
      case round =>
        clear hr he1
        obtain ⟨k, hk, rfl, he, ho⟩ := hrel
        by_cases hlt2 : k < xss.length
        · obtain ⟨b, o, u, rfl, p1, A', c', rfl, p2, p3, p4⟩ := H4.out k hlt2
          obtain ⟨BB, cB, rfl, o1, o2, o3, o4, o5⟩ := ho.out.open_
          have O4 := Lib.hid o4; clear o3 o4 o5
          have p1' := he.cell p1
          have hn2 : Hid ((xss.take (k + 1)).flatten = (xss.take k).flatten ++ xss[k]?.getD []) := flat_take hlt2
          have hle := Hfl.out (k + 1)
          rw [hn2.out, List.length_append] at hle
          have hsrc : Hid (Src wr A' ((xss[k]?.getD []).map (Value.int .i64))) := (p4.ext he).src
          clear p4
          obtain ⟨ys, hys⟩ : ∃ ys, xss[k]?.getD [] = ys := ⟨_, rfl⟩
          rw [hys] at p1 p1' p2 hle
          simp only [hys] at hn2 hsrc
          clear hys
          generalize hln : (xss.take k).flatten.length = L at *
          have HL := Lib.hid hln; clear hln
          have hszr := he.size
          have hrow : Hid (wr.ownsRow w.heap.size 3 1 (.slice BB L cB) L ((xss.take k).flatten.map (Value.int .i64))) := by
            have := ho.out
            unfold OwnI at this
            rw [HL.out] at this
            exact this
          go_wp2_with (at_builtin; refine wpList_app rfl _ _ 22 rfl w.heap.size 3 ti (.int .i64 0) 1 8 Tryz.underlying22 hi hz0 hz1 hz2 rfl (by decide) _ _ _ rfl hrow.out A' ys.length c' (ys.map (Value.int .i64)) rfl (by simp) hsrc.out one_ints ?c3 ?c4 ?c5 ?_; (case c3 => (unfold maxLen; omega)); (case c4 => omega); (case c5 => omega); intro v' w' hown' hg hblk)
          go_roundw
          case rel =>
            have hge := own_ge O4.out (L := L) (c := cB)
            refine ⟨k + 1, by omega, by go_num, Below.grown he hg hszr (fun j hj => hge j hj), ?_⟩
            unfold Hid
            rw [hn2.out]
            unfold OwnI
            rw [List.map_append, List.length_append, HL.out]
            exact hown'
          case measure => simp [intOf]; omega
        · have hke : k = xss.length := by omega
          subst hke
          have h := ho.out
          rw [List.take_length] at h
          go_wp2_with fail
          go_ret
          exact ⟨_, rfl, h, he⟩
end Go.Proofs.Pet

namespace Go.Proofs.Pet
open Go Go.RowKit Go.Maps Go.Shelf

theorem planned1_any (m : Mill) (l x : Int) (hx : 0 ≤ x ∧ x < m.orders.length) (B C : Nat) (mv : Value) (w : World) (hv : MillVal w mv m) (hB : ∃ A1 c1 A2 c2, mv = .agg #[.slice A1 m.laced.length c1, .int .i64 m.change, .slice A2 m.orders.length c2] ∧ Blk w B 25 #[.slice A1 m.laced.length c1, .int .i64 m.change, .slice A2 m.orders.length c2]) (hC : Blk w C 3 #[.int .i64 l]) :
    Calls Tryz.prog 145 #[.int .i64 x, .pointer (some ⟨B, 0, none⟩), .pointer (some ⟨C, 0, none⟩)] w fun e w' => e = .returned (.bool (weavesI m l x)) ∧ Ext w w' := by
  obtain ⟨A1, c1, A2, c2, rfl, hB⟩ := hB
  obtain ⟨k, rfl⟩ : ∃ k : Nat, x = (k : Int) := ⟨x.toNat, by omega⟩
  have hw := Lib.hid (weaves_any _ m l k (by omega) (weavesI m l k) rfl w hv)
  generalize weavesI m l k = q at *
  clear hv
  obtain ⟨k0, k1, k2⟩ := hB.c3
  have k3 := hC.c1
  go_enter Tryz.func145, Tryz.ntmps145
  go_wp2_with fail
  refine hw.out.mono ?_
  rintro e w' ⟨rfl, he⟩
  go_wp2_with fail
  go_ret
  exact ⟨rfl, he⟩
def weavesAll (m : Mill) (xss : List (List Int)) : Bool := (List.range xss.length).all fun j => (xss[j]?.getD []).all fun x => weavesI m j x
def plE (m : Mill) (xss : List (List Int)) : Int :=
  if checkE m ≠ 0 then checkE m else if xss.length ≠ m.laced.length then 2 else if listedE m xss.flatten ≠ 0 then listedE m xss.flatten else if weavesAll m xss = false then 8 else 0
theorem weavesAll_true {m : Mill} {xss : List (List Int)} (h : ∀ j, j < xss.length → ((xss[j]?.getD []).all fun x => weavesI m j x) = true) : weavesAll m xss = true := by
  unfold weavesAll
  rw [List.all_eq_true]
  intro j hj
  exact h j (List.mem_range.1 hj)
theorem weavesAll_false {m : Mill} {xss : List (List Int)} {j : Nat} (hj : j < xss.length) (h : ((xss[j]?.getD []).all fun x => weavesI m j x) = false) : weavesAll m xss = false := by
  unfold weavesAll
  rw [List.all_eq_false]
  exact ⟨j, List.mem_range.2 hj, by rw [h]; simp⟩
theorem mem_flat {xss : List (List Int)} {j : Nat} {x : Int} (hj : j < xss.length) (h : x ∈ xss[j]?.getD []) : x ∈ xss.flatten := by
  rw [List.mem_flatten]
  refine ⟨xss[j], List.getElem_mem hj, ?_⟩
  simpa [hj] using h
def planR (mv pv : Value) (fl : List Int) (le : Int) : Nat → Value → World → Prop
  | 0 => fun v _ => v = mv
  | 1 => fun v _ => v = pv
  | 2 => fun v W => SlI W v fl
  | 3 => fun v _ => v = .int .i64 le
  | 4 => fun v _ => v = .int .i64 le
  | _ => fun _ _ => True
theorem planR.ext {mv pv : Value} {fl : List Int} {le : Int} {w w' : World} (he : Ext w w') (j : Nat) (v : Value) (h : planR mv pv fl le j v w) : planR mv pv fl le j v w' := by
  match j, h with
  | 0, h | 1, h | 3, h | 4, h => exact h
  | 2, h => exact SlI.ext h he
  | _ + 5, h => trivial

set_option maxRecDepth 20000 in
set_option maxHeartbeats 2000000 in
theorem planned_any (v pv : Value) (m : Mill) (xss : List (List Int)) (r : Int) (hr : plE m xss = r) (hb : xss.flatten.length ≤ 1000) (hb2 : xss.length ≤ 1000) (w : World) (hv : MillVal w v m) (hp : RowsI w pv xss) :
    Calls Tryz.prog 96 #[v, pv] w fun e w' => e = .returned (.int .i64 r) ∧ Ext w w' := by
  have hmf : ∀ (fn : Fn) (first cap : Array Value) (w : World), (Instr.makeFunc fn first cap).run Tryz.prog w = .ok (.func fn first cap) w := fun _ _ _ _ => rfl
  obtain ⟨fl, hfl⟩ : ∃ fl, xss.flatten = fl := ⟨_, rfl⟩
  have Hfb := Lib.hid hb; clear hb
  have Hr := Lib.hid hr; clear hr
  have Hv := Lib.hid hv
  obtain ⟨A1, c1, A2, c2, rfl, h2, h3, h4, h5, h6, h7⟩ := hv
  have Hp := Lib.hid hp
  obtain ⟨PA, pc, rfl, g2, g3, g4⟩ := hp
  have G4 := Lib.hid g4; clear g4
  have hE := Ext.alloc w (.cells #[.slice A1 m.laced.length c1, .int .i64 m.change, .slice A2 m.orders.length c2] 25)
  have hM := Blk.new w 25 #[.slice A1 m.laced.length c1, .int .i64 m.change, .slice A2 m.orders.length c2]
  have hch := Lib.hid (check_any _ m _ (Hv.out.ext hE))
  clear h6 h7 h3 h5
  obtain ⟨k0, k1, k2⟩ := hM.c3
  by_cases h0 : checkE m = 0
  · have hr2 : Hid ((if xss.length ≠ m.laced.length then 2 else if listedE m fl ≠ 0 then listedE m fl else if weavesAll m xss = false then 8 else 0) = r) := by
      unfold Hid; rw [← Hr.out]; unfold plE; rw [if_neg (show ¬ (checkE m ≠ 0) by simp [h0]), hfl]
    have hli : Hid (listE m fl = listedE m fl) := by unfold Hid listE; rw [if_pos h0]
    have Hfl := Lib.hid hfl; clear hfl
    rw [h0] at hch
    clear h0
    by_cases hlen : xss.length = m.laced.length
    · have hd1 : ((xss.length : Int) != (m.laced.length : Int)) = false := by simp; omega
      have hr3 : Hid ((if listedE m fl ≠ 0 then listedE m fl else if weavesAll m xss = false then 8 else 0) = r) := by
        unfold Hid; rw [← hr2.out, if_neg (show ¬ (xss.length ≠ m.laced.length) by simp [hlen])]
      clear hlen hr2
      obtain ⟨le, hle⟩ : ∃ le, listedE m fl = le := ⟨_, rfl⟩
      simp only [hle] at hr3
      have Hle := Lib.hid hle; clear hle
      go_enter Tryz.func96, Tryz.ntmps96
      go_wp2_with fail
      refine hch.out.mono ?_
      rintro e w1 ⟨rfl, he1⟩
      have hE1 := hE.trans he1
      have hM1 := hM.ext he1
      clear hM hE he1 hch k0 k1 k2
      obtain ⟨k0, k1, k2⟩ := hM1.c3
      go_wp2_with fail
      refine wp_region_apart 5 (by kernel_rfl) (by kernel_rfl) (fun W' => Ext w1 W') (planR (.agg #[.slice A1 m.laced.length c1, .int .i64 m.change, .slice A2 m.orders.length c2]) (.slice PA xss.length pc) fl le) (fun _ _ _ _ => True) (Ext.drew _) ?_ ?_
      · simp only [List.take, AllOps2, fill, Act.put, List.setIfInBounds_toArray, List.set_cons_zero, List.set_cons_succ, Nat.reduceAdd, Deps, DepsL, List.filter_cons, List.filter_nil, Region.binds, if_true, and_true]
        refine ⟨?_, ?_, ?_, ?_, ?_⟩
        all_goals
          intro Ld x W' hG hnl hLR hAp hdl hd K Q hK
        case refine_3 =>
          simp only [planR] at hd
          simp only [hd] at hK ⊢
          have HK := Lib.hid hK; clear hK
          have HL := Lib.hid hLR; clear hLR hAp hdl
          have hcc := Lib.hid (concat_any _ xss Hfb.out hb2 W' (Hp.out.ext (hE1.trans hG)))
          rw [Hfl.out] at hcc
          go_wp2_with fail
          refine hcc.out.mono ?_
          rintro e w' ⟨rv, rfl, hrv, he'⟩
          go_wp2
          exact HK.out _ _ hrv.sl (hG.trans he') (fun j hj => ⟨planR.ext he' j _ (HL.out j hj), .inl trivial⟩)
        case refine_4 =>
          have hx0 : x 0 = _ := hd.1
          have hx2 : SlI W' (x 2) fl := hd.2.1
          obtain ⟨AF, cF, e2, f1, f2, f3⟩ := hx2
          simp only [hx0, e2] at hK ⊢
          have HK := Lib.hid hK; clear hK
          have HL := Lib.hid hLR; clear hLR hAp hdl hd e2 hx0
          have hcc := Lib.hid (listed_any _ m AF cF fl le (by rw [hli.out]; exact Hle.out) W' (Hv.out.ext (hE1.trans hG)) f1 f2 f3)
          clear f3
          go_wp2_with fail
          refine hcc.out.mono ?_
          rintro e w' ⟨rfl, he'⟩
          go_wp2
          exact HK.out _ _ rfl (hG.trans he') (fun j hj => ⟨planR.ext he' j _ (HL.out j hj), .inl trivial⟩)
        case refine_5 =>
          have hx3 : x 3 = _ := hd.1
          simp only [hx3] at hK ⊢
          have HK := Lib.hid hK; clear hK
          have HL := Lib.hid hLR; clear hLR hAp hdl hd hx3
          go_wp2_with fail
          exact HK.out _ _ rfl hG (fun j hj => ⟨HL.out j hj, .inl trivial⟩)
        all_goals
          try (simp only [planR] at hd; simp only [hd] at hK ⊢)
          have HK := Lib.hid hK; clear hK
          have HL := Lib.hid hLR; clear hLR hAp hdl
          obtain ⟨k0, k1, k2⟩ := (hM1.ext hG).c3
          go_wp2_with fail
          exact HK.out _ _ rfl hG (fun j hj => ⟨HL.out j hj, .inl trivial⟩)
      · intro x W2 hG _ hR
        simp only [AllR, planR, true_and] at hR
        obtain ⟨h03, r4⟩ := hR
        clear h03
        simp only [List.take, List.drop, fill, Act.put, List.setIfInBounds_toArray, List.set_cons_zero, List.set_cons_succ, Nat.reduceAdd, r4]
        clear r4
        have hE2 := hE1.trans hG
        have hM2 := hM1.ext hG
        clear hM1 hE1 hG k0 k1 k2
        by_cases hl0 : le = 0
        · have hrange := inB_range (listedE_ok (Hle.out.trans hl0)).1
          have Hrange := Lib.hid hrange; clear hrange
          have hr4 : Hid ((if weavesAll m xss = false then (8 : Int) else 0) = r) := by have := hr3.out; unfold Hid; rwa [if_neg (show ¬ (le ≠ 0) by simp [hl0])] at this
          have hdl0 : (le != 0) = false := by simp [hl0]
          clear hl0
          go_wp2_with fail
          go_loopw [29] (fun iv wr => ∃ k : Nat, k ≤ xss.length ∧ iv = .int .i64 k ∧ Hid (∀ j, j < k → ((xss[j]?.getD []).all fun x => weavesI m j x) = true) ∧ Ext w wr ∧ Blk wr w.heap.size 25 #[.slice A1 m.laced.length c1, .int .i64 m.change, .slice A2 m.orders.length c2]) (fun iv _ => xss.length - (intOf iv).toNat)
          case atStart => exact ⟨0, by omega, rfl, fun j hj => absurd hj (by omega), hE2, hM2⟩
          case round =>
            clear hE2 hM2
            obtain ⟨k, hk, rfl, hall, he, hMr⟩ := hrel
            by_cases hlt : k < xss.length
            · obtain ⟨pb, po, u, e0, q1, hsl⟩ := G4.out k hlt
              subst e0
              have q1' := he.cell q1
              obtain ⟨LA, lc, rfl, s1, s2, s3⟩ := hsl.ext he
              have hX := Ext.alloc wr (.cells #[.int .i64 (k : Int)] 3)
              have hC := Blk.new wr 3 #[.int .i64 (k : Int)]
              have hMX := hMr.ext hX
              obtain ⟨q, hq⟩ : ∃ q, ((xss[k]?.getD []).all fun x => weavesI m k x) = q := ⟨_, rfl⟩
              have hev := everyI 145 #[] #[.pointer (some ⟨w.heap.size, 0, none⟩), .pointer (some ⟨wr.heap.size, 0, none⟩)] (enters_of Tryz.func145 (by kernel_rfl) rfl) (fun n => weavesI m k n) LA lc (xss[k]?.getD []) (wr.alloc (.cells #[.int .i64 (k : Int)] 3)) (Nat.le_trans s1 s2) (s3.ext hX) (fun x hx' => by
                intro W u hW hu
                obtain rfl : u = .int .i64 x := hu
                exact planned1_any m k x (Hrange.out x (Hfl.out ▸ mem_flat hlt hx')) _ _ _ W (Hv.out.ext (he.trans (hX.trans hW))) ⟨A1, c1, A2, c2, rfl, hMX.ext hW⟩ (hC.ext hW))
              rw [hq] at hev
              have Hev := Lib.hid hev; clear hev s3 hsl
              have Hq := Lib.hid hq; clear hq
              have hfl8 : Hid (q = false → r = 8) := fun h => by rw [← hr4.out, weavesAll_false hlt (by rw [← h]; exact Hq.out)]; simp
              generalize hLL : (xss[k]?.getD []) = ys at *
              have HLL := Lib.hid hLL; clear hLL
              go_wp2_with fail
              refine Hev.out.mono ?_
              rintro e w' ⟨rfl, he'⟩
              cases q with
              | true =>
                go_wp2_with fail
                go_roundw
                case rel =>
                  refine ⟨k + 1, by omega, by go_num, fun j hj => ?_, he.trans (hX.trans he'), hMX.ext he'⟩
                  by_cases ej : j = k
                  · subst ej; rw [HLL.out]; exact Hq.out
                  · exact hall.out j (by omega)
                case measure => simp [intOf]; omega
              | false =>
                have hr8 := hfl8.out rfl
                subst hr8
                go_wp2_with fail
                go_ret
                exact ⟨rfl, he.trans (hX.trans he')⟩
            · have hr0 : r = 0 := by rw [← hr4.out, weavesAll_true fun j hj => hall.out j (by omega)]; simp
              subst hr0
              go_wp2_with fail
              go_ret
              exact ⟨rfl, he⟩
        · have hr0 : r = le := by rw [← hr3.out, if_pos hl0]
          have hd : (le != 0) = true := by simpa using hl0
          clear hl0
          subst hr0
          go_wp2_with fail
          go_ret
          exact ⟨rfl, hE2⟩
    · have hd1 : ((xss.length : Int) != (m.laced.length : Int)) = true := by simp; omega
      have hr3 : r = 2 := by rw [← hr2.out, if_pos hlen]
      clear hlen
      subst hr3
      go_enter Tryz.func96, Tryz.ntmps96
      go_wp2_with fail
      refine hch.out.mono ?_
      rintro e w1 ⟨rfl, he1⟩
      have hM1 := hM.ext he1
      clear k0 k1 k2
      obtain ⟨k0, k1, k2⟩ := hM1.c3
      go_wp2_with fail
      go_ret
      exact ⟨rfl, hE.trans he1⟩
  · have hr2 : checkE m = r := by rw [← Hr.out]; unfold plE; rw [if_pos h0]
    have hd : (r != 0) = true := by rw [← hr2]; simpa using h0
    rw [hr2] at hch
    clear h0 hr2
    go_enter Tryz.func96, Tryz.ntmps96
    go_wp2_with fail
    refine hch.out.mono ?_
    rintro e w1 ⟨rfl, he1⟩
    go_wp2_with fail
    go_ret
    exact ⟨rfl, hE.trans he1⟩
def chgF (m : Mill) (xss : List (List Int)) : Nat → Int
  | 0 => 0
  | k + 1 => chgF m xss k + chR m k (rvI (xss[k]?.getD []))
theorem chgF_bd (m : Mill) (xss : List (List Int)) (h : ∀ j, j < xss.length → (xss[j]?.getD []).length ≤ 100) : ∀ k, k ≤ xss.length → 0 ≤ chgF m xss k ∧ chgF m xss k ≤ 100 * k
  | 0, _ => by simp [chgF]
  | k + 1, hk => by
    have ih := chgF_bd m xss h k (by omega)
    have hc := chR_bd m k (rvI (xss[k]?.getD []))
    have hl : (rvI (xss[k]?.getD [])).length = (xss[k]?.getD []).length := by unfold rvI; simp
    have := h k (by omega)
    rw [chgF]; omega
set_option maxRecDepth 20000 in
set_option maxHeartbeats 1000000 in
theorem changes_any (v pv : Value) (m : Mill) (xss : List (List Int)) (e0 : Int) (he0 : plE m xss = e0) (hb : xss.flatten.length ≤ 100) (hb2 : xss.length ≤ 1000) (w : World) (hv : MillVal w v m) (hp : RowsI w pv xss) :
    Calls Tryz.prog 33 #[v, pv] w fun e w' => e = .returned (.tuple #[.int .i64 (if e0 = 0 then chgF m xss xss.length else 0), .int .i64 e0]) ∧ Ext w w' := by
  have Hv := Lib.hid hv
  have Hp := Lib.hid hp
  have Hlen : Hid (∀ j, j < xss.length → (xss[j]?.getD []).length ≤ 100) := fun j hj => by
    have h1 := flat_take hj
    have h2 := flat_le xss (j + 1)
    rw [h1, List.length_append] at h2
    omega
  obtain ⟨A1, c1, A2, c2, rfl, h2, h3, h4, h5, h6, h7⟩ := hv
  obtain ⟨PA, pc, rfl, g2, g3, g4⟩ := hp
  have G4 := Lib.hid g4; clear g4
  unfold maxLen at g3
  have hE := Ext.alloc w (.cells #[.slice A1 m.laced.length c1, .int .i64 m.change, .slice A2 m.orders.length c2] 25)
  have hM := Blk.new w 25 #[.slice A1 m.laced.length c1, .int .i64 m.change, .slice A2 m.orders.length c2]
  have hpl := Lib.hid (planned_any _ _ m xss e0 he0 (by omega) hb2 _ (Hv.out.ext hE) (Hp.out.ext hE))
  have He0 := Lib.hid he0; clear he0
  clear h6 h7 h3 h5 hb
  obtain ⟨k0, k1, k2⟩ := hM.c3
  by_cases h0 : e0 = 0
  · have hck : Hid (checkE m = 0 ∧ xss.length = m.laced.length ∧ listedE m xss.flatten = 0) := by
      have h := He0.out
      rw [h0] at h
      unfold plE at h
      by_cases a1 : checkE m ≠ 0
      · rw [if_pos a1] at h; exact absurd h a1
      rw [if_neg a1] at h
      by_cases a2 : xss.length ≠ m.laced.length
      · rw [if_pos a2] at h; omega
      rw [if_neg a2] at h
      by_cases a3 : listedE m xss.flatten ≠ 0
      · rw [if_pos a3] at h; exact absurd h a3
      exact ⟨by omega, by omega, by omega⟩
    have Hrange := Lib.hid (inB_range (listedE_ok hck.out.2.2).1)
    obtain ⟨l1, l2, l3⟩ := check_len hck.out.1
    rw [if_pos h0]
    have hd0 : (e0 != 0) = false := by simp [h0]
    have H0 := Lib.hid h0; clear h0
    go_enter Tryz.func33, Tryz.ntmps33
    go_wp2_with fail
    refine hpl.out.mono ?_
    rintro e w1 ⟨rfl, he1⟩
    have hE1 := hE.trans he1
    have hM1 := hM.ext he1
    clear hM hE he1 hpl k0 k1 k2
    go_wp2_with fail
    go_loopw [7, 20] (fun sv iv wr => ∃ (k : Nat) (s : Int), k ≤ xss.length ∧ iv = .int .i64 k ∧ sv = .int .i64 s ∧ (0 ≤ s ∧ s ≤ 100 * k) ∧ Hid (chgF m xss k = s) ∧ Ext w wr ∧ Blk wr w.heap.size 25 #[.slice A1 m.laced.length c1, .int .i64 m.change, .slice A2 m.orders.length c2]) (fun _ iv _ => xss.length - (intOf iv).toNat)
    case atStart => exact ⟨0, 0, by omega, rfl, rfl, by omega, rfl, hE1, hM1⟩
    case round =>
      clear hE1 hM1
      obtain ⟨k, s, hk, rfl, rfl, hsb, hs, he, hMr⟩ := hrel
      obtain ⟨k0, k1, k2⟩ := hMr.c3
      by_cases hlt : k < xss.length
      · obtain ⟨pb, po, u, e1, q1, hsl⟩ := G4.out k hlt
        subst e1
        have q1' := he.cell q1
        obtain ⟨LA, lc, rfl, s1, s2, s3⟩ := hsl.ext he
        have hst : Hid (chgF m xss (k + 1) = s + chR m k (rvI (xss[k]?.getD []))) := by unfold Hid; rw [chgF, hs.out]
        have hb := chgF_bd m xss Hlen.out (k + 1) (by omega)
        rw [hst.out] at hb
        have hran := Lib.hid (ran_any _ m hck.out.1 k (by have := hck.out.2.1; omega) LA lc (xss[k]?.getD []).length (xss[k]?.getD []) rfl (Hlen.out k hlt) (fun x hx => Hrange.out x (mem_flat hlt hx)) wr (Hv.out.ext he) s3)
        clear s3 hsl
        generalize (xss[k]?.getD []) = ys at *
        generalize chR m k (rvI ys) = cc at *
        go_wp2_with fail
        refine hran.out.mono ?_
        rintro e w' ⟨rr, rfl, _, he'⟩
        go_wp2_with fail
        go_roundw
        case rel => exact ⟨k + 1, s + cc, by omega, by go_num, by first | rfl | go_num, hb, hst, he.trans he', hMr.ext he'⟩
        case measure => simp [intOf]; omega
      · have hke : k = xss.length := by omega
        subst hke
        go_wp2_with fail
        go_ret2
        exact ⟨by rw [hs.out, H0.out]; rfl, he⟩
  · rw [if_neg h0]
    have hd : (e0 != 0) = true := by simpa using h0
    clear h0
    go_enter Tryz.func33, Tryz.ntmps33
    go_wp2_with fail
    refine hpl.out.mono ?_
    rintro e w1 ⟨rfl, he1⟩
    go_wp2_with fail
    go_ret2
    exact ⟨rfl, hE.trans he1⟩
end Go.Proofs.Pet
