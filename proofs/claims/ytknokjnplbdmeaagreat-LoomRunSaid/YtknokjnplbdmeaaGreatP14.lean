/-
  Contracts of functions, each proved once.
-/
import Derived.Test.YtknokjnplbdmeaaGreatP13
import Derived.Test.YtknokjnplbdmeaaGreatP03
namespace Go.Proofs.Pet
open Go Go.RowKit Go.Maps Go.Shelf

theorem ownsRow_apart {w W : World} {base b size n : Nat} {e : TypeId} {v : Value} {xs : List Value} (h : w.ownsRow base e size v n xs) (hne : v.ownBlock ≠ some b) (ha : Apart b w W) : W.ownsRow base e size v n xs := by
  obtain ⟨h1, h2⟩ := h
  refine ⟨h1, ?_⟩
  rcases h2 with h2 | ⟨g, cap, cur, rfl, hg1, hb, r⟩
  · exact .inl h2
  · refine .inr ⟨g, cap, cur, rfl, hg1, ?_, r⟩
    rw [← hb]
    exact ha.block g (Array.getElem?_eq_some_iff.1 hb).1 (fun e => hne (by rw [e]; rfl))
theorem info_order5 : (Tryz.prog.info? 99).map (fun i => (i.zero, i.size, i.bytes)) = some (some (.agg #[.int .i64 0, .int .i64 0, .int .i64 0, .slice none 0 0]), 4, 48) := by kernel_rfl
set_option maxRecDepth 20000 in
set_option maxHeartbeats 2000000 in
theorem theirs_off (v : Value) (m : Mill) (w0 w : World) (h0 : Ext w0 w) (hv : MillVal w0 v m) (hn : m.orders.length ≤ 1000) :
    Calls Tryz.prog 12 #[v] w fun e w' => ∃ v', e = .returned v' ∧ MillValS (fun b => w0.heap.size ≤ b ∧ b < w.heap.size) w' v' m ∧ Ext w w' := by
  have H0 := Lib.hid h0
  obtain ⟨ti, hi, hz0, hz1, hz2⟩ := info_parts info_order5
  obtain ⟨A1, c1, A2, c2, rfl, h2, h3, h4, h5, h6, h7⟩ := hv
  have Hc := Lib.hid (And.intro h2 (And.intro h3 (And.intro h4 h5)))
  have H6 := Lib.hid h6; have H7 := Lib.hid h7; clear h6 h7
  have hE0 : Ext w ((w.alloc (.cells #[.slice A1 m.laced.length c1, .int .i64 m.change, .slice A2 m.orders.length c2] 25)).alloc (.cells #[.slice none 0 0, .int .i64 0, .slice none 0 0] 35)) := (Ext.alloc _ _).trans (Ext.alloc _ _)
  have hM0 := (Blk.new w 25 #[.slice A1 m.laced.length c1, .int .i64 m.change, .slice A2 m.orders.length c2]).alloc (.cells #[.slice none 0 0, .int .i64 0, .slice none 0 0] 35)
  have hT0 := Blk.new (w.alloc (.cells #[.slice A1 m.laced.length c1, .int .i64 m.change, .slice A2 m.orders.length c2] 25)) 35 #[.slice none 0 0, .int .i64 0, .slice none 0 0]
  rw [World.size_alloc] at hT0
  obtain ⟨k0, k1, k2⟩ := hM0.c3
  clear h3 h5
  go_enter Tryz.func12, Tryz.ntmps12
  go_wp2_with (refine wpList_store_row rfl 35 _ _ rfl _ #[.slice A1 m.laced.length c1, .int .i64 m.change, .slice none 0 0] rfl rfl 35 _ (Blk.new _ 35 #[.slice none 0 0, .int .i64 0, .slice none 0 0]) (by kernel_rfl) rfl (by simp only [List.all_toArray, List.all_cons, List.all_nil]; rfl) ?_)
  have hE1 := hE0.trans (Ext.alloc _ (.cells #[.slice A1 m.laced.length c1, .int .i64 m.change, .slice none 0 0] 35))
  have hM1 := hM0.alloc (.cells #[.slice A1 m.laced.length c1, .int .i64 m.change, .slice none 0 0] 35)
  have hT1 := hT0.alloc (.cells #[.slice A1 m.laced.length c1, .int .i64 m.change, .slice none 0 0] 35)
  have hO1 := Blk.new ((w.alloc (.cells #[.slice A1 m.laced.length c1, .int .i64 m.change, .slice A2 m.orders.length c2] 25)).alloc (.cells #[.slice none 0 0, .int .i64 0, .slice none 0 0] 35)) 35 #[.slice A1 m.laced.length c1, .int .i64 m.change, .slice none 0 0]
  rw [World.size_alloc, World.size_alloc] at hO1
  clear hE0 hM0 hT0 k0 k1 k2
  generalize ((w.alloc _).alloc _).alloc _ = W at *
  have hO1' : Blk W (w.heap.size + 2) 35 #[.slice A1 m.laced.length c1, .int .i64 m.change, .slice none 0 0] := hO1
  have e2 : w.heap.size + 1 + 1 = w.heap.size + 2 := rfl
  rw [e2]
  clear hO1
  go_loopw [14] (fun iv wr => ∃ (k : Nat) (ov : Value) (cs : List Value), k ≤ m.orders.length ∧ iv = .int .i64 k ∧ Ext w wr ∧ Blk wr w.heap.size 25 #[.slice A1 m.laced.length c1, .int .i64 m.change, .slice A2 m.orders.length c2] ∧
      Blk wr (w.heap.size + 1) 35 #[.slice none 0 0, .int .i64 0, .slice none 0 0] ∧ Blk wr (w.heap.size + 2) 35 #[.slice A1 m.laced.length c1, .int .i64 m.change, ov] ∧
      Hid (wr.ownsRow (w.heap.size + 3) 99 4 ov k cs) ∧ Hid (OrdList w0 cs (m.orders.take k))) (fun iv _ => m.orders.length - (intOf iv).toNat)
  case atStart => exact ⟨0, .slice none 0 0, [], by omega, rfl, hE1, hM1, hT1, hO1', World.ownsRow_nil _ _ _ _, trivial⟩
  case round =>
    clear hE1 hM1 hT1 hO1'
    obtain ⟨k, ov, cs, hk, rfl, he, hM, hT, hO, hown, hol⟩ := hrel
    have hOlt := hO.lt
    by_cases hlt : k < m.orders.length
    · obtain ⟨b, o, rfl, A, ca, hca, p1, p2, p3, p4, p5⟩ := H7.out.ext (H0.out.trans he) k hlt
      have hgk := H7.out k hlt
      have htk : Hid (m.orders.take (k + 1) = m.orders.take k ++ [m.orders[k]?.getD default]) := by
        unfold Hid; rw [List.take_succ_eq_append_getElem hlt]; simp [hlt]
      obtain ⟨b', o', e', A', ca', hca', p1', p2', p3', p4', p5'⟩ := hgk
      simp only [Option.some.injEq, Addr.mk.injEq, and_true] at e'
      obtain ⟨rfl, rfl⟩ := e'
      have hA : A' = A ∧ ca' = ca := by
        have h1 := (H0.out.trans he).cell p4'
        rw [p4] at h1
        simp only [Option.some.injEq, Value.slice.injEq] at h1
        exact ⟨h1.1.symm, h1.2.2.symm⟩
      obtain ⟨rfl, rfl⟩ := hA
      have Hp5 := Lib.hid p5'
      clear p1' p2' p3' p4' p5' hca' p5
      generalize m.orders[k]?.getD default = x0 at *
      obtain ⟨AO, cO, rfl⟩ := ownsRow_slice hown.out
      have hb5 := Blk.new wr 51 #[.int .i64 x0.pattern, .int .i64 x0.days, .int .i64 x0.by_, .slice A' x0.on.length ca']
      have hX := Ext.alloc wr (.cells #[.int .i64 x0.pattern, .int .i64 x0.days, .int .i64 x0.by_, .slice A' x0.on.length ca'] 51)
      have hOX := hO.ext hX
      obtain ⟨q0, q1, q2, q3⟩ := hb5.c4
      have r2 := hOX.c3.2.2
      have hge : ∀ j, (Value.slice AO k cO).ownBlock = some j → w.heap.size + 3 ≤ j := by
        intro j hj
        rcases hown.out.2 with ⟨h, _⟩ | ⟨g, cap, cur, h, hg, _⟩
        · rw [h] at hj; cases hj
        · rw [h] at hj
          have : g = j := Option.some.inj hj
          omega
      have hrow2 : Hid (((wr.alloc (.cells #[.int .i64 x0.pattern, .int .i64 x0.days, .int .i64 x0.by_, .slice A' x0.on.length ca'] 51)).alloc (.cells #[.int .i64 x0.pattern, .int .i64 x0.days, .int .i64 x0.by_, .slice A' x0.on.length ca'] 99)).ownsRow (w.heap.size + 3) 99 4 (.slice AO k cO) k cs) := (hown.out.alloc _).alloc _
      have hge' := Lib.hid hge; clear hge
      have hsrc : Hid (Src ((wr.alloc (.cells #[.int .i64 x0.pattern, .int .i64 x0.days, .int .i64 x0.by_, .slice A' x0.on.length ca'] 51)).alloc (.cells #[.int .i64 x0.pattern, .int .i64 x0.days, .int .i64 x0.by_, .slice A' x0.on.length ca'] 99)) (some ⟨wr.heap.size + 1, 0, none⟩) [.int .i64 x0.pattern, .int .i64 x0.days, .int .i64 x0.by_, .slice A' x0.on.length ca']) := by
        have hb6 := Blk.new (wr.alloc (.cells #[.int .i64 x0.pattern, .int .i64 x0.days, .int .i64 x0.by_, .slice A' x0.on.length ca'] 51)) 99 #[.int .i64 x0.pattern, .int .i64 x0.days, .int .i64 x0.by_, .slice A' x0.on.length ca']
        rw [World.size_alloc] at hb6
        refine .inr ⟨_, rfl, fun j u hj => ?_⟩
        have e : (⟨wr.heap.size + 1, 0, none⟩ : Addr).add j = ⟨wr.heap.size + 1, j, none⟩ := by unfold Addr.add; split <;> simp_all
        rw [e, hb6.cell, List.getElem?_toArray]
        exact hj
      have hOXX := hOX.alloc (.cells #[.int .i64 x0.pattern, .int .i64 x0.days, .int .i64 x0.by_, .slice A' x0.on.length ca'] 99)
      have hONe := Lib.hid (ownsRow_ne_blk hrow2.out hOXX (by decide))
      go_wp2_with (at_builtin; refine wpList_app rfl _ _ 33 rfl (w.heap.size + 3) 99 ti _ 4 48 Tryz.underlying33 hi hz0 hz1 hz2 rfl (by decide) _ _ _ rfl hrow2.out (some ⟨wr.heap.size + 1, 0, none⟩) 1 1 [.int .i64 x0.pattern, .int .i64 x0.days, .int .i64 x0.by_, .slice A' x0.on.length ca'] rfl rfl hsrc.out ?c2 ?c3 ?c4 ?c5 ?_; (case c2 => (intro u hu; simp only [List.mem_cons, List.not_mem_nil, or_false] at hu; rcases hu with rfl | rfl | rfl | rfl <;> rfl)); (case c3 => (unfold maxLen; omega)); (case c4 => omega); (case c5 => (simp; omega)); intro v' w' hown' hg hblk; obtain ⟨AV, cV, rfl⟩ := ownsRow_slice hown'; have hOw := hOXX.grown hg hONe.out; have rW := hOw.c3.2.2; have fW := hOw.frozen 2)
      go_roundw
      case rel =>
        have hXX := hX.trans (Ext.alloc (wr.alloc (.cells #[.int .i64 x0.pattern, .int .i64 x0.days, .int .i64 x0.by_, .slice A' x0.on.length ca'] 51)) (.cells #[.int .i64 x0.pattern, .int .i64 x0.days, .int .i64 x0.by_, .slice A' x0.on.length ca'] 99))
        have hMw := (hM.ext hXX).grown hg (ownsRow_ne_blk hrow2.out (hM.ext hXX) (by decide))
        have hTw := (hT.ext hXX).grown hg (ownsRow_ne_blk hrow2.out (hT.ext hXX) (by decide))
        have hsz := (he.trans hXX).size
        have hew : Ext w w' := Below.grown (he.trans hXX) hg hsz (fun j hj => by have := hge'.out j hj; omega)
        refine ⟨k + 1, _, cs ++ [.int .i64 x0.pattern, .int .i64 x0.days, .int .i64 x0.by_, .slice A' x0.on.length ca'], by omega, by go_num, Below.setCell hew (by show _ ≤ w.heap.size + 2; omega) _, hMw.far (by show _ ≠ w.heap.size + 2; omega) _, hTw.far (by show _ ≠ w.heap.size + 2; omega) _, by simpa using hOw.set_ 2 (.slice AV (k + 1) cV), ?_, ?_⟩
        · exact ownsRow_apart hown' (fun e => ownsRow_ne_blk hown' hOw (by decide) e.symm) ((Apart.refl (w.heap.size + 2) w').set_ 2 _)
        · unfold Hid
          rw [htk.out]
          exact hol.out.append ⟨rfl, rfl, rfl, ⟨A', ca', hca, rfl, Hp5.out⟩, trivial⟩
      case measure => simp [intOf]; omega
    · obtain rfl : k = m.orders.length := by omega
      obtain ⟨AO, cO, rfl⟩ := ownsRow_slice hown.out
      obtain ⟨q0, q1, q2⟩ := hO.c3
      go_wp2_with (refine wpList_store_row rfl 35 _ _ rfl _ #[.slice A1 m.laced.length c1, .int .i64 m.change, .slice AO m.orders.length cO] rfl rfl 35 _ hT (by kernel_rfl) rfl (by simp only [List.all_toArray, List.all_cons, List.all_nil]; rfl) ?_)
      have hWf : Apart (w.heap.size + 1) wr (wr.setRow (w.heap.size + 1) #[.slice A1 m.laced.length c1, .int .i64 m.change, .slice AO m.orders.length cO]) :=
        ⟨rfl, rfl, rfl, by simp [World.setRow], fun j _ hne => setRow_other wr _ j _ hne⟩
      have hbf := hT.row #[.slice A1 m.laced.length c1, .int .i64 m.change, .slice AO m.orders.length cO]
      have heF : Ext w (wr.setRow (w.heap.size + 1) #[.slice A1 m.laced.length c1, .int .i64 m.change, .slice AO m.orders.length cO]) := he.setRow (by omega) _
      have hrowF := ownsRow_apart hown.out (fun e => ownsRow_ne_blk hown.out hT (by decide) e.symm) hWf
      have hols := hol.out
      rw [List.take_length] at hols
      obtain ⟨A3, c3, e3, g1, g2, _, g4⟩ := OwnO.open_ ⟨_, hrowF, hols.ext (H0.out.trans heF)⟩
      simp only [Value.slice.injEq] at e3
      obtain ⟨rfl, -, rfl⟩ := e3
      have hs0 := H0.out.size
      have hOf : ∀ j, j < m.orders.length → ∃ b o, AO = some ⟨b, o, none⟩ ∧ ¬ (w0.heap.size ≤ b ∧ b < w.heap.size) ∧ OrdCellsS (fun b => w0.heap.size ≤ b ∧ b < w.heap.size) (wr.setRow (w.heap.size + 1) #[.slice A1 m.laced.length c1, .int .i64 m.change, .slice AO m.orders.length cO]) b (o + j * 4) (m.orders[j]?.getD default) := by
        intro j hj
        rcases hrowF.2 with ⟨h, h'⟩ | ⟨g, cap, cur, h, hg, hb, hn', hm, hs, hc⟩
        · rw [h'] at hj; exact absurd hj (by omega)
        · injection h with h1 h2' h3'
          subst h1
          obtain ⟨A, c, q1, q2, q3, q4, q5, q6⟩ := hols.get j hj
          have hcur : ∀ i u, _ = some u → (wr.setRow (w.heap.size + 1) #[.slice A1 m.laced.length c1, .int .i64 m.change, .slice (some ⟨g, 0, none⟩) m.orders.length cO]).cell? ⟨g, 0 + i, none⟩ = some u := row_cell hb hc
          refine ⟨g, 0, rfl, by omega, A, c, q1, hcur _ _ q2, hcur _ _ q3, hcur _ _ q4, hcur _ _ q5, q6.ext (H0.out.trans heF), fun hne ad e g => ?_⟩
          have := q6.lt hne ad e
          omega
      have hoffL : m.laced ≠ [] → ∀ ad, A1 = some ad → ¬ (w0.heap.size ≤ ad.block ∧ ad.block < w.heap.size) := fun hne ad e g => by
        have := H6.out.lt hne ad e
        omega
      clear hrowF hols hT hWf hown hol hO hM q0 q1 q2
      generalize wr.setRow _ _ = Wf at *
      obtain ⟨v0, v1, v2⟩ := hbf.c3
      refine bodyPost_ret (v := .agg #[.slice A1 m.laced.length c1, .int .i64 m.change, .slice AO m.orders.length cO]) ?_ rfl ⟨_, rfl, ⟨A1, c1, AO, cO, rfl, Hc.out.1, Hc.out.2.1, g1, g2, H6.out.ext (H0.out.trans heF), hoffL, hOf⟩, heF⟩
      simp [results, Tryz.results12, go_sem, v0, v1, v2]
theorem theirs_any (v : Value) (m : Mill) (w : World) (hv : MillVal w v m) (hn : m.orders.length ≤ 1000) :
    Calls Tryz.prog 12 #[v] w fun e w' => ∃ v', e = .returned v' ∧ MillVal w' v' m ∧ Ext w w' :=
  (theirs_off v m w w (Ext.refl _) hv hn).mono fun _e _w' ⟨v', h1, h2, h3⟩ => ⟨v', h1, h2.val, h3⟩
/-- a change of a block of S alone -/
theorem MillValS.apart {S : Nat → Prop} {w W : World} {v : Value} {m : Mill} {g : Nat} (h : MillValS S w v m) (hg : S g) (ha : Apart g w W) : MillValS S W v m := by
  have key : ∀ (A : Option Addr) (xs : List Int), IntsAt w A xs → (xs ≠ [] → ∀ ad, A = some ad → ¬ S ad.block) → IntsAt W A xs := by
    intro A xs hx hn k hk
    obtain ⟨b, o, rfl, hc⟩ := hx k hk
    have hne : b ≠ g := fun e => hn (by rintro rfl; cases hk) _ rfl (e ▸ hg)
    have hlt := cell_lt hc
    refine ⟨b, o, rfl, ?_⟩
    rw [← hc]
    unfold World.cell?
    simp only [ha.block b hlt hne]
  have cellK : ∀ (b o : Nat) (u : Value), b ≠ g → w.cell? ⟨b, o, none⟩ = some u → W.cell? ⟨b, o, none⟩ = some u := by
    intro b o u hne hc
    have hlt := cell_lt hc
    rw [← hc]
    unfold World.cell?
    simp only [ha.block b hlt hne]
  obtain ⟨A1, c1, A2, c2, h1, h2, h3, h4, h5, h6, h7, h8⟩ := h
  refine ⟨A1, c1, A2, c2, h1, h2, h3, h4, h5, key _ _ h6 h7, h7, fun k hk => ?_⟩
  obtain ⟨b, o, e, hb, A, c, g1, g2, g3, g4, g5, g6, g7⟩ := h8 k hk
  have hne : b ≠ g := fun e => hb (e ▸ hg)
  exact ⟨b, o, e, hb, A, c, g1, cellK _ _ _ hne g2, cellK _ _ _ hne g3, cellK _ _ _ hne g4, cellK _ _ _ hne g5, key _ _ g6 g7, g7⟩
end Go.Proofs.Pet

namespace Go.Proofs.Pet
open Go Go.RowKit Go.Maps Go.Shelf

theorem mill_ne {a b : Mill} (h : a.laced ≠ b.laced ∨ a.change ≠ b.change ∨ a.orders ≠ b.orders) : decide (a = b) = false := by
  rw [decide_eq_false_iff_not]
  rintro rfl
  simp at h
set_option maxRecDepth 20000 in
set_option maxHeartbeats 2000000 in
theorem same_any (va vb : Value) (a b : Mill) (q : Bool) (hq : decide (a = b) = q) (w : World) (ha : MillVal w va a) (hb : MillVal w vb b) :
    Calls Tryz.prog 20 #[va, vb] w fun e w' => e = .returned (.bool q) ∧ Ext w w' := by
  have Hq := Lib.hid hq; clear hq
  obtain ⟨A1, c1, A2, c2, rfl, h2, h3, h4, h5, h6, h7⟩ := ha
  obtain ⟨B1, d1, B2, d2, rfl, g2, g3, g4, g5, g6, g7⟩ := hb
  have hE : Ext w ((w.alloc (.cells #[.slice A1 a.laced.length c1, .int .i64 a.change, .slice A2 a.orders.length c2] 25)).alloc (.cells #[.slice B1 b.laced.length d1, .int .i64 b.change, .slice B2 b.orders.length d2] 25)) := (Ext.alloc _ _).trans (Ext.alloc _ _)
  have hMa := (Blk.new w 25 #[.slice A1 a.laced.length c1, .int .i64 a.change, .slice A2 a.orders.length c2]).alloc (.cells #[.slice B1 b.laced.length d1, .int .i64 b.change, .slice B2 b.orders.length d2] 25)
  have hMb := Blk.new (w.alloc (.cells #[.slice A1 a.laced.length c1, .int .i64 a.change, .slice A2 a.orders.length c2] 25)) 25 #[.slice B1 b.laced.length d1, .int .i64 b.change, .slice B2 b.orders.length d2]
  rw [World.size_alloc] at hMb
  obtain ⟨q1, hq1⟩ : ∃ q1, decide (a.laced = b.laced) = q1 := ⟨_, rfl⟩
  have heq := Lib.hid (eqI A1 B1 c1 d1 a.laced b.laced q1 hq1 _ (by omega) (h6.ext hE) (g6.ext hE))
  have Hq1 := Lib.hid hq1; clear hq1
  have H7 := Lib.hid h7; have G7 := Lib.hid g7; clear h6 g6 h7 g7
  unfold maxLen at h5
  obtain ⟨k0, k1, k2⟩ := hMa.c3
  obtain ⟨l0, l1, l2⟩ := hMb.c3
  have hc5 : a.orders.length ≤ 9223372036854775807 := by omega
  clear h3 g3 h5 g5
  cases q1 with
  | false =>
    have hr : q = false := by rw [← Hq.out]; exact mill_ne (.inl (of_decide_eq_false Hq1.out))
    subst hr
    go_enter Tryz.func20, Tryz.ntmps20
    go_wp2_with fail
    refine heq.out.mono ?_
    rintro e w' ⟨rfl, he⟩
    go_wp2_with fail
    go_ret
    exact ⟨rfl, hE.trans he⟩
  | true =>
  by_cases hcg : a.change = b.change
  · by_cases hln : a.orders.length = b.orders.length
    · have hd1 : (a.change != b.change) = false := by simp [hcg]
      have hd2 : ((a.orders.length : Int) != (b.orders.length : Int)) = false := by simp; omega
      have Hcg := Lib.hid hcg; have Hln := Lib.hid hln; clear hcg hln
      go_enter Tryz.func20, Tryz.ntmps20
      go_wp2_with fail
      refine heq.out.mono ?_
      rintro e w' ⟨rfl, he⟩
      have hE1 := hE.trans he
      have hMa1 := hMa.ext he
      have hMb1 := hMb.ext he
      clear hE hMa hMb k0 k1 k2 l0 l1 l2 heq he
      obtain ⟨k0, k1, k2⟩ := hMa1.c3
      obtain ⟨l0, l1, l2⟩ := hMb1.c3
      go_wp2_with fail
      go_loopw [33] (fun iv wr => ∃ k : Nat, k ≤ a.orders.length ∧ iv = .int .i64 k ∧ Hid (∀ j, j < k → a.orders[j]?.getD default = b.orders[j]?.getD default) ∧ Ext w wr ∧ Blk wr w.heap.size 25 #[.slice A1 a.laced.length c1, .int .i64 a.change, .slice A2 a.orders.length c2] ∧
          Blk wr (w.heap.size + 1) 25 #[.slice B1 b.laced.length d1, .int .i64 b.change, .slice B2 b.orders.length d2]) (fun iv _ => a.orders.length - (intOf iv).toNat)
      case atStart => exact ⟨0, by omega, rfl, fun j hj => absurd hj (by omega), hE1, hMa1, hMb1⟩
      case round =>
        clear hE1 hMa1 hMb1 k0 k1 k2 l0 l1 l2
        obtain ⟨k, hk, rfl, hall, he, hMa, hMb⟩ := hrel
        obtain ⟨k0, k1, k2⟩ := hMa.c3
        obtain ⟨l0, l1, l2⟩ := hMb.c3
        by_cases hlt : k < a.orders.length
        · have hkb : k < b.orders.length := by have := Hln.out; omega
          obtain ⟨b1, o1, rfl, A, ca, hca, p1, p2, p3, p4, p5⟩ := H7.out.ext he k hlt
          obtain ⟨b2, o2, rfl, B, cb, hcb, r1, r2, r3, r4, r5⟩ := G7.out.ext he k (by have := Hln.out; omega)
          have hxk : Hid (a.orders[k]?.getD default = a.orders[k]?.getD default) := rfl
          obtain ⟨x, hx⟩ : ∃ x, a.orders[k]?.getD default = x := ⟨_, rfl⟩
          obtain ⟨y, hy⟩ : ∃ y, b.orders[k]?.getD default = y := ⟨_, rfl⟩
          rw [hx] at hca p1 p2 p3 p4 p5
          rw [hy] at hcb r1 r2 r3 r4 r5
          have hdiff : Hid (x ≠ y → q = false) := fun hne => by
            rw [← Hq.out]
            exact mill_ne (.inr (.inr fun h => hne (by rw [← hx, ← hy, h])))
          have Hx := Lib.hid hx; have Hy := Lib.hid hy; clear hx hy hxk
          have hXX : Ext wr ((wr.alloc (.cells #[.int .i64 x.pattern, .int .i64 x.days, .int .i64 x.by_, .slice A x.on.length ca] 51)).alloc (.cells #[.int .i64 y.pattern, .int .i64 y.days, .int .i64 y.by_, .slice B y.on.length cb] 51)) := (Ext.alloc _ _).trans (Ext.alloc _ _)
          have hbx := (Blk.new wr 51 #[.int .i64 x.pattern, .int .i64 x.days, .int .i64 x.by_, .slice A x.on.length ca]).alloc (.cells #[.int .i64 y.pattern, .int .i64 y.days, .int .i64 y.by_, .slice B y.on.length cb] 51)
          have hby := Blk.new (wr.alloc (.cells #[.int .i64 x.pattern, .int .i64 x.days, .int .i64 x.by_, .slice A x.on.length ca] 51)) 51 #[.int .i64 y.pattern, .int .i64 y.days, .int .i64 y.by_, .slice B y.on.length cb]
          rw [World.size_alloc] at hby
          obtain ⟨x0, x1, x2, x3⟩ := hbx.c4
          obtain ⟨y0, y1, y2, y3⟩ := hby.c4
          have lz := (Blk.ext hMb (Ext.alloc wr (.cells #[.int .i64 x.pattern, .int .i64 x.days, .int .i64 x.by_, .slice A x.on.length ca] 51))).c3.2.2
          have rz1 := (Ext.alloc wr (.cells #[.int .i64 x.pattern, .int .i64 x.days, .int .i64 x.by_, .slice A x.on.length ca] 51)).cell r1
          have rz2 := (Ext.alloc wr (.cells #[.int .i64 x.pattern, .int .i64 x.days, .int .i64 x.by_, .slice A x.on.length ca] 51)).cell r2
          have rz3 := (Ext.alloc wr (.cells #[.int .i64 x.pattern, .int .i64 x.days, .int .i64 x.by_, .slice A x.on.length ca] 51)).cell r3
          have rz4 := (Ext.alloc wr (.cells #[.int .i64 x.pattern, .int .i64 x.days, .int .i64 x.by_, .slice A x.on.length ca] 51)).cell r4
          obtain ⟨q4, hq4⟩ : ∃ q4, decide (x.on = y.on) = q4 := ⟨_, rfl⟩
          have heq := Lib.hid (eqI A B ca cb x.on y.on q4 hq4 _ (by omega) (p5.ext hXX) (r5.ext hXX))
          have Hq4 := Lib.hid hq4; clear hq4 p5 r5
          clear hca hcb
          by_cases e1 : x.pattern = y.pattern
          · by_cases e2 : x.days = y.days
            · by_cases e3 : x.by_ = y.by_
              · have f1 : (x.pattern != y.pattern) = false := by simp [e1]
                have f2 : (x.days != y.days) = false := by simp [e2]
                have f3 : (x.by_ != y.by_) = false := by simp [e3]
                have E1 := Lib.hid e1; have E2 := Lib.hid e2; have E3 := Lib.hid e3; clear e1 e2 e3
                go_wp2_with fail
                refine heq.out.mono ?_
                rintro e w' ⟨rfl, he'⟩
                cases q4 with
                | true =>
                  go_wp2_with fail
                  go_roundw
                  case rel =>
                    refine ⟨k + 1, by omega, by go_num, fun j hj => ?_, he.trans (hXX.trans he'), hMa.ext (hXX.trans he'), hMb.ext (hXX.trans he')⟩
                    by_cases ej : j = k
                    · subst ej
                      rw [Hx.out, Hy.out]
                      have e4 : x.on = y.on := of_decide_eq_true Hq4.out
                      have e1 := E1.out; have e2 := E2.out; have e3 := E3.out
                      cases x; cases y
                      simp only at e1 e2 e3 e4
                      subst e1; subst e2; subst e3; subst e4; rfl
                    · exact hall.out j (by omega)
                  case measure => simp [intOf]; omega
                | false =>
                  have hr : q = false := hdiff.out (fun h => by have := Hq4.out; rw [h] at this; simp at this)
                  subst hr
                  go_wp2_with fail
                  go_ret
                  exact ⟨rfl, he.trans (hXX.trans he')⟩
              · have f1 : (x.pattern != y.pattern) = false := by simp [e1]
                have f2 : (x.days != y.days) = false := by simp [e2]
                have f3 : (x.by_ != y.by_) = true := by simp [e3]
                have hr : q = false := hdiff.out (fun h => e3 (by rw [h]))
                clear e1 e2 e3
                subst hr
                go_wp2_with fail
                go_ret
                exact ⟨rfl, he.trans hXX⟩
            · have f1 : (x.pattern != y.pattern) = false := by simp [e1]
              have f2 : (x.days != y.days) = true := by simp [e2]
              have hr : q = false := hdiff.out (fun h => e2 (by rw [h]))
              clear e1 e2
              subst hr
              go_wp2_with fail
              go_ret
              exact ⟨rfl, he.trans hXX⟩
          · have f1 : (x.pattern != y.pattern) = true := by simp [e1]
            have hr : q = false := hdiff.out (fun h => e1 (by rw [h]))
            clear e1
            subst hr
            go_wp2_with fail
            go_ret
            exact ⟨rfl, he.trans hXX⟩
        · have hr : q = true := by
            rw [← Hq.out, decide_eq_true_eq]
            have h1 : a.laced = b.laced := of_decide_eq_true Hq1.out
            have h2 := Hcg.out
            have h3 : a.orders = b.orders := List.ext_getElem Hln.out fun j g1 g2 => by
              have := hall.out j (by omega)
              simpa [g1, g2] using this
            cases a; cases b
            simp only at h1 h2 h3
            subst h1; subst h2; subst h3; rfl
          subst hr
          go_wp2_with fail
          go_ret
          exact ⟨rfl, he⟩
    · have hr : q = false := by rw [← Hq.out]; exact mill_ne (.inr (.inr fun h => hln (by rw [h])))
      have hd1 : (a.change != b.change) = false := by simp [hcg]
      have hd2 : ((a.orders.length : Int) != (b.orders.length : Int)) = true := by simp; omega
      clear hcg hln
      subst hr
      go_enter Tryz.func20, Tryz.ntmps20
      go_wp2_with fail
      refine heq.out.mono ?_
      rintro e w' ⟨rfl, he⟩
      have hMa1 := hMa.ext he
      have hMb1 := hMb.ext he
      clear k0 k1 k2 l0 l1 l2
      obtain ⟨k0, k1, k2⟩ := hMa1.c3
      obtain ⟨l0, l1, l2⟩ := hMb1.c3
      go_wp2_with fail
      go_ret
      exact ⟨rfl, hE.trans he⟩
  · have hr : q = false := by rw [← Hq.out]; exact mill_ne (.inr (.inl hcg))
    have hd1 : (a.change != b.change) = true := by simpa using hcg
    clear hcg
    subst hr
    go_enter Tryz.func20, Tryz.ntmps20
    go_wp2_with fail
    refine heq.out.mono ?_
    rintro e w' ⟨rfl, he⟩
    have hMa1 := hMa.ext he
    have hMb1 := hMb.ext he
    clear k0 k1 k2 l0 l1 l2
    obtain ⟨k0, k1, k2⟩ := hMa1.c3
    obtain ⟨l0, l1, l2⟩ := hMb1.c3
    go_wp2_with fail
    go_ret
    exact ⟨rfl, hE.trans he⟩
end Go.Proofs.Pet
