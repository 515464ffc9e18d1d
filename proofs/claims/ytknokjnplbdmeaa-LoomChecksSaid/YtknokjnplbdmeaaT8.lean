/-
  loom.Take: a mill with one order more.
-/
import Derived.Test.YtknokjnplbdmeaaT7
namespace Go.Proofs.Pet
open Go Go.RowKit Go.Maps Go.Shelf

def takeE (m : Mill) (o : Ord) : Int := if checkE m = 0 then (if m.orders.length = 7 then 9 else checkE (m.more o)) else checkE m
/-- what Take returns: a mill of the call's own, or none -/
def TakeRes (w : World) (base : Nat) (v : Value) (r : Int) (m : Mill) : Prop :=
  (r = 0 ∧ ∃ a b, v = .agg #[a, .int .i64 m.change, b] ∧ OwnI w base 3 a m.laced ∧ OwnOB w base b m.orders) ∨ (r ≠ 0 ∧ v = .agg #[.slice none 0 0, .int .i64 0, .slice none 0 0])
theorem TakeRes.zero {w : World} {base : Nat} {r : Int} {m : Mill} (h : r ≠ 0) : TakeRes w base (.agg #[.slice none 0 0, .int .i64 0, .slice none 0 0]) r m := .inr ⟨h, rfl⟩
set_option maxRecDepth 20000 in
set_option maxHeartbeats 4000000 in
theorem take_any (v ov : Value) (m : Mill) (o : Ord) (hon : o.on.length ≤ 100) (r : Int) (hr : takeE m o = r) (w : World) (hv : MillVal w v m) (ho : OrdVal w ov o) :
    Calls Try.prog 49 #[v, ov] w fun e w' => ∃ rv, e = .returned (.tuple #[rv, .int .i64 r]) ∧ TakeRes w' w.heap.size rv r (m.more o) ∧ Ext w w' := by
  obtain ⟨ti, hi, hz0, hz1, hz2⟩ := info_parts info_order
  have Hv := Lib.hid hv
  obtain ⟨A1, c1, A2, c2, rfl, h2, h3, h4, h5, h6, h7⟩ := hv
  obtain ⟨A3, c3, ⟨g1, g2⟩, rfl, g3⟩ := ho
  have G3 := Lib.hid g3
  have hM := Blk.new w 25 #[.slice A1 m.laced.length c1, .int .i64 m.change, .slice A2 m.orders.length c2]
  have hX := Ext.alloc w (.cells #[.slice A1 m.laced.length c1, .int .i64 m.change, .slice A2 m.orders.length c2] 25)
  have hO := Blk.new (w.alloc (.cells #[.slice A1 m.laced.length c1, .int .i64 m.change, .slice A2 m.orders.length c2] 25)) 78 #[.int .i64 o.pattern, .int .i64 o.days, .int .i64 o.by_, .slice A3 o.on.length c3]
  have hX2 := Ext.alloc (w.alloc (.cells #[.slice A1 m.laced.length c1, .int .i64 m.change, .slice A2 m.orders.length c2] 25)) (.cells #[.int .i64 o.pattern, .int .i64 o.days, .int .i64 o.by_, .slice A3 o.on.length c3] 78)
  have hR := Blk.new ((w.alloc (.cells #[.slice A1 m.laced.length c1, .int .i64 m.change, .slice A2 m.orders.length c2] 25)).alloc (.cells #[.int .i64 o.pattern, .int .i64 o.days, .int .i64 o.by_, .slice A3 o.on.length c3] 78)) 25 #[.slice none 0 0, .int .i64 0, .slice none 0 0]
  have hX3 := Ext.alloc ((w.alloc (.cells #[.slice A1 m.laced.length c1, .int .i64 m.change, .slice A2 m.orders.length c2] 25)).alloc (.cells #[.int .i64 o.pattern, .int .i64 o.days, .int .i64 o.by_, .slice A3 o.on.length c3] 78)) (.cells #[.slice none 0 0, .int .i64 0, .slice none 0 0] 25)
  have hM := (hM.ext hX2).ext hX3
  have hO := hO.ext hX3
  have hE := (hX.trans hX2).trans hX3
  rw [World.size_alloc] at hO hR
  rw [World.size_alloc] at hR
  have hck := Lib.hid (check_any _ m _ (Hv.out.ext hE))
  have Hr := Lib.hid hr
  clear h2 h3 h4 h5 h6 h7 g3 hX hX2 hX3 hr
  obtain ⟨k0, k1, k2⟩ := hM.c3
  go_enter Try.func49, Try.ntmps49
  go_wp2_with fail
  generalize ((w.alloc _).alloc _).alloc _ = W1 at *
  refine hck.out.mono ?_
  rintro e w2 ⟨rfl, he2⟩
  have hE := hE.trans he2; have hM := hM.ext he2; have hO := hO.ext he2; have hR := hR.ext he2
  clear hck he2 k0 k1 k2
  -- a way out without a mill
  have hzero : ∀ w3, Blk w3 (w.heap.size + 1 + 1) 25 #[.slice none 0 0, .int .i64 0, .slice none 0 0] → Ext w w3 → Blk (((w3.setCell ⟨w.heap.size + 1 + 1, 0, none⟩ (.slice none 0 0)).setCell ⟨w.heap.size + 1 + 1, 1, none⟩ (.int .i64 0)).setCell ⟨w.heap.size + 1 + 1, 2, none⟩ (.slice none 0 0)) (w.heap.size + 1 + 1) 25 #[.slice none 0 0, .int .i64 0, .slice none 0 0] ∧
      Ext w (((w3.setCell ⟨w.heap.size + 1 + 1, 0, none⟩ (.slice none 0 0)).setCell ⟨w.heap.size + 1 + 1, 1, none⟩ (.int .i64 0)).setCell ⟨w.heap.size + 1 + 1, 2, none⟩ (.slice none 0 0)) := fun w3 hb he =>
    ⟨((hb.set_ 0 _).set_ 1 _).set_ 2 _, Below.setCell (Below.setCell (Below.setCell he (by show _ ≤ w.heap.size + 1 + 1; omega) _) (by show _ ≤ w.heap.size + 1 + 1; omega) _) (by show _ ≤ w.heap.size + 1 + 1; omega) _⟩
  have Hzero := Lib.hid hzero
  clear hzero
  obtain ⟨e0, he0⟩ : ∃ e0, checkE m = e0 := ⟨_, rfl⟩
  rw [he0]
  have He0 := Lib.hid he0
  clear he0
  by_cases hc0 : e0 = 0
  · subst hc0
    have hok := Lib.hid ((check_iff m).1 He0.out)
    have l3 := hok.out.few
    obtain ⟨k0, k1, k2⟩ := hM.c3
    by_cases h7 : m.orders.length = 7
    · have hr9 : r = 9 := by rw [← Hr.out]; unfold takeE; rw [if_pos He0.out, if_pos h7]
      have hd : ((m.orders.length : Int) == 7) = true := by rw [beq_iff_eq]; omega
      subst hr9
      clear h7
      have f0 := hR.frozen 0; have f1 := hR.frozen 1; have f2 := hR.frozen 2
      obtain ⟨v0, v1, v2⟩ := hR.c3
      go_wp2_with fail
      obtain ⟨q0, q1⟩ := Hzero.out w2 hR hE
      clear v0 v1 v2 f0 f1 f2 k0 k1 k2
      obtain ⟨v0, v1, v2⟩ := q0.c3
      refine bodyPost_ret (v := .tuple #[.agg #[.slice none 0 0, .int .i64 0, .slice none 0 0], .int .i64 9]) ?_ rfl ⟨_, rfl, TakeRes.zero (by decide), q1⟩
      simp [results, Try.results49, go_sem, v0, v1, v2]
    · have hr1 : r = checkE (m.more o) := by rw [← Hr.out]; unfold takeE; rw [if_pos He0.out, if_neg h7]
      have hd : ((m.orders.length : Int) == 7) = false := by rw [beq_eq_false_iff_ne]; omega
      have how := Lib.hid (owned_any _ m hok.out w2 (Hv.out.ext hE))
      have Hr1 := Lib.hid hr1
      clear h7 hr1
      go_wp2_with fail
      refine how.out.mono ?_
      rintro e w3 ⟨a, b, rfl, ha, hb, he3⟩
      have hOlt := hO.lt
      have ha := ha.mono hE.size
      obtain ⟨Aa, ca, rfl, _, _, _, _, _⟩ := ha.open_
      obtain ⟨Ab, cb, rfl, _, _, _⟩ := hb.ords
      have hE := hE.trans he3; have hM := hM.ext he3; have hO := hO.ext he3; have hR := hR.ext he3
      have hsz2 : w.heap.size ≤ w2.heap.size := by omega
      have hsz3 := he3.size
      clear how he3 k0 k1 k2 hM
      have hX := Ext.alloc w3 (.cells #[.slice Aa m.laced.length ca, .int .i64 m.change, .slice Ab m.orders.length cb] 25)
      have hU := Blk.new w3 25 #[.slice Aa m.laced.length ca, .int .i64 m.change, .slice Ab m.orders.length cb]
      have hcl := Lib.hid (cloneI A3 c3 o.on _ (by omega) (G3.out.ext (hE.trans hX)))
      have hRlt := hR.lt
      have hO4 := hO.ext hX; have hR4 := hR.ext hX; have hE4 := hE.trans hX
      have Ha := Lib.hid (ha.ext hX); have Hb := Lib.hid (hb.ext hX)
      obtain ⟨k0, k1, k2, k3⟩ := hO4.c4
      clear ha hb hO hR hE
      go_wp2_with fail
      obtain ⟨U, hUe⟩ : ∃ U, w3.heap.size = U := ⟨_, rfl⟩
      rw [hUe] at hU hRlt hsz3 ⊢
      generalize w3.alloc _ = W4 at *
      refine hcl.out.mono ?_
      rintro e w5 ⟨cv, rfl, hcv, he5⟩
      obtain ⟨Ac, cc, rfl, _, _, _, _, _⟩ := hcv.open_
      have hcv := hcv.mono (by have := hE4.size; have := hX.size; omega : w2.heap.size ≤ _)
      have hO5 := hO4.ext he5; have hR5 := hR4.ext he5; have hE5 := hE4.trans he5; have hU5 := hU.ext he5
      have Ha := Lib.hid (Ha.out.ext he5); have Hb := Lib.hid (Hb.out.ext he5); have Hcv := Lib.hid hcv
      have hUR : w.heap.size + 1 + 1 ≠ U := by omega
      have hUO : w.heap.size + 1 ≠ U := by omega
      have hUg : w.heap.size ≤ U := by omega
      clear hcl he5 hcv k0 k1 k2 k3 hO4 hR4 hE4 hU hX hUe
      obtain ⟨k0, k1, k2, k3⟩ := hO5.c4
      have f3 := hO5.frozen 3
      -- the store of the copied list
      have hO6 := hO5.set_ 3 (.slice Ac o.on.length cc)
      have hO6 : Blk (w5.setCell ⟨w.heap.size + 1, 3, none⟩ (.slice Ac o.on.length cc)) (w.heap.size + 1) 78 #[.int .i64 o.pattern, .int .i64 o.days, .int .i64 o.by_, .slice Ac o.on.length cc] := hO6
      have hU6 := hU5.far (p := ⟨w.heap.size + 1, 3, none⟩) (by show U ≠ w.heap.size + 1; omega) (.slice Ac o.on.length cc)
      have hR6 := hR5.far (p := ⟨w.heap.size + 1, 3, none⟩) (by show w.heap.size + 1 + 1 ≠ w.heap.size + 1; omega) (.slice Ac o.on.length cc)
      have hE6 : Ext w (w5.setCell ⟨w.heap.size + 1, 3, none⟩ (.slice Ac o.on.length cc)) := Below.setCell hE5 (p := ⟨w.heap.size + 1, 3, none⟩) (by show w.heap.size ≤ w.heap.size + 1; omega) (.slice Ac o.on.length cc)
      have Ha6 := Lib.hid (Ha.out.far hO5 (by decide) 3 (.slice Ac o.on.length cc))
      have Hb6 := Lib.hid (Hb.out.far hO5 (by decide) (.inr hOlt) 3 (.slice Ac o.on.length cc))
      have Hcv6 := Lib.hid (Hcv.out.far hO5 (by decide) 3 (.slice Ac o.on.length cc))
      obtain ⟨W6, hW6⟩ : ∃ W6, w5.setCell ⟨w.heap.size + 1, 3, none⟩ (.slice Ac o.on.length cc) = W6 := ⟨_, rfl⟩
      go_upto_region 8 with fail
      rw [hW6] at hO6 hU6 hR6 hE6 Ha6 Hb6 Hcv6
      clear hW6 k0 k1 k2 k3 f3 hO5 hU5 hR5 hE5 Ha Hb Hcv
      obtain ⟨cs, o1, o2⟩ := Hb6.out
      have hX9 := Ext.alloc W6 (.cells #[.int .i64 o.pattern, .int .i64 o.days, .int .i64 o.by_, .slice Ac o.on.length cc] 78)
      have hsrc := Src.list W6 [.int .i64 o.pattern, .int .i64 o.days, .int .i64 o.by_, .slice Ac o.on.length cc] 78
      have o1x := ownsRow_ext2 o1 hX9
      have hU9 := hU6.ext hX9; have hR9 := hR6.ext hX9; have hE9 := hE6.trans hX9
      have hsz9 := hE9.size
      have hsz6 : w2.heap.size ≤ (W6.alloc (.cells #[.int .i64 o.pattern, .int .i64 o.days, .int .i64 o.by_, .slice Ac o.on.length cc] 78)).heap.size := by have := hU9.lt; omega
      have hpO : ∀ v' w12, w12.ownsRow w2.heap.size 78 4 v' (m.orders.length + 1) (cs ++ [.int .i64 o.pattern, .int .i64 o.days, .int .i64 o.by_, .slice Ac o.on.length cc]) → (W6.alloc (.cells #[.int .i64 o.pattern, .int .i64 o.days, .int .i64 o.by_, .slice Ac o.on.length cc] 78)).grownBy w12 (Value.slice Ab m.orders.length cb).ownBlock →
          Blk w12 U 25 #[.slice Aa m.laced.length ca, .int .i64 m.change, .slice Ab m.orders.length cb] ∧ Blk (w12.setCell ⟨U, 2, none⟩ v') U 25 #[.slice Aa m.laced.length ca, .int .i64 m.change, v'] ∧ Blk (w12.setCell ⟨U, 2, none⟩ v') (w.heap.size + 1 + 1) 25 #[.slice none 0 0, .int .i64 0, .slice none 0 0] ∧
          Ext w (w12.setCell ⟨U, 2, none⟩ v') ∧ Hid (OwnI (w12.setCell ⟨U, 2, none⟩ v') w.heap.size 3 (.slice Aa m.laced.length ca) m.laced ∧ OwnOB (w12.setCell ⟨U, 2, none⟩ v') w.heap.size v' (m.orders ++ [o])) := by
        intro v' w12 hown hg
        have hge := fun j hj => (ownsRow_own o1x j hj).1
        have hU12 := hU9.grown hg (ownsRow_ne_blk o1x hU9 (by decide))
        have hR12 := hR9.grown hg (ownsRow_ne_blk o1x hR9 (by decide))
        have hob : OwnOB w12 w2.heap.size v' (m.orders ++ [o]) := OwnOB.push o1x (o2.map fun _ _ g => g.ext hX9) (Hcv6.out.ext hX9) hown hg
        have hob' : OwnOB w12 w.heap.size v' (m.orders ++ [o]) := by
          obtain ⟨cs', p1, p2⟩ := hob
          exact ⟨cs', ownsRow_mono p1 hsz2, p2.map fun _ _ g => g.mono hsz2⟩
        refine ⟨hU12, by simpa using hU12.set_ 2 v', hR12.far (by show w.heap.size + 1 + 1 ≠ U; omega) _, Below.setCell (Below.grown hE9 hg hsz9 (fun j hj => by have := hge j hj; omega)) hUg _, ((Ha6.out.ext hX9).grownT (by decide) hg o1x).far hU12 (by decide) 2 v', hob'.far hU12 (by decide) (.inl (by decide)) 2 v'⟩
      have HpO := Lib.hid hpO
      clear hpO o1 o2 hU9 hR9 hE9 Hb6 Ha6 Hcv6
      obtain ⟨j0, j1, j2, j3⟩ := hO6.c4
      obtain ⟨k0, k1, k2⟩ := hU6.c3
      go_wp2_with (at_builtin; refine wpList_app rfl _ _ 23 rfl w2.heap.size 78 ti _ 4 48 Try.underlying23 hi hz0 hz1 hz2 rfl (by decide) (.slice Ab m.orders.length cb) m.orders.length cs rfl o1x (some ⟨W6.heap.size, 0, none⟩) 1 1 [.int .i64 o.pattern, .int .i64 o.days, .int .i64 o.by_, .slice Ac o.on.length cc] rfl rfl hsrc ?c2 ?c3 ?c4 ?c5 ?_; (case c2 => (intro u hu; simp only [List.mem_cons, List.not_mem_nil, or_false] at hu; rcases hu with rfl | rfl | rfl | rfl <;> rfl)); (case c3 => (unfold maxLen; omega)); (case c4 => omega); (case c5 => exact hsz6); intro v' w12 hown hg hblk; obtain ⟨q0, q1, q2, q3, q4⟩ := HpO.out v' w12 hown hg; obtain ⟨A9, c9, rfl⟩ := ownsRow_slice hown; obtain ⟨z0, z1, z2⟩ := q0.c3; have zf := q0.frozen 2; obtain ⟨y0, y1, y2⟩ := q1.c3; clear hsrc)
      generalize w12.setCell ⟨U, 2, none⟩ (.slice A9 (m.orders.length + 1) c9) = W13 at *
      have hck := check_any _ (m.more o) W13 (MillVal.ofOB (m := m.more o) q4.out.1 q4.out.2)
      rw [← Hr1.out] at hck
      have Hck := Lib.hid hck
      have Q4 := Lib.hid q4.out
      clear hck q4 z0 z1 z2 zf HpO j0 j1 j2 j3 k0 k1 k2 q0 hO6 hU6 hR6 hE6 o1x hX9 hown hg hblk y0 y1 y2
      obtain ⟨y0, y1, y2⟩ := q1.c3
      refine Hck.out.mono ?_
      rintro e w14 ⟨rfl, he14⟩
      have hR14 := q2.ext he14; have hU14 := q1.ext he14; have hE14 := q3.trans he14
      have Q5 : Hid (OwnI w14 w.heap.size 3 (.slice Aa m.laced.length ca) m.laced ∧ OwnOB w14 w.heap.size (.slice A9 (m.orders.length + 1) c9) (m.orders ++ [o])) := ⟨Q4.out.1.ext he14, Q4.out.2.ext he14⟩
      clear Hck y0 y1 y2 q1 q2 q3 Q4 he14
      have f0 := hR14.frozen 0; have f1 := hR14.frozen 1; have f2 := hR14.frozen 2
      obtain ⟨v0, v1, v2⟩ := hR14.c3
      by_cases hr0 : r = 0
      · subst hr0
        obtain ⟨k0, k1, k2⟩ := hU14.c3
        go_wp2_with fail
        generalize hWf : ((w14.setCell _ _).setCell _ _).setCell _ _ = Wf
        have hbf : Blk Wf (w.heap.size + 1 + 1) 25 #[.slice Aa m.laced.length ca, .int .i64 m.change, .slice A9 (m.orders.length + 1) c9] := by
          rw [← hWf]; exact ((hR14.set_ 0 _).set_ 1 _).set_ 2 _
        have hIf : OwnI Wf w.heap.size 3 (.slice Aa m.laced.length ca) m.laced := by
          rw [← hWf]; exact (((Q5.out.1.far hR14 (by decide) _ _).far (hR14.set_ 0 _) (by decide) _ _).far ((hR14.set_ 0 _).set_ 1 _) (by decide) _ _)
        have hOf : OwnOB Wf w.heap.size (.slice A9 (m.orders.length + 1) c9) (m.orders ++ [o]) := by
          rw [← hWf]; exact (((Q5.out.2.far hR14 (by decide) (.inl (by decide)) _ _).far (hR14.set_ 0 _) (by decide) (.inl (by decide)) _ _).far ((hR14.set_ 0 _).set_ 1 _) (by decide) (.inl (by decide)) _ _)
        have hXf : Ext w Wf := by
          rw [← hWf]
          exact Below.setCell (Below.setCell (Below.setCell hE14 (by show _ ≤ w.heap.size + 1 + 1; omega) _) (by show _ ≤ w.heap.size + 1 + 1; omega) _) (by show _ ≤ w.heap.size + 1 + 1; omega) _
        clear hWf v0 v1 v2 f0 f1 f2
        obtain ⟨v0, v1, v2⟩ := hbf.c3
        refine bodyPost_ret (v := .tuple #[.agg #[.slice Aa m.laced.length ca, .int .i64 m.change, .slice A9 (m.orders.length + 1) c9], .int .i64 0]) ?_ rfl ⟨_, rfl, .inl ⟨rfl, _, _, rfl, hIf, hOf⟩, hXf⟩
        simp [results, Try.results49, go_sem, v0, v1, v2]
      · have hd2 : (r != 0) = true := by simpa using hr0
        have Hr0 := Lib.hid hr0
        clear hr0
        go_wp2_with fail
        obtain ⟨q0, q1⟩ := Hzero.out w14 hR14 hE14
        clear v0 v1 v2 f0 f1 f2
        obtain ⟨v0, v1, v2⟩ := q0.c3
        refine bodyPost_ret (v := .tuple #[.agg #[.slice none 0 0, .int .i64 0, .slice none 0 0], .int .i64 r]) ?_ rfl ⟨_, rfl, TakeRes.zero Hr0.out, q1⟩
        simp [results, Try.results49, go_sem, v0, v1, v2]
  · have hr1 : r = e0 := by rw [← Hr.out]; unfold takeE; rw [if_neg (by rw [He0.out]; exact hc0)]; exact He0.out
    subst hr1
    have hd : (r != 0) = true := by simpa using hc0
    have Hc0 := Lib.hid hc0
    clear hc0
    have f0 := hR.frozen 0; have f1 := hR.frozen 1; have f2 := hR.frozen 2
    obtain ⟨v0, v1, v2⟩ := hR.c3
    go_wp2_with fail
    obtain ⟨q0, q1⟩ := Hzero.out w2 hR hE
    clear v0 v1 v2 f0 f1 f2
    obtain ⟨v0, v1, v2⟩ := q0.c3
    refine bodyPost_ret (v := .tuple #[.agg #[.slice none 0 0, .int .i64 0, .slice none 0 0], .int .i64 r]) ?_ rfl ⟨_, rfl, TakeRes.zero Hc0.out, q1⟩
    simp [results, Try.results49, go_sem, v0, v1, v2]
end Go.Proofs.Pet
