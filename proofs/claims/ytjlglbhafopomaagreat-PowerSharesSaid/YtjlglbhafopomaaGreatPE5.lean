/-
  The reference's mill made of power's: theirs, walked.
-/
import Derived.Test.YtjlglbhafopomaaGreatPE4
import Derived.Test.YtjlglbhafopomaaGreatPD9
namespace Go.Proofs.Pet
open Go Go.RowKit Go.Maps Go.Shelf
open Go.Proofs.Pow (PM Sh Wv POk Up)

theorem info_shaft7 : (Tryz.prog.info? 103).map (fun i => (i.zero, i.size, i.bytes)) = some (some (.agg #[.int .i64 0, .int .i64 0]), 2, 16) := by kernel_rfl
theorem info_weaver7 : (Tryz.prog.info? 104).map (fun i => (i.zero, i.size, i.bytes)) = some (some (.agg #[.int .i64 0, .slice none 0 0]), 2, 32) := by kernel_rfl
section
variable {w w' w0 : World} {base base' b : Nat} {e e1 : TypeId} {v u : Value} {xs : List Sh} {ys : List Wv} {cs : List Value}
theorem ownsRow_grownT {size n size1 n1 : Nat} {vs vs1 : List Value} (h : w.ownsRow base e1 size1 u n1 vs1) (hne : e ≠ e1) (hg : w.grownBy w' v.ownBlock) (hv : w.ownsRow base' e size v n vs) : w'.ownsRow base e1 size1 u n1 vs1 := by
  obtain ⟨h1, h2⟩ := h
  refine ⟨h1, ?_⟩
  rcases h2 with h2 | ⟨g, cap, cur, rfl, hg1, hb, r⟩
  · exact .inl h2
  · refine .inr ⟨g, cap, cur, rfl, hg1, ?_, r⟩
    rw [← hb]
    refine hg.block g (Array.getElem?_eq_some_iff.1 hb).1 fun e' => ?_
    exact ownsRow_ne_blk hv (show Blk w g e1 cur from hb) (fun h => hne h.symm) e'
theorem shRow_at (h : w.ownsRow base e 2 v xs.length (shFlat xs)) : ∃ A c, v = .slice A xs.length c ∧ xs.length ≤ c ∧ c ≤ maxLen ∧ ShsAt w A xs := by
  rcases h.2 with ⟨rfl, h0⟩ | ⟨g, cap, cur, rfl, hg, hb, hn, hm, hs, hc⟩
  · have : xs = [] := List.length_eq_zero_iff.1 h0
    subst this
    exact ⟨none, 0, rfl, Nat.le_refl _, by unfold maxLen; omega, fun k hk => by simp at hk⟩
  · refine ⟨_, cap, rfl, hn, hm, fun k hk => ⟨g, 0, rfl, ?_⟩⟩
    obtain ⟨g1, g2⟩ := shFlat_at xs k hk
    rw [← hc, List.getElem?_take, if_pos (by omega), Array.getElem?_toList] at g1 g2
    have hB : Blk w g e cur := hb
    refine ⟨?_, ?_⟩
    · rw [Nat.zero_add, hB.cell]; exact g1
    · rw [Nat.zero_add, hB.cell]; exact g2
theorem wvRow_at (h : w.ownsRow base e 2 v ys.length cs) (h2 : WvF (rdW w) cs ys) : ∃ A c, v = .slice A ys.length c ∧ ys.length ≤ c ∧ c ≤ maxLen ∧ WvsAt w A ys := by
  rcases h.2 with ⟨rfl, h0⟩ | ⟨g, cap, cur, rfl, hg, hb, hn, hm, hs, hc⟩
  · have : ys = [] := List.length_eq_zero_iff.1 h0
    subst this
    exact ⟨none, 0, rfl, Nat.le_refl _, by unfold maxLen; omega, fun k hk => by simp at hk⟩
  · refine ⟨_, cap, rfl, hn, hm, fun k hk => ⟨g, 0, rfl, ?_⟩⟩
    obtain ⟨g1, u, g2, A, c, rfl, r1, r2, r3⟩ := h2.at_ k hk
    rw [← hc, List.getElem?_take, if_pos (by omega), Array.getElem?_toList] at g1 g2
    have hB : Blk w g e cur := hb
    refine ⟨A, c, ⟨r1, r2⟩, ?_, ?_, r3⟩
    · rw [Nat.zero_add, hB.cell]; exact g1
    · rw [Nat.zero_add, hB.cell]; exact g2
/-- the reference's mill: rows of the call's own, the hours those of the given mill -/
def TheirM (w0 w : World) (base : Nat) (v : Value) (m : PM) : Prop := ∃ s1 s2 cs, v = .agg #[s1, s2] ∧ w.ownsRow base 103 2 s1 m.shafts.length (shFlat m.shafts) ∧ w.ownsRow base 104 2 s2 m.wvs.length cs ∧ WvF (rdW w0) cs m.wvs
theorem TheirM.ext {m : PM} (h : TheirM w0 w base v m) (he : Ext w w') : TheirM w0 w' base v m := by
  obtain ⟨s1, s2, cs, e, h1, h2, h3⟩ := h
  exact ⟨s1, s2, cs, e, ownsRow_ext2 h1 he, ownsRow_ext2 h2 he, h3⟩
theorem TheirM.apart {m : PM} {t : TypeId} {c : Array Value} (h : TheirM w0 w base v m) (hb : Blk w b t c) (n1 : t ≠ 103) (n2 : t ≠ 104) (ha : Apart b w w') : TheirM w0 w' base v m := by
  obtain ⟨s1, s2, cs, e, h1, h2, h3⟩ := h
  exact ⟨s1, s2, cs, e, ownsRow_apart h1 (fun e => ownsRow_ne_blk h1 hb n1 e.symm) ha, ownsRow_apart h2 (fun e => ownsRow_ne_blk h2 hb n2 e.symm) ha, h3⟩
theorem TheirM.mono {m : PM} (h : TheirM w0 w base v m) (hb : base' ≤ base) : TheirM w0 w base' v m := by
  obtain ⟨s1, s2, cs, e, h1, h2, h3⟩ := h
  exact ⟨s1, s2, cs, e, ownsRow_mono h1 hb, ownsRow_mono h2 hb, h3⟩
theorem TheirM.val {m : PM} (h : TheirM w0 w base v m) (he : Ext w0 w) : PMVal w v m := by
  obtain ⟨s1, s2, cs, e, h1, h2, h3⟩ := h
  obtain ⟨A1, c1, e1, g1, g2, g3⟩ := shRow_at h1
  obtain ⟨A2, c2, e2, g4, g5, g6⟩ := wvRow_at h2 (h3.map fun _ _ g => SlI.ext g he)
  exact ⟨A1, c1, A2, c2, by rw [e, e1, e2], g1, g2, g4, g5, g3, g6⟩
end
set_option maxRecDepth 20000 in
set_option maxHeartbeats 4000000 in
theorem theirs7_any (v : Value) (m : PM) (w0 w : World) (h0 : Ext w0 w) (hv : PMVal w0 v m) (hn1 : m.shafts.length ≤ 1000) (hn2 : m.wvs.length ≤ 1000) :
    Calls Tryz.prog 33 #[v] w fun e w' => ∃ v', e = .returned v' ∧ TheirM w0 w' w.heap.size v' m ∧ Ext w w' := by
  have H0 := Lib.hid h0
  obtain ⟨ti, hi, hz0, hz1, hz2⟩ := info_parts info_shaft7
  obtain ⟨ti2, hi2, hy0, hy1, hy2⟩ := info_parts info_weaver7
  obtain ⟨A1, c1, A2, c2, rfl, h2, h3, h4, h5, h6, h7⟩ := hv
  have H6 := Lib.hid h6; have H7 := Lib.hid h7; clear h6 h7 h2 h3 h4 h5
  have hE1 : Ext w (((w.alloc (.cells #[.slice A1 m.shafts.length c1, .slice A2 m.wvs.length c2] 26)).alloc (.cells #[.slice none 0 0, .slice none 0 0] 54)).alloc (.cells #[.slice none 0 0, .slice none 0 0] 54)) := ((Ext.alloc _ _).trans (Ext.alloc _ _)).trans (Ext.alloc _ _)
  have hM1 := ((Blk.new w 26 #[.slice A1 m.shafts.length c1, .slice A2 m.wvs.length c2]).alloc (.cells #[.slice none 0 0, .slice none 0 0] 54)).alloc (.cells #[.slice none 0 0, .slice none 0 0] 54)
  have hT1 := (Blk.new (w.alloc (.cells #[.slice A1 m.shafts.length c1, .slice A2 m.wvs.length c2] 26)) 54 #[.slice none 0 0, .slice none 0 0]).alloc (.cells #[.slice none 0 0, .slice none 0 0] 54)
  have hO1 := Blk.new ((w.alloc (.cells #[.slice A1 m.shafts.length c1, .slice A2 m.wvs.length c2] 26)).alloc (.cells #[.slice none 0 0, .slice none 0 0] 54)) 54 #[.slice none 0 0, .slice none 0 0]
  rw [World.size_alloc] at hT1
  rw [World.size_alloc, World.size_alloc] at hO1
  obtain ⟨k0, k1⟩ := hM1.c2
  go_enter Tryz.func33, Tryz.ntmps33
  go_wp2_with fail
  clear k0 k1
  generalize ((w.alloc _).alloc _).alloc _ = W at *
  have hO1' : Blk W (w.heap.size + 2) 54 #[.slice none 0 0, .slice none 0 0] := hO1
  have e2 : w.heap.size + 1 + 1 = w.heap.size + 2 := rfl
  rw [e2]
  clear hO1
  go_loopw [11] (fun iv wr => ∃ (k : Nat) (ov : Value), k ≤ m.shafts.length ∧ iv = .int .i64 k ∧ Ext w wr ∧ Blk wr w.heap.size 26 #[.slice A1 m.shafts.length c1, .slice A2 m.wvs.length c2] ∧
      Blk wr (w.heap.size + 1) 54 #[.slice none 0 0, .slice none 0 0] ∧ Blk wr (w.heap.size + 2) 54 #[ov, .slice none 0 0] ∧
      Hid (wr.ownsRow (w.heap.size + 3) 103 2 ov k (shFlat (m.shafts.take k)))) (fun iv _ => m.shafts.length - (intOf iv).toNat)
  case atStart => exact ⟨0, .slice none 0 0, by omega, rfl, hE1, hM1, hT1, hO1', World.ownsRow_nil _ _ _ _⟩
  case round =>
    clear hE1 hM1 hT1 hO1'
    obtain ⟨k, ov, hk, rfl, he, hM, hT, hO, hown⟩ := hrel
    have hOlt := hO.lt
    by_cases hlt : k < m.shafts.length
    · obtain ⟨b, o, rfl, p1, p2⟩ := H6.out.ext (H0.out.trans he) k hlt
      have htk : Hid (shFlat (m.shafts.take (k + 1)) = shFlat (m.shafts.take k) ++ [.int .i64 (m.sh k).up, .int .i64 (m.sh k).price]) := by
        unfold Hid; rw [List.take_succ_eq_append_getElem hlt, shFlat_append]
        have : m.sh k = m.shafts[k] := by unfold PM.sh; rw [List.getElem?_eq_getElem hlt]; rfl
        rw [this]; rfl
      rw [show m.shafts[k]?.getD default = m.sh k from rfl] at p1 p2
      generalize (m.sh k).up = xu at *
      generalize (m.sh k).price = xp at *
      obtain ⟨AO, cO, rfl⟩ := ownsRow_slice hown.out
      have hb5 := Blk.new wr 105 #[.int .i64 xu, .int .i64 xp]
      have hX := Ext.alloc wr (.cells #[.int .i64 xu, .int .i64 xp] 105)
      have hOX := hO.ext hX
      obtain ⟨q0, q1⟩ := hb5.c2
      have r2 := hOX.c2.1
      have hge : Hid (∀ j, (Value.slice AO k cO).ownBlock = some j → w.heap.size + 3 ≤ j) := fun j hj => (ownsRow_own hown.out j hj).1
      have hrow2 : Hid (((wr.alloc (.cells #[.int .i64 xu, .int .i64 xp] 105)).alloc (.cells #[.int .i64 xu, .int .i64 xp] 103)).ownsRow (w.heap.size + 3) 103 2 (.slice AO k cO) k (shFlat (m.shafts.take k))) := (hown.out.alloc _).alloc _
      have hsrc : Hid (Src ((wr.alloc (.cells #[.int .i64 xu, .int .i64 xp] 105)).alloc (.cells #[.int .i64 xu, .int .i64 xp] 103)) (some ⟨wr.heap.size + 1, 0, none⟩) [.int .i64 xu, .int .i64 xp]) := by
        have := Src.listP (wr.alloc (.cells #[.int .i64 xu, .int .i64 xp] 105)) [.int .i64 xu, .int .i64 xp] 103
        rw [World.size_alloc] at this
        exact this
      have hOXX := hOX.alloc (.cells #[.int .i64 xu, .int .i64 xp] 103)
      have hONe := Lib.hid (ownsRow_ne_blk hrow2.out hOXX (by decide))
      go_wp2_with (at_builtin; refine wpList_app rfl _ _ 51 rfl (w.heap.size + 3) 103 ti _ 2 16 Tryz.underlying51 hi hz0 hz1 hz2 rfl (by decide) _ _ _ rfl hrow2.out (some ⟨wr.heap.size + 1, 0, none⟩) 1 1 [.int .i64 xu, .int .i64 xp] rfl rfl hsrc.out ?c2 ?c3 ?c4 ?c5 ?_; (case c2 => (intro u hu; simp only [List.mem_cons, List.not_mem_nil, or_false] at hu; rcases hu with rfl | rfl <;> rfl)); (case c3 => (unfold maxLen; omega)); (case c4 => omega); (case c5 => (simp; omega)); intro v' w' hown' hg hblk; obtain ⟨AV, cV, rfl⟩ := ownsRow_slice hown'; have hOw := hOXX.grown hg hONe.out; have rW := hOw.c2.1; have fW := hOw.frozen 0)
      go_roundw
      case rel =>
        have hXX := hX.trans (Ext.alloc (wr.alloc (.cells #[.int .i64 xu, .int .i64 xp] 105)) (.cells #[.int .i64 xu, .int .i64 xp] 103))
        have hMw := (hM.ext hXX).grown hg (ownsRow_ne_blk hrow2.out (hM.ext hXX) (by decide))
        have hTw := (hT.ext hXX).grown hg (ownsRow_ne_blk hrow2.out (hT.ext hXX) (by decide))
        have hsz := (he.trans hXX).size
        have hew : Ext w w' := Below.grown (he.trans hXX) hg hsz (fun j hj => by have := hge.out j hj; omega)
        refine ⟨k + 1, _, by omega, by go_num, Below.setCell hew (by show _ ≤ w.heap.size + 2; omega) _, hMw.far (by show _ ≠ w.heap.size + 2; omega) _, hTw.far (by show _ ≠ w.heap.size + 2; omega) _, by simpa using hOw.set_ 0 (.slice AV (k + 1) cV), ?_⟩
        unfold Hid
        rw [htk.out]
        exact ownsRow_apart hown' (fun e => ownsRow_ne_blk hown' hOw (by decide) e.symm) ((Apart.refl (w.heap.size + 2) w').set_ 0 _)
      case measure => simp [intOf]; omega
    · obtain rfl : k = m.shafts.length := by omega
      have hown2 := hown.out
      rw [List.take_length] at hown2
      obtain ⟨k0, k1⟩ := hM.c2
      have Hown := Lib.hid hown2
      clear hown hown2
      go_wp2_with fail
      clear k0 k1
      obtain ⟨ss, hss⟩ : ∃ z, z = ov := ⟨_, rfl⟩
      rw [← hss] at hO Hown
      obtain ⟨W, hW⟩ : ∃ z, z = wr := ⟨_, rfl⟩
      rw [← hW] at he hM hT hO Hown ⊢
      clear hW hss hk hlt hOlt
      go_loopw [25] (fun iv wr => ∃ (k : Nat) (ov : Value) (cs : List Value), k ≤ m.wvs.length ∧ iv = .int .i64 k ∧ Ext w wr ∧ Blk wr w.heap.size 26 #[.slice A1 m.shafts.length c1, .slice A2 m.wvs.length c2] ∧
          Blk wr (w.heap.size + 1) 54 #[.slice none 0 0, .slice none 0 0] ∧ Blk wr (w.heap.size + 2) 54 #[ss, ov] ∧
          Hid (wr.ownsRow (w.heap.size + 3) 103 2 ss m.shafts.length (shFlat m.shafts)) ∧ Hid (wr.ownsRow (w.heap.size + 3) 104 2 ov k cs) ∧ Hid (WvF (rdW w0) cs (m.wvs.take k))) (fun iv _ => m.wvs.length - (intOf iv).toNat)
      case atStart => exact ⟨0, .slice none 0 0, [], by omega, rfl, he, hM, hT, hO, Hown, World.ownsRow_nil _ _ _ _, trivial⟩
      case round =>
        clear he hM hT hO Hown
        obtain ⟨k, ov, cs, hk, rfl, he, hM, hT, hO, hsh, hown, hcs⟩ := hrel
        have hOlt := hO.lt
        by_cases hlt : k < m.wvs.length
        · obtain ⟨b, o, rfl, A3, c3, hc3, p1, p2, -⟩ := H7.out.ext (H0.out.trans he) k hlt
          obtain ⟨b', o', e', A3', c3', hc3', -, p2', p3'⟩ := H7.out k hlt
          simp only [Option.some.injEq, Addr.mk.injEq, and_true] at e'
          obtain ⟨rfl, rfl⟩ := e'
          have hA : A3' = A3 ∧ c3' = c3 := by
            have h1 := (H0.out.trans he).cell p2'
            rw [p2] at h1
            simp only [Option.some.injEq, Value.slice.injEq] at h1
            exact ⟨h1.1.symm, h1.2.2.symm⟩
          obtain ⟨rfl, rfl⟩ := hA
          rw [show m.wvs[k]?.getD default = m.wv k from rfl] at p1 p2 p3' hc3
          have htk : Hid (m.wvs.take (k + 1) = m.wvs.take k ++ [m.wv k]) := by
            unfold Hid; rw [List.take_succ_eq_append_getElem hlt]
            have : m.wv k = m.wvs[k] := by unfold PM.wv; rw [List.getElem?_eq_getElem hlt]; rfl
            rw [this]
          have Hp5 := Lib.hid p3'
          have Hc3 := Lib.hid hc3
          clear p2' p3' hc3' hc3
          generalize m.wv k = x0 at *
          obtain ⟨AO, cO, rfl⟩ := ownsRow_slice hown.out
          obtain ⟨xu, hxu⟩ : ∃ z, x0.shaft = z := ⟨_, rfl⟩
          obtain ⟨xl, hxl⟩ : ∃ z, x0.hours.length = z := ⟨_, rfl⟩
          rw [hxu] at p1
          rw [hxl] at p2
          have Hxu := Lib.hid hxu; have Hxl := Lib.hid hxl
          clear hxu hxl
          have hb5 := Blk.new wr 82 #[.int .i64 xu, .slice A3' xl c3']
          have hX := Ext.alloc wr (.cells #[.int .i64 xu, .slice A3' xl c3'] 82)
          have hOX := hO.ext hX
          obtain ⟨q0, q1⟩ := hb5.c2
          have r2 := hOX.c2.2
          have hge : Hid (∀ j, (Value.slice AO k cO).ownBlock = some j → w.heap.size + 3 ≤ j) := fun j hj => (ownsRow_own hown.out j hj).1
          have hrow2 : Hid (((wr.alloc (.cells #[.int .i64 xu, .slice A3' xl c3'] 82)).alloc (.cells #[.int .i64 xu, .slice A3' xl c3'] 104)).ownsRow (w.heap.size + 3) 104 2 (.slice AO k cO) k cs) := (hown.out.alloc _).alloc _
          have hsh2 : Hid (((wr.alloc (.cells #[.int .i64 xu, .slice A3' xl c3'] 82)).alloc (.cells #[.int .i64 xu, .slice A3' xl c3'] 104)).ownsRow (w.heap.size + 3) 103 2 ss m.shafts.length (shFlat m.shafts)) := (hsh.out.alloc _).alloc _
          have hsrc : Hid (Src ((wr.alloc (.cells #[.int .i64 xu, .slice A3' xl c3'] 82)).alloc (.cells #[.int .i64 xu, .slice A3' xl c3'] 104)) (some ⟨wr.heap.size + 1, 0, none⟩) [.int .i64 xu, .slice A3' xl c3']) := by
            have := Src.listP (wr.alloc (.cells #[.int .i64 xu, .slice A3' xl c3'] 82)) [.int .i64 xu, .slice A3' xl c3'] 104
            rw [World.size_alloc] at this
            exact this
          have hOXX := hOX.alloc (.cells #[.int .i64 xu, .slice A3' xl c3'] 104)
          have hONe := Lib.hid (ownsRow_ne_blk hrow2.out hOXX (by decide))
          go_wp2_with (at_builtin; refine wpList_app rfl _ _ 52 rfl (w.heap.size + 3) 104 ti2 _ 2 32 Tryz.underlying52 hi2 hy0 hy1 hy2 rfl (by decide) _ _ _ rfl hrow2.out (some ⟨wr.heap.size + 1, 0, none⟩) 1 1 [.int .i64 xu, .slice A3' xl c3'] rfl rfl hsrc.out ?c2 ?c3 ?c4 ?c5 ?_; (case c2 => (intro u hu; simp only [List.mem_cons, List.not_mem_nil, or_false] at hu; rcases hu with rfl | rfl <;> rfl)); (case c3 => (unfold maxLen; omega)); (case c4 => omega); (case c5 => (simp; omega)); intro v' w' hown' hg hblk; obtain ⟨AV, cV, rfl⟩ := ownsRow_slice hown'; have hOw := hOXX.grown hg hONe.out; have rW := hOw.c2.2; have fW := hOw.frozen 1)
          go_roundw
          case rel =>
            have hXX := hX.trans (Ext.alloc (wr.alloc (.cells #[.int .i64 xu, .slice A3' xl c3'] 82)) (.cells #[.int .i64 xu, .slice A3' xl c3'] 104))
            have hMw := (hM.ext hXX).grown hg (ownsRow_ne_blk hrow2.out (hM.ext hXX) (by decide))
            have hTw := (hT.ext hXX).grown hg (ownsRow_ne_blk hrow2.out (hT.ext hXX) (by decide))
            have hsz := (he.trans hXX).size
            have hew : Ext w w' := Below.grown (he.trans hXX) hg hsz (fun j hj => by have := hge.out j hj; omega)
            have hshw := ownsRow_grownT hsh2.out (by decide) hg hrow2.out
            have hap : Apart (w.heap.size + 2) w' (w'.setCell ⟨w.heap.size + 2, 1, none⟩ (.slice AV (k + 1) cV)) := (Apart.refl (w.heap.size + 2) w').set_ 1 _
            refine ⟨k + 1, _, cs ++ [.int .i64 xu, .slice A3' xl c3'], by omega, by go_num, Below.setCell hew (by show _ ≤ w.heap.size + 2; omega) _, hMw.far (by show _ ≠ w.heap.size + 2; omega) _, hTw.far (by show _ ≠ w.heap.size + 2; omega) _, by simpa using hOw.set_ 1 (.slice AV (k + 1) cV), ?_, ?_, ?_⟩
            · exact ownsRow_apart hshw (fun e => ownsRow_ne_blk hshw hOw (by decide) e.symm) hap
            · exact ownsRow_apart hown' (fun e => ownsRow_ne_blk hown' hOw (by decide) e.symm) hap
            · unfold Hid
              rw [htk.out]
              exact hcs.out.append ⟨by rw [Hxu.out], ⟨A3', c3', by rw [Hxl.out], Hc3.out.1, Hc3.out.2, Hp5.out⟩, trivial⟩
          case measure => simp [intOf]; omega
        · obtain rfl : k = m.wvs.length := by omega
          have hcs2 := hcs.out
          rw [List.take_length] at hcs2
          have Hcs := Lib.hid hcs2
          obtain ⟨q0, q1⟩ := hO.c2
          obtain ⟨y0, y1⟩ := hT.c2
          have f0 := hT.frozen 0
          have f1 := hT.frozen 1
          obtain ⟨AS, cS, rfl⟩ := ownsRow_slice hsh.out
          obtain ⟨AO, cO, rfl⟩ := ownsRow_slice hown.out
          clear hcs hcs2
          go_wp2_with fail
          have hap : Apart (w.heap.size + 1) wr ((wr.setCell ⟨w.heap.size + 1, 0, none⟩ (.slice AS m.shafts.length cS)).setCell ⟨w.heap.size + 1, 1, none⟩ (.slice AO m.wvs.length cO)) := ((Apart.refl _ wr).set_ 0 _).set_ 1 _
          have hR9 : Blk ((wr.setCell ⟨w.heap.size + 1, 0, none⟩ (.slice AS m.shafts.length cS)).setCell ⟨w.heap.size + 1, 1, none⟩ (.slice AO m.wvs.length cO)) (w.heap.size + 1) 54 #[.slice AS m.shafts.length cS, .slice AO m.wvs.length cO] := by simpa using (hT.set_ 0 (.slice AS m.shafts.length cS)).set_ 1 (.slice AO m.wvs.length cO)
          obtain ⟨z0, z1⟩ := hR9.c2
          have hE9 := Below.setCell (Below.setCell he (p := ⟨w.heap.size + 1, 0, none⟩) (by show _ ≤ w.heap.size + 1; omega) (.slice AS m.shafts.length cS)) (p := ⟨w.heap.size + 1, 1, none⟩) (by show _ ≤ w.heap.size + 1; omega) (.slice AO m.wvs.length cO)
          have h1 := ownsRow_mono (base' := w.heap.size) (ownsRow_apart hsh.out (fun e => ownsRow_ne_blk hsh.out hT (by decide) e.symm) hap) (by omega)
          have h2 := ownsRow_mono (base' := w.heap.size) (ownsRow_apart hown.out (fun e => ownsRow_ne_blk hown.out hT (by decide) e.symm) hap) (by omega)
          refine bodyPost_ret (v := .agg #[.slice AS m.shafts.length cS, .slice AO m.wvs.length cO]) ?_ rfl ⟨_, rfl, ⟨_, _, cs, rfl, h1, h2, Hcs.out⟩, hE9⟩
          simp [results, Tryz.results33, go_sem, z0, z1]
end Go.Proofs.Pet
