/-
  The reference's Made, walked.
-/
import Derived.Test.YtknokjnplbdmeaaGreatU9
namespace Go.Proofs.Pet
open Go Go.RowKit Go.Maps Go.Shelf

theorem info_slII : (Tryz.prog.info? 30).map (fun i => (i.zero, i.size, i.bytes)) = some (some (.slice none 0 0), 1, 24) := by kernel_rfl
theorem own_ge2 {w : World} {base n : Nat} {e : TypeId} {v : Value} {vs : List Value} (h : w.ownsRow base e 1 v n vs) (j : Nat) (hj : v.ownBlock = some j) : base ≤ j ∧ j < w.heap.size := by
  rcases h.2 with ⟨rfl, _⟩ | ⟨g, cap, cur, rfl, hg, hb, _⟩
  · cases hj
  · have : g = j := Option.some.inj hj
    subst this
    exact ⟨hg, (Array.getElem?_eq_some_iff.1 hb).1⟩
def OwnLen (v : Value) (n : Nat) : Prop := ∃ A c, v = .slice A n c ∧ n ≤ c
theorem own_shape {w : World} {base n : Nat} {e : TypeId} {v : Value} {vs : List Value} (h : w.ownsRow base e 1 v n vs) : OwnLen v n := by
  rcases h.2 with ⟨rfl, h0⟩ | ⟨g, cap, cur, rfl, hg, hb, hn, _⟩
  · exact ⟨none, 0, by rw [h0], by omega⟩
  · exact ⟨_, _, rfl, hn⟩
def madeV (tv pa bv pb rv lv pl mv : Value) (i s j x cv : Int) : Nat → Value → World → Prop
  | 0 => fun v _ => v = tv
  | 1 => fun v _ => v = .int .i64 i
  | 2 => fun v _ => v = pa
  | 3 => fun v _ => v = bv
  | 4 => fun v _ => v = .int .i64 s
  | 5 => fun v _ => v = pb
  | 6 => fun v _ => v = rv
  | 7 => fun v _ => v = lv
  | 8 => fun v _ => v = .int .i64 j
  | 9 => fun v _ => v = pl
  | 10 => fun v _ => v = .int .i64 x
  | 11 => fun v _ => v = mv
  | 12 => fun v _ => v = tv
  | 13 => fun v _ => v = .int .i64 i
  | 14 => fun v _ => v = .int .i64 s
  | 15 => fun v _ => v = lv
  | 16 => fun v _ => v = .int .i64 j
  | 17 => fun v _ => v = pl
  | 18 => fun v _ => v = .int .i64 x
  | 19 => fun v _ => v = .int .i64 cv
  | _ => fun _ _ => True
/-- the table half done -/
def madeF (m : Mill) (i s0 : Nat) (pre : List Nat) (l s k : Nat) : Int :=
  if l < i ∨ (l = i ∧ s < s0) then costC m l s k else if l = i ∧ s = s0 ∧ k ∈ pre then costC m l s k else 99
theorem Rows3.congr {w : World} {base l s n : Nat} {v : Value} {V : Nat → Value} {R : Nat → Nat → Nat} {F G : Nat → Nat → Nat → Int} (h : Rows3 w base v l s n V R F) (e : ∀ i j k, i < l → j < s → k < n → F i j k = G i j k) : Rows3 w base v l s n V R G :=
  ⟨h.own, fun i hi => ⟨(h.tab i hi).own, fun j hj => ⟨((h.tab i hi).row j hj).1, ((h.tab i hi).row j hj).2.congr fun k hk => e i j k hi hj hk⟩, (h.tab i hi).inj⟩, h.inj⟩
set_option maxRecDepth 20000 in
set_option maxHeartbeats 4000000 in
theorem made5_any (v : Value) (m : Mill) (hch : checkE m = 0) (w : World) (hv : MillVal w v m) :
    Calls Tryz.prog 87 #[v] w fun e w' => ∃ r V R, e = .returned r ∧ Rows3 w' w.heap.size r m.laced.length (2 ^ m.orders.length) m.orders.length V R (costC m) ∧ Ext w w' := by
  obtain ⟨ti, hi, hz0, hz1, hz2⟩ := info_parts info_int
  obtain ⟨ti2, hi2, hy0, hy1, hy2⟩ := info_parts info_slI
  obtain ⟨ti3, hi3, hx0, hx1, hx2⟩ := info_parts info_slII
  have Hv := Lib.hid hv
  obtain ⟨A1, c1, A2, c2, rfl, h2, h3, h4, h5, h6, h7⟩ := hv
  have hE := Ext.alloc w (.cells #[.slice A1 m.laced.length c1, .int .i64 m.change, .slice A2 m.orders.length c2] 35)
  have hM := Blk.new w 35 #[.slice A1 m.laced.length c1, .int .i64 m.change, .slice A2 m.orders.length c2]
  obtain ⟨l1, l2, l3⟩ := check_len hch
  have Hch := Lib.hid hch; clear hch
  obtain ⟨N, hN⟩ : ∃ N, 2 ^ m.orders.length = N := ⟨_, rfl⟩
  have hNb : N ≤ 128 := by
    have h1 : 2 ^ m.orders.length ≤ 2 ^ 7 := Nat.pow_le_pow_right (by omega) l3
    have h2 : (2 : Nat) ^ 7 = 128 := by decide
    omega
  rw [hN]
  have HN := Lib.hid hN; clear hN
  clear h6 h7 h3 h5
  have hmk : ∀ W : World, (Instr.makeSlice 22 (.int .i64 (m.orders.length : Int)) (.int .i64 (m.orders.length : Int))).run Tryz.prog W = .ok (.slice (some ⟨W.heap.size, 0, none⟩) m.orders.length m.orders.length) (W.alloc (.cells (madeCells #[.int .i64 0] m.orders.length) 3)) := by
    intro W
    have := run_make (P := Tryz.prog) W 22 3 ti _ Tryz.underlying22 hi hz0 .i64 .i64 m.orders.length m.orders.length (by omega) (by omega) (by rw [hz2]; omega) (by omega)
    simpa [hz1, Value.cells] using this
  go_enter Tryz.func87, Tryz.ntmps87
  go_wp2_with fail
  go_loopw [3, 4, 5, 6, 7, 8] (fun tv iv _ _ _ _ wr => ∃ (l : Nat) (V : Nat → Value) (R : Nat → Nat → Nat), l ≤ m.laced.length ∧ iv = .int .i64 l ∧ Ext w wr ∧ Blk wr w.heap.size 35 #[.slice A1 m.laced.length c1, .int .i64 m.change, .slice A2 m.orders.length c2] ∧ Hid (Rows3 wr w.heap.size tv l N m.orders.length V R (fun _ _ _ => 99))) (fun _ iv _ _ _ _ _ => m.laced.length - (intOf iv).toNat)
  case atStart => exact ⟨0, fun _ => undef, fun _ _ => 0, by omega, rfl, hE, hM, ⟨World.ownsRow_nil _ _ _ 1, fun i h => absurd h (by omega), fun i _ _ _ h => absurd h (by omega)⟩⟩
  case round =>
    clear hE hM
    obtain ⟨l, V, R, hl, rfl, he, hMr, ho⟩ := hrel
    obtain ⟨k0, k1, k2⟩ := hMr.c3
    by_cases hlt : l < m.laced.length
    · obtain ⟨wo, hwo⟩ : ∃ wo, wo = wr := ⟨_, rfl⟩
      rw [← hwo] at he hMr ho k0 k1 k2 ⊢
      clear hwo
      go_wp2_with fail
      go_loopw [5, 6, 7, 8] (fun lv sv _ _ wr => ∃ (s : Nat) (r : Nat → Nat), s ≤ N ∧ sv = .int .i64 s ∧ Ext wo wr ∧ Hid (Rows2 wr wo.heap.size lv s m.orders.length r (fun _ _ => 99))) (fun _ sv _ _ _ => N - (intOf sv).toNat)
      case atStart => exact ⟨0, fun _ => 0, by omega, rfl, Ext.refl _, ⟨World.ownsRow_nil _ _ _ 1, fun i h => absurd h (by omega), fun i _ h => absurd h (by omega)⟩⟩
      case round =>
        clear k0 k1 k2
        obtain ⟨s, r, hs, rfl, he2, ho2⟩ := hrel
        obtain ⟨k0, k1, k2⟩ := (hMr.ext he2).c3
        have hse := Lib.hid (sets5_any _ m (by omega) N HN.out.symm wr (Hv.out.ext (he.trans he2)))
        go_wp2_with fail
        refine hse.out.mono ?_
        rintro e w2 ⟨rfl, he3⟩
        have he4 := he2.trans he3
        have ho4 : Hid (Rows2 w2 wo.heap.size u5 s m.orders.length r (fun _ _ => 99)) := ho2.out.ext he3
        clear he2 he3 ho2 hse k0 k1 k2
        obtain ⟨k0, k1, k2⟩ := (hMr.ext he4).c3
        by_cases hlts : s < N
        · have hB3 := Blk.new w2 3 (madeCells #[.int .i64 0] m.orders.length)
          have hsz4 := he4.size
          go_wp2_with fail
          go_loopw [8] (fun kv wr => ∃ k : Nat, k ≤ m.orders.length ∧ kv = .int .i64 k ∧ Ext w2 wr ∧ Hid (Row wr w2.heap.size m.orders.length (fun j => if j < k then 99 else 0))) (fun kv _ => m.orders.length - (intOf kv).toNat)
          case atStart => exact ⟨0, by omega, rfl, Ext.alloc _ _, (Row.made hB3).congr fun j _ => by rw [if_neg (by omega)]⟩
          case round =>
            clear hB3 k0 k1 k2
            obtain ⟨k, hk, rfl, heK, hR⟩ := hrel
            by_cases hltk : k < m.orders.length
            · have hrc := hR.out.cell hltk
              have hrf := hR.out.frozen k
              have hRN : Hid (Row (wr.setCell ⟨w2.heap.size, k, none⟩ (.int .i64 99)) w2.heap.size m.orders.length (fun j => if j < k + 1 then 99 else 0)) := by
                refine (hR.out.set_ hltk 99).congr fun q _ => ?_
                by_cases e1 : q = k
                · rw [if_pos e1, if_pos (by omega)]
                · by_cases e2 : q < k
                  · rw [if_neg e1, if_pos e2, if_pos (by omega)]
                  · rw [if_neg e1, if_neg e2, if_neg (by omega)]
              have hEN := Lib.hid (Below.setCell heK (p := ⟨w2.heap.size, k, none⟩) (by exact Nat.le_refl _) (.int .i64 99))
              go_wp2_with fail
              go_roundw
              case rel => exact ⟨k + 1, by omega, by go_num, hEN.out, hRN⟩
              case measure => simp [intOf]; omega
            · obtain rfl : k = m.orders.length := by omega
              have hR2 : Row wr w2.heap.size m.orders.length (fun _ => 99) := hR.out.congr fun j hj => by rw [if_pos hj]
              have heA := heK.trans (Ext.alloc wr (.cells #[Value.slice (some ⟨w2.heap.size, 0, none⟩) m.orders.length m.orders.length] 22))
              have hR3 := Lib.hid (hR2.ext (Ext.alloc wr (.cells #[Value.slice (some ⟨w2.heap.size, 0, none⟩) m.orders.length m.orders.length] 22)))
              have hP := Lib.hid (ho4.out.ext heA)
              have hO : Hid (OwnLen u5 s) := by unfold Hid OwnLen; exact own_shape ho4.out.own
              obtain ⟨B5, c5, rfl, hc5⟩ := hO.out
              have hszK := heK.size
              clear hR hR2
              go_wp2_with (at_builtin; refine wpList_app rfl _ _ 30 rfl wo.heap.size 22 ti2 (.slice none 0 0) 1 24 Tryz.underlying30 hi2 hy0 hy1 hy2 rfl (by decide) _ _ _ rfl hP.out.own (some ⟨wr.heap.size, 0, none⟩) 1 1 [.slice (some ⟨w2.heap.size, 0, none⟩) m.orders.length m.orders.length] rfl rfl (Src.one _ _ _) ?c2 ?c3 ?c4 ?c5 ?_; (case c2 => (intro u hu; simp at hu; subst hu; rfl)); (case c3 => (unfold maxLen; omega)); (case c4 => omega); (case c5 => (simp; omega)); intro v' w' hown' hg hblk)
              go_roundw
              case rel =>
                have hnw : ∀ j, j < s → r j ≠ w2.heap.size := fun j hj => by have := (ho4.out.row j hj).2.lt; omega
                have hpu := Rows2.push hP.out (by omega) hR3.out hnw hown' hg
                have e : (fun j => if j = s then (fun _ => (99 : Int)) else (fun _ => 99) : Nat → Nat → Int) = fun _ _ => 99 := by funext j; split <;> rfl
                rw [e] at hpu
                refine ⟨s + 1, _, by omega, by go_num, ext_grown (he4.trans heK) hg (fun j hj => (own_ge2 hP.out.own j hj).1), hpu⟩
              case measure => simp [intOf]; omega
        · obtain rfl : s = N := by omega
          have heA := he4.trans (Ext.alloc w2 (.cells #[u5] 30))
          have hP := Lib.hid (ho.out.ext heA)
          have hU := Lib.hid (ho4.out.ext (Ext.alloc w2 (.cells #[u5] 30)))
          have hO : Hid (OwnLen u3 l) := own_shape ho.out.own
          obtain ⟨B3, c3, rfl, hc3⟩ := hO.out
          have hO5 : Hid (OwnLen u5 s) := own_shape ho4.out.own
          obtain ⟨B5, c5, rfl, hc5⟩ := hO5.out
          have hszo := he.size
          have hsz4 := he4.size
          go_wp2_with (at_builtin; refine wpList_app rfl _ _ 26 rfl w.heap.size 30 ti3 (.slice none 0 0) 1 24 Tryz.underlying26 hi3 hx0 hx1 hx2 rfl (by decide) _ _ _ rfl hP.out.own (some ⟨w2.heap.size, 0, none⟩) 1 1 [.slice B5 s c5] rfl rfl (Src.one _ _ _) ?c2 ?c3 ?c4 ?c5 ?_; (case c2 => (intro u hu; simp at hu; subst hu; rfl)); (case c3 => (unfold maxLen; omega)); (case c4 => omega); (case c5 => (simp; omega)); intro v' w' hown' hg hblk)
          go_roundw
          case rel =>
            have hnw : ∀ i j j', i < l → j < s → j' < s → R i j ≠ r j' := fun i j j' hi hj hj' => by
              have h1 := ((ho.out.tab i hi).row j hj).2.lt
              have h2 := (ho4.out.row j' hj').1
              omega
            have hpu := Rows3.push hP.out (hU.out.mono (by omega)) hnw hown' hg
            have e : (fun i => if i = l then (fun _ _ => (99 : Int)) else (fun _ _ => 99) : Nat → Nat → Nat → Int) = fun _ _ _ => 99 := by funext j; split <;> rfl
            rw [e] at hpu
            exact ⟨l + 1, _, _, by omega, by go_num, ext_grown (he.trans he4) hg (fun j hj => (own_ge2 hP.out.own j hj).1), (hMr.ext heA).grown hg (ownsRow_ne_blk hP.out.own (hMr.ext heA) (by decide)), hpu⟩
          case measure => simp [intOf]; omega
    · obtain rfl : l = m.laced.length := by omega
      have hNp : 0 < N := by rw [← HN.out]; exact Nat.two_pow_pos _
      have ho1 : Hid (Rows3 wr w.heap.size u3 m.laced.length N m.orders.length V R (madeF m 0 0 [])) := ho.out.congr fun i j k _ _ _ => by unfold madeF; rw [if_neg (by omega), if_neg (by simp)]
      obtain ⟨a, tc, _, _, e1, _, _⟩ := ho1.out.at (show 0 < m.laced.length by omega) hNp
      subst e1
      clear hmk ho
      go_wp2_with fail
      go_loopw [9, 10, 11, 12] (fun iv _ _ _ wr => ∃ i : Nat, i ≤ m.laced.length ∧ iv = .int .i64 i ∧ Ext w wr ∧ Blk wr w.heap.size 35 #[.slice A1 m.laced.length c1, .int .i64 m.change, .slice A2 m.orders.length c2] ∧ Hid (Rows3 wr w.heap.size (.slice (some ⟨a, 0, none⟩) m.laced.length tc) m.laced.length N m.orders.length V R (madeF m i 0 []))) (fun iv _ _ _ _ => m.laced.length - (intOf iv).toNat)
      case atStart => exact ⟨0, by omega, rfl, he, hMr, ho1⟩
      case round =>
        clear he hMr ho1 k0 k1 k2
        obtain ⟨i, hi', rfl, he, hMr, ho⟩ := hrel
        by_cases hlti : i < m.laced.length
        · go_wp2_with fail
          go_loopw [10, 11, 12] (fun sv _ _ wr => ∃ s : Nat, s ≤ N ∧ sv = .int .i64 s ∧ Ext w wr ∧ Blk wr w.heap.size 35 #[.slice A1 m.laced.length c1, .int .i64 m.change, .slice A2 m.orders.length c2] ∧ Hid (Rows3 wr w.heap.size (.slice (some ⟨a, 0, none⟩) m.laced.length tc) m.laced.length N m.orders.length V R (madeF m i s []))) (fun sv _ _ _ => N - (intOf sv).toNat)
          case atStart => exact ⟨0, by omega, rfl, he, hMr, ho⟩
          case round =>
            clear he hMr ho
            obtain ⟨s, hs, rfl, he, hMr, ho⟩ := hrel
            obtain ⟨k0, k1, k2⟩ := hMr.c3
            obtain ⟨a', tc', bb, c2', e1, e2, e3⟩ := ho.out.at hlti hNp
            simp only [Value.slice.injEq, Option.some.injEq, Addr.mk.injEq, and_true, true_and] at e1
            obtain ⟨rfl, rfl⟩ := e1
            clear e3
            by_cases hlts : s < N
            · have hli := Lib.hid (list5_any _ m s (by omega) (by omega) wr (Hv.out.ext he))
              have hsz := he.size
              go_wp2_with fail
              refine hli.out.mono ?_
              rintro e w2 ⟨lv, rfl, hlv, he2⟩
              have Hlv := Lib.hid hlv
              obtain ⟨LA, lc, rfl, ll1, ll2, _⟩ := hlv.open_
              have hil : (ints (Pet.bits m.orders.length s)).length = (Pet.bits m.orders.length s).length := by unfold ints; simp
              have hlb := bits_length_le m.orders.length s
              have hmem : Hid (∀ x, x ∈ Pet.bits m.orders.length s → x < m.orders.length ∧ s.testBit x = true) := fun x hx => by unfold Pet.bits at hx; simpa using hx
              have hall : Hid (∀ x, s.testBit x = true → x < m.orders.length → x ∈ Pet.bits m.orders.length s) := fun x h1 h2 => by unfold Pet.bits; simp [h1, h2]
              generalize Pet.bits m.orders.length s = L at *
              have Hil := Lib.hid hil
              have ho2 : Hid (Rows3 w2 w.heap.size (.slice (some ⟨a, 0, none⟩) m.laced.length tc) m.laced.length N m.orders.length V R (madeF m i s (L.take 0))) := ho.out.ext he2
              have hE2 := he.trans he2
              have hM2 := hMr.ext he2
              have hRlt : Hid (R i s < wr.heap.size) := ((ho.out.tab i hlti).row s hlts).2.lt
              obtain ⟨wl, hwl⟩ : ∃ wl, wl = wr := ⟨_, rfl⟩
              rw [← hwl] at Hlv hRlt
              clear he he2 ho hMr hlv hli k0 k1 k2 e2 hwl
              go_wp2_with fail
              go_loopw [12] (fun jv wr => ∃ j : Nat, j ≤ L.length ∧ jv = .int .i64 j ∧ Ext w wr ∧ Blk wr w.heap.size 35 #[.slice A1 m.laced.length c1, .int .i64 m.change, .slice A2 m.orders.length c2] ∧ Hid (OwnI wr wl.heap.size 3 (.slice LA (ints L).length lc) (ints L)) ∧ Hid (Rows3 wr w.heap.size (.slice (some ⟨a, 0, none⟩) m.laced.length tc) m.laced.length N m.orders.length V R (madeF m i s (L.take j)))) (fun jv _ => L.length - (intOf jv).toNat)
              case atStart => exact ⟨0, by omega, rfl, hE2, hM2, Hlv, ho2⟩
              case round =>
                clear hE2 hM2 Hlv ho2
                obtain ⟨j, hj, rfl, he, hMr, hlv, ho⟩ := hrel
                obtain ⟨k0, k1, k2⟩ := hMr.c3
                by_cases hltj : j < L.length
                · obtain ⟨x, hx⟩ : ∃ x, L[j] = x := ⟨_, rfl⟩
                  obtain ⟨hx1, hx2⟩ := hmem.out x (by rw [← hx]; exact List.getElem_mem hltj)
                  have htk : Hid (L.take (j + 1) = L.take j ++ [x]) := by unfold Hid; rw [List.take_succ_eq_append_getElem hltj, hx]
                  have hxv : (ints L)[j]?.getD 0 = (x : Int) := by unfold ints; simp [hltj, hx]
                  obtain ⟨LA', lc', e4, _, _, hll, _⟩ := hlv.out.open_
                  simp only [Value.slice.injEq, true_and] at e4
                  obtain ⟨rfl, rfl⟩ := e4
                  obtain ⟨lb, lo, rfl, cl⟩ := hll j (by rw [Hil.out]; exact hltj)
                  rw [hxv] at cl
                  obtain ⟨a', tc', bb, c2', e1, e2, e3⟩ := ho.out.at hlti hlts
                  simp only [Value.slice.injEq, Option.some.injEq, Addr.mk.injEq, and_true, true_and] at e1
                  obtain ⟨rfl, rfl⟩ := e1
                  have hsd := sdiff_lt (by omega) hx2
                  have hrow := ho.out.rowIn hlti (show sdiff s (2 ^ x) < N by omega) (costC m i (sdiff s (2 ^ x))) (fun k _ => by unfold madeF; rw [if_pos (.inr ⟨rfl, hsd⟩)])
                  obtain ⟨cv, hcv⟩ : ∃ cv, costC m i s x = cv := ⟨_, rfl⟩
                  have hst : Hid (∀ W', Ext wr W' → Calls Tryz.prog 62 #[.agg #[.slice A1 m.laced.length c1, .int .i64 m.change, .slice A2 m.orders.length c2], .slice (some ⟨a, 0, none⟩) m.laced.length tc, .int .i64 (i : Int), .int .i64 (s : Int), .int .i64 (x : Int)] W' fun e w' => e = .returned (.int .i64 cv) ∧ Ext W' w') := fun W' hW => by
                    have := step5_any _ _ m Hch.out i s x hlti hx1 (by rw [HN.out]; exact hlts) hx2 (costC m i) (fun y => costC_bd m i _ y) W' ((Hv.out.ext he).ext hW) (hrow.ext hW)
                    rw [← costC_in m i s x (by omega) hx2, hcv] at this
                    exact this
                  have Hcv := Lib.hid hcv
                  have Hcl := Lib.hid cl; have He2 := Lib.hid e2; have He3 := Lib.hid e3
                  clear hx hxv hll hcv hrow hsd cl e2 e3 k0 k1 k2
                  go_wp2_with fail
                  refine wp_region_apart 20 (by kernel_rfl) (by kernel_rfl) (fun W' => Ext wr W') (madeV (.slice (some ⟨a, 0, none⟩) m.laced.length tc) (.pointer (some ⟨a, i, none⟩)) (.slice (some ⟨bb, 0, none⟩) N c2') (.pointer (some ⟨bb, s, none⟩)) (.slice (some ⟨R i s, 0, none⟩) m.orders.length m.orders.length) (.slice (some ⟨lb, lo, none⟩) L.length lc) (.pointer (some ⟨lb, lo + j, none⟩)) (.agg #[.slice A1 m.laced.length c1, .int .i64 m.change, .slice A2 m.orders.length c2]) i s j x cv) (fun _ _ _ _ => True) (Ext.drew _) ?_ ?_
                  · simp only [List.take, AllOps2, fill, Act.put, List.setIfInBounds_toArray, List.set_cons_zero, List.set_cons_succ, Nat.reduceAdd, Deps, DepsL, List.filter_cons, List.filter_nil, Region.binds, if_true, and_true]
                    refine ⟨?_, ?_, ?_, ?_, ?_, ?_, ?_, ?_, ?_, ?_, ?_, ?_, ?_, ?_, ?_, ?_, ?_, ?_, ?_, ?_⟩
                    all_goals
                      intro Ld y W' hG hnl hLR hAp hdl hd K Q hK
                      try (simp only [madeV] at hd; simp only [hd] at hK ⊢)
                      have HK := Lib.hid hK; clear hK
                      have HL := Lib.hid hLR; clear hLR hAp hdl
                    case refine_20 =>
                      go_wp2_with fail
                      refine (hst.out W' hG).mono ?_
                      rintro e w' ⟨rfl, he'⟩
                      go_wp2
                      exact HK.out _ _ rfl (hG.trans he') (fun j hj => ⟨by have := HL.out j hj; revert this; unfold madeV; split <;> exact id, .inl trivial⟩)
                    all_goals
                      obtain ⟨k0, k1, k2⟩ := (hMr.ext hG).c3
                      have cl := hG.cell Hcl.out
                      have e2 := hG.cell He2.out
                      have e3 := hG.cell He3.out
                      go_wp2_with fail
                      exact HK.out _ _ rfl hG (fun j hj => ⟨HL.out j hj, .inl trivial⟩)
                  intro y w4 heD _ hRR
                  simp only [AllR, madeV, true_and] at hRR
                  simp only [List.take, List.drop, fill, Act.put, List.setIfInBounds_toArray, List.set_cons_zero, List.set_cons_succ, Nat.reduceAdd, hRR]
                  clear hRR
                  have he5 := he.trans heD
                  have hM5 := hMr.ext heD
                  have ho5 := ho.out.ext heD
                  have hl5 := Lib.hid (hlv.out.ext heD)
                  have hrw := ((ho5.tab i hlti).row s hlts).2
                  have hrb := ((ho5.tab i hlti).row s hlts).1
                  have hrc := hrw.cell hx1
                  have hrf := hrw.frozen x
                  have hneM : w.heap.size ≠ R i s := by obtain ⟨cs, c1', _, _⟩ := hrw; exact Blk.ne_ hM5 c1' (by decide)
                  have hEN := Lib.hid (Below.setCell he5 (p := ⟨R i s, x, none⟩) hrb (.int .i64 cv))
                  have hMN := Lib.hid (hM5.far (p := ⟨R i s, x, none⟩) hneM (.int .i64 cv))
                  have hLN := Lib.hid (hl5.out.apart (b := R i s) (fun h => by have := (hl5.out.own_lt _ h).1; have := hRlt.out; omega) ((Apart.refl (R i s) w4).set_ x (.int .i64 cv)))
                  have hRN : Hid (Rows3 (w4.setCell ⟨R i s, x, none⟩ (.int .i64 cv)) w.heap.size (.slice (some ⟨a, 0, none⟩) m.laced.length tc) m.laced.length N m.orders.length V R (madeF m i s (L.take (j + 1)))) := by
                    refine (ho5.set hlti hlts hx1 cv).congr fun i' j' k' _ _ _ => ?_
                    unfold madeF
                    rw [htk.out]
                    by_cases h1 : i' < i ∨ (i' = i ∧ j' < s)
                    · rw [if_neg (by omega), if_pos h1, if_pos h1]
                    · rw [if_neg h1, if_neg h1]
                      by_cases h2 : i' = i ∧ j' = s
                      · obtain ⟨rfl, rfl⟩ := h2
                        by_cases h3 : k' = x
                        · subst h3
                          rw [if_pos ⟨rfl, rfl, rfl⟩, if_pos ⟨rfl, rfl, by simp⟩, Hcv.out]
                        · rw [if_neg (fun h => h3 h.2.2)]
                          by_cases h4 : k' ∈ L.take j
                          · rw [if_pos ⟨rfl, rfl, h4⟩, if_pos ⟨rfl, rfl, by simp [h4]⟩]
                          · rw [if_neg (fun h => h4 h.2.2), if_neg (fun h => by have := h.2.2; simp [h4, h3] at this)]
                      · rw [if_neg (fun h => h2 ⟨h.1, h.2.1⟩), if_neg (fun h => h2 ⟨h.1, h.2.1⟩), if_neg (fun h => h2 ⟨h.1, h.2.1⟩)]
                  clear hl5 he5 hM5 ho5 hMr he hlv ho hrw
                  go_wp2_with fail
                  go_roundw
                  case rel => exact ⟨j + 1, by omega, by go_num, hEN.out, hMN.out, hLN.out, hRN⟩
                  case measure => simp [intOf]; omega
                · obtain rfl : j = L.length := by omega
                  have ho3 : Hid (Rows3 wr w.heap.size (.slice (some ⟨a, 0, none⟩) m.laced.length tc) m.laced.length N m.orders.length V R (madeF m i (s + 1) [])) := ho.out.congr fun i' j' k' _ _ hk' => by
                    unfold madeF
                    rw [List.take_length]
                    by_cases h1 : i' < i ∨ (i' = i ∧ j' < s)
                    · rw [if_pos h1, if_pos (by omega)]
                    · rw [if_neg h1]
                      by_cases h2 : i' = i ∧ j' = s
                      · obtain ⟨rfl, rfl⟩ := h2
                        by_cases h4 : k' ∈ L
                        · rw [if_pos ⟨rfl, rfl, h4⟩, if_pos (Or.inr ⟨rfl, by omega⟩)]
                        · rw [if_neg (fun h => h4 h.2.2), if_pos (Or.inr ⟨rfl, by omega⟩)]
                          cases ht : j'.testBit k' with
                          | true => exact absurd (hall.out k' ht hk') h4
                          | false => rw [costC_out m i' j' k' ht]
                      · rw [if_neg (fun h => h2 ⟨h.1, h.2.1⟩), if_neg (by omega), if_neg (by simp)]
                  go_wp2_with fail
                  go_roundw
                  case rel => exact ⟨s + 1, by omega, by go_num, he, hMr, ho3⟩
                  case measure => simp [intOf]; omega
            · obtain rfl : s = N := by omega
              have ho3 : Hid (Rows3 wr w.heap.size (.slice (some ⟨a, 0, none⟩) m.laced.length tc) m.laced.length s m.orders.length V R (madeF m (i + 1) 0 [])) := ho.out.congr fun i' j k _ hj _ => by
                unfold madeF
                by_cases h1 : i' < i ∨ (i' = i ∧ j < s)
                · rw [if_pos h1, if_pos (by omega)]
                · rw [if_neg h1, if_neg (by simp), if_neg (by omega), if_neg (by simp)]
              go_wp2_with fail
              go_roundw
              case rel => exact ⟨i + 1, by omega, by go_num, he, hMr, ho3⟩
              case measure => simp [intOf]; omega
        · obtain rfl : i = m.laced.length := by omega
          go_wp2_with fail
          go_ret
          refine ⟨_, V, R, rfl, ?_, he⟩
          exact ho.out.congr fun i j k hi hj hk => by unfold madeF; rw [if_pos (.inl hi)]
end Go.Proofs.Pet
