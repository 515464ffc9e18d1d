/-
  Rows copied and compared.
-/
import Derived.Test.YtknokjnplbdmeaaGreatU3
namespace Go.Proofs.Pet
open Go Go.RowKit Go.Maps Go.Shelf

theorem OwnR.rows {w : World} {base : Nat} {v : Value} {xss : List (List Int)} (h : OwnR w base v xss) : RowsI w v xss := by
  obtain ⟨A, c, rfl, h2, h3, _, h5⟩ := h.open_
  refine ⟨A, c, rfl, h2, h3, fun i hi => ?_⟩
  obtain ⟨b, u, e, g1, g2⟩ := h5 i hi
  exact ⟨b, 0, u, e, by rw [Nat.zero_add]; exact g1, g2.sl⟩
set_option maxRecDepth 20000 in
set_option maxHeartbeats 1000000 in
theorem dupRows_any (v : Value) (xss : List (List Int)) (hb2 : xss.length ≤ 1000) (hb : ∀ j, j < xss.length → (xss[j]?.getD []).length ≤ 1000) (w : World) (hp : RowsI w v xss) :
    Calls Tryz.prog 10 #[v] w fun e w' => ∃ r, e = .returned r ∧ OwnR w' w.heap.size r xss ∧ Ext w w' := by
  obtain ⟨ti2, hi2, hy0, hy1, hy2⟩ := info_parts info_slI
  obtain ⟨PA, pc, rfl, g2, g3, g4⟩ := hp
  have G4 := Lib.hid g4; clear g4
  have Hb := Lib.hid hb; clear hb
  unfold maxLen at g3
  have hmk : ∀ W : World, (Instr.makeSlice 30 (.int .i64 0) (.int .i64 (xss.length : Int))).run Tryz.prog W = .ok (.slice (some ⟨W.heap.size, 0, none⟩) 0 xss.length) (W.alloc (.cells (madeCells #[.slice none 0 0] xss.length) 22)) := by
    intro W
    have := run_make (P := Tryz.prog) W 30 22 ti2 _ Tryz.underlying30 hi2 hy0 .i64 .i64 0 xss.length (by omega) (by omega) (by rw [hy2]; omega) (by omega)
    simpa [hy1, Value.cells] using this
  have hE := Ext.alloc w (.cells (madeCells #[.slice none 0 0] xss.length) 22)
  have hown := World.ownsRow_made (w := w) (e := 22) (size := 1) (madeCells #[.slice none 0 0] xss.length) xss.length (Nat.le_refl _) (by unfold maxLen; omega) (by simp [madeCells])
  have hR0 : Hid (OwnR (w.alloc (.cells (madeCells #[.slice none 0 0] xss.length) 22)) w.heap.size (.slice (some ⟨w.heap.size, 0, none⟩) 0 xss.length) (xss.take 0)) := ⟨[], hown, rfl, fun i h => absurd h (by simp)⟩
  clear hown
  go_enter Tryz.func10, Tryz.ntmps10
  go_wp2_with fail
  go_loopw [3, 5, 11] (fun rv _ iv wr => ∃ k : Nat, k ≤ xss.length ∧ iv = .int .i64 k ∧ Ext w wr ∧ Hid (OwnR wr w.heap.size rv (xss.take k))) (fun _ _ iv _ => xss.length - (intOf iv).toNat)
  case atStart => exact ⟨0, by omega, rfl, hE, hR0⟩
  case round =>
    clear hE hR0 hmk
    obtain ⟨k, hk, rfl, he, ho⟩ := hrel
    by_cases hlt : k < xss.length
    · obtain ⟨pb, po, u, e0, q1, A', c', rfl, s1, s2, s3⟩ := G4.out k hlt
      subst e0
      have q1' := he.cell q1
      have hlen : Hid ((xss.take k).length = k) := by unfold Hid; rw [List.length_take]; omega
      have hbk := Hb.out k hlt
      have hdup := Lib.hid (dupI A' c' _ wr (by omega) (s3.ext he))
      have htk : Hid (xss.take (k + 1) = xss.take k ++ [xss[k]?.getD []]) := by
        unfold Hid; rw [List.take_succ_eq_append_getElem hlt]; simp [hlt]
      clear s3
      generalize xss[k]?.getD [] = ys at *
      go_wp2_with fail
      refine hdup.out.mono ?_
      rintro e w2 ⟨rv, rfl, hrv, he2⟩
      have heA := he.trans he2
      have Hrv := Lib.hid hrv
      obtain ⟨BB, cB, rfl, _⟩ := hrv.open_
      clear hrv
      obtain ⟨vs, hv1, hv2, hv3⟩ := ho.out
      rw [hlen.out] at hv1 hv2 hv3
      have Hv1 := Lib.hid hv1; have Hv2 := Lib.hid hv2; have Hv3 := Lib.hid hv3; clear hv1 hv2 hv3
      have hszw := he.size
      have hsz2 := he2.size
      go_wp2_with (at_builtin; refine wpList_app rfl _ _ 30 rfl w.heap.size 22 ti2 (.slice none 0 0) 1 24 Tryz.underlying30 hi2 hy0 hy1 hy2 rfl (by decide) _ _ _ rfl (ownsRow_ext2 Hv1.out (he2.trans (Ext.alloc _ _))) (some ⟨w2.heap.size, 0, none⟩) 1 1 [.slice BB ys.length cB] rfl rfl (Src.one _ _ _) ?c2 ?c3 ?c4 ?c5 ?_; (case c2 => (intro u hu; simp at hu; subst hu; rfl)); (case c3 => (unfold maxLen; omega)); (case c4 => omega); (case c5 => (simp; omega)); intro v' w' hown' hg hblk)
      go_roundw
      case rel =>
        have hrow := ownsRow_ext2 Hv1.out (he2.trans (Ext.alloc w2 (.cells #[.slice BB ys.length cB] 22)))
        have hge : ∀ j, u3.ownBlock = some j → w.heap.size ≤ j := by
          obtain ⟨A0, c0, e0, _, _, h5, _⟩ := ho.out.open_
          intro j hj
          rw [e0] at hj
          cases A0 with
          | none => cases hj
          | some a0 =>
            have h6 : a0.block = j := Option.some.inj hj
            have := (h5 a0 rfl).1
            omega
        refine ⟨k + 1, by omega, by go_num, ext_grown heA hg (fun j hj => hge j hj), ?_⟩
        unfold Hid
        rw [htk.out]
        exact OwnR.push hlen.out hrow Hv2.out (fun i hi => (Hv3.out i hi).ext (he2.trans (Ext.alloc _ _))) (((Hrv.out.ext (Ext.alloc _ _))).mono (by omega)) hown' hg
      case measure => simp [intOf]; omega
    · have hke : k = xss.length := by omega
      subst hke
      have h := ho.out
      rw [List.take_length] at h
      go_wp2_with fail
      go_ret
      exact ⟨_, rfl, h, he⟩

set_option maxRecDepth 20000 in
set_option maxHeartbeats 1000000 in
theorem eqRows_any (v v2 : Value) (xss yss : List (List Int)) (q : Bool) (hq : decide (xss = yss) = q) (w : World) (hx : RowsI w v xss) (hy : RowsI w v2 yss) :
    Calls Tryz.prog 19 #[v, v2] w fun e w' => e = .returned (.bool q) ∧ Ext w w' := by
  have H : Calls Tryz.prog 71 #[v, v2, .func (.func 41) #[] #[]] w fun e w' => e = .returned (.bool q) ∧ Ext w w' := by
    obtain ⟨XA, xc, rfl, x2, x3, x4⟩ := hx
    obtain ⟨YA, yc, rfl, y2, y3, y4⟩ := hy
    have X4 := Lib.hid x4; have Y4 := Lib.hid y4; clear x4 y4
    unfold maxLen at x3 y3
    have Hq := Lib.hid hq; clear hq
    by_cases hlen : xss.length = yss.length
    · have Hlen := Lib.hid hlen
      have hne : ((xss.length : Int) != (yss.length : Int)) = false := by rw [hlen]; simp
      clear hlen
      go_enter Tryz.func71, Tryz.ntmps71
      go_wp2_with fail
      go_loopw [7, 8, 9, 17] (fun _ _ _ i wr => ∃ k : Nat, k ≤ xss.length ∧ i = .int .i64 k ∧ Hid (∀ j, j < k → xss[j]?.getD [] = yss[j]?.getD []) ∧ Ext w wr) (fun _ _ _ i _ => xss.length - (intOf i).toNat)
      case atStart => exact ⟨0, by omega, rfl, fun j hj => absurd hj (by omega), Ext.refl _⟩
      case round =>
        obtain ⟨k, hk, rfl, hm, he⟩ := hrel
        by_cases hlt : k < xss.length
        · have hlt2 : k < yss.length := by have := Hlen.out; omega
          obtain ⟨b, o, u, e1, p1, A', c', rfl, s1, s2, s3⟩ := X4.out k hlt
          obtain ⟨b2, o2, u2, e2, p2, A2', c2', rfl, t1, t2, t3⟩ := Y4.out k hlt2
          subst e1 e2
          have p1' := he.cell p1
          have p2' := he.cell p2
          obtain ⟨qk, hqk⟩ : ∃ qk, decide (xss[k]?.getD [] = yss[k]?.getD []) = qk := ⟨_, rfl⟩
          have hcall := Lib.hid (equalI A' A2' c' c2' _ _ qk hqk wr (Nat.le_trans s1 s2) (s3.ext he) (t3.ext he))
          clear s3 t3
          generalize hga : xss[k]?.getD [] = x at *
          generalize hgb : yss[k]?.getD [] = y at *
          have Hga := Lib.hid hga; clear hga
          have Hgb := Lib.hid hgb; clear hgb
          have Hqk := Lib.hid hqk; clear hqk
          go_wp2_with fail
          refine hcall.out.mono ?_
          rintro e w2 ⟨rfl, he2⟩
          cases qk with
          | true =>
            go_wp2_with fail
            go_roundw
            case rel =>
              refine ⟨k + 1, by omega, by go_num, fun j hj => ?_, he.trans he2⟩
              by_cases ej : j = k
              · subst ej; rw [Hga.out, Hgb.out]; exact of_decide_eq_true Hqk.out
              · exact hm.out j (by omega)
            case measure => simp [intOf]; omega
          | false =>
            go_wp2_with fail
            go_ret
            refine ⟨?_, he.trans he2⟩
            rw [← Hq.out, decide_eq_false (fun h => of_decide_eq_false Hqk.out (by rw [← Hga.out, ← Hgb.out, h]))]; rfl
        · go_wp2_with fail
          go_ret
          refine ⟨?_, he⟩
          have : xss = yss := List.ext_getElem Hlen.out fun j h1 h2 => by
            have := hm.out j (by omega)
            simpa [h1, h2] using this
          rw [← Hq.out, decide_eq_true this]; rfl
    · have hne : ((xss.length : Int) != (yss.length : Int)) = true := by simp; omega
      have hqf : q = false := by rw [← Hq.out]; exact decide_eq_false (fun h => hlen (by rw [h]))
      subst hqf
      clear hlen
      go_enter Tryz.func71, Tryz.ntmps71
      go_wp2_with fail
      go_ret
      exact ⟨rfl, Ext.refl _⟩
  have HH := Lib.hid H
  clear H hx hy hq
  go_enter Tryz.func19, Tryz.ntmps19
  go_wp2_with fail
  refine HH.out.mono ?_
  rintro e w' ⟨rfl, he⟩
  go_wp2_with fail
  go_ret
  exact ⟨rfl, he⟩
end Go.Proofs.Pet
