/-
  A mill that shares no memory with another one: owned.
  loom.Without: a mill without some orders.
-/
import Derived.Test.YtknokjnplbdmeaaR2
import Derived.Test.YtknokjnplbdmeaaR5
import Derived.Test.YtknokjnplbdmeaaV4
import Derived.Test.YtknokjnplbdmeaaO3
namespace Go.Proofs.Pet
set_option linter.unusedSimpArgs false
open Go Go.RowKit Go.Maps Go.Shelf

/-- copy, whatever the size of an element -/
theorem run_copy_wide {P : Program} (w : World) (dT sT ty elem : TypeId) (sz : Nat) (g dLen dCap : Nat) (a : Addr) (sLen sCap : Nat) (cur : Array Value) (t : TypeId) (cs : List Value)
    (hu : P.underlying dT = some (.slice elem)) (hs : (P.info? elem).map (·.size) = some sz)
    (hg : w.heap[g]? = some (.cells cur t (0, 0))) (hn : cs.length = Nat.min sLen dLen * sz)
    (hsrc : ∀ j v, cs[j]? = some v → w.cell? (a.add j) = some v) (hfit : cs.length ≤ cur.size) (h1 : ∀ v ∈ cs, v.oneCell' = true) :
    (Builtin.copy_ #[dT, sT] ty #[.slice (some ⟨g, 0, none⟩) dLen dCap, .slice (some a) sLen sCap]).run P w =
      .ok (goInt (Nat.min sLen dLen)) (w.setRow g (cs ++ cur.toList.drop cs.length).toArray) := by
  have hl := run_loadCells_list (P := P) w a cs hsrc
  have hst := run_storeCells_at P g 0 t cs 0 cur w hg (by simpa using hfit) h1
  simp only [List.take_zero, List.nil_append, Nat.zero_add, Nat.add_zero] at hst
  cases hq : P.info? elem with
  | none => simp [hq] at hs
  | some i =>
    have hi : i.size = sz := by simpa [hq] using hs
    simp [Builtin.copy_, run_underlying hu, Builtin.lenOf, Builtin.firstCells, sizeOf, typeInfo, hq, hi, ← hn, hl, hst]
theorem run_copy_nil {P : Program} (w : World) (dT sT ty elem : TypeId) (d a : Option Addr) (dLen dCap sLen sCap : Nat) (h00 : sLen = 0) (hu : P.underlying dT = some (.slice elem)) (sz : Nat) (hs : (P.info? elem).map (·.size) = some sz) :
    (Builtin.copy_ #[dT, sT] ty #[.slice d dLen dCap, .slice a sLen sCap]).run P w = .ok (goInt (sLen : Nat)) w := by
  subst h00
  have hl : ∀ a, (loadCells a 0).run P w = .ok #[] w := fun a => by simpa using run_loadCells_list (P := P) w a [] (by simp)
  cases hq : P.info? elem with
  | none => simp [hq] at hs
  | some i =>
    have h0 : Nat.min 0 dLen = 0 := Nat.min_eq_left (Nat.zero_le _)
    cases d <;> cases a <;> simp [Builtin.copy_, run_underlying hu, Builtin.lenOf, Builtin.firstCells, sizeOf, typeInfo, hq, h0, storeCells, hl]
theorem OrdOwn.of_at {w : World} {base : Nat} (L : List Value) (f : Nat → Value) : ∀ (os : List Ord) (o : Nat), (∀ k, k < os.length → L[(o + k) * 4]? = some (.int .i64 (os[k]?.getD default).pattern) ∧ L[(o + k) * 4 + 1]? = some (.int .i64 (os[k]?.getD default).days) ∧ L[(o + k) * 4 + 2]? = some (.int .i64 (os[k]?.getD default).by_) ∧
      L[(o + k) * 4 + 3]? = some (f (o + k)) ∧ OwnI w base 3 (f (o + k)) (os[k]?.getD default).on) → OrdOwn w base ((L.drop (o * 4)).take (os.length * 4)) os
  | [], _, _ => by simp [OrdOwn]
  | x :: xs, o, h => by
    obtain ⟨h0, h1, h2, h3, h4⟩ := h 0 (by simp)
    simp only [Nat.add_zero, List.getElem?_cons_zero, Option.getD_some] at h0 h1 h2 h3 h4
    have ih := OrdOwn.of_at (w := w) (base := base) L f xs (o + 1) fun k hk => by
      have := h (k + 1) (by simpa using hk)
      rw [show o + (k + 1) = o + 1 + k by omega] at this
      simpa using this
    have l3 := (List.getElem?_eq_some_iff.1 h3).1
    have e0 := (List.getElem?_eq_some_iff.1 h0).2
    have e1 := (List.getElem?_eq_some_iff.1 h1).2
    have e2 := (List.getElem?_eq_some_iff.1 h2).2
    have e3 := (List.getElem?_eq_some_iff.1 h3).2
    rw [List.drop_eq_getElem_cons (show o * 4 < L.length by omega), List.drop_eq_getElem_cons (show o * 4 + 1 < L.length by omega), List.drop_eq_getElem_cons (show o * 4 + 1 + 1 < L.length by omega), List.drop_eq_getElem_cons (show o * 4 + 1 + 1 + 1 < L.length by omega),
      e0, e1, e2, e3, show (x :: xs).length * 4 = xs.length * 4 + 1 + 1 + 1 + 1 by simp; omega]
    simp only [List.take_succ_cons]
    rw [show o * 4 + 1 + 1 + 1 + 1 = (o + 1) * 4 by omega]
    exact ⟨rfl, rfl, rfl, h4, ih⟩
theorem MillOk.on3 {m : Mill} (h : MillOk m) {k : Nat} (hk : k < m.orders.length) : (m.orders[k]?.getD default).on.length ≤ 3 := by
  have ho := h.ords (m.orders[k]?.getD default) (by simp [hk])
  have := rising_len ho.up ho.on
  have := h.looms.2
  omega
/-- a copy of orders in a row of the call's own, of which the first K have lists of their own -/
structure OwnedAt (w W : World) (base S : Nat) (os : List Ord) (cs : List Value) (K : Nat) (cur : Array Value) (f : Nat → Value) : Prop where
  blk : Blk W S 78 cur
  size : cur.size = (os.length + 1) * 4
  cells : OrdCur cur os f K
  rest : ∀ j, K ≤ j → j < os.length → cur[j * 4 + 3]? = cs[j * 4 + 3]?
  lists : ∀ j, j < K → OwnI W base 3 (f j) (os[j]?.getD default).on
theorem OwnedAt.own {w W : World} {base S : Nat} {os : List Ord} {cs : List Value} {cur : Array Value} {f : Nat → Value} (h : OwnedAt w W base S os cs os.length cur f) (hS : base ≤ S) (hl : os.length ≤ 100) : OwnOB W base (.slice (some ⟨S, 0, none⟩) os.length (os.length + 1)) os := by
  have h1 := OrdOwn.of_at (w := W) (base := base) cur.toList f os 0 fun k hk => by
    obtain ⟨x1, x2, x3, x4⟩ := h.cells k hk
    rw [Nat.zero_add]
    simp only [Array.getElem?_toList]
    exact ⟨x1, x2, x3, x4 hk, h.lists k hk⟩
  rw [Nat.zero_mul, List.drop_zero] at h1
  have hsz := h.size
  refine ⟨_, ⟨by have : cur.toList.length = cur.size := rfl; rw [List.length_take]; omega, .inr ⟨S, os.length + 1, cur, rfl, hS, h.blk, by omega, by unfold maxLen; omega, hsz, rfl⟩⟩, h1⟩
theorem info_osz : (Try.prog.info? 78).map (·.size) = some 4 := by kernel_rfl
set_option maxRecDepth 20000 in
set_option maxHeartbeats 4000000 in
theorem owned_any (v : Value) (m : Mill) (hok : MillOk m) (w : World) (hv : MillVal w v m) :
    Calls Try.prog 110 #[v] w fun e w' => ∃ a b, e = .returned (.agg #[a, .int .i64 m.change, b]) ∧ OwnI w' w.heap.size 3 a m.laced ∧ OwnOB w' w.heap.size b m.orders ∧ Ext w w' := by
  obtain ⟨A1, c1, A2, c2, rfl, h2, h3, h4, h5, h6, h7⟩ := hv
  have l1 := hok.looms.2; have l3 := hok.few
  have Hok := Lib.hid hok; clear hok
  obtain ⟨i, hi, hz0, hz1, hz2⟩ := info_parts info_order
  have hmk : ∀ W : World, (Instr.makeSlice 23 (.int .i64 (m.orders.length : Int)) (.int .i64 ((m.orders.length : Int) + 1))).run Try.prog W = .ok (.slice (some ⟨W.heap.size, 0, none⟩) m.orders.length (m.orders.length + 1)) (W.alloc (.cells (madeCells #[.int .i64 0, .int .i64 0, .int .i64 0, .slice none 0 0] ((m.orders.length + 1) * 4)) 78)) := by
    intro W
    have := run_make (P := Try.prog) W 23 78 i _ Try.underlying23 hi hz0 .i64 .i64 m.orders.length (m.orders.length + 1) (by omega) (by omega) (by rw [hz2]; omega) (by omega)
    simpa [hz1, Value.cells] using this
  have H6 := Lib.hid h6; have H7 := Lib.hid h7
  clear h6 h7
  go_enter Try.func110, Try.ntmps110
  go_upto_region 2 with fail
  generalize hW1 : ((w.alloc _).alloc _).alloc _ = W1
  have hE1 : Ext w W1 := by rw [← hW1]; exact ((Ext.alloc _ _).trans (Ext.alloc _ _)).trans (Ext.alloc _ _)
  have hM : Blk W1 w.heap.size 25 #[.slice A1 m.laced.length c1, .int .i64 m.change, .slice A2 m.orders.length c2] := by rw [← hW1]; exact ((Blk.new _ _ _).alloc _).alloc _
  have hR : Blk W1 (w.heap.size + 1) 25 #[.slice none 0 0, .int .i64 0, .slice none 0 0] := by
    rw [← hW1]
    refine Blk.alloc ?_ _
    have := Blk.new (w.alloc (.cells #[.slice A1 m.laced.length c1, .int .i64 m.change, .slice A2 m.orders.length c2] 25)) 25 #[.slice none 0 0, .int .i64 0, .slice none 0 0]
    rw [World.size_alloc] at this; exact this
  have hS : Blk W1 (w.heap.size + 1 + 1) 78 (madeCells #[.int .i64 0, .int .i64 0, .int .i64 0, .slice none 0 0] ((m.orders.length + 1) * 4)) := by
    rw [← hW1]
    have := Blk.new ((w.alloc (.cells #[.slice A1 m.laced.length c1, .int .i64 m.change, .slice A2 m.orders.length c2] 25)).alloc (.cells #[.slice none 0 0, .int .i64 0, .slice none 0 0] 25)) 78 (madeCells #[.int .i64 0, .int .i64 0, .int .i64 0, .slice none 0 0] ((m.orders.length + 1) * 4))
    rw [World.size_alloc, World.size_alloc] at this; exact this
  obtain ⟨cs, hcs, hsrc⟩ := H7.out.list
  have hcl := hcs.length
  have hcur : (madeCells #[Value.int .i64 0, .int .i64 0, .int .i64 0, .slice none 0 0] ((m.orders.length + 1) * 4)).size = (m.orders.length + 1) * 4 := by simp [madeCells]
  generalize madeCells #[Value.int .i64 0, .int .i64 0, .int .i64 0, .slice none 0 0] ((m.orders.length + 1) * 4) = cur0 at *
  obtain ⟨W2, cur, hcp, hE2, hO⟩ : ∃ W2 cur, (Builtin.copy_ #[23, 23] 3 #[.slice (some ⟨w.heap.size + 1 + 1, 0, none⟩) m.orders.length (m.orders.length + 1), .slice A2 m.orders.length c2]).run Try.prog W1 = .ok (.int .i64 (m.orders.length : Int)) W2 ∧
      (Ext w W2 ∧ Blk W2 w.heap.size 25 #[.slice A1 m.laced.length c1, .int .i64 m.change, .slice A2 m.orders.length c2] ∧ Blk W2 (w.heap.size + 1) 25 #[.slice none 0 0, .int .i64 0, .slice none 0 0]) ∧ OwnedAt w W2 w.heap.size (w.heap.size + 1 + 1) m.orders cs 0 cur (fun _ => undef) := by
    by_cases h0 : m.orders.length = 0
    · refine ⟨W1, cur0, run_copy_nil W1 _ _ _ _ _ _ _ _ _ _ h0 Try.underlying23 4 info_osz, ⟨hE1, hM, hR⟩, hS, hcur, fun k hk => by omega, fun j _ hj => by omega, fun j hj => by omega⟩
    · obtain ⟨ad, rfl, had⟩ := hsrc.resolve_left (fun e => by rw [e] at hcl; simp at hcl; omega)
      have hmm : Nat.min m.orders.length m.orders.length = m.orders.length := Nat.min_self _
      have hsz : cs.length ≤ cur0.size := by rw [hcl, hcur]; omega
      have := run_copy_wide (P := Try.prog) W1 23 23 3 78 4 (w.heap.size + 1 + 1) m.orders.length (m.orders.length + 1) ad m.orders.length c2 cur0 78 cs Try.underlying23 info_osz hS (by rw [hcl, hmm]) (fun j v h => hE1.cell (had j v h)) hsz hcs.one
      rw [hmm] at this
      refine ⟨_, _, this, ⟨Ext.setRow hE1 (by omega) _, hM.rowFar (by omega) _, hR.rowFar (by omega) _⟩, hS.row _, ?_, ?_, fun j _ hj => ?_, fun j hj => by omega⟩
      · simp only [List.size_toArray, List.length_append, List.length_drop, Array.length_toList]; omega
      · refine OrdCur.of hcs ?_ _
        rw [List.toList_toArray, ← hcl, List.take_left']
        rfl
      · simp only [List.getElem?_toArray]
        rw [List.getElem?_append_left (by omega)]
  obtain ⟨k0, k1, k2⟩ := hM.c3
  clear hsrc hS hM hR hW1 hcur hcl hE1
  obtain ⟨hE2, hM, hR⟩ := hE2
  have HO := Lib.hid hO; have Hcs := Lib.hid hcs
  clear hO hcs
  go_wp2_with fail
  clear hcp k0 k1 k2
  go_loopw [4, 5, 20] (fun _ _ iv wr => ∃ (k : Nat) (cu : Array Value) (f : Nat → Value), k ≤ m.orders.length ∧ iv = .int .i64 k ∧ Ext w wr ∧ Blk wr w.heap.size 25 #[.slice A1 m.laced.length c1, .int .i64 m.change, .slice A2 m.orders.length c2] ∧ Blk wr (w.heap.size + 1) 25 #[.slice none 0 0, .int .i64 0, .slice none 0 0] ∧ Hid (OwnedAt w wr w.heap.size (w.heap.size + 1 + 1) m.orders cs k cu f)) (fun _ _ iv _ => m.orders.length - (intOf iv).toNat)
  case atStart => exact ⟨0, cur, _, by omega, rfl, hE2, hM, hR, HO⟩
  case round =>
    clear hE2 hM hR HO
    obtain ⟨k, cu, f, hk, rfl, he, hM, hR, hO⟩ := hrel
    by_cases hlt : k < m.orders.length
    · obtain ⟨x1, x2, x3, _⟩ := hO.out.cells k hlt
      obtain ⟨A, ca, hca, _, _, _, x4, y4⟩ := Hcs.out.get k hlt
      rw [← hO.out.rest k (Nat.le_refl _) hlt] at x4
      have q1 := (hO.out.blk.cell (k * 4)).trans x1
      have q2 := (hO.out.blk.cell (k * 4 + 1)).trans x2
      have q3 := (hO.out.blk.cell (k * 4 + 2)).trans x3
      have q4 := (hO.out.blk.cell (k * 4 + 3)).trans x4
      have hb8 := Hok.out.on3 hlt
      have hX5 := Ext.alloc wr (.cells #[.int .i64 (m.orders[k]?.getD default).pattern, .int .i64 (m.orders[k]?.getD default).days, .int .i64 (m.orders[k]?.getD default).by_, .slice A (m.orders[k]?.getD default).on.length ca] 78)
      have hcl := Lib.hid (cloneI A ca (m.orders[k]?.getD default).on _ (by omega) (y4.ext (he.trans hX5)))
      have hO5 := Lib.hid (hO.out.blk.ext hX5)
      have Hx4 := Lib.hid x4
      generalize hgx : m.orders[k]?.getD default = x0 at *
      have Hgx := Lib.hid hgx
      clear x1 x2 x3 x4 y4 hgx
      go_wp2_with fail
      generalize hW5 : wr.alloc _ = W5 at *
      clear hW5 q1 q2 q3 q4
      refine hcl.out.mono ?_
      rintro e w6 ⟨v6, rfl, ho6, he6⟩
      obtain ⟨B3, e3, rfl, g1, g2, g3, g4, g5⟩ := ho6.open_
      have hX6 := hX5.trans he6
      have hb6 := hO.out.blk.ext hX6
      have d1 : w6.cell? ⟨w.heap.size + 1 + 1, k * 4 + 3, none⟩ = some (.slice A x0.on.length ca) := (hb6.cell _).trans Hx4.out
      have d2 := hb6.frozen (k * 4 + 3)
      have Ho6 := Lib.hid ho6
      clear hcl g3 g4 g5 ho6
      go_wp2_with fail
      go_roundw
      case rel =>
        have hsz := he.size
        refine ⟨k + 1, cu.setIfInBounds (k * 4 + 3) (.slice B3 x0.on.length e3), fun j => if j = k then .slice B3 x0.on.length e3 else f j, by omega, by go_num, Below.setCell (he.trans hX6) (by show _ ≤ w.heap.size + 1 + 1; omega) _, (hM.ext hX6).far (by show _ ≠ w.heap.size + 1 + 1; omega) _, (hR.ext hX6).far (by show _ ≠ w.heap.size + 1 + 1; omega) _, ?_⟩
        refine ⟨hb6.set_ _ _, by simpa using hO.out.size, hO.out.cells.next hlt (by rw [hO.out.size]; omega) _, fun j hj hl => ?_, fun j hj => ?_⟩
        · rw [Array.getElem?_setIfInBounds_ne (by omega)]
          exact hO.out.rest j (by omega) hl
        · by_cases ej : j = k
          · subst ej
            simp only [if_true]
            rw [Hgx.out]
            exact (Ho6.out.mono (by have := hX5.size; omega)).far hb6 (by decide) _ _
          · simp only [if_neg ej]
            exact ((hO.out.lists j (by omega)).ext hX6).far hb6 (by decide) _ _
      case measure => simp [intOf]; omega
    · obtain rfl : k = m.orders.length := by omega
      have hown := hO.out.own (by omega) (by omega)
      obtain ⟨k0, k1, k2⟩ := hM.c3
      have heo := he; clear he
      go_upto_region 8 with fail
      refine wp_region_chain 6 [(2, true)] [] (by kernel_rfl) (by kernel_rfl) (by kernel_rfl) ?_
      simp only [List.take, List.drop, fill, Act.put, List.setIfInBounds_toArray, List.set_cons_zero, List.set_cons_succ, Nat.reduceAdd]
      repeat (first
        | refine Floats.mut rfl ?_
        | (apply Floats.float rfl
           · intro x W he hd K Q hK
             try (have he := he (by decide); have k0 := he.cell k0; have k1 := he.cell k1; have k2 := he.cell k2)
             try simp only [edges, DepsE, List.filter_cons, List.filter_nil, Region.binds, if_true, and_true, true_and, upd, Nat.reduceEqDiff, if_false] at hd
             try simp only [hd] at hK ⊢
             have HK := Lib.hid hK; clear hK
             go_wp2_with fail
             exact HK.out))
      refine Floats.done fun W he hG => ?_
      refine Chain.cons _ rfl ?_
      intro x hd K Q hK
      try simp only [edges, DepsE, List.filter_cons, List.filter_nil, Region.binds, if_true, and_true, true_and, upd, Nat.reduceEqDiff, if_false] at hd
      try simp only [hd] at hK ⊢
      clear hd
      have HK := Lib.hid hK; clear hK
      have hclo := Lib.hid (cloneI A1 c1 m.laced W (by omega) (H6.out.ext (heo.trans he)))
      go_wp2_with fail
      refine hclo.out.mono ?_
      rintro e w7 ⟨va, rfl, ha, he7⟩
      obtain ⟨Aa, ca, rfl, _, _, _, _, _⟩ := ha.open_
      have ha := ha.mono (heo.trans he).size
      have hX7 := he.trans he7
      have hR7 := hR.ext hX7
      have hOw := hown.ext hX7
      have hE7 := heo.trans hX7
      clear hclo he he7 hG k0 k1 k2 hown hM hR
      go_wp2_with fail
      refine HK.out _ _ (fun _ => hX7) ?_
      clear HK
      refine Chain.nil ?_
      simp only [upd, Nat.reduceEqDiff, if_false, if_true]
      have f0 := hR7.frozen 0; have f1 := hR7.frozen 1; have f2 := hR7.frozen 2
      obtain ⟨v0, v1, v2⟩ := hR7.c3
      have Ha := Lib.hid ha; have HOw := Lib.hid hOw
      clear ha hOw
      go_wp2_with fail
      generalize hWf : ((w7.setCell _ _).setCell _ _).setCell _ _ = Wf
      have hbf : Blk Wf (w.heap.size + 1) 25 #[.slice Aa m.laced.length ca, .int .i64 m.change, .slice (some ⟨w.heap.size + 1 + 1, 0, none⟩) m.orders.length (m.orders.length + 1)] := by
        rw [← hWf]; exact ((hR7.set_ 0 _).set_ 1 _).set_ 2 _
      have hIf : OwnI Wf w.heap.size 3 (.slice Aa m.laced.length ca) m.laced := by
        rw [← hWf]; exact (((Ha.out.far hR7 (by decide) _ _).far (hR7.set_ 0 _) (by decide) _ _).far ((hR7.set_ 0 _).set_ 1 _) (by decide) _ _)
      have hOf : OwnOB Wf w.heap.size (.slice (some ⟨w.heap.size + 1 + 1, 0, none⟩) m.orders.length (m.orders.length + 1)) m.orders := by
        rw [← hWf]; exact (((HOw.out.far hR7 (by decide) (.inl (by decide)) _ _).far (hR7.set_ 0 _) (by decide) (.inl (by decide)) _ _).far ((hR7.set_ 0 _).set_ 1 _) (by decide) (.inl (by decide)) _ _)
      have hXf : Ext w Wf := by
        rw [← hWf]
        exact Below.setCell (Below.setCell (Below.setCell hE7 (by show _ ≤ w.heap.size + 1; omega) _) (by show _ ≤ w.heap.size + 1; omega) _) (by show _ ≤ w.heap.size + 1; omega) _
      clear hWf v0 v1 v2 f0 f1 f2
      obtain ⟨v0, v1, v2⟩ := hbf.c3
      refine bodyPost_ret (v := .agg #[.slice Aa m.laced.length ca, .int .i64 m.change, .slice (some ⟨w.heap.size + 1 + 1, 0, none⟩) m.orders.length (m.orders.length + 1)]) ?_ rfl ⟨_, _, rfl, hIf, hOf, hXf⟩
      simp [results, Try.results110, go_sem, v0, v1, v2]
end Go.Proofs.Pet

namespace Go.Proofs.Pet
open Go Go.RowKit Go.Maps Go.Shelf

/-- the orders below n that are not listed -/
def withoutL (m : Mill) (xs : List Int) (n : Nat) : List Ord := ((List.range n).filter fun k : Nat => !xs.contains (k : Int)).map fun k => m.orders[k]?.getD default
def Mill.without (m : Mill) (xs : List Int) : Mill := ⟨m.laced, m.change, withoutL m xs m.orders.length⟩
theorem withoutL_in {m : Mill} {xs : List Int} {k : Nat} (h : xs.contains (k : Int) = true) : withoutL m xs (k + 1) = withoutL m xs k := by
  unfold withoutL
  rw [List.range_succ, List.filter_append, List.filter_cons, h]
  simp
theorem withoutL_out {m : Mill} {xs : List Int} {k : Nat} (h : xs.contains (k : Int) = false) : withoutL m xs (k + 1) = withoutL m xs k ++ [m.orders[k]?.getD default] := by
  unfold withoutL
  rw [List.range_succ, List.filter_append, List.filter_cons, h]
  simp
theorem withoutL_len (m : Mill) (xs : List Int) (n : Nat) : (withoutL m xs n).length ≤ n := by
  unfold withoutL
  rw [List.length_map]
  have := List.length_filter_le (fun k : Nat => !xs.contains (k : Int)) (List.range n)
  simpa using this
theorem OrdOwn.get {w : World} {base : Nat} : ∀ {cs : List Value} {xs : List Ord}, OrdOwn w base cs xs → ∀ k, k < xs.length → ∃ s, cs[k * 4]? = some (.int .i64 (xs[k]?.getD default).pattern) ∧ cs[k * 4 + 1]? = some (.int .i64 (xs[k]?.getD default).days) ∧ cs[k * 4 + 2]? = some (.int .i64 (xs[k]?.getD default).by_) ∧ cs[k * 4 + 3]? = some s ∧ OwnI w base 3 s (xs[k]?.getD default).on
  | [], [], _, k, hk => by simp at hk
  | p :: d :: b :: s :: cs, x :: xs, ⟨h1, h2, h3, h4, h5⟩, k, hk => by
    rcases k with _ | k
    · exact ⟨s, by rw [h1]; rfl, by rw [h2]; rfl, by rw [h3]; rfl, rfl, h4⟩
    · have := OrdOwn.get h5 k (by simpa using hk)
      rw [show (k + 1) * 4 = k * 4 + 1 + 1 + 1 + 1 by omega]
      simpa using this
  | [], _ :: _, h, _, _ => by simp [OrdOwn] at h
  | _ :: _, [], h, _, _ => by simp [OrdOwn] at h
  | [_], _ :: _, h, _, _ => by simp [OrdOwn] at h
  | [_, _], _ :: _, h, _, _ => by simp [OrdOwn] at h
  | [_, _, _], _ :: _, h, _, _ => by simp [OrdOwn] at h
/-- order k of orders of the call's own -/
theorem OwnOB.at_ {w : World} {base : Nat} {v : Value} {xs : List Ord} (h : OwnOB w base v xs) {k : Nat} (hk : k < xs.length) : ∃ g c s, v = .slice (some ⟨g, 0, none⟩) xs.length c ∧ w.cell? ⟨g, k * 4, none⟩ = some (.int .i64 (xs[k]?.getD default).pattern) ∧ w.cell? ⟨g, k * 4 + 1, none⟩ = some (.int .i64 (xs[k]?.getD default).days) ∧
    w.cell? ⟨g, k * 4 + 2, none⟩ = some (.int .i64 (xs[k]?.getD default).by_) ∧ w.cell? ⟨g, k * 4 + 3, none⟩ = some s ∧ OwnI w base 3 s (xs[k]?.getD default).on := by
  obtain ⟨cs, h1, h2⟩ := h
  obtain ⟨s, g0, g1, g2, g3, g4⟩ := h2.get k hk
  have hl := h1.1
  rcases h1.2 with ⟨_, h0⟩ | ⟨g, cap, cur, rfl, _, hb, hn, _, hs, hc⟩
  · omega
  have hB : Blk w g 78 cur := hb
  have hcc : ∀ j, j < 4 → w.cell? ⟨g, k * 4 + j, none⟩ = cs[k * 4 + j]? := fun j hj => by
    rw [hB.cell, ← hc, List.getElem?_take, if_pos (by omega), Array.getElem?_toList]
  refine ⟨g, cap, s, rfl, ?_, ?_, ?_, ?_, g4⟩
  · have := hcc 0 (by omega); rw [Nat.add_zero] at this; rw [this]; exact g0
  · rw [hcc 1 (by omega)]; exact g1
  · rw [hcc 2 (by omega)]; exact g2
  · rw [hcc 3 (by omega)]; exact g3
theorem mill_field2 (a b : Option Addr) (n c n2 c2 : Nat) (k : Int) (W : World) : (Instr.field 25 (.agg #[.slice a n c, .int .i64 k, .slice b n2 c2]) 2).run Try.prog W = .ok (.slice b n2 c2) W := by kernel_rfl
set_option maxRecDepth 20000 in
set_option maxHeartbeats 4000000 in
theorem without_ok (v : Value) (m : Mill) (hok : MillOk m) (A : Option Addr) (c : Nat) (xs : List Int) (hl : listedE m xs = 0) (w : World) (hv : MillVal w v m) (hlc : xs.length ≤ c) (hc : c ≤ maxLen) (hx : IntsAt w A xs) :
    Calls Try.prog 50 #[v, .slice A xs.length c] w fun e w' => ∃ a b, e = .returned (.tuple #[.agg #[a, .int .i64 m.change, b], .int .i64 0]) ∧ OwnI w' w.heap.size 3 a m.laced ∧ OwnOB w' w.heap.size b (withoutL m xs m.orders.length) ∧ Ext w w' := by
  obtain ⟨ti, hi, hz0, hz1, hz2⟩ := info_parts info_order
  have hch := (check_iff m).2 hok
  have Hv := Lib.hid hv
  have l3 := hok.few
  obtain ⟨A1, c1, A2, c2, rfl, h2, h3, h4, h5, h6, h7⟩ := hv
  have hlE : listE m xs = 0 := by unfold listE; rw [if_pos hch]; exact hl
  have hM := Blk.new w 25 #[.slice A1 m.laced.length c1, .int .i64 m.change, .slice A2 m.orders.length c2]
  have hX := Ext.alloc w (.cells #[.slice A1 m.laced.length c1, .int .i64 m.change, .slice A2 m.orders.length c2] 25)
  have hR := Blk.new (w.alloc (.cells #[.slice A1 m.laced.length c1, .int .i64 m.change, .slice A2 m.orders.length c2] 25)) 25 #[.slice none 0 0, .int .i64 0, .slice none 0 0]
  have hX2 := Ext.alloc (w.alloc (.cells #[.slice A1 m.laced.length c1, .int .i64 m.change, .slice A2 m.orders.length c2] 25)) (.cells #[.slice none 0 0, .int .i64 0, .slice none 0 0] 25)
  have hM := hM.ext hX2
  have hE := hX.trans hX2
  rw [World.size_alloc] at hR
  have Hx := Lib.hid hx; have Hok := Lib.hid hok
  have hli := Lib.hid (listed_any _ m A c xs 0 hlE _ (Hv.out.ext hE) hlc hc (Hx.out.ext hE))
  unfold maxLen at hc
  clear h2 h3 h4 h5 h6 h7 hx hok hlE hl hX hX2
  obtain ⟨k0, k1, k2⟩ := hM.c3
  go_enter Try.func50, Try.ntmps50
  go_wp2_with fail
  generalize (w.alloc _).alloc _ = W1 at *
  refine hli.out.mono ?_
  rintro e w2 ⟨rfl, he2⟩
  have hE := hE.trans he2; have hM := hM.ext he2; have hR := hR.ext he2
  clear hli he2 k0 k1 k2
  have how := Lib.hid (owned_any _ m Hok.out w2 (Hv.out.ext hE))
  obtain ⟨k0, k1, k2⟩ := hM.c3
  go_wp2_with fail
  refine how.out.mono ?_
  rintro e w3 ⟨a, b, rfl, ha, hb, he3⟩
  have hsz3 := hE.size
  have ha := ha.mono hsz3
  obtain ⟨Aa, ca, rfl, _, _, _, _, _⟩ := ha.open_
  obtain ⟨Ab, cb, rfl, _, _, _⟩ := hb.ords
  have hE := hE.trans he3; have hM := hM.ext he3; have hR := hR.ext he3
  have hRlt := hR.lt
  clear how he3 k0 k1 k2 hb
  have hX := Ext.alloc w3 (.cells #[.slice Aa m.laced.length ca, .int .i64 m.change, .slice none 0 0] 25)
  have hU := Blk.new w3 25 #[.slice Aa m.laced.length ca, .int .i64 m.change, .slice none 0 0]
  have how := Lib.hid (owned_any _ m Hok.out _ (Hv.out.ext (hE.trans hX)))
  have hM := hM.ext hX
  have hsz3 := hE.size
  obtain ⟨k0, k1, k2⟩ := hM.c3
  go_wp2_with fail
  obtain ⟨U, hUe⟩ : ∃ U, w3.heap.size = U := ⟨_, rfl⟩
  rw [hUe] at hU hsz3 hRlt ⊢
  have hE := hE.trans hX
  have ha := ha.ext hX
  have hR := hR.ext hX
  clear hUe hX
  generalize w3.alloc _ = W4 at *
  refine how.out.mono ?_
  rintro e w5 ⟨a2, b2, rfl, ha2, hb2, he5⟩
  obtain ⟨Aa2, ca2, rfl, _, _, _, _, _⟩ := ha2.open_
  obtain ⟨B2, e2, rfl, _, _, _⟩ := hb2.ords
  have hE := hE.trans he5; have hU4 := hU.lt; have hU := hU.ext he5; have hR := hR.ext he5; have ha := ha.ext he5
  have Hb2 := Lib.hid hb2; have Ha := Lib.hid ha
  have hRU : w.heap.size + 1 ≠ U := by omega
  clear how he5 k0 k1 k2 hb2 ha hM ha2
  have hfl := mill_field2 Aa2 B2 m.laced.length ca2 m.orders.length e2 m.change
  go_wp2_with fail
  clear hfl
  go_loopw [8, 9, 24] (fun _ _ iv wr => ∃ (k : Nat) (bv : Value), k ≤ m.orders.length ∧ iv = .int .i64 k ∧ Apart U w5 wr ∧ Blk wr U 25 #[.slice Aa m.laced.length ca, .int .i64 m.change, bv] ∧ Hid (∃ cs, wr.ownsRow w5.heap.size 78 4 bv (withoutL m xs k).length cs ∧ OrdOwn wr w.heap.size cs (withoutL m xs k))) (fun _ _ iv _ => m.orders.length - (intOf iv).toNat)
  case atStart => exact ⟨0, _, by omega, rfl, Apart.refl _ _, hU, ⟨[], World.ownsRow_nil _ _ _ _, trivial⟩⟩
  case round =>
    obtain ⟨k, bv, hk, rfl, hap, hbU, hO⟩ := hrel
    have hszr := hap.size
    by_cases hlt : k < m.orders.length
    · obtain ⟨g, cc, s, e1, q1, q2, q3, q4, hs⟩ := (Hb2.out.apart (by omega) hap).at_ hlt
      simp only [Value.slice.injEq, true_and] at e1
      obtain ⟨rfl, rfl⟩ := e1
      obtain ⟨A', c', rfl, _, _, _, _, _⟩ := hs.open_
      have hX6 := Ext.alloc wr (.cells #[.int .i64 (m.orders[k]?.getD default).pattern, .int .i64 (m.orders[k]?.getD default).days, .int .i64 (m.orders[k]?.getD default).by_, .slice A' (m.orders[k]?.getD default).on.length c'] 78)
      have hB6 := Blk.new wr 78 #[.int .i64 (m.orders[k]?.getD default).pattern, .int .i64 (m.orders[k]?.getD default).days, .int .i64 (m.orders[k]?.getD default).by_, .slice A' (m.orders[k]?.getD default).on.length c']
      obtain ⟨qc, hqc⟩ : ∃ qc, xs.contains (k : Int) = qc := ⟨_, rfl⟩
      have hEr : Ext w wr := Apart.ext_of hE (by omega) hap
      have hct := Lib.hid (contains_any (k : Int) A c _ xs rfl qc hqc _ (by unfold maxLen; omega) (Hx.out.ext (hEr.trans hX6)))
      have hs6 := Lib.hid ((hs.mono (by have := hE.size; omega : w.heap.size ≤ _)).ext hX6)
      have hb6 := hbU.ext hX6
      have hap6 := hap.trans (Apart.of_ext hX6)
      obtain ⟨x0, hx0⟩ : ∃ x0, m.orders[k]?.getD default = x0 := ⟨_, rfl⟩
      have Hx0 := Lib.hid hx0; have Hqc := Lib.hid hqc
      have hO6 : Hid (∃ cs, (wr.alloc (.cells #[.int .i64 x0.pattern, .int .i64 x0.days, .int .i64 x0.by_, .slice A' x0.on.length c'] 78)).ownsRow w5.heap.size 78 4 bv (withoutL m xs k).length cs ∧ OrdOwn (wr.alloc (.cells #[.int .i64 x0.pattern, .int .i64 x0.days, .int .i64 x0.by_, .slice A' x0.on.length c'] 78)) w.heap.size cs (withoutL m xs k)) := by
        rw [hx0] at hX6
        obtain ⟨cs, o1, o2⟩ := hO.out
        exact ⟨cs, ownsRow_ext2 o1 hX6, o2.map fun _ _ g => g.ext hX6⟩
      rw [hx0] at q1 q2 q3 q4 hB6 hct hs6 hb6 hap6
      clear hx0 hqc hs hX6 hEr hO hap hbU
      go_wp2_with fail
      refine hct.out.mono ?_
      rintro e w6 ⟨rfl, rfl⟩
      generalize hW6 : wr.alloc _ = W6 at *
      obtain ⟨b0, b1, b2, b3⟩ := hB6.c4
      clear hct hW6 q1 q2 q3 q4
      cases qc with
      | true =>
        clear b0 b1 b2 b3
        go_wp2_with fail
        go_roundw
        case rel => exact ⟨k + 1, bv, by omega, by go_num, hap6, hb6, by rw [withoutL_in Hqc.out]; exact hO6.out⟩
        case measure => simp [intOf]; omega
      | false =>
        obtain ⟨cs, o1, o2⟩ := hO6.out
        obtain ⟨Av, cv, rfl⟩ := ownsRow_slice o1
        have hln := withoutL_len m xs k
        have hX9 := Ext.alloc W6 (.cells #[.int .i64 x0.pattern, .int .i64 x0.days, .int .i64 x0.by_, .slice A' x0.on.length c'] 78)
        have hsrc := Src.list W6 [.int .i64 x0.pattern, .int .i64 x0.days, .int .i64 x0.by_, .slice A' x0.on.length c'] 78
        have o1x := ownsRow_ext2 o1 hX9
        have hb9 := hb6.ext hX9
        have hap9 := hap6.trans (Apart.of_ext hX9)
        have hsz9 := hap9.size
        have hU5 := hU.lt
        obtain ⟨L, hL⟩ : ∃ L, (withoutL m xs k).length = L := ⟨_, rfl⟩
        have hpO : ∀ v' w12, w12.ownsRow w5.heap.size 78 4 v' (L + 1) (cs ++ [.int .i64 x0.pattern, .int .i64 x0.days, .int .i64 x0.by_, .slice A' x0.on.length c']) → (W6.alloc (.cells #[.int .i64 x0.pattern, .int .i64 x0.days, .int .i64 x0.by_, .slice A' x0.on.length c'] 78)).grownBy w12 (Value.slice Av L cv).ownBlock →
            Blk w12 U 25 #[.slice Aa m.laced.length ca, .int .i64 m.change, .slice Av L cv] ∧ Apart U w5 (w12.setCell ⟨U, 2, none⟩ v') ∧ Blk (w12.setCell ⟨U, 2, none⟩ v') U 25 #[.slice Aa m.laced.length ca, .int .i64 m.change, v'] ∧
            Hid (∃ cs, (w12.setCell ⟨U, 2, none⟩ v').ownsRow w5.heap.size 78 4 v' (withoutL m xs (k + 1)).length cs ∧ OrdOwn (w12.setCell ⟨U, 2, none⟩ v') w.heap.size cs (withoutL m xs (k + 1))) := by
          intro v' w12 hown hg
          rw [← hL] at hg hown
          have hge := fun j hj => (ownsRow_own o1x j hj).1
          have hb12 := hb9.grown hg (ownsRow_ne_blk o1x hb9 (by decide))
          have hA12 := hap9.grown hg hge
          have hown2 := ownsRow_apart hown (fun e => by have := (ownsRow_own hown U e).1; omega) ((Apart.refl U w12).set_ 2 v')
          have hOo : OrdOwn (w12.setCell ⟨U, 2, none⟩ v') w.heap.size (cs ++ [.int .i64 x0.pattern, .int .i64 x0.days, .int .i64 x0.by_, .slice A' x0.on.length c']) (withoutL m xs k ++ [x0]) :=
            OrdOwn.append (o2.map fun _ _ g => ((g.ext hX9).grownT (by decide) hg o1x).far hb12 (by decide) 2 v') ⟨rfl, rfl, rfl, ((hs6.out.ext hX9).grownT (by decide) hg o1x).far hb12 (by decide) 2 v', trivial⟩
          rw [← hL]
          refine ⟨hb12, hA12.set_ 2 v', by simpa using hb12.set_ 2 v', ?_⟩
          rw [withoutL_out Hqc.out, Hx0.out, List.length_append]
          exact ⟨_, hown2, hOo⟩
        rw [hL] at o1x hb9 hln hb6
        have HpO := Lib.hid hpO
        clear hpO o1 o2 hL
        obtain ⟨k0, k1, k2⟩ := hb6.c3
        go_wp2_with (at_builtin; refine wpList_app rfl _ _ 23 rfl w5.heap.size 78 ti _ 4 48 Try.underlying23 hi hz0 hz1 hz2 rfl (by decide) (.slice Av L cv) L cs rfl o1x (some ⟨W6.heap.size, 0, none⟩) 1 1 [.int .i64 x0.pattern, .int .i64 x0.days, .int .i64 x0.by_, .slice A' x0.on.length c'] rfl rfl hsrc ?c2 ?c3 ?c4 ?c5 ?_; (case c2 => (intro u hu; simp only [List.mem_cons, List.not_mem_nil, or_false] at hu; rcases hu with rfl | rfl | rfl | rfl <;> rfl)); (case c3 => (unfold maxLen; omega)); (case c4 => omega); (case c5 => omega); intro v' w12 hown hg hblk; obtain ⟨q0, q1, q2, q3⟩ := HpO.out v' w12 hown hg; obtain ⟨A9, c9, rfl⟩ := ownsRow_slice hown; obtain ⟨z0, z1, z2⟩ := q0.c3; have zf := q0.frozen 2; have Q3 := Lib.hid q3; clear q3 hsrc)
        go_roundw
        case rel => exact ⟨k + 1, _, by omega, by go_num, q1, q2, Q3.out⟩
        case measure => simp [intOf]; omega
    · obtain rfl : k = m.orders.length := by omega
      obtain ⟨cs, o1, o2⟩ := hO.out
      obtain ⟨Av, cv, rfl⟩ := ownsRow_slice o1
      have hR7 := hR.apart hRU hap
      have hIr := Ha.out.apart (fun e => Ha.out.ne_blk hU (by decide) e.symm) hap
      have hOr : OwnOB wr w.heap.size (.slice Av (withoutL m xs m.orders.length).length cv) (withoutL m xs m.orders.length) := ⟨cs, ownsRow_mono o1 hE.size, o2⟩
      have hEr : Ext w wr := Apart.ext_of hE (by omega) hap
      have HI := Lib.hid hIr; have HO := Lib.hid hOr
      obtain ⟨L, hL⟩ : ∃ L, (withoutL m xs m.orders.length).length = L := ⟨_, rfl⟩
      rw [hL] at hbU HO
      obtain ⟨k0, k1, k2⟩ := hbU.c3
      have f0 := hR7.frozen 0; have f1 := hR7.frozen 1; have f2 := hR7.frozen 2
      obtain ⟨v0, v1, v2⟩ := hR7.c3
      clear hIr hOr o1 o2 hO hL
      go_wp2_with fail
      generalize hWf : ((wr.setCell _ _).setCell _ _).setCell _ _ = Wf
      have hbf : Blk Wf (w.heap.size + 1) 25 #[.slice Aa m.laced.length ca, .int .i64 m.change, .slice Av L cv] := by
        rw [← hWf]; exact ((hR7.set_ 0 _).set_ 1 _).set_ 2 _
      have hIf : OwnI Wf w.heap.size 3 (.slice Aa m.laced.length ca) m.laced := by
        rw [← hWf]; exact (((HI.out.far hR7 (by decide) _ _).far (hR7.set_ 0 _) (by decide) _ _).far ((hR7.set_ 0 _).set_ 1 _) (by decide) _ _)
      have hOf : OwnOB Wf w.heap.size (.slice Av L cv) (withoutL m xs m.orders.length) := by
        rw [← hWf]; exact (((HO.out.far hR7 (by decide) (.inl (by decide)) _ _).far (hR7.set_ 0 _) (by decide) (.inl (by decide)) _ _).far ((hR7.set_ 0 _).set_ 1 _) (by decide) (.inl (by decide)) _ _)
      have hXf : Ext w Wf := by
        rw [← hWf]
        exact Below.setCell (Below.setCell (Below.setCell hEr (by show _ ≤ w.heap.size + 1; omega) _) (by show _ ≤ w.heap.size + 1; omega) _) (by show _ ≤ w.heap.size + 1; omega) _
      clear hWf v0 v1 v2 f0 f1 f2
      obtain ⟨v0, v1, v2⟩ := hbf.c3
      refine bodyPost_ret (v := .tuple #[.agg #[.slice Aa m.laced.length ca, .int .i64 m.change, .slice Av L cv], .int .i64 0]) ?_ rfl ⟨_, _, rfl, hIf, hOf, hXf⟩
      simp [results, Try.results50, go_sem, v0, v1, v2]
end Go.Proofs.Pet
