/-
  Contracts of functions, each proved once.
-/
import Derived.Test.YtfglamdbnclcaaaGreatP17
import Derived.Test.YtfglamdbnclcaaaGreatP18
import Derived.Test.YtfglamdbnclcaaaGreatP08
import Derived.Test.YtfglamdbnclcaaaGreatP16
import Derived.RegionTactic
import Derived.ChangeAlike
namespace Go.Proofs.Pet
open Go Go.RowKit Go.Maps Go.Shelf

/-! The mill of the example. -/
def fourM (y1 y3 : Int) : Mill := ⟨[0, -1], 1, [⟨0, 3, 4, [0, 1]⟩, ⟨1, 2, y1, [0, 1]⟩, ⟨0, 2, 9, [0]⟩, ⟨1, 4, y3, [1]⟩]⟩
def fourV (b : Nat) : Value := .agg #[.slice (some ⟨b + 1, 0, none⟩) 2 2, .int .i64 1, .slice (some ⟨b + 6, 0, none⟩) 4 4]
def fourCs (b : Nat) (y1 y3 : Int) : Array Value := #[.int .i64 0, .int .i64 3, .int .i64 4, .slice (some ⟨b + 2, 0, none⟩) 2 2, .int .i64 1, .int .i64 2, .int .i64 y1, .slice (some ⟨b + 3, 0, none⟩) 2 2, .int .i64 0, .int .i64 2, .int .i64 9, .slice (some ⟨b + 4, 0, none⟩) 1 1, .int .i64 1, .int .i64 4, .int .i64 y3, .slice (some ⟨b + 5, 0, none⟩) 1 1]
structure FourAt (w : World) (b : Nat) (y1 y3 : Int) : Prop where
  l : Blk w (b + 1) 3 #[.int .i64 0, .int .i64 (-1)]
  o0 : Blk w (b + 2) 3 #[.int .i64 0, .int .i64 1]
  o1 : Blk w (b + 3) 3 #[.int .i64 0, .int .i64 1]
  o2 : Blk w (b + 4) 3 #[.int .i64 0]
  o3 : Blk w (b + 5) 3 #[.int .i64 1]
  os : Blk w (b + 6) 28 (fourCs b y1 y3)
theorem FourAt.ext {w w' : World} {b : Nat} {y1 y3 : Int} (h : FourAt w b y1 y3) (he : Ext w w') : FourAt w' b y1 y3 :=
  ⟨h.l.ext he, h.o0.ext he, h.o1.ext he, h.o2.ext he, h.o3.ext he, h.os.ext he⟩
theorem ints_one {w : World} {g : Nat} {t : TypeId} {a : Int} (h : Blk w g t #[.int .i64 a]) : IntsAt w (some ⟨g, 0, none⟩) [a] := by
  intro k hk
  match k, hk with
  | 0, _ => exact ⟨g, 0, rfl, h.cell 0⟩
theorem ints_two {w : World} {g : Nat} {t : TypeId} {a b : Int} (h : Blk w g t #[.int .i64 a, .int .i64 b]) : IntsAt w (some ⟨g, 0, none⟩) [a, b] := by
  intro k hk
  match k, hk with
  | 0, _ => exact ⟨g, 0, rfl, h.cell 0⟩
  | 1, _ => exact ⟨g, 0, rfl, h.cell 1⟩
theorem four_list {w : World} {b : Nat} {y1 y3 : Int} {t0 t1 t2 t3 : TypeId} (o0 : Blk w (b + 2) t0 #[.int .i64 0, .int .i64 1]) (o1 : Blk w (b + 3) t1 #[.int .i64 0, .int .i64 1]) (o2 : Blk w (b + 4) t2 #[.int .i64 0]) (o3 : Blk w (b + 5) t3 #[.int .i64 1]) : OrdList w (fourCs b y1 y3).toList (fourM y1 y3).orders :=
  ⟨rfl, rfl, rfl, ⟨_, _, by simp [maxLen], rfl, ints_two o0⟩, rfl, rfl, rfl, ⟨_, _, by simp [maxLen], rfl, ints_two o1⟩, rfl, rfl, rfl, ⟨_, _, by simp [maxLen], rfl, ints_one o2⟩, rfl, rfl, rfl, ⟨_, _, by simp [maxLen], rfl, ints_one o3⟩, trivial⟩
theorem FourAt.list {w : World} {b : Nat} {y1 y3 : Int} (h : FourAt w b y1 y3) : OrdList w (fourCs b y1 y3).toList (fourM y1 y3).orders :=
  ⟨rfl, rfl, rfl, ⟨_, _, by simp [maxLen], rfl, ints_two h.o0⟩, rfl, rfl, rfl, ⟨_, _, by simp [maxLen], rfl, ints_two h.o1⟩, rfl, rfl, rfl, ⟨_, _, by simp [maxLen], rfl, ints_one h.o2⟩, rfl, rfl, rfl, ⟨_, _, by simp [maxLen], rfl, ints_one h.o3⟩, trivial⟩
theorem FourAt.val {w : World} {b : Nat} {y1 y3 : Int} (h : FourAt w b y1 y3) : MillVal w (fourV b) (fourM y1 y3) :=
  ⟨_, _, _, _, rfl, by simp [fourM], by simp [maxLen], by simp [fourM], by simp [maxLen], ints_two h.l, (OrdList.from_ (o := 0) h.list fun j u hj => by
    rw [Nat.zero_add, h.os.cell, ← Array.getElem?_toList]; exact hj).at_⟩
theorem blks7 (w : World) (a0 a1 a2 a3 a4 a5 a6 : Array Value) (t0 t1 t2 t3 t4 t5 t6 : TypeId) :
    let W := (((((((w.alloc (.cells a0 t0)).alloc (.cells a1 t1)).alloc (.cells a2 t2)).alloc (.cells a3 t3)).alloc (.cells a4 t4)).alloc (.cells a5 t5)).alloc (.cells a6 t6))
    Blk W (w.heap.size) t0 a0 ∧ Blk W (w.heap.size + 1) t1 a1 ∧ Blk W (w.heap.size + 1 + 1) t2 a2 ∧ Blk W (w.heap.size + 1 + 1 + 1) t3 a3 ∧ Blk W (w.heap.size + 1 + 1 + 1 + 1) t4 a4 ∧ Blk W (w.heap.size + 1 + 1 + 1 + 1 + 1) t5 a5 ∧ Blk W (w.heap.size + 1 + 1 + 1 + 1 + 1 + 1) t6 a6 ∧ Ext w W := by
  intro W
  refine ⟨?_, ?_, ?_, ?_, ?_, ?_, ?_, ?_⟩
  · exact ((((((Blk.new w t0 a0).alloc (.cells a1 t1)).alloc (.cells a2 t2)).alloc (.cells a3 t3)).alloc (.cells a4 t4)).alloc (.cells a5 t5)).alloc (.cells a6 t6)
  · have := (((((Blk.new (w.alloc (.cells a0 t0)) t1 a1).alloc (.cells a2 t2)).alloc (.cells a3 t3)).alloc (.cells a4 t4)).alloc (.cells a5 t5)).alloc (.cells a6 t6)
    rwa [World.size_alloc] at this
  · have := ((((Blk.new ((w.alloc (.cells a0 t0)).alloc (.cells a1 t1)) t2 a2).alloc (.cells a3 t3)).alloc (.cells a4 t4)).alloc (.cells a5 t5)).alloc (.cells a6 t6)
    rwa [World.size_alloc, World.size_alloc] at this
  · have := (((Blk.new (((w.alloc (.cells a0 t0)).alloc (.cells a1 t1)).alloc (.cells a2 t2)) t3 a3).alloc (.cells a4 t4)).alloc (.cells a5 t5)).alloc (.cells a6 t6)
    rwa [World.size_alloc, World.size_alloc, World.size_alloc] at this
  · have := ((Blk.new ((((w.alloc (.cells a0 t0)).alloc (.cells a1 t1)).alloc (.cells a2 t2)).alloc (.cells a3 t3)) t4 a4).alloc (.cells a5 t5)).alloc (.cells a6 t6)
    rwa [World.size_alloc, World.size_alloc, World.size_alloc, World.size_alloc] at this
  · have := (Blk.new (((((w.alloc (.cells a0 t0)).alloc (.cells a1 t1)).alloc (.cells a2 t2)).alloc (.cells a3 t3)).alloc (.cells a4 t4)) t5 a5).alloc (.cells a6 t6)
    rwa [World.size_alloc, World.size_alloc, World.size_alloc, World.size_alloc, World.size_alloc] at this
  · have := Blk.new ((((((w.alloc (.cells a0 t0)).alloc (.cells a1 t1)).alloc (.cells a2 t2)).alloc (.cells a3 t3)).alloc (.cells a4 t4)).alloc (.cells a5 t5)) t6 a6
    rwa [World.size_alloc, World.size_alloc, World.size_alloc, World.size_alloc, World.size_alloc, World.size_alloc] at this
  · exact ((((((Ext.alloc _ _).trans (Ext.alloc _ _)).trans (Ext.alloc _ _)).trans (Ext.alloc _ _)).trans (Ext.alloc _ _)).trans (Ext.alloc _ _)).trans (Ext.alloc _ _)
set_option maxRecDepth 20000 in
theorem four_any (w : World) : Calls Tryz.prog 6 #[] w fun e w' => e = .returned (fourV w.heap.size) ∧ FourAt w' w.heap.size 6 9 ∧ Ext w w' := by
  go_enter Tryz.func6, Tryz.ntmps6
  go_wp2_with fail
  obtain ⟨_, p1, p2, p3, p4, p5, p6, pE⟩ := blks7 w _ _ _ _ _ _ _ _ _ _ _ _ _ _
  exact bodyPost_ret (v := fourV w.heap.size) (by simp [results, Tryz.results6, go_sem, fourV]) rfl ⟨rfl, ⟨p1, p2, p3, p4, p5, p6⟩, pE⟩
/-- what the example says, reckoned -/
theorem four_facts : checkE (fourM 6 9) = 0 ∧ costE (fourM 6 9) 0 [1, 0] = (1, 0) := ⟨by kernel_rfl, by kernel_rfl⟩
theorem four_facts2 : checkE (fourM 2 5) = 0 ∧ firstE (fourM 2 5) = (1, 0) ∧ lateS (fourM 2 5) = some [1] := ⟨by kernel_rfl, by kernel_rfl, by kernel_rfl⟩
end Go.Proofs.Pet

namespace Go.Proofs.Pet
open Go Go.RowKit Go.Maps Go.Shelf

theorem IntsAt.apartV {w W : World} {A : Option Addr} {xs : List Int} {b : Nat} {t : TypeId} {cs : Array Value} (h : IntsAt w A xs) (hb : Blk w b t cs) (hno : ∀ i n : Nat, ∀ x, n < cs.size → cs[n]? = some x → i = i → ∀ y : Int, x ≠ .int .i64 y) (ha : Apart b w W) : IntsAt W A xs := by
  intro k hk
  obtain ⟨g, o, rfl, hc⟩ := h k hk
  have hgb : g ≠ b := by
    rintro rfl
    rw [hb.cell] at hc
    exact hno 0 (o + k) _ (Array.getElem?_eq_some_iff.1 hc).1 hc rfl _ rfl
  refine ⟨g, o, rfl, ?_⟩
  rw [← hc]
  have hlt : g < w.heap.size := by
    rcases Nat.lt_or_ge g w.heap.size with h | h
    · exact h
    · unfold World.cell? at hc
      simp [Array.getElem?_eq_none h] at hc
  unfold World.cell?
  simp only [ha.block g hlt hgb]
theorem SlI.apartV {w W : World} {v : Value} {xs : List Int} {b : Nat} {t : TypeId} {cs : Array Value} (h : SlI w v xs) (hb : Blk w b t cs) (hno : ∀ i n : Nat, ∀ x, n < cs.size → cs[n]? = some x → i = i → ∀ y : Int, x ≠ .int .i64 y) (ha : Apart b w W) : SlI W v xs := by
  obtain ⟨A, c, h1, h2, h3, h4⟩ := h
  exact ⟨A, c, h1, h2, h3, h4.apartV hb hno ha⟩
/-- the rows of a plan, made from j on -/
def PlanAt (w : World) (O n j : Nat) (full : List (List Int)) : Prop :=
  ∃ cs : Array Value, Blk w O 22 cs ∧ cs.size = n ∧ (∀ i, i < n → ∃ A a c, cs[i]? = some (.slice A a c)) ∧ ∀ i, j ≤ i → i < n → SlI w (cs[i]?.getD undef) (full[i]?.getD [])
theorem PlanAt.ext {w w' : World} {O n j : Nat} {full : List (List Int)} (h : PlanAt w O n j full) (he : Ext w w') : PlanAt w' O n j full := by
  obtain ⟨cs, h1, h2, h3, h4⟩ := h
  exact ⟨cs, h1.ext he, h2, h3, fun i g1 g2 => (h4 i g1 g2).ext he⟩
theorem PlanAt.start {w : World} {O n : Nat} {full : List (List Int)} (hb : Blk w O 22 (Array.replicate n (.slice none 0 0))) : PlanAt w O n n full :=
  ⟨_, hb, by simp, fun i hi => ⟨none, 0, 0, by rw [Array.getElem?_replicate, if_pos hi]⟩, fun i g1 g2 => absurd g1 (by omega)⟩
theorem PlanAt.cell {w : World} {O n j : Nat} {full : List (List Int)} (h : PlanAt w O n j full) {i : Nat} (hi : i < n) : ∃ v, w.cell? ⟨O, i, none⟩ = some v := by
  obtain ⟨cs, h1, h2, h3, h4⟩ := h
  obtain ⟨A, a, c, e⟩ := h3 i hi
  exact ⟨_, by rw [h1.cell, e]⟩
theorem PlanAt.frozen {w : World} {O n j : Nat} {full : List (List Int)} (h : PlanAt w O n j full) (i : Nat) : w.frozen? ⟨O, i, none⟩ = false := by
  obtain ⟨cs, h1, h2, h3, h4⟩ := h
  exact h1.frozen i
theorem PlanAt.push {w : World} {O n j : Nat} {full : List (List Int)} (h : PlanAt w O n (j + 1) full) (hj : j < n) {v : Value} (hv : SlI w v (full[j]?.getD [])) : PlanAt (w.setCell ⟨O, j, none⟩ v) O n j full := by
  obtain ⟨cs, h1, h2, h3, h4⟩ := h
  have hno : ∀ i n : Nat, ∀ x, n < cs.size → cs[n]? = some x → i = i → ∀ y : Int, x ≠ .int .i64 y := by
    intro _ i x hi hx _ y e
    obtain ⟨A, a, c, e'⟩ := h3 i (by omega)
    rw [e'] at hx
    cases hx
    cases e
  have ha : Apart O w (w.setCell ⟨O, j, none⟩ v) := (Apart.refl _ _).set_ j v
  refine ⟨_, h1.set_ j v, by simpa using h2, fun i hi => ?_, fun i g1 g2 => ?_⟩
  · rw [Array.getElem?_setIfInBounds]
    by_cases e : j = i
    · rw [if_pos e, if_pos (by omega)]
      obtain ⟨A, c, rfl, _⟩ := hv
      exact ⟨_, _, _, rfl⟩
    · rw [if_neg e]; exact h3 i hi
  · rw [Array.getElem?_setIfInBounds]
    by_cases e : j = i
    · subst e
      rw [if_pos rfl, if_pos (by omega)]
      exact hv.apartV h1 hno ha
    · rw [if_neg e]
      exact (h4 i (by omega) g2).apartV h1 hno ha
theorem PlanAt.rows {w : World} {O n : Nat} {full : List (List Int)} (h : PlanAt w O n 0 full) (hl : full.length = n) (hn : n ≤ maxLen) : RowsI w (.slice (some ⟨O, 0, none⟩) n n) full := by
  obtain ⟨cs, h1, h2, h3, h4⟩ := h
  subst hl
  refine ⟨some ⟨O, 0, none⟩, _, rfl, Nat.le_refl _, hn, fun i hi => ?_⟩
  obtain ⟨A, a, c, e⟩ := h3 i hi
  refine ⟨O, 0, _, rfl, ?_, h4 i (by omega) hi⟩
  rw [Nat.zero_add, h1.cell, e]; rfl

/-- the plan that is found -/
def planF (m : Mill) : Option (List (List Int)) :=
  if sumF (numC m) m.laced.length (2 ^ m.orders.length - 1) < 297 then some (planB m m.laced.length (2 ^ m.orders.length - 1)) else none
set_option maxRecDepth 20000 in
set_option maxHeartbeats 1000000 in
theorem plan_ok (v : Value) (m : Mill) (h0 : checkE m = 0) (w : World) (hv : MillVal w v m) :
    Calls Tryz.prog 9 #[v] w fun e w' => (planF m = none ∧ e = .returned (.tuple #[.slice none 0 0, .int .i64 6]) ∧ Ext w w') ∨ (∃ rows r, planF m = some rows ∧ e = .returned (.tuple #[r, .int .i64 0]) ∧ RowsI w' r rows ∧ Ext w w') := by
  have hmf : ∀ (fn : Fn) (first cap : Array Value) (w : World), (Instr.makeFunc fn first cap).run Tryz.prog w = .ok (.func fn first cap) w := fun _ _ _ _ => rfl
  have Hv := Lib.hid hv
  obtain ⟨A1, c1, A2, c2, rfl, h2, h3, h4, h5, h6, h7⟩ := hv
  have hE := Ext.alloc w (.cells #[.slice A1 m.laced.length c1, .int .i64 m.change, .slice A2 m.orders.length c2] 25)
  have hM := Blk.new w 25 #[.slice A1 m.laced.length c1, .int .i64 m.change, .slice A2 m.orders.length c2]
  have hv1 := Hv.out.ext hE
  obtain ⟨l1, l2, l3⟩ := check_len h0
  have hop := Lib.hid (opened_any _ m h0 _ hv1)
  have H0 := Lib.hid h0; clear h0
  clear h6 h7 hv1 h3 h5
  obtain ⟨k0, k1, k2⟩ := hM.c3
  obtain ⟨N, hN⟩ : ∃ N, N = 2 ^ m.orders.length := ⟨_, rfl⟩
  have hNb : 1 ≤ N ∧ N ≤ 128 := by
    have h1 : 2 ^ m.orders.length ≤ 2 ^ 7 := Nat.pow_le_pow_right (by omega) l3
    have h2 : (2 : Nat) ^ 7 = 128 := by decide
    have h3 := Nat.two_pow_pos m.orders.length
    omega
  have HN := Lib.hid hN; clear hN
  go_enter Tryz.func9, Tryz.ntmps9
  go_wp2_with fail
  refine hop.out.mono ?_
  rintro e w1 ⟨D, rfl, hDs, hD, he1⟩
  have Hc := Lib.hid (costs_any D m H0.out w1 hD)
  have hM1 := hM.ext he1
  have hE1 := hE.trans he1
  clear hM hE he1 k0 k1 k2 hop
  go_wp2_with fail
  refine Hc.out.mono ?_
  rintro e w2 ⟨B, rfl, hB, hc, he2⟩
  have hD2 := hD.ext he2
  have hg := Lib.hid (given_any D m H0.out 42 #[.pointer (some ⟨B, 0, none⟩)] #[] (enters_of Tryz.func42 (by kernel_rfl) rfl) (numC m) (fun l s => by have := numC_bd m l s; omega) N HN.out w2 hD2 (gives_cheapest B m H0.out N HN.out w2 hc))
  have hM2 := hM1.ext he2
  have hE2 := hE1.trans he2
  clear hM1 hE1 he2 Hc hD
  go_wp2_with fail
  refine hg.out.mono ?_
  rintro e w3 ⟨S, G, lim, rfl, hS, hG, he3⟩
  have hD3 := hD2.ext he3
  have hM3 := hM2.ext he3
  have hE3 := hE2.trans he3
  have hc3 := hc.ext he3
  obtain ⟨A1', c1', A2', c2', M, cnt, hb, g2, g3, g4, g5, g6, g7, g8, g9⟩ := id hD3
  have hsets := Lib.hid (sets_any _ m (by omega) N HN.out w3 ⟨A1', c1', A2', c2', rfl, g2, g3, g4, g5, g6, g7⟩)
  clear hM2 hE2 he3 hD2 hg hc g2 g3 g4 g5 g6 g7 g8 g9
  obtain ⟨k0, k1, k2, k3⟩ := hb.c4
  clear hb
  go_wp2_with fail
  refine hsets.out.mono ?_
  rintro e w4 ⟨rfl, he4⟩
  have hD4 := hD3.ext he4
  have hM4 := hM3.ext he4
  have hE4 := hE3.trans he4
  have hc4 := hc3.ext he4
  have hS4 := hS.ext he4
  have hG4 := hG.ext he4
  clear hM3 hE3 he4 hD3 hc3 hS hG hsets k0 k1 k2 k3
  obtain ⟨k0, k1, k2⟩ := hM4.c3
  obtain ⟨b, q1, q2, q3⟩ := hS4.at_ (i := m.laced.length) (by omega) (by omega)
  have hcell := q3.cell (j := N - 1) (by omega)
  obtain ⟨t, ht⟩ : ∃ t, sumF (numC m) m.laced.length (N - 1) = t := ⟨_, rfl⟩
  rw [ht] at hcell
  have HT := Lib.hid ht; clear ht
  have hN1 : ((N - 1 : Nat) : Int) = (N : Int) - 1 := by omega
  have hcast : (((N : Int) - 1).toNat) = N - 1 := by omega
  by_cases h297 : 297 ≤ t
  · have hd : decide (297 ≤ t) = true := by simpa using h297
    go_wp2_with fail
    go_ret2
    refine .inl ⟨?_, rfl, hE4⟩
    unfold planF
    rw [if_neg]
    rw [← HN.out, HT.out]; omega
  have hd : decide (297 ≤ t) = false := by simp; omega
  obtain ⟨ti, hi, hz0, hz1, hz2⟩ := info_parts info_slI
  have hmk : ∀ W : World, (Instr.makeSlice 29 (.int .i64 (m.laced.length : Int)) (.int .i64 (m.laced.length : Int))).run Tryz.prog W = .ok (.slice (some ⟨W.heap.size, 0, none⟩) m.laced.length m.laced.length) (W.alloc (.cells (Array.replicate m.laced.length (.slice none 0 0)) 22)) := by
    intro W
    have := run_make (P := Tryz.prog) W 29 22 ti _ Tryz.underlying29 hi hz0 .i64 .i64 m.laced.length m.laced.length (by omega) (by omega) (by rw [hz2]; omega) (by omega)
    have e : madeCells #[Value.slice none 0 0] m.laced.length = Array.replicate m.laced.length (.slice none 0 0) := by
      apply Array.ext
      · simp [madeCells]
      · intro j h1 h2
        simp [madeCells, Nat.mod_one]
    simpa [hz1, Value.cells, e] using this
  clear hi hz0 hz1 hz2
  have hF : Hid (planF m = some (planB m m.laced.length (N - 1))) := by
    unfold Hid planF
    rw [if_pos (by rw [← HN.out, HT.out]; omega), ← HN.out]
  have hX := Ext.alloc w4 (.cells (Array.replicate m.laced.length (.slice none 0 0)) 22)
  obtain ⟨full, hfull⟩ : ∃ full, planB m m.laced.length (N - 1) = full := ⟨_, rfl⟩
  have hP0 : PlanAt (w4.alloc (.cells (Array.replicate m.laced.length (.slice none 0 0)) 22)) w4.heap.size m.laced.length m.laced.length full := PlanAt.start (Blk.new w4 22 _)
  rw [hfull] at hF
  have ht2 : t < 297 := by omega
  obtain ⟨e0, e1, e2⟩ := (hM4.ext hX).c3
  go_wp2_with fail
  clear q1 q3 hcell k0 k1 k2 e0 e1 e2 hd hmk h297 hS4
  have hOs : w4.heap.size ≤ (w4.alloc (.cells (Array.replicate m.laced.length (.slice none 0 0)) 22)).heap.size := hX.size
  generalize w4.alloc _ = W5 at *
  generalize hO : w4.heap.size = O at *
  go_loopw [9, 11] (fun l i wr => ∃ j left : Nat, j ≤ m.laced.length ∧ left < N ∧ i = .int .i64 ((j : Int) - 1) ∧ l = .int .i64 left ∧ Ext w4 wr ∧ Hid (PlanAt wr O m.laced.length j full) ∧ Hid (sumF (numC m) j left < 297) ∧ Hid (full.take j = planB m j left)) (fun _ i _ => (intOf i + 1).toNat)
  case atStart =>
    refine ⟨m.laced.length, N - 1, Nat.le_refl _, by omega, rfl, by rw [hN1], hX, hP0, ?_, ?_⟩
    · show sumF (numC m) m.laced.length (N - 1) < 297
      rw [HT.out]; exact ht2
    · show full.take m.laced.length = planB m m.laced.length (N - 1)
      rw [hfull, List.take_of_length_le]
      rw [← hfull, planB_len]; omega
  case round =>
    clear hP0 hX
    obtain ⟨j, left, hj, hleft, rfl, rfl, hE, hP, hsum, htake⟩ := hrel
    rcases Nat.eq_zero_or_pos j with h0 | h0
    · subst h0
      have HE := Lib.hid hE; clear hE
      go_wp2_with fail
      go_ret2
      exact .inr ⟨full, _, hF.out, rfl, hP.out.rows (by rw [← hfull, planB_len]) (by unfold maxLen; omega), hE4.trans HE.out⟩
    · obtain ⟨j', rfl⟩ : ∃ j', j = j' + 1 := ⟨j - 1, by omega⟩
      clear h0
      rw [show ((j' + 1 : Nat) : Int) - 1 = (j' : Int) by omega]
      obtain ⟨b', q1, q2, q3⟩ := (hG4.ext hE).at_ (i := j' + 1) (by omega) (by omega)
      have hcell := q3.cell (j := left) hleft
      simp only [Nat.add_sub_cancel] at hcell
      obtain ⟨own, hown⟩ : ∃ own, getF (numC m) j' left = own := ⟨_, rfl⟩
      have hgs := get_sum (numC m) j' left hsum.out
      rw [hown] at hcell hgs
      have htk := htake.out
      rw [planB, hown] at htk
      have hownN : own < N := by
        have : own &&& left ≤ left := Nat.and_le_right
        have := hgs.1
        omega
      have hrow : Hid (full[j']?.getD [] = ints ((moreF m j' (numC m j' own) 7 [] own).getD [])) := by
        unfold Hid
        have h1 : (full.take (j' + 1))[j']?.getD [] = ints (runOf m j' own) := by
          rw [htk, List.getElem?_append_right (by rw [planB_len]; omega), planB_len]; simp
        rw [List.getElem?_take, if_pos (by omega)] at h1
        exact h1
      have htake' : Hid (full.take j' = planB m j' (sdiff left own)) := by
        unfold Hid
        have := congrArg (List.take j') htk
        rw [List.take_take, Nat.min_eq_left (by omega), List.take_append_of_le_length (by rw [planB_len]; omega)] at this
        rw [this, List.take_of_length_le (by rw [planB_len]; omega)]
      have hsum' : Hid (sumF (numC m) j' (sdiff left own) < 297) := hgs.2.2.1
      have hnb : Go.bits .andNot .i64 (left : Int) (own : Int) = ((sdiff left own : Nat) : Int) := andNot64 left own (by omega) (by omega)
      have hsd : sdiff left own < N := Nat.lt_of_le_of_lt (sdiff_le _ _) hleft
      generalize sdiff left own = left' at *
      clear hgs htk hown hsum htake
      have hcall := Lib.hid ((gives_cheapest B m H0.out N HN.out wr (hc4.ext hE)) wr (Ext.refl _) j' own (by omega) hownN)
      obtain ⟨ch, hch⟩ : ∃ ch, numC m j' own = ch := ⟨_, rfl⟩
      have hchb := numC_bd m j' own
      rw [hch] at hcall hrow hchb
      have HCH := Lib.hid hch; clear hch
      have Hnb := Lib.hid hnb; clear hnb
      go_wp2_with fail
      refine hcall.out.mono ?_
      rintro e wa ⟨rfl, hea⟩
      have hEa := hE.trans hea
      have hPa := hP.out.ext hea
      have hbest := Lib.hid (best_any D m H0.out j' own (by omega) (by rw [← HN.out]; exact hownN) ch (by omega) wa (hD4.ext hEa))
      clear hE hP hea q1 q2 q3 hcell hcall
      go_wp2_with fail
      refine hbest.out.mono ?_
      rintro e wb ⟨rv, rfl, hrv, heb⟩
      rw [← hrow.out] at hrv
      have hEb := hEa.trans heb
      have hPb := hPa.ext heb
      obtain ⟨ov, hov⟩ := hPb.cell (i := j') (by omega)
      have hfz := hPb.frozen j'
      have HP' := Lib.hid (hPb.push (by omega) hrv)
      have HE' := Lib.hid (Below.setCell hEb (p := ⟨O, j', none⟩) (by show w4.heap.size ≤ O; omega) rv)
      obtain ⟨Ar, cr, rfl, _⟩ := hrv
      have hnb := Hnb.out
      clear hEa hPa heb hbest hEb hPb
      go_wp2_with fail
      go_roundw
      case rel => exact ⟨j', left', by omega, hsd, rfl, rfl, HE'.out, HP'.out, hsum', htake'⟩
      case measure => simp [intOf]
end Go.Proofs.Pet

namespace Go.Proofs.Pet
open Go Go.RowKit Go.Maps Go.Shelf

def fourP : List (List Int) := [[0, 2], [1, 3]]
def fourM3 : Mill := ⟨[0, -1], 1, (fourM 2 5).orders ++ [⟨0, 9, 10, [0]⟩]⟩
theorem four_plan : planF (fourM 6 9) = some fourP ∧ plE (fourM 6 9) fourP = 0 ∧ chgF (fourM 6 9) fourP 2 = 1 := ⟨by kernel_rfl, by kernel_rfl, by kernel_rfl⟩
theorem four_crowd : checkE fourM3 = 0 ∧ crBy fourM3 3 99 = (10, 1) ∧ ints (Pet.bits 8 1) = [0] := ⟨by kernel_rfl, by kernel_rfl, by kernel_rfl⟩
set_option maxRecDepth 20000 in
set_option maxHeartbeats 2000000 in
theorem awake_any (w : World) : Calls Tryz.prog 19 #[] w fun e w' => e = .returned (.bool true) ∧ Ext w w' := by
  go_enter Tryz.func19, Tryz.ntmps19
  go_wp2_with fail
  refine (four_any w).mono ?_
  rintro e w1 ⟨rfl, hf1, he1⟩
  have hp := Lib.hid (plan_ok _ (fourM 6 9) four_facts.1 w1 hf1.val)
  clear hf1
  go_wp2_with fail
  refine hp.out.mono ?_
  rintro e w2 (⟨h1, _⟩ | ⟨rows, pv, h1, rfl, hrow, he2⟩)
  · rw [four_plan.1] at h1; cases h1
  rw [four_plan.1] at h1
  obtain rfl : fourP = rows := Option.some.inj h1
  have hE2 := he1.trans he2
  clear h1 he1 he2 hp
  have Hrow := Lib.hid hrow
  obtain ⟨Ap, cp, rfl, _⟩ := hrow
  go_wp2_with fail
  refine (four_any w2).mono ?_
  rintro e w3 ⟨rfl, hf3, he3⟩
  have hchg := changes_any _ _ (fourM 6 9) fourP 0 four_plan.2.1 (by decide) (by decide) w3 hf3.val (Hrow.out.ext he3)
  rw [if_pos rfl, show fourP.length = 2 from rfl, four_plan.2.2] at hchg
  have Hchg := Lib.hid hchg
  have hE3 := hE2.trans he3
  clear hchg hf3 he3 hE2 Hrow
  go_wp2_with fail
  refine Hchg.out.mono ?_
  rintro e w4 ⟨rfl, he4⟩
  have hE4 := hE3.trans he4
  clear hE3 he4 Hchg
  go_wp2_with fail
  refine (four_any w4).mono ?_
  rintro e w5 ⟨rfl, hf5, he5⟩
  have hE5 := hE4.trans he5
  have hX := Ext.alloc w5 (.cells #[.int .i64 1, .int .i64 0] 3)
  have hB := Blk.new w5 3 #[.int .i64 1, .int .i64 0]
  have hcost := Lib.hid (cost_any _ (fourM 6 9) 0 (some ⟨w5.heap.size, 0, none⟩) 2 [1, 0] (1, 0) four_facts.2 (w5.alloc (.cells #[.int .i64 1, .int .i64 0] 3)) (hf5.ext hX).val (by simp) (by simp [maxLen]) (ints_two hB))
  have hE5' := hE5.trans hX
  clear hf5 hX hB hE5 hE4 he5
  go_wp2_with fail
  refine hcost.out.mono ?_
  rintro e w6 ⟨rfl, he6⟩
  have hE6 := hE5'.trans he6
  clear hcost hE5' he6
  go_wp2_with fail
  refine (four_any w6).mono ?_
  rintro e w7 ⟨rfl, hf7, he7⟩
  have hE7 := hE6.trans he7
  have hs6 := hE6.size
  clear hE6
  generalize hb6 : w6.heap.size = b at *
  have hs7 := hf7.os.lt
  have hM := Blk.new w7 25 #[.slice (some ⟨b + 1, 0, none⟩) 2 2, .int .i64 1, .slice (some ⟨b + 6, 0, none⟩) 4 4]
  have hX := Ext.alloc w7 (.cells #[.slice (some ⟨b + 1, 0, none⟩) 2 2, .int .i64 1, .slice (some ⟨b + 6, 0, none⟩) 4 4] 25)
  have hf8 := hf7.ext hX
  have hE8 := hE7.trans hX
  unfold fourV
  go_wp2_with fail
  generalize w7.alloc _ = w8 at *
  generalize w7.heap.size = B at *
  obtain ⟨k0, k1, k2⟩ := hM.c3
  have c6 := hf8.os.cell 6
  have c14 := hf8.os.cell 14
  have z6 := hf8.os.frozen 6
  have z14 := hf8.os.frozen 14
  simp only [fourCs, List.getElem?_toArray, List.getElem?_cons_succ, List.getElem?_cons_zero] at c6 c14
  have Hf8 := Lib.hid hf8
  have HM := Lib.hid hM
  have HE8 := Lib.hid hE8
  clear hf8 hM hE8 hf7 hX hE7 hb6
  go_region
  have hs2 : b + 6 < B := hs7
  have hf9 : FourAt ((w8.setCell ⟨b + 6, 6, none⟩ (.int .i64 2)).setCell ⟨b + 6, 14, none⟩ (.int .i64 5)).drew b 2 5 :=
    ⟨((Hf8.out.l.far (by show b + 1 ≠ b + 6; omega) _).far (by show b + 1 ≠ b + 6; omega) _).drew, ((Hf8.out.o0.far (by show b + 2 ≠ b + 6; omega) _).far (by show b + 2 ≠ b + 6; omega) _).drew, ((Hf8.out.o1.far (by show b + 3 ≠ b + 6; omega) _).far (by show b + 3 ≠ b + 6; omega) _).drew,
      ((Hf8.out.o2.far (by show b + 4 ≠ b + 6; omega) _).far (by show b + 4 ≠ b + 6; omega) _).drew, ((Hf8.out.o3.far (by show b + 5 ≠ b + 6; omega) _).far (by show b + 5 ≠ b + 6; omega) _).drew, ((Hf8.out.os.set_ 6 _).set_ 14 _).drew⟩
  have hM9 := ((HM.out.far (p := ⟨b + 6, 6, none⟩) (by show B ≠ b + 6; omega) (.int .i64 2)).far (p := ⟨b + 6, 14, none⟩) (by show B ≠ b + 6; omega) (.int .i64 5)).drew
  have hE9 : Ext w ((w8.setCell ⟨b + 6, 6, none⟩ (.int .i64 2)).setCell ⟨b + 6, 14, none⟩ (.int .i64 5)).drew := (Below.setCell (Below.setCell HE8.out (p := ⟨b + 6, 6, none⟩) (by show _ ≤ b + 6; omega) (.int .i64 2)) (p := ⟨b + 6, 14, none⟩) (by show _ ≤ b + 6; omega) (.int .i64 5)).drew
  clear Hf8 HM HE8 c6 c14 z6 z14 k0 k1 k2 hs7
  generalize ((w8.setCell ⟨b + 6, 6, none⟩ (.int .i64 2)).setCell ⟨b + 6, 14, none⟩ (.int .i64 5)).drew = w9 at *
  obtain ⟨k0, k1, k2⟩ := hM9.c3
  have Hf9 := Lib.hid hf9; clear hf9
  have hfirst := Lib.hid (first_any (.agg #[.slice (some ⟨b + 1, 0, none⟩) 2 2, .int .i64 1, .slice (some ⟨b + 6, 0, none⟩) 4 4]) (fourM 2 5) 1 0 four_facts2.2.1 w9 Hf9.out.val)
  go_wp2_with fail
  refine hfirst.out.mono ?_
  rintro e w10 ⟨rfl, he10⟩
  have hM10 := hM9.ext he10
  have hE10 := hE9.trans he10
  have Hf10 := Lib.hid (Hf9.out.ext he10)
  clear hM9 hE9 he10 Hf9 hfirst k0 k1 k2
  obtain ⟨k0, k1, k2⟩ := hM10.c3
  have hlate := Lib.hid (late_own (.agg #[.slice (some ⟨b + 1, 0, none⟩) 2 2, .int .i64 1, .slice (some ⟨b + 6, 0, none⟩) 4 4]) (fourM 2 5) four_facts2.1 w10 Hf10.out.val)
  rw [four_facts2.2.2] at hlate
  go_wp2_with fail
  refine hlate.out.mono ?_
  rintro e w11 ⟨lv, rfl, hlv, he11⟩
  have hM11 := hM10.ext he11
  have hE11 := hE10.trans he11
  have Hf11 := Lib.hid (Hf10.out.ext he11)
  clear hM10 hE10 he11 Hf10 hlate k0 k1 k2
  obtain ⟨k0, k1, k2⟩ := hM11.c3
  simp only [Option.getD_some] at hlv
  have Hl3 := Lib.hid hlv
  obtain ⟨Al, cl, rfl, _⟩ := hlv.open_
  clear hlv
  obtain ⟨ti, hi, hz0, hz1, hz2⟩ := info_parts info_order
  have hX1 := Ext.alloc w11 (.cells #[.int .i64 0] 3)
  have hX2 := hX1.trans (Ext.alloc _ (.cells #[.int .i64 0, .int .i64 9, .int .i64 10, .slice (some ⟨w11.heap.size, 0, none⟩) 1 1] 28))
  have hN1 := (Blk.new w11 3 #[.int .i64 0]).alloc (.cells #[.int .i64 0, .int .i64 9, .int .i64 10, .slice (some ⟨w11.heap.size, 0, none⟩) 1 1] 28)
  have hN2 := Blk.new (w11.alloc (.cells #[.int .i64 0] 3)) 28 #[.int .i64 0, .int .i64 9, .int .i64 10, .slice (some ⟨w11.heap.size, 0, none⟩) 1 1]
  rw [World.size_alloc] at hN2
  have hBlt := hM11.lt
  have hf12 := Hf11.out.ext hX2
  have hM12 := hM11.ext hX2
  have hE12 := hE11.trans hX2
  have hl12 := Hl3.out.ext hX2
  have hsz12 : w11.heap.size + 2 = ((w11.alloc (.cells #[.int .i64 0] 3)).alloc (.cells #[.int .i64 0, .int .i64 9, .int .i64 10, .slice (some ⟨w11.heap.size, 0, none⟩) 1 1] 28)).heap.size := by simp
  have hown : ((w11.alloc (.cells #[.int .i64 0] 3)).alloc (.cells #[.int .i64 0, .int .i64 9, .int .i64 10, .slice (some ⟨w11.heap.size, 0, none⟩) 1 1] 28)).ownsRow b 28 4 (.slice (some ⟨b + 6, 0, none⟩) 4 4) 4 (fourCs b 2 5).toList :=
    ⟨rfl, .inr ⟨b + 6, 4, fourCs b 2 5, rfl, by omega, hf12.os, Nat.le_refl _, by simp [maxLen], rfl, rfl⟩⟩
  have Hown := Lib.hid hown; have Hf12 := Lib.hid hf12; have HM12 := Lib.hid hM12; have HE12 := Lib.hid hE12; have Hl12 := Lib.hid hl12; have HN1 := Lib.hid hN1; have HN2 := Lib.hid hN2; have HSZ := Lib.hid hsz12
  clear hown hf12 hM12 hE12 hl12 hN1 hN2 hsz12 hX1 hX2 hM11 hE11 Hf11 Hl3
  have hone : ∀ u, u ∈ [Value.int .i64 0, .int .i64 9, .int .i64 10, .slice (some ⟨w11.heap.size, 0, none⟩) 1 1] → u.oneCell' = true := by
    intro u hu
    simp only [List.mem_cons, List.not_mem_nil, or_false] at hu
    rcases hu with rfl | rfl | rfl | rfl <;> rfl
  have Hone := Lib.hid hone; clear hone
  go_wp2_with (refine wpList_app rfl _ _ 23 rfl b 28 ti (.agg #[.int .i64 0, .int .i64 0, .int .i64 0, .slice none 0 0]) 4 48 Tryz.underlying23 hi hz0 hz1 hz2 rfl (by decide) _ _ _ rfl Hown.out (some ⟨w11.heap.size + 1, 0, none⟩) 1 1 [.int .i64 0, .int .i64 9, .int .i64 10, .slice (some ⟨w11.heap.size, 0, none⟩) 1 1] rfl rfl (.inr ⟨_, rfl, ?c1⟩) Hone.out (by simp only [maxLen]; omega) (by omega) (by have := HSZ.out; omega) ?_)
  case c1 =>
    intro j u hj
    have e2 : (⟨w11.heap.size + 1, 0, none⟩ : Addr).add j = ⟨w11.heap.size + 1, j, none⟩ := by unfold Addr.add; split <;> simp_all
    rw [e2, HN2.out.cell, ← hj]
    simp
  intro v' w' hown' hg hblk
  obtain ⟨AV, cV, rfl⟩ := ownsRow_slice hown'
  have hMB := HM12.out.grown hg (by
    intro h
    have : B = b + 6 := Option.some.inj h
    omega)
  have kB := hMB.c3.2.2
  have zB := hMB.frozen 2
  have hsl : ∀ g, g ≠ b + 6 → ∀ (t : TypeId) (cs : Array Value), Blk ((w11.alloc (.cells #[.int .i64 0] 3)).alloc (.cells #[.int .i64 0, .int .i64 9, .int .i64 10, .slice (some ⟨w11.heap.size, 0, none⟩) 1 1] 28)) g t cs → Blk w' g t cs := fun g hne t cs h => h.grown hg (fun h => hne (Option.some.inj h))
  have q1 := (hsl _ (by omega) _ _ Hf12.out.l).far (p := ⟨B, 2, none⟩) (by show b + 1 ≠ B; omega) (.slice AV 5 cV)
  have q2 := (hsl _ (by omega) _ _ Hf12.out.o0).far (p := ⟨B, 2, none⟩) (by show b + 2 ≠ B; omega) (.slice AV 5 cV)
  have q3 := (hsl _ (by omega) _ _ Hf12.out.o1).far (p := ⟨B, 2, none⟩) (by show b + 3 ≠ B; omega) (.slice AV 5 cV)
  have q4 := (hsl _ (by omega) _ _ Hf12.out.o2).far (p := ⟨B, 2, none⟩) (by show b + 4 ≠ B; omega) (.slice AV 5 cV)
  have q5 := (hsl _ (by omega) _ _ Hf12.out.o3).far (p := ⟨B, 2, none⟩) (by show b + 5 ≠ B; omega) (.slice AV 5 cV)
  have q6 := (hsl _ (by omega) _ _ HN1.out).far (p := ⟨B, 2, none⟩) (by show w11.heap.size ≠ B; omega) (.slice AV 5 cV)
  have hMB' := hMB.set_ 2 (.slice AV 5 cV)
  have hgz := hg.size
  have hEX : Ext w (w'.setCell ⟨B, 2, none⟩ (.slice AV 5 cV)) := Below.setCell (Below.grown HE12.out hg HE12.out.size (fun j hj => by
    have : b + 6 = j := Option.some.inj hj
    omega)) (p := ⟨B, 2, none⟩) (by show _ ≤ B; omega) _
  have hlX : IntsAt (w'.setCell ⟨B, 2, none⟩ (.slice AV 5 cV)) Al [1] := by
    have h : OwnI (w'.setCell ⟨B, 2, none⟩ (.slice AV 5 cV)) w10.heap.size 3 (.slice Al 1 cl) [1] := by
      obtain ⟨h0, h1⟩ := Hl12.out
      refine ⟨h0, ?_⟩
      rcases h1 with h1 | ⟨g, cap, cur, e, hg1, hb, r⟩
      · exact .inl h1
      · exact .inr ⟨g, cap, cur, e, hg1, (hsl g (Blk.ne_ hb Hf12.out.os (by decide)) _ _ hb).far (p := ⟨B, 2, none⟩) (Blk.ne_ hb HM12.out (by decide)) _, r⟩
    obtain ⟨A, c, e, _, _, h3, _⟩ := h.open_
    injection e with e1 _ _
    subst e1; exact h3
  have hO : OwnO (w'.setCell ⟨B, 2, none⟩ (.slice AV 5 cV)) b 28 (.slice AV 5 cV) fourM3.orders := by
    refine ⟨_, ownsRow_apart hown' (fun h => ?_) ((Apart.refl _ _).set_ 2 _), OrdList.append (four_list q2 q3 q4 q5) ⟨rfl, rfl, rfl, ⟨_, _, by simp [maxLen], rfl, ints_one q6⟩, trivial⟩⟩
    have hs := HSZ.out
    rcases hblk with hb | hb
    · rw [h] at hb
      have : B = b + 6 := Option.some.inj hb
      omega
    · rw [h] at hb
      have := Option.some.inj hb
      omega
  have hval : MillVal (w'.setCell ⟨B, 2, none⟩ (.slice AV 5 cV)) (.agg #[.slice (some ⟨b + 1, 0, none⟩) 2 2, .int .i64 1, .slice AV 5 cV]) fourM3 := by
    obtain ⟨A', c', e', o1, o2, o3, _⟩ := hO.open_
    have e2 : fourM3.orders.length = 5 := rfl
    rw [e2] at e' o1
    injection e' with e3 _ e4
    subst e3; subst e4
    exact ⟨_, _, _, _, rfl, by simp [fourM3], by simp [maxLen], o1, o2, ints_two q1, o3⟩
  have hcr := Lib.hid (crowded_ok _ fourM3 four_crowd.1 4 rfl 10 1 four_crowd.2.1 _ hval)
  have Hlx := Lib.hid hlX; have Hex := Lib.hid hEX
  obtain ⟨m0, m1, m2⟩ := hMB'.c3
  clear hown' hg hblk hMB hsl q1 q2 q3 q4 q5 q6 hMB' hgz hO hval hlX hEX Hown Hf12 HM12 HE12 Hl12 HN1 HN2 Hone
  go_wp2_with fail
  refine hcr.out.mono ?_
  rintro e w13 ⟨rv, rfl, hrv, he13⟩
  rw [if_neg (by decide), four_crowd.2.2] at hrv
  have hE13 := Hex.out.trans he13
  have hl13 := Hlx.out.ext he13
  obtain ⟨Ar, cr, rfl, _, _, hr3⟩ := hrv
  have Hl13 := Lib.hid hl13; have He13 := Lib.hid hE13; have Hr3 := Lib.hid hr3
  clear hl13 hE13 hr3 he13 Hlx Hex hcr m0 m1 m2
  have hX := Ext.alloc w13 (.cells #[.slice Ar 1 cr, .int .i64 10] 31)
  have hC := Blk.new w13 31 #[.slice Ar 1 cr, .int .i64 10]
  have hY := hX.trans (Ext.alloc _ (.cells #[.int .i64 1] 3))
  have hCY := hC.alloc (.cells #[.int .i64 1] 3)
  have hn := Blk.new (w13.alloc (.cells #[.slice Ar 1 cr, .int .i64 10] 31)) 3 #[.int .i64 1]
  rw [World.size_alloc] at hn
  have heq1 := Lib.hid (eqI Al (some ⟨w13.heap.size + 1, 0, none⟩) cl 1 [1] [1] true (by decide) _ (by simp [maxLen]) (Hl13.out.ext hY) (ints_one hn))
  obtain ⟨g0, g1⟩ := hC.c2
  have HY := Lib.hid hY; have HCY := Lib.hid hCY
  clear hX hC hY hCY hn
  go_wp2_with fail
  refine heq1.out.mono ?_
  rintro e w14 ⟨rfl, he14⟩
  have hE14 := He13.out.trans (HY.out.trans he14)
  have hC14 := HCY.out.ext he14
  have hr14 := Hr3.out.ext (HY.out.trans he14)
  have hz := Ext.alloc w14 (.cells #[.int .i64 0] 3)
  have hn := Blk.new w14 3 #[.int .i64 0]
  have heq2 := Lib.hid (eqI Ar (some ⟨w14.heap.size, 0, none⟩) cr 1 [0] [0] true (by decide) _ (by simp [maxLen]) (hr14.ext hz) (ints_one hn))
  obtain ⟨h0, h1⟩ := hC14.c2
  have HE := Lib.hid (hE14.trans hz)
  obtain ⟨j0, j1⟩ := (hC14.ext hz).c2
  clear hE14 hC14 hr14 hz hn HY HCY heq1 g0 g1
  go_wp2_with fail
  refine heq2.out.mono ?_
  rintro e w15 ⟨rfl, he15⟩
  have hE15 := HE.out.trans he15
  go_wp2_with fail
  go_ret
  exact ⟨rfl, hE15⟩
end Go.Proofs.Pet
