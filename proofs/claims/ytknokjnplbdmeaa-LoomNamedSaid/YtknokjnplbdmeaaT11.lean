/-
  LoomNamed, walked.
-/
import Derived.Test.YtknokjnplbdmeaaT10
namespace Go.Proofs.Pet
set_option linter.unusedSimpArgs false
open Go Go.RowKit Go.Maps Go.Shelf

theorem four_set {cur : Array Value} {n fk : Nat} (hs : cur.size = n * 4) (hf : fk < n) (a b c d : Value) :
    ((((cur.setIfInBounds (fk * 4) a).setIfInBounds (fk * 4 + 1) b).setIfInBounds (fk * 4 + 2) c).setIfInBounds (fk * 4 + 3) d).size = n * 4 ∧
    (((((cur.setIfInBounds (fk * 4) a).setIfInBounds (fk * 4 + 1) b).setIfInBounds (fk * 4 + 2) c).setIfInBounds (fk * 4 + 3) d)[fk * 4]? = some a ∧ ((((cur.setIfInBounds (fk * 4) a).setIfInBounds (fk * 4 + 1) b).setIfInBounds (fk * 4 + 2) c).setIfInBounds (fk * 4 + 3) d)[fk * 4 + 1]? = some b ∧
      ((((cur.setIfInBounds (fk * 4) a).setIfInBounds (fk * 4 + 1) b).setIfInBounds (fk * 4 + 2) c).setIfInBounds (fk * 4 + 3) d)[fk * 4 + 2]? = some c ∧ ((((cur.setIfInBounds (fk * 4) a).setIfInBounds (fk * 4 + 1) b).setIfInBounds (fk * 4 + 2) c).setIfInBounds (fk * 4 + 3) d)[fk * 4 + 3]? = some d) ∧
    ∀ i t, i ≠ fk → t < 4 → ((((cur.setIfInBounds (fk * 4) a).setIfInBounds (fk * 4 + 1) b).setIfInBounds (fk * 4 + 2) c).setIfInBounds (fk * 4 + 3) d)[i * 4 + t]? = cur[i * 4 + t]? := by
  refine ⟨by simpa using hs, ⟨?_, ?_, ?_, ?_⟩, fun i t hi ht => ?_⟩
  · rw [Array.getElem?_setIfInBounds_ne (by omega), Array.getElem?_setIfInBounds_ne (by omega), Array.getElem?_setIfInBounds_ne (by omega), Array.getElem?_setIfInBounds_self_of_lt (by omega)]
  · rw [Array.getElem?_setIfInBounds_ne (by omega), Array.getElem?_setIfInBounds_ne (by omega), Array.getElem?_setIfInBounds_self_of_lt (by simp; omega)]
  · rw [Array.getElem?_setIfInBounds_ne (by omega), Array.getElem?_setIfInBounds_self_of_lt (by simp; omega)]
  · rw [Array.getElem?_setIfInBounds_self_of_lt (by simp; omega)]
  · rw [Array.getElem?_setIfInBounds_ne (by omega), Array.getElem?_setIfInBounds_ne (by omega), Array.getElem?_setIfInBounds_ne (by omega), Array.getElem?_setIfInBounds_ne (by omega)]
/-! The region that makes the new mill's rows. -/
def NmR (SL SO M L n : Nat) (ch : Int) : Nat → Value → Prop
  | 0 => fun v => v = .slice (some ⟨SL, 0, none⟩) L L
  | 1 => fun v => v = .int .i64 L
  | 3 => fun v => v = .pointer (some ⟨M, 1, none⟩)
  | 4 => fun v => v = .int .i64 ch
  | 5 => fun v => v = .slice (some ⟨SO, 0, none⟩) n n
  | 6 => fun v => v = .int .i64 n
  | _ => fun _ => True
structure NmS (w0 : World) (L n : Nat) (ch : Int) (Ld : Nat → Prop) (x : Nat → Value) (W : World) : Prop where
  ext : Ext w0 W
  a2 : Ld 2 → ∃ g, x 2 = .slice (some ⟨g, 0, none⟩) L L ∧ w0.heap.size ≤ g ∧ Row W g L (fun _ => 0)
  a7 : Ld 7 → ∃ g, x 7 = .slice (some ⟨g, 0, none⟩) n n ∧ w0.heap.size ≤ g ∧ ∃ cur, Blk W g 78 cur ∧ cur.size = n * 4
  a8 : Ld 8 → (Ld 2 ∧ Ld 7) ∧ x 8 = .agg #[x 2, .int .i64 ch, x 7]
  a9 : Ld 9 → ∃ g, x 9 = .pointer (some ⟨g, 0, none⟩) ∧ w0.heap.size ≤ g ∧ Blk W g 25 #[.slice none 0 0, .int .i64 0, .slice none 0 0]
section
variable {w0 W W' : World} {L n : Nat} {ch : Int} {Ld : Nat → Prop} {x : Nat → Value}
theorem NmS.step (h : NmS w0 L n ch Ld x W) (he : Ext W W') (k : Nat) (v : Value) (hn : ¬ Ld k)
    (h2 : k = 2 → ∃ g, v = .slice (some ⟨g, 0, none⟩) L L ∧ w0.heap.size ≤ g ∧ Row W' g L (fun _ => 0))
    (h7 : k = 7 → ∃ g, v = .slice (some ⟨g, 0, none⟩) n n ∧ w0.heap.size ≤ g ∧ ∃ cur, Blk W' g 78 cur ∧ cur.size = n * 4)
    (h8 : k = 8 → (Ld 2 ∧ Ld 7) ∧ v = .agg #[x 2, .int .i64 ch, x 7])
    (h9 : k = 9 → ∃ g, v = .pointer (some ⟨g, 0, none⟩) ∧ w0.heap.size ≤ g ∧ Blk W' g 25 #[.slice none 0 0, .int .i64 0, .slice none 0 0]) : NmS w0 L n ch (fun j => Ld j ∨ j = k) (upd x k v) W' := by
  refine ⟨h.ext.trans he, fun g => ?_, fun g => ?_, fun g => ?_, fun g => ?_⟩
  · by_cases e : k = 2
    · subst e; rw [upd_self]; exact h2 rfl
    · rw [upd_ne (Ne.symm e)]
      obtain ⟨a, b, c, d⟩ := h.a2 (g.resolve_right (Ne.symm e))
      exact ⟨a, b, c, d.ext he⟩
  · by_cases e : k = 7
    · subst e; rw [upd_self]; exact h7 rfl
    · rw [upd_ne (Ne.symm e)]
      obtain ⟨a, b, c, cur, d, f⟩ := h.a7 (g.resolve_right (Ne.symm e))
      exact ⟨a, b, c, cur, d.ext he, f⟩
  · by_cases e : k = 8
    · subst e
      obtain ⟨⟨g1, g2⟩, g3⟩ := h8 rfl
      rw [upd_self, upd_ne (by decide), upd_ne (by decide)]
      exact ⟨⟨.inl g1, .inl g2⟩, g3⟩
    · obtain ⟨⟨g1, g2⟩, g3⟩ := h.a8 (g.resolve_right (Ne.symm e))
      have e2 : 2 ≠ k := fun e => hn (e ▸ g1)
      have e7 : 7 ≠ k := fun e => hn (e ▸ g2)
      rw [upd_ne (Ne.symm e), upd_ne e2, upd_ne e7]
      exact ⟨⟨.inl g1, .inl g2⟩, g3⟩
  · by_cases e : k = 9
    · subst e; rw [upd_self]; exact h9 rfl
    · rw [upd_ne (Ne.symm e)]
      obtain ⟨a, b, c, d⟩ := h.a9 (g.resolve_right (Ne.symm e))
      exact ⟨a, b, c, d.ext he⟩
end
set_option maxRecDepth 100000 in
set_option maxHeartbeats 4000000 in
theorem loomNamed_any (v v2 : Value) (w : World) (hv : BytesIn w v) (hv2 : BytesIn w v2) :
    Calls Try.prog 13 #[v, v2] w fun e w' => e = .returned (.bool true) ∧ Ext w w' := by
  have hwo := Lib.hid (wound_any v w hv)
  have Hv2 := Lib.hid hv2; clear hv2 hv
  go_enter Try.func13, Try.ntmps13
  go_wp2_with fail
  refine hwo.out.mono ?_
  rintro e w1 ⟨rfl, hs1, he1⟩
  clear hwo
  have hma := Lib.hid (madeS_any w.heap.size 0 (by omega) 3 7 (by omega) (by omega) w1 hs1)
  go_wp2_with fail
  refine hma.out.mono ?_
  rintro e w2 ⟨mv, m, rfl, hm, hok, -, -, -, hap⟩
  have hE := Apart.ext_of he1 (Nat.le_refl _) hap
  clear hma hs1 he1 hap
  have hwo := Lib.hid (wound_any v2 _ (Hv2.out.ext hE))
  clear Hv2
  go_wp2_with fail
  refine hwo.out.mono ?_
  rintro e w3 ⟨rfl, hs3, he3⟩
  obtain ⟨q, hq⟩ : ∃ q, w2.heap.size = q := ⟨_, rfl⟩
  have hqg : w.heap.size ≤ q := by have := hE.size; omega
  rw [hq] at hs3 ⊢
  have Hm := Lib.hid hm
  obtain ⟨A1, c1, A2, c2, rfl, q1, q2, q3, q4, -, -⟩ := hm
  have hM := Blk.new w3 25 #[.slice A1 m.laced.length c1, .int .i64 m.change, .slice A2 m.orders.length c2]
  have hX := Ext.alloc w3 (.cells #[.slice A1 m.laced.length c1, .int .i64 m.change, .slice A2 m.orders.length c2] 25)
  have he4 := he3.trans hX
  have hs4 := hs3.ext hX
  have l1 := hok.looms; have l3 := hok.few
  have Hch := Lib.hid ((check_iff m).2 hok)
  have Hok := Lib.hid hok
  have hqM := hs3.lt
  clear hwo he3 hs3 hok q1 q2 q3 q4
  go_wp2_with fail
  obtain ⟨M, hMe⟩ : ∃ M, w3.heap.size = M := ⟨_, rfl⟩
  rw [hMe] at hM hqM ⊢
  generalize w3.alloc _ = W4 at *
  clear hMe hX
  -- what stays as it was while the spool turns
  have HW := Lib.hid (fun W (ha : Apart q W4 W) => Apart.ext_of he4 (by omega : w2.heap.size ≤ q) ha)
  clear hq
  refine wp_region_chainG (fun W => Blk W M 25 #[.slice A1 m.laced.length c1, .int .i64 m.change, .slice A2 m.orders.length c2]) (hM.ext (Ext.drew _)) 12 [(4, true), (9, true), (11, true)] [] (by kernel_rfl) (by kernel_rfl) (by kernel_rfl) ?_
  simp only [List.take, List.drop, fill, Act.put, List.setIfInBounds_toArray, List.set_cons_zero, List.set_cons_succ, Nat.reduceAdd]
  repeat (first
    | refine Floats.mut rfl ?_
    | (apply Floats.float rfl
       · intro x W he hd K Q hK
         try (have he := he (by decide); obtain ⟨k0, k1, k2⟩ := Blk.c3 he)
         try simp only [edges, DepsE, List.filter_cons, List.filter_nil, Region.binds, if_true, and_true, true_and, upd, Nat.reduceEqDiff, if_false] at hd
         try simp only [hd] at hK ⊢
         have HK := Lib.hid hK; clear hK
         go_wp2_with fail
         exact HK.out))
  refine Floats.done fun W he hG => ?_
  have hsW := hs4.ext he
  have haW := Apart.of_ext (b := q) he
  clear hs4 he
  refine Chain.cons _ rfl ?_
  intro x hd K Q hK
  try simp only [edges, DepsE, List.filter_cons, List.filter_nil, Region.binds, if_true, and_true, true_and, upd, Nat.reduceEqDiff, if_false] at hd
  try simp only [hd] at hK ⊢
  clear hd
  have HK := Lib.hid hK; clear hK
  have hqS := hsW.lt
  have hor := Lib.hid (orderS_any q 0 (by omega) m.laced.length (by omega) W hsW)
  go_wp2_with fail
  refine hor.out.mono ?_
  rintro e w5 ⟨SL, fl, rfl, hSL, hrl, hpl, hs5, ha5⟩
  have hG5 := hG.apart (Nat.ne_of_gt hqM) ha5
  have haW5 := haW.trans ha5
  have Hpl := Lib.hid hpl
  clear hor hsW ha5 hpl haW hG
  go_wp2_with fail
  refine HK.out _ _ (fun _ => hG5) ?_
  clear HK
  refine Chain.cons _ rfl ?_
  intro x hd K Q hK
  try simp only [edges, DepsE, List.filter_cons, List.filter_nil, Region.binds, if_true, and_true, true_and, upd, Nat.reduceEqDiff, if_false] at hd
  try simp only [hd] at hK ⊢
  clear hd
  have HK := Lib.hid hK; clear hK
  have hor := Lib.hid (orderS_any q _ (by omega) m.orders.length (by omega) w5 hs5)
  go_wp2_with fail
  refine hor.out.mono ?_
  rintro e w6 ⟨SO, fo, rfl, hSO, hro, hpo, hs6, ha6⟩
  have hG6 := hG5.apart (Nat.ne_of_gt hqM) ha6
  have hsz5 := haW5.size
  have hqW := hs5.lt
  have hrl6 := hrl.apart (by omega) ha6
  have haW6 := haW5.trans ha6
  have Hpo := Lib.hid hpo
  clear hor hs5 ha6 hpo hG5 hrl haW5
  go_wp2_with fail
  refine HK.out _ _ (fun _ => hG6) ?_
  clear HK
  refine Chain.cons _ rfl ?_
  intro x hd K Q hK
  try simp only [edges, DepsE, List.filter_cons, List.filter_nil, Region.binds, if_true, and_true, true_and, upd, Nat.reduceEqDiff, if_false] at hd
  try simp only [hd] at hK ⊢
  clear hd
  have HK := Lib.hid hK; clear hK
  have hor := Lib.hid (orderS_any q _ (by omega) 10 (by omega) w6 hs6)
  go_wp2_with fail
  refine hor.out.mono ?_
  rintro e w7 ⟨SP, fp, rfl, hSP, hrp, hpp, hs7, ha7⟩
  have hG7 := hG6.apart (Nat.ne_of_gt hqM) ha7
  have hrl7 := hrl6.apart (by omega) ha7
  have hro7 := hro.apart (by omega) ha7
  have haW7 := haW6.trans ha7
  have Hpp := Lib.hid hpp
  clear hor hs6 hs7 ha7 hpp hG6 hrl6 hro haW6
  go_wp2_with fail
  refine HK.out _ _ (fun _ => hG7) ?_
  clear HK
  refine Chain.nil ?_
  simp only [upd, Nat.reduceEqDiff, if_false, if_true]
  obtain ⟨ti, hi, hz0, hz1, hz2⟩ := info_parts info_int
  obtain ⟨ti2, hi2, hy0, hy1, hy2⟩ := info_parts info_order
  have hmk : ∀ W : World, (Instr.makeSlice 22 (.int .i64 (m.laced.length : Int)) (.int .i64 (m.laced.length : Int))).run Try.prog W = .ok (.slice (some ⟨W.heap.size, 0, none⟩) m.laced.length m.laced.length) (W.alloc (.cells (madeCells #[.int .i64 0] m.laced.length) 3)) := by
    intro W
    have := run_make (P := Try.prog) W 22 3 ti _ Try.underlying22 hi hz0 .i64 .i64 m.laced.length m.laced.length (by omega) (by omega) (by rw [hz2]; omega) (by omega)
    simpa [hz1, Value.cells] using this
  have hmk2 : ∀ W : World, (Instr.makeSlice 23 (.int .i64 (m.orders.length : Int)) (.int .i64 (m.orders.length : Int))).run Try.prog W = .ok (.slice (some ⟨W.heap.size, 0, none⟩) m.orders.length m.orders.length) (W.alloc (.cells (madeCells #[.int .i64 0, .int .i64 0, .int .i64 0, .slice none 0 0] (m.orders.length * 4)) 78)) := by
    intro W
    have := run_make (P := Try.prog) W 23 78 ti2 _ Try.underlying23 hi2 hy0 .i64 .i64 m.orders.length m.orders.length (by omega) (by omega) (by rw [hy2]; omega) (by omega)
    simpa [hy1, Value.cells] using this
  have Hmk := Lib.hid hmk; have Hmk2 := Lib.hid hmk2
  clear hmk hmk2
  go_wp2_with fail
  refine wp_region_stage 10 (by kernel_rfl) (by kernel_rfl) (NmS w7 m.laced.length m.orders.length m.change) (NmR SL SO M m.laced.length m.orders.length m.change) (fun x => ⟨Ext.drew _, fun h => h.elim, fun h => h.elim, fun h => h.elim, fun h => h.elim⟩) ?_ ?_
  · simp only [List.take, AllOps3, fill, Act.put, List.setIfInBounds_toArray, List.set_cons_zero, List.set_cons_succ, Nat.reduceAdd, DepsV, DepsL, List.filter_cons, List.filter_nil, Region.binds, if_true, and_true, Closed]
    refine ⟨?_, ?_, ?_, ?_, ?_, ?_, ?_, ?_, ?_, ?_⟩
    all_goals
      intro Ld x W' hS hcl hnl hdl hd K Q hK
      obtain ⟨k0, k1, k2⟩ := (hG7.ext hS.ext).c3
      try simp only [NmR] at hd
      have HK := Lib.hid hK; clear hK hcl
      have HS := Lib.hid hS; clear hS
      have Hnl := Lib.hid hnl; have Hdl := Lib.hid hdl; clear hnl hdl
      try simp only [hd] at HK ⊢
    case refine_3 =>
      have hmk := Hmk.out W'
      go_wp2_with fail
      exact HK.out _ _ trivial (HS.out.step (Ext.alloc _ _) _ _ Hnl.out (fun _ => ⟨_, rfl, HS.out.ext.size, Row.made (Blk.new _ _ _)⟩) (fun h => by cases h) (fun h => by cases h) (fun h => by cases h))
    case refine_8 =>
      have hmk := Hmk2.out W'
      go_wp2_with fail
      exact HK.out _ _ trivial (HS.out.step (Ext.alloc _ _) _ _ Hnl.out (fun h => by cases h) (fun _ => ⟨_, rfl, HS.out.ext.size, _, Blk.new _ _ _, by simp [madeCells]⟩) (fun h => by cases h) (fun h => by cases h))
    case refine_9 =>
      obtain ⟨g2, e2, _⟩ := HS.out.a2 Hdl.out.1
      obtain ⟨g7, e7, _⟩ := HS.out.a7 Hdl.out.2.2
      have H2 := Lib.hid e2; have H7 := Lib.hid e7
      simp only [e2, e7] at HK ⊢
      clear e2 e7
      go_wp2_with fail
      exact HK.out _ _ trivial (HS.out.step (Ext.refl _) _ _ Hnl.out (fun h => by cases h) (fun h => by cases h) (fun _ => ⟨⟨Hdl.out.1, Hdl.out.2.2⟩, by rw [H2.out, H7.out]⟩) (fun h => by cases h))
    case refine_10 =>
      go_wp2_with fail
      exact HK.out _ _ trivial (HS.out.step (Ext.alloc _ _) _ _ Hnl.out (fun h => by cases h) (fun h => by cases h) (fun h => by cases h) (fun _ => ⟨_, rfl, HS.out.ext.size, Blk.new _ _ _⟩))
    all_goals
      go_wp2_with fail
      exact HK.out _ _ rfl (HS.out.step (Ext.refl _) _ _ Hnl.out (fun h => by cases h) (fun h => by cases h) (fun h => by cases h) (fun h => by cases h))
  · intro x W' hS hR
    obtain ⟨gL, e2, hgL, hrL⟩ := hS.a2 (by decide)
    obtain ⟨gO, e7, hgO, cur0, hbO, hcur0⟩ := hS.a7 (by decide)
    obtain ⟨_, e8⟩ := hS.a8 (by decide)
    obtain ⟨U, e9, hgU, hbU⟩ := hS.a9 (by decide)
    have heS := hS.ext
    rw [e2, e7] at e8
    simp only [List.take, List.drop, fill, Act.put, List.setIfInBounds_toArray, List.set_cons_zero, List.set_cons_succ, Nat.reduceAdd, e8, e9]
    clear hR hS e2 e7 e8 e9
    have hM8 := hG7.ext heS
    have hE27 := HW.out w7 haW7
    have hneL : gL ≠ U := by
      obtain ⟨cs, hcs, _⟩ := hrL
      exact Blk.ne_ hcs hbU (by decide)
    have hneO : gO ≠ U := Blk.ne_ hbO hbU (by decide)
    obtain ⟨v0, v1, v2⟩ := hbU.c3
    have f0 := hbU.frozen 0; have f1 := hbU.frozen 1; have f2 := hbU.frozen 2
    obtain ⟨lo, hlo, elo, llo⟩ := Hpl.out.shuffle
    obtain ⟨fo', hfo, efo, lfo⟩ := Hpo.out.shuffle
    obtain ⟨pt, hpt, ept, lpt⟩ := Hpp.out.shuffle
    have hrl8 := hrl7.congr elo; have hro8 := hro7.congr efo; have hrp8 := hrp.congr ept
    have Hlo := Lib.hid hlo; have Hfo := Lib.hid hfo; have Hpt := Lib.hid hpt; have Llo := Lib.hid llo; have Lfo := Lib.hid lfo; have Lpt := Lib.hid lpt
    obtain ⟨k0, k1, k2⟩ := hM8.c3
    clear Hpl Hpo Hpp elo efo ept hlo hfo hpt llo lfo lpt hrl7 hro7 hrp Hmk Hmk2
    go_upto_region 4 with fail
    obtain ⟨W8, hW8⟩ : ∃ W8, ((W'.setCell ⟨U, 0, none⟩ (.slice (some ⟨gL, 0, none⟩) m.laced.length m.laced.length)).setCell ⟨U, 1, none⟩ (.int .i64 m.change)).setCell ⟨U, 2, none⟩ (.slice (some ⟨gO, 0, none⟩) m.orders.length m.orders.length) = W8 := ⟨_, rfl⟩
    have hb8 : Blk W8 U 25 #[.slice (some ⟨gL, 0, none⟩) m.laced.length m.laced.length, .int .i64 m.change, .slice (some ⟨gO, 0, none⟩) m.orders.length m.orders.length] := by
      rw [← hW8]; exact ((hbU.set_ 0 _).set_ 1 _).set_ 2 _
    have hE8 : Ext w7 W8 := by
      rw [← hW8]
      exact Below.setCell (Below.setCell (Below.setCell heS hgU _) hgU _) hgU _
    have hrL8 : Row W8 gL m.laced.length (fun _ => 0) := by
      rw [← hW8]; exact ((hrL.far hneL _).far hneL _).far hneL _
    have hbO8 : Blk W8 gO 78 cur0 := by
      rw [← hW8]; exact ((hbO.far hneO _).far hneO _).far hneO _
    rw [hW8]
    have Hm2 := Lib.hid (Hm.out)
    clear hW8 hrL hbO hbU v0 v1 v2 f0 f1 f2 k0 k1 k2 hM8 Hm haW7
    -- the looms
    obtain ⟨k0, k1, k2⟩ := (hG7.ext hE8).c3
    go_wp2_with fail
    clear k0 k1 k2
    go_loopw [11, 12, 59] (fun _ _ iv wr => ∃ (k : Nat) (F : Nat → Int), k ≤ m.laced.length ∧ iv = .int .i64 k ∧ Ext w7 wr ∧ Blk wr U 25 #[.slice (some ⟨gL, 0, none⟩) m.laced.length m.laced.length, .int .i64 m.change, .slice (some ⟨gO, 0, none⟩) m.orders.length m.orders.length] ∧ Blk wr gO 78 cur0 ∧ Hid (Row wr gL m.laced.length F ∧ ∀ i, i < k → F (lo i) = phi pt (m.laced[i]?.getD 0))) (fun _ _ iv _ => m.laced.length - (intOf iv).toNat)
    case atStart => exact ⟨0, _, by omega, rfl, hE8, hb8, hbO8, hrL8, fun i hi => by omega⟩
    case round =>
      clear hE8 hb8 hbO8 hrL8
      obtain ⟨k, F, hk, rfl, he, hbU, hbO, hF⟩ := hrel
      obtain ⟨k0, k1, k2⟩ := (hG7.ext he).c3
      by_cases hlt : k < m.laced.length
      · obtain ⟨A1', c1', A2', c2', e1, -, -, -, -, hI, -⟩ := Hm2.out
        simp only [Value.agg.injEq, Array.mk.injEq, List.cons.injEq, Value.slice.injEq, true_and, and_true] at e1
        obtain ⟨⟨rfl, rfl⟩, rfl, rfl⟩ := e1
        obtain ⟨b, o, rfl, hc⟩ := hI k hlt
        have hc := (hE27.trans he).cell hc
        have hlk := Llo.out k hlt
        have hp0 := Hok.out.laced (m.laced[k]?.getD 0) (by simp [hlt])
        obtain ⟨p, hp⟩ : ∃ p, m.laced[k]?.getD 0 = p := ⟨_, rfl⟩
        rw [hp] at hc hp0
        have Hp := Lib.hid hp
        have s1 := (hrl8.ext he).cell hlt
        obtain ⟨lk, hlk'⟩ : ∃ lk, lo k = lk := ⟨_, rfl⟩
        rw [hlk'] at hlk s1
        have Hlk := Lib.hid hlk'
        have fL := hF.out.1.frozen lk
        have cL := hF.out.1.cell hlk
        obtain ⟨u0, u1, u2⟩ := hbU.c3
        clear hI hp hlk'
        have heo := he; clear he
        have hneU : gL ≠ U := by
          obtain ⟨cs, hcs, _⟩ := hF.out.1
          exact Blk.ne_ hcs hbU (by decide)
        have hneG : gL ≠ gO := by
          obtain ⟨cs, hcs, _⟩ := hF.out.1
          exact Blk.ne_ hcs hbO (by decide)
        -- what a store into the row leaves
        have hst : ∀ (W : World) (F : Nat → Int) (x : Int), Ext w7 W → Blk W U 25 #[.slice (some ⟨gL, 0, none⟩) m.laced.length m.laced.length, .int .i64 m.change, .slice (some ⟨gO, 0, none⟩) m.orders.length m.orders.length] → Blk W gO 78 cur0 → Row W gL m.laced.length F →
            Ext w7 (W.setCell ⟨gL, lk, none⟩ (.int .i64 x)) ∧ Blk (W.setCell ⟨gL, lk, none⟩ (.int .i64 x)) U 25 #[.slice (some ⟨gL, 0, none⟩) m.laced.length m.laced.length, .int .i64 m.change, .slice (some ⟨gO, 0, none⟩) m.orders.length m.orders.length] ∧ Blk (W.setCell ⟨gL, lk, none⟩ (.int .i64 x)) gO 78 cur0 ∧ Row (W.setCell ⟨gL, lk, none⟩ (.int .i64 x)) gL m.laced.length (fun j => if j = lk then x else F j) := fun W F x h1 h2 h3 h4 =>
          ⟨Below.setCell h1 (by show _ ≤ gL; omega) _, h2.far (Ne.symm hneU) _, h3.far (Ne.symm hneG) _, h4.set_ hlk x⟩
        have Hst := Lib.hid hst
        clear hst
        by_cases hp1 : p = -1
        · have hd : (p != -1) = false := by simp [hp1]
          have Hp1 := Lib.hid hp1
          clear hp1
          go_wp2_with fail
          refine wp_region_chain 6 [] [] (by kernel_rfl) (by kernel_rfl) (by kernel_rfl) ?_
          simp only [List.take, List.drop, fill, Act.put, List.setIfInBounds_toArray, List.set_cons_zero, List.set_cons_succ, Nat.reduceAdd]
          repeat (first
            | refine Floats.mut rfl ?_
            | (apply Floats.float rfl
               · intro x W he hd K Q hK
                 try (have he := he (by decide); have u0 := he.cell u0; have s1 := he.cell s1)
                 try simp only [edges, DepsE, List.filter_cons, List.filter_nil, Region.binds, if_true, and_true, true_and, upd, Nat.reduceEqDiff, if_false] at hd
                 try simp only [hd] at hK ⊢
                 have HK := Lib.hid hK; clear hK
                 go_wp2_with fail
                 exact HK.out))
          refine Floats.done fun W he hG => ?_
          refine Chain.nil ?_
          simp only [upd, Nat.reduceEqDiff, if_false, if_true]
          obtain ⟨z1, z2, z3, z4⟩ := Hst.out W F (-1) (heo.trans he) (hbU.ext he) (hbO.ext he) (hF.out.1.ext he)
          have cL := he.cell cL
          have fL := (hF.out.1.ext he).frozen lk
          clear he hG u0 u1 u2 k0 k1 k2 s1 hc
          go_wp2_with fail
          go_roundw
          case rel =>
            refine ⟨k + 1, _, by omega, by go_num, z1, z2, z3, z4, fun i hi => ?_⟩
            by_cases ei : i = k
            · subst ei
              rw [if_pos Hlk.out, Hp.out, Hp1.out]; rfl
            · rw [if_neg (fun h => ei (Hlo.out.inj (by omega) hlt (by rw [h, Hlk.out])))]
              exact hF.out.2 i (by omega)
          case measure => simp [intOf]; omega
        · have hd : (p != -1) = true := by simpa using hp1
          obtain ⟨pn, rfl⟩ : ∃ pn : Nat, p = (pn : Int) := ⟨p.toNat, by omega⟩
          have hpn : pn < 10 := by omega
          clear hp1
          go_wp2_with fail
          refine wp_region_chain 6 [] [] (by kernel_rfl) (by kernel_rfl) (by kernel_rfl) ?_
          simp only [List.take, List.drop, fill, Act.put, List.setIfInBounds_toArray, List.set_cons_zero, List.set_cons_succ, Nat.reduceAdd]
          repeat (first
            | refine Floats.mut rfl ?_
            | (apply Floats.float rfl
               · intro x W he hd K Q hK
                 try (have he := he (by decide); have u0 := he.cell u0; have s1 := he.cell s1)
                 try simp only [edges, DepsE, List.filter_cons, List.filter_nil, Region.binds, if_true, and_true, true_and, upd, Nat.reduceEqDiff, if_false] at hd
                 try simp only [hd] at hK ⊢
                 have HK := Lib.hid hK; clear hK
                 go_wp2_with fail
                 exact HK.out))
          refine Floats.done fun W he hG => ?_
          refine Chain.nil ?_
          simp only [upd, Nat.reduceEqDiff, if_false, if_true]
          obtain ⟨z1, z2, z3, z4⟩ := Hst.out W F (-1) (heo.trans he) (hbU.ext he) (hbO.ext he) (hF.out.1.ext he)
          have cL := he.cell cL
          have fL := (hF.out.1.ext he).frozen lk
          clear he hG u0 u1 u2 k0 k1 k2 s1 hc
          go_wp2_with fail
          generalize W.setCell ⟨gL, lk, none⟩ (.int .i64 (-1)) = W1 at *
          clear cL fL
          obtain ⟨u0, u1, u2⟩ := z2.c3
          have s1 := (hrl8.ext z1).cell hlt
          rw [Hlk.out] at s1
          have sp := (hrp8.ext z1).cell hpn
          have cL := z4.cell hlk
          have fL := z4.frozen lk
          simp only [if_true] at cL
          have hpn10 : (pn : Int) < 10 := by omega
          refine wp_region_chain 10 [] [] (by kernel_rfl) (by kernel_rfl) (by kernel_rfl) ?_
          simp only [List.take, List.drop, fill, Act.put, List.setIfInBounds_toArray, List.set_cons_zero, List.set_cons_succ, Nat.reduceAdd]
          repeat (first
            | refine Floats.mut rfl ?_
            | (apply Floats.float rfl
               · intro x W he hd K Q hK
                 try (have he := he (by decide); have u0 := he.cell u0; have s1 := he.cell s1; have sp := he.cell sp)
                 try simp only [edges, DepsE, List.filter_cons, List.filter_nil, Region.binds, if_true, and_true, true_and, upd, Nat.reduceEqDiff, if_false] at hd
                 try simp only [hd] at hK ⊢
                 have HK := Lib.hid hK; clear hK
                 go_wp2_with fail
                 exact HK.out))
          refine Floats.done fun W he hG => ?_
          refine Chain.nil ?_
          simp only [upd, Nat.reduceEqDiff, if_false, if_true]
          obtain ⟨y1, y2, y3, y4⟩ := Hst.out W _ (pt pn) (z1.trans he) (z2.ext he) (z3.ext he) (z4.ext he)
          have cL := he.cell cL
          have fL := (z4.ext he).frozen lk
          clear he hG u0 u1 u2 s1 sp z1 z2 z3 z4
          go_wp2_with fail
          go_roundw
          case rel =>
            refine ⟨k + 1, _, by omega, by go_num, y1, y2, y3, y4, fun i hi => ?_⟩
            by_cases ei : i = k
            · subst ei
              rw [if_pos Hlk.out, Hp.out]
              unfold phi
              rw [if_neg (by omega)]; rfl
            · have hne : lo i ≠ lk := fun h => ei (Hlo.out.inj (by omega) hlt (by rw [h, Hlk.out]))
              rw [if_neg hne, if_neg hne]
              exact hF.out.2 i (by omega)
          case measure => simp [intOf]; omega
      · have hkL : k = m.laced.length := by omega
        subst hkL
        have HF := Lib.hid hF.out
        clear hF
        go_wp2_with fail
        clear k0 k1 k2
        go_loopw [13, 14, 15, 17, 88] (fun _ _ _ _ iv wr => ∃ (k : Nat) (cur : Array Value), k ≤ m.orders.length ∧ iv = .int .i64 k ∧ Ext w7 wr ∧ Blk wr U 25 #[.slice (some ⟨gL, 0, none⟩) m.laced.length m.laced.length, .int .i64 m.change, .slice (some ⟨gO, 0, none⟩) m.orders.length m.orders.length] ∧ Blk wr gO 78 cur ∧ Hid (Row wr gL m.laced.length F) ∧ Hid (cur.size = m.orders.length * 4) ∧
            Hid (∀ i, i < k → ∃ s, cur[fo' i * 4]? = some (.int .i64 (phi pt (m.pat i))) ∧ cur[fo' i * 4 + 1]? = some (.int .i64 (m.dys i)) ∧ cur[fo' i * 4 + 2]? = some (.int .i64 (m.byy i)) ∧ cur[fo' i * 4 + 3]? = some s ∧ OwnI wr w7.heap.size 3 s ((((m.orders[i]?.getD default).on).map fun x => (lo x.toNat : Int)).mergeSort fun x y => decide (x ≤ y)))) (fun _ _ _ _ iv _ => m.orders.length - (intOf iv).toNat)
        case atStart => exact ⟨0, cur0, by omega, rfl, he, hbU, hbO, HF.out.1, hcur0, fun i hi => by omega⟩
        case round =>
          clear he hbU hbO
          obtain ⟨k, cur, hk, rfl, he, hbU, hbO, hrF, hcs, hO⟩ := hrel
          obtain ⟨k0, k1, k2⟩ := (hG7.ext he).c3
          by_cases hlt : k < m.orders.length
          · obtain ⟨A1', c1', A2', c2', e1, -, -, -, -, -, hOr⟩ := Hm2.out
            simp only [Value.agg.injEq, Array.mk.injEq, List.cons.injEq, Value.slice.injEq, true_and, and_true] at e1
            obtain ⟨⟨rfl, rfl⟩, rfl, rfl⟩ := e1
            obtain ⟨b, o, rfl, A3, c3, hca, q1, q2, q3, q4, hI3⟩ := (hOr.ext (hE27.trans he)) k hlt
            have hoo := Hok.out.ords (m.orders[k]?.getD default) (by simp [hlt])
            have hon3 := Hok.out.on3 hlt
            obtain ⟨x0, hx0⟩ : ∃ x0, m.orders[k]?.getD default = x0 := ⟨_, rfl⟩
            rw [hx0] at hca q1 q2 q3 q4 hI3 hoo hon3
            have Hx0 := Lib.hid hx0
            obtain ⟨pn, hpn⟩ : ∃ pn : Nat, x0.pattern = (pn : Int) := ⟨x0.pattern.toNat, by have := hoo.pat; omega⟩
            have hpn10 : pn < 10 := by have := hoo.pat; omega
            rw [hpn] at q1
            obtain ⟨dy, hdy⟩ : ∃ dy, x0.days = dy := ⟨_, rfl⟩
            obtain ⟨by', hby⟩ : ∃ by', x0.by_ = by' := ⟨_, rfl⟩
            rw [hdy] at q2; rw [hby] at q3
            have Hpn := Lib.hid hpn; have Hdy := Lib.hid hdy; have Hby := Lib.hid hby
            have Hoo := Lib.hid hoo
            have hX := Ext.alloc wr (.cells #[.int .i64 (pn : Int), .int .i64 dy, .int .i64 by', .slice A3 x0.on.length c3] 78)
            have hOb := Blk.new wr 78 #[.int .i64 (pn : Int), .int .i64 dy, .int .i64 by', .slice A3 x0.on.length c3]
            have HI3 := Lib.hid (hI3.ext hX)
            have he3 := he.trans hX; have hbU3 := hbU.ext hX; have hbO3 := hbO.ext hX; have hrF3 := Lib.hid (hrF.out.ext hX)
            have hO3 : Hid (∀ i, i < k → ∃ s, cur[fo' i * 4]? = some (.int .i64 (phi pt (m.pat i))) ∧ cur[fo' i * 4 + 1]? = some (.int .i64 (m.dys i)) ∧ cur[fo' i * 4 + 2]? = some (.int .i64 (m.byy i)) ∧ cur[fo' i * 4 + 3]? = some s ∧ OwnI (wr.alloc (.cells #[.int .i64 (pn : Int), .int .i64 dy, .int .i64 by', .slice A3 x0.on.length c3] 78)) w7.heap.size 3 s ((((m.orders[i]?.getD default).on).map fun x => (lo x.toNat : Int)).mergeSort fun x y => decide (x ≤ y))) := fun i hi => by
              obtain ⟨s, g1, g2, g3, g4, g5⟩ := hO.out i hi
              exact ⟨s, g1, g2, g3, g4, g5.ext hX⟩
            have hOg : gO < wr.heap.size := hbO.lt
            clear hI3 hx0 hpn hdy hby hoo he hbU hbO hrF hO hOr
            go_wp2_with fail
            obtain ⟨O, hOe⟩ : ∃ O, wr.heap.size = O := ⟨_, rfl⟩
            rw [hOe] at hOb hOg ⊢
            generalize wr.alloc _ = W3 at *
            clear hX hOe q1 q2 q3 q4 k0 k1 k2
            have hsz3 := he3.size
            go_loopw [15, 17, 96] (fun lv _ jv wr => ∃ (l : Value) (j : Nat), l = lv ∧ j ≤ x0.on.length ∧ jv = .int .i64 j ∧ Ext W3 wr ∧ Hid (OwnI wr W3.heap.size 3 l ((x0.on.take j).map fun x => (lo x.toNat : Int)))) (fun _ _ jv _ => x0.on.length - (intOf jv).toNat)
            case atStart => exact ⟨_, 0, rfl, by omega, rfl, Ext.refl _, by unfold Hid; simpa using OwnI.nil _ _ _⟩
            case round =>
              obtain ⟨l, j, rfl, hj, rfl, hej, hl⟩ := hrel
              have hszj := hej.size
              by_cases hltj : j < x0.on.length
              · obtain ⟨b3, o3, rfl, hc3⟩ := HI3.out j hltj
                have hc3 := hej.cell hc3
                have hxr := Hoo.out.on (x0.on[j]?.getD 0) (by simp [hltj])
                obtain ⟨xn, hxn⟩ : ∃ xn : Nat, x0.on[j]?.getD 0 = (xn : Int) := ⟨(x0.on[j]?.getD 0).toNat, by omega⟩
                rw [hxn] at hc3 hxr
                have hxL : xn < m.laced.length := by omega
                have sx := (hrl8.ext (he3.trans hej)).cell hxL
                have Hxn := Lib.hid hxn
                obtain ⟨A5, c5, rfl, r1, r2, -, -, -⟩ := hl.out.open_
                have hX5 := Ext.alloc wr (.cells #[.int .i64 (lo xn : Int)] 3)
                have hlX := hl.out.ext hX5
                have hsrc := Src.one wr (.int .i64 (lo xn : Int)) 3
                have hil : ((x0.on.take j).map fun x => (lo x.toNat : Int)).length = j := by simp; omega
                have hszw := (hej.trans hX5).size
                have hApp : ∀ v' w14, w14.ownsRow W3.heap.size 3 1 v' (j + 1) (((x0.on.take j).map fun x => (lo x.toNat : Int)).map (Value.int .i64) ++ [.int .i64 (lo xn : Int)]) → (wr.alloc (.cells #[.int .i64 (lo xn : Int)] 3)).grownBy w14 (Value.slice A5 j c5).ownBlock →
                    Ext W3 w14 ∧ Hid (OwnI w14 W3.heap.size 3 v' ((x0.on.take (j + 1)).map fun x => (lo x.toNat : Int))) := by
                  intro v' w14 hown hg
                  rw [show (Value.slice A5 j c5).ownBlock = (Value.slice A5 ((x0.on.take j).map fun x => (lo x.toNat : Int)).length c5).ownBlock by rw [hil]] at hg
                  refine ⟨Below.grown (hej.trans hX5) hg hszw (fun g hg' => (hl.out.own_lt g hg').1), ?_⟩
                  have e : x0.on[j] = (xn : Int) := by have := Hxn.out; rw [List.getElem?_eq_getElem hltj] at this; exact this
                  rw [List.take_succ_eq_append_getElem hltj, List.map_append, e]
                  unfold Hid OwnI
                  rw [List.length_append, List.map_append, hil]
                  exact hown
                have HApp := Lib.hid hApp
                have hrow : (wr.alloc (.cells #[.int .i64 (lo xn : Int)] 3)).ownsRow W3.heap.size 3 1 (.slice A5 j c5) j (((x0.on.take j).map fun x => (lo x.toNat : Int)).map (Value.int .i64)) := by
                  have := hlX
                  unfold OwnI at this
                  rwa [hil] at this
                have Hxs := Lib.hid hil
                rw [hil] at r1
                have hlo2 := Llo.out xn hxL
                rw [Hxs.out]
                clear hApp hl hlX hil hxn Hxs
                go_wp2_with (at_builtin; refine wpList_app rfl _ _ 22 rfl W3.heap.size 3 ti (.int .i64 0) 1 8 Try.underlying22 hi hz0 hz1 hz2 rfl (by decide) (.slice A5 j c5) j _ rfl hrow (some ⟨wr.heap.size, 0, none⟩) 1 1 [.int .i64 (lo xn : Int)] rfl rfl hsrc ?c2 ?c3 ?c4 ?c5 ?_; (case c2 => (intro u hu; rw [List.mem_singleton] at hu; subst hu; rfl)); (case c3 => (unfold maxLen; omega)); (case c4 => omega); (case c5 => omega); intro v' w14 hown hg hblk; obtain ⟨n1, n3⟩ := HApp.out v' w14 hown hg; clear hsrc)
                go_roundw
                case rel => exact ⟨_, j + 1, rfl, by omega, by go_num, n1, n3⟩
                case measure => simp [intOf]; omega
              · have hjL : j = x0.on.length := by omega
                subst hjL
                have hl9 := hl.out
                rw [List.take_length] at hl9
                have hso := Lib.hid (sortI W3.heap.size _ _ wr hl9 (by rw [List.length_map]; omega))
                have Hl9 := Lib.hid hl9
                obtain ⟨on', hon'⟩ : ∃ on', ((x0.on.map fun x => (lo x.toNat : Int)).mergeSort fun x y => decide (x ≤ y)) = on' := ⟨_, rfl⟩
                rw [hon'] at hso
                have Hon' := Lib.hid hon'
                clear hl hl9 hon'
                go_wp2_with fail
                refine hso.out.mono ?_
                rintro e w9 ⟨rfl, hl9, hg9⟩
                obtain ⟨A9, c9, rfl, -, -, -, -, -⟩ := hl9.open_
                have he9 : Ext W3 w9 := Below.grown hej hg9 hszj (fun j hj => (Hl9.out.own_lt j hj).1)
                have heo := he3.trans he9
                have hbU9 := hbU3.ext he9; have hbO9 := hbO3.ext he9; have hrF9 := hrF3.out.ext he9
                have hO9 : Hid (∀ i, i < k → ∃ s, cur[fo' i * 4]? = some (.int .i64 (phi pt (m.pat i))) ∧ cur[fo' i * 4 + 1]? = some (.int .i64 (m.dys i)) ∧ cur[fo' i * 4 + 2]? = some (.int .i64 (m.byy i)) ∧ cur[fo' i * 4 + 3]? = some s ∧ OwnI w9 w7.heap.size 3 s ((((m.orders[i]?.getD default).on).map fun x => (lo x.toNat : Int)).mergeSort fun x y => decide (x ≤ y))) := fun i hi => by
                  obtain ⟨s, g1, g2, g3, g4, g5⟩ := hO3.out i hi
                  exact ⟨s, g1, g2, g3, g4, g5.ext he9⟩
                obtain ⟨u0, u1, u2⟩ := hbU9.c3
                have so := (hro8.ext heo).cell hlt
                have sp := (hrp8.ext heo).cell hpn10
                obtain ⟨o0, o1, o2, o3⟩ := (hOb.ext he9).c4
                have hfk := Lfo.out k hlt
                obtain ⟨fk, hfk'⟩ : ∃ fk, fo' k = fk := ⟨_, rfl⟩
                rw [hfk'] at so hfk
                have Hfk := Lib.hid hfk'
                have HL9 := Lib.hid hl9; have HrF9 := Lib.hid hrF9
                have hpn10' : (pn : Int) < 10 := by omega
                clear hso Hl9 hej hbU3 hbO3 hrF3 hO3 hfk' hrF9
                go_wp2_with fail
                refine wp_region_chain 17 [] [] (by kernel_rfl) (by kernel_rfl) (by kernel_rfl) ?_
                simp only [List.take, List.drop, fill, Act.put, List.setIfInBounds_toArray, List.set_cons_zero, List.set_cons_succ, Nat.reduceAdd]
                repeat (first
                  | refine Floats.mut rfl ?_
                  | (apply Floats.float rfl
                     · intro x W he hd K Q hK
                       try (have he := he (by decide); have u0 := he.cell u0; have u2 := he.cell u2; have so := he.cell so; have sp := he.cell sp; have o0 := he.cell o0; have o1 := he.cell o1; have o2 := he.cell o2; have o3 := he.cell o3)
                       try simp only [edges, DepsE, List.filter_cons, List.filter_nil, Region.binds, if_true, and_true, true_and, upd, Nat.reduceEqDiff, if_false] at hd
                       try simp only [hd] at hK ⊢
                       have HK := Lib.hid hK; clear hK
                       go_wp2_with fail
                       exact HK.out))
                refine Floats.done fun W he hG => ?_
                refine Chain.nil ?_
                simp only [upd, Nat.reduceEqDiff, if_false, if_true]
                have hX := heo.trans he
                have hbU10 := hbU9.ext he; have hbO10 := hbO9.ext he; have hrF10 := HrF9.out.ext he
                have hO10 : Hid (∀ i, i < k → ∃ s, cur[fo' i * 4]? = some (.int .i64 (phi pt (m.pat i))) ∧ cur[fo' i * 4 + 1]? = some (.int .i64 (m.dys i)) ∧ cur[fo' i * 4 + 2]? = some (.int .i64 (m.byy i)) ∧ cur[fo' i * 4 + 3]? = some s ∧ OwnI W w7.heap.size 3 s ((((m.orders[i]?.getD default).on).map fun x => (lo x.toNat : Int)).mergeSort fun x y => decide (x ≤ y))) := fun i hi => by
                  obtain ⟨s, g1, g2, g3, g4, g5⟩ := hO9.out i hi
                  exact ⟨s, g1, g2, g3, g4, g5.ext he⟩
                have hcz := hcs.out
                have hne1 : U ≠ gO := Ne.symm hneO
                have hne2 : gL ≠ gO := by
                  obtain ⟨cs, hcs, _⟩ := hrF10
                  exact Blk.ne_ hcs hbO10 (by decide)
                have hz : ∀ t, t < 4 → ∃ z, W.cell? ⟨gO, fk * 4 + t, none⟩ = some z := fun t ht => ⟨_, (hbO10.cell _).trans (Array.getElem?_eq_getElem (by omega))⟩
                obtain ⟨z0, e0⟩ := hz 0 (by omega)
                obtain ⟨z1, e1⟩ := hz 1 (by omega)
                obtain ⟨z2, e2⟩ := hz 2 (by omega)
                obtain ⟨z3, e3⟩ := hz 3 (by omega)
                rw [Nat.add_zero] at e0
                have f0 := hbO10.frozen (fk * 4); have f1 := hbO10.frozen (fk * 4 + 1); have f2 := hbO10.frozen (fk * 4 + 2); have f3 := hbO10.frozen (fk * 4 + 3)
                obtain ⟨gz1, ⟨gz2, gz3, gz4, gz5⟩, gz6⟩ := four_set hcz hfk (.int .i64 (pt pn : Int)) (.int .i64 dy) (.int .i64 by') (.slice A9 on'.length c9)
                have hfin := Lib.hid (And.intro gz1 (And.intro (And.intro gz2 (And.intro gz3 (And.intro gz4 gz5))) gz6))
                have hrest : Ext w7 ((((W.setCell ⟨gO, fk * 4, none⟩ (.int .i64 (pt pn : Int))).setCell ⟨gO, fk * 4 + 1, none⟩ (.int .i64 dy)).setCell ⟨gO, fk * 4 + 2, none⟩ (.int .i64 by')).setCell ⟨gO, fk * 4 + 3, none⟩ (.slice A9 on'.length c9)) ∧
                    Blk ((((W.setCell ⟨gO, fk * 4, none⟩ (.int .i64 (pt pn : Int))).setCell ⟨gO, fk * 4 + 1, none⟩ (.int .i64 dy)).setCell ⟨gO, fk * 4 + 2, none⟩ (.int .i64 by')).setCell ⟨gO, fk * 4 + 3, none⟩ (.slice A9 on'.length c9)) U 25 #[.slice (some ⟨gL, 0, none⟩) m.laced.length m.laced.length, .int .i64 m.change, .slice (some ⟨gO, 0, none⟩) m.orders.length m.orders.length] ∧
                    Row ((((W.setCell ⟨gO, fk * 4, none⟩ (.int .i64 (pt pn : Int))).setCell ⟨gO, fk * 4 + 1, none⟩ (.int .i64 dy)).setCell ⟨gO, fk * 4 + 2, none⟩ (.int .i64 by')).setCell ⟨gO, fk * 4 + 3, none⟩ (.slice A9 on'.length c9)) gL m.laced.length F ∧
                    Blk ((((W.setCell ⟨gO, fk * 4, none⟩ (.int .i64 (pt pn : Int))).setCell ⟨gO, fk * 4 + 1, none⟩ (.int .i64 dy)).setCell ⟨gO, fk * 4 + 2, none⟩ (.int .i64 by')).setCell ⟨gO, fk * 4 + 3, none⟩ (.slice A9 on'.length c9)) gO 78 ((((cur.setIfInBounds (fk * 4) (.int .i64 (pt pn : Int))).setIfInBounds (fk * 4 + 1) (.int .i64 dy)).setIfInBounds (fk * 4 + 2) (.int .i64 by')).setIfInBounds (fk * 4 + 3) (.slice A9 on'.length c9)) ∧
                    ∀ (s : Value) (xs : List Int), OwnI W w7.heap.size 3 s xs → OwnI ((((W.setCell ⟨gO, fk * 4, none⟩ (.int .i64 (pt pn : Int))).setCell ⟨gO, fk * 4 + 1, none⟩ (.int .i64 dy)).setCell ⟨gO, fk * 4 + 2, none⟩ (.int .i64 by')).setCell ⟨gO, fk * 4 + 3, none⟩ (.slice A9 on'.length c9)) w7.heap.size 3 s xs :=
                  ⟨Below.setCell (Below.setCell (Below.setCell (Below.setCell hX hgO _) hgO _) hgO _) hgO _, (((hbU10.far hne1 _).far hne1 _).far hne1 _).far hne1 _, (((hrF10.far hne2 _).far hne2 _).far hne2 _).far hne2 _, (((hbO10.set_ _ _).set_ _ _).set_ _ _).set_ _ _,
                    fun s xs h => (((h.far hbO10 (by decide) _ _).far (hbO10.set_ _ _) (by decide) _ _).far ((hbO10.set_ _ _).set_ _ _) (by decide) _ _).far (((hbO10.set_ _ _).set_ _ _).set_ _ _) (by decide) _ _⟩
                have Hrest := Lib.hid hrest
                have hl10 := Lib.hid ((HL9.out.ext he).mono (show w7.heap.size ≤ W3.heap.size by omega))
                clear hrest gz1 gz2 gz3 gz4 gz5 gz6 hz hcz hrF10 hbU10 hbO10 he hG u0 u1 u2 so sp o0 o1 o2 o3
                go_wp2_with fail
                go_roundw
                case rel =>
                  obtain ⟨r1, r2, r3, r4, r5⟩ := Hrest.out
                  obtain ⟨f1, ⟨f2, f3, f4, f5⟩, f6⟩ := hfin.out
                  refine ⟨k + 1, _, by omega, by go_num, r1, r2, r4, r3, f1, fun i hi => ?_⟩
                  by_cases ei : i = k
                  · subst ei
                    rw [Hfk.out]
                    refine ⟨_, ?_, ?_, ?_, f5, ?_⟩
                    · rw [f2]; unfold Mill.pat phi; rw [Hx0.out, Hpn.out, if_neg (by omega)]; rfl
                    · rw [f3]; unfold Mill.dys; rw [Hx0.out, Hdy.out]
                    · rw [f4]; unfold Mill.byy; rw [Hx0.out, Hby.out]
                    · rw [Hx0.out, Hon'.out]; exact r5 _ _ hl10.out
                  · have hne : fo' i ≠ fk := fun h => ei (Hfo.out.inj (by omega) hlt (by rw [h, Hfk.out]))
                    obtain ⟨s, g1, g2, g3, g4, g5⟩ := hO10.out i (by omega)
                    refine ⟨s, ?_, ?_, ?_, ?_, r5 _ _ g5⟩
                    · have h0 := f6 (fo' i) 0 hne (by omega)
                      exact h0.trans g1
                    · rw [f6 _ 1 hne (by omega)]; exact g2
                    · rw [f6 _ 2 hne (by omega)]; exact g3
                    · rw [f6 _ 3 hne (by omega)]; exact g4
                case measure => simp [intOf]; omega
          · have hkn : k = m.orders.length := by omega
            subst hkn
            obtain ⟨gi, hg1, hg2, hg3⟩ := Hfo.out.inv
            obtain ⟨u, hu⟩ : ∃ u : Mill, u = ⟨(List.range m.laced.length).map F, m.change, (List.range m.orders.length).map fun j => ⟨phi pt (m.pat (gi j)), m.dys (gi j), m.byy (gi j), ((((m.orders[gi j]?.getD default).on).map fun x => (lo x.toNat : Int)).mergeSort fun x y => decide (x ≤ y))⟩⟩ := ⟨_, rfl⟩
            have hul : u.laced.length = m.laced.length := by rw [hu]; simp
            have hun : u.orders.length = m.orders.length := by rw [hu]; simp
            have huc : u.change = m.change := by rw [hu]
            have hua : ∀ k, k < m.laced.length → u.laced[k]?.getD 0 = F k := fun k hk => by rw [hu]; simp [hk]
            have huo : ∀ j, j < m.orders.length → u.orders[j]?.getD default = ⟨phi pt (m.pat (gi j)), m.dys (gi j), m.byy (gi j), ((((m.orders[gi j]?.getD default).on).map fun x => (lo x.toNat : Int)).mergeSort fun x y => decide (x ≤ y))⟩ := fun j hj => by rw [hu]; simp [hj]
            obtain ⟨hren, huok⟩ := ren_mk (u := u) Hok.out Hlo.out Hfo.out Hpt.out hul hun huc (fun k hk => by rw [hua _ (Llo.out k hk)]; exact HF.out.2 k hk) (fun j hj => by rw [huo _ (Lfo.out j hj), hg2 j hj])
            have huv : MillVal wr (.agg #[.slice (some ⟨gL, 0, none⟩) m.laced.length m.laced.length, .int .i64 m.change, .slice (some ⟨gO, 0, none⟩) m.orders.length m.orders.length]) u := by
              refine ⟨_, _, _, _, by rw [hul, hun, huc], by omega, by unfold maxLen; omega, by omega, by unfold maxLen; omega, fun k hk => ?_, fun j hj => ?_⟩
              · rw [hul] at hk
                refine ⟨_, _, rfl, ?_⟩
                rw [hua k hk, Nat.zero_add]
                exact hrF.out.cell hk
              · rw [hun] at hj
                have hgj := hg1.lt hj
                obtain ⟨s, g1, g2, g3, g4, g5⟩ := hO.out (gi j) hgj
                rw [hg3 j hj] at g1 g2 g3 g4
                obtain ⟨As, cs', e, y1, y2, y3, _, _⟩ := g5.open_
                refine ⟨_, _, rfl, As, cs', ?_, ?_, ?_, ?_, ?_, ?_⟩
                · rw [huo j hj]; exact ⟨y1, y2⟩
                · rw [huo j hj, Nat.zero_add]; exact (hbO.cell _).trans g1
                · rw [huo j hj, Nat.zero_add]; exact (hbO.cell _).trans g2
                · rw [huo j hj, Nat.zero_add]; exact (hbO.cell _).trans g3
                · rw [huo j hj, Nat.zero_add, ← e]; exact (hbO.cell _).trans g4
                · rw [huo j hj]; exact y3
            have huch := (check_iff u).2 huok
            obtain ⟨w1, w2', w3⟩ := hren.law Hch.out huch
            have Hw1 := Lib.hid w1; have Hw2 := Lib.hid w2'; have Hw3 := Lib.hid w3; have Huch := Lib.hid huch; have huv := Lib.hid huv
            have Huk := Lib.hid huok
            have hmv := Lib.hid (Hm2.out.ext (hE27.trans he))
            have hEw := hE.trans (hE27.trans he)
            have hM5 := hG7.ext he
            clear w1 w2' w3 huch hren huok hua huo hul hun huc hu hg1 hg2 hg3 hO hrF hbO hcs HF hrl8 hro8 hrp8 hcur0 heS hgU hgL hgO hneL hneO
            obtain ⟨k0, k1, k2⟩ := hM5.c3
            obtain ⟨u0, u1, u2⟩ := hbU.c3
            have hpl := Lib.hid (plan_ok _ m Hch.out wr hmv.out)
            have hplan : ∀ (e : Ending) (wz : World), ((planF m = none ∧ e = .returned (.tuple #[.slice none 0 0, .int .i64 6]) ∧ Ext wr wz) ∨ (∃ rows r, planF m = some rows ∧ e = .returned (.tuple #[r, .int .i64 0]) ∧ RowsI wz r rows ∧ Ext wr wz)) →
                ∃ rm em, e = .returned (.tuple #[rm, .int .i64 em]) ∧ ((planF m = none ∧ em = 6) ∨ (em = 0 ∧ ∃ rows, planF m = some rows ∧ RowsI wz rm rows)) ∧ Ext wr wz := by
              rintro e wz (⟨h1, h2, h3⟩ | ⟨rows, r, h1, h2, h3, h4⟩)
              · exact ⟨_, 6, h2, .inl ⟨h1, rfl⟩, h3⟩
              · exact ⟨r, 0, h2, .inr ⟨rfl, rows, h1, h3⟩, h4⟩
            have Hplan := Lib.hid hplan
            clear hplan
            go_wp2_with fail
            refine hpl.out.mono ?_
            rintro e w5 h5
            obtain ⟨rm, em, rfl, hRm, he5⟩ := Hplan.out e w5 h5
            have Rm := Lib.hid hRm
            clear Hplan h5 hRm hpl k0 k1 k2 u0 u1 u2
            replace hM5 := hM5.ext he5; replace hbU := hbU.ext he5; replace hmv := Lib.hid (hmv.out.ext he5); replace huv := Lib.hid (huv.out.ext he5); replace hEw := hEw.trans he5
            clear he5

            obtain ⟨k0, k1, k2⟩ := hM5.c3
            obtain ⟨u0, u1, u2⟩ := hbU.c3
            have hpl := Lib.hid (plan_ok _ u Huch.out w5 huv.out)
            have hplan : ∀ (e : Ending) (wz : World), ((planF u = none ∧ e = .returned (.tuple #[.slice none 0 0, .int .i64 6]) ∧ Ext w5 wz) ∨ (∃ rows r, planF u = some rows ∧ e = .returned (.tuple #[r, .int .i64 0]) ∧ RowsI wz r rows ∧ Ext w5 wz)) →
                ∃ rm em, e = .returned (.tuple #[rm, .int .i64 em]) ∧ ((planF u = none ∧ em = 6) ∨ (em = 0 ∧ ∃ rows, planF u = some rows ∧ RowsI wz rm rows)) ∧ Ext w5 wz := by
              rintro e wz (⟨h1, h2, h3⟩ | ⟨rows, r, h1, h2, h3, h4⟩)
              · exact ⟨_, 6, h2, .inl ⟨h1, rfl⟩, h3⟩
              · exact ⟨r, 0, h2, .inr ⟨rfl, rows, h1, h3⟩, h4⟩
            have Hplan := Lib.hid hplan
            clear hplan
            go_wp2_with fail
            refine hpl.out.mono ?_
            rintro e w6 h5
            obtain ⟨ru, eu, rfl, hRu, he6⟩ := Hplan.out e w6 h5
            have Ru := Lib.hid hRu
            clear Hplan h5 hRu hpl k0 k1 k2 u0 u1 u2
            replace Rm : Hid ((planF m = none ∧ em = 6) ∨ (em = 0 ∧ ∃ rows, planF m = some rows ∧ RowsI w6 rm rows)) := by
              rcases Rm.out with h | ⟨h1, rows, h2, h3⟩
              · exact .inl h
              · exact .inr ⟨h1, rows, h2, h3.ext he6⟩
            replace hM5 := hM5.ext he6; replace hbU := hbU.ext he6; replace hmv := Lib.hid (hmv.out.ext he6); replace huv := Lib.hid (huv.out.ext he6); replace hEw := hEw.trans he6
            clear he6

            obtain ⟨k0, k1, k2⟩ := hM5.c3
            obtain ⟨u0, u1, u2⟩ := hbU.c3
            have hlm := Lib.hid (late_ok _ m Hch.out w6 hmv.out)
            go_wp2_with fail
            refine hlm.out.mono ?_
            rintro e w77 ⟨rx, rfl, hrx, hew77⟩
            obtain ⟨Ax, cx, ex, -, -, -⟩ := (show SlI w77 rx (lateL m) from hrx)
            subst ex
            clear hrx hlm k0 k1 k2 u0 u1 u2
            replace Rm : Hid ((planF m = none ∧ em = 6) ∨ (em = 0 ∧ ∃ rows, planF m = some rows ∧ RowsI w77 rm rows)) := by
              rcases Rm.out with h | ⟨h1, rows, h2, h3⟩
              · exact .inl h
              · exact .inr ⟨h1, rows, h2, h3.ext hew77⟩
            replace Ru : Hid ((planF u = none ∧ eu = 6) ∨ (eu = 0 ∧ ∃ rows, planF u = some rows ∧ RowsI w77 ru rows)) := by
              rcases Ru.out with h | ⟨h1, rows, h2, h3⟩
              · exact .inl h
              · exact .inr ⟨h1, rows, h2, h3.ext hew77⟩
            replace hM5 := hM5.ext hew77; replace hbU := hbU.ext hew77; replace hmv := Lib.hid (hmv.out.ext hew77); replace huv := Lib.hid (huv.out.ext hew77); replace hEw := hEw.trans hew77
            clear hew77

            obtain ⟨k0, k1, k2⟩ := hM5.c3
            obtain ⟨u0, u1, u2⟩ := hbU.c3
            have hlm := Lib.hid (late_ok _ u Huch.out w77 huv.out)
            go_wp2_with fail
            refine hlm.out.mono ?_
            rintro e w8 ⟨ry, rfl, hry, hew8⟩
            obtain ⟨Ay, cy, ey, -, -, -⟩ := (show SlI w8 ry (lateL u) from hry)
            subst ey
            clear hry hlm k0 k1 k2 u0 u1 u2
            replace Rm : Hid ((planF m = none ∧ em = 6) ∨ (em = 0 ∧ ∃ rows, planF m = some rows ∧ RowsI w8 rm rows)) := by
              rcases Rm.out with h | ⟨h1, rows, h2, h3⟩
              · exact .inl h
              · exact .inr ⟨h1, rows, h2, h3.ext hew8⟩
            replace Ru : Hid ((planF u = none ∧ eu = 6) ∨ (eu = 0 ∧ ∃ rows, planF u = some rows ∧ RowsI w8 ru rows)) := by
              rcases Ru.out with h | ⟨h1, rows, h2, h3⟩
              · exact .inl h
              · exact .inr ⟨h1, rows, h2, h3.ext hew8⟩
            replace hM5 := hM5.ext hew8; replace hbU := hbU.ext hew8; replace hmv := Lib.hid (hmv.out.ext hew8); replace huv := Lib.hid (huv.out.ext hew8); replace hEw := hEw.trans hew8
            clear hew8

            obtain ⟨k0, k1, k2⟩ := hM5.c3
            obtain ⟨u0, u1, u2⟩ := hbU.c3
            obtain ⟨lx, hlx⟩ : ∃ lx, (lateL m).length = lx := ⟨_, rfl⟩
            have hly : (lateL u).length = lx := by rw [Hw1.out]; exact hlx
            simp only [hlx, hly]
            have hd1 : ((lx : Int) != (lx : Int)) = false := by simp
            clear hlx hly k0 k1 k2 u0 u1 u2
            rcases Rm.out with ⟨hun, rfl⟩ | ⟨rfl, rowsm, hms, hrm⟩
            · have hnu := Hw2.out.2 hun
              rcases Ru.out with ⟨_, rfl⟩ | ⟨_, rows, hus, _⟩
              · clear Rm Ru hun hnu
                go_wp2_with fail
                refine (awake_any w8).mono ?_
                rintro e w13 ⟨rfl, he13⟩
                go_wp2_with fail
                go_ret
                exact ⟨rfl, hEw.trans he13⟩
              · rw [hnu] at hus; cases hus
            · rcases Ru.out with ⟨hun, _⟩ | ⟨rfl, rowsu, hus, hru⟩
              · have := Hw2.out.1 hun
                rw [hms] at this; cases this
              have hpo := Lib.hid (plan_law Hch.out hms)
              have hpo2 := Lib.hid (plan_law Huch.out hus)
              have hfw := Hw3.out (by rw [hms]; simp)
              have hkp1 := Lib.hid (kept_any _ rm m Hch.out rowsm (by rw [hpo.out.all]; omega) (by rw [hpo.out.len]; omega) true true (by have := hpo.out.kept; unfold keptQ at this; exact (Bool.and_eq_true _ _ ▸ this).1) hpo.out.kept w8 hmv.out hrm)
              have Hrru := Lib.hid hru
              have Hfw := Lib.hid hfw
              have hul2 : Hid (u.orders.length ≤ 7 ∧ u.laced.length ≤ 3) := ⟨Huk.out.few, Huk.out.looms.2⟩
              clear Rm Ru hus hms hrm hru hfw
              obtain ⟨k0, k1, k2⟩ := hM5.c3
              go_wp2_with fail
              refine hkp1.out.mono ?_
              rintro e w13 ⟨rfl, he13⟩
              replace hbU := hbU.ext he13; replace huv := Lib.hid (huv.out.ext he13); replace hEw := hEw.trans he13
              have hkp2 := Lib.hid (kept_any _ ru u Huch.out rowsu (by rw [hpo2.out.all]; have := hul2.out; omega) (by rw [hpo2.out.len]; have := hul2.out; omega) true true (by have := hpo2.out.kept; unfold keptQ at this; exact (Bool.and_eq_true _ _ ▸ this).1) hpo2.out.kept w13 huv.out (Hrru.out.ext he13))
              clear hkp1 k0 k1 k2 hM5 hmv
              obtain ⟨u0, u1, u2⟩ := hbU.c3
              go_wp2_with fail
              refine hkp2.out.mono ?_
              rintro e w14 ⟨rfl, he14⟩
              clear hkp2 u0 u1 u2
              simp only [if_true]
              obtain ⟨na, hna⟩ : ∃ na, chgF m rowsm rowsm.length = na := ⟨_, rfl⟩
              have hnb : chgF u rowsu rowsu.length = na := by rw [← hna, hpo.out.sum, hpo2.out.sum]; exact Hfw.out
              rw [hna, hnb]
              have hd2 : (na == na) = true := by simp
              clear hna hnb
              go_wp2_with fail
              refine (awake_any w14).mono ?_
              rintro e w15 ⟨rfl, he15⟩
              go_wp2_with fail
              go_ret
              exact ⟨rfl, hEw.trans (he14.trans he15)⟩
end Go.Proofs.Pet
