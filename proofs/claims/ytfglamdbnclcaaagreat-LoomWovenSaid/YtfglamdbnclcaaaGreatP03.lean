/-
  Contracts of functions, each proved once.
-/
import Derived.Test.YtfglamdbnclcaaaGreatP02
import Derived.Test.YtfglamdbnclcaaaGreatP01
namespace Go.Proofs.Pet
open Go Go.RowKit

theorem info_int : (Tryz.prog.info? 3).map (fun i => (i.zero, i.size, i.bytes)) = some (some (.int .i64 0), 1, 8) := by kernel_rfl

set_option maxHeartbeats 400000 in
theorem dupI (A : Option Addr) (c : Nat) (xs : List Int) (w : World) (hb : xs.length * 8 ≤ 140737488355328) (hx : IntsAt w A xs) :
    Calls Tryz.prog 51 #[.slice A xs.length c] w fun e w' => ∃ v, e = .returned v ∧ OwnI w' w.heap.size 3 v xs ∧ Ext w w' := by
  obtain ⟨i, hi, hz0, hz1, hz2⟩ := info_parts info_int
  have hmk : ∀ W : World, (Instr.makeSlice 22 (.int .i64 0) (.int .i64 (xs.length : Int))).run Tryz.prog W = .ok (.slice (some ⟨W.heap.size, 0, none⟩) 0 xs.length) (W.alloc (.cells (madeCells #[.int .i64 0] xs.length) 3)) := by
    intro W
    have := run_make (P := Tryz.prog) W 22 3 i _ Tryz.underlying22 hi hz0 .i64 .i64 0 xs.length (by omega) (by omega) (by rw [hz2]; omega) (by omega)
    simpa [hz1, Value.cells] using this
  have hE := Ext.alloc w (.cells (madeCells #[.int .i64 0] xs.length) 3)
  have hsrc := Lib.hid (hx.ext hE).src
  have hown := Lib.hid (World.ownsRow_made (w := w) (e := 3) (size := 1) (madeCells #[.int .i64 0] xs.length) xs.length (Nat.le_refl _) (by unfold maxLen; omega) (by simp [madeCells]))
  clear hx
  go_enter Tryz.func51, Tryz.ntmps51
  go_wp2_with (at_builtin; go_must (refine wpList_app rfl _ _ 22 rfl w.heap.size 3 i (.int .i64 0) 1 8 Tryz.underlying22 hi hz0 hz1 hz2 rfl (by decide) _ _ _ rfl hown.out A xs.length c (xs.map (Value.int .i64)) rfl ?c1 hsrc.out ?c2 ?c3 ?c4 ?c5 ?_); (case c1 => simp); (case c2 => (intro u hu; obtain ⟨y, _, rfl⟩ := List.mem_map.1 hu; rfl)); (case c3 => (unfold maxLen; omega)); (case c4 => omega); (case c5 => simp); intro v' w' hown' hg hblk)
  go_ret
  refine ⟨_, rfl, ?_, ext_alloc_grown hg (fun k hk => Nat.le_of_eq (Option.some.inj hk))⟩
  simp only [Nat.zero_add, List.nil_append] at hown'
  exact hown'

set_option maxHeartbeats 400000 in
theorem cloneI (A : Option Addr) (c : Nat) (xs : List Int) (w : World) (hb : xs.length * 8 ≤ 140737488355328) (hx : IntsAt w A xs) :
    Calls Tryz.prog 39 #[.slice A xs.length c] w fun e w' => ∃ v, e = .returned v ∧ OwnI w' w.heap.size 3 v xs ∧ Ext w w' := by
  obtain ⟨i, hi, hz0, hz1, hz2⟩ := info_parts info_int
  have hnil : ∀ W : World, (binOp .eql 22 (.slice A xs.length c) (.slice none 0 0)).run Tryz.prog W = .ok (.bool A.isNone) W := fun W => Lib.run_eql_slice_nil W 22 _ A _ _ 0 0 Tryz.underlying22
  cases A with
  | none =>
    have hx0 : xs = [] := by
      cases xs with
      | nil => rfl
      | cons x l => obtain ⟨b, o, e, _⟩ := hx 0 (by simp); cases e
    subst hx0
    have hnil' : ∀ W : World, (binOp .eql 22 (.slice none 0 c) (.slice none 0 0)).run Tryz.prog W = .ok (.bool true) W := fun W => hnil W
    clear hnil hx hb
    go_enter Tryz.func39, Tryz.ntmps39
    go_wp2
    go_ret
    exact ⟨_, rfl, OwnI.nil _ _ _, Ext.refl _⟩
  | some ad =>
    have hnil' : ∀ W : World, (binOp .eql 22 (.slice (some ad) xs.length c) (.slice none 0 0)).run Tryz.prog W = .ok (.bool false) W := fun W => hnil W
    clear hnil
    have hE := Ext.alloc w (.cells #[] 3)
    have hsrc := Lib.hid (hx.ext hE).src
    have hown := Lib.hid (World.ownsRow_made (w := w) (e := 3) (size := 1) #[] 0 (Nat.le_refl _) (by unfold maxLen; omega) (by simp))
    clear hx
    go_enter Tryz.func39, Tryz.ntmps39
    go_wp2_with (at_builtin; go_must (refine wpList_app rfl _ _ 22 rfl w.heap.size 3 i (.int .i64 0) 1 8 Tryz.underlying22 hi hz0 hz1 hz2 rfl (by decide) _ _ _ rfl hown.out (some ad) xs.length c (xs.map (Value.int .i64)) rfl ?c1 hsrc.out ?c2 ?c3 ?c4 ?c5 ?_); (case c1 => simp); (case c2 => (intro u hu; obtain ⟨y, _, rfl⟩ := List.mem_map.1 hu; rfl)); (case c3 => (unfold maxLen; omega)); (case c4 => omega); (case c5 => simp); intro v' w' hown' hg hblk)
    go_ret
    refine ⟨_, rfl, ?_, ext_alloc_grown hg (fun k hk => Nat.le_of_eq (Option.some.inj hk))⟩
    simp only [Nat.zero_add, List.nil_append] at hown'
    exact hown'

set_option maxHeartbeats 400000 in
theorem equalI (A B : Option Addr) (c d : Nat) (xs ys : List Int) (q : Bool) (hq : decide (xs = ys) = q) (w : World) (hb : xs.length ≤ maxLen) (hx : IntsAt w A xs) (hy : IntsAt w B ys) :
    Calls Tryz.prog 115 #[.slice A xs.length c, .slice B ys.length d] w fun e w' => e = .returned (.bool q) ∧ Ext w w' := by
  unfold maxLen at hb
  by_cases hlen : xs.length = ys.length
  · have Hq := Lib.hid hq; clear hq
    have Hlen := Lib.hid hlen
    have hne : ((xs.length : Int) != (ys.length : Int)) = false := by rw [hlen]; simp
    clear hlen
    go_enter Tryz.func115, Tryz.ntmps115
    go_wp2
    go_loopw [5, 13] (fun _ i wr => ∃ k : Nat, k ≤ xs.length ∧ i = .int .i64 k ∧ Hid (∀ j, j < k → xs[j]?.getD 0 = ys[j]?.getD 0) ∧ Ext w wr) (fun _ i _ => xs.length - (intOf i).toNat)
    case atStart => exact ⟨0, by omega, rfl, fun j hj => absurd hj (by omega), Ext.refl _⟩
    case round =>
      obtain ⟨k, hk, rfl, hm, he⟩ := hrel
      by_cases hlt : k < xs.length
      · obtain ⟨b, o, rfl, h1⟩ := hx.ext he k hlt
        obtain ⟨b2, o2, rfl, h2⟩ := hy.ext he k (by have := Hlen.out; omega)
        have hlt2 : k < ys.length := by have := Hlen.out; omega
        generalize hga : xs[k]?.getD 0 = x at *
        generalize hgb : ys[k]?.getD 0 = y at *
        have Hga := Lib.hid hga; clear hga
        have Hgb := Lib.hid hgb; clear hgb
        by_cases hxy : x = y
        · subst hxy
          have hd : (x != x) = false := by simp
          go_wp2_with fail
          go_quiet (fail)
          go_wp2
          go_roundw
          case rel =>
            refine ⟨k + 1, by omega, by go_num, fun j hj => ?_, he.trans (Ext.drewN _ _)⟩
            by_cases ej : j = k
            · subst ej; rw [Hga.out, Hgb.out]
            · exact hm.out j (by omega)
          case measure => simp [intOf]; omega
        · have hd : (x != y) = true := by simpa using hxy
          have Hxy := Lib.hid hxy; clear hxy
          go_wp2_with fail
          go_quiet (fail)
          go_wp2
          go_ret
          refine ⟨?_, he.trans (Ext.drewN _ _)⟩
          rw [← Hq.out, decide_eq_false (fun h => Hxy.out (by rw [← Hga.out, ← Hgb.out, h]))]; rfl
      · go_wp2
        go_ret
        refine ⟨?_, he⟩
        have : xs = ys := List.ext_getElem Hlen.out fun j h1 h2 => by
          have := hm.out j (by omega)
          simpa [h1, h2] using this
        rw [← Hq.out, decide_eq_true this]; rfl
  · have hne : ((xs.length : Int) != (ys.length : Int)) = true := by simp; omega
    have : decide (xs = ys) = false := decide_eq_false (fun h => hlen (by rw [h]))
    rw [this] at hq
    subst hq
    clear hlen
    go_enter Tryz.func115, Tryz.ntmps115
    go_wp2
    go_ret
    exact ⟨rfl, Ext.refl _⟩

theorem eqI (A B : Option Addr) (c d : Nat) (xs ys : List Int) (q : Bool) (hq : decide (xs = ys) = q) (w : World) (hb : xs.length ≤ maxLen) (hx : IntsAt w A xs) (hy : IntsAt w B ys) :
    Calls Tryz.prog 57 #[.slice A xs.length c, .slice B ys.length d] w fun e w' => e = .returned (.bool q) ∧ Ext w w' := by
  have H := Lib.hid (equalI A B c d xs ys q hq w hb hx hy)
  clear hq hx hy
  go_enter Tryz.func57, Tryz.ntmps57
  go_wp2_with fail
  refine H.out.mono ?_
  rintro e w' ⟨rfl, he⟩
  go_wp2
  go_ret
  exact ⟨rfl, he⟩

def greatB (m : Mill) : Bool := (m.orders.any fun o => decide (8 < o.on.length)) || decide (8 < m.laced.length) || decide (12 < m.orders.length)

end Go.Proofs.Pet

namespace Go.Proofs.Pet
open Go Go.RowKit

theorem info_order : (Tryz.prog.info? 28).map (fun i => (i.zero, i.size, i.bytes)) = some (some (.agg #[.int .i64 0, .int .i64 0, .int .i64 0, .slice none 0 0]), 4, 48) := by kernel_rfl

set_option maxHeartbeats 400000 in
theorem dupO (A : Option Addr) (c : Nat) (xs : List Ord) (w0 w : World) (hb : xs.length * 48 ≤ 140737488355328) (hx : OrdsAt w0 A xs) (h0 : Ext w0 w) :
    Calls Tryz.prog 98 #[.slice A xs.length c] w fun e w' => ∃ v cs, e = .returned v ∧ w'.ownsRow w.heap.size 28 4 v xs.length cs ∧ OrdList w0 cs xs ∧ Ext w w' := by
  obtain ⟨i, hi, hz0, hz1, hz2⟩ := info_parts info_order
  have hmk : ∀ W : World, (Instr.makeSlice 23 (.int .i64 0) (.int .i64 (xs.length : Int))).run Tryz.prog W = .ok (.slice (some ⟨W.heap.size, 0, none⟩) 0 xs.length) (W.alloc (.cells (madeCells #[.int .i64 0, .int .i64 0, .int .i64 0, .slice none 0 0] (xs.length * 4)) 28)) := by
    intro W
    have := run_make (P := Tryz.prog) W 23 28 i _ Tryz.underlying23 hi hz0 .i64 .i64 0 xs.length (by omega) (by omega) (by rw [hz2]; omega) (by omega)
    simpa [hz1, Value.cells] using this
  have hE := Ext.alloc w (.cells (madeCells #[.int .i64 0, .int .i64 0, .int .i64 0, .slice none 0 0] (xs.length * 4)) 28)
  obtain ⟨cs, hl, hs⟩ := hx.list
  have hsrc := Lib.hid (hs.ext (h0.trans hE))
  have hlen := Lib.hid hl.length
  have hone := Lib.hid hl.one
  have hL := Lib.hid hl
  have hown := Lib.hid (World.ownsRow_made (w := w) (e := 28) (size := 4) (madeCells #[.int .i64 0, .int .i64 0, .int .i64 0, .slice none 0 0] (xs.length * 4)) xs.length (Nat.le_refl _) (by unfold maxLen; omega) (by simp [madeCells]))
  clear hx hs hl
  go_enter Tryz.func98, Tryz.ntmps98
  go_wp2_with (at_builtin; go_must (refine wpList_app rfl _ _ 23 rfl w.heap.size 28 i _ 4 48 Tryz.underlying23 hi hz0 hz1 hz2 rfl (by decide) _ _ _ rfl hown.out A xs.length c cs rfl hlen.out hsrc.out hone.out ?c3 ?c4 ?c5 ?_); (case c3 => (unfold maxLen; omega)); (case c4 => omega); (case c5 => simp); intro v' w' hown' hg hblk)
  go_ret
  have hE2 := ext_alloc_grown hg (fun k hk => Nat.le_of_eq (Option.some.inj hk))
  simp only [Nat.zero_add, List.nil_append] at hown'
  exact ⟨_, cs, rfl, hown', hL.out, hE2⟩

/-- what the operations of 'out := loom.Mill{Laced: Dup(m.Laced), ..}' leave -/
def ownR (w0 : World) (s t : Nat) (m : Mill) (A1 A2 : Option Addr) (c1 c2 : Nat) : Nat → Value → World → Prop
  | 0 => fun v _ => v = .pointer (some ⟨s, 0, none⟩)
  | 1 => fun v _ => v = .slice A1 m.laced.length c1
  | 2 => fun v W => OwnI W t 3 v m.laced
  | 3 => fun v _ => v = .pointer (some ⟨s, 1, none⟩)
  | 4 => fun v _ => v = .int .i64 m.change
  | 5 => fun v _ => v = .pointer (some ⟨s, 2, none⟩)
  | 6 => fun v _ => v = .slice A2 m.orders.length c2
  | 7 => fun v W => ∃ cs, W.ownsRow t 28 4 v m.orders.length cs ∧ OrdList w0 cs m.orders
  | 8 => fun v W => ∃ a b, v = .agg #[a, .int .i64 m.change, b] ∧ OwnI W t 3 a m.laced ∧ ∃ cs, W.ownsRow t 28 4 b m.orders.length cs ∧ OrdList w0 cs m.orders
  | 9 => fun v W => ∃ g, v = .pointer (some ⟨g, 0, none⟩) ∧ t ≤ g ∧ Blk W g 25 #[.slice none 0 0, .int .i64 0, .slice none 0 0]
  | _ => fun _ _ => True
theorem ownR.ext {w0 : World} {s t : Nat} {m : Mill} {A1 A2 : Option Addr} {c1 c2 : Nat} {W W' : World} (he : Ext W W') : ∀ (j : Nat) (u : Value), ownR w0 s t m A1 A2 c1 c2 j u W → ownR w0 s t m A1 A2 c1 c2 j u W'
  | 0, _, h | 1, _, h | 3, _, h | 4, _, h | 5, _, h | 6, _, h => h
  | 2, _, h => OwnI.ext h he
  | 7, _, ⟨cs, h1, h2⟩ => ⟨cs, ownsRow_ext h1 he, h2⟩
  | 8, _, ⟨a, b, h1, h2, cs, h3, h4⟩ => ⟨a, b, h1, h2.ext he, cs, ownsRow_ext h3 he, h4⟩
  | 9, _, ⟨g, h1, h2, h3⟩ => ⟨g, h1, h2, h3.ext he⟩
  | _ + 10, _, _ => trivial

/-- what the operations of 'out.Orders[i].On = Dup(o.On)' leave -/
def ownR2 (g o t k : Nat) (r a : Value) (on : List Int) : Nat → Value → World → Prop
  | 0 => fun v _ => v = .pointer (some ⟨g, 2, none⟩)
  | 1 => fun v _ => v = r
  | 2 => fun v _ => v = .int .i64 k
  | 3 => fun v _ => v = .pointer (some ⟨o, 3, none⟩)
  | 4 => fun v _ => v = a
  | 5 => fun v W => ∃ A c, v = .slice A on.length c ∧ on.length ≤ c ∧ c ≤ maxLen ∧ IntsAt W A on ∧ ∀ ad, A = some ad → t ≤ ad.block
  | _ => fun _ _ => True
theorem ownR2.ext {g o t k : Nat} {r a : Value} {on : List Int} {W W' : World} (he : Ext W W') : ∀ (j : Nat) (u : Value), ownR2 g o t k r a on j u W → ownR2 g o t k r a on j u W'
  | 0, _, h | 1, _, h | 2, _, h | 3, _, h | 4, _, h => h
  | 5, _, ⟨A, c, h1, h2, h3, h4, h5⟩ => ⟨A, c, h1, h2, h3, h4.ext he, h5⟩
  | _ + 6, _, _ => trivial

/-- a mill as a value, none of whose arrays lies in a block of S -/
def OrdCellsS (S : Nat → Prop) (w : World) (b o : Nat) (x : Ord) : Prop :=
  ∃ A c, (x.on.length ≤ c ∧ c ≤ maxLen) ∧ w.cell? ⟨b, o, none⟩ = some (.int .i64 x.pattern) ∧ w.cell? ⟨b, o + 1, none⟩ = some (.int .i64 x.days) ∧
    w.cell? ⟨b, o + 2, none⟩ = some (.int .i64 x.by_) ∧ w.cell? ⟨b, o + 3, none⟩ = some (.slice A x.on.length c) ∧ IntsAt w A x.on ∧ (x.on ≠ [] → ∀ ad, A = some ad → ¬ S ad.block)
def MillValS (S : Nat → Prop) (w : World) (v : Value) (m : Mill) : Prop :=
  ∃ A1 c1 A2 c2, v = .agg #[.slice A1 m.laced.length c1, .int .i64 m.change, .slice A2 m.orders.length c2] ∧ m.laced.length ≤ c1 ∧ c1 ≤ maxLen ∧ m.orders.length ≤ c2 ∧ c2 ≤ maxLen ∧
    IntsAt w A1 m.laced ∧ (m.laced ≠ [] → ∀ ad, A1 = some ad → ¬ S ad.block) ∧ ∀ k, k < m.orders.length → ∃ b o, A2 = some ⟨b, o, none⟩ ∧ ¬ S b ∧ OrdCellsS S w b (o + k * 4) (m.orders[k]?.getD default)
theorem MillValS.val {S : Nat → Prop} {w : World} {v : Value} {m : Mill} (h : MillValS S w v m) : MillVal w v m := by
  obtain ⟨A1, c1, A2, c2, h1, h2, h3, h4, h5, h6, _, h8⟩ := h
  refine ⟨A1, c1, A2, c2, h1, h2, h3, h4, h5, h6, fun k hk => ?_⟩
  obtain ⟨b, o, e, _, A, c, g1, g2, g3, g4, g5, g6, _⟩ := h8 k hk
  exact ⟨b, o, e, A, c, g1, g2, g3, g4, g5, g6⟩
theorem MillValS.ext {S : Nat → Prop} {w w' : World} {v : Value} {m : Mill} (h : MillValS S w v m) (he : Ext w w') : MillValS S w' v m := by
  obtain ⟨A1, c1, A2, c2, h1, h2, h3, h4, h5, h6, h7, h8⟩ := h
  refine ⟨A1, c1, A2, c2, h1, h2, h3, h4, h5, h6.ext he, h7, fun k hk => ?_⟩
  obtain ⟨b, o, e, hb, A, c, g1, g2, g3, g4, g5, g6, g7⟩ := h8 k hk
  exact ⟨b, o, e, hb, A, c, g1, he.cell g2, he.cell g3, he.cell g4, he.cell g5, g6.ext he, g7⟩
/-- whatever is laid later is none of its blocks -/
theorem cell_lt {w : World} {p : Addr} {v : Value} (h : w.cell? p = some v) : p.block < w.heap.size := by
  rcases Nat.lt_or_ge p.block w.heap.size with g | g
  · exact g
  · unfold World.cell? at h
    simp [Array.getElem?_eq_none g] at h
set_option maxHeartbeats 1000000 in
theorem own_off (v : Value) (m : Mill) (w0 w : World) (h0 : Ext w0 w) (hv : MillVal w0 v m) (hg : greatB m = false) :
    Calls Tryz.prog 35 #[v] w fun e w' => ∃ v', e = .returned v' ∧ MillValS (fun b => w0.heap.size ≤ b ∧ b < w.heap.size) w' v' m ∧ Ext w w' := by
  obtain ⟨A1, c1, A2, c2, rfl, h2, h3, h4, h5, h60, h7⟩ := hv
  have h6 := h60.ext h0
  clear h60
  have H0 := Lib.hid h0
  unfold maxLen at h3 h5
  have b1 : m.laced.length ≤ 8 := by unfold greatB at hg; simp at hg; omega
  have b2 : m.orders.length ≤ 12 := by unfold greatB at hg; simp at hg; omega
  have b3 := Lib.hid (show ∀ x ∈ m.orders, x.on.length ≤ 8 by unfold greatB at hg; simp at hg; exact hg.1.1)
  clear hg
  go_enter Tryz.func35, Tryz.ntmps35
  go_wp2_with fail
  generalize hw1 : (w.alloc _).alloc _ = w1
  have hE1 : Ext w w1 := by rw [← hw1]; exact (Ext.alloc _ _).trans (Ext.alloc _ _)
  have hsz : w.heap.size + 2 ≤ w1.heap.size := by rw [← hw1]; simp
  have hM1 : Blk w1 w.heap.size 25 #[.slice A1 m.laced.length c1, .int .i64 m.change, .slice A2 m.orders.length c2] := by rw [← hw1]; exact (Blk.new _ _ _).alloc _
  have hM2 : Blk w1 (w.heap.size + 1) 25 #[.slice none 0 0, .int .i64 0, .slice none 0 0] := by rw [← hw1]; have := Blk.new (w.alloc (.cells #[.slice A1 m.laced.length c1, .int .i64 m.change, .slice A2 m.orders.length c2] 25)) 25 #[.slice none 0 0, .int .i64 0, .slice none 0 0]; rw [World.size_alloc] at this; exact this
  clear hw1
  have hS : w1.heap.size ≤ w1.heap.size := Nat.le_refl _
  refine wp_region_facts 10 (by kernel_rfl) (by kernel_rfl) (fun W => Ext w1 W) (ownR w0 w.heap.size w1.heap.size m A1 A2 c1 c2) ?_ ?_ ?_
  · exact Ext.drew _
  · simp only [List.take, AllOps, fill, Act.put, List.setIfInBounds_toArray, List.set_cons_zero, List.set_cons_succ, Nat.reduceAdd, Deps, and_true]
    refine ⟨?_, ?_, ?_, ?_, ?_, ?_, ?_, ?_, ?_, ?_⟩
    all_goals
      intro x W hG hd K Q hK
      try (simp only [ownR] at hd; simp only [hd] at hK ⊢)
      have HK := Lib.hid hK
      clear hK
      obtain ⟨k0, k1, k2⟩ := (hM1.ext hG).c3
    · go_wp2; exact HK.out _ _ rfl hG (fun _ _ h => h)
    · go_wp2; exact HK.out _ _ rfl hG (fun _ _ h => h)
    · go_wp2_with fail
      refine (dupI A1 c1 m.laced W (by omega) (h6.ext (hE1.trans hG))).mono ?_
      rintro e w' ⟨v, rfl, ho, he⟩
      go_wp2
      exact HK.out _ _ (ho.mono hG.size) (hG.trans he) (ownR.ext he)
    · go_wp2; exact HK.out _ _ rfl hG (fun _ _ h => h)
    · go_wp2; exact HK.out _ _ rfl hG (fun _ _ h => h)
    · go_wp2; exact HK.out _ _ rfl hG (fun _ _ h => h)
    · go_wp2; exact HK.out _ _ rfl hG (fun _ _ h => h)
    · go_wp2_with fail
      refine (dupO A2 c2 m.orders w0 W (by omega) h7 (H0.out.trans (hE1.trans hG))).mono ?_
      rintro e w' ⟨v, cs, rfl, ho, hl, he⟩
      go_wp2
      exact HK.out _ _ ⟨cs, ownsRow_mono ho hG.size, hl⟩ (hG.trans he) (ownR.ext he)
    · obtain ⟨d2, d4, cs, d7, d8⟩ := hd
      have hK := HK.out
      obtain ⟨B1, e1, q1, _⟩ := d2.open_
      obtain ⟨B2, e2, q2⟩ : ∃ A c, x 7 = .slice A m.orders.length c := by
        rcases d7.2 with ⟨h, h'⟩ | ⟨g', cap, cur, h, _⟩
        · exact ⟨_, _, by rw [h, h']⟩
        · exact ⟨_, _, h⟩
      have D2 := Lib.hid d2; have D7 := Lib.hid d7; have D8 := Lib.hid d8; clear d2 d7 d8
      rw [q1] at D2
      rw [q2] at D7
      simp only [q1, q2] at hK ⊢
      clear HK
      have HK := Lib.hid hK; clear hK q1 q2 d4
      go_wp2
      exact HK.out _ _ ⟨_, _, rfl, D2.out, cs, D7.out, D8.out⟩ hG (fun _ _ h => h)
    · go_wp2
      exact HK.out _ _ ⟨_, rfl, hG.size, Blk.new _ _ _⟩ (hG.trans (Ext.alloc _ _)) (ownR.ext (Ext.alloc _ _))
  · intro x W hG hR
    simp only [AllR, ownR, true_and] at hR
    obtain ⟨⟨⟨⟨⟨⟨⟨⟨⟨h0, h1'⟩, h2'⟩, h3'⟩, h4'⟩, h5'⟩, h6'⟩, h7'⟩, a, b, h8, oa, cs, ob, ol⟩, g, h9, hg, hb⟩ := hR
    simp only [List.take, List.drop, fill, Act.put, List.setIfInBounds_toArray, List.set_cons_zero, List.set_cons_succ, Nat.reduceAdd, h0, h1', h3', h4', h5', h6', h8, h9]
    clear h0 h1' h3' h4' h5' h6' h8 h9 h2' h7'
    generalize x 2 = x2
    generalize x 7 = x7
    obtain ⟨B1, e1, rfl, f1, f2, f3, f4, f5⟩ := oa.open_
    -- the orders' row
    have hB2 : ∃ B2 e2, b = .slice B2 m.orders.length e2 ∧ m.orders.length ≤ e2 ∧ e2 ≤ maxLen ∧ (0 < m.orders.length → ∃ gB cur, B2 = some ⟨gB, 0, none⟩ ∧ w1.heap.size ≤ gB ∧ Blk W gB 28 cur ∧ cur.toList.take (m.orders.length * 4) = cs) := by
      rcases ob.2 with ⟨h, h'⟩ | ⟨g', cap, cur, h, hg', hh, hn, hm, hs, hc⟩
      · exact ⟨none, 0, by rw [h, h'], by omega, by unfold maxLen; omega, fun h => by omega⟩
      · exact ⟨_, _, h, hn, hm, fun _ => ⟨g', cur, rfl, hg', hh, hc⟩⟩
    obtain ⟨B2, e2, rfl, g1, g2, hrow⟩ := hB2
    have hrow' := Lib.hid hrow
    have hoff := Lib.hid (oa.off hb (by decide))
    have hoff2 : Hid (∀ gB cur, Blk W gB 28 cur → m.laced ≠ [] → ∀ ad, B1 = some ad → ad.block ≠ gB) := fun gB cur hB => oa.off hB (by decide)
    obtain ⟨k0, k1, k2⟩ := (hM1.ext hG).c3
    obtain ⟨u0, u1, u2⟩ := hb.c3
    have v0 := hb.frozen 0
    have v1 := hb.frozen 1
    have v2 := hb.frozen 2
    have n1 : w.heap.size ≠ g := by omega
    have n2 : g ≠ w.heap.size := by omega
    have hoffS : Hid (m.laced ≠ [] → ∀ ad, B1 = some ad → ad.block ≠ w.heap.size + 1) := fun _ ad h => by have := (f4 ad h).1; omega
    have hoffT : Hid (m.laced ≠ [] → ∀ ad, B1 = some ad → ¬ (w0.heap.size ≤ ad.block ∧ ad.block < w.heap.size)) := fun _ ad h => by have := (f4 ad h).1; omega
    have F3 := Lib.hid f3; have F4 := Lib.hid f4; have F5 := Lib.hid f5; have OL := Lib.hid ol; clear f3 f4 f5 oa ob ol hrow
    have h6' := Lib.hid h6; have h7' := Lib.hid h7; clear h6 h7
    go_wp2_with fail
    generalize hW2 : ((W.setCell _ _).setCell _ _).setCell _ _ = W2
    have hs2 : w1.heap.size ≤ W2.heap.size := by rw [← hW2]; simp [World.setCell]; exact hG.size
    have hX2 : Ext w W2 := by
      rw [← hW2]
      have := hE1.trans hG
      have hs := hE1.size
      exact ((Below.setCell (Below.setCell (Below.setCell this (by show _ ≤ g; omega) _) (by show _ ≤ g; omega) _) (by show _ ≤ g; omega) _))
    have hbg : Blk W2 g 25 #[.slice B1 m.laced.length e1, .int .i64 m.change, .slice B2 m.orders.length e2] := by
      rw [← hW2]; exact ((hb.set_ 0 _).set_ 1 _).set_ 2 _
    have hbr : Blk W2 (w.heap.size + 1) 25 #[.slice none 0 0, .int .i64 0, .slice none 0 0] := by
      rw [← hW2]; exact (((hM2.ext hG).far (by show _ ≠ g; omega) _).far (by show _ ≠ g; omega) _).far (by show _ ≠ g; omega) _
    have hI1 : IntsAt W2 B1 m.laced := by
      rw [← hW2]; exact ((F3.out.setCell hoff.out _).setCell hoff.out _).setCell hoff.out _
    have hrow2 : 0 < m.orders.length → ∃ gB cur, B2 = some ⟨gB, 0, none⟩ ∧ w1.heap.size ≤ gB ∧ gB ≠ g ∧ (m.laced ≠ [] → ∀ ad, B1 = some ad → ad.block ≠ gB) ∧ Blk W2 gB 28 cur ∧ OrdArr W2 (fun b => b = gB ∨ b = w.heap.size + 1 ∨ (w0.heap.size ≤ b ∧ b < w.heap.size)) cur m.orders := by
      intro hp
      obtain ⟨gB, cur, e, h1, h2, h3⟩ := hrow'.out hp
      have hne : gB ≠ g := h2.ne_ hb (by decide)
      refine ⟨gB, cur, e, h1, hne, hoff2.out gB cur h2, ?_, ?_⟩
      · rw [← hW2]; exact ((h2.far hne _).far hne _).far hne _
      · exact OL.out.arr (H0.out.trans hX2) (fun b hb => by have := H0.out.size; simp only [not_or]; omega) h3
    clear hW2 u0 u1 u2 v0 v1 v2 k0 k1 k2 hb hoff hoff2 hrow' F3 F4 F5 OL hM1 hM2
    go_loopw [4, 5, 18] (fun _ _ i wr => ∃ k : Nat, k ≤ m.orders.length ∧ i = .int .i64 k ∧ Ext w wr ∧ w1.heap.size ≤ wr.heap.size ∧ Blk wr g 25 #[.slice B1 m.laced.length e1, .int .i64 m.change, .slice B2 m.orders.length e2] ∧
        Blk wr (w.heap.size + 1) 25 #[.slice none 0 0, .int .i64 0, .slice none 0 0] ∧ IntsAt wr B1 m.laced ∧
        Hid (0 < m.orders.length → ∃ gB cur, B2 = some ⟨gB, 0, none⟩ ∧ w1.heap.size ≤ gB ∧ gB ≠ g ∧ (m.laced ≠ [] → ∀ ad, B1 = some ad → ad.block ≠ gB) ∧ Blk wr gB 28 cur ∧ OrdArr wr (fun b => b = gB ∨ b = w.heap.size + 1 ∨ (w0.heap.size ≤ b ∧ b < w.heap.size)) cur m.orders))
      (fun _ _ i _ => m.orders.length - (intOf i).toNat)
    case atStart => exact ⟨0, by omega, rfl, hX2, hs2, hbg, hbr, hI1, hrow2⟩
    case round =>
      obtain ⟨k, hk, rfl, he, hsw, hbg', hbr', hI', hrow'⟩ := hrel
      by_cases hlt : k < m.orders.length
      · obtain ⟨gB, cur, rfl, p1, p2, p3, p4, p5⟩ := hrow'.out (by omega)
        obtain ⟨b, o, rfl, A, ca, hca, q1, q2, q3, q4, q5⟩ := h7'.out.ext (H0.out.trans he) k hlt
        obtain ⟨A', ca', hca', r1, r2, r3, r4, r5, r6⟩ := p5 k hlt
        have hb8 : (m.orders[k]?.getD default).on.length ≤ 8 := b3.out _ (by simp [hlt])
        have P5 := Lib.hid p5; clear p5 hrow'
        generalize hgx : m.orders[k]?.getD default = x0 at *
        have Hgx := Lib.hid hgx; clear hgx
        go_wp2_with fail
        generalize hW5 : wr.alloc _ = W5
        have hX5 : Ext wr W5 := by rw [← hW5]; exact Ext.alloc _ _
        have hb5 : Blk W5 wr.heap.size 28 #[.int .i64 x0.pattern, .int .i64 x0.days, .int .i64 x0.by_, .slice A x0.on.length ca] := by rw [← hW5]; exact Blk.new _ _ _
        have hbg5 := hbg'.ext hX5
        have hq5 := q5.ext hX5
        clear hW5 q1 q2 q3 q4 q5
        refine wp_region_facts 6 (by kernel_rfl) (by kernel_rfl) (fun W => Ext W5 W) (ownR2 g wr.heap.size W5.heap.size k (.slice (some ⟨gB, 0, none⟩) m.orders.length e2) (.slice A x0.on.length ca) x0.on) ?_ ?_ ?_
        · exact Ext.drew _
        · simp only [List.take, AllOps, fill, Act.put, List.setIfInBounds_toArray, List.set_cons_zero, List.set_cons_succ, Nat.reduceAdd, Deps, and_true]
          refine ⟨?_, ?_, ?_, ?_, ?_, ?_⟩
          all_goals
            intro x W hG hd K Q hK
            try (simp only [ownR2] at hd; simp only [hd] at hK ⊢)
            have HK := Lib.hid hK
            clear hK
            obtain ⟨k0, k1, k2⟩ := (hbg5.ext hG).c3
            obtain ⟨j0, j1, j2, j3⟩ := (hb5.ext hG).c4
          · go_wp2; exact HK.out _ _ rfl hG (fun _ _ h => h)
          · go_wp2; exact HK.out _ _ rfl hG (fun _ _ h => h)
          · go_wp2; exact HK.out _ _ rfl hG (fun _ _ h => h)
          · go_wp2; exact HK.out _ _ rfl hG (fun _ _ h => h)
          · go_wp2; exact HK.out _ _ rfl hG (fun _ _ h => h)
          · go_wp2_with fail
            refine (dupI A ca x0.on W (by omega) (hq5.ext hG)).mono ?_
            rintro e w' ⟨v, rfl, ho, he⟩
            go_wp2
            obtain ⟨B3, e3, rfl, f1, f2, f3, f4, f5⟩ := ho.open_
            exact HK.out _ _ ⟨B3, e3, rfl, f1, f2, f3, fun ad h => by have := (f4 ad h).1; have := hG.size; omega⟩ (hG.trans he) (ownR2.ext he)
        · intro x W hG hR
          simp only [AllR, ownR2, true_and] at hR
          obtain ⟨⟨⟨⟨⟨h0, h1'⟩, h2'⟩, h3'⟩, h4'⟩, B3, e3, h8, f1', f2', f3, f4⟩ := hR
          simp only [List.take, List.drop, fill, Act.put, List.setIfInBounds_toArray, List.set_cons_zero, List.set_cons_succ, Nat.reduceAdd, h0, h1', h2', h3', h4', h8]
          clear h0 h1' h2' h3' h4' h8
          have hpB := p4.ext (hX5.trans hG)
          have c1 : W.cell? ⟨gB, k * 4 + 3, none⟩ = some (.slice A' x0.on.length ca') := (hpB.cell _).trans r4
          have c2 := hpB.frozen (k * 4 + 3)
          have hgBlt : gB < W5.heap.size := Nat.lt_of_lt_of_le p4.lt hX5.size
          have F3 := Lib.hid f3; have F4 := Lib.hid f4; clear f3 f4
          have P3 := Lib.hid p3; have R6 := Lib.hid r6; clear p3 r6
          have R := Lib.hid (And.intro r1 (And.intro r2 (And.intro r3 r4))); clear r1 r2 r3 r4 r5
          go_wp2_with fail
          go_roundw
          case rel =>
            have hXW : Ext wr W := hX5.trans hG
            have hw0 := he.size
            refine ⟨k + 1, by omega, by go_num, ?_, ?_, ?_, ?_, ?_, ?_⟩
            · exact Below.setCell (he.trans hXW) (by show _ ≤ gB; have := hE1.size; omega) _
            · simp [World.setCell]; exact Nat.le_trans hsw hXW.size
            · exact (hbg'.ext hXW).far (Ne.symm p2) _
            · exact (hbr'.ext hXW).far (by show _ ≠ gB; omega) _
            · exact (hI'.ext hXW).setCell P3.out _
            · have hA := (P5.out.ext hXW).set_ (g := gB) (A := B3) (c := e3) hlt (by rw [Hgx.out]; exact ⟨f1', f2'⟩) (by rw [Hgx.out]; exact F3.out) (.inl rfl) (fun _ ad h => by have := F4.out ad h; have := hX5.size; simp only [not_or]; omega)
              rw [Hgx.out] at hA
              exact fun _ => ⟨gB, _, rfl, p1, p2, P3.out, hpB.set_ _ _, hA⟩
          case measure => simp [intOf]; omega
      · obtain ⟨u0, u1, u2⟩ := hbg'.c3
        obtain ⟨v0, v1, v2⟩ := hbr'.c3
        have f0 := hbr'.frozen 0
        have f1' := hbr'.frozen 1
        have f2' := hbr'.frozen 2
        have hI3 := Lib.hid hI'; clear hI'
        have hR3 := Lib.hid hrow'.out; clear hrow'
        go_wp2
        generalize hWf : ((wr.setCell _ _).setCell _ _).setCell _ _ = Wf
        have hbf : Blk Wf (w.heap.size + 1) 25 #[.slice B1 m.laced.length e1, .int .i64 m.change, .slice B2 m.orders.length e2] := by
          rw [← hWf]; exact ((hbr'.set_ 0 _).set_ 1 _).set_ 2 _
        have hIf : IntsAt Wf B1 m.laced := by rw [← hWf]; exact ((hI3.out.setCell hoffS.out _).setCell hoffS.out _).setCell hoffS.out _
        have hOf : ∀ j, j < m.orders.length → ∃ b o, B2 = some ⟨b, o, none⟩ ∧ ¬ (w0.heap.size ≤ b ∧ b < w.heap.size) ∧ OrdCellsS (fun b => w0.heap.size ≤ b ∧ b < w.heap.size) Wf b (o + j * 4) (m.orders[j]?.getD default) := by
          intro j hj
          obtain ⟨gB, cur, rfl, p1, p2, p3, p4, p5⟩ := hR3.out (by omega)
          have hne : gB ≠ w.heap.size + 1 := by omega
          have p4f : Blk Wf gB 28 cur := by rw [← hWf]; exact ((p4.far hne _).far hne _).far hne _
          have p5f := ((p5.setOther (.inr (.inl rfl)) (p := ⟨w.heap.size + 1, 0, none⟩) (.slice B1 m.laced.length e1)).setOther (.inr (.inl rfl)) (p := ⟨w.heap.size + 1, 1, none⟩) (.int .i64 m.change)).setOther (.inr (.inl rfl)) (p := ⟨w.heap.size + 1, 2, none⟩) (.slice (some ⟨gB, 0, none⟩) m.orders.length e2)
          obtain ⟨A, c, q1, q2, q3, q4, q5, q6, q7⟩ := p5f j hj
          have hWf' := hWf
          refine ⟨gB, 0, rfl, by omega, A, c, q1, ?_, ?_, ?_, ?_, by rw [← hWf]; exact q6, fun hn ad e g => q7 hn ad e (.inr (.inr g))⟩
          · rw [p4f.cell, Nat.zero_add]; exact q2
          · rw [p4f.cell, Nat.zero_add]; exact q3
          · rw [p4f.cell, Nat.zero_add]; exact q4
          · rw [p4f.cell, Nat.zero_add]; exact q5
        have hXf : Ext w Wf := by
          rw [← hWf]
          exact Below.setCell (Below.setCell (Below.setCell he (by show _ ≤ w.heap.size + 1; omega) _) (by show _ ≤ w.heap.size + 1; omega) _) (by show _ ≤ w.heap.size + 1; omega) _
        clear hWf u0 u1 u2 v0 v1 v2 f0 f1' f2'
        obtain ⟨v0, v1, v2⟩ := hbf.c3
        refine bodyPost_ret (v := .agg #[.slice B1 m.laced.length e1, .int .i64 m.change, .slice B2 m.orders.length e2]) ?_ rfl ⟨_, rfl, ⟨B1, e1, B2, e2, rfl, f1, f2, g1, g2, hIf, hoffT.out, hOf⟩, hXf⟩
        simp [results, Tryz.results35, go_sem, v0, v1, v2]
theorem own_any (v : Value) (m : Mill) (w : World) (hv : MillVal w v m) (hg : greatB m = false) :
    Calls Tryz.prog 35 #[v] w fun e w' => ∃ v', e = .returned v' ∧ MillVal w' v' m ∧ Ext w w' :=
  (own_off v m w w (Ext.refl _) hv hg).mono fun _e _w' ⟨v', h1, h2, h3⟩ => ⟨v', h1, h2.val, h3⟩
end Go.Proofs.Pet
