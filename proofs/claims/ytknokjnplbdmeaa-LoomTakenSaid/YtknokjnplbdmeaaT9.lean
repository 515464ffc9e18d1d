/-
  LoomTaken, walked.
-/
import Derived.Test.YtknokjnplbdmeaaT8
namespace Go.Proofs.Pet
open Go Go.RowKit Go.Maps Go.Shelf

/-! The region in which an order is drawn off a spool and taken: what is known by what is done. -/
def TkR (q M : Nat) (A1 A2 : Option Addr) (c1 c2 : Nat) (m : Mill) : Nat → Value → Prop
  | 0 => fun v => v = .agg #[.slice A1 m.laced.length c1, .int .i64 m.change, .slice A2 m.orders.length c2]
  | 1 => fun v => v = .pointer (some ⟨q, 0, none⟩)
  | 2 => fun v => ∃ r : Int, v = .int .i64 r ∧ 0 ≤ r ∧ r ≤ 3
  | 3 => fun v => v = .pointer (some ⟨q, 0, none⟩)
  | 4 => fun v => ∃ r : Int, v = .int .i64 r ∧ 1 ≤ r ∧ r ≤ 5
  | 5 => fun v => v = .pointer (some ⟨q, 0, none⟩)
  | 6 => fun v => ∃ r : Int, v = .int .i64 r ∧ 1 ≤ r ∧ r ≤ 20
  | 7 => fun v => v = .pointer (some ⟨q, 0, none⟩)
  | 8 => fun v => v = .pointer (some ⟨M, 0, none⟩)
  | 9 => fun v => v = .slice A1 m.laced.length c1
  | 10 => fun v => v = .int .i64 m.laced.length
  | 11 => fun v => v = .int .i64 ((m.laced.length : Int) - 1)
  | 12 => fun v => ∃ r : Int, v = .int .i64 r ∧ 0 ≤ r ∧ r < m.laced.length
  | 18 => fun v => v = .int .i64 0
  | _ => fun _ => True
/-- what Take has returned -/
def TkV (w0 : World) (m : Mill) (v : Value) (W : World) : Prop :=
  ∃ o Aa ca Ab cb, OrdOk m.laced.length o ∧ v = .tuple #[.agg #[.slice Aa m.laced.length ca, .int .i64 m.change, .slice Ab (m.orders.length + 1) cb], .int .i64 0] ∧
    OwnI W w0.heap.size 3 (.slice Aa m.laced.length ca) m.laced ∧ OwnOB W w0.heap.size (.slice Ab (m.orders.length + 1) cb) (m.orders ++ [o])
theorem TkV.ext {w0 w w' : World} {m : Mill} {v : Value} (h : TkV w0 m v w) (he : Ext w w') : TkV w0 m v w' := by
  obtain ⟨o, Aa, ca, Ab, cb, h1, h2, h3, h4⟩ := h
  exact ⟨o, Aa, ca, Ab, cb, h1, h2, h3.ext he, h4.ext he⟩
def TkP (w0 : World) (q : Nat) (m : Mill) : Nat → (Nat → Value) → World → Prop
  | 0 => fun _ W => SpoolAt W q 0
  | 1 => fun _ W => SpoolAt W q 1
  | 2 => fun _ W => SpoolAt W q 2
  | 3 => fun _ W => SpoolAt W q 3
  | 4 => fun _ _ => True
  | 5 => fun x W => ∃ (A : Option Addr) (r : Int), x 13 = .slice A 1 1 ∧ (0 ≤ r ∧ r < m.laced.length) ∧ IntsAt W A [r]
  | 6 => fun x W => ∃ o, OrdVal W (x 14) o ∧ OrdOk m.laced.length o
  | 7 => fun x W => TkV w0 m (x 15) W
  | 8 => fun x W => TkV w0 m (x 16) W
  | _ => fun _ _ => False
structure TkS (w0 : World) (q : Nat) (m : Mill) (Ld : Nat → Prop) (x : Nat → Value) (W : World) : Prop where
  lt : q < w0.heap.size
  ap : Apart q w0 W
  st : ∃ p, TkP w0 q m p x W ∧ (Ld 2 ↔ 0 < p) ∧ (Ld 4 ↔ 1 < p) ∧ (Ld 6 ↔ 2 < p) ∧ (Ld 12 ↔ 3 < p) ∧ (Ld 13 ↔ 4 < p) ∧ (Ld 14 ↔ 5 < p) ∧ (Ld 15 ↔ 6 < p) ∧ (Ld 16 ↔ 7 < p)
  ex : Ld 17 → Ld 16 ∧ ∃ a, x 16 = .tuple #[a, .int .i64 0] ∧ x 17 = a
  al : Ld 19 → ∃ g, x 19 = .pointer (some ⟨g, 0, none⟩) ∧ w0.heap.size ≤ g ∧ ((¬ Ld 20 ∧ Blk W g 25 #[.slice none 0 0, .int .i64 0, .slice none 0 0]) ∨ (Ld 20 ∧ ∃ a b c, x 17 = .agg #[a, b, c] ∧ Blk W g 25 #[a, b, c]))
  last : Ld 20 → Ld 17 ∧ Ld 19
theorem TkP.ext {w0 w w' : World} {q : Nat} {m : Mill} {p : Nat} {x : Nat → Value} (h : TkP w0 q m p x w) (he : Ext w w') : TkP w0 q m p x w' := by
  match p, h with
  | 0, h | 1, h | 2, h | 3, h => exact SpoolAt.ext h he
  | 4, _ => trivial
  | 5, ⟨A, r, h1, h2, h3⟩ => exact ⟨A, r, h1, h2, h3.ext he⟩
  | 6, ⟨o, h1, h2⟩ => exact ⟨o, h1.ext he, h2⟩
  | 7, h => exact TkV.ext h he
  | 8, h => exact TkV.ext h he
  | _ + 9, h => exact h.elim
theorem TkP.congr {w0 w : World} {q : Nat} {m : Mill} {p : Nat} {x y : Nat → Value} (h : TkP w0 q m p x w) (h13 : x 13 = y 13) (h14 : x 14 = y 14) (h15 : x 15 = y 15) (h16 : x 16 = y 16) : TkP w0 q m p y w := by
  match p, h with
  | 0, h | 1, h | 2, h | 3, h => exact h
  | 4, _ => trivial
  | 5, ⟨A, r, g1, g2, g3⟩ => exact ⟨A, r, by rw [← h13]; exact g1, g2, g3⟩
  | 6, ⟨o, g1, g2⟩ => exact ⟨o, by rw [← h14]; exact g1, g2⟩
  | 7, h => exact (h15 ▸ h : TkV w0 m (y 15) w)
  | 8, h => exact (h16 ▸ h : TkV w0 m (y 16) w)
  | _ + 9, h => exact h.elim
section
variable {w0 W W' : World} {q : Nat} {m : Mill} {Ld : Nat → Prop} {x : Nat → Value}
theorem or_ne {a k : Nat} {P : Prop} (h : a ≠ k) : (P ∨ a = k) ↔ P := ⟨fun g => g.resolve_right h, .inl⟩
theorem TkS.start (h : SpoolAt w0 q 0) : TkS w0 q m (fun _ => False) x w0.drew :=
  ⟨h.lt, Apart.of_ext (Ext.drew _), ⟨0, SpoolAt.ext h (Ext.drew _), by simp⟩, fun h => h.elim, fun h => h.elim, fun h => h.elim⟩
/-- an operation that only reads, or makes memory -/
theorem TkS.pure (h : TkS w0 q m Ld x W) (he : Ext W W') (k : Nat) (v : Value) (hk : k ≠ 2 ∧ k ≠ 4 ∧ k ≠ 6 ∧ k ≠ 12 ∧ k ≠ 13 ∧ k ≠ 14 ∧ k ≠ 15 ∧ k ≠ 16 ∧ k ≠ 17 ∧ k ≠ 19 ∧ k ≠ 20) : TkS w0 q m (fun j => Ld j ∨ j = k) (upd x k v) W' := by
  obtain ⟨k2, k4, k6, k12, k13, k14, k15, k16, k17, k19, k20⟩ := hk
  obtain ⟨p, h1, h2⟩ := h.st
  refine ⟨h.lt, h.ap.trans (Apart.of_ext he), ⟨p, (h1.ext he).congr ?_ ?_ ?_ ?_, ?_⟩, fun g => ?_, fun g => ?_, fun g => ?_⟩
  · exact (upd_ne (Ne.symm k13)).symm
  · exact (upd_ne (Ne.symm k14)).symm
  · exact (upd_ne (Ne.symm k15)).symm
  · exact (upd_ne (Ne.symm k16)).symm
  · simp only [or_ne (Ne.symm k2), or_ne (Ne.symm k4), or_ne (Ne.symm k6), or_ne (Ne.symm k12), or_ne (Ne.symm k13), or_ne (Ne.symm k14), or_ne (Ne.symm k15), or_ne (Ne.symm k16)]
    exact h2
  · rw [upd_ne (Ne.symm k16), upd_ne (Ne.symm k17)]
    obtain ⟨g1, g2⟩ := h.ex (g.resolve_right (Ne.symm k17))
    exact ⟨.inl g1, g2⟩
  · rw [upd_ne (Ne.symm k19)]
    obtain ⟨g1, g2, g3, g4⟩ := h.al (g.resolve_right (Ne.symm k19))
    refine ⟨g1, g2, g3, ?_⟩
    rw [or_ne (Ne.symm k20), upd_ne (Ne.symm k17)]
    rcases g4 with ⟨g4, g5⟩ | ⟨g4, a, b, c, g5, g6⟩
    · exact .inl ⟨g4, g5.ext he⟩
    · exact .inr ⟨g4, a, b, c, g5, g6.ext he⟩
  · obtain ⟨g1, g2⟩ := h.last (g.resolve_right (Ne.symm k20))
    exact ⟨.inl g1, .inl g2⟩
/-- the next operation of the chain -/
theorem TkS.next (h : TkS w0 q m Ld x W) (ha : Apart q W W') {k p : Nat} (v : Value) (hk : (p = 0 ∧ k = 2) ∨ (p = 1 ∧ k = 4) ∨ (p = 2 ∧ k = 6) ∨ (p = 3 ∧ k = 12) ∨ (p = 4 ∧ k = 13) ∨ (p = 5 ∧ k = 14) ∨ (p = 6 ∧ k = 15) ∨ (p = 7 ∧ k = 16))
    (hp : ∀ p', TkP w0 q m p' x W → (Ld 2 ↔ 0 < p') ∧ (Ld 4 ↔ 1 < p') ∧ (Ld 6 ↔ 2 < p') ∧ (Ld 12 ↔ 3 < p') ∧ (Ld 13 ↔ 4 < p') ∧ (Ld 14 ↔ 5 < p') ∧ (Ld 15 ↔ 6 < p') ∧ (Ld 16 ↔ 7 < p') → p' = p)
    (hn : TkP w0 q m (p + 1) (upd x k v) W') : TkS w0 q m (fun j => Ld j ∨ j = k) (upd x k v) W' := by
  obtain ⟨p', h1, h2⟩ := h.st
  obtain rfl := hp p' h1 h2
  have n17 : ¬ Ld 17 := fun g => by have := h2.2.2.2.2.2.2.2.1 (h.ex g).1; omega
  have n20 : ¬ Ld 20 := fun g => n17 (h.last g).1
  refine ⟨h.lt, h.ap.trans ha, ⟨p' + 1, hn, ?_⟩, fun g => ?_, fun g => ?_, fun g => ?_⟩
  · rcases hk with ⟨rfl, rfl⟩ | ⟨rfl, rfl⟩ | ⟨rfl, rfl⟩ | ⟨rfl, rfl⟩ | ⟨rfl, rfl⟩ | ⟨rfl, rfl⟩ | ⟨rfl, rfl⟩ | ⟨rfl, rfl⟩ <;> simp <;> simp at h2 <;> simp [h2]
  · exact absurd (g.resolve_right (by omega)) n17
  · rw [upd_ne (by omega)]
    obtain ⟨g1, g2, g3, g4⟩ := h.al (g.resolve_right (by omega))
    refine ⟨g1, g2, g3, .inl ⟨fun e => n20 (e.resolve_right (by omega)), ?_⟩⟩
    rcases g4 with ⟨_, g5⟩ | ⟨g4, _⟩
    · exact g5.apart (by have := h.lt; omega) ha
    · exact absurd g4 n20
  · exact absurd (g.resolve_right (by omega)) n20
theorem TkS.do17 (h : TkS w0 q m Ld x W) (h16 : Ld 16) (hn : ¬ Ld 17) {a : Value} (hx : x 16 = .tuple #[a, .int .i64 0]) : TkS w0 q m (fun j => Ld j ∨ j = 17) (upd x 17 a) W := by
  obtain ⟨p, h1, h2⟩ := h.st
  have n20 : ¬ Ld 20 := fun g => hn (h.last g).1
  refine ⟨h.lt, h.ap, ⟨p, h1.congr (upd_ne (by decide)).symm (upd_ne (by decide)).symm (upd_ne (by decide)).symm (upd_ne (by decide)).symm, by simpa using h2⟩, fun _ => ⟨.inl h16, a, by rw [upd_ne (by decide)]; exact hx, upd_self⟩, fun g => ?_, fun g => absurd (g.resolve_right (by decide)) n20⟩
  rw [upd_ne (by decide)]
  obtain ⟨g1, g2, g3, g4⟩ := h.al (g.resolve_right (by decide))
  refine ⟨g1, g2, g3, .inl ⟨fun e => n20 (e.resolve_right (by decide)), ?_⟩⟩
  rcases g4 with ⟨_, g5⟩ | ⟨g4, _⟩
  · exact g5
  · exact absurd g4 n20
theorem TkS.do19 (h : TkS w0 q m Ld x W) (hn : ¬ Ld 19) : TkS w0 q m (fun j => Ld j ∨ j = 19) (upd x 19 (.pointer (some ⟨W.heap.size, 0, none⟩))) (W.alloc (.cells #[.slice none 0 0, .int .i64 0, .slice none 0 0] 25)) := by
  obtain ⟨p, h1, h2⟩ := h.st
  have n20 : ¬ Ld 20 := fun g => hn (h.last g).2
  have he := Ext.alloc W (.cells #[.slice none 0 0, .int .i64 0, .slice none 0 0] 25)
  refine ⟨h.lt, h.ap.trans (Apart.of_ext he), ⟨p, (h1.ext he).congr (upd_ne (by decide)).symm (upd_ne (by decide)).symm (upd_ne (by decide)).symm (upd_ne (by decide)).symm, by simpa using h2⟩, fun g => ?_, fun _ => ⟨_, upd_self, h.ap.size, .inl ⟨fun e => n20 (e.resolve_right (by decide)), Blk.new _ _ _⟩⟩, fun g => absurd (g.resolve_right (by decide)) n20⟩
  rw [upd_ne (by decide), upd_ne (by decide)]
  obtain ⟨g1, g2⟩ := h.ex (g.resolve_right (by decide))
  exact ⟨.inl g1, g2⟩
theorem TkS.do20 (h : TkS w0 q m Ld x W) (h17 : Ld 17) (h19 : Ld 19) (hn : ¬ Ld 20) {g : Nat} (hg : x 19 = .pointer (some ⟨g, 0, none⟩)) {a b c : Value} (hx : x 17 = .agg #[a, b, c]) (v : Value) :
    TkS w0 q m (fun j => Ld j ∨ j = 20) (upd x 20 v) (((W.setCell ⟨g, 0, none⟩ a).setCell ⟨g, 1, none⟩ b).setCell ⟨g, 2, none⟩ c) := by
  obtain ⟨p, h1, h2⟩ := h.st
  obtain ⟨g1, e1, g3, g4⟩ := h.al h19
  rw [hg] at e1
  simp only [Value.pointer.injEq, Option.some.injEq, Addr.mk.injEq, and_true] at e1
  subst e1
  have hb : Blk W g 25 #[.slice none 0 0, .int .i64 0, .slice none 0 0] := by
    rcases g4 with ⟨_, g5⟩ | ⟨g4, _⟩
    · exact g5
    · exact absurd g4 hn
  have hp : 7 < p := h2.2.2.2.2.2.2.2.1 (h.ex h17).1
  obtain rfl : p = 8 := by
    rcases Nat.lt_or_ge p 9 with h5 | h5
    · omega
    · obtain ⟨k, rfl⟩ : ∃ k, p = k + 9 := ⟨p - 9, by omega⟩
      exact h1.elim
  have hb0 := hb.set_ 0 a
  have hb1 := hb0.set_ 1 b
  refine ⟨h.lt, ((h.ap.above (p := ⟨g, 0, none⟩) g3 a).above (p := ⟨g, 1, none⟩) g3 b).above (p := ⟨g, 2, none⟩) g3 c, ⟨8, ?_, by simpa using h2⟩, fun e => ?_, fun _ => ⟨g, by rw [upd_ne (by decide)]; exact hg, g3, .inr ⟨.inr rfl, a, b, c, by rw [upd_ne (by decide)]; exact hx, hb1.set_ 2 c⟩⟩, fun _ => ⟨.inl h17, .inl h19⟩⟩
  · obtain ⟨o, Aa, ca, Ab, cb, k1, k2, k3, k4⟩ := h1
    exact ⟨o, Aa, ca, Ab, cb, k1, by rw [upd_ne (by decide)]; exact k2, ((k3.far hb (by decide) _ _).far hb0 (by decide) _ _).far hb1 (by decide) _ _, ((k4.far hb (by decide) (.inl (by decide)) _ _).far hb0 (by decide) (.inl (by decide)) _ _).far hb1 (by decide) (.inl (by decide)) _ _⟩
  · rw [upd_ne (by decide), upd_ne (by decide)]
    obtain ⟨f1, f2⟩ := h.ex (e.resolve_right (by decide))
    exact ⟨.inl f1, f2⟩
end
theorem more_back (m : Mill) (o : Ord) : (m.more o).without [(m.orders.length : Int)] = m := by
  have h1 : ∀ n, n ≤ m.orders.length → withoutL (m.more o) [(m.orders.length : Int)] n = m.orders.take n := fun n => by
    induction n with
    | zero => intro _; simp [withoutL]
    | succ n ih =>
      intro hn
      have hc : ([(m.orders.length : Int)] : List Int).contains (n : Int) = false := by
        rw [Bool.eq_false_iff, Ne, List.contains_iff_mem, List.mem_singleton]; omega
      rw [withoutL_out hc, ih (by omega), List.take_succ_eq_append_getElem (by omega)]
      congr 1
      show [((m.orders ++ [o])[n]?.getD default)] = _
      rw [List.getElem?_append_left (by omega), List.getElem?_eq_getElem (by omega)]; rfl
  have hc : ([(m.orders.length : Int)] : List Int).contains (m.orders.length : Int) = true := by
    rw [List.contains_iff_mem]; simp
  unfold Mill.without
  rw [more_len, withoutL_in hc, h1 _ (Nat.le_refl _), List.take_length]
  rfl
theorem more_listed (m : Mill) (o : Ord) : listedE (m.more o) [(m.orders.length : Int)] = 0 := by
  unfold listedE
  rw [if_neg, if_neg]
  · have : twiceB [(m.orders.length : Int)] = false := twice_of_nodup (by simp)
    rw [this]; simp
  · rw [Bool.not_eq_false, List.all_eq_true]
    intro x hx
    rw [List.mem_singleton] at hx
    subst hx
    rw [more_len]
    unfold inB; simp
set_option maxRecDepth 100000 in
set_option maxHeartbeats 4000000 in
theorem loomTaken_any (v v2 : Value) (w : World) (hv : BytesIn w v) (hv2 : BytesIn w v2) :
    Calls Try.prog 15 #[v, v2] w fun e w' => e = .returned (.bool true) ∧ Ext w w' := by
  have hwo := Lib.hid (wound_any v w hv)
  have Hv := Lib.hid hv; clear hv
  have Hv2 := Lib.hid hv2; clear hv2
  go_enter Try.func15, Try.ntmps15
  go_wp2_with fail
  refine hwo.out.mono ?_
  rintro e w1 ⟨rfl, hs1, he1⟩
  clear hwo
  have hma := Lib.hid (madeS_any w.heap.size 0 (by omega) 3 6 (by omega) (by omega) w1 hs1)
  go_wp2_with fail
  refine hma.out.mono ?_
  rintro e w2 ⟨mv, m, rfl, hm, hok, hlm, hom, -, hap⟩
  have hE := Apart.ext_of he1 (Nat.le_refl _) hap
  clear hma hs1 he1 hap hlm
  have l3 : m.orders.length ≤ 6 := by omega
  have Hm := Lib.hid hm
  obtain ⟨A1, c1, A2, c2, rfl, q1, q2, q3, q4, -, -⟩ := hm
  have hM := Blk.new w2 25 #[.slice A1 m.laced.length c1, .int .i64 m.change, .slice A2 m.orders.length c2]
  have hX := Ext.alloc w2 (.cells #[.slice A1 m.laced.length c1, .int .i64 m.change, .slice A2 m.orders.length c2] 25)
  have hwo := Lib.hid (wound_any v2 _ (Hv2.out.ext (hE.trans hX)))
  have hmv := Lib.hid (Hm.out.ext hX)
  have l1 := hok.looms
  have Hch := Lib.hid ((check_iff m).2 hok)
  have Hok := Lib.hid hok
  replace hE := hE.trans hX
  clear Hm hok hom q1 q2 q3 q4
  go_wp2_with fail
  obtain ⟨M, hMe⟩ : ∃ M, w2.heap.size = M := ⟨_, rfl⟩
  rw [hMe] at hM ⊢
  generalize w2.alloc _ = W3 at *
  clear hMe hX
  refine hwo.out.mono ?_
  rintro e w4 ⟨rfl, hs4, he4⟩
  obtain ⟨q, hq⟩ : ∃ q, W3.heap.size = q := ⟨_, rfl⟩
  have hMq : M < q := by rw [← hq]; exact hM.lt
  rw [hq] at hs4 ⊢
  have HW3 := Lib.hid (fun W (ha : Apart q w4 W) => Apart.ext_of he4 (by omega) ha)
  have Hm3 := Lib.hid hmv.out
  have hM4 := hM.ext he4; have hE4 := hE.trans he4
  have HEw3 := Lib.hid hE
  clear hwo hE hM hq
  have hqg := hE4.size
  go_wp2_with fail
  refine wp_region_stage 21 (by kernel_rfl) (by kernel_rfl) (TkS w4 q m) (TkR q M A1 A2 c1 c2 m) (fun x => TkS.start hs4) ?_ ?_
  · simp only [List.take, AllOps3, fill, Act.put, List.setIfInBounds_toArray, List.set_cons_zero, List.set_cons_succ, Nat.reduceAdd, DepsV, DepsL, List.filter_cons, List.filter_nil, Region.binds, if_true, and_true, Closed]
    refine ⟨?_, ?_, ?_, ?_, ?_, ?_, ?_, ?_, ?_, ?_, ?_, ?_, ?_, ?_, ?_, ?_, ?_, ?_, ?_, ?_, ?_⟩
    all_goals
      intro Ld x W hS hcl hnl hdl hd K Q hK
      have hMW := hM4.apart (by omega) hS.ap
      obtain ⟨k0, k1, k2⟩ := hMW.c3
      try simp only [TkR] at hd
      have HK := Lib.hid hK; clear hK hcl
      have HS := Lib.hid hS; clear hS
      have Hnl := Lib.hid hnl; have Hdl := Lib.hid hdl; clear hnl hdl
    case refine_3 =>
      obtain ⟨p, hP, i2, i4, _⟩ := HS.out.st
      obtain rfl : p = 0 := by have : ¬ 0 < p := fun g => Hnl.out (i2.2 g); omega
      have hup := Lib.hid (upto_any q 0 (by omega) 3 (by omega) 3 (by omega) W hP)
      simp only [hd] at HK ⊢
      clear hP
      go_wp2_with fail
      refine hup.out.mono ?_
      rintro e w5 ⟨r, rfl, hr1, hr2, hs5, ha5⟩
      go_wp2_with fail
      refine HK.out _ _ ⟨r, rfl, hr1, hr2⟩ (HS.out.next ha5 _ (.inl ⟨rfl, rfl⟩) (fun p' _ h => ?_) hs5)
      have : ¬ 0 < p' := fun g => Hnl.out (h.1.2 g)
      omega
    case refine_5 =>
      obtain ⟨p, hP, i2, i4, _⟩ := HS.out.st
      obtain rfl : p = 1 := by have h1 := i2.1 Hdl.out.2; have : ¬ 1 < p := fun g => Hnl.out (i4.2 g); omega
      have hup := Lib.hid (from_any q 1 (by omega) 1 5 (by omega) 5 (by omega) W hP)
      simp only [hd] at HK ⊢
      clear hP
      go_wp2_with fail
      refine hup.out.mono ?_
      rintro e w5 ⟨r, rfl, hr1, hr2, hs5, ha5⟩
      go_wp2_with fail
      refine HK.out _ _ ⟨r, rfl, hr1, hr2⟩ (HS.out.next ha5 _ (.inr (.inl ⟨rfl, rfl⟩)) (fun p' _ h => ?_) hs5)
      have h1 := h.1.1 Hdl.out.2
      have : ¬ 1 < p' := fun g => Hnl.out (h.2.1.2 g)
      omega
    case refine_7 =>
      obtain ⟨p, hP, i2, i4, i6, _⟩ := HS.out.st
      obtain rfl : p = 2 := by have h1 := i4.1 Hdl.out.2; have : ¬ 2 < p := fun g => Hnl.out (i6.2 g); omega
      have hup := Lib.hid (from_any q 2 (by omega) 1 20 (by omega) 20 (by omega) W hP)
      simp only [hd] at HK ⊢
      clear hP
      go_wp2_with fail
      refine hup.out.mono ?_
      rintro e w5 ⟨r, rfl, hr1, hr2, hs5, ha5⟩
      go_wp2_with fail
      refine HK.out _ _ ⟨r, rfl, hr1, hr2⟩ (HS.out.next ha5 _ (.inr (.inr (.inl ⟨rfl, rfl⟩))) (fun p' _ h => ?_) hs5)
      have h1 := h.2.1.1 Hdl.out.2
      have : ¬ 2 < p' := fun g => Hnl.out (h.2.2.1.2 g)
      omega
    case refine_13 =>
      obtain ⟨p, hP, i2, i4, i6, i12, _⟩ := HS.out.st
      obtain rfl : p = 3 := by have h1 := i6.1 Hdl.out.2.2; have : ¬ 3 < p := fun g => Hnl.out (i12.2 g); omega
      have hup := Lib.hid (upto_any q 3 (by omega) ((m.laced.length : Int) - 1) (by omega) ((m.laced.length : Int) - 1) (by omega) W hP)
      simp only [hd] at HK ⊢
      clear hP
      go_wp2_with fail
      refine hup.out.mono ?_
      rintro e w5 ⟨r, rfl, hr1, hr2, hs5, ha5⟩
      go_wp2_with fail
      refine HK.out _ _ ⟨r, rfl, hr1, by omega⟩ (HS.out.next ha5 _ (.inr (.inr (.inr (.inl ⟨rfl, rfl⟩)))) (fun p' _ h => ?_) trivial)
      have h1 := h.2.2.1.1 Hdl.out.2.2
      have : ¬ 3 < p' := fun g => Hnl.out (h.2.2.2.1.2 g)
      omega
    case refine_14 =>
      obtain ⟨r, h12, hr1, hr2⟩ := hd
      simp only [h12] at HK ⊢
      clear h12
      go_wp2_with fail
      refine HK.out _ _ trivial (HS.out.next (Apart.of_ext (Ext.alloc _ _)) _ (.inr (.inr (.inr (.inr (.inl ⟨rfl, rfl⟩))))) (fun p' _ h => ?_) ⟨_, r, upd_self, ⟨hr1, hr2⟩, ?_⟩)
      · have h1 := h.2.2.2.1.1 Hdl.out
        have : ¬ 4 < p' := fun g => Hnl.out (h.2.2.2.2.1.2 g)
        omega
      · intro k hk
        obtain rfl : k = 0 := by simpa using hk
        exact ⟨_, _, rfl, by simp⟩
    case refine_15 =>
      obtain ⟨⟨r2, h2, b2⟩, ⟨r4, h4, b4⟩, ⟨r6, h6, b6⟩, _⟩ := hd
      obtain ⟨p, hP, i2, i4, i6, i12, i13, i14, _⟩ := HS.out.st
      obtain rfl : p = 5 := by have h1 := i13.1 Hdl.out.2.2.2; have : ¬ 5 < p := fun g => Hnl.out (i14.2 g); omega
      obtain ⟨A, r, h13, hr, hi13⟩ := hP
      simp only [h2, h4, h6, h13] at HK ⊢
      have Hi := Lib.hid hi13
      clear h2 h4 h6 h13 hi13
      go_wp2_with fail
      refine HK.out _ _ trivial (HS.out.next (Apart.refl _ _) _ (.inr (.inr (.inr (.inr (.inr (.inl ⟨rfl, rfl⟩)))))) (fun p' _ h => ?_) ⟨⟨r2, r4, r6, [r]⟩, ?_, ?_⟩)
      · have h1 := h.2.2.2.2.1.1 Hdl.out.2.2.2
        have : ¬ 5 < p' := fun g => Hnl.out (h.2.2.2.2.2.1.2 g)
        omega
      · rw [upd_self]
        exact ⟨A, 1, ⟨Nat.le_refl _, by unfold maxLen; omega⟩, rfl, Hi.out⟩
      · refine ⟨⟨b2.1, by show r2 ≤ 9; omega⟩, ⟨b4.1, by show r4 ≤ 20; omega⟩, ⟨b6.1, by show r6 ≤ 99; omega⟩, by simp, fun y hy => ?_, rfl⟩
        rw [List.mem_singleton] at hy
        subst hy; exact hr
    case refine_16 =>
      obtain ⟨p, hP, i2, i4, i6, i12, i13, i14, i15, _⟩ := HS.out.st
      obtain rfl : p = 6 := by have h1 := i14.1 Hdl.out.2.1; have : ¬ 6 < p := fun g => Hnl.out (i15.2 g); omega
      obtain ⟨o, ho, hoo⟩ := hP
      have hmo := more_ok Hok.out hoo (by omega)
      have ht : takeE m o = 0 := by
        unfold takeE
        rw [if_pos Hch.out, if_neg (by omega)]
        exact (check_iff _).2 hmo
      have hta := Lib.hid (take_any _ (x 14) m o (by have := rising_len hoo.up hoo.on; omega) 0 ht W (Hm3.out.ext (HW3.out W HS.out.ap)) ho)
      simp only [hd] at HK ⊢
      clear ho ht
      go_wp2_with fail
      refine hta.out.mono ?_
      rintro e w5 ⟨rv, rfl, hrv, he5⟩
      rcases hrv with ⟨_, a, b, rfl, ha, hb⟩ | ⟨h, _⟩
      · obtain ⟨Aa, ca, rfl, _, _, _, _, _⟩ := ha.open_
        obtain ⟨Ab, cb, rfl, _, _, _⟩ := hb.ords
        have hln := more_len m o
        go_wp2_with fail
        refine HK.out _ _ trivial (HS.out.next (Apart.of_ext he5) _ (.inr (.inr (.inr (.inr (.inr (.inr (.inl ⟨rfl, rfl⟩))))))) (fun p' _ h => ?_) ?_)
        · have h1 := h.2.2.2.2.2.1.1 Hdl.out.2.1
          have : ¬ 6 < p' := fun g => Hnl.out (h.2.2.2.2.2.2.1.2 g)
          omega
        · have hsz := HS.out.ap.size
          refine ⟨o, Aa, ca, Ab, cb, hoo, by rw [upd_self, ← hln]; rfl, ha.mono hsz, ?_⟩
          rw [← hln]
          obtain ⟨cs', p1, p2⟩ := hb
          exact ⟨cs', ownsRow_mono p1 hsz, p2.map fun _ _ g => g.mono hsz⟩
      · exact absurd rfl h
    case refine_17 =>
      obtain ⟨p, hP, i2, i4, i6, i12, i13, i14, i15, i16⟩ := HS.out.st
      obtain rfl : p = 7 := by have h1 := i15.1 Hdl.out; have : ¬ 7 < p := fun g => Hnl.out (i16.2 g); omega
      go_wp2_with fail
      refine HK.out _ _ trivial (HS.out.next (Apart.refl _ _) _ (.inr (.inr (.inr (.inr (.inr (.inr (.inr ⟨rfl, rfl⟩))))))) (fun p' _ h => ?_) ?_)
      · have h1 := h.2.2.2.2.2.2.1.1 Hdl.out
        have : ¬ 7 < p' := fun g => Hnl.out (h.2.2.2.2.2.2.2.2 g)
        omega
      · show TkV w4 m (upd x 16 (x 15) 16) W
        rw [upd_self]; exact hP
    case refine_18 =>
      obtain ⟨p, hP, i2, i4, i6, i12, i13, i14, i15, i16⟩ := HS.out.st
      have h1 := i16.1 Hdl.out
      obtain rfl : p = 8 := by
        rcases Nat.lt_or_ge p 9 with h5 | h5
        · omega
        · obtain ⟨k, rfl⟩ : ∃ k, p = k + 9 := ⟨p - 9, by omega⟩
          exact hP.elim
      obtain ⟨o, Aa, ca, Ab, cb, _, h16, _, _⟩ := hP
      have H16 := Lib.hid h16
      simp only [h16] at HK ⊢
      clear h16
      go_wp2_with fail
      exact HK.out _ _ trivial (HS.out.do17 Hdl.out Hnl.out H16.out)
    case refine_19 =>
      obtain ⟨p, hP, i2, i4, i6, i12, i13, i14, i15, i16⟩ := HS.out.st
      have h1 := i16.1 Hdl.out.1
      obtain rfl : p = 8 := by
        rcases Nat.lt_or_ge p 9 with h5 | h5
        · omega
        · obtain ⟨k, rfl⟩ : ∃ k, p = k + 9 := ⟨p - 9, by omega⟩
          exact hP.elim
      obtain ⟨o, Aa, ca, Ab, cb, _, h16, _, _⟩ := hP
      simp only [h16] at HK ⊢
      clear h16
      go_wp2_with fail
      exact HK.out _ _ rfl (HS.out.pure (Ext.refl _) _ _ (by decide))
    case refine_20 =>
      go_wp2_with fail
      exact HK.out _ _ trivial (HS.out.do19 Hnl.out)
    case refine_21 =>
      have h17 : Ld 17 := Hdl.out.2.1
      have h19 : Ld 19 := Hdl.out.1
      obtain ⟨g, hg, hge, hgb⟩ := HS.out.al h19
      obtain ⟨f1, a17, f2, f3⟩ := HS.out.ex h17
      obtain ⟨p, hP, i2, i4, i6, i12, i13, i14, i15, i16⟩ := HS.out.st
      have h1 := i16.1 f1
      obtain rfl : p = 8 := by
        rcases Nat.lt_or_ge p 9 with h5 | h5
        · omega
        · obtain ⟨k, rfl⟩ : ∃ k, p = k + 9 := ⟨p - 9, by omega⟩
          exact hP.elim
      obtain ⟨o, Aa, ca, Ab, cb, _, h16, _, _⟩ := hP
      have h17x : x 17 = .agg #[.slice Aa m.laced.length ca, .int .i64 m.change, .slice Ab (m.orders.length + 1) cb] := by
        rw [f2] at h16
        simp only [Value.tuple.injEq, Array.mk.injEq, List.cons.injEq, and_true] at h16
        rw [f3, h16]
      have hb : Blk W g 25 #[.slice none 0 0, .int .i64 0, .slice none 0 0] := by
        rcases hgb with ⟨_, g5⟩ | ⟨g4, _⟩
        · exact g5
        · exact absurd g4 Hnl.out
      have H17 := Lib.hid h17x; have Hg := Lib.hid hg
      simp only [h17x, hg] at HK ⊢
      obtain ⟨v0, v1, v2⟩ := hb.c3
      have f0 := hb.frozen 0; have f1' := hb.frozen 1; have f2' := hb.frozen 2
      clear h16 f2 f3 h17x hg hgb i2 i4 i6 i12 i13 i14 i15 i16 h1 f1 k0 k1 k2
      go_wp2_with fail
      exact HK.out undef _ trivial (HS.out.do20 h17 h19 Hnl.out Hg.out H17.out _)
    all_goals
      try simp only [hd] at HK ⊢
      go_wp2_with fail
      exact HK.out _ _ rfl (HS.out.pure (Ext.refl _) _ _ (by decide))
  · intro x W hS hR
    obtain ⟨g, hg, hge, hgb⟩ := hS.al (by decide)
    obtain ⟨f1, a17, f2, f3⟩ := hS.ex (by decide)
    obtain ⟨p, hP, i2, i4, i6, i12, i13, i14, i15, i16⟩ := hS.st
    have h1 := i16.1 f1
    obtain rfl : p = 8 := by
      rcases Nat.lt_or_ge p 9 with h5 | h5
      · omega
      · obtain ⟨k, rfl⟩ : ∃ k, p = k + 9 := ⟨p - 9, by omega⟩
        exact hP.elim
    obtain ⟨o, Aa, ca, Ab, cb, hoo, h16, hua, hub⟩ := hP
    have h17x : x 17 = .agg #[.slice Aa m.laced.length ca, .int .i64 m.change, .slice Ab (m.orders.length + 1) cb] := by
      rw [f2] at h16
      simp only [Value.tuple.injEq, Array.mk.injEq, List.cons.injEq, and_true] at h16
      rw [f3, h16]
    have hU : Blk W g 25 #[.slice Aa m.laced.length ca, .int .i64 m.change, .slice Ab (m.orders.length + 1) cb] := by
      rcases hgb with ⟨g5, _⟩ | ⟨_, a, b, c, g5, g6⟩
      · exact absurd (by decide : 20 < 21) g5
      · rw [h17x] at g5
        simp only [Value.agg.injEq, Array.mk.injEq, List.cons.injEq, and_true] at g5
        obtain ⟨rfl, rfl, rfl⟩ := g5
        exact g6
    have h18 : x 18 = .int .i64 0 := by
      simp only [AllV, TkR, true_and] at hR
      exact hR.1.1.2
    have hE3 := HW3.out W hS.ap
    have hM5 := hM4.apart (by omega) hS.ap
    have hmv := Lib.hid (Hm3.out.ext hE3)
    have hEw := HEw3.out.trans hE3
    simp only [List.take, List.drop, fill, Act.put, List.setIfInBounds_toArray, List.set_cons_zero, List.set_cons_succ, Nat.reduceAdd, h18, hg]
    have hln := more_len m o
    have huok := more_ok Hok.out hoo (by omega)
    have huv := MillVal.ofOB (m := m.more o) hua hub
    have hlate := more_late Hok.out huok
    have huch := (check_iff _).2 huok
    have hfew : planF (m.more o) ≠ none → planF m ≠ none ∧ fewR m (2 ^ m.orders.length - 1) ≤ fewR (m.more o) (2 ^ (m.more o).orders.length - 1) := fun h => by
      have h2 := (more_emb m o).few huok Hch.out huch (Classical.not_not.1 fun e => h ((planF_feas huch).2 e))
      exact ⟨fun e => (planF_feas Hch.out).1 e h2.1, h2.2⟩
    have hback := more_back m o
    have hlist := more_listed m o
    obtain ⟨u, hu⟩ : ∃ u, m.more o = u := ⟨_, rfl⟩
    have huc : u.change = m.change := by rw [← hu]; rfl
    have hul : u.laced.length = m.laced.length := by rw [← hu]; rfl
    have huv : Hid (MillVal W (.agg #[.slice Aa m.laced.length ca, .int .i64 m.change, .slice Ab (m.orders.length + 1) cb]) u) := by rw [← hu]; exact huv
    rw [hu] at hln huok hlate huch hfew hback hlist
    have Huok := Lib.hid huok; have Hlate := Lib.hid hlate; have Huch := Lib.hid huch; have Hfew := Lib.hid hfew; have Hback := Lib.hid hback; have Hlist := Lib.hid hlist; have Hln := Lib.hid hln; have Huc := Lib.hid huc
    clear hu hln huok hlate huch hfew hback hlist huc hul h18 hg hR hS hua hub h16 h17x f1 f2 f3 i2 i4 i6 i12 i13 i14 i15 i16 h1 hgb hoo hs4 hM4 hE4
    obtain ⟨k0, k1, k2⟩ := hM5.c3
    obtain ⟨u0, u1, u2⟩ := hU.c3
    have hpm := Lib.hid (plan_ok _ m Hch.out W hmv.out)
    go_wp2_with fail
    refine hpm.out.mono ?_
    -- what the four plans and lists come to: sp says whether the mill has a plan, su whether the one with an order more has
    have hplan : ∀ (e : Ending) (w5 : World), ((planF m = none ∧ e = .returned (.tuple #[.slice none 0 0, .int .i64 6]) ∧ Ext W w5) ∨ (∃ rows r, planF m = some rows ∧ e = .returned (.tuple #[r, .int .i64 0]) ∧ RowsI w5 r rows ∧ Ext W w5)) →
        ∃ rm em, e = .returned (.tuple #[rm, .int .i64 em]) ∧ ((planF m = none ∧ em = 6) ∨ (em = 0 ∧ ∃ rows, planF m = some rows ∧ RowsI w5 rm rows)) ∧ Ext W w5 := by
      rintro e w5 (⟨h1, h2, h3⟩ | ⟨rows, r, h1, h2, h3, h4⟩)
      · exact ⟨_, 6, h2, .inl ⟨h1, rfl⟩, h3⟩
      · exact ⟨r, 0, h2, .inr ⟨rfl, rows, h1, h3⟩, h4⟩
    rintro e w5 h5
    obtain ⟨rm, em, rfl, hrm, he5⟩ := hplan e w5 h5
    have Hrm := Lib.hid hrm
    clear hplan h5 hrm hpm k0 k1 k2 u0 u1 u2
    have hM := hM5.ext he5; replace hU := hU.ext he5; replace hmv := Lib.hid (hmv.out.ext he5); replace huv := Lib.hid (huv.out.ext he5); replace hEw := hEw.trans he5
    clear he5 hM5
    obtain ⟨k0, k1, k2⟩ := hM.c3
    obtain ⟨u0, u1, u2⟩ := hU.c3
    have hpu := Lib.hid (plan_ok _ u Huch.out w5 huv.out)
    go_wp2_with fail
    refine hpu.out.mono ?_
    have hplan : ∀ (e : Ending) (w6 : World), ((planF u = none ∧ e = .returned (.tuple #[.slice none 0 0, .int .i64 6]) ∧ Ext w5 w6) ∨ (∃ rows r, planF u = some rows ∧ e = .returned (.tuple #[r, .int .i64 0]) ∧ RowsI w6 r rows ∧ Ext w5 w6)) →
        ∃ ru eu, e = .returned (.tuple #[ru, .int .i64 eu]) ∧ ((planF u = none ∧ eu = 6) ∨ (eu = 0 ∧ ∃ rows, planF u = some rows ∧ RowsI w6 ru rows)) ∧ Ext w5 w6 := by
      rintro e w6 (⟨h1, h2, h3⟩ | ⟨rows, r, h1, h2, h3, h4⟩)
      · exact ⟨_, 6, h2, .inl ⟨h1, rfl⟩, h3⟩
      · exact ⟨r, 0, h2, .inr ⟨rfl, rows, h1, h3⟩, h4⟩
    rintro e w6 h6
    obtain ⟨ru, eu, rfl, hru, he6⟩ := hplan e w6 h6
    have Hru := Lib.hid hru
    have hrm := Hrm.out
    replace Hrm : Hid ((planF m = none ∧ em = 6) ∨ (em = 0 ∧ ∃ rows, planF m = some rows ∧ RowsI w6 rm rows)) := by
      rcases hrm with h | ⟨h1, rows, h2, h3⟩
      · exact .inl h
      · exact .inr ⟨h1, rows, h2, h3.ext he6⟩
    clear hplan h6 hru hrm hpu k0 k1 k2 u0 u1 u2
    replace hM := hM.ext he6; replace hU := hU.ext he6; replace hmv := Lib.hid (hmv.out.ext he6); replace huv := Lib.hid (huv.out.ext he6); replace hEw := hEw.trans he6
    clear he6
    obtain ⟨k0, k1, k2⟩ := hM.c3
    obtain ⟨u0, u1, u2⟩ := hU.c3
    have hlm := Lib.hid (late_ok _ m Hch.out w6 hmv.out)
    go_wp2_with fail
    refine hlm.out.mono ?_
    rintro e w7 ⟨rx, rfl, hrx, he7⟩
    obtain ⟨Ax, cx, ex, -, -, -⟩ := (show SlI w7 rx (lateL m) from hrx)
    subst ex
    have hrm := Hrm.out; have hru := Hru.out
    replace Hrm : Hid ((planF m = none ∧ em = 6) ∨ (em = 0 ∧ ∃ rows, planF m = some rows ∧ RowsI w7 rm rows)) := by
      rcases hrm with h | ⟨h1, rows, h2, h3⟩
      · exact .inl h
      · exact .inr ⟨h1, rows, h2, h3.ext he7⟩
    replace Hru : Hid ((planF u = none ∧ eu = 6) ∨ (eu = 0 ∧ ∃ rows, planF u = some rows ∧ RowsI w7 ru rows)) := by
      rcases hru with h | ⟨h1, rows, h2, h3⟩
      · exact .inl h
      · exact .inr ⟨h1, rows, h2, h3.ext he7⟩
    clear hrm hru hrx hlm k0 k1 k2 u0 u1 u2
    replace hM := hM.ext he7; replace hU := hU.ext he7; replace hmv := Lib.hid (hmv.out.ext he7); replace huv := Lib.hid (huv.out.ext he7); replace hEw := hEw.trans he7
    clear he7
    obtain ⟨k0, k1, k2⟩ := hM.c3
    obtain ⟨u0, u1, u2⟩ := hU.c3
    have hlu := Lib.hid (late_ok _ u Huch.out w7 huv.out)
    go_wp2_with fail
    refine hlu.out.mono ?_
    rintro e w8 ⟨ry, rfl, hry, he8⟩
    obtain ⟨Ay, cy, ey, -, -, -⟩ := (show SlI w8 ry (lateL u) from hry)
    subst ey
    have hrm := Hrm.out; have hru := Hru.out
    replace Hrm : Hid ((planF m = none ∧ em = 6) ∨ (em = 0 ∧ ∃ rows, planF m = some rows ∧ RowsI w8 rm rows)) := by
      rcases hrm with h | ⟨h1, rows, h2, h3⟩
      · exact .inl h
      · exact .inr ⟨h1, rows, h2, h3.ext he8⟩
    replace Hru : Hid ((planF u = none ∧ eu = 6) ∨ (eu = 0 ∧ ∃ rows, planF u = some rows ∧ RowsI w8 ru rows)) := by
      rcases hru with h | ⟨h1, rows, h2, h3⟩
      · exact .inl h
      · exact .inr ⟨h1, rows, h2, h3.ext he8⟩
    clear hrm hru hry hlu k0 k1 k2 u0 u1 u2
    replace hM := hM.ext he8; replace hU := hU.ext he8; replace hmv := Lib.hid (hmv.out.ext he8); replace huv := Lib.hid (huv.out.ext he8); replace hEw := hEw.trans he8
    clear he8
    obtain ⟨k0, k1, k2⟩ := hM.c3
    obtain ⟨u0, u1, u2⟩ := hU.c3
    have hX := Ext.alloc w8 (.cells #[.int .i64 (m.orders.length : Int)] 3)
    have hI1 : IntsAt (w8.alloc (.cells #[.int .i64 (m.orders.length : Int)] 3)) (some ⟨w8.heap.size, 0, none⟩) [(m.orders.length : Int)] := fun k hk => by
      obtain rfl : k = 0 := by simpa using hk
      exact ⟨_, _, rfl, by simp⟩
    have hwi := Lib.hid (without_ok _ u Huok.out (some ⟨w8.heap.size, 0, none⟩) 1 [(m.orders.length : Int)] Hlist.out _ (huv.out.ext hX) (Nat.le_refl _) (by unfold maxLen; omega) hI1)
    clear hI1
    go_wp2_with fail
    generalize w8.alloc _ = W9 at *
    refine hwi.out.mono ?_
    rintro e w10 ⟨ba, bb, rfl, hba, hbb, he10⟩
    have hbv0 := MillVal.ofOB (m := u.without [(m.orders.length : Int)]) hba hbb
    obtain ⟨Ba, b1, rfl, -, -, -, -, -⟩ := hba.open_
    obtain ⟨Bb, b2, rfl, -, -, -⟩ := hbb.ords
    have hbv : Hid (MillVal w10 (.agg #[.slice Ba u.laced.length b1, .int .i64 m.change, .slice Bb (withoutL u [(m.orders.length : Int)] u.orders.length).length b2]) m) := by
      have := hbv0
      rw [Hback.out] at this
      exact this
    rw [Huc.out]
    obtain ⟨BL, hBL⟩ : ∃ BL, (withoutL u [(m.orders.length : Int)] u.orders.length).length = BL := ⟨_, rfl⟩
    rw [hBL] at hbv ⊢
    have heX := hX.trans he10
    have hB := Blk.new w10 25 #[.slice Ba u.laced.length b1, .int .i64 m.change, .slice Bb BL b2]
    have hXB := Ext.alloc w10 (.cells #[.slice Ba u.laced.length b1, .int .i64 m.change, .slice Bb BL b2] 25)
    have heY := heX.trans hXB
    have hrm := Hrm.out; have hru := Hru.out
    replace Hrm : Hid ((planF m = none ∧ em = 6) ∨ (em = 0 ∧ ∃ rows, planF m = some rows ∧ RowsI (w10.alloc (.cells #[.slice Ba u.laced.length b1, .int .i64 m.change, .slice Bb BL b2] 25)) rm rows)) := by
      rcases hrm with h | ⟨h1, rows, h2, h3⟩
      · exact .inl h
      · exact .inr ⟨h1, rows, h2, h3.ext heY⟩
    replace Hru : Hid ((planF u = none ∧ eu = 6) ∨ (eu = 0 ∧ ∃ rows, planF u = some rows ∧ RowsI (w10.alloc (.cells #[.slice Ba u.laced.length b1, .int .i64 m.change, .slice Bb BL b2] 25)) ru rows)) := by
      rcases hru with h | ⟨h1, rows, h2, h3⟩
      · exact .inl h
      · exact .inr ⟨h1, rows, h2, h3.ext heY⟩
    replace hM := hM.ext heY; replace hU := hU.ext heY; replace hmv := Lib.hid (hmv.out.ext heY); replace huv := Lib.hid (huv.out.ext heY); replace hEw := hEw.trans heY
    have hsm := Lib.hid (same_any _ _ m m true (by simp) _ (hbv.out.ext hXB) hmv.out)
    clear hrm hru hwi k0 k1 k2 u0 u1 u2 hba hbb he10 hX heX heY hBL hbv0 hbv hXB
    obtain ⟨k0, k1, k2⟩ := hM.c3
    obtain ⟨b0, b3, b4⟩ := hB.c3
    go_upto_region 11 with fail
    generalize w10.alloc _ = W11 at *
    obtain ⟨lx, hlx⟩ : ∃ lx, (lateL m).length = lx := ⟨_, rfl⟩
    obtain ⟨ly, hly⟩ : ∃ ly, (lateL u).length = ly := ⟨_, rfl⟩
    have hll := Hlate.out
    have hlb : (lateL m).length ≤ 6 := by
      obtain ⟨off, _, _, h3⟩ := late_feas Hch.out
      rw [lateL_len h3]
      have := bits_len m.orders.length off
      omega
    rw [hlx, hly] at hll
    rw [hlx] at hlb
    simp only [hlx, hly]
    obtain ⟨hd1, hd2⟩ : decide (ly < lx) = false ∧ decide (lx + 1 < ly) = false := ⟨decide_eq_false (by omega), decide_eq_false (by omega)⟩
    obtain ⟨hd1', hd2'⟩ : decide ((ly : Int) < lx) = false ∧ decide ((lx : Int) + 1 < ly) = false := ⟨decide_eq_false (by omega), decide_eq_false (by omega)⟩
    clear hlx hly
    go_wp2_with fail
    refine hsm.out.mono ?_
    rintro e w12 ⟨rfl, he12⟩
    have hrm := Hrm.out; have hru := Hru.out
    replace Hrm : Hid ((planF m = none ∧ em = 6) ∨ (em = 0 ∧ ∃ rows, planF m = some rows ∧ RowsI w12 rm rows)) := by
      rcases hrm with h | ⟨h1, rows, h2, h3⟩
      · exact .inl h
      · exact .inr ⟨h1, rows, h2, h3.ext he12⟩
    replace Hru : Hid ((planF u = none ∧ eu = 6) ∨ (eu = 0 ∧ ∃ rows, planF u = some rows ∧ RowsI w12 ru rows)) := by
      rcases hru with h | ⟨h1, rows, h2, h3⟩
      · exact .inl h
      · exact .inr ⟨h1, rows, h2, h3.ext he12⟩
    replace hM := hM.ext he12; replace hU := hU.ext he12; replace hmv := Lib.hid (hmv.out.ext he12); replace huv := Lib.hid (huv.out.ext he12); replace hEw := hEw.trans he12
    clear hrm hru hsm k0 k1 k2 b0 b3 b4 he12 hB
    rcases Hru.out with ⟨hun, rfl⟩ | ⟨rfl, rowsu, hus, hru⟩
    · clear Hrm Hru hun
      go_wp2_with fail
      refine (awake_any w12).mono ?_
      rintro e w13 ⟨rfl, he13⟩
      go_wp2_with fail
      go_ret
      exact ⟨rfl, hEw.trans he13⟩
    · obtain ⟨hnm, hfw⟩ := Hfew.out (by rw [hus]; simp)
      rcases Hrm.out with ⟨hun, _⟩ | ⟨rfl, rowsm, hms, hrm⟩
      · exact absurd hun hnm
      have hpo := Lib.hid (plan_law Hch.out hms)
      have hpo2 := Lib.hid (plan_law Huch.out hus)
      have hkp1 := Lib.hid (kept_any _ rm m Hch.out rowsm (by rw [hpo.out.all]; omega) (by rw [hpo.out.len]; omega) true true (by have := hpo.out.kept; unfold keptQ at this; exact (Bool.and_eq_true _ _ ▸ this).1) hpo.out.kept w12 hmv.out hrm)
      have Hrru := Lib.hid hru
      have Hfw := Lib.hid hfw
      have hul : Hid (u.orders.length ≤ 7 ∧ u.laced.length ≤ 3) := ⟨Huok.out.few, Huok.out.looms.2⟩
      clear Hrm Hru hus hms hrm hru hnm hfw
      obtain ⟨k0, k1, k2⟩ := hM.c3
      go_wp2_with fail
      refine hkp1.out.mono ?_
      rintro e w13 ⟨rfl, he13⟩
      replace hU := hU.ext he13; replace huv := Lib.hid (huv.out.ext he13); replace hEw := hEw.trans he13
      have hkp2 := Lib.hid (kept_any _ ru u Huch.out rowsu (by rw [hpo2.out.all]; have := hul.out; omega) (by rw [hpo2.out.len]; have := hul.out; omega) true true (by have := hpo2.out.kept; unfold keptQ at this; exact (Bool.and_eq_true _ _ ▸ this).1) hpo2.out.kept w13 huv.out (Hrru.out.ext he13))
      clear hkp1 k0 k1 k2
      obtain ⟨u0, u1, u2⟩ := hU.c3
      go_wp2_with fail
      refine hkp2.out.mono ?_
      rintro e w14 ⟨rfl, he14⟩
      clear hkp2 u0 u1 u2
      simp only [if_true]
      obtain ⟨na, hna⟩ : ∃ na, chgF m rowsm rowsm.length = na := ⟨_, rfl⟩
      obtain ⟨nb, hnb⟩ : ∃ nb, chgF u rowsu rowsu.length = nb := ⟨_, rfl⟩
      have hcmp : na ≤ nb := by
        rw [← hna, ← hnb, hpo.out.sum, hpo2.out.sum]; exact Hfw.out
      rw [hna, hnb]
      clear hna hnb
      go_wp2_with fail
      refine (awake_any w14).mono ?_
      rintro e w15 ⟨rfl, he15⟩
      go_wp2_with fail
      go_ret
      exact ⟨rfl, hEw.trans (he14.trans he15)⟩
end Go.Proofs.Pet
