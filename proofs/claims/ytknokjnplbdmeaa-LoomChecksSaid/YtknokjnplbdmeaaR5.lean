/-
  Orders of the call's own, each with a list of looms in a row of its own, no two in the same: as Own makes them.
-/
import Derived.Test.YtknokjnplbdmeaaO1
namespace Go.Proofs.Pet
open Go Go.RowKit Go.Maps Go.Shelf

/-- the cells of orders, their lists f -/
def OrdCur (cur : Array Value) (os : List Ord) (f : Nat → Value) (K : Nat) : Prop :=
  ∀ k, k < os.length → cur[k * 4]? = some (.int .i64 (os[k]?.getD default).pattern) ∧ cur[k * 4 + 1]? = some (.int .i64 (os[k]?.getD default).days) ∧ cur[k * 4 + 2]? = some (.int .i64 (os[k]?.getD default).by_) ∧ (k < K → cur[k * 4 + 3]? = some (f k))
/-- each of the first K lists in a row of its own -/
structure ListsSep (w : World) (base : Nat) (a : Value) (os : List Ord) (f : Nat → Value) (K : Nat) : Prop where
  own : ∀ k, k < K → OwnI w base 3 (f k) (os[k]?.getD default).on
  sep : ∀ j k g, j < k → k < K → (f j).ownBlock = some g → (f k).ownBlock ≠ some g
  lac : ∀ k g, k < K → a.ownBlock = some g → (f k).ownBlock ≠ some g
def OwnSep (w : World) (base : Nat) (a v : Value) (os : List Ord) : Prop :=
  (v = .slice none 0 0 ∧ os = []) ∨ ∃ gB c cur f, v = .slice (some ⟨gB, 0, none⟩) os.length c ∧ base ≤ gB ∧ Blk w gB 78 cur ∧ os.length ≤ c ∧ c ≤ maxLen ∧ cur.size = c * 4 ∧ OrdCur cur os f os.length ∧ ListsSep w base a os f os.length
theorem ListsSep.ext {w w' : World} {base : Nat} {a : Value} {os : List Ord} {f : Nat → Value} {K : Nat} (h : ListsSep w base a os f K) (he : Ext w w') : ListsSep w' base a os f K := ⟨fun k hk => (h.own k hk).ext he, h.sep, h.lac⟩
theorem ListsSep.far {w : World} {base : Nat} {a : Value} {os : List Ord} {f : Nat → Value} {K g : Nat} {t : TypeId} {cs : Array Value} (h : ListsSep w base a os f K) (hb : Blk w g t cs) (hne : t ≠ 3) (i : Nat) (v : Value) : ListsSep (w.setCell ⟨g, i, none⟩ v) base a os f K :=
  ⟨fun k hk => (h.own k hk).far hb hne i v, h.sep, h.lac⟩
theorem OwnSep.ext {w w' : World} {base : Nat} {a v : Value} {os : List Ord} (h : OwnSep w base a v os) (he : Ext w w') : OwnSep w' base a v os := by
  rcases h with h | ⟨gB, c, cur, f, h1, h2, h3, h4, h5, h6, h7, h8⟩
  · exact .inl h
  · exact .inr ⟨gB, c, cur, f, h1, h2, h3.ext he, h4, h5, h6, h7, h8.ext he⟩
instance {w w' : World} {b : Nat} {a v : Value} {os : List Ord} : Lift (OwnSep w b a v os) w w' (OwnSep w' b a v os) := ⟨fun he h => h.ext he⟩
theorem OwnSep.mono {w : World} {base base' : Nat} {a v : Value} {os : List Ord} (h : OwnSep w base a v os) (hb : base' ≤ base) : OwnSep w base' a v os := by
  rcases h with h | ⟨gB, c, cur, f, h1, h2, h3, h4, h5, h6, h7, h8⟩
  · exact .inl h
  · exact .inr ⟨gB, c, cur, f, h1, by omega, h3, h4, h5, h6, h7, ⟨fun k hk => (h8.own k hk).mono hb, h8.sep, h8.lac⟩⟩
theorem OwnSep.far {w : World} {base : Nat} {a v : Value} {os : List Ord} {g : Nat} {t : TypeId} {cs : Array Value} (h : OwnSep w base a v os) (hb : Blk w g t cs) (h1 : t ≠ 3) (h2 : t ≠ 78) (i : Nat) (u : Value) : OwnSep (w.setCell ⟨g, i, none⟩ u) base a v os := by
  rcases h with h | ⟨gB, c, cur, f, g1, g2, g3, g4, g5, g6, g7, g8⟩
  · exact .inl h
  · exact .inr ⟨gB, c, cur, f, g1, g2, g3.far (Blk.ne_ g3 hb (fun e => h2 e.symm)) u, g4, g5, g6, g7, g8.far hb h1 i u⟩
theorem OwnSep.ords {w : World} {base : Nat} {a v : Value} {os : List Ord} (h : OwnSep w base a v os) : ∃ A c, v = .slice A os.length c ∧ os.length ≤ c ∧ c ≤ maxLen ∧ OrdsAt w A os := by
  rcases h with ⟨rfl, rfl⟩ | ⟨gB, c, cur, f, rfl, g2, g3, g4, g5, g6, g7, g8⟩
  · exact ⟨none, 0, rfl, Nat.le_refl _, Nat.zero_le _, fun k hk => by simp at hk⟩
  · refine ⟨_, c, rfl, g4, g5, fun k hk => ?_⟩
    obtain ⟨x1, x2, x3, x4⟩ := g7 k hk
    obtain ⟨A, cc, e, y1, y2, y3, _⟩ := (g8.own k hk).open_
    refine ⟨gB, 0, rfl, A, cc, ⟨y1, y2⟩, ?_, ?_, ?_, ?_, y3⟩
    · rw [g3.cell, Nat.zero_add]; exact x1
    · rw [g3.cell, Nat.zero_add]; exact x2
    · rw [g3.cell, Nat.zero_add]; exact x3
    · rw [g3.cell, Nat.zero_add, ← e]; exact x4 hk
theorem OrdCur.of {cur : Array Value} {w : World} {cs : List Value} {os : List Ord} (h : OrdList w cs os) (hc : cur.toList.take (os.length * 4) = cs) (f : Nat → Value) : OrdCur cur os f 0 := by
  intro k hk
  obtain ⟨A, c, h1, h2, h3, h4, h5, h6⟩ := h.get k hk
  have hcur : ∀ j, j < os.length * 4 → cur[j]? = cs[j]? := fun j hj => by
    rw [← hc, List.getElem?_take, if_pos hj, Array.getElem?_toList]
  exact ⟨by rw [hcur _ (by omega)]; exact h2, by rw [hcur _ (by omega)]; exact h3, by rw [hcur _ (by omega)]; exact h4, fun h => by omega⟩
theorem OrdCur.next {cur : Array Value} {os : List Ord} {f : Nat → Value} {K : Nat} (h : OrdCur cur os f K) (hK : K < os.length) (hs : os.length * 4 ≤ cur.size) (s : Value) : OrdCur (cur.setIfInBounds (K * 4 + 3) s) os (fun j => if j = K then s else f j) (K + 1) := by
  intro k hk
  obtain ⟨x1, x2, x3, x4⟩ := h k hk
  refine ⟨?_, ?_, ?_, fun h1 => ?_⟩
  · rw [Array.getElem?_setIfInBounds_ne (by omega)]; exact x1
  · rw [Array.getElem?_setIfInBounds_ne (by omega)]; exact x2
  · rw [Array.getElem?_setIfInBounds_ne (by omega)]; exact x3
  · by_cases e : k = K
    · subst e; rw [Array.getElem?_setIfInBounds_self_of_lt (by omega)]; simp
    · rw [Array.getElem?_setIfInBounds_ne (by omega)]; simp only [if_neg e]; exact x4 (by omega)
theorem ListsSep.next {w : World} {base : Nat} {a : Value} {os : List Ord} {f : Nat → Value} {K : Nat} (h : ListsSep w base a os f K) {s : Value} (hs : OwnI w base 3 s (os[K]?.getD default).on) (h1 : ∀ j g, j < K → (f j).ownBlock = some g → s.ownBlock ≠ some g) (h2 : ∀ g, a.ownBlock = some g → s.ownBlock ≠ some g) :
    ListsSep w base a os (fun j => if j = K then s else f j) (K + 1) := by
  refine ⟨fun k hk => ?_, fun j k g hjk hk hg => ?_, fun k g hk hg => ?_⟩
  · by_cases e : k = K
    · subst e; rw [if_pos rfl]; exact hs
    · rw [if_neg e]; exact h.own k (by omega)
  · rw [if_neg (by omega)] at hg
    by_cases e : k = K
    · subst e; rw [if_pos rfl]; exact h1 j g hjk hg
    · rw [if_neg e]; exact h.sep j k g hjk (by omega) hg
  · by_cases e : k = K
    · subst e; rw [if_pos rfl]; exact h2 g hg
    · rw [if_neg e]; exact h.lac k g (by omega) hg
/-! A turn of one order in place. -/
structure SepAt (w : World) (base : Nat) (a : Value) (gB c : Nat) (os : List Ord) (cur : Array Value) (f : Nat → Value) : Prop where
  ge : base ≤ gB
  blk : Blk w gB 78 cur
  cap : os.length ≤ c ∧ c ≤ maxLen
  size : cur.size = c * 4
  cells : OrdCur cur os f os.length
  lists : ListsSep w base a os f os.length
theorem SepAt.sep {w : World} {base : Nat} {a : Value} {gB c : Nat} {os : List Ord} {cur : Array Value} {f : Nat → Value} (h : SepAt w base a gB c os cur f) : OwnSep w base a (.slice (some ⟨gB, 0, none⟩) os.length c) os :=
  .inr ⟨gB, c, cur, f, rfl, h.ge, h.blk, h.cap.1, h.cap.2, h.size, h.cells, h.lists⟩
theorem OwnSep.at_ {w : World} {base : Nat} {a v : Value} {os : List Ord} (h : OwnSep w base a v os) (h0 : 0 < os.length) : ∃ gB c cur f, v = .slice (some ⟨gB, 0, none⟩) os.length c ∧ SepAt w base a gB c os cur f := by
  rcases h with ⟨_, rfl⟩ | ⟨gB, c, cur, f, g1, g2, g3, g4, g5, g6, g7, g8⟩
  · simp at h0
  · exact ⟨gB, c, cur, f, g1, g2, g3, ⟨g4, g5⟩, g6, g7, g8⟩
theorem SepAt.ext {w w' : World} {base : Nat} {a : Value} {gB c : Nat} {os : List Ord} {cur : Array Value} {f : Nat → Value} (h : SepAt w base a gB c os cur f) (he : Ext w w') : SepAt w' base a gB c os cur f :=
  ⟨h.ge, h.blk.ext he, h.cap, h.size, h.cells, h.lists.ext he⟩
instance {w w' : World} {base : Nat} {a : Value} {gB c : Nat} {os : List Ord} {cur : Array Value} {f : Nat → Value} : Lift (SepAt w base a gB c os cur f) w w' (SepAt w' base a gB c os cur f) := ⟨fun he h => h.ext he⟩
theorem put_get (os : List Ord) (k : Nat) (o : Ord) (j : Nat) (hk : k < os.length) : ((os.set k o)[j]?.getD default) = if j = k then o else os[j]?.getD default := by
  rw [List.getElem?_set]
  by_cases e : k = j
  · subst e; rw [if_pos rfl, if_pos rfl, if_pos hk]; rfl
  · rw [if_neg e, if_neg (fun h => e h.symm)]
/-- the day of order k -/
theorem SepAt.setBy {w : World} {base : Nat} {a : Value} {gB c : Nat} {os : List Ord} {cur : Array Value} {f : Nat → Value} (h : SepAt w base a gB c os cur f) {k : Nat} (hk : k < os.length) (y : Int) :
    SepAt (w.setCell ⟨gB, k * 4 + 2, none⟩ (.int .i64 y)) base a gB c (os.set k ⟨(os[k]?.getD default).pattern, (os[k]?.getD default).days, y, (os[k]?.getD default).on⟩) (cur.setIfInBounds (k * 4 + 2) (.int .i64 y)) f := by
  have hsz : k * 4 + 3 < cur.size := by have := h.cap.1; have := h.size; omega
  refine ⟨h.ge, h.blk.set_ _ _, by simpa using h.cap, by simpa using h.size, fun j hj => ?_, ⟨fun j hj => ?_, ?_, ?_⟩⟩
  · rw [List.length_set] at hj ⊢
    obtain ⟨x1, x2, x3, x4⟩ := h.cells j hj
    rw [put_get _ _ _ _ hk, Array.getElem?_setIfInBounds_ne (by omega), Array.getElem?_setIfInBounds_ne (by omega), Array.getElem?_setIfInBounds_ne (i := k * 4 + 2) (j := j * 4 + 3) (by omega)]
    by_cases e : j = k
    · subst e
      rw [if_pos rfl]
      exact ⟨x1, x2, by rw [Array.getElem?_setIfInBounds_self_of_lt (by omega)], x4⟩
    · rw [if_neg e]
      exact ⟨x1, x2, by rw [Array.getElem?_setIfInBounds_ne (by omega)]; exact x3, x4⟩
  · rw [List.length_set] at hj
    rw [put_get _ _ _ _ hk]
    have := (h.lists.own j hj).far h.blk (by decide) (k * 4 + 2) (.int .i64 y)
    by_cases e : j = k
    · subst e; rw [if_pos rfl]; exact this
    · rw [if_neg e]; exact this
  · rw [List.length_set]; exact h.lists.sep
  · rw [List.length_set]; exact h.lists.lac
/-- a list of looms, as it has become in its own row or in a new one -/
theorem SepAt.grown {w w' : World} {base : Nat} {a : Value} {gB c : Nat} {os : List Ord} {cur : Array Value} {f : Nat → Value} (h : SepAt w base a gB c os cur f) {k : Nat} (hk : k < os.length) (hg : w.grownBy w' (f k).ownBlock) : Blk w' gB 78 cur ∧ ∀ j, j < os.length → j ≠ k → OwnI w' base 3 (f j) (os[j]?.getD default).on := by
  refine ⟨?_, fun j hj hne => ?_⟩
  · unfold Blk
    rw [← show w.heap[gB]? = _ from h.blk]
    exact hg.block gB h.blk.lt fun e => OwnI.ne_blk (h.lists.own k hk) h.blk (by decide) e
  · refine (h.lists.own j hj).grownI hg (h.lists.own k hk) fun g hg' => ?_
    rcases Nat.lt_or_gt_of_ne hne with h1 | h1
    · exact h.lists.sep j k g h1 hk hg'
    · intro e
      exact h.lists.sep k j g h1 hj e hg'
theorem SepAt.setOn {w w' : World} {base : Nat} {a : Value} {gB c : Nat} {os : List Ord} {cur : Array Value} {f : Nat → Value} (h : SepAt w base a gB c os cur f) {k : Nat} (hk : k < os.length) (hg : w.grownBy w' (f k).ownBlock) {s : Value} {on : List Int} (hs : OwnI w' base 3 s on) (ha : ∀ g, a.ownBlock = some g → g < w.heap.size) (hb : s.ownBlock = (f k).ownBlock ∨ s.ownBlock = some w.heap.size) :
    SepAt (w'.setCell ⟨gB, k * 4 + 3, none⟩ s) base a gB c (os.set k ⟨(os[k]?.getD default).pattern, (os[k]?.getD default).days, (os[k]?.getD default).by_, on⟩) (cur.setIfInBounds (k * 4 + 3) s) (fun j => if j = k then s else f j) := by
  have hsz : k * 4 + 3 < cur.size := by have := h.cap.1; have := h.size; omega
  obtain ⟨g1, g2⟩ := h.grown hk hg
  have hlt : ∀ j g, j < os.length → (f j).ownBlock = some g → g < w.heap.size := fun j g hj hg => ((h.lists.own j hj).own_lt g hg).2
  have hne : ∀ j g, j < os.length → j ≠ k → (f j).ownBlock = some g → s.ownBlock ≠ some g := fun j g hj hjk hg' e => by
    rcases hb with h1 | h1
    · rw [h1] at e
      rcases Nat.lt_or_gt_of_ne hjk with h2 | h2
      · exact h.lists.sep j k g h2 hk hg' e
      · exact h.lists.sep k j g h2 hj e hg'
    · rw [h1] at e
      have := hlt j g hj hg'
      have := Option.some.inj e
      omega
  refine ⟨h.ge, g1.set_ _ _, by simpa using h.cap, by simpa using h.size, fun j hj => ?_, ⟨fun j hj => ?_, fun i j g hij hj hi' => ?_, fun j g hj hg' => ?_⟩⟩
  · rw [List.length_set] at hj ⊢
    obtain ⟨x1, x2, x3, x4⟩ := h.cells j hj
    rw [put_get _ _ _ _ hk, Array.getElem?_setIfInBounds_ne (by omega), Array.getElem?_setIfInBounds_ne (by omega), Array.getElem?_setIfInBounds_ne (i := k * 4 + 3) (j := j * 4 + 2) (by omega)]
    by_cases e : j = k
    · subst e
      simp only [if_true]
      exact ⟨x1, x2, x3, fun _ => by rw [Array.getElem?_setIfInBounds_self_of_lt (by omega)]⟩
    · simp only [if_neg e]
      exact ⟨x1, x2, x3, fun _ => by rw [Array.getElem?_setIfInBounds_ne (by omega)]; exact x4 hj⟩
  · rw [List.length_set] at hj
    rw [put_get _ _ _ _ hk]
    by_cases e : j = k
    · simp only [if_pos e]; exact hs.far g1 (by decide) _ _
    · simp only [if_neg e]; exact (g2 j hj e).far g1 (by decide) _ _
  · rw [List.length_set] at hj
    by_cases e1 : i = k
    · by_cases e2 : j = k
      · omega
      · simp only [if_pos e1] at hi'
        simp only [if_neg e2]
        exact fun e => hne j g hj e2 e hi'
    · simp only [if_neg e1] at hi'
      by_cases e2 : j = k
      · simp only [if_pos e2]; exact hne i g (by omega) e1 hi'
      · simp only [if_neg e2]; exact h.lists.sep i j g hij hj hi'
  · rw [List.length_set] at hj
    by_cases e : j = k
    · simp only [if_pos e]
      intro e'
      rcases hb with h1 | h1
      · rw [h1] at e'; exact h.lists.lac k g hk hg' e'
      · rw [h1] at e'
        have := ha g hg'
        have := Option.some.inj e'
        omega
    · simp only [if_neg e]; exact h.lists.lac j g hj hg'
theorem SepAt.inRow {w w' : World} {base : Nat} {a : Value} {gB c : Nat} {os : List Ord} {cur : Array Value} {f : Nat → Value} (h : SepAt w base a gB c os cur f) {k : Nat} (hk : k < os.length) (hg : w.grownBy w' (f k).ownBlock) {on : List Int} (hs : OwnI w' base 3 (f k) on) :
    SepAt w' base a gB c (os.set k ⟨(os[k]?.getD default).pattern, (os[k]?.getD default).days, (os[k]?.getD default).by_, on⟩) cur f := by
  obtain ⟨g1, g2⟩ := h.grown hk hg
  refine ⟨h.ge, g1, by simpa using h.cap, h.size, fun j hj => ?_, ⟨fun j hj => ?_, ?_, ?_⟩⟩
  · rw [List.length_set] at hj ⊢
    have hx := h.cells j hj
    rw [put_get _ _ _ _ hk]
    by_cases e : j = k
    · subst e; rw [if_pos rfl]; exact hx
    · rw [if_neg e]; exact hx
  · rw [List.length_set] at hj
    rw [put_get _ _ _ _ hk]
    by_cases e : j = k
    · subst e; rw [if_pos rfl]; exact hs
    · rw [if_neg e]; exact g2 j hj e
  · rw [List.length_set]; exact h.lists.sep
  · rw [List.length_set]; exact h.lists.lac
theorem MillVal.ofSep {w : World} {base : Nat} {a b : Value} {m : Mill} (hl : OwnI w base 3 a m.laced) (hs : OwnSep w base a b m.orders) : MillVal w (.agg #[a, .int .i64 m.change, b]) m := by
  obtain ⟨A1, c1, rfl, g1, g2, g3, _⟩ := hl.open_
  obtain ⟨A2, c2, rfl, h1, h2, h3⟩ := hs.ords
  exact ⟨A1, c1, A2, c2, rfl, g1, g2, h1, h2, g3, h3⟩
/-- what the operations of 'out.Orders[i].On = Dup(o.On)' leave -/
def ownR3 (g o t k : Nat) (r a : Value) (on : List Int) : Nat → Value → World → Prop
  | 0 => fun v _ => v = .pointer (some ⟨g, 2, none⟩)
  | 1 => fun v _ => v = r
  | 2 => fun v _ => v = .int .i64 k
  | 3 => fun v _ => v = .pointer (some ⟨o, 3, none⟩)
  | 4 => fun v _ => v = a
  | 5 => fun v W => OwnI W t 3 v on
  | _ => fun _ _ => True
theorem ownR3.ext {g o t k : Nat} {r a : Value} {on : List Int} {W W' : World} (he : Ext W W') : ∀ (j : Nat) (u : Value), ownR3 g o t k r a on j u W → ownR3 g o t k r a on j u W'
  | 0, _, h | 1, _, h | 2, _, h | 3, _, h | 4, _, h => h
  | 5, _, h => OwnI.ext h he
  | _ + 6, _, _ => trivial
set_option maxHeartbeats 1000000 in
theorem own_sep (v : Value) (m : Mill) (w : World) (hv : MillVal w v m) (hg : greatB m = false) :
    Calls Try.prog 18 #[v] w fun e w' => ∃ a b, e = .returned (.agg #[a, .int .i64 m.change, b]) ∧ OwnI w' w.heap.size 3 a m.laced ∧ OwnSep w' w.heap.size a b m.orders ∧ Ext w w' := by
  obtain ⟨A1, c1, A2, c2, rfl, h2, h3, h4, h5, h6, h7⟩ := hv
  unfold maxLen at h3 h5
  have b1 : m.laced.length ≤ 8 := by unfold greatB at hg; simp at hg; omega
  have b2 : m.orders.length ≤ 12 := by unfold greatB at hg; simp at hg; omega
  have b3 := Lib.hid (show ∀ x ∈ m.orders, x.on.length ≤ 8 by unfold greatB at hg; simp at hg; exact hg.1.1)
  clear hg
  go_enter Try.func18, Try.ntmps18
  go_wp2_with fail
  generalize hw1 : (w.alloc _).alloc _ = w1
  have hE1 : Ext w w1 := by rw [← hw1]; exact (Ext.alloc _ _).trans (Ext.alloc _ _)
  have hsz : w.heap.size + 2 ≤ w1.heap.size := by rw [← hw1]; simp
  have hM1 : Blk w1 w.heap.size 25 #[.slice A1 m.laced.length c1, .int .i64 m.change, .slice A2 m.orders.length c2] := by rw [← hw1]; exact (Blk.new _ _ _).alloc _
  have hM2 : Blk w1 (w.heap.size + 1) 25 #[.slice none 0 0, .int .i64 0, .slice none 0 0] := by rw [← hw1]; have := Blk.new (w.alloc (.cells #[.slice A1 m.laced.length c1, .int .i64 m.change, .slice A2 m.orders.length c2] 25)) 25 #[.slice none 0 0, .int .i64 0, .slice none 0 0]; rw [World.size_alloc] at this; exact this
  clear hw1
  have hS : w1.heap.size ≤ w1.heap.size := Nat.le_refl _
  refine wp_region_facts 10 (by kernel_rfl) (by kernel_rfl) (fun W => Ext w1 W) (ownR w w.heap.size w1.heap.size m A1 A2 c1 c2) ?_ ?_ ?_
  · exact Ext.drew _
  · simp only [List.take, AllOps, fill, Act.put, List.setIfInBounds_toArray, List.set_cons_zero, List.set_cons_succ, Nat.reduceAdd, Deps, and_true]
    refine ⟨?_, ?_, ?_, ?_, ?_, ?_, ?_, ?_, ?_, ?_⟩
    all_goals
      intro x W hG hd K Q hK
      try (simp only [ownR] at hd; simp only [hd] at hK ⊢)
      have HK := Lib.hid hK
      clear hK
      obtain ⟨k0, k1, k2⟩ := (hM1.ext hG).c3
    · go_wp2; exact HK.out _ _ rfl hG (fun _ _ h => h)
    · go_wp2; exact HK.out _ _ rfl hG (fun _ _ h => h)
    · go_wp2_with fail
      refine (dupI A1 c1 m.laced W (by omega) (h6.ext (hE1.trans hG))).mono ?_
      rintro e w' ⟨v, rfl, ho, he⟩
      go_wp2
      exact HK.out _ _ (ho.mono hG.size) (hG.trans he) (ownR.ext he)
    · go_wp2; exact HK.out _ _ rfl hG (fun _ _ h => h)
    · go_wp2; exact HK.out _ _ rfl hG (fun _ _ h => h)
    · go_wp2; exact HK.out _ _ rfl hG (fun _ _ h => h)
    · go_wp2; exact HK.out _ _ rfl hG (fun _ _ h => h)
    · go_wp2_with fail
      refine (dupO A2 c2 m.orders w W (by omega) h7 (hE1.trans hG)).mono ?_
      rintro e w' ⟨v, cs, rfl, ho, hl, he⟩
      go_wp2
      exact HK.out _ _ ⟨cs, ownsRow_mono ho hG.size, hl⟩ (hG.trans he) (ownR.ext he)
    · obtain ⟨d2, d4, cs, d7, d8⟩ := hd
      have hK := HK.out
      obtain ⟨B1, e1, q1, _⟩ := d2.open_
      obtain ⟨B2, e2, q2⟩ : ∃ A c, x 7 = .slice A m.orders.length c := by
        rcases d7.2 with ⟨h, h'⟩ | ⟨g', cap, cur, h, _⟩
        · exact ⟨_, _, by rw [h, h']⟩
        · exact ⟨_, _, h⟩
      have D2 := Lib.hid d2; have D7 := Lib.hid d7; have D8 := Lib.hid d8; clear d2 d7 d8
      rw [q1] at D2
      rw [q2] at D7
      simp only [q1, q2] at hK ⊢
      clear HK
      have HK := Lib.hid hK; clear hK q1 q2 d4
      go_wp2
      exact HK.out _ _ ⟨_, _, rfl, D2.out, cs, D7.out, D8.out⟩ hG (fun _ _ h => h)
    · go_wp2
      exact HK.out _ _ ⟨_, rfl, hG.size, Blk.new _ _ _⟩ (hG.trans (Ext.alloc _ _)) (ownR.ext (Ext.alloc _ _))
  · intro x W hG hR
    simp only [AllR, ownR, true_and] at hR
    obtain ⟨⟨⟨⟨⟨⟨⟨⟨⟨h0, h1'⟩, h2'⟩, h3'⟩, h4'⟩, h5'⟩, h6'⟩, h7'⟩, a, b, h8, oa, cs, ob, ol⟩, g, h9, hg, hb⟩ := hR
    simp only [List.take, List.drop, fill, Act.put, List.setIfInBounds_toArray, List.set_cons_zero, List.set_cons_succ, Nat.reduceAdd, h0, h1', h3', h4', h5', h6', h8, h9]
    clear h0 h1' h3' h4' h5' h6' h8 h9 h2' h7'
    generalize x 2 = x2
    generalize x 7 = x7
    obtain ⟨B1, e1, rfl, f1, f2, f3, f4, f5⟩ := oa.open_
    -- the orders' row
    have hB2 : ∃ B2 e2, b = .slice B2 m.orders.length e2 ∧ m.orders.length ≤ e2 ∧ e2 ≤ maxLen ∧ ((B2 = none ∧ e2 = 0 ∧ m.orders.length = 0) ∨ ∃ gB cur, B2 = some ⟨gB, 0, none⟩ ∧ w1.heap.size ≤ gB ∧ Blk W gB 78 cur ∧ cur.toList.take (m.orders.length * 4) = cs ∧ cur.size = e2 * 4) := by
      rcases ob.2 with ⟨h, h'⟩ | ⟨g', cap, cur, h, hg', hh, hn, hm, hs, hc⟩
      · exact ⟨none, 0, by rw [h, h'], by omega, by unfold maxLen; omega, .inl ⟨rfl, rfl, h'⟩⟩
      · exact ⟨_, _, h, hn, hm, .inr ⟨g', cur, rfl, hg', hh, hc, hs⟩⟩
    obtain ⟨B2, e2, rfl, g1, g2, hrow⟩ := hB2
    have OA := Lib.hid oa
    have halt : ∀ j, (Value.slice B1 m.laced.length e1).ownBlock = some j → j < W.heap.size := fun j hj => (oa.own_lt j hj).2
    have Halt := Lib.hid halt; clear halt
    have hrow' := Lib.hid hrow
    obtain ⟨k0, k1, k2⟩ := (hM1.ext hG).c3
    obtain ⟨u0, u1, u2⟩ := hb.c3
    have v0 := hb.frozen 0
    have v1 := hb.frozen 1
    have v2 := hb.frozen 2
    have n1 : w.heap.size ≠ g := by omega
    have n2 : g ≠ w.heap.size := by omega
    have OL := Lib.hid ol; clear f1 f2 f3 f4 f5 oa ob ol hrow
    have h6' := Lib.hid h6; have h7' := Lib.hid h7; clear h6 h7
    go_wp2_with fail
    generalize hW2 : ((W.setCell _ _).setCell _ _).setCell _ _ = W2
    have hs2 : w1.heap.size ≤ W2.heap.size := by rw [← hW2]; simp [World.setCell]; exact hG.size
    have hX2 : Ext w W2 := by
      rw [← hW2]
      have := hE1.trans hG
      have hs := hE1.size
      exact ((Below.setCell (Below.setCell (Below.setCell this (by show _ ≤ g; omega) _) (by show _ ≤ g; omega) _) (by show _ ≤ g; omega) _))
    have hbg : Blk W2 g 25 #[.slice B1 m.laced.length e1, .int .i64 m.change, .slice B2 m.orders.length e2] := by
      rw [← hW2]; exact ((hb.set_ 0 _).set_ 1 _).set_ 2 _
    have hbr : Blk W2 (w.heap.size + 1) 25 #[.slice none 0 0, .int .i64 0, .slice none 0 0] := by
      rw [← hW2]; exact (((hM2.ext hG).far (by show _ ≠ g; omega) _).far (by show _ ≠ g; omega) _).far (by show _ ≠ g; omega) _
    have hI1 : Hid (OwnI W2 w.heap.size 3 (.slice B1 m.laced.length e1) m.laced) := by
      rw [← hW2]; exact (((OA.out.mono hE1.size).far hb (by decide) _ _).far (hb.set_ 0 _) (by decide) _ _).far ((hb.set_ 0 _).set_ 1 _) (by decide) _ _
    have hHalt : Hid (∀ j, (Value.slice B1 m.laced.length e1).ownBlock = some j → j < W2.heap.size) := fun j hj => by rw [← hW2]; simpa [World.setCell] using Halt.out j hj
    have hrow2 : (B2 = none ∧ e2 = 0 ∧ m.orders.length = 0) ∨ ∃ gB cur f, B2 = some ⟨gB, 0, none⟩ ∧ w1.heap.size ≤ gB ∧ gB ≠ g ∧ Blk W2 gB 78 cur ∧ cur.size = e2 * 4 ∧ OrdCur cur m.orders f 0 ∧ ListsSep W2 w.heap.size (.slice B1 m.laced.length e1) m.orders f 0 := by
      rcases hrow'.out with h | ⟨gB, cur, e, h1, h2, h3, h4⟩
      · exact .inl h
      · have hne : gB ≠ g := h2.ne_ hb (by decide)
        refine .inr ⟨gB, cur, fun _ => undef, e, h1, hne, ?_, h4, OrdCur.of OL.out h3 _, ⟨fun k hk => by omega, fun j k g _ hk => by omega, fun k g hk => by omega⟩⟩
        rw [← hW2]; exact ((h2.far hne _).far hne _).far hne _
    clear hW2 u0 u1 u2 v0 v1 v2 k0 k1 k2 hb hrow' OL hM1 hM2 OA Halt
    go_loopw [4, 5, 18] (fun _ _ i wr => ∃ k : Nat, k ≤ m.orders.length ∧ i = .int .i64 k ∧ Ext w wr ∧ w1.heap.size ≤ wr.heap.size ∧ W2.heap.size ≤ wr.heap.size ∧ Blk wr g 25 #[.slice B1 m.laced.length e1, .int .i64 m.change, .slice B2 m.orders.length e2] ∧
        Blk wr (w.heap.size + 1) 25 #[.slice none 0 0, .int .i64 0, .slice none 0 0] ∧ Hid (OwnI wr w.heap.size 3 (.slice B1 m.laced.length e1) m.laced) ∧
        Hid ((B2 = none ∧ e2 = 0 ∧ m.orders.length = 0) ∨ ∃ gB cur f, B2 = some ⟨gB, 0, none⟩ ∧ w1.heap.size ≤ gB ∧ gB ≠ g ∧ Blk wr gB 78 cur ∧ cur.size = e2 * 4 ∧ OrdCur cur m.orders f k ∧ ListsSep wr w.heap.size (.slice B1 m.laced.length e1) m.orders f k))
      (fun _ _ i _ => m.orders.length - (intOf i).toNat)
    case atStart => exact ⟨0, by omega, rfl, hX2, hs2, Nat.le_refl _, hbg, hbr, hI1, hrow2⟩
    case round =>
      obtain ⟨k, hk, rfl, he, hsw, hsw2, hbg', hbr', hI', hrow'⟩ := hrel
      by_cases hlt : k < m.orders.length
      · have hrow2 : ∃ gB cur f, B2 = some ⟨gB, 0, none⟩ ∧ w1.heap.size ≤ gB ∧ gB ≠ g ∧ Blk wr gB 78 cur ∧ cur.size = e2 * 4 ∧ OrdCur cur m.orders f k ∧ ListsSep wr w.heap.size (.slice B1 m.laced.length e1) m.orders f k := hrow'.out.resolve_left (fun h => by omega)
        obtain ⟨gB, cur, f, rfl, p1, p2, p4, p5, p6, p7⟩ := hrow2
        obtain ⟨b, o, rfl, A, ca, hca, q1, q2, q3, q4, q5⟩ := h7'.out.ext he k hlt
        have hb8 : (m.orders[k]?.getD default).on.length ≤ 8 := b3.out _ (by simp [hlt])
        have hcs : ∃ u0, cur[k * 4 + 3]? = some u0 := ⟨_, Array.getElem?_eq_getElem (by omega)⟩
        obtain ⟨u9, hu9⟩ := hcs
        have P5 := Lib.hid p5; have P6 := Lib.hid p6; have P7 := Lib.hid p7; clear p5 p6 p7 hrow'
        generalize hgx : m.orders[k]?.getD default = x0 at *
        have Hgx := Lib.hid hgx; clear hgx
        go_wp2_with fail
        generalize hW5 : wr.alloc _ = W5
        have hX5 : Ext wr W5 := by rw [← hW5]; exact Ext.alloc _ _
        have hb5 : Blk W5 wr.heap.size 78 #[.int .i64 x0.pattern, .int .i64 x0.days, .int .i64 x0.by_, .slice A x0.on.length ca] := by rw [← hW5]; exact Blk.new _ _ _
        have hbg5 := hbg'.ext hX5
        have hq5 := q5.ext hX5
        clear hW5 q1 q2 q3 q4 q5
        refine wp_region_facts 6 (by kernel_rfl) (by kernel_rfl) (fun W => Ext W5 W) (ownR3 g wr.heap.size W5.heap.size k (.slice (some ⟨gB, 0, none⟩) m.orders.length e2) (.slice A x0.on.length ca) x0.on) ?_ ?_ ?_
        · exact Ext.drew _
        · simp only [List.take, AllOps, fill, Act.put, List.setIfInBounds_toArray, List.set_cons_zero, List.set_cons_succ, Nat.reduceAdd, Deps, and_true]
          refine ⟨?_, ?_, ?_, ?_, ?_, ?_⟩
          all_goals
            intro x W hG hd K Q hK
            try (simp only [ownR3] at hd; simp only [hd] at hK ⊢)
            have HK := Lib.hid hK
            clear hK
            obtain ⟨k0, k1, k2⟩ := (hbg5.ext hG).c3
            obtain ⟨j0, j1, j2, j3⟩ := (hb5.ext hG).c4
          · go_wp2; exact HK.out _ _ rfl hG (fun _ _ h => h)
          · go_wp2; exact HK.out _ _ rfl hG (fun _ _ h => h)
          · go_wp2; exact HK.out _ _ rfl hG (fun _ _ h => h)
          · go_wp2; exact HK.out _ _ rfl hG (fun _ _ h => h)
          · go_wp2; exact HK.out _ _ rfl hG (fun _ _ h => h)
          · go_wp2_with fail
            refine (dupI A ca x0.on W (by omega) (hq5.ext hG)).mono ?_
            rintro e w' ⟨v, rfl, ho, he⟩
            go_wp2
            exact HK.out _ _ (ho.mono hG.size) (hG.trans he) (ownR3.ext he)
        · intro x W hG hR
          simp only [AllR, ownR3, true_and] at hR
          obtain ⟨⟨⟨⟨⟨h0, h1'⟩, h2'⟩, h3'⟩, h4'⟩, ho⟩ := hR
          obtain ⟨B3, e3, h8, _, _, _, _, _⟩ := ho.open_
          simp only [List.take, List.drop, fill, Act.put, List.setIfInBounds_toArray, List.set_cons_zero, List.set_cons_succ, Nat.reduceAdd, h0, h1', h2', h3', h4', h8]
          rw [h8] at ho
          have HO := Lib.hid ho
          clear h0 h1' h2' h3' h4' h8 ho
          have hpB := p4.ext (hX5.trans hG)
          have c1 : W.cell? ⟨gB, k * 4 + 3, none⟩ = some u9 := (hpB.cell _).trans hu9
          have c2 := hpB.frozen (k * 4 + 3)
          clear hu9
          go_wp2_with fail
          go_roundw
          case rel =>
            have hXW : Ext wr W := hX5.trans hG
            have hw0 := he.size
            have hb0 : w.heap.size ≤ W5.heap.size := Nat.le_trans hw0 hX5.size
            refine ⟨k + 1, by omega, by go_num, ?_, ?_, ?_, ?_, ?_, ?_, ?_⟩
            · exact Below.setCell (he.trans hXW) (by show _ ≤ gB; have := hE1.size; omega) _
            · simp [World.setCell]; exact Nat.le_trans hsw hXW.size
            · simp [World.setCell]; exact Nat.le_trans hsw2 hXW.size
            · exact (hbg'.ext hXW).far (Ne.symm p2) _
            · exact (hbr'.ext hXW).far (by show _ ≠ gB; omega) _
            · exact (hI'.out.ext hXW).far hpB (by decide) _ _
            · refine .inr ⟨gB, _, _, rfl, p1, p2, hpB.set_ _ _, by simpa using P5.out, P6.out.next hlt (by rw [P5.out]; omega) _, ?_⟩
              have hL := (P7.out.ext hXW).next (s := .slice B3 x0.on.length e3) (by rw [Hgx.out]; exact HO.out.mono hb0) (fun j g hj hg hs => ?_) (fun g hg hs => ?_)
              · exact hL.far hpB (by decide) _ _
              · have h1 := (P7.out.own j hj).own_lt g hg
                have h2 := (HO.out.own_lt g hs).1
                have := hX5.size
                omega
              · have h1 := hHalt.out g hg
                have h2 := (HO.out.own_lt g hs).1
                have := hX5.size
                omega
          case measure => simp [intOf]; omega
      · have hke : k = m.orders.length := by omega
        subst hke
        obtain ⟨u0, u1, u2⟩ := hbg'.c3
        obtain ⟨v0, v1, v2⟩ := hbr'.c3
        have f0 := hbr'.frozen 0
        have f1' := hbr'.frozen 1
        have f2' := hbr'.frozen 2
        go_wp2
        generalize hWf : ((wr.setCell _ _).setCell _ _).setCell _ _ = Wf
        have hbf : Blk Wf (w.heap.size + 1) 25 #[.slice B1 m.laced.length e1, .int .i64 m.change, .slice B2 m.orders.length e2] := by
          rw [← hWf]; exact ((hbr'.set_ 0 _).set_ 1 _).set_ 2 _
        have hIf : OwnI Wf w.heap.size 3 (.slice B1 m.laced.length e1) m.laced := by
          rw [← hWf]; exact (((hI'.out.far hbr' (by decide) _ _).far (hbr'.set_ 0 _) (by decide) _ _).far ((hbr'.set_ 0 _).set_ 1 _) (by decide) _ _)
        have hOf : OwnSep Wf w.heap.size (.slice B1 m.laced.length e1) (.slice B2 m.orders.length e2) m.orders := by
          rcases hrow'.out with ⟨h1, h2, h3⟩ | ⟨gB, cur, f, h1, h2, h3, h4, h5, h6, h7⟩
          · exact .inl ⟨by rw [h1, h2, h3], List.length_eq_zero_iff.1 h3⟩
          · have hne : gB ≠ w.heap.size + 1 := by omega
            refine .inr ⟨gB, e2, cur, f, by rw [h1], by have := hE1.size; omega, ?_, g1, g2, h5, h6, ?_⟩
            · rw [← hWf]; exact ((h4.far hne _).far hne _).far hne _
            · rw [← hWf]; exact (((h7.far hbr' (by decide) _ _).far (hbr'.set_ 0 _) (by decide) _ _).far ((hbr'.set_ 0 _).set_ 1 _) (by decide) _ _)
        have hXf : Ext w Wf := by
          rw [← hWf]
          exact Below.setCell (Below.setCell (Below.setCell he (by show _ ≤ w.heap.size + 1; omega) _) (by show _ ≤ w.heap.size + 1; omega) _) (by show _ ≤ w.heap.size + 1; omega) _
        clear hWf u0 u1 u2 v0 v1 v2 f0 f1' f2'
        obtain ⟨v0, v1, v2⟩ := hbf.c3
        refine bodyPost_ret (v := .agg #[.slice B1 m.laced.length e1, .int .i64 m.change, .slice B2 m.orders.length e2]) ?_ rfl ⟨_, _, rfl, hIf, hOf, hXf⟩
        simp [results, Try.results18, go_sem, v0, v1, v2]
end Go.Proofs.Pet
