/- Joined texts: TL00, V5, TL3, TL4. -/
import Derived.Shelf.Spec.SlicesInsertGrow
import Derived.Test.YtlekonngbmkdbaaJ06
import Derived.Test.YtlekonngbmkdbaaJ08
import Derived.Test.YtlekonngbmkdbaaLy
import Derived.Sort.OwnSortedInts
namespace Go.Proofs
open Go.Shelf
def Pet.insRen : Go.Shelf.Ren := ⟨fun | 21 => 97 | 27 => 136 | 28 => 137 | 35 => 161 | 39 => 166 | n => n, fun | 22 => 28 | 3 => 3 | 4 => 4 | 0 => 0 | n => n, fun | n => n⟩
theorem Pet.insLays : Go.Proofs.Lays2.n21 Try.prog Pet.insRen := {
  mixed := by kernel_rfl
  f21 := Try.func97.trans (congrArg some (by kernel_rfl))
  f27 := Try.func136.trans (congrArg some (by kernel_rfl))
  f28 := Try.func137.trans (congrArg some (by kernel_rfl))
  f35 := Try.func161.trans (congrArg some (by kernel_rfl))
  f39 := Try.func166.trans (congrArg some (by kernel_rfl))
  t0 := Try.underlying0
  a0 := Try.isAgg0
  z0 := Try.sizeOf0
  v0 := Try.zeroValue0
  t3 := Try.underlying3
  a3 := Try.isAgg3
  z3 := Try.sizeOf3
  v3 := Try.zeroValue3
  t4 := Try.underlying4
  a4 := Try.isAgg4
  z4 := Try.sizeOf4
  v4 := Try.zeroValue4
  t22 := Try.underlying28
  a22 := Try.isAgg28
  z22 := Try.sizeOf28
  v22 := Try.zeroValue28
  i3 := by kernel_rfl }
end Go.Proofs

namespace Go.Proofs.Pet
open Go Go.RowKit Go.Maps Go.Shelf

theorem Blk.setCells {b : Nat} {t : TypeId} : ∀ (vs : List Value) (o : Nat) (cs : Array Value) (w : World), Blk w b t cs → o + vs.length ≤ cs.size →
    ∃ cs', Blk (w.setCells b o vs) b t cs' ∧ cs'.size = cs.size ∧ (∀ j, j < o ∨ o + vs.length ≤ j → cs'[j]? = cs[j]?) ∧ ∀ j, j < vs.length → cs'[o + j]? = vs[j]?
  | [], o, cs, w, h, _ => ⟨cs, h, rfl, fun _ _ => rfl, fun j hj => absurd hj (by simp)⟩
  | v :: r, o, cs, w, h, hs => by
    rw [List.length_cons] at hs
    obtain ⟨cs', h1, h2, h3, h4⟩ := Blk.setCells r (o + 1) _ _ (h.set_ o v) (by rw [Array.size_setIfInBounds]; omega)
    rw [Array.size_setIfInBounds] at h2
    refine ⟨cs', h1, h2, fun j hj => ?_, fun j hj => ?_⟩
    · rw [List.length_cons] at hj
      rw [h3 j (by omega), Array.getElem?_setIfInBounds, if_neg (by omega)]
    · cases j with
      | zero => rw [Nat.add_zero, h3 o (by omega), Array.getElem?_setIfInBounds, if_pos rfl, if_pos (by omega)]; rfl
      | succ j =>
        rw [List.length_cons] at hj
        have := h4 j (by omega)
        rw [show o + (j + 1) = o + 1 + j by omega, this]
        rfl
theorem setCells_same (b : Nat) : ∀ (vs : List Value) (o : Nat) (w : World), (w.setCells b o vs).os = w.os ∧ (w.setCells b o vs).tape = w.tape ∧ (w.setCells b o vs).output = w.output ∧ (w.setCells b o vs).heap.size = w.heap.size ∧ ∀ k, k ≠ b → (w.setCells b o vs).heap[k]? = w.heap[k]?
  | [], _, _ => ⟨rfl, rfl, rfl, rfl, fun _ _ => rfl⟩
  | v :: r, o, w => by
    obtain ⟨h1, h2, h3, h4, h5⟩ := setCells_same b r (o + 1) (w.setCell ⟨b, o, none⟩ v)
    have ha : Apart b w (w.setCell ⟨b, o, none⟩ v) := (Apart.refl b w).set_ o v
    refine ⟨h1.trans ha.os, h2.trans ha.tape, h3.trans ha.output, h4.trans (by simp), fun k hk => (h5 k hk).trans ?_⟩
    rcases Nat.lt_or_ge k w.heap.size with h | h
    · exact ha.block k h hk
    · rw [Array.getElem?_eq_none h, Array.getElem?_eq_none (by simp; omega)]
theorem OwnI.ofCells {w : World} {base g cap : Nat} {cur : Array Value} {zs : List Int} (hg : base ≤ g) (hb : Blk w g 3 cur) (hn : zs.length ≤ cap) (hm : cap ≤ maxLen) (hs : cur.size = cap)
    (hc : ∀ j, j < zs.length → cur[j]? = some (.int .i64 (zs[j]?.getD 0))) : OwnI w base 3 (.slice (some ⟨g, 0, none⟩) zs.length cap) zs := by
  refine ⟨by simp, .inr ⟨g, cap, cur, rfl, hg, hb, hn, hm, by omega, ?_⟩⟩
  rw [Nat.mul_one]
  apply List.ext_getElem?
  intro j
  rw [List.getElem?_take, List.getElem?_map]
  by_cases hj : j < zs.length
  · have := hc j hj
    rw [if_pos hj, Array.getElem?_toList, this, List.getElem?_eq_getElem hj]
    rfl
  · rw [if_neg hj, List.getElem?_eq_none (by omega)]
    rfl
theorem ext_grownL {w wr w' : World} {row : Option Nat} (he : Ext w wr) (hg : wr.grownBy w' row) (hr : ∀ k, row = some k → w.heap.size ≤ k) : Ext w w' :=
  ⟨hg.os.trans he.os, hg.tape.trans he.tape, hg.output.trans he.output, Nat.le_trans he.size hg.size, fun k hk => (hg.block k (Nat.lt_of_lt_of_le hk he.size) (fun e => by have := hr k e.symm; omega)).trans (Below.block he k hk)⟩
theorem insAt (xs : List Int) (i : Nat) (hi : i ≤ xs.length) (k : Int) (j : Nat) (_hj : j < xs.length + 1) : (xs.take i ++ k :: xs.drop i)[j]?.getD 0 = if j < i then xs[j]?.getD 0 else if j = i then k else xs[j - 1]?.getD 0 := by
  have hl : (xs.take i).length = i := by rw [List.length_take]; omega
  by_cases h1 : j < i
  · rw [if_pos h1, List.getElem?_append_left (by omega), List.getElem?_take, if_pos h1]
  · rw [if_neg h1, List.getElem?_append_right (by omega), hl]
    by_cases h2 : j = i
    · subst h2; simp
    · rw [if_neg h2, show j - i = (j - 1 - i) + 1 by omega, List.getElem?_cons_succ, List.getElem?_drop, show i + (j - 1 - i) = j - 1 by omega]
set_option maxHeartbeats 1000000 in
theorem insertI (base : Nat) (v : Value) (xs : List Int) (w : World) (h : OwnI w base 3 v xs) (hbs : base ≤ w.heap.size) (hl : xs.length ≤ 1000) (i : Nat) (hi : i ≤ xs.length) (k : Int) (vb vc : Nat) (hvb : Blk w vb 3 #[.int .i64 k]) (hne : v.ownBlock ≠ some vb) :
    Calls Try.prog 97 #[v, .int .i64 (i : Int), .slice (some ⟨vb, 0, none⟩) 1 vc] w fun e w' => ∃ v', e = .returned v' ∧ OwnI w' base 3 v' (xs.take i ++ k :: xs.drop i) ∧ w.grownBy w' v.ownBlock ∧ (v'.ownBlock = v.ownBlock ∨ ∃ g, v'.ownBlock = some g ∧ w.heap.size ≤ g) := by
  have hzl : (xs.take i ++ k :: xs.drop i).length = xs.length + 1 := by rw [List.length_append, List.length_cons, List.length_take, List.length_drop]; omega
  have hvs : ∀ (j : Nat) u, ([Value.int .i64 k] : List Value)[j]? = some u → w.cell? ⟨vb, 0 + j, none⟩ = some u := fun j u hj => by
    cases j with
    | zero => rw [hvb.cell]; simpa using hj
    | succ j => simp at hj
  have h1v : ∀ u ∈ ([Value.int .i64 k] : List Value), u.oneCell' = true := fun u hu => by rw [List.mem_singleton] at hu; subst hu; rfl
  have h1c : ∀ u ∈ xs.map (Value.int .i64), u.oneCell' = true := fun u hu => by obtain ⟨x, _, rfl⟩ := List.mem_map.1 hu; rfl
  -- what a new row is
  have hfin : ∀ cs : Array Value, ∀ gc, xs.length + 1 ≤ gc → gc ≤ maxLen → cs.size = gc → (∀ j, j < xs.length + 1 → cs[j]? = some (.int .i64 ((xs.take i ++ k :: xs.drop i)[j]?.getD 0))) → ∀ w', Blk w' w.heap.size 3 cs →
      OwnI w' base 3 (.slice (some ⟨w.heap.size, 0, none⟩) (xs.length + 1) gc) (xs.take i ++ k :: xs.drop i) := fun cs gc h1 h2 h3 h4 w' hb => by
    have := OwnI.ofCells (zs := xs.take i ++ k :: xs.drop i) hbs hb (by omega) h2 h3 (by rw [hzl]; exact h4)
    rwa [hzl] at this
  have hmx : xs.length + 1 ≤ maxLen := by unfold maxLen; omega
  have hrt : insRen.t 3 = 3 := rfl
  have hgr : ∀ o, w.grownBy (w.drew.alloc o) v.ownBlock := fun o => by
    have he := (Ext.drew w).trans (Ext.alloc w.drew o)
    exact ⟨he.os, he.tape, he.output, he.size, fun k hk _ => Below.block he k hk⟩
  have hco : ∀ (c : Array Value) (o : List Int), (∀ j, j < o.length → c[j]? = some (.int .i64 (o[j]?.getD 0))) → ∀ (j : Nat) u, (o.map (Value.int .i64))[j]? = some u → c[j]? = some u := fun c o hc j u hu => by
    rw [List.getElem?_map] at hu
    cases ho : o[j]? with
    | none => rw [ho] at hu; cases hu
    | some x =>
      rw [ho] at hu
      have hj : j < o.length := by rcases Nat.lt_or_ge j o.length with h | h; exact h; rw [List.getElem?_eq_none h] at ho; cases ho
      rw [hc j hj, ho]
      exact hu
  rcases h.2 with ⟨rfl, h0⟩ | ⟨g, cap, cur, rfl, hg, hb, hn, hm, hs, hc⟩
  · have hx0 : xs = [] := List.length_eq_zero_iff.1 h0
    subst hx0
    obtain rfl : i = 0 := by simpa using hi
    refine (Any2.slices_Insert_int_end_grow insLays none 0 0 vb 0 1 vc [] [.int .i64 k] w (by omega) (Nat.le_refl _) (by omega) (by omega) rfl rfl (fun _ => rfl) (fun a h => by cases h) hvs h1v).mono fun e w' ⟨h1, h2⟩ => ?_
    rw [hrt] at h1 h2
    refine ⟨_, h1, ?_, by rw [h2]; exact hgr _, .inr ⟨w.heap.size, rfl, Nat.le_refl _⟩⟩
    subst h2
    have hgc := grownCap_ge w (0 + 1) 0 3
    refine hfin _ _ hgc (grownCap_le_maxLen _ _ _ _ hmx) ?_ ?_ _ (Blk.new _ _ _)
    · simp only [Array.size_append, List.size_toArray, size_zeroCells, List.length_append, List.length_cons, List.length_nil, Value.cells, List.size_toArray]
      omega
    · intro j hj
      obtain rfl : j = 0 := by simp at hj; omega
      rw [Array.getElem?_append_left (by simp)]
      rfl
  · have hcx : ∀ j, j < xs.length → cur[j]? = some (.int .i64 (xs[j]?.getD 0)) := fun j hj => by
      have := congrArg (fun l => l[j]?) hc
      simp only [Nat.mul_one, List.getElem?_take, if_pos hj, List.getElem?_map, Array.getElem?_toList, List.getElem?_eq_getElem hj, Option.map_some] at this
      rw [this, List.getElem?_eq_getElem hj]
      rfl
    have hcw : ∀ (j : Nat) u, (xs.map (Value.int .i64))[j]? = some u → w.cell? ⟨g, 0 + j, none⟩ = some u := fun j u hu => by
      rw [Blk.cell (show Blk w g 3 cur from hb), Nat.zero_add]
      exact hco cur xs hcx j u hu
    have hB : Blk w g 3 cur := hb
    have hs' : cur.size = cap := by omega
    have hvg : vb ≠ g := fun e => hne (by rw [e]; rfl)
    by_cases hroom : xs.length + 1 ≤ cap
    · have hfin2 : ∀ w' cs', Blk w' g 3 cs' → cs'.size = cap → (∀ j, j < xs.length + 1 → cs'[j]? = some (.int .i64 ((xs.take i ++ k :: xs.drop i)[j]?.getD 0))) → OwnI w' base 3 (.slice (some ⟨g, 0, none⟩) (xs.length + 1) cap) (xs.take i ++ k :: xs.drop i) := fun w' cs' h1 h2 h3 => by
        have := OwnI.ofCells (zs := xs.take i ++ k :: xs.drop i) (cap := cap) hg h1 (by omega) hm h2 (by rw [hzl]; exact h3)
        rwa [hzl] at this
      rcases Nat.lt_or_eq_of_le hi with hlt | rfl
      · refine (Any2.slices_Insert_int_shift insLays g 0 xs.length cap i vb 0 1 vc (xs.map (Value.int .i64)) [.int .i64 k] w hlt (by omega) hroom (by unfold maxLen at hm; omega) hvg (by simp) rfl hcw
          (fun j hj => by rw [hB.cell, Array.getElem?_eq_getElem (by omega)]; rfl) (fun j hj => hB.frozen _) hvs h1c h1v 3 3 1 cap (by unfold World.shape?; rw [show w.heap[vb]? = _ from hvb]; rfl) (by unfold World.shape?; rw [hb, ← hs']) (by omega) (hvb.frozen _) (hvb.frozen _)).mono fun e w' ⟨h1, h2⟩ => ?_
        obtain ⟨c1, e1, e2, e3, e4⟩ := Blk.setCells ((xs.map (Value.int .i64)).drop i) (0 + (i + 1)) cur w.drew (hB.ext (Ext.drew w)) (by rw [List.length_drop, List.length_map]; omega)
        obtain ⟨c2, d1, d2, d3, d4⟩ := Blk.setCells [.int .i64 k] (0 + i) c1 _ e1 (by rw [List.length_singleton]; omega)
        obtain ⟨f1, f2, f3, f4, f5⟩ := setCells_same g ((xs.map (Value.int .i64)).drop i) (0 + (i + 1)) w.drew
        obtain ⟨g1, g2, g3, g4, g5⟩ := setCells_same g [.int .i64 k] (0 + i) (w.drew.setCells g (0 + (i + 1)) ((xs.map (Value.int .i64)).drop i))
        rw [← h2] at d1 g1 g2 g3 g4 g5
        refine ⟨_, h1, hfin2 _ _ d1 (by omega) (fun j hj => ?_), ⟨g1.trans f1, g2.trans f2, g3.trans f3, by rw [g4, f4]; exact Nat.le_refl _, fun q hq hq2 => (g5 q fun e => hq2 (by rw [e]; rfl)).trans (f5 q fun e => hq2 (by rw [e]; rfl))⟩, .inl rfl⟩
        rw [insAt xs i hi k j hj]
        rcases Nat.lt_trichotomy j i with h | h | h
        · rw [if_pos h, d3 j (.inl (by omega)), e3 j (.inl (by omega)), hcx j (by omega)]
        · subst h
          rw [if_neg (by omega), if_pos rfl]
          have := d4 0 (by simp)
          rw [show 0 + j + 0 = j by omega] at this
          exact this
        · rw [if_neg (by omega), if_neg (by omega), d3 j (.inr (by rw [List.length_singleton]; omega))]
          have := e4 (j - (i + 1)) (by rw [List.length_drop, List.length_map]; omega)
          rw [show 0 + (i + 1) + (j - (i + 1)) = j by omega] at this
          rw [this, List.getElem?_drop, List.getElem?_map, show i + (j - (i + 1)) = j - 1 by omega, List.getElem?_eq_getElem (by omega)]
          rfl
      · refine (Any2.slices_Insert_int_end_room insLays g 0 xs.length cap vb 0 1 vc [.int .i64 k] w (by omega) hroom (by unfold maxLen at hm; omega) rfl
          (fun j hj => by rw [hB.cell, Array.getElem?_eq_getElem (by omega)]; rfl) (fun j hj => hB.frozen _) hvs h1v).mono fun e w' ⟨h1, h2⟩ => ?_
        obtain ⟨c1, e1, e2, e3, e4⟩ := Blk.setCells [.int .i64 k] (0 + xs.length) cur w hB (by rw [List.length_singleton]; omega)
        obtain ⟨f1, f2, f3, f4, f5⟩ := setCells_same g [.int .i64 k] (0 + xs.length) w
        rw [← h2] at e1 f1 f2 f3 f4 f5
        refine ⟨_, h1, hfin2 _ _ e1 (by omega) (fun j hj => ?_), ⟨f1, f2, f3, by rw [f4]; exact Nat.le_refl _, fun q hq hq2 => f5 q fun e => hq2 (by rw [e]; rfl)⟩, .inl rfl⟩
        rw [insAt xs _ (Nat.le_refl _) k j hj]
        by_cases h : j < xs.length
        · rw [if_pos h, e3 j (.inl (by omega)), hcx j h]
        · obtain rfl : j = xs.length := by omega
          rw [if_neg h, if_pos rfl]
          have := e4 0 (by simp)
          rw [show 0 + xs.length + 0 = xs.length by omega] at this
          exact this
    · rcases Nat.lt_or_eq_of_le hi with hlt | rfl
      · refine (Any2.slices_Insert_int_grow insLays g 0 xs.length cap i vb 0 1 vc (xs.map (Value.int .i64)) [.int .i64 k] w hlt (by omega) hn (by omega) (by omega) (by simp) rfl hcw hvs h1c h1v).mono fun e w' ⟨h1, h2⟩ => ?_
        rw [hrt] at h1 h2
        have hgc := grownCap_ge w (xs.length + 1) cap 3
        have hgm := grownCap_le_maxLen w (xs.length + 1) cap 3 hmx
        obtain ⟨gc, hgce⟩ : ∃ gc, grownCap w (xs.length + 1) cap 3 = gc := ⟨_, rfl⟩
        rw [hgce] at h1 h2 hgc hgm
        obtain ⟨c0, hc0⟩ : ∃ c0, (((xs.map (Value.int .i64)).take i).toArray ++ Builtin.zeroCells (Value.int .i64 0).cells (xs.length + 1 - i) ++ Builtin.zeroCells (Value.int .i64 0).cells (gc - (xs.length + 1))) = c0 := ⟨_, rfl⟩
        have hz0 : c0.size = gc := by
          rw [← hc0]
          simp only [Array.size_append, List.size_toArray, size_zeroCells, List.length_take, List.length_map, Value.cells, List.length_cons, List.length_nil]
          omega
        have hz1 : ∀ j, j < i → c0[j]? = some (.int .i64 (xs[j]?.getD 0)) := fun j hj => by
          rw [← hc0, Array.getElem?_append_left (by simp [size_zeroCells]; omega), Array.getElem?_append_left (by simp; omega)]
          simp [hj, show j < xs.length by omega]
        rw [hc0] at h2
        have hX := Ext.alloc w (.cells c0 3)
        have hB0 := (Blk.new w 3 c0).ext (Ext.drew _)
        obtain ⟨c1, e1, e2, e3, e4⟩ := Blk.setCells [.int .i64 k] i c0 _ hB0 (by rw [List.length_singleton]; omega)
        have e1 := e1.ext (Ext.drew _)
        obtain ⟨c2, d1, d2, d3, d4⟩ := Blk.setCells ((xs.map (Value.int .i64)).drop i) (i + 1) c1 _ e1 (by rw [List.length_drop, List.length_map]; omega)
        obtain ⟨f1, f2, f3, f4, f5⟩ := setCells_same w.heap.size [.int .i64 k] i (w.alloc (.cells c0 3)).drew
        obtain ⟨g1, g2, g3, g4, g5⟩ := setCells_same w.heap.size ((xs.map (Value.int .i64)).drop i) (i + 1) (((w.alloc (.cells c0 3)).drew.setCells w.heap.size i [.int .i64 k]).drew)
        rw [← h2] at d1 g1 g2 g3 g4 g5
        refine ⟨_, h1, hfin _ _ hgc hgm (by omega) (fun j hj => ?_) _ d1, ⟨g1.trans (f1.trans hX.os), g2.trans (f2.trans hX.tape), g3.trans (f3.trans hX.output), by rw [g4]; show _ ≤ (World.setCells _ _ _ _).heap.size; rw [f4]; exact hX.size, fun q hq hq2 => (g5 q (by omega)).trans ((f5 q (by omega)).trans (Below.block hX q hq))⟩, .inr ⟨w.heap.size, rfl, Nat.le_refl _⟩⟩
        rw [insAt xs i hi k j hj]
        rcases Nat.lt_trichotomy j i with h | h | h
        · rw [if_pos h, d3 j (.inl (by omega)), e3 j (.inl (by omega)), hz1 j h]
        · subst h
          rw [if_neg (by omega), if_pos rfl, d3 j (.inl (by omega))]
          exact e4 0 (by simp)
        · rw [if_neg (by omega), if_neg (by omega)]
          have := d4 (j - (i + 1)) (by rw [List.length_drop, List.length_map]; omega)
          rw [show i + 1 + (j - (i + 1)) = j by omega] at this
          rw [this, List.getElem?_drop, List.getElem?_map, show i + (j - (i + 1)) = j - 1 by omega, List.getElem?_eq_getElem (by omega)]
          rfl
      · refine (Any2.slices_Insert_int_end_grow insLays (some ⟨g, 0, none⟩) xs.length cap vb 0 1 vc (xs.map (Value.int .i64)) [.int .i64 k] w (by omega) hn (by omega) (by omega) (by simp) rfl (fun h => by cases h) (fun a ha j u hu => by
          obtain rfl := Option.some.inj ha
          have h := hcw j u hu
          rw [Nat.zero_add] at h
          rcases Nat.eq_zero_or_pos j with rfl | hj
          · simpa [Addr.add] using h
          · simpa [Addr.add, show j ≠ 0 by omega] using h) hvs h1v).mono fun e w' ⟨h1, h2⟩ => ?_
        rw [hrt] at h1 h2
        refine ⟨_, h1, ?_, by rw [h2]; exact hgr _, .inr ⟨w.heap.size, rfl, Nat.le_refl _⟩⟩
        subst h2
        have hgc := grownCap_ge w (xs.length + 1) cap 3
        refine hfin _ _ hgc (grownCap_le_maxLen _ _ _ _ hmx) ?_ ?_ _ (Blk.new _ _ _)
        · simp only [Array.size_append, List.size_toArray, size_zeroCells, List.length_append, List.length_map, List.length_cons, List.length_nil, Value.cells, List.size_toArray]
          omega
        · intro j hj
          rw [insAt xs _ (Nat.le_refl _) k j hj, Array.getElem?_append_left (by simp; omega)]
          by_cases h : j < xs.length
          · rw [if_pos h]; simp [h, List.getElem?_append_left]
          · obtain rfl : j = xs.length := by omega
            rw [if_neg h, if_pos rfl]; simp
end Go.Proofs.Pet
namespace Go.Proofs.Pet
open Go Go.RowKit Go.Maps Go.Shelf Go.Sort
theorem deleteI (base : Nat) (v : Value) (xs : List Int) (w : World) (h : OwnI w base 3 v xs) (hl : xs.length ≤ 100000) (i : Nat) (hi : i < xs.length) :
    Calls Try.prog 43 #[v, .int .i64 (i : Int), .int .i64 ((i : Int) + 1)] w fun e w' => ∃ v', e = .returned v' ∧ OwnI w' base 3 v' (xs.take i ++ xs.drop (i + 1)) ∧ v'.ownBlock = v.ownBlock ∧ w.grownBy w' v.ownBlock := by
  rcases h.2 with ⟨rfl, h0⟩ | ⟨g, cap, cur, rfl, hg, hb, hn, hm, hs, hc⟩
  · omega
  · have hc' : cur.toList.take xs.length = xs.map (Value.int .i64) := by rwa [Nat.mul_one] at hc
    have hcall := Try.slices_Delete_int g 0 cap i (i + 1) xs w (holds_of_blockI hb hc') hn (by unfold maxLen at hm; omega) (by omega) (by omega)
    have ei : ((i + 1 : Nat) : Int) = (i : Int) + 1 := by omega
    rw [ei] at hcall
    refine hcall.mono fun e w' ⟨h1, q, h2⟩ => ?_
    subst h2
    obtain ⟨ts, hts⟩ : ∃ ts, xs.take i ++ xs.drop (i + 1) ++ List.replicate (i + 1 - i) (0 : Int) = ts := ⟨_, rfl⟩
    have hdl : (xs.take i ++ xs.drop (i + 1)).length = xs.length - 1 := by rw [List.length_append, List.length_take, List.length_drop]; omega
    have hlen : ts.length = xs.length := by rw [← hts, List.length_append, hdl, List.length_replicate]; omega
    have ho : (grow (putRow (Value.int .i64) (Sort.ahead w q) g 0 ts.toArray) #[]).ownsRow base 3 1 (.slice (some ⟨g, 0, none⟩) xs.length cap) xs.length (ts.map (Value.int .i64)) := ownsRow_sortedI hlen hg hb hn hm hs
    rw [hts]
    rw [grow_empty] at ho
    refine ⟨_, h1, ?_, rfl, by have := grownBy_sortedI (w := w) (g := g) (n := q) (os := #[]) ts.toArray; rwa [grow_empty] at this⟩
    rcases ho.2 with ⟨h3, _⟩ | ⟨g', cap', cur', h3, k1, k2, k3, k4, k5, k6⟩
    · cases h3
    · simp only [Value.slice.injEq, Option.some.injEq, Addr.mk.injEq, and_true, true_and] at h3
      obtain ⟨rfl, rfl⟩ := h3
      have e1 : xs.length - (i + 1 - i) = (xs.take i ++ xs.drop (i + 1)).length := by rw [hdl]; omega
      rw [e1]
      refine ⟨by simp, .inr ⟨g, cap, cur', rfl, k1, k2, by omega, k4, k5, ?_⟩⟩
      rw [Nat.mul_one] at k6 ⊢
      have : cur'.toList.take (xs.take i ++ xs.drop (i + 1)).length = (cur'.toList.take xs.length).take (xs.take i ++ xs.drop (i + 1)).length := by rw [List.take_take, Nat.min_eq_left (by omega)]
      rw [this, k6, ← hts, List.map_append, List.take_append_of_le_length (by simp), List.take_of_length_le (by simp)]
end Go.Proofs.Pet

namespace Go.Proofs.Pet
open Go Go.RowKit

/-- which of those that are left may be the next one -/
def en (l : List Oper) (rem : List (Nat × Bool)) : List (Nat × Bool) := rem.filter fun p => rem.all fun q => !((anc l p.1).contains q.1)
def rest (rem : List (Nat × Bool)) (k : Nat) : List (Nat × Bool) := rem.filter fun q => q.1 != k
def isM (ms : List (Nat × Bool)) (k : Nat) : Bool := ms.any fun p => p.1 == k
/-- which floating ones wait for none but the next one -/
def unl (l : List Oper) (n : Nat) (ms rem : List (Nat × Bool)) (k : Nat) : List Nat := (List.range n).filter fun d => !isM ms d && (anc l d).contains k && rem.all fun q => q.1 == k || !((anc l d).contains q.1)
def early (l : List Oper) (ms : List (Nat × Bool)) (d : Nat) : Bool := !isM ms d && ms.all fun q => !((anc l d).contains q.1)
def treeB (l : List Oper) (n : Nat) (ms : List (Nat × Bool)) (rs : List Nat) : Bool :=
  ((List.range n).all fun d => ((l[d]?.map edges).getD []).all fun e => (anc l d).contains e.on && (anc l e.on).all fun j => (anc l d).contains j) &&
    ms.all fun p => decide (p.1 < n) && (p.2 || (List.range n).all fun j => isM ms j || rs.contains j || (anc l p.1).contains j)
/-- floating ones, one by one -/
def Unlock (P : Program) (ops : Array Oper) (G : World → Prop) (hd : List Oper) (fr : (Nat → Value) → Act) (rs : List Nat) (C : (Nat → Value) → Prop) : List Nat → (Nat → Value) → Prop
  | [], y => C y
  | d :: ds, y => ∃ v, (∀ o, hd[d]? = some o → FloatOk P ops G fr (rs.contains d) o y v) ∧ Unlock P ops G hd fr rs C ds (upd y d v)
def Tree (P : Program) (ops : Array Oper) (G : World → Prop) (l : List Oper) (n : Nat) (hd tl : List Oper) (fr : (Nat → Value) → Act) (Q : Exit → Act → World → Prop) (ms : List (Nat × Bool)) (rs : List Nat) : Nat → List (Nat × Bool) → (Nat → Value) → World → Prop
  | 0, rem, y, W => rem = [] → wpList P ops Q tl (fr y) W
  | f + 1, rem, y, W => (rem = [] → wpList P ops Q tl (fr y) W) ∧ ∀ p ∈ en l rem, ∀ x, DepsE y x ((hd[p.1]?.map edges).getD []) → ∀ (K : Act → World → Prop) (Q' : Exit → Act → World → Prop),
      (∀ v W', (p.2 = true → G W') → Unlock P ops G hd fr rs (fun y' => Tree P ops G l n hd tl fr Q ms rs f (rest rem p.1) y' W') (unl l n ms rem p.1) (upd y p.1 v) → K ((fr x).put ((hd[p.1]?.map (·.dst)).getD none) v) W') → wpList P ops (Exit.then K Q') ((hd[p.1]?.map fun o => [o]).getD []) (fr x) W
/-- the goals of those that may be next -/
def TSteps (P : Program) (ops : Array Oper) (G : World → Prop) (l : List Oper) (n : Nat) (hd tl : List Oper) (fr : (Nat → Value) → Act) (Q : Exit → Act → World → Prop) (ms : List (Nat × Bool)) (rs : List Nat) (f : Nat) (rem : List (Nat × Bool)) (y : Nat → Value) (W : World) : List (Nat × Bool) → Prop
  | [] => True
  | p :: r => (∀ x, DepsE y x ((hd[p.1]?.map edges).getD []) → ∀ (K : Act → World → Prop) (Q' : Exit → Act → World → Prop),
      (∀ v W', (p.2 = true → G W') → Unlock P ops G hd fr rs (fun y' => Tree P ops G l n hd tl fr Q ms rs f (rest rem p.1) y' W') (unl l n ms rem p.1) (upd y p.1 v) → K ((fr x).put ((hd[p.1]?.map (·.dst)).getD none) v) W') → wpList P ops (Exit.then K Q') ((hd[p.1]?.map fun o => [o]).getD []) (fr x) W) ∧ TSteps P ops G l n hd tl fr Q ms rs f rem y W r
section
variable {P : Program} {ops : Array Oper} {w : World} {G : World → Prop} {hd tl : List Oper} {fr : (Nat → Value) → Act} {Q : Exit → Act → World → Prop} {ms : List (Nat × Bool)} {rs : List Nat} {l : List Oper} {n : Nat} {o : Oper} {k : Nat} {y : Nat → Value} {e : Bool} {W : World} {C : (Nat → Value) → Prop}
theorem Unlock.of {ds ds' : List Nat} (h : ds' = ds) (p : Unlock P ops G hd fr rs C ds y) : Unlock P ops G hd fr rs C ds' y := h ▸ p
theorem Unlock.nil (h : C y) : Unlock P ops G hd fr rs C [] y := h
theorem Unlock.float {d : Nat} {ds : List Nat} {v : Value} (ho : hd[d]? = some o) (hf : FloatOk P ops G fr (rs.contains d) o y v) (h : Unlock P ops G hd fr rs C ds (upd y d v)) : Unlock P ops G hd fr rs C (d :: ds) y :=
  ⟨v, fun o' ho' => by rw [ho] at ho'; cases ho'; exact hf, h⟩
theorem FloatOk.congr {y' : Nat → Value} {reg : Bool} {v : Value} (hf : FloatOk P ops G fr reg o y v) (h : ∀ e ∈ edges o, y' e.on = y e.on) : FloatOk P ops G fr reg o y' v :=
  fun x W he hd K Q hK => hf x W he (DepsE.congr h hd) K Q hK
theorem Unlock.split : ∀ (ds : List Nat) (y : Nat → Value), ds.Pairwise (· < ·) → (∀ d o, hd[d]? = some o → ∀ e ∈ edges o, e.on < d) → Unlock P ops G hd fr rs C ds y →
    ∃ y', (∀ j, j ∉ ds → y' j = y j) ∧ (∀ d o, d ∈ ds → hd[d]? = some o → FloatOk P ops G fr (rs.contains d) o y' (y' d)) ∧ C y'
  | [], y, _, _, h => ⟨y, fun _ _ => rfl, fun _ _ hd => by simp at hd, h⟩
  | d :: ds, y, hp, hlow, ⟨v, hv, h⟩ => by
    obtain ⟨hp1, hp2⟩ := List.pairwise_cons.1 hp
    obtain ⟨y', h1, h2, h3⟩ := Unlock.split ds _ hp2 hlow h
    have hd' : d ∉ ds := fun h => absurd (hp1 d h) (by omega)
    refine ⟨y', fun j hj => ?_, fun d' o hd ho => ?_, h3⟩
    · rw [List.mem_cons, not_or] at hj
      rw [h1 j hj.2]; unfold upd; rw [if_neg hj.1]
    · rcases List.mem_cons.1 hd with e | e
      · subst e
        have e1 : y' d' = v := by rw [h1 d' hd']; simp [upd]
        rw [e1]
        refine (hv o ho).congr fun e he => ?_
        have hlt := hlow d' o ho e he
        rw [h1 e.on fun h => by have := hp1 _ h; omega]
        unfold upd; rw [if_neg (by omega)]
      · exact h2 d' o e ho
theorem TSteps.mem {f : Nat} {rem : List (Nat × Bool)} : ∀ {r : List (Nat × Bool)}, TSteps P ops G l n hd tl fr Q ms rs f rem y W r → ∀ p ∈ r, ∀ x, DepsE y x ((hd[p.1]?.map edges).getD []) → ∀ (K : Act → World → Prop) (Q' : Exit → Act → World → Prop),
      (∀ v W', (p.2 = true → G W') → Unlock P ops G hd fr rs (fun y' => Tree P ops G l n hd tl fr Q ms rs f (rest rem p.1) y' W') (unl l n ms rem p.1) (upd y p.1 v) → K ((fr x).put ((hd[p.1]?.map (·.dst)).getD none) v) W') → wpList P ops (Exit.then K Q') ((hd[p.1]?.map fun o => [o]).getD []) (fr x) W
  | _ :: _, h, p, hp => by
    rcases List.mem_cons.1 hp with h1 | h1
    · subst h1; exact h.1
    · exact TSteps.mem h.2 p h1
theorem Tree.next {f : Nat} {rem ks : List (Nat × Bool)} (hk : (rem.isEmpty, en l rem) = (false, ks)) (h : TSteps P ops G l n hd tl fr Q ms rs f rem y W ks) : Tree P ops G l n hd tl fr Q ms rs (f + 1) rem y W := by
  simp only [Prod.mk.injEq] at hk
  refine ⟨fun e => ?_, fun p hp => ?_⟩
  · rw [e] at hk; exact absurd hk.1 (by decide)
  · rw [hk.2] at hp
    exact TSteps.mem h p hp
theorem TSteps.cons {f : Nat} {rem r : List (Nat × Bool)} (o : Oper) (ho : hd[k]? = some o) (h : ∀ x, DepsE y x (edges o) → ∀ (K : Act → World → Prop) (Q' : Exit → Act → World → Prop),
      (∀ v W', (e = true → G W') → Unlock P ops G hd fr rs (fun y' => Tree P ops G l n hd tl fr Q ms rs f (rest rem k) y' W') (unl l n ms rem k) (upd y k v) → K ((fr x).put o.dst v) W') → wpList P ops (Exit.then K Q') [o] (fr x) W) (hr : TSteps P ops G l n hd tl fr Q ms rs f rem y W r) : TSteps P ops G l n hd tl fr Q ms rs f rem y W ((k, e) :: r) := by
  refine ⟨?_, hr⟩
  simp only [ho]
  exact h
theorem Tree.nil {f : Nat} {rem : List (Nat × Bool)} (hk : rem = []) (h : wpList P ops Q tl (fr y) W) : Tree P ops G l n hd tl fr Q ms rs f rem y W := by
  subst hk
  cases f with
  | zero => exact fun _ => h
  | succ f => exact ⟨fun _ => h, fun p hp => by simp [en] at hp⟩
end
/-- what is known while such a region goes on -/
def TreeS (P : Program) (ops : Array Oper) (G : World → Prop) (l : List Oper) (n : Nat) (hd tl : List Oper) (fr : (Nat → Value) → Act) (Q : Exit → Act → World → Prop) (ms : List (Nat × Bool)) (rs : List Nat) (Ld : Nat → Prop) (x : Nat → Value) (W : World) : Prop :=
  ∃ f rem y, rem.length ≤ f ∧ (∀ p ∈ rem, p ∈ ms) ∧ (∀ p ∈ ms, p ∈ rem ∨ Ld p.1) ∧ (∀ p ∈ rem, ¬ Ld p.1) ∧
    (∀ d o, hd[d]? = some o → isM ms d = false → (∀ q ∈ rem, (anc l d).contains q.1 = false) → FloatOk P ops G fr (rs.contains d) o y (y d)) ∧
    (∀ j, j < n → Ld j → x j = y j) ∧
    Tree P ops G l n hd tl fr Q ms rs f rem y W ∧ ((∀ p ∈ ms, Ld p.1 → p.2 = true) → G W) ∧ ((∀ p ∈ ms, Ld p.1 → p.2 = true) ∨ ∀ j, j < n → isM ms j = false → rs.contains j = false → Ld j)
theorem filter_len_lt {α : Type} {p : α → Bool} : ∀ {l : List α} {a : α}, a ∈ l → p a = false → (l.filter p).length < l.length
  | b :: l, a, h, hp => by
    rcases List.mem_cons.1 h with h1 | h1
    · subst h1
      rw [List.filter_cons_of_neg (by simp [hp])]
      have := List.length_filter_le p l
      simp only [List.length_cons]; omega
    · have := filter_len_lt h1 hp
      by_cases hb : p b = true
      · rw [List.filter_cons_of_pos hb]; simp only [List.length_cons]; omega
      · rw [List.filter_cons_of_neg hb]; simp only [List.length_cons]; omega
theorem isM_ne {ms : List (Nat × Bool)} {i : Nat} (h : isM ms i = false) {p : Nat × Bool} (hp : p ∈ ms) : p.1 ≠ i := fun h2 => by
  have : isM ms i = true := List.any_eq_true.2 ⟨p, hp, by simp [h2]⟩
  rw [h] at this; cases this
theorem wp_region_treeG {P : Program} {id : Nat} {Q : Exit → Act → World → Prop} {a : Act} {w : World} {l : List Oper} (G : World → Prop) (hG : G w.drew) (n : Nat) (ms : List (Nat × Bool)) (rs : List Nat) (hm : P.follows .mixedOrders = true) (hB : headB2 l n = true) (hC : treeB l n ms rs = true) {ds : List Nat} (hds : (List.range n).filter (early l ms) = ds)
    (h : Unlock P l.toArray G (l.take n) (fun x => fill (l.take n) 0 x a) rs (fun y => ∀ W, Ext w W → G W → Tree P l.toArray G l n (l.take n) (l.drop n) (fun x => fill (l.take n) 0 x a) Q ms rs ms.length ms y W) ds (fun _ => undef)) :
    (Code.region id l.toArray true).wp P Q a w := by
  have hB' := hB
  simp only [headB2, Bool.and_eq_true, decide_eq_true_eq, Bool.or_eq_true, List.all_eq_true, List.mem_range] at hB'
  obtain ⟨⟨⟨⟨hn, hdist⟩, _⟩, _⟩, hlow⟩ := hB'
  have htk : ∀ i o, (l.take n)[i]? = some o → i < n ∧ l[i]? = some o := fun i o hi => by
    have hin : i < n := by have := (List.getElem?_eq_some_iff.1 hi).1; simp at this; omega
    exact ⟨hin, by rw [List.getElem?_take] at hi; simpa [hin] using hi⟩
  have hlow2 : ∀ i o, (l.take n)[i]? = some o → ∀ e ∈ edges o, e.on < i := fun i o hi e he => by
    obtain ⟨hin, ho⟩ := htk i o hi
    have h1 := hlow i hin
    rw [ho] at h1
    obtain ⟨he, hbe⟩ := List.mem_filter.1 he
    have h2 := Array.all_eq_true'.1 h1 e (by simpa using he)
    simp only [hbe, Bool.not_true, Bool.false_or, decide_eq_true_eq] at h2
    omega
  have hpw : ∀ p : Nat → Bool, ((List.range n).filter p).Pairwise (· < ·) := fun p => List.Pairwise.filter _ List.pairwise_lt_range
  obtain ⟨y0, _, hfl, hch⟩ := Unlock.split ds _ (hds ▸ hpw _) hlow2 h
  simp only [treeB, Bool.and_eq_true, List.all_eq_true, List.mem_range] at hC
  obtain ⟨hc1, hc3⟩ := hC
  have htr : ∀ d o, (l.take n)[d]? = some o → ∀ e ∈ edges o, (anc l d).contains e.on = true ∧ ∀ j, (anc l e.on).contains j = true → (anc l d).contains j = true := fun d o hd e he => by
    obtain ⟨hin, ho⟩ := htk d o hd
    have h1 := hc1 d hin
    rw [ho] at h1
    simp only [Option.map_some, Option.getD_some] at h1
    obtain ⟨h2, h3⟩ := h1 e he
    exact ⟨h2, fun j hj => h3 j (by simpa using hj)⟩
  refine wp_region_stage n hm hB (TreeS P l.toArray G l n (l.take n) (l.drop n) (fun x => fill (l.take n) 0 x a) Q ms rs) (fun _ _ => True)
    (fun x => ⟨ms.length, ms, y0, Nat.le_refl _, fun _ h => h, fun p hp => .inl hp, fun p _ h => h, fun d o hd hmd hq => hfl d o ?_ hd, fun p _ h => h.elim, hch _ (Ext.drew w) hG, fun _ => hG, .inl fun p _ h => h.elim⟩) ?_ ?_
  · rw [← hds]
    refine List.mem_filter.2 ⟨List.mem_range.2 (htk d o hd).1, ?_⟩
    unfold early
    rw [hmd, Bool.not_false, Bool.true_and, List.all_eq_true]
    intro q hq'
    rw [hq q hq']; rfl
  · refine allOps3_mk (l.take n) 0 fun i o hi Ld x W hS hcl hnl hdl _ K Q' hK => ?_
    rw [Nat.zero_add] at hnl hK
    obtain ⟨hin, ho⟩ := htk i o hi
    obtain ⟨f, rem, y, hlen, hsub, hdone, hsuf, hfo, hxy, hchn, hext, hrd⟩ := hS
    have hanc : ∀ j, (anc l i).contains j = true → Ld j := fun j hj => by
      unfold anc at hj
      rw [ho] at hj
      refine closeB_ok (l := l) (n := n) hcl (by omega) ?_ j hj
      intro j hj
      simp only [Option.map_some, Option.getD_some, List.mem_map] at hj
      obtain ⟨e, he, rfl⟩ := hj
      exact depsL_mem hdl e he
    have hdepE : DepsE y x (edges o) := depsE_mk fun e he => hxy _ (by have := hlow2 i o hi e he; omega) (depsL_mem hdl e he)
    by_cases hmi : isM ms i = true
    · obtain ⟨⟨i', e⟩, hp, hpi⟩ := List.any_eq_true.1 hmi
      simp only [beq_iff_eq] at hpi
      subst hpi
      have hps : (i', e) ∈ rem := (hdone _ hp).resolve_right hnl
      have hen : (i', e) ∈ en l rem := by
        refine List.mem_filter.2 ⟨hps, List.all_eq_true.2 fun q hq => ?_⟩
        rw [Bool.not_eq_true']
        exact Bool.eq_false_iff.2 fun h1 => hsuf q hq (hanc _ h1)
      have hdeps : DepsE y x ((((l.take n)[i']?).map edges).getD []) := by rw [hi]; exact hdepE
      obtain ⟨f, rfl⟩ : ∃ g, f = g + 1 := by
        cases f with
        | zero => exact absurd hps (by rw [List.length_eq_zero_iff.1 (by omega : rem.length = 0)]; simp)
        | succ g => exact ⟨g, rfl⟩
      have hrun := hchn.2 _ hen x hdeps K Q'
      rw [hi] at hrun
      simp only [Option.map_some, Option.getD_some] at hrun
      refine hrun fun v W' hev hrest => hK v W' trivial ?_
      obtain ⟨y', u1, u2, u3⟩ := Unlock.split (unl l n ms rem i') _ (hpw _) hlow2 hrest
      have hds : ∀ d, d ∈ unl l n ms rem i' ↔ d < n ∧ isM ms d = false ∧ (anc l d).contains i' = true ∧ ∀ q ∈ rem, q.1 = i' ∨ (anc l d).contains q.1 = false := fun d => by
        unfold unl
        rw [List.mem_filter, List.mem_range]
        simp only [Bool.and_eq_true, Bool.not_eq_true', List.all_eq_true, Bool.or_eq_true, beq_iff_eq, and_assoc]
      -- what was known stays
      have hold : ∀ j, j ≠ i' → ((anc l j).contains i' = false ∨ isM ms j = true) → y' j = y j := fun j hne hj => by
        rw [u1 j fun h => ?_]
        · unfold upd; rw [if_neg hne]
        · obtain ⟨_, h2, h3, _⟩ := (hds j).1 h
          rcases hj with hj | hj
          · rw [hj] at h3; cases h3
          · rw [hj] at h2; cases h2
      have hi'' : y' i' = v := by
        rw [u1 i' fun h => ?_]
        · simp [upd]
        · obtain ⟨_, h2, _⟩ := (hds i').1 h
          rw [hmi] at h2; cases h2
      refine ⟨f, rest rem i', y', ?_, ?_, ?_, ?_, ?_, ?_, u3, ?_, ?_⟩
      · have : (rest rem i').length < rem.length := filter_len_lt hps (by simp)
        omega
      · exact fun p hp => hsub p (List.mem_filter.1 hp).1
      · intro p hp
        by_cases h1 : p.1 = i'
        · exact .inr (.inr h1)
        · rcases hdone p hp with h2 | h2
          · exact .inl (List.mem_filter.2 ⟨h2, by simpa using h1⟩)
          · exact .inr (.inl h2)
      · intro p hp h1
        obtain ⟨h2, h3⟩ := List.mem_filter.1 hp
        exact h1.elim (hsuf p h2) (by simpa using h3)
      · intro d od hd hmd hq
        have hq' : ∀ q ∈ rem, q.1 = i' ∨ (anc l d).contains q.1 = false := fun q hqr => by
          by_cases h1 : q.1 = i'
          · exact .inl h1
          · exact .inr (hq q (List.mem_filter.2 ⟨hqr, by simpa using h1⟩))
        cases hci : (anc l d).contains i' with
        | true => exact u2 d od ((hds d).2 ⟨(htk d od hd).1, hmd, hci, hq'⟩) hd
        | false =>
          have hne : d ≠ i' := fun h => by subst h; rw [hmd] at hmi; cases hmi
          rw [hold d hne (.inl hci)]
          refine (hfo d od hd hmd fun q hqr => ?_).congr fun e he => ?_
          · rcases hq' q hqr with h1 | h1
            · rw [h1]; exact hci
            · exact h1
          · obtain ⟨h1, h2⟩ := htr d od hd e he
            refine hold e.on (fun h => ?_) (.inl ?_)
            · rw [h, hci] at h1; cases h1
            · cases h3 : (anc l e.on).contains i' with
              | false => rfl
              | true => rw [h2 _ h3] at hci; cases hci
      · intro j hj hl
        by_cases hji : j = i'
        · subst hji; rw [hi'']; simp [upd]
        · have hl' := hl.resolve_right hji
          have h1 : y' j = y j := by
            cases hmj : isM ms j with
            | true => exact hold j hji (.inr hmj)
            | false =>
              refine hold j hji (.inl ?_)
              cases h3 : (anc l j).contains i' with
              | false => rfl
              | true =>
                exfalso
                have : Ld i' := by
                  cases hoj : l[j]? with
                  | none => rw [show anc l j = closeB l j [] by unfold anc; rw [hoj]; rfl] at h3; exact closeB_ok (l := l) (n := n) hcl (by omega) (fun j hj => by simp at hj) _ h3
                  | some oj =>
                    have hdj := hcl.at_ _ _ j oj (by rw [List.getElem?_take]; simp [hj, hoj]) (by rw [Nat.zero_add]; exact hl')
                    unfold anc at h3
                    rw [hoj] at h3
                    refine closeB_ok (l := l) (n := n) hcl (by omega) ?_ _ h3
                    intro j' hj'
                    simp only [Option.map_some, Option.getD_some, List.mem_map] at hj'
                    obtain ⟨e, he, rfl⟩ := hj'
                    exact depsL_mem hdj e he
                exact hnl this
          rw [h1]; unfold upd; rw [if_neg hji]
          exact hxy j hj hl'
      · intro hall
        exact hev (hall (i', e) hp (.inr rfl))
      · have hF : ∀ p ∈ ms, p.1 = i' → p.2 = false → ∀ j, j < n → isM ms j = false → rs.contains j = false → Ld j := fun p h6 h7 h8 j hj hmj hrj => by
          have h4 := hc3 p h6
          simp only [h8, Bool.false_or, List.all_eq_true, List.mem_range, decide_eq_true_eq] at h4
          have h9 := h4.2 j hj
          rw [hmj, hrj, h7] at h9
          exact hanc j (by simpa using h9)
        rcases hrd with h1 | h1
        · by_cases h5 : ∃ p ∈ ms, p.1 = i' ∧ p.2 = false
          · obtain ⟨p, h6, h7, h8⟩ := h5
            exact .inr fun j hj hmj hrj => .inl (hF p h6 h7 h8 j hj hmj hrj)
          · refine .inl fun p hp hl => ?_
            rcases hl with h2 | h2
            · exact h1 p hp h2
            · cases h3 : p.2 with
              | true => rfl
              | false => exact absurd ⟨p, hp, h2, h3⟩ h5
        · exact .inr fun j hj hmj hrj => .inl (h1 j hj hmj hrj)
    · have hmi' : isM ms i = false := Bool.eq_false_iff.2 hmi
      have hne : ∀ p ∈ ms, p.1 ≠ i := fun p hp => isM_ne hmi' hp
      have hf := hfo i o hi hmi' fun q hq => by
        cases h3 : (anc l i).contains q.1 with
        | false => rfl
        | true => exact absurd (hanc _ h3) (hsuf q hq)
      refine hf x W (fun hr => ?_) hdepE K Q' (hK (y i) W trivial ⟨f, rem, y, hlen, hsub, fun p hp => (hdone p hp).imp (fun h => h) .inl, fun p hp h1 => h1.elim (hsuf p hp) (hne p (hsub p hp)), hfo, fun j hj hl => ?_, hchn, fun hall => hext fun p hp hl => hall p hp (.inl hl), ?_⟩)
      · rcases hrd with h1 | h1
        · exact hext h1
        · exact absurd (h1 i hin hmi' hr) hnl
      · by_cases hji : j = i
        · subst hji; simp [upd]
        · unfold upd; rw [if_neg hji]; exact hxy j hj (hl.resolve_right hji)
      · rcases hrd with h1 | h1
        · exact .inl fun p hp hl => h1 p hp (hl.resolve_right (hne p hp))
        · exact .inr fun j hj hmj hrj => .inl (h1 j hj hmj hrj)
  · intro x W hS _
    obtain ⟨f, rem, y, hlen, hsub, hdone, hsuf, hfo, hxy, hchn, _, _⟩ := hS
    have hlt : ∀ p ∈ ms, p.1 < n := fun p hp => by
      have h4 := hc3 p hp
      simp only [decide_eq_true_eq] at h4
      exact h4.1
    have hnil : rem = [] := by
      cases rem with
      | nil => rfl
      | cons p r => exact absurd (hlt p (hsub p (by simp))) (hsuf p (by simp))
    subst hnil
    rw [fill_congr' (l.take n) 0 x y a fun j _ hj => hxy j (by simp at hj; omega) (by simp at hj; omega)]
    cases f with
    | zero => exact hchn rfl
    | succ f => exact hchn.1 rfl
theorem wp_region_tree {P : Program} {id : Nat} {Q : Exit → Act → World → Prop} {a : Act} {w : World} {l : List Oper} (n : Nat) (ms : List (Nat × Bool)) (rs : List Nat) (hm : P.follows .mixedOrders = true) (hB : headB2 l n = true) (hC : treeB l n ms rs = true) {ds : List Nat} (hds : (List.range n).filter (early l ms) = ds)
    (h : Unlock P l.toArray (Ext w) (l.take n) (fun x => fill (l.take n) 0 x a) rs (fun y => ∀ W, Ext w W → Ext w W → Tree P l.toArray (Ext w) l n (l.take n) (l.drop n) (fun x => fill (l.take n) 0 x a) Q ms rs ms.length ms y W) ds (fun _ => undef)) :
    (Code.region id l.toArray true).wp P Q a w := wp_region_treeG (Ext w) (Ext.drew w) n ms rs hm hB hC hds h
end Go.Proofs.Pet

namespace Go.Proofs.Mended
set_option linter.unusedSimpArgs false
theorem ints_made {l : List Nat} {a b : Nat} (ha : a < l.length) (hb : b < l.length) :
    ((l.map fun k : Nat => (k : Int)).take a ++ (l.map fun k : Nat => (k : Int)).drop (a + 1)).take b ++ (atN l a : Int) :: ((l.map fun k : Nat => (k : Int)).take a ++ (l.map fun k : Nat => (k : Int)).drop (a + 1)).drop b = (madeF l (a, b)).map fun k : Nat => (k : Int) := by
  rw [madeF_eq ha hb, List.map_append, List.map_cons, List.map_take, List.map_drop, List.map_append, List.map_take, List.map_drop]
end Go.Proofs.Mended
namespace Go.Proofs.Pet
set_option linter.unusedSimpArgs false
open Go Go.RowKit Go.Maps Go.Shelf
open Go.Proofs.Mended (atN madeF)

set_option maxRecDepth 20000 in
set_option maxHeartbeats 2000000 in
theorem madeL_any (A : Option Addr) (c : Nat) (l : List Nat) (hl : l.length ≤ 7) (a b : Nat) (ha : a < l.length) (hb : b < l.length) (w : World) (hx : IntsAt w A (ints l)) :
    Calls Try.prog 45 #[.slice A l.length c, .agg #[.int .i64 (a : Int), .int .i64 (b : Int)]] w fun e w' => ∃ v, e = .returned v ∧ OwnI w' w.heap.size 3 v (ints (madeF l (a, b))) ∧ Ext w w' := by
  have hX := Ext.alloc w (.cells #[.int .i64 (a : Int), .int .i64 (b : Int)] 113)
  have hB := Blk.new w 113 #[.int .i64 (a : Int), .int .i64 (b : Int)]
  obtain ⟨k0, k1⟩ := hB.c2
  obtain ⟨b1, o1, e1, ca⟩ := (hx.ext hX).atN ha
  have Hx := Lib.hid (hx.ext hX)
  subst e1
  have Hmk := Lib.hid (Mended.ints_made ha hb)
  obtain ⟨kx, hxe⟩ : ∃ kx, atN l a = kx := ⟨_, rfl⟩
  rw [hxe] at ca Hmk
  have HX := Lib.hid hX
  clear hB hx hxe hX
  go_enter Try.func45, Try.ntmps45
  go_upto_region 2 with fail
  generalize hwe : w.alloc _ = w2 at *
  have hws : w.heap.size ≤ w2.heap.size := HX.out.size
  -- the steps that make or turn memory
  have hclone : Hid (∀ W, Ext w2 W → Calls Try.prog 44 #[.slice (some ⟨b1, o1, none⟩) l.length c] W fun e w' => ∃ v, e = .returned v ∧ OwnI w' W.heap.size 3 v (ints l) ∧ Ext W w') := fun W he => by
    have := cloneI (some ⟨b1, o1, none⟩) c (ints l) W (by rw [lenI]; omega) (Hx.out.ext he)
    rwa [lenI] at this
  have hdel : Hid (∀ W v base, w2.heap.size ≤ base → Ext w2 W → OwnI W base 3 v (ints l) → Calls Try.prog 43 #[v, .int .i64 (a : Int), .int .i64 ((a : Int) + 1)] W fun e w' => ∃ v', e = .returned v' ∧ OwnI w' base 3 v' ((ints l).take a ++ (ints l).drop (a + 1)) ∧ v'.ownBlock = v.ownBlock ∧ Ext w2 w' ∧ W.heap.size ≤ w'.heap.size ∧ (∀ g t cs, Blk W g t cs → v.ownBlock ≠ some g → Blk w' g t cs) ∧ True) := fun W v base hb2 he h => by
    refine (deleteI base v (ints l) W h (by rw [lenI]; omega) a (by rw [lenI]; exact ha)).mono ?_
    rintro e w' ⟨v', h1, h2, h3, h4⟩
    exact ⟨v', h1, h2, h3, ext_grownL he h4 (fun k hk => by have := (h.own_lt k hk).1; omega), h4.size, fun g t cs hg hn => hg.grown h4 (fun e => hn e.symm), trivial⟩
  have hins : Hid (∀ W v base vb vc, w2.heap.size ≤ base → base ≤ W.heap.size → Ext w2 W → OwnI W base 3 v ((ints l).take a ++ (ints l).drop (a + 1)) → Blk W vb 3 #[.int .i64 (kx : Int)] → v.ownBlock ≠ some vb → Calls Try.prog 97 #[v, .int .i64 (b : Int), .slice (some ⟨vb, 0, none⟩) 1 vc] W fun e w' => ∃ v', e = .returned v' ∧ OwnI w' w.heap.size 3 v' (ints (madeF l (a, b))) ∧ Ext w w' ∧ Ext w2 w') := fun W v base vb vc hb1 hb2 he h hv hne => by
    have hlen : ((ints l).take a ++ (ints l).drop (a + 1)).length = l.length - 1 := by
      rw [List.length_append, List.length_take, List.length_drop, lenI]; omega
    refine (insertI base v _ W h hb2 (by omega) b (by omega) (kx : Int) vb vc hv hne).mono ?_
    rintro e w' ⟨v', h1, h2, h3, h4⟩
    have h6 : Ext w2 w' := ext_grownL he h3 fun k hk => by have := (h.own_lt k hk).1; omega
    refine ⟨v', h1, ?_, HX.out.trans h6, h6⟩
    have h5 : ((ints l).take a ++ (ints l).drop (a + 1)).take b ++ (kx : Int) :: ((ints l).take a ++ (ints l).drop (a + 1)).drop b = ints (madeF l (a, b)) := Hmk.out
    rw [h5] at h2
    exact h2.mono (by omega)
  clear Hx Hmk ca
  -- <<T
  refine wp_region_tree 13 [(1, true), (7, true), (11, true), (12, true)] [] (by kernel_rfl) (by kernel_rfl) (by kernel_rfl) (ds := [0, 2, 3, 4, 5, 6, 8, 9, 10]) (by kernel_rfl) ?_
  simp only [List.take, List.drop, fill, Act.put, List.setIfInBounds_toArray, List.set_cons_zero, List.set_cons_succ, Nat.reduceAdd]
  repeat (first
    | (apply Unlock.float rfl
       · intro x W he hd K Qr hK
         try (have he := he (by decide); have k0 := he.cell k0; have k1 := he.cell k1)
         try simp only [edges, DepsE, List.filter_cons, List.filter_nil, Region.binds, if_true, and_true, true_and, upd, Nat.reduceEqDiff, if_false] at hd
         try simp only [hd] at hK ⊢
         have HK := Lib.hid hK; clear hK
         go_wp2_with fail
         exact HK.out))
  refine Unlock.nil ?_
  intro W he hG
  refine Tree.next (ks := [(1, true), (11, true)]) (by kernel_rfl) ?_
  refine TSteps.cons _ rfl ?_ (TSteps.cons _ rfl ?_ trivial)
  · intro x hd K Qr hK
    try simp only [edges, DepsE, List.filter_cons, List.filter_nil, Region.binds, if_true, and_true, true_and, upd, Nat.reduceEqDiff, if_false] at hd
    try simp only [hd] at hK ⊢
    clear hd
    have HK := Lib.hid hK; clear hK
    have hc := Lib.hid (hclone.out W he)
    go_wp2_with fail
    refine hc.out.mono ?_
    rintro e w3 ⟨v1, rfl, hO1, he3⟩
    have heA := he.trans he3
    have hb3 := he.size
    obtain ⟨bs, hbs⟩ : ∃ bs, W.heap.size = bs := ⟨_, rfl⟩
    rw [hbs] at hO1 hb3
    have hb3' : bs ≤ w3.heap.size := by rw [← hbs]; exact he3.size
    clear hc he he3 hbs
    go_wp2_with fail
    refine HK.out _ _ (fun _ => heA) ?_
    clear HK
    refine Unlock.of (ds := []) (by kernel_rfl) ?_
    repeat (first
      | (apply Unlock.float rfl
         · intro x W he hd K Qr hK
           try (have he := he (by decide); skip)
           try simp only [edges, DepsE, List.filter_cons, List.filter_nil, Region.binds, if_true, and_true, true_and, upd, Nat.reduceEqDiff, if_false] at hd
           try simp only [hd] at hK ⊢
           have HK := Lib.hid hK; clear hK
           go_wp2_with fail
           exact HK.out))
    refine Unlock.nil ?_
    refine Tree.next (ks := [(7, true), (11, true)]) (by kernel_rfl) ?_
    refine TSteps.cons _ rfl ?_ (TSteps.cons _ rfl ?_ trivial)
    · intro x hd K Qr hK
      try simp only [edges, DepsE, List.filter_cons, List.filter_nil, Region.binds, if_true, and_true, true_and, upd, Nat.reduceEqDiff, if_false] at hd
      try simp only [hd] at hK ⊢
      clear hd
      have HK := Lib.hid hK; clear hK
      have hd := Lib.hid (hdel.out w3 v1 bs hb3 heA hO1)
      go_wp2_with fail
      refine hd.out.mono ?_
      rintro e w4 ⟨v2, rfl, hO2, hov, heB, hsz, -, -⟩
      clear hd
      go_wp2_with fail
      refine HK.out _ _ (fun _ => heB) ?_
      clear HK
      refine Unlock.of (ds := []) (by kernel_rfl) ?_
      repeat (first
        | (apply Unlock.float rfl
           · intro x W he hd K Qr hK
             try (have he := he (by decide); skip)
             try simp only [edges, DepsE, List.filter_cons, List.filter_nil, Region.binds, if_true, and_true, true_and, upd, Nat.reduceEqDiff, if_false] at hd
             try simp only [hd] at hK ⊢
             have HK := Lib.hid hK; clear hK
             go_wp2_with fail
             exact HK.out))
      refine Unlock.nil ?_
      refine Tree.next (ks := [(11, true)]) (by kernel_rfl) ?_
      refine TSteps.cons _ rfl ?_ trivial
      intro x hd K Qr hK
      try simp only [edges, DepsE, List.filter_cons, List.filter_nil, Region.binds, if_true, and_true, true_and, upd, Nat.reduceEqDiff, if_false] at hd
      try simp only [hd] at hK ⊢
      clear hd
      have HK := Lib.hid hK; clear hK
      have hX := Ext.alloc w4 (.cells #[.int .i64 (kx : Int)] 3)
      have hV := Blk.new w4 3 #[.int .i64 (kx : Int)]
      have hi := Lib.hid (hins.out _ v2 bs w4.heap.size 1 hb3 (by have := hX.size; omega) (heB.trans hX) (hO2.ext hX) hV (fun e => by have := (hO2.own_lt _ e).2; omega))
      have heC := heB.trans hX
      clear hX hV hO2
      go_wp2_with fail
      refine HK.out _ _ (fun _ => heC) ?_
      clear HK
      refine Unlock.of (ds := []) (by kernel_rfl) ?_
      repeat (first
        | (apply Unlock.float rfl
           · intro x W he hd K Qr hK
             try (have he := he (by decide); skip)
             try simp only [edges, DepsE, List.filter_cons, List.filter_nil, Region.binds, if_true, and_true, true_and, upd, Nat.reduceEqDiff, if_false] at hd
             try simp only [hd] at hK ⊢
             have HK := Lib.hid hK; clear hK
             go_wp2_with fail
             exact HK.out))
      refine Unlock.nil ?_
      refine Tree.next (ks := [(12, true)]) (by kernel_rfl) ?_
      refine TSteps.cons _ rfl ?_ trivial
      intro x hd K Qr hK
      try simp only [edges, DepsE, List.filter_cons, List.filter_nil, Region.binds, if_true, and_true, true_and, upd, Nat.reduceEqDiff, if_false] at hd
      try simp only [hd] at hK ⊢
      clear hd
      have HK := Lib.hid hK; clear hK
      go_wp2_with fail
      refine hi.out.mono ?_
      rintro e w5 ⟨v3, rfl, hO3, heD, heE⟩
      go_wp2_with fail
      refine HK.out _ _ (fun _ => heE) ?_
      clear HK
      refine Unlock.of (ds := []) (by kernel_rfl) ?_
      repeat (first
        | (apply Unlock.float rfl
           · intro x W he hd K Qr hK
             try (have he := he (by decide); skip)
             try simp only [edges, DepsE, List.filter_cons, List.filter_nil, Region.binds, if_true, and_true, true_and, upd, Nat.reduceEqDiff, if_false] at hd
             try simp only [hd] at hK ⊢
             have HK := Lib.hid hK; clear hK
             go_wp2_with fail
             exact HK.out))
      refine Unlock.nil ?_
      refine Tree.nil (by kernel_rfl) ?_
      simp only [upd, Nat.reduceEqDiff, if_false, if_true]
      go_wp2_with fail
      go_ret
      exact ⟨_, rfl, hO3, heD⟩
    · intro x hd K Qr hK
      try simp only [edges, DepsE, List.filter_cons, List.filter_nil, Region.binds, if_true, and_true, true_and, upd, Nat.reduceEqDiff, if_false] at hd
      try simp only [hd] at hK ⊢
      clear hd
      have HK := Lib.hid hK; clear hK
      have hX := Ext.alloc w3 (.cells #[.int .i64 (kx : Int)] 3)
      have hV := Blk.new w3 3 #[.int .i64 (kx : Int)]
      have hd := Lib.hid (hdel.out _ v1 bs hb3 (heA.trans hX) (hO1.ext hX))
      have hne : Hid (v1.ownBlock ≠ some w3.heap.size) := fun e => by have := (hO1.own_lt _ e).2; omega
      have heC := heA.trans hX
      have hbX := hX.size
      clear hX hO1
      go_wp2_with fail
      refine HK.out _ _ (fun _ => heC) ?_
      clear HK
      refine Unlock.of (ds := []) (by kernel_rfl) ?_
      repeat (first
        | (apply Unlock.float rfl
           · intro x W he hd K Qr hK
             try (have he := he (by decide); skip)
             try simp only [edges, DepsE, List.filter_cons, List.filter_nil, Region.binds, if_true, and_true, true_and, upd, Nat.reduceEqDiff, if_false] at hd
             try simp only [hd] at hK ⊢
             have HK := Lib.hid hK; clear hK
             go_wp2_with fail
             exact HK.out))
      refine Unlock.nil ?_
      refine Tree.next (ks := [(7, true)]) (by kernel_rfl) ?_
      refine TSteps.cons _ rfl ?_ trivial
      intro x hd K Qr hK
      try simp only [edges, DepsE, List.filter_cons, List.filter_nil, Region.binds, if_true, and_true, true_and, upd, Nat.reduceEqDiff, if_false] at hd
      try simp only [hd] at hK ⊢
      clear hd
      have HK := Lib.hid hK; clear hK
      go_wp2_with fail
      refine hd.out.mono ?_
      rintro e w4 ⟨v2, rfl, hO2, hov, heB, hsz, hkeep, -⟩
      have hV4 := hkeep _ _ _ hV hne.out
      have hi := Lib.hid (hins.out w4 v2 bs w3.heap.size 1 hb3 (by omega) heB hO2 hV4 (fun e => hne.out (by rw [← hov]; exact e)))
      clear hd hkeep hV hV4 hO2
      go_wp2_with fail
      refine HK.out _ _ (fun _ => heB) ?_
      clear HK
      refine Unlock.of (ds := []) (by kernel_rfl) ?_
      repeat (first
        | (apply Unlock.float rfl
           · intro x W he hd K Qr hK
             try (have he := he (by decide); skip)
             try simp only [edges, DepsE, List.filter_cons, List.filter_nil, Region.binds, if_true, and_true, true_and, upd, Nat.reduceEqDiff, if_false] at hd
             try simp only [hd] at hK ⊢
             have HK := Lib.hid hK; clear hK
             go_wp2_with fail
             exact HK.out))
      refine Unlock.nil ?_
      refine Tree.next (ks := [(12, true)]) (by kernel_rfl) ?_
      refine TSteps.cons _ rfl ?_ trivial
      intro x hd K Qr hK
      try simp only [edges, DepsE, List.filter_cons, List.filter_nil, Region.binds, if_true, and_true, true_and, upd, Nat.reduceEqDiff, if_false] at hd
      try simp only [hd] at hK ⊢
      clear hd
      have HK := Lib.hid hK; clear hK
      go_wp2_with fail
      refine hi.out.mono ?_
      rintro e w5 ⟨v3, rfl, hO3, heD, heE⟩
      go_wp2_with fail
      refine HK.out _ _ (fun _ => heE) ?_
      clear HK
      refine Unlock.of (ds := []) (by kernel_rfl) ?_
      repeat (first
        | (apply Unlock.float rfl
           · intro x W he hd K Qr hK
             try (have he := he (by decide); skip)
             try simp only [edges, DepsE, List.filter_cons, List.filter_nil, Region.binds, if_true, and_true, true_and, upd, Nat.reduceEqDiff, if_false] at hd
             try simp only [hd] at hK ⊢
             have HK := Lib.hid hK; clear hK
             go_wp2_with fail
             exact HK.out))
      refine Unlock.nil ?_
      refine Tree.nil (by kernel_rfl) ?_
      simp only [upd, Nat.reduceEqDiff, if_false, if_true]
      go_wp2_with fail
      go_ret
      exact ⟨_, rfl, hO3, heD⟩
  · intro x hd K Qr hK
    try simp only [edges, DepsE, List.filter_cons, List.filter_nil, Region.binds, if_true, and_true, true_and, upd, Nat.reduceEqDiff, if_false] at hd
    try simp only [hd] at hK ⊢
    clear hd
    have HK := Lib.hid hK; clear hK
    have hX := Ext.alloc W (.cells #[.int .i64 (kx : Int)] 3)
    have hV := Blk.new W 3 #[.int .i64 (kx : Int)]
    have heX := he.trans hX
    have hc := Lib.hid (hclone.out _ heX)
    have hbs : (W.alloc (.cells #[.int .i64 (kx : Int)] 3)).heap.size = W.heap.size + 1 := World.size_alloc ..
    have hb3 := he.size
    clear hX
    go_wp2_with fail
    refine HK.out _ _ (fun _ => heX) ?_
    clear HK
    refine Unlock.of (ds := []) (by kernel_rfl) ?_
    repeat (first
      | (apply Unlock.float rfl
         · intro x W he hd K Qr hK
           try (have he := he (by decide); skip)
           try simp only [edges, DepsE, List.filter_cons, List.filter_nil, Region.binds, if_true, and_true, true_and, upd, Nat.reduceEqDiff, if_false] at hd
           try simp only [hd] at hK ⊢
           have HK := Lib.hid hK; clear hK
           go_wp2_with fail
           exact HK.out))
    refine Unlock.nil ?_
    refine Tree.next (ks := [(1, true)]) (by kernel_rfl) ?_
    refine TSteps.cons _ rfl ?_ trivial
    intro x hd K Qr hK
    try simp only [edges, DepsE, List.filter_cons, List.filter_nil, Region.binds, if_true, and_true, true_and, upd, Nat.reduceEqDiff, if_false] at hd
    try simp only [hd] at hK ⊢
    clear hd
    have HK := Lib.hid hK; clear hK
    go_wp2_with fail
    refine hc.out.mono ?_
    rintro e w3 ⟨v1, rfl, hO1, he3⟩
    rw [hbs] at hO1
    have heA := heX.trans he3
    have hV3 := hV.ext he3
    have hne : Hid (v1.ownBlock ≠ some W.heap.size) := fun e => by have := (hO1.own_lt _ e).1; omega
    have hd := Lib.hid (hdel.out w3 v1 (W.heap.size + 1) (by omega) heA hO1)
    have hs3 : W.heap.size + 1 ≤ w3.heap.size := by rw [← hbs]; exact he3.size
    clear hc he3 hbs hV hO1
    go_wp2_with fail
    refine HK.out _ _ (fun _ => heA) ?_
    clear HK
    refine Unlock.of (ds := []) (by kernel_rfl) ?_
    repeat (first
      | (apply Unlock.float rfl
         · intro x W he hd K Qr hK
           try (have he := he (by decide); skip)
           try simp only [edges, DepsE, List.filter_cons, List.filter_nil, Region.binds, if_true, and_true, true_and, upd, Nat.reduceEqDiff, if_false] at hd
           try simp only [hd] at hK ⊢
           have HK := Lib.hid hK; clear hK
           go_wp2_with fail
           exact HK.out))
    refine Unlock.nil ?_
    refine Tree.next (ks := [(7, true)]) (by kernel_rfl) ?_
    refine TSteps.cons _ rfl ?_ trivial
    intro x hd K Qr hK
    try simp only [edges, DepsE, List.filter_cons, List.filter_nil, Region.binds, if_true, and_true, true_and, upd, Nat.reduceEqDiff, if_false] at hd
    try simp only [hd] at hK ⊢
    clear hd
    have HK := Lib.hid hK; clear hK
    go_wp2_with fail
    refine hd.out.mono ?_
    rintro e w4 ⟨v2, rfl, hO2, hov, heB, hsz, hkeep, -⟩
    have hV4 := hkeep _ _ _ hV3 hne.out
    have hi := Lib.hid (hins.out w4 v2 (W.heap.size + 1) W.heap.size 1 (by omega) (by omega) heB hO2 hV4 (fun e => hne.out (by rw [← hov]; exact e)))
    clear hd hkeep hV3 hV4 hO2
    go_wp2_with fail
    refine HK.out _ _ (fun _ => heB) ?_
    clear HK
    refine Unlock.of (ds := []) (by kernel_rfl) ?_
    repeat (first
      | (apply Unlock.float rfl
         · intro x W he hd K Qr hK
           try (have he := he (by decide); skip)
           try simp only [edges, DepsE, List.filter_cons, List.filter_nil, Region.binds, if_true, and_true, true_and, upd, Nat.reduceEqDiff, if_false] at hd
           try simp only [hd] at hK ⊢
           have HK := Lib.hid hK; clear hK
           go_wp2_with fail
           exact HK.out))
    refine Unlock.nil ?_
    refine Tree.next (ks := [(12, true)]) (by kernel_rfl) ?_
    refine TSteps.cons _ rfl ?_ trivial
    intro x hd K Qr hK
    try simp only [edges, DepsE, List.filter_cons, List.filter_nil, Region.binds, if_true, and_true, true_and, upd, Nat.reduceEqDiff, if_false] at hd
    try simp only [hd] at hK ⊢
    clear hd
    have HK := Lib.hid hK; clear hK
    go_wp2_with fail
    refine hi.out.mono ?_
    rintro e w5 ⟨v3, rfl, hO3, heD, heE⟩
    go_wp2_with fail
    refine HK.out _ _ (fun _ => heE) ?_
    clear HK
    refine Unlock.of (ds := []) (by kernel_rfl) ?_
    repeat (first
      | (apply Unlock.float rfl
         · intro x W he hd K Qr hK
           try (have he := he (by decide); skip)
           try simp only [edges, DepsE, List.filter_cons, List.filter_nil, Region.binds, if_true, and_true, true_and, upd, Nat.reduceEqDiff, if_false] at hd
           try simp only [hd] at hK ⊢
           have HK := Lib.hid hK; clear hK
           go_wp2_with fail
           exact HK.out))
    refine Unlock.nil ?_
    refine Tree.nil (by kernel_rfl) ?_
    simp only [upd, Nat.reduceEqDiff, if_false, if_true]
    go_wp2_with fail
    go_ret
    exact ⟨_, rfl, hO3, heD⟩
  -- >>
end Go.Proofs.Pet

namespace Go.Proofs.Mended
theorem makeF_perm {l : List Nat} : ∀ {ms : List (Nat × Nat)}, (∀ j, j < ms.length → (ms[j]?.getD default).1 < l.length ∧ (ms[j]?.getD default).2 < l.length) → ∀ k, (makeF l (ms.take k)).Perm l := by
  intro ms h k
  induction k with
  | zero => exact List.Perm.refl _
  | succ k ih =>
    by_cases hk : k < ms.length
    · rw [List.take_add_one, List.getElem?_eq_getElem hk]
      show (makeF l (ms.take k ++ [ms[k]])).Perm l
      rw [makeF_snoc]
      have h1 := h k hk
      rw [List.getElem?_eq_getElem hk] at h1
      have h2 : ms[k].1 < l.length ∧ ms[k].2 < l.length := h1
      exact (madeF_perm (by rw [ih.length_eq]; exact h2.1) (by rw [ih.length_eq]; exact h2.2)).trans ih
    · rw [List.take_of_length_le (by omega)]
      rw [List.take_of_length_le (by omega)] at ih
      exact ih
theorem makeF_step {l : List Nat} {ms : List (Nat × Nat)} {k : Nat} (hk : k < ms.length) : makeF l (ms.take (k + 1)) = madeF (makeF l (ms.take k)) ((ms[k]?.getD default).1, (ms[k]?.getD default).2) := by
  rw [List.take_add_one, List.getElem?_eq_getElem hk]
  show makeF l (ms.take k ++ [ms[k]]) = _
  rw [makeF_snoc]; rfl
end Go.Proofs.Mended
namespace Go.Proofs.Pet
open Go Go.RowKit Go.Maps Go.Shelf
open Go.Proofs.Mended (atN madeF makeF)

def mvFlat : List (Nat × Nat) → List Value
  | [] => []
  | x :: xs => .int .i64 (x.1 : Int) :: .int .i64 (x.2 : Int) :: mvFlat xs
theorem mvFlat_append : ∀ xs ys : List (Nat × Nat), mvFlat (xs ++ ys) = mvFlat xs ++ mvFlat ys
  | [], _ => rfl
  | x :: xs, ys => by simp [mvFlat, mvFlat_append xs ys]
theorem mvFlat_at : ∀ (xs : List (Nat × Nat)) (k : Nat), k < xs.length → (mvFlat xs)[k * 2]? = some (.int .i64 ((xs[k]?.getD default).1 : Int)) ∧ (mvFlat xs)[k * 2 + 1]? = some (.int .i64 ((xs[k]?.getD default).2 : Int))
  | x :: xs, 0, _ => ⟨rfl, rfl⟩
  | x :: xs, k + 1, h => by
    have := mvFlat_at xs k (by simpa using h)
    rw [show (k + 1) * 2 = k * 2 + 1 + 1 by omega]
    simpa [mvFlat] using this
def OwnMv (w : World) (base : Nat) (v : Value) (xs : List (Nat × Nat)) : Prop := w.ownsRow base 113 2 v xs.length (mvFlat xs)
def MvsAt (w : World) (A : Option Addr) (xs : List (Nat × Nat)) : Prop := ∀ k, k < xs.length → ∃ b o, A = some ⟨b, o, none⟩ ∧ w.cell? ⟨b, o + k * 2, none⟩ = some (.int .i64 ((xs[k]?.getD default).1 : Int)) ∧ w.cell? ⟨b, o + k * 2 + 1, none⟩ = some (.int .i64 ((xs[k]?.getD default).2 : Int))
theorem MvsAt.ext {w w' : World} {A : Option Addr} {xs : List (Nat × Nat)} (h : MvsAt w A xs) (he : Ext w w') : MvsAt w' A xs := fun k hk => let ⟨b, o, e, h1, h2⟩ := h k hk; ⟨b, o, e, he.cell h1, he.cell h2⟩
theorem MvsAt.take {w : World} {A : Option Addr} {xs : List (Nat × Nat)} (h : MvsAt w A xs) (n : Nat) : MvsAt w A (xs.take n) := fun k hk => by
  rw [List.length_take] at hk
  obtain ⟨b, o, e, h1, h2⟩ := h k (by omega)
  refine ⟨b, o, e, ?_⟩
  rw [List.getElem?_take, if_pos (by omega)]
  exact ⟨h1, h2⟩
theorem OwnMv.at_ {w : World} {base : Nat} {v : Value} {xs : List (Nat × Nat)} (h : OwnMv w base v xs) : ∃ A c, v = .slice A xs.length c ∧ xs.length ≤ c ∧ c ≤ maxLen ∧ MvsAt w A xs := by
  rcases h.2 with ⟨rfl, h0⟩ | ⟨g, cap, cur, rfl, hg, hb, hn, hm, hs, hc⟩
  · have : xs = [] := List.length_eq_zero_iff.1 h0
    subst this
    exact ⟨none, 0, rfl, Nat.le_refl _, by unfold maxLen; omega, fun k hk => by simp at hk⟩
  · refine ⟨_, cap, rfl, hn, hm, fun k hk => ⟨g, 0, rfl, ?_⟩⟩
    obtain ⟨g1, g2⟩ := mvFlat_at xs k hk
    rw [← hc, List.getElem?_take, if_pos (by omega), Array.getElem?_toList] at g1 g2
    have hB : Blk w g 113 cur := hb
    refine ⟨?_, ?_⟩
    · rw [Nat.zero_add, hB.cell]; exact g1
    · rw [Nat.zero_add, hB.cell]; exact g2
theorem info_move : (Try.prog.info? 113).map (fun i => (i.zero, i.size, i.bytes)) = some (some (.agg #[.int .i64 0, .int .i64 0]), 2, 16) := by kernel_rfl
theorem OrdL.of {l m : List Nat} (h : OrdL l) (hp : m.Perm l) : OrdL m := ⟨by rw [hp.length_eq]; exact h.few, by rw [hp.length_eq]; exact hp.trans h.perm⟩
set_option maxRecDepth 20000 in
set_option maxHeartbeats 2000000 in
theorem makeL_any (A : Option Addr) (c : Nat) (l : List Nat) (hl : OrdL l) (M : Option Addr) (mc n : Nat) (ms : List (Nat × Nat)) (hn : ms.length = n) (hms : ∀ j, j < ms.length → (ms[j]?.getD default).1 < l.length ∧ (ms[j]?.getD default).2 < l.length) (hn7 : n ≤ 7) (w : World) (hc : l.length ≤ c) (hx : IntsAt w A (ints l)) (hM : MvsAt w M ms) :
    Calls Try.prog 19 #[.slice A l.length c, .slice M n mc] w fun e w' => ∃ v, e = .returned (.tuple #[v, .int .i64 0]) ∧ OwnI w' w.heap.size 3 v (ints (makeF l ms)) ∧ Ext w w' := by
  have hal := Lib.hid (alone_any A c l hl w hc hx)
  have hl6 := hl.few
  have Hn := Lib.hid hn
  have Hl := Lib.hid hl
  have Hms := Lib.hid hms
  have HM := Lib.hid hM
  have Hx := Lib.hid hx
  clear hn hl hms hM hx
  go_enter Try.func19, Try.ntmps19
  go_wp2_with fail
  refine hal.out.mono ?_
  rintro e w1 ⟨rfl, he1⟩
  have hcl := cloneI A c (ints l) w1 (by rw [lenI]; omega) (Hx.out.ext he1)
  rw [lenI] at hcl
  have Hcl := Lib.hid hcl
  clear hal hcl Hx
  go_wp2_with fail
  refine Hcl.out.mono ?_
  rintro e w2 ⟨v1, rfl, hO, he2⟩
  obtain ⟨A2, c2, rfl, -, -, -, -, -⟩ := hO.open_
  rw [lenI] at hO ⊢
  have hO2 : Hid (OwnI w2 w.heap.size 3 (.slice A2 l.length c2) (ints l)) := hO.mono he1.size
  have hE2 := he1.trans he2
  clear Hcl hO he1 he2
  go_wp2_with fail
  go_loopw [7, 19] (fun o iv wr => ∃ j : Nat, ∃ A2 c2, j ≤ n ∧ iv = .int .i64 (j : Int) ∧ o = .slice A2 l.length c2 ∧ Hid (OwnI wr w.heap.size 3 (.slice A2 l.length c2) (ints (makeF l (ms.take j)))) ∧ Hid (Ext w wr)) (fun _ iv _ => n - (intOf iv).toNat)
  case atStart => exact ⟨0, A2, c2, by omega, rfl, rfl, hO2, Lib.hid hE2⟩
  case round =>
    clear hO2 hE2
    obtain ⟨j, A3, c3, hj, rfl, rfl, hO, hE⟩ := hrel
    by_cases hlt : j < n
    · obtain ⟨mb, mo, e1, m1, m2⟩ := (HM.out.ext hE.out) j (by rw [Hn.out]; exact hlt)
      subst e1
      obtain ⟨ha, hb⟩ := Hms.out j (by rw [Hn.out]; exact hlt)
      have hst := Mended.makeF_step (l := l) (k := j) (by rw [Hn.out]; exact hlt)
      have hcp := Mended.makeF_perm Hms.out j
      obtain ⟨a, hae⟩ : ∃ a, (ms[j]?.getD default).1 = a := ⟨_, rfl⟩
      obtain ⟨b, hbe⟩ : ∃ b, (ms[j]?.getD default).2 = b := ⟨_, rfl⟩
      rw [hae] at m1 ha hst
      rw [hbe] at m2 hb hst
      obtain ⟨cur, hcu⟩ : ∃ cur, makeF l (ms.take j) = cur := ⟨_, rfl⟩
      rw [hcu] at hst hcp hO
      have hcl := hcp.length_eq
      obtain ⟨A3', c3', e3, -, -, hIn, -, -⟩ := hO.out.open_
      rw [lenI, hcl] at e3
      injection e3 with e31 _ e32
      subst e31; subst e32
      have hX := Ext.alloc wr (.cells #[.int .i64 (a : Int), .int .i64 (b : Int)] 113)
      have hB := Blk.new wr 113 #[.int .i64 (a : Int), .int .i64 (b : Int)]
      obtain ⟨k0, k1⟩ := hB.c2
      have i1 := Lib.hid (inL_any (a : Int) 0 ((l.length : Int) - 1) true (by unfold inB; simp; omega) (wr.alloc (.cells #[.int .i64 (a : Int), .int .i64 (b : Int)] 113)))
      have i2 := Lib.hid (inL_any (b : Int) 0 ((l.length : Int) - 1) true (by unfold inB; simp; omega) (wr.alloc (.cells #[.int .i64 (a : Int), .int .i64 (b : Int)] 113)))
      have hmd := madeL_any A3 c3 cur (by omega) a b (by omega) (by omega) (wr.alloc (.cells #[.int .i64 (a : Int), .int .i64 (b : Int)] 113)) (hIn.ext hX)
      rw [hcl] at hmd
      have Hmd := Lib.hid hmd
      have Hst := Lib.hid hst
      have hml : Hid ((madeF cur (a, b)).length = l.length) := by
        unfold Hid
        rw [(Mended.madeF_perm (by omega) (by omega)).length_eq, hcl]
      have HE := Lib.hid (hE.out.trans hX)
      have hsz := HE.out.size
      clear hst hcp hae hbe hcu hcl hIn hO hE hX hB hmd
      go_wp2_with fail
      refine i1.out.mono ?_
      rintro e w3 ⟨rfl, rfl⟩
      go_wp2_with fail
      refine i2.out.mono ?_
      rintro e w3 ⟨rfl, rfl⟩
      clear i1 i2
      go_wp2_with fail
      refine Hmd.out.mono ?_
      rintro e w4 ⟨v4, rfl, hO4, he4⟩
      obtain ⟨A4, c4, rfl, -, -, -, -, -⟩ := hO4.open_
      rw [lenI, hml.out] at hO4 ⊢
      have HO4 : Hid (OwnI w4 w.heap.size 3 (.slice A4 l.length c4) (ints (makeF l (ms.take (j + 1))))) := by
        unfold Hid
        rw [Hst.out]
        exact hO4.mono hsz
      clear hO4 Hmd
      go_wp2_with fail
      go_roundw
      case rel => exact ⟨j + 1, _, _, by omega, by go_num, rfl, HO4, Lib.hid (HE.out.trans he4)⟩
      case measure => simp [intOf]; omega
    · obtain rfl : j = n := by omega
      have hfin : makeF l (ms.take j) = makeF l ms := by rw [← Hn.out, List.take_length]
      rw [hfin] at hO
      clear hfin
      go_wp2_with fail
      go_ret2
      exact ⟨_, rfl, hO.out, hE.out⟩
end Go.Proofs.Pet
