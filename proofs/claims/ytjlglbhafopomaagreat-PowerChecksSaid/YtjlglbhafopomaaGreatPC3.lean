/-
  slices.Insert at []int: the kit's contracts, laid at this program; Insert and Delete at a list of the call's own.
-/
import Derived.Shelf.Spec.SlicesInsertGrow
import Derived.Test.YtjlglbhafopomaaGreatPC2
namespace Go.Proofs
open Go.Shelf
def Pet.insRen : Go.Shelf.Ren := ⟨fun | 21 => 87 | 27 => 151 | 28 => 152 | 35 => 179 | 39 => 207 | n => n, fun | 22 => 31 | 3 => 3 | 4 => 4 | 0 => 0 | n => n, fun | n => n⟩
theorem Pet.insLays : Go.Proofs.Lays2.n21 Tryz.prog Pet.insRen := {
  mixed := by kernel_rfl
  f21 := Tryz.func87.trans (congrArg some (by kernel_rfl))
  f27 := Tryz.func151.trans (congrArg some (by kernel_rfl))
  f28 := Tryz.func152.trans (congrArg some (by kernel_rfl))
  f35 := Tryz.func179.trans (congrArg some (by kernel_rfl))
  f39 := Tryz.func207.trans (congrArg some (by kernel_rfl))
  t0 := Tryz.underlying0
  a0 := Tryz.isAgg0
  z0 := Tryz.sizeOf0
  v0 := Tryz.zeroValue0
  t3 := Tryz.underlying3
  a3 := Tryz.isAgg3
  z3 := Tryz.sizeOf3
  v3 := Tryz.zeroValue3
  t4 := Tryz.underlying4
  a4 := Tryz.isAgg4
  z4 := Tryz.sizeOf4
  v4 := Tryz.zeroValue4
  t22 := Tryz.underlying31
  a22 := Tryz.isAgg31
  z22 := Tryz.sizeOf31
  v22 := Tryz.zeroValue31
  i3 := by kernel_rfl }
end Go.Proofs

namespace Go.Proofs.Pet
open Go Go.RowKit Go.Maps Go.Shelf

theorem Blk.setCells {b : Nat} {t : TypeId} : ∀ (vs : List Value) (o : Nat) (cs : Array Value) (w : World), Blk w b t cs → o + vs.length ≤ cs.size →
    ∃ cs', Blk (w.setCells b o vs) b t cs' ∧ cs'.size = cs.size ∧ (∀ j, j < o ∨ o + vs.length ≤ j → cs'[j]? = cs[j]?) ∧ ∀ j, j < vs.length → cs'[o + j]? = vs[j]?
  | [], o, cs, w, h, _ => ⟨cs, h, rfl, fun _ _ => rfl, fun j hj => absurd hj (by simp)⟩
  | v :: r, o, cs, w, h, hs => by
    rw [List.length_cons] at hs
    obtain ⟨cs', h1, h2, h3, h4⟩ := Blk.setCells r (o + 1) _ _ (h.set_ o v) (by rw [Array.size_setIfInBounds]; omega)
    rw [Array.size_setIfInBounds] at h2
    refine ⟨cs', h1, h2, fun j hj => ?_, fun j hj => ?_⟩
    · rw [List.length_cons] at hj
      rw [h3 j (by omega), Array.getElem?_setIfInBounds, if_neg (by omega)]
    · cases j with
      | zero => rw [Nat.add_zero, h3 o (by omega), Array.getElem?_setIfInBounds, if_pos rfl, if_pos (by omega)]; rfl
      | succ j =>
        rw [List.length_cons] at hj
        have := h4 j (by omega)
        rw [show o + (j + 1) = o + 1 + j by omega, this]
        rfl
theorem setCells_same (b : Nat) : ∀ (vs : List Value) (o : Nat) (w : World), (w.setCells b o vs).os = w.os ∧ (w.setCells b o vs).tape = w.tape ∧ (w.setCells b o vs).output = w.output ∧ (w.setCells b o vs).heap.size = w.heap.size ∧ ∀ k, k ≠ b → (w.setCells b o vs).heap[k]? = w.heap[k]?
  | [], _, _ => ⟨rfl, rfl, rfl, rfl, fun _ _ => rfl⟩
  | v :: r, o, w => by
    obtain ⟨h1, h2, h3, h4, h5⟩ := setCells_same b r (o + 1) (w.setCell ⟨b, o, none⟩ v)
    have ha : Apart b w (w.setCell ⟨b, o, none⟩ v) := (Apart.refl b w).set_ o v
    refine ⟨h1.trans ha.os, h2.trans ha.tape, h3.trans ha.output, h4.trans (by simp), fun k hk => (h5 k hk).trans ?_⟩
    rcases Nat.lt_or_ge k w.heap.size with h | h
    · exact ha.block k h hk
    · rw [Array.getElem?_eq_none h, Array.getElem?_eq_none (by simp; omega)]
theorem OwnI.ofCells {w : World} {base g cap : Nat} {cur : Array Value} {zs : List Int} (hg : base ≤ g) (hb : Blk w g 3 cur) (hn : zs.length ≤ cap) (hm : cap ≤ maxLen) (hs : cur.size = cap)
    (hc : ∀ j, j < zs.length → cur[j]? = some (.int .i64 (zs[j]?.getD 0))) : OwnI w base 3 (.slice (some ⟨g, 0, none⟩) zs.length cap) zs := by
  refine ⟨by simp, .inr ⟨g, cap, cur, rfl, hg, hb, hn, hm, by omega, ?_⟩⟩
  rw [Nat.mul_one]
  apply List.ext_getElem?
  intro j
  rw [List.getElem?_take, List.getElem?_map]
  by_cases hj : j < zs.length
  · have := hc j hj
    rw [if_pos hj, Array.getElem?_toList, this, List.getElem?_eq_getElem hj]
    rfl
  · rw [if_neg hj, List.getElem?_eq_none (by omega)]
    rfl
theorem insAt (xs : List Int) (i : Nat) (hi : i ≤ xs.length) (k : Int) (j : Nat) (_hj : j < xs.length + 1) : (xs.take i ++ k :: xs.drop i)[j]?.getD 0 = if j < i then xs[j]?.getD 0 else if j = i then k else xs[j - 1]?.getD 0 := by
  have hl : (xs.take i).length = i := by rw [List.length_take]; omega
  by_cases h1 : j < i
  · rw [if_pos h1, List.getElem?_append_left (by omega), List.getElem?_take, if_pos h1]
  · rw [if_neg h1, List.getElem?_append_right (by omega), hl]
    by_cases h2 : j = i
    · subst h2; simp
    · rw [if_neg h2, show j - i = (j - 1 - i) + 1 by omega, List.getElem?_cons_succ, List.getElem?_drop, show i + (j - 1 - i) = j - 1 by omega]
set_option maxHeartbeats 1000000 in
theorem insertI (base : Nat) (v : Value) (xs : List Int) (w : World) (h : OwnI w base 3 v xs) (hbs : base ≤ w.heap.size) (hl : xs.length ≤ 1000) (i : Nat) (hi : i ≤ xs.length) (k : Int) (vb vc : Nat) (hvb : Blk w vb 3 #[.int .i64 k]) (hne : v.ownBlock ≠ some vb) :
    Calls Tryz.prog 87 #[v, .int .i64 (i : Int), .slice (some ⟨vb, 0, none⟩) 1 vc] w fun e w' => ∃ v', e = .returned v' ∧ OwnI w' base 3 v' (xs.take i ++ k :: xs.drop i) ∧ w.grownBy w' v.ownBlock ∧ (v'.ownBlock = v.ownBlock ∨ ∃ g, v'.ownBlock = some g ∧ w.heap.size ≤ g) := by
  have hzl : (xs.take i ++ k :: xs.drop i).length = xs.length + 1 := by rw [List.length_append, List.length_cons, List.length_take, List.length_drop]; omega
  have hvs : ∀ (j : Nat) u, ([Value.int .i64 k] : List Value)[j]? = some u → w.cell? ⟨vb, 0 + j, none⟩ = some u := fun j u hj => by
    cases j with
    | zero => rw [hvb.cell]; simpa using hj
    | succ j => simp at hj
  have h1v : ∀ u ∈ ([Value.int .i64 k] : List Value), u.oneCell' = true := fun u hu => by rw [List.mem_singleton] at hu; subst hu; rfl
  have h1c : ∀ u ∈ xs.map (Value.int .i64), u.oneCell' = true := fun u hu => by obtain ⟨x, _, rfl⟩ := List.mem_map.1 hu; rfl
  -- what a new row is
  have hfin : ∀ cs : Array Value, ∀ gc, xs.length + 1 ≤ gc → gc ≤ maxLen → cs.size = gc → (∀ j, j < xs.length + 1 → cs[j]? = some (.int .i64 ((xs.take i ++ k :: xs.drop i)[j]?.getD 0))) → ∀ w', Blk w' w.heap.size 3 cs →
      OwnI w' base 3 (.slice (some ⟨w.heap.size, 0, none⟩) (xs.length + 1) gc) (xs.take i ++ k :: xs.drop i) := fun cs gc h1 h2 h3 h4 w' hb => by
    have := OwnI.ofCells (zs := xs.take i ++ k :: xs.drop i) hbs hb (by omega) h2 h3 (by rw [hzl]; exact h4)
    rwa [hzl] at this
  have hmx : xs.length + 1 ≤ maxLen := by unfold maxLen; omega
  have hrt : insRen.t 3 = 3 := rfl
  have hgr : ∀ o, w.grownBy (w.drew.alloc o) v.ownBlock := fun o => by
    have he := (Ext.drew w).trans (Ext.alloc w.drew o)
    exact ⟨he.os, he.tape, he.output, he.size, fun k hk _ => Below.block he k hk⟩
  have hco : ∀ (c : Array Value) (o : List Int), (∀ j, j < o.length → c[j]? = some (.int .i64 (o[j]?.getD 0))) → ∀ (j : Nat) u, (o.map (Value.int .i64))[j]? = some u → c[j]? = some u := fun c o hc j u hu => by
    rw [List.getElem?_map] at hu
    cases ho : o[j]? with
    | none => rw [ho] at hu; cases hu
    | some x =>
      rw [ho] at hu
      have hj : j < o.length := by rcases Nat.lt_or_ge j o.length with h | h; exact h; rw [List.getElem?_eq_none h] at ho; cases ho
      rw [hc j hj, ho]
      exact hu
  rcases h.2 with ⟨rfl, h0⟩ | ⟨g, cap, cur, rfl, hg, hb, hn, hm, hs, hc⟩
  · have hx0 : xs = [] := List.length_eq_zero_iff.1 h0
    subst hx0
    obtain rfl : i = 0 := by simpa using hi
    refine (Any2.slices_Insert_int_end_grow insLays none 0 0 vb 0 1 vc [] [.int .i64 k] w (by omega) (Nat.le_refl _) (by omega) (by omega) rfl rfl (fun _ => rfl) (fun a h => by cases h) hvs h1v).mono fun e w' ⟨h1, h2⟩ => ?_
    rw [hrt] at h1 h2
    refine ⟨_, h1, ?_, by rw [h2]; exact hgr _, .inr ⟨w.heap.size, rfl, Nat.le_refl _⟩⟩
    subst h2
    have hgc := grownCap_ge w (0 + 1) 0 3
    refine hfin _ _ hgc (grownCap_le_maxLen _ _ _ _ hmx) ?_ ?_ _ (Blk.new _ _ _)
    · simp only [Array.size_append, List.size_toArray, size_zeroCells, List.length_append, List.length_cons, List.length_nil, Value.cells, List.size_toArray]
      omega
    · intro j hj
      obtain rfl : j = 0 := by simp at hj; omega
      rw [Array.getElem?_append_left (by simp)]
      rfl
  · have hcx : ∀ j, j < xs.length → cur[j]? = some (.int .i64 (xs[j]?.getD 0)) := fun j hj => by
      have := congrArg (fun l => l[j]?) hc
      simp only [Nat.mul_one, List.getElem?_take, if_pos hj, List.getElem?_map, Array.getElem?_toList, List.getElem?_eq_getElem hj, Option.map_some] at this
      rw [this, List.getElem?_eq_getElem hj]
      rfl
    have hcw : ∀ (j : Nat) u, (xs.map (Value.int .i64))[j]? = some u → w.cell? ⟨g, 0 + j, none⟩ = some u := fun j u hu => by
      rw [Blk.cell (show Blk w g 3 cur from hb), Nat.zero_add]
      exact hco cur xs hcx j u hu
    have hB : Blk w g 3 cur := hb
    have hs' : cur.size = cap := by omega
    have hvg : vb ≠ g := fun e => hne (by rw [e]; rfl)
    by_cases hroom : xs.length + 1 ≤ cap
    · have hfin2 : ∀ w' cs', Blk w' g 3 cs' → cs'.size = cap → (∀ j, j < xs.length + 1 → cs'[j]? = some (.int .i64 ((xs.take i ++ k :: xs.drop i)[j]?.getD 0))) → OwnI w' base 3 (.slice (some ⟨g, 0, none⟩) (xs.length + 1) cap) (xs.take i ++ k :: xs.drop i) := fun w' cs' h1 h2 h3 => by
        have := OwnI.ofCells (zs := xs.take i ++ k :: xs.drop i) (cap := cap) hg h1 (by omega) hm h2 (by rw [hzl]; exact h3)
        rwa [hzl] at this
      rcases Nat.lt_or_eq_of_le hi with hlt | rfl
      · refine (Any2.slices_Insert_int_shift insLays g 0 xs.length cap i vb 0 1 vc (xs.map (Value.int .i64)) [.int .i64 k] w hlt (by omega) hroom (by unfold maxLen at hm; omega) hvg (by simp) rfl hcw
          (fun j hj => by rw [hB.cell, Array.getElem?_eq_getElem (by omega)]; rfl) (fun j hj => hB.frozen _) hvs h1c h1v 3 3 1 cap (by unfold World.shape?; rw [show w.heap[vb]? = _ from hvb]; rfl) (by unfold World.shape?; rw [hb, ← hs']) (by omega) (hvb.frozen _) (hvb.frozen _)).mono fun e w' ⟨h1, h2⟩ => ?_
        obtain ⟨c1, e1, e2, e3, e4⟩ := Blk.setCells ((xs.map (Value.int .i64)).drop i) (0 + (i + 1)) cur w.drew (hB.ext (Ext.drew w)) (by rw [List.length_drop, List.length_map]; omega)
        obtain ⟨c2, d1, d2, d3, d4⟩ := Blk.setCells [.int .i64 k] (0 + i) c1 _ e1 (by rw [List.length_singleton]; omega)
        obtain ⟨f1, f2, f3, f4, f5⟩ := setCells_same g ((xs.map (Value.int .i64)).drop i) (0 + (i + 1)) w.drew
        obtain ⟨g1, g2, g3, g4, g5⟩ := setCells_same g [.int .i64 k] (0 + i) (w.drew.setCells g (0 + (i + 1)) ((xs.map (Value.int .i64)).drop i))
        rw [← h2] at d1 g1 g2 g3 g4 g5
        refine ⟨_, h1, hfin2 _ _ d1 (by omega) (fun j hj => ?_), ⟨g1.trans f1, g2.trans f2, g3.trans f3, by rw [g4, f4]; exact Nat.le_refl _, fun q hq hq2 => (g5 q fun e => hq2 (by rw [e]; rfl)).trans (f5 q fun e => hq2 (by rw [e]; rfl))⟩, .inl rfl⟩
        rw [insAt xs i hi k j hj]
        rcases Nat.lt_trichotomy j i with h | h | h
        · rw [if_pos h, d3 j (.inl (by omega)), e3 j (.inl (by omega)), hcx j (by omega)]
        · subst h
          rw [if_neg (by omega), if_pos rfl]
          have := d4 0 (by simp)
          rw [show 0 + j + 0 = j by omega] at this
          exact this
        · rw [if_neg (by omega), if_neg (by omega), d3 j (.inr (by rw [List.length_singleton]; omega))]
          have := e4 (j - (i + 1)) (by rw [List.length_drop, List.length_map]; omega)
          rw [show 0 + (i + 1) + (j - (i + 1)) = j by omega] at this
          rw [this, List.getElem?_drop, List.getElem?_map, show i + (j - (i + 1)) = j - 1 by omega, List.getElem?_eq_getElem (by omega)]
          rfl
      · refine (Any2.slices_Insert_int_end_room insLays g 0 xs.length cap vb 0 1 vc [.int .i64 k] w (by omega) hroom (by unfold maxLen at hm; omega) rfl
          (fun j hj => by rw [hB.cell, Array.getElem?_eq_getElem (by omega)]; rfl) (fun j hj => hB.frozen _) hvs h1v).mono fun e w' ⟨h1, h2⟩ => ?_
        obtain ⟨c1, e1, e2, e3, e4⟩ := Blk.setCells [.int .i64 k] (0 + xs.length) cur w hB (by rw [List.length_singleton]; omega)
        obtain ⟨f1, f2, f3, f4, f5⟩ := setCells_same g [.int .i64 k] (0 + xs.length) w
        rw [← h2] at e1 f1 f2 f3 f4 f5
        refine ⟨_, h1, hfin2 _ _ e1 (by omega) (fun j hj => ?_), ⟨f1, f2, f3, by rw [f4]; exact Nat.le_refl _, fun q hq hq2 => f5 q fun e => hq2 (by rw [e]; rfl)⟩, .inl rfl⟩
        rw [insAt xs _ (Nat.le_refl _) k j hj]
        by_cases h : j < xs.length
        · rw [if_pos h, e3 j (.inl (by omega)), hcx j h]
        · obtain rfl : j = xs.length := by omega
          rw [if_neg h, if_pos rfl]
          have := e4 0 (by simp)
          rw [show 0 + xs.length + 0 = xs.length by omega] at this
          exact this
    · rcases Nat.lt_or_eq_of_le hi with hlt | rfl
      · refine (Any2.slices_Insert_int_grow insLays g 0 xs.length cap i vb 0 1 vc (xs.map (Value.int .i64)) [.int .i64 k] w hlt (by omega) hn (by omega) (by omega) (by simp) rfl hcw hvs h1c h1v).mono fun e w' ⟨h1, h2⟩ => ?_
        rw [hrt] at h1 h2
        have hgc := grownCap_ge w (xs.length + 1) cap 3
        have hgm := grownCap_le_maxLen w (xs.length + 1) cap 3 hmx
        obtain ⟨gc, hgce⟩ : ∃ gc, grownCap w (xs.length + 1) cap 3 = gc := ⟨_, rfl⟩
        rw [hgce] at h1 h2 hgc hgm
        obtain ⟨c0, hc0⟩ : ∃ c0, (((xs.map (Value.int .i64)).take i).toArray ++ Builtin.zeroCells (Value.int .i64 0).cells (xs.length + 1 - i) ++ Builtin.zeroCells (Value.int .i64 0).cells (gc - (xs.length + 1))) = c0 := ⟨_, rfl⟩
        have hz0 : c0.size = gc := by
          rw [← hc0]
          simp only [Array.size_append, List.size_toArray, size_zeroCells, List.length_take, List.length_map, Value.cells, List.length_cons, List.length_nil]
          omega
        have hz1 : ∀ j, j < i → c0[j]? = some (.int .i64 (xs[j]?.getD 0)) := fun j hj => by
          rw [← hc0, Array.getElem?_append_left (by simp [size_zeroCells]; omega), Array.getElem?_append_left (by simp; omega)]
          simp [hj, show j < xs.length by omega]
        rw [hc0] at h2
        have hX := Ext.alloc w (.cells c0 3)
        have hB0 := (Blk.new w 3 c0).ext (Ext.drew _)
        obtain ⟨c1, e1, e2, e3, e4⟩ := Blk.setCells [.int .i64 k] i c0 _ hB0 (by rw [List.length_singleton]; omega)
        have e1 := e1.ext (Ext.drew _)
        obtain ⟨c2, d1, d2, d3, d4⟩ := Blk.setCells ((xs.map (Value.int .i64)).drop i) (i + 1) c1 _ e1 (by rw [List.length_drop, List.length_map]; omega)
        obtain ⟨f1, f2, f3, f4, f5⟩ := setCells_same w.heap.size [.int .i64 k] i (w.alloc (.cells c0 3)).drew
        obtain ⟨g1, g2, g3, g4, g5⟩ := setCells_same w.heap.size ((xs.map (Value.int .i64)).drop i) (i + 1) (((w.alloc (.cells c0 3)).drew.setCells w.heap.size i [.int .i64 k]).drew)
        rw [← h2] at d1 g1 g2 g3 g4 g5
        refine ⟨_, h1, hfin _ _ hgc hgm (by omega) (fun j hj => ?_) _ d1, ⟨g1.trans (f1.trans hX.os), g2.trans (f2.trans hX.tape), g3.trans (f3.trans hX.output), by rw [g4]; show _ ≤ (World.setCells _ _ _ _).heap.size; rw [f4]; exact hX.size, fun q hq hq2 => (g5 q (by omega)).trans ((f5 q (by omega)).trans (Below.block hX q hq))⟩, .inr ⟨w.heap.size, rfl, Nat.le_refl _⟩⟩
        rw [insAt xs i hi k j hj]
        rcases Nat.lt_trichotomy j i with h | h | h
        · rw [if_pos h, d3 j (.inl (by omega)), e3 j (.inl (by omega)), hz1 j h]
        · subst h
          rw [if_neg (by omega), if_pos rfl, d3 j (.inl (by omega))]
          exact e4 0 (by simp)
        · rw [if_neg (by omega), if_neg (by omega)]
          have := d4 (j - (i + 1)) (by rw [List.length_drop, List.length_map]; omega)
          rw [show i + 1 + (j - (i + 1)) = j by omega] at this
          rw [this, List.getElem?_drop, List.getElem?_map, show i + (j - (i + 1)) = j - 1 by omega, List.getElem?_eq_getElem (by omega)]
          rfl
      · refine (Any2.slices_Insert_int_end_grow insLays (some ⟨g, 0, none⟩) xs.length cap vb 0 1 vc (xs.map (Value.int .i64)) [.int .i64 k] w (by omega) hn (by omega) (by omega) (by simp) rfl (fun h => by cases h) (fun a ha j u hu => by
          obtain rfl := Option.some.inj ha
          have h := hcw j u hu
          rw [Nat.zero_add] at h
          rcases Nat.eq_zero_or_pos j with rfl | hj
          · simpa [Addr.add] using h
          · simpa [Addr.add, show j ≠ 0 by omega] using h) hvs h1v).mono fun e w' ⟨h1, h2⟩ => ?_
        rw [hrt] at h1 h2
        refine ⟨_, h1, ?_, by rw [h2]; exact hgr _, .inr ⟨w.heap.size, rfl, Nat.le_refl _⟩⟩
        subst h2
        have hgc := grownCap_ge w (xs.length + 1) cap 3
        refine hfin _ _ hgc (grownCap_le_maxLen _ _ _ _ hmx) ?_ ?_ _ (Blk.new _ _ _)
        · simp only [Array.size_append, List.size_toArray, size_zeroCells, List.length_append, List.length_map, List.length_cons, List.length_nil, Value.cells, List.size_toArray]
          omega
        · intro j hj
          rw [insAt xs _ (Nat.le_refl _) k j hj, Array.getElem?_append_left (by simp; omega)]
          by_cases h : j < xs.length
          · rw [if_pos h]; simp [h, List.getElem?_append_left]
          · obtain rfl : j = xs.length := by omega
            rw [if_neg h, if_pos rfl]; simp
end Go.Proofs.Pet
namespace Go.Proofs.Pet
open Go Go.RowKit Go.Maps Go.Shelf Go.Sort
theorem deleteI (base : Nat) (v : Value) (xs : List Int) (w : World) (h : OwnI w base 3 v xs) (hl : xs.length ≤ 100000) (i : Nat) (hi : i < xs.length) :
    Calls Tryz.prog 56 #[v, .int .i64 (i : Int), .int .i64 ((i : Int) + 1)] w fun e w' => ∃ v', e = .returned v' ∧ OwnI w' base 3 v' (xs.take i ++ xs.drop (i + 1)) ∧ v'.ownBlock = v.ownBlock ∧ w.grownBy w' v.ownBlock := by
  rcases h.2 with ⟨rfl, h0⟩ | ⟨g, cap, cur, rfl, hg, hb, hn, hm, hs, hc⟩
  · omega
  · have hc' : cur.toList.take xs.length = xs.map (Value.int .i64) := by rwa [Nat.mul_one] at hc
    have hcall := Tryz.slices_Delete_int g 0 cap i (i + 1) xs w (holds_of_blockI hb hc') hn (by unfold maxLen at hm; omega) (by omega) (by omega)
    have ei : ((i + 1 : Nat) : Int) = (i : Int) + 1 := by omega
    rw [ei] at hcall
    refine hcall.mono fun e w' ⟨h1, q, h2⟩ => ?_
    subst h2
    obtain ⟨ts, hts⟩ : ∃ ts, xs.take i ++ xs.drop (i + 1) ++ List.replicate (i + 1 - i) (0 : Int) = ts := ⟨_, rfl⟩
    have hdl : (xs.take i ++ xs.drop (i + 1)).length = xs.length - 1 := by rw [List.length_append, List.length_take, List.length_drop]; omega
    have hlen : ts.length = xs.length := by rw [← hts, List.length_append, hdl, List.length_replicate]; omega
    have ho : (grow (putRow (Value.int .i64) (Sort.ahead w q) g 0 ts.toArray) #[]).ownsRow base 3 1 (.slice (some ⟨g, 0, none⟩) xs.length cap) xs.length (ts.map (Value.int .i64)) := ownsRow_sortedI hlen hg hb hn hm hs
    rw [hts]
    rw [grow_empty] at ho
    refine ⟨_, h1, ?_, rfl, by have := grownBy_sortedI (w := w) (g := g) (n := q) (os := #[]) ts.toArray; rwa [grow_empty] at this⟩
    rcases ho.2 with ⟨h3, _⟩ | ⟨g', cap', cur', h3, k1, k2, k3, k4, k5, k6⟩
    · cases h3
    · simp only [Value.slice.injEq, Option.some.injEq, Addr.mk.injEq, and_true, true_and] at h3
      obtain ⟨rfl, rfl⟩ := h3
      have e1 : xs.length - (i + 1 - i) = (xs.take i ++ xs.drop (i + 1)).length := by rw [hdl]; omega
      rw [e1]
      refine ⟨by simp, .inr ⟨g, cap, cur', rfl, k1, k2, by omega, k4, k5, ?_⟩⟩
      rw [Nat.mul_one] at k6 ⊢
      have : cur'.toList.take (xs.take i ++ xs.drop (i + 1)).length = (cur'.toList.take xs.length).take (xs.take i ++ xs.drop (i + 1)).length := by rw [List.take_take, Nat.min_eq_left (by omega)]
      rw [this, k6, ← hts, List.map_append, List.take_append_of_le_length (by simp), List.take_of_length_le (by simp)]
end Go.Proofs.Pet
