/-
  law5.given, walked: rows of orders, drawn.
-/
import Derived.Test.YtfglamdbnclcaaaGreatZJ2
import Derived.Test.YtfglamdbnclcaaaGreatO3
import Derived.Test.YtfglamdbnclcaaaGreatR2
import Derived.Test.YtfglamdbnclcaaaGreatV5
namespace Go.Proofs.Pet
set_option linter.unusedSimpArgs false
open Go Go.RowKit Go.Maps Go.Shelf

/-- rows in a block of the call's own, each with a block of its own -/
def RowsIn (w : World) (base P L : Nat) (X : Nat → List Int) : Prop :=
  ∃ cs : Array Value, Blk w P 22 cs ∧ cs.size = L ∧ (∀ l, l < L → ∃ u, cs[l]? = some u ∧ OwnI w base 3 u (X l)) ∧
    ∀ i j u v, i < L → j < L → i ≠ j → cs[i]? = some u → cs[j]? = some v → ∀ g, u.ownBlock = some g → v.ownBlock ≠ some g
theorem RowsIn.apart {w w' : World} {base P L Q : Nat} {X : Nat → List Int} (h : RowsIn w base P L X) (hQ : Q < base) (hP : P ≠ Q) (ha : Apart Q w w') : RowsIn w' base P L X := by
  obtain ⟨cs, h1, h2, h3, h4⟩ := h
  exact ⟨cs, h1.apart hP ha, h2, fun l hl => by obtain ⟨u, g1, g2⟩ := h3 l hl; exact ⟨u, g1, g2.apartB hQ ha⟩, h4⟩
theorem RowsIn.rows {w : World} {base P L : Nat} {X : Nat → List Int} (h : RowsIn w base P L X) (hm : L ≤ maxLen) : RowsI w (.slice (some ⟨P, 0, none⟩) L L) ((List.range L).map X) := by
  obtain ⟨cs, h1, h2, h3, h4⟩ := h
  refine RowsI.at_.2 ⟨some ⟨P, 0, none⟩, L, by rw [List.length_map, List.length_range], by rw [List.length_map, List.length_range]; exact Nat.le_refl _, hm, fun l hl => ?_⟩
  rw [List.length_map, List.length_range] at hl
  obtain ⟨u, g1, g2⟩ := h3 l hl
  refine ⟨P, 0, u, rfl, by rw [Nat.zero_add, h1.cell]; exact g1, ?_⟩
  rw [List.getElem?_map, List.getElem?_range hl]
  exact g2.sl
theorem OwnI.keptBy {w w' : World} {base : Nat} {u : Value} {row : Option Nat} {xs : List Int} (h : OwnI w base 3 u xs) (hg : w.grownBy w' row) (hne : ∀ g, u.ownBlock = some g → row ≠ some g) : OwnI w' base 3 u xs :=
  World.ownsRow.kept h hg (by
    cases e : u.ownBlock with
    | none => exact .inl rfl
    | some g => exact .inr fun e2 => hne g e e2.symm)
theorem RowsIn.put {w w' : World} {base P L l : Nat} {X : Nat → List Int} {u v' : Value} {zs : List Int} (h : RowsIn w base P L X) (hl : l < L) (hu : w.cell? ⟨P, l, none⟩ = some u) (ho : OwnI w' base 3 v' zs) (hg : w.grownBy w' u.ownBlock)
    (hblk : v'.ownBlock = u.ownBlock ∨ ∃ g, v'.ownBlock = some g ∧ w.heap.size ≤ g) :
    w'.cell? ⟨P, l, none⟩ = some u ∧ w'.frozen? ⟨P, l, none⟩ = false ∧ RowsIn (w'.setCell ⟨P, l, none⟩ v') base P L (fun j => if j = l then zs else X j) := by
  obtain ⟨cs, h1, h2, h3, h4⟩ := h
  have hui : cs[l]? = some u := by rw [← h1.cell]; exact hu
  have hou : OwnI w base 3 u (X l) := by
    obtain ⟨u', g1, g2⟩ := h3 l hl
    rw [hui] at g1
    cases g1
    exact g2
  have h1' := h1.grown hg (hou.ne_blk h1 (by decide))
  have hlt : ∀ j x, j < L → cs[j]? = some x → ∀ g, x.ownBlock = some g → g < w.heap.size := fun j x hj hx g he => by
    obtain ⟨y, g1, g2⟩ := h3 j hj
    rw [hx] at g1
    cases g1
    exact (g2.own_lt g he).2
  refine ⟨by rw [h1'.cell, hui], h1'.frozen l, cs.setIfInBounds l v', h1'.set_ l v', by simpa using h2, fun j hj => ?_, ?_⟩
  · by_cases e : j = l
    · subst e
      refine ⟨v', by rw [Array.getElem?_setIfInBounds, if_pos rfl, if_pos (by omega)], ?_⟩
      simp only [if_pos]
      exact ho.far h1' (by decide) _ _
    · obtain ⟨x, g1, g2⟩ := h3 j hj
      refine ⟨x, by rw [Array.getElem?_setIfInBounds, if_neg (fun h => e h.symm)]; exact g1, ?_⟩
      simp only [if_neg e]
      exact (g2.keptBy hg fun g hg' he => h4 j l x u hj hl e g1 hui g hg' he).far h1' (by decide) _ _
  · intro j k x y hj hk hne hx hy g hg1 hg2
    rw [Array.getElem?_setIfInBounds] at hx hy
    by_cases e1 : l = j
    · subst e1
      rw [if_pos rfl, if_pos (by omega)] at hx
      rw [if_neg hne] at hy
      cases hx
      rcases hblk with hb | ⟨g', hb, hge⟩
      · rw [hb] at hg1
        exact h4 l k u y hj hk hne hui hy g hg1 hg2
      · rw [hb] at hg1
        cases hg1
        have := hlt k y hk hy _ hg2
        omega
    · rw [if_neg e1] at hx
      by_cases e2 : l = k
      · subst e2
        rw [if_pos rfl, if_pos (by omega)] at hy
        cases hy
        rcases hblk with hb | ⟨g', hb, hge⟩
        · rw [hb] at hg2
          exact h4 j l x u hj hk hne hx hui g hg1 hg2
        · rw [hb] at hg2
          cases hg2
          have := hlt j x hj hx _ hg1
          omega
      · rw [if_neg e2] at hy
        exact h4 j k x y hj hk hne hx hy g hg1 hg2
/-- what given's rows are: each of the numbers of a list is in one of them, at a loom that weaves it -/
structure GivenOk (m : Mill) (ys : List Int) (X : Nat → List Int) : Prop where
  rng : ∀ l x, x ∈ X l → 0 ≤ x ∧ x < m.orders.length
  on : ∀ l x, x ∈ X l → weavesI m l x = true
  perm : ((List.range m.laced.length).map X).flatten.Perm ys
theorem flat_upd {α : Type} (X Y : Nat → List α) (k : α) (l : Nat) (hY : ∀ j, j ≠ l → Y j = X j) (hl : (Y l).Perm (X l ++ [k])) : ∀ n, l < n → ((List.range n).map Y).flatten.Perm (((List.range n).map X).flatten ++ [k])
  | 0, h => absurd h (by omega)
  | n + 1, h => by
    rw [List.range_succ, List.map_append, List.flatten_append, List.map_append, List.flatten_append, List.map_singleton, List.map_singleton]
    simp only [List.flatten_cons, List.flatten_nil, List.append_nil]
    by_cases e : l = n
    · subst e
      have h1 : (List.range l).map Y = (List.range l).map X := List.map_congr_left fun j hj => hY j (by have := List.mem_range.1 hj; omega)
      rw [h1, List.append_assoc]
      exact List.Perm.append_left _ hl
    · have ih := flat_upd X Y k l hY hl n (by omega)
      rw [hY n (fun h => e h.symm)]
      refine (ih.append_right _).trans ?_
      rw [List.append_assoc, List.append_assoc]
      exact List.Perm.append_left _ List.perm_append_comm
theorem GivenOk.nil (m : Mill) : GivenOk m [] fun _ => [] := by
  refine ⟨fun _ x h => by simp at h, fun _ x h => by simp at h, ?_⟩
  have : ((List.range m.laced.length).map fun _ : Nat => ([] : List Int)).flatten = [] := by
    rw [List.flatten_eq_nil_iff]
    intro l hl
    obtain ⟨_, _, rfl⟩ := List.mem_map.1 hl
    rfl
  rw [this]
theorem flat_len_le {α : Type} (X : Nat → List α) {l : Nat} : ∀ {n : Nat}, l < n → (X l).length ≤ ((List.range n).map X).flatten.length
  | 0, h => absurd h (by omega)
  | n + 1, h => by
    rw [List.range_succ, List.map_append, List.flatten_append, List.length_append]
    by_cases e : l = n
    · subst e; simp
    · have := flat_len_le X (l := l) (n := n) (by omega)
      omega
theorem GivenOk.len {m : Mill} {ys : List Int} {X : Nat → List Int} (h : GivenOk m ys X) {l : Nat} (hl : l < m.laced.length) : (X l).length ≤ ys.length := by
  rw [← h.perm.length_eq]
  exact flat_len_le X hl
theorem GivenOk.put {m : Mill} {ys : List Int} {X : Nat → List Int} {l i : Nat} {k : Int} (h : GivenOk m ys X) (hl : l < m.laced.length) (hk : 0 ≤ k ∧ k < m.orders.length) (hw : weavesI m l k = true) : GivenOk m (ys ++ [k]) (fun l' => if l' = l then (X l).take i ++ k :: (X l).drop i else X l') := by
  have hmem : ∀ l' x, x ∈ (if l' = l then (X l).take i ++ k :: (X l).drop i else X l') → (l' = l ∧ x = k) ∨ x ∈ X l' := fun l' x hx => by
    by_cases e : l' = l
    · subst e
      rw [if_pos rfl] at hx
      rcases List.mem_append.1 hx with hx | hx
      · exact .inr (List.mem_of_mem_take hx)
      · rcases List.mem_cons.1 hx with rfl | hx
        · exact .inl ⟨rfl, rfl⟩
        · exact .inr (List.mem_of_mem_drop hx)
    · rw [if_neg e] at hx; exact .inr hx
  refine ⟨fun l' x hx => ?_, fun l' x hx => ?_, ?_⟩
  · rcases hmem l' x hx with ⟨rfl, rfl⟩ | h1
    · exact hk
    · exact h.rng l' x h1
  · rcases hmem l' x hx with ⟨rfl, rfl⟩ | h1
    · exact hw
    · exact h.on l' x h1
  · refine (flat_upd X _ k l (fun j hj => if_neg hj) ?_ _ hl).trans (h.perm.append_right _)
    simp only [if_pos]
    refine List.perm_middle.trans ?_
    rw [List.take_append_drop]
    exact (List.perm_append_singleton k (X l)).symm
set_option maxRecDepth 100000 in
set_option maxHeartbeats 4000000 in
theorem given5_any (Q k : Nat) (hk : k ≤ 900) (v : Value) (m : Mill) (hok : MillOk m) (w0 w : World) (hv : MillVal w0 v m) (he0 : Ext w0 w) (hQ0 : w0.heap.size ≤ Q) (hs : SpoolAt w Q k) :
    Calls Tryz.prog 30 #[.pointer (some ⟨Q, 0, none⟩), v] w fun e w' => ∃ r X, e = .returned r ∧ RowsI w' r ((List.range m.laced.length).map X) ∧ GivenOk m (ints (List.range m.orders.length)) X ∧ SpoolAt w' Q (k + 3 * m.orders.length) ∧ Apart Q w w' := by
  have Hv := Lib.hid hv
  have Hok := Lib.hid hok
  obtain ⟨l1, l2, l3⟩ := check_len ((check_iff m).2 hok)
  obtain ⟨ti, hi, hz0, hz1, hz2⟩ := info_parts info_slI
  obtain ⟨A1, c1, A2, c2, rfl, q1, q2, q3, q4, q5, q6⟩ := hv
  have H6 := Lib.hid q6
  clear q1 q2 q3 q4 q5 q6 hok
  have hmk : ∀ W : World, (Instr.makeSlice 29 (.int .i64 (m.laced.length : Int)) (.int .i64 (m.laced.length : Int))).run Tryz.prog W = .ok (.slice (some ⟨W.heap.size, 0, none⟩) m.laced.length m.laced.length) (W.alloc (.cells (madeCells #[.slice none 0 0] m.laced.length) 22)) := by
    intro W
    have := run_make (P := Tryz.prog) W 29 22 ti _ Tryz.underlying29 hi hz0 .i64 .i64 m.laced.length m.laced.length (by omega) (by omega) (by rw [hz2]; omega) (by omega)
    simpa [hz1, Value.cells] using this
  have hM := Blk.new w 25 #[.slice A1 m.laced.length c1, .int .i64 m.change, .slice A2 m.orders.length c2]
  have hX := Ext.alloc w (.cells #[.slice A1 m.laced.length c1, .int .i64 m.change, .slice A2 m.orders.length c2] 25)
  obtain ⟨k0, k1, k2⟩ := hM.c3
  go_enter Tryz.func30, Tryz.ntmps30
  go_upto_region 2 with fail
  obtain ⟨M, hMe⟩ : ∃ M, w.heap.size = M := ⟨_, rfl⟩
  have hP := Blk.new (w.alloc (.cells #[.slice A1 m.laced.length c1, .int .i64 m.change, .slice A2 m.orders.length c2] 25)) 22 (madeCells #[.slice none 0 0] m.laced.length)
  have hX2 := hX.trans (Ext.alloc _ (.cells (madeCells #[.slice none 0 0] m.laced.length) 22))
  have hM2 := hM.ext (Ext.alloc _ (.cells (madeCells #[.slice none 0 0] m.laced.length) 22))
  have hsz : (w.alloc (.cells #[.slice A1 m.laced.length c1, .int .i64 m.change, .slice A2 m.orders.length c2] 25)).heap.size = w.heap.size + 1 := World.size_alloc ..
  rw [hsz] at hP
  have hsQ := hs.ext hX2
  have hQl := hs.lt
  clear hM hX k0 k1 k2
  rw [hMe] at hP hM2 hQl ⊢
  have hsz2 : ((w.alloc (.cells #[.slice A1 m.laced.length c1, .int .i64 m.change, .slice A2 m.orders.length c2] 25)).alloc (.cells (madeCells #[.slice none 0 0] m.laced.length) 22)).heap.size = M + 2 := by rw [World.size_alloc, hsz, hMe]
  generalize World.alloc _ _ = W2 at *
  have hor := Lib.hid (orderS_any Q k (by omega) m.orders.length (by omega) W2 hsQ)
  obtain ⟨k0, k1, k2⟩ := hM2.c3
  go_wp2_with fail
  refine hor.out.mono ?_
  rintro e w3 ⟨S, f, rfl, hS, hrow, hperm, hs3, ha3⟩
  rw [hsz2] at hS
  clear hsz2
  have hcs : Hid (RowsIn w3 (S + 1) (M + 1) m.laced.length fun _ => []) := by
    have e : madeCells #[Value.slice none 0 0] m.laced.length = Array.replicate m.laced.length (.slice none 0 0) := by
      apply Array.toList_inj.1
      simp [madeCells, Nat.mod_one, List.map_const']
    rw [e] at hP
    refine RowsIn.apart ⟨_, hP, by simp, fun l hl => ⟨.slice none 0 0, ?_, OwnI.nil _ _ _⟩, fun i j u v' hi' hj' hne hu hv' g hg => ?_⟩ (by omega) (by omega) ha3
    · rw [Array.getElem?_replicate, if_pos hl]
    · rw [Array.getElem?_replicate, if_pos hi'] at hu
      cases hu
      cases hg
  have hM3 := hM2.apart (by omega : M ≠ Q) ha3
  have ha := (Apart.of_ext (b := Q) hX2).trans ha3
  have hmem : Hid (∀ j, j < m.orders.length → ∃ p : Nat, f j = (p : Int) ∧ p < m.orders.length) := fun j hj => by
    have h1 : f j ∈ lst f m.orders.length := by unfold lst; exact List.mem_map.2 ⟨j, List.mem_range.2 hj, rfl⟩
    obtain ⟨p, hp, e⟩ := ints_mem.1 (hperm.mem_iff.1 h1)
    exact ⟨p, e.symm, List.mem_range.1 hp⟩
  have hSQ : S ≠ Q := by have := hsQ.lt; omega
  have hperm := Lib.hid hperm
  clear hmk hor hP hM2 hX2 hsQ k0 k1 k2 ha3
  go_wp2_with fail
  go_loopw [7, 8, 9, 20] (fun _ _ _ iv wr => ∃ (j : Nat) (X : Nat → List Int), j ≤ m.orders.length ∧ iv = .int .i64 j ∧ Hid (GivenOk m (lst f j) X) ∧ Hid (RowsIn wr (S + 1) (M + 1) m.laced.length X) ∧ SpoolAt wr Q (k + m.orders.length + 2 * j) ∧ Apart Q w wr ∧ Blk wr M 25 #[.slice A1 m.laced.length c1, .int .i64 m.change, .slice A2 m.orders.length c2] ∧ Row wr S m.orders.length f) (fun _ _ _ iv _ => m.orders.length - (intOf iv).toNat)
  case atStart => exact ⟨0, _, by omega, rfl, GivenOk.nil m, hcs, hs3, ha, hM3, hrow⟩
  case round =>
    clear hcs hs3 ha hM3 hrow
    obtain ⟨j, X, hj, rfl, hX, hR, hsp, hap, hM, hS⟩ := hrel
    by_cases hlt : j < m.orders.length
    · obtain ⟨p, hfp, hp⟩ := hmem.out j hlt
      have hHf := Lib.hid hfp
      have heo := Apart.ext_of he0 hQ0 hap
      obtain ⟨b3, o3, rfl, A', ca', hca', z1, z2, z3, z4, z5⟩ := H6.out p hp
      have g1 := hS.cell hlt
      rw [hfp] at g1
      have hoo := Hok.out.ords (m.orders[p]?.getD default) (by rw [List.getElem?_eq_getElem hp]; exact List.getElem_mem hp)
      have hone := hoo.ne
      have hond := hoo.on
      have hlen := rising_len hoo.up hoo.on
      obtain ⟨on, hon⟩ : ∃ on, (m.orders[p]?.getD default).on = on := ⟨_, rfl⟩
      have hHon := Lib.hid hon
      rw [hon] at hca' z4 z5 hone hond hlen
      have hL : 1 ≤ on.length := by cases on with | nil => exact absurd rfl hone | cons a l => simp
      have hca2 := hca'.1
      unfold maxLen at hca'
      have z4 := heo.cell z4
      have Hz5 := Lib.hid z5; have Hond := Lib.hid hond
      have hup := Lib.hid (upto_any Q _ (by omega) ((on.length : Int) - 1) (by omega) ((on.length : Int) - 1) (by omega) wr hsp)
      clear hoo hone hond hon z1 z2 z3 z5 hfp
      obtain ⟨k0, k1, k2⟩ := hM.c3
      go_wp2_with fail
      refine hup.out.mono ?_
      rintro e w5 ⟨r, rfl, hr1, hr2, hs5, ha5⟩
      obtain ⟨rn, rfl⟩ : ∃ rn : Nat, r = (rn : Int) := ⟨r.toNat, by omega⟩
      have hrl : rn < on.length := by omega
      have heo5 := Apart.ext_of he0 hQ0 (hap.trans ha5)
      have hM5 := hM.apart (by omega : M ≠ Q) ha5
      have hS5 := hS.apart hSQ ha5
      have hR5 := Lib.hid (hR.out.apart (by omega) (by omega) ha5)
      obtain ⟨bo, oo, rfl, gon⟩ := Hz5.out.ext heo5 rn hrl
      have hmo : on[rn]?.getD 0 ∈ on := by rw [List.getElem?_eq_getElem hrl]; exact List.getElem_mem hrl
      obtain ⟨l, hl⟩ : ∃ l : Nat, on[rn]?.getD 0 = (l : Int) := ⟨(on[rn]?.getD 0).toNat, by have := Hond.out _ hmo; omega⟩
      have hll : l < m.laced.length := by have := Hond.out _ hmo; omega
      have hwv : Hid (weavesI m l (p : Int) = true) := by
        unfold Hid weavesI
        rw [hl] at hmo
        rw [Int.toNat_natCast, hHon.out, List.contains_iff_mem]
        exact hmo
      rw [hl] at gon
      have hap5 := hap.trans ha5
      clear hmo hl hup hM hS hR hsp hap ha5 heo k0 k1 k2 z4 g1 hHon
      obtain ⟨k0, k1, k2⟩ := hM5.c3
      go_upto_region 7 with fail
      have hRW : Hid (∀ W, Apart Q w5 W → RowsIn W (S + 1) (M + 1) m.laced.length X) := fun W ha => hR5.out.apart (by omega) (by omega) ha
      obtain ⟨u, hu, hus⟩ : ∃ u, w5.cell? ⟨M + 1, l, none⟩ = some u ∧ OwnI w5 (S + 1) 3 u (X l) := by
        obtain ⟨cs, q1, q2, q3, q4⟩ := hR5.out
        obtain ⟨u, q5, q6⟩ := q3 l hll
        exact ⟨u, by rw [q1.cell]; exact q5, q6⟩
      obtain ⟨Ar, cr, rfl⟩ := ownsRow_slice hus
      have hus' : OwnI w5 (S + 1) 3 (.slice Ar (X l).length cr) (X l) := hus
      have hlt5 : ∀ b, (Value.slice Ar (X l).length cr).ownBlock = some b → b < w5.heap.size := fun b hb => (hus'.own_lt b hb).2
      have hown : Hid (∀ W, Apart Q w5 W → OwnI W (S + 1) 3 (.slice Ar (X l).length cr) (X l) ∧ W.cell? ⟨M + 1, l, none⟩ = some (.slice Ar (X l).length cr)) := fun W ha => by
        obtain ⟨cs, q1, q2, q3, q4⟩ := hR5.out
        refine ⟨hus'.apartB (by omega) ha, ?_⟩
        rw [(q1.apart (by omega) ha).cell, ← q1.cell]; exact hu
      have hlX : (X l).length ≤ j := by have := hX.out.len hll; rwa [lst_len] at this
      have Hlt5 := Lib.hid hlt5
      clear hu hus hus' hlt5
      refine wp_region_treeG (Apart Q w5) (Apart.of_ext (Ext.drew _)) 16 [(12, true), (14, true), (15, false)] [0, 1] (by kernel_rfl) (by kernel_rfl) (by kernel_rfl) (ds := [0, 1, 2, 3, 4, 5, 6, 7, 8, 9, 10, 11, 13]) (by kernel_rfl) ?_
      simp only [List.take, List.drop, fill, Act.put, List.setIfInBounds_toArray, List.set_cons_zero, List.set_cons_succ, Nat.reduceAdd]
      repeat (first
        | (apply Unlock.float rfl
           · intro x W he hd K Qr hK
             try (have he := he (by decide); have hcW := (hown.out _ he).2)
             try simp only [edges, DepsE, List.filter_cons, List.filter_nil, Region.binds, if_true, and_true, true_and, upd, Nat.reduceEqDiff, if_false] at hd
             try simp only [hd] at hK ⊢
             have HK := Lib.hid hK; clear hK
             go_wp2_with fail
             exact HK.out))
      refine Unlock.nil ?_
      intro W he hG
      have hsW := hs5.ext he
      refine Tree.cut (f' := 1) (rem' := [(15, false)]) (fun y y' W6 => ∃ (i vb vc : Nat), i ≤ (X l).length ∧ y' = upd (upd y 12 (.int .i64 (i : Int))) 14 (.slice (some ⟨vb, 0, none⟩) 1 vc) ∧ SpoolAt W6 Q (k + m.orders.length + 2 * j + 1 + 1) ∧ Apart Q w5 W6 ∧ w5.heap.size ≤ vb ∧ Blk W6 vb 3 #[.int .i64 (p : Int)]) ?_ ?_
      · rintro y' W6 ⟨i, vb, vc, hi2, rfl, hs6, ha6, hvl, hvb⟩
        clear hsW hG he
        refine Tree.next (ks := [(15, false)]) (by kernel_rfl) ?_
        refine TSteps.cons _ rfl ?_ trivial
        intro x hd K Qr hK
        try simp only [edges, DepsE, List.filter_cons, List.filter_nil, Region.binds, if_true, and_true, true_and, upd, Nat.reduceEqDiff, if_false] at hd
        try simp only [hd] at hK ⊢
        clear hd
        have HK := Lib.hid hK; clear hK
        obtain ⟨q6, q7⟩ := hown.out W6 ha6
        have hins := Lib.hid (insertI (S + 1) _ (X l) W6 q6 (by have := ha6.size; have := hS5.lt; omega) (by omega) i hi2 (p : Int) vb vc hvb (fun e => by have := Hlt5.out vb e; omega))
        have Q7 := Lib.hid q7; have Q6 := Lib.hid q6
        clear q6 q7 hvb
        go_wp2_with fail
        refine hins.out.mono ?_
        rintro e W7 ⟨v', rfl, ho7, hg7, hb7⟩
        obtain ⟨zs, hzs⟩ : ∃ zs, (X l).take i ++ (p : Int) :: (X l).drop i = zs := ⟨_, rfl⟩
        have Hzs := Lib.hid hzs
        rw [hzs] at ho7
        obtain ⟨Av, cv, rfl⟩ := ownsRow_slice ho7
        clear hzs
        have T := Lib.hid ((hRW.out W6 ha6).put hll Q7.out ho7 hg7 hb7)
        have hge : ∀ b, (Value.slice Ar (X l).length cr).ownBlock = some b → S + 1 ≤ b := fun b hb => (Q6.out.own_lt b hb).1
        have hs7 := hs6.grown hg7 (fun b hb => by have := hge b hb; omega)
        have ha7 := (hap5.trans ha6).grown hg7 (fun b hb => by have := hge b hb; omega)
        have hM7 := (hM5.apart (by omega : M ≠ Q) ha6).grown hg7 (fun e => by have := hge M e.symm; omega)
        have hS7 : Row W7 S m.orders.length f := by
          obtain ⟨cs, r1, r2⟩ := hS5.apart hSQ ha6
          exact ⟨cs, r1.grown hg7 (fun e => by have := hge S e.symm; omega), r2⟩
        clear hins ho7 hb7 hg7 hge hs6
        go_wp2_with fail
        refine HK.out _ _ (fun h => by cases h) ?_
        refine Unlock.of (ds := []) (by kernel_rfl) ?_
        repeat (first
          | (apply Unlock.float rfl
             · intro x W he hd K Qr hK
               try (have he := he (by decide))
               try simp only [edges, DepsE, List.filter_cons, List.filter_nil, Region.binds, if_true, and_true, true_and, upd, Nat.reduceEqDiff, if_false] at hd
               try simp only [hd] at hK ⊢
               have HK := Lib.hid hK; clear hK
               go_wp2_with fail
               exact HK.out))
        refine Unlock.nil ?_
        refine Tree.nil (by kernel_rfl) ?_
        simp only [upd, Nat.reduceEqDiff, if_false, if_true]
        obtain ⟨t1, t2, t3⟩ := T.out
        have T3 := Lib.hid t3
        clear t3 T
        go_wp2_with fail
        go_roundw
        case rel =>
          refine ⟨j + 1, _, by omega, by go_num, by have h9 := hX.out.put (l := l) (k := (p : Int)) (i := i) hll ⟨by omega, by omega⟩ hwv.out; rw [Hzs.out] at h9; unfold Hid; rw [lst_succ, hHf.out]; exact h9, T3.out, ?_, ?_, ?_, ?_⟩
          · exact (hs7.apart (g := M + 1) (by omega) ((Apart.refl _ _).set_ _ _)).mono (by omega)
          · exact ha7.above (by show _ ≤ M + 1; omega) _
          · exact hM7.far (by show M ≠ M + 1; omega) _
          · exact hS7.far (by show S ≠ M + 1; omega) _
        case measure => simp [intOf]; omega
      · intro hcut
        have Hcut := Lib.hid hcut
        clear hcut
        refine Tree.next (ks := [(12, true), (14, true)]) (by kernel_rfl) ?_
        refine TSteps.cons _ rfl ?_ (TSteps.cons _ rfl ?_ trivial)
        · intro x hd K Qr hK
          try simp only [edges, DepsE, List.filter_cons, List.filter_nil, Region.binds, if_true, and_true, true_and, upd, Nat.reduceEqDiff, if_false] at hd
          try simp only [hd] at hK ⊢
          clear hd
          have HK := Lib.hid hK; clear hK
          have hup := Lib.hid (upto_any Q _ (by omega) ((X l).length : Int) (by omega) ((X l).length : Int) (by omega) W hsW)
          go_wp2_with fail
          refine hup.out.mono ?_
          rintro e W5 ⟨r, rfl, hr1, hr2, hs6, ha5⟩
          obtain ⟨i, rfl⟩ : ∃ i : Nat, r = (i : Int) := ⟨r.toNat, by omega⟩
          have hi2 : i ≤ (X l).length := by omega
          replace ha5 := hG.trans ha5
          clear hup hsW hr1 hr2
          go_wp2_with fail
          refine HK.out _ _ (fun _ => ha5) ?_
          refine Unlock.of (ds := []) (by kernel_rfl) ?_
          repeat (first
            | (apply Unlock.float rfl
               · intro x W he hd K Qr hK
                 try (have he := he (by decide))
                 try simp only [edges, DepsE, List.filter_cons, List.filter_nil, Region.binds, if_true, and_true, true_and, upd, Nat.reduceEqDiff, if_false] at hd
                 try simp only [hd] at hK ⊢
                 have HK := Lib.hid hK; clear hK
                 go_wp2_with fail
                 exact HK.out))
          refine Unlock.nil ?_
          clear HK
          refine Tree.next (ks := [(14, true)]) (by kernel_rfl) ?_
          refine TSteps.cons _ rfl ?_ trivial
          intro x hd K Qr hK
          try simp only [edges, DepsE, List.filter_cons, List.filter_nil, Region.binds, if_true, and_true, true_and, upd, Nat.reduceEqDiff, if_false] at hd
          try simp only [hd] at hK ⊢
          clear hd
          have HK := Lib.hid hK; clear hK
          go_wp2_with fail
          have hX5 := Ext.alloc W5 (.cells #[.int .i64 (p : Int)] 3)
          have ha6 := ha5.trans (Apart.of_ext hX5)
          refine HK.out _ _ (fun _ => ha6) ?_
          refine Unlock.of (ds := []) (by kernel_rfl) ?_
          repeat (first
            | (apply Unlock.float rfl
               · intro x W he hd K Qr hK
                 try (have he := he (by decide))
                 try simp only [edges, DepsE, List.filter_cons, List.filter_nil, Region.binds, if_true, and_true, true_and, upd, Nat.reduceEqDiff, if_false] at hd
                 try simp only [hd] at hK ⊢
                 have HK := Lib.hid hK; clear hK
                 go_wp2_with fail
                 exact HK.out))
          refine Unlock.nil ?_
          exact Tree.eq (by kernel_rfl) (Hcut.out _ _ ⟨i, _, _, hi2, rfl, hs6.ext hX5, ha6, ha5.size, Blk.new _ _ _⟩)
        · intro x hd K Qr hK
          try simp only [edges, DepsE, List.filter_cons, List.filter_nil, Region.binds, if_true, and_true, true_and, upd, Nat.reduceEqDiff, if_false] at hd
          try simp only [hd] at hK ⊢
          clear hd
          have HK := Lib.hid hK; clear hK
          go_wp2_with fail
          have hX5 := Ext.alloc W (.cells #[.int .i64 (p : Int)] 3)
          have ha5 := hG.trans (Apart.of_ext hX5)
          have hvb := Blk.new W 3 #[.int .i64 (p : Int)]
          have hvl := hG.size
          have hvl2 := hvb.lt
          have hsW2 := hsW.ext hX5
          have hQW := hsW.lt
          refine HK.out _ _ (fun _ => ha5) ?_
          refine Unlock.of (ds := []) (by kernel_rfl) ?_
          repeat (first
            | (apply Unlock.float rfl
               · intro x W he hd K Qr hK
                 try (have he := he (by decide))
                 try simp only [edges, DepsE, List.filter_cons, List.filter_nil, Region.binds, if_true, and_true, true_and, upd, Nat.reduceEqDiff, if_false] at hd
                 try simp only [hd] at hK ⊢
                 have HK := Lib.hid hK; clear hK
                 go_wp2_with fail
                 exact HK.out))
          refine Unlock.nil ?_
          obtain ⟨vb, hvbe⟩ : ∃ vb, W.heap.size = vb := ⟨_, rfl⟩
          rw [hvbe] at hvb hvl hvl2 hQW ⊢
          generalize W.alloc _ = W4 at *
          clear HK hsW hX5 hvbe
          refine Tree.next (ks := [(12, true)]) (by kernel_rfl) ?_
          refine TSteps.cons _ rfl ?_ trivial
          intro x hd K Qr hK
          try simp only [edges, DepsE, List.filter_cons, List.filter_nil, Region.binds, if_true, and_true, true_and, upd, Nat.reduceEqDiff, if_false] at hd
          try simp only [hd] at hK ⊢
          clear hd
          have HK := Lib.hid hK; clear hK
          have hup := Lib.hid (upto_any Q _ (by omega) ((X l).length : Int) (by omega) ((X l).length : Int) (by omega) W4 hsW2)
          go_wp2_with fail
          refine hup.out.mono ?_
          rintro e W5 ⟨r, rfl, hr1, hr2, hs6, ha6⟩
          obtain ⟨i, rfl⟩ : ∃ i : Nat, r = (i : Int) := ⟨r.toNat, by omega⟩
          have hi2 : i ≤ (X l).length := by omega
          go_wp2_with fail
          refine HK.out _ _ (fun _ => ha5.trans ha6) ?_
          refine Unlock.of (ds := []) (by kernel_rfl) ?_
          repeat (first
            | (apply Unlock.float rfl
               · intro x W he hd K Qr hK
                 try (have he := he (by decide))
                 try simp only [edges, DepsE, List.filter_cons, List.filter_nil, Region.binds, if_true, and_true, true_and, upd, Nat.reduceEqDiff, if_false] at hd
                 try simp only [hd] at hK ⊢
                 have HK := Lib.hid hK; clear hK
                 go_wp2_with fail
                 exact HK.out))
          refine Unlock.nil ?_
          exact Tree.eq (by kernel_rfl) (Hcut.out _ _ ⟨i, vb, _, hi2, upd_comm (by decide), hs6, ha5.trans ha6, hvl, hvb.apart (by omega) ha6⟩)
    · obtain rfl : j = m.orders.length := by omega
      go_wp2_with fail
      go_ret
      exact ⟨_, X, rfl, hR.out.rows (by unfold maxLen; omega), ⟨hX.out.rng, hX.out.on, hX.out.perm.trans hperm.out⟩, hsp.mono (by omega), hap⟩
end Go.Proofs.Pet
