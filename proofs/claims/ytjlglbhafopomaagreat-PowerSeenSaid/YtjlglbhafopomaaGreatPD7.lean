/-
  slices.ContainsFunc at [][]int, slices.Clone at []power.Sight; PowerSeen walked.
-/
import Derived.Test.YtjlglbhafopomaaGreatPD6
namespace Go.Proofs.Pet
set_option linter.unusedSimpArgs false
open Go Go.RowKit Go.Maps Go.Shelf
open Go.Proofs.Pow (PM Sh Wv POk Up sightF explB hitL clrB clashB)

set_option maxHeartbeats 400000 in
theorem indexFuncR (g : Nat) (fs lb : Array Value) (eg : Enters Tryz.prog g) (p : List Int → Bool) (A : Option Addr) (c n : Nat) (xss : List (List Int)) (hn : xss.length = n) (w : World) (hb : n ≤ 1000)
    (hx : RowsI w (.slice A n c) xss) (hp : ∀ x ∈ xss, Tells Tryz.prog w g fs lb (fun W v l => SlI W v l) x (p x)) :
    Calls Tryz.prog 104 #[.slice A n c, .func (.func g) fs lb] w fun e w' => (∃ i : Int, (0 ≤ i ↔ xss.any p = true) ∧ e = .returned (.int .i64 i)) ∧ Ext w w' := by
  have Hn := Lib.hid hn; have Hx := Lib.hid hx; have Hp := Lib.hid hp
  clear hn hx hp
  go_enter Tryz.func104, Tryz.ntmps104
  go_wp2
  go_loopw [5, 8] (fun _ i wr => ∃ k : Nat, k ≤ n ∧ i = .int .i64 k ∧ Hid (∀ j, j < k → p (xss[j]?.getD []) = false) ∧ Ext w wr) (fun _ i _ => n - (intOf i).toNat)
  case atStart => exact ⟨0, by omega, rfl, fun j hj => absurd hj (by omega), Ext.refl _⟩
  case round =>
    obtain ⟨k, hk, rfl, hm, he⟩ := hrel
    by_cases hlt : k < n
    · have hlx : k < xss.length := by rw [Hn.out]; exact hlt
      obtain ⟨A', c', e', -, -, hr⟩ := Hx.out.ext he
      simp only [Value.slice.injEq] at e'
      obtain ⟨rfl, -, rfl⟩ := e'
      obtain ⟨b, o, u, rfl, h1, h2⟩ := hr k hlx
      have hmem0 : (xss[k]?.getD []) ∈ xss := by simp [hlx]
      have hmem := Lib.hid hmem0
      generalize hgx : xss[k]?.getD [] = x at *
      have Hgx := Lib.hid hgx; clear hgx
      have hc := Hp.out x hmem0 wr _ he h2
      obtain ⟨A2, c2, rfl, -, -, -⟩ := h2
      clear hmem0 hr hlx
      obtain ⟨q, hq⟩ : ∃ q, p x = q := ⟨_, rfl⟩
      rw [hq] at hc
      have Hc := Lib.hid hc; clear hc
      have Hq := Lib.hid hq; clear hq
      have eg' := eg
      unfold Enters at eg'
      cases q with
      | true =>
        go_wp2_with fail
        refine Hc.out.mono ?_
        rintro e w' ⟨rfl, he'⟩
        go_wp2
        go_ret
        have ha : xss.any p = true := List.any_eq_true.2 ⟨x, hmem.out, Hq.out⟩
        exact ⟨⟨_, ⟨fun _ => ha, fun _ => by omega⟩, rfl⟩, he.trans he'⟩
      | false =>
        go_wp2_with fail
        refine Hc.out.mono ?_
        rintro e w' ⟨rfl, he'⟩
        go_wp2
        go_roundw
        case rel =>
          refine ⟨k + 1, by omega, by go_num, fun j hj => ?_, he.trans he'⟩
          by_cases ej : j = k
          · subst ej; rw [Hgx.out]; exact Hq.out
          · exact hm.out j (by omega)
        case measure => simp [intOf]; omega
    · go_wp2
      go_ret
      have hnn : xss.any p = false := by
        rw [List.any_eq_false]
        intro y hy hpy
        obtain ⟨j, hj, rfl⟩ := List.mem_iff_getElem.1 hy
        have := hm.out j (by have := Hn.out; omega)
        simp [hj, hpy] at this
      exact ⟨⟨-1, ⟨fun h => absurd h (by omega), fun h => by rw [hnn] at h; cases h⟩, rfl⟩, he⟩
theorem containsFuncR (g : Nat) (fs lb : Array Value) (eg : Enters Tryz.prog g) (p : List Int → Bool) (A : Option Addr) (c n : Nat) (xss : List (List Int)) (hn : xss.length = n) (q : Bool) (hq : xss.any p = q) (w : World) (hb : n ≤ 1000)
    (hx : RowsI w (.slice A n c) xss) (hp : ∀ x ∈ xss, Tells Tryz.prog w g fs lb (fun W v l => SlI W v l) x (p x)) :
    Calls Tryz.prog 27 #[.slice A n c, .func (.func g) fs lb] w fun e w' => e = .returned (.bool q) ∧ Ext w w' := by
  have h := indexFuncR g fs lb eg p A c n xss hn w hb hx hp
  clear hx hp
  rw [hq] at h
  have H := Lib.hid h; clear h hq
  go_enter Tryz.func27, Tryz.ntmps27
  go_wp2_with fail
  refine H.out.mono ?_
  rintro e w' ⟨⟨i, hi, rfl⟩, he⟩
  cases q with
  | true =>
    have h0 : 0 ≤ i := hi.2 rfl
    clear hi
    go_wp2
    go_ret
    exact ⟨rfl, he⟩
  | false =>
    have h0 : decide (0 ≤ i) = false := by
      rw [decide_eq_false_iff_not]
      exact fun h => by have := hi.1 h; cases this
    have h1 : ¬ 0 ≤ i := by simpa using h0
    clear hi
    go_wp2
    go_ret
    exact ⟨rfl, he⟩
set_option maxHeartbeats 400000 in
theorem cloneS (A : Option Addr) (c : Nat) (xs : List Int) (w : World) (hb : xs.length * 8 ≤ 140737488355328) (hx : IntsAt w A xs) :
    Calls Tryz.prog 23 #[.slice A xs.length c] w fun e w' => ∃ v, e = .returned v ∧ OwnI w' w.heap.size 36 v xs ∧ Ext w w' := by
  obtain ⟨i, hi, hz0, hz1, hz2⟩ := info_parts info_sight
  have hnil : ∀ W : World, (binOp .eql 30 (.slice A xs.length c) (.slice none 0 0)).run Tryz.prog W = .ok (.bool A.isNone) W := fun W => Lib.run_eql_slice_nil W 30 _ A _ _ 0 0 Tryz.underlying30
  cases A with
  | none =>
    have hx0 : xs = [] := by
      cases xs with
      | nil => rfl
      | cons x l => obtain ⟨b, o, e, _⟩ := hx 0 (by simp); cases e
    subst hx0
    have hnil' : ∀ W : World, (binOp .eql 30 (.slice none 0 c) (.slice none 0 0)).run Tryz.prog W = .ok (.bool true) W := fun W => hnil W
    clear hnil hx hb
    go_enter Tryz.func23, Tryz.ntmps23
    go_wp2
    go_ret
    exact ⟨_, rfl, OwnI.nil _ _ _, Ext.refl _⟩
  | some ad =>
    have hnil' : ∀ W : World, (binOp .eql 30 (.slice (some ad) xs.length c) (.slice none 0 0)).run Tryz.prog W = .ok (.bool false) W := fun W => hnil W
    clear hnil
    have hE := Ext.alloc w (.cells #[] 36)
    have hsrc := Lib.hid (hx.ext hE).src
    have hown := Lib.hid (World.ownsRow_made (w := w) (e := 36) (size := 1) #[] 0 (Nat.le_refl _) (by unfold maxLen; omega) (by simp))
    clear hx
    go_enter Tryz.func23, Tryz.ntmps23
    go_wp2_with (at_builtin; go_must (refine wpList_app rfl _ _ 30 rfl w.heap.size 36 i (.int .i64 0) 1 8 Tryz.underlying30 hi hz0 hz1 hz2 rfl (by decide) _ _ _ rfl hown.out (some ad) xs.length c (xs.map (Value.int .i64)) rfl ?c1 hsrc.out ?c2 ?c3 ?c4 ?c5 ?_); (case c1 => simp); (case c2 => (intro u hu; obtain ⟨y, _, rfl⟩ := List.mem_map.1 hu; rfl)); (case c3 => (unfold maxLen; omega)); (case c4 => omega); (case c5 => simp); intro v' w' hown' hg hblk)
    go_ret
    refine ⟨_, rfl, ?_, ext_alloc_grown hg (fun k hk => Nat.le_of_eq (Option.some.inj hk))⟩
    simp only [Nat.zero_add, List.nil_append] at hown'
    exact hown'
/-- a list of sights in a block of its own -/
def SRow (w : World) (g W : Nat) (l : List Int) : Prop := ∃ cs, Blk w g 36 cs ∧ W ≤ cs.size ∧ l.length = W ∧ ∀ j, j < W → cs[j]? = some (.int .i64 (l[j]?.getD 0))
theorem OwnI.srow {w : World} {base W : Nat} {v : Value} {l : List Int} (h : OwnI w base 36 v l) (hl : l.length = W) (hW : 0 < W) : ∃ g c, v = .slice (some ⟨g, 0, none⟩) W c ∧ base ≤ g ∧ SRow w g W l ∧ W ≤ c := by
  rcases h.2 with ⟨-, h0⟩ | ⟨g, cap, cur, rfl, hg, hb, hn, hm, hs, hc⟩
  · omega
  · rw [hl] at hn hc ⊢
    refine ⟨g, cap, rfl, hg, ⟨cur, hb, by omega, hl, fun j hj => ?_⟩, hn⟩
    have := congrArg (fun l => l[j]?) hc
    simp only [Nat.mul_one, List.getElem?_take, if_pos hj, List.getElem?_map, Array.getElem?_toList] at this
    rw [this, List.getElem?_eq_getElem (show j < l.length by omega)]
    rfl
section
variable {w w' : World} {g W b : Nat} {l : List Int}
theorem SRow.ext (h : SRow w g W l) (he : Ext w w') : SRow w' g W l := by
  obtain ⟨cs, h1, h2, h3, h4⟩ := h
  exact ⟨cs, h1.ext he, h2, h3, h4⟩
theorem SRow.apart (h : SRow w g W l) (hne : g ≠ b) (ha : Apart b w w') : SRow w' g W l := by
  obtain ⟨cs, h1, h2, h3, h4⟩ := h
  exact ⟨cs, h1.apart hne ha, h2, h3, h4⟩
theorem SRow.ints (h : SRow w g W l) : IntsAt w (some ⟨g, 0, none⟩) l := by
  obtain ⟨cs, h1, h2, h3, h4⟩ := h
  exact fun k hk => ⟨g, 0, rfl, by rw [Nat.zero_add, h1.cell, h4 k (by omega)]⟩
theorem SRow.cell (h : SRow w g W l) {j : Nat} (hj : j < W) : w.cell? ⟨g, j, none⟩ = some (.int .i64 (l[j]?.getD 0)) ∧ w.frozen? ⟨g, j, none⟩ = false := by
  obtain ⟨cs, h1, h2, h3, h4⟩ := h
  exact ⟨by rw [h1.cell, h4 j hj], h1.frozen j⟩
theorem SRow.lt (h : SRow w g W l) : g < w.heap.size := by
  obtain ⟨cs, h1, -⟩ := h
  exact h1.lt
theorem SRow.set_ (h : SRow w g W l) {i : Nat} (hi : i < W) (y : Int) : SRow (w.setCell ⟨g, i, none⟩ (.int .i64 y)) g W (l.set i y) := by
  obtain ⟨cs, h1, h2, h3, h4⟩ := h
  refine ⟨_, h1.set_ i (.int .i64 y), by simpa using h2, by simpa using h3, fun j hj => ?_⟩
  rw [Array.getElem?_setIfInBounds, List.getElem?_set]
  by_cases e : i = j
  · subst e
    rw [if_pos rfl, if_pos rfl, if_pos (by omega), if_pos (by omega)]; rfl
  · rw [if_neg e, if_neg e, h4 j hj]
end
set_option maxRecDepth 20000 in
set_option maxHeartbeats 1000000 in
theorem seen1_any (Sb Mb Kb W : Nat) (AS : Option Addr) (cS : Nat) (v1 v2 : Value) (m : PM) (hm : POk m) (l : List Int) (hl : l.length = W) (hW : W = m.wvs.length) (i : Nat) (g : List Nat) (hg : Up m.wvs.length 0 g) (w : World) (hv : PMVal w (.agg #[v1, v2]) m)
    (hSb : Blk w Sb 30 #[.slice AS W cS]) (hMb : Blk w Mb 26 #[v1, v2]) (hKb : Blk w Kb 3 #[.int .i64 (i : Int)]) (hA : IntsAt w AS l) :
    Tells Tryz.prog w 29 #[] #[.pointer (some ⟨Sb, 0, none⟩), .pointer (some ⟨Mb, 0, none⟩), .pointer (some ⟨Kb, 0, none⟩)] (fun W v l => SlI W v l) (ints g) (Pow.ranB m (sightF l) i g) := by
  intro W0 v0 hX hv0
  obtain ⟨AG, cG, rfl, g1, g2, g3⟩ := hv0
  have hgl := ints_length g
  rw [hgl] at g1 ⊢
  show Calls Tryz.prog 29 #[_, .pointer (some ⟨Sb, 0, none⟩), .pointer (some ⟨Mb, 0, none⟩), .pointer (some ⟨Kb, 0, none⟩)] W0 _
  by_cases h1 : g.length = 1
  · obtain ⟨k, rfl⟩ : ∃ k, g = [k] := List.length_eq_one_iff.1 h1
    have hk := (hg.2 k (List.mem_singleton.2 rfl)).2
    obtain ⟨b, o, rfl, l0⟩ := g3 0 (by simp [ints])
    have l0' : W0.cell? ⟨b, o, none⟩ = some (.int .i64 (k : Int)) := l0
    obtain ⟨bs, os, rfl, s0⟩ := hA.ext hX k (by omega)
    have hq : Pow.ranB m (sightF l) i [k] = (decide (l[k]?.getD 0 = 1) && m.drv i k) := rfl
    rw [hq]
    obtain ⟨y, hy⟩ : ∃ y, l[k]?.getD 0 = y := ⟨_, rfl⟩
    rw [hy] at s0 ⊢
    have e0 := (hSb.ext hX).c1
    have e1 := (hKb.ext hX).c1
    obtain ⟨k0, k1⟩ := (hMb.ext hX).c2
    obtain ⟨q, hqd⟩ : ∃ q, m.drv i k = q := ⟨_, rfl⟩
    have hd := Lib.hid (fun W (he : Ext W0 W) => drives_any _ m hm i k hk q hqd W (hv.ext (hX.trans he)))
    rw [hqd]
    have hkW : k < W := by omega
    have hone : (([k] : List Nat).length : Int) = 1 := rfl
    rw [show ([k] : List Nat).length = 1 from rfl] at *
    by_cases hy1 : y = 1
    · have ht : (y == 1) = true := by simp [hy1]
      rw [show (decide (y = 1) && q) = q by simp [hy1]]
      clear hv hSb hMb hKb hA hqd hy hy1 hgl g3 l0 hq hX hg h1 hl hW hone
      go_enter Tryz.func29, Tryz.ntmps29
      go_wp2_with fail
      refine wp_region_tree 20 [(18, true)] [] (by kernel_rfl) (by kernel_rfl) (by kernel_rfl) (ds := [0, 1, 2, 3, 4, 5, 6, 7, 8, 9, 10, 11, 12, 13, 14, 15, 16, 17]) (by kernel_rfl) ?_
      simp only [List.take, List.drop, fill, Act.put, List.setIfInBounds_toArray, List.set_cons_zero, List.set_cons_succ, Nat.reduceAdd]
      repeat (first
        | (apply Unlock.float rfl
           · intro x W he hd K Qr hK
             try (have he := he (by decide); have l0' := he.cell l0'; have s0 := he.cell s0; have e0 := he.cell e0; have e1 := he.cell e1; have k0 := he.cell k0; have k1 := he.cell k1)
             try simp only [edges, DepsE, List.filter_cons, List.filter_nil, Region.binds, if_true, and_true, true_and, upd, Nat.reduceEqDiff, if_false] at hd
             try simp only [hd] at hK ⊢
             have HK := Lib.hid hK; clear hK
             go_wp2_with fail
             exact HK.out))
      refine Unlock.nil ?_
      intro W he hG
      refine Tree.next (ks := [(18, true)]) (by kernel_rfl) ?_
      refine TSteps.cons _ rfl ?_ trivial
      intro x hd K Qr hK
      try simp only [edges, DepsE, List.filter_cons, List.filter_nil, Region.binds, if_true, and_true, true_and, upd, Nat.reduceEqDiff, if_false] at hd
      try simp only [hd] at hK ⊢
      clear hd
      have HK := Lib.hid hK; clear hK
      go_wp2_with fail
      refine (hd.out W he).mono ?_
      rintro e w5 ⟨rfl, he5⟩
      have heA := he.trans he5
      go_wp2_with fail
      refine HK.out _ _ (fun _ => heA) ?_
      clear HK
      refine Unlock.of (ds := [19]) (by kernel_rfl) ?_
      repeat (first
        | (apply Unlock.float rfl
           · intro x W he hd K Qr hK
             try (have he := he (by decide))
             try simp only [edges, DepsE, List.filter_cons, List.filter_nil, Region.binds, if_true, and_true, true_and, upd, Nat.reduceEqDiff, if_false] at hd
             try simp only [hd] at hK ⊢
             have HK := Lib.hid hK; clear hK
             go_wp2_with fail
             exact HK.out))
      refine Unlock.nil ?_
      refine Tree.nil (by kernel_rfl) ?_
      simp only [upd, Nat.reduceEqDiff, if_false, if_true]
      go_wp2_with fail
      go_ret
      exact ⟨rfl, heA⟩
    · have ht : (y == 1) = false := by simp [hy1]
      rw [show (decide (y = 1) && q) = false by simp [hy1]]
      clear hv hSb hMb hKb hA hqd hy hy1 hgl g3 l0 hq hX hg h1 hl hW hone hd
      go_enter Tryz.func29, Tryz.ntmps29
      go_wp2_with fail
      refine wp_region_chain 20 [] [] (by kernel_rfl) (by kernel_rfl) (by kernel_rfl) ?_
      simp only [List.take, List.drop, fill, Act.put, List.setIfInBounds_toArray, List.set_cons_zero, List.set_cons_succ, Nat.reduceAdd]
      repeat (first
        | refine Floats.mut rfl ?_
        | (apply Floats.float rfl
           · intro x W he hd K Q hK
             try (have he := he (by decide); have l0' := he.cell l0'; have s0 := he.cell s0; have e0 := he.cell e0)
             try simp only [edges, DepsE, List.filter_cons, List.filter_nil, Region.binds, if_true, and_true, true_and, upd, Nat.reduceEqDiff, if_false] at hd
             try simp only [hd] at hK ⊢
             have HK := Lib.hid hK; clear hK
             go_wp2_with fail
             exact HK.out))
      refine Floats.done fun W he hG => ?_
      refine Chain.nil ?_
      simp only [upd, Nat.reduceEqDiff, if_false, if_true]
      go_wp2_with fail
      go_ret
      exact ⟨rfl, he⟩
  · have ht : ((g.length : Int) == 1) = false := by simp; omega
    have hq : Pow.ranB m (sightF l) i g = false := by unfold Pow.ranB; simp [h1]
    rw [hq]
    clear hv hSb hMb hKb hA hgl g3 hq hX hg h1 hl hW
    go_enter Tryz.func29, Tryz.ntmps29
    go_wp2_with fail
    refine wp_region_chain 20 [] [] (by kernel_rfl) (by kernel_rfl) (by kernel_rfl) ?_
    simp only [List.take, List.drop, fill, Act.put, List.setIfInBounds_toArray, List.set_cons_zero, List.set_cons_succ, Nat.reduceAdd]
    repeat (first
      | refine Floats.mut rfl ?_
      | (apply Floats.float rfl
         · intro x W he hd K Q hK
           try (have he := he (by decide))
           try simp only [edges, DepsE, List.filter_cons, List.filter_nil, Region.binds, if_true, and_true, true_and, upd, Nat.reduceEqDiff, if_false] at hd
           try simp only [hd] at hK ⊢
           have HK := Lib.hid hK; clear hK
           go_wp2_with fail
           exact HK.out))
    refine Floats.done fun W he hG => ?_
    refine Chain.nil ?_
    simp only [upd, Nat.reduceEqDiff, if_false, if_true]
    go_wp2_with fail
    go_ret
    exact ⟨rfl, he⟩
end Go.Proofs.Pet
