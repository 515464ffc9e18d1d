/-
  slices.Values, AppendSeq, Collect, Sorted; walked.
-/
import Derived.Test.YtknokjnplbdmeaaGreatO8
import Derived.Test.YtknokjnplbdmeaaGreatP18
import Derived.RangeFuncNested
namespace Go.Proofs.Pet
open Go Go.RowKit Go.Maps Go.Shelf
attribute [local go_sem] Oper.semAt_some

/-- numbers that lie below a block -/
def LowI (n₀ : Nat) (w : World) (A : Option Addr) (xs : List Int) : Prop := ∀ k, k < xs.length → ∃ b o, A = some ⟨b, o, none⟩ ∧ b < n₀ ∧ w.cell? ⟨b, o + k, none⟩ = some (.int .i64 (xs[k]?.getD 0))
theorem LowI.below {n₀ : Nat} {w w' : World} {A : Option Addr} {xs : List Int} (h : LowI n₀ w A xs) (hb : Below n₀ w w') : LowI n₀ w' A xs := fun k hk => by
  obtain ⟨b, o, e, h1, h2⟩ := h k hk
  exact ⟨b, o, e, h1, (hb.cell (p := ⟨b, o + k, none⟩) h1).trans h2⟩
theorem IntsAt.low {w : World} {A : Option Addr} {xs : List Int} (h : IntsAt w A xs) : LowI w.heap.size w A xs := fun k hk => by
  obtain ⟨b, o, e, h1⟩ := h k hk
  exact ⟨b, o, e, cell_lt h1, h1⟩
set_option maxRecDepth 100000 in
set_option maxHeartbeats 1000000 in
theorem values1_in (F : Fence) (n0 : Nat) (hF : F.fn 107) (hro : F.round = none) (hn : 1 ≤ n0) (l B n₀ : Nat) (A : Option Addr) (c : Nat) (xs : List Int) (hl : xs.length ≤ 1000) (J Jx : List Int → World → Prop)
    (hY : ∀ pre x W, J pre W → pre.length < xs.length → YieldAt F (n0 - 1) Tryz.prog l #[.int .i64 x] W fun e W' => (e = .returned (.bool true) ∧ J (pre ++ [x]) W' ∧ Below n₀ W W') ∨ (e = .returned (.bool false) ∧ Jx (pre ++ [x]) W'))
    (W : World) (hB : W.cell? ⟨B, 0, none⟩ = some (.slice A xs.length c)) (hx : LowI n₀ W A xs) (h0 : J [] W) :
    CallsIn F n0 Tryz.prog 107 #[.func (.yield l) #[] #[], .pointer (some ⟨B, 0, none⟩)] W fun e W' => (∃ v, e = .returned v) ∧
      ((∃ ys, ys = xs ∧ J ys W') ∨ (∃ pre, (∃ k, k ≤ xs.length ∧ pre = xs.take k) ∧ Jx pre W')) := by
  refine callsIn_of_wp Tryz.func107 rfl hF ?_ hro
  simp only [Tryz.ntmps107, List.size_toArray, List.length_cons, List.length_nil, Nat.reduceAdd, Nat.reduceSub, Array.replicate_succ, Array.replicate_zero, List.push_toArray, List.append_toArray, List.nil_append, List.cons_append]
  have Hx := Lib.hid hx; clear hx
  gi_wp2
  gi_loopw [7] (fun i wr => ∃ k : Nat, k ≤ xs.length ∧ i = .int .i64 k ∧ J (xs.take k) wr ∧ Below n₀ W wr) (fun i _ => xs.length - (intOf i).toNat)
  case atStart => exact ⟨0, Nat.zero_le _, rfl, h0, Below.refl _ _⟩
  case round =>
    obtain ⟨k, hk, rfl, hJs, hnx⟩ := hrel
    by_cases hlt : k < xs.length
    · obtain ⟨b, o, rfl, h1, h2⟩ := Hx.out.below hnx k hlt
      have ht : xs.take (k + 1) = xs.take k ++ [xs[k]?.getD 0] := by rw [List.take_succ_eq_append_getElem hlt]; simp [hlt]
      obtain ⟨x, hxe⟩ : ∃ x, xs[k]?.getD 0 = x := ⟨_, rfl⟩
      rw [hxe] at h2 ht
      obtain ⟨fn, tmps, assign, body, hy, hR⟩ := hY _ x wr hJs (by rw [List.length_take]; omega)
      have Ht := Lib.hid ht; clear ht hxe
      gi_wp2
      refine hR.mono ?_
      rintro e W3 (⟨rfl, hJ3, hk3⟩ | ⟨rfl, hJx3⟩)
      · gi_wp2
        go_roundw
        case rel => exact ⟨k + 1, by omega, by go_num, by rw [Ht.out]; exact hJ3, hnx.trans hk3⟩
        case measure => simp [intOf]; omega
      · gi_wp2
        refine bodyPost_ret (results_none rfl _ _ _) rfl ?_
        exact ⟨⟨_, rfl⟩, .inr ⟨_, ⟨k + 1, by omega, Ht.out.symm⟩, hJx3⟩⟩
    · have hke : k = xs.length := by omega
      subst hke
      rw [List.take_length] at hJs
      gi_wp2
      go_end0
      exact ⟨⟨_, rfl⟩, .inl ⟨_, rfl, hJs⟩⟩
theorem values_any (A : Option Addr) (n c : Nat) (w : World) :
    Calls Tryz.prog 40 #[.slice A n c] w fun e w' => e = .returned (.func (.func 107) #[] #[.pointer (some ⟨w.heap.size, 0, none⟩)]) ∧ Blk w' w.heap.size 22 #[.slice A n c] ∧ Ext w w' := by
  have hmf : ∀ (fn : Fn) (first cap : Array Value) (w : World), (Instr.makeFunc fn first cap).run Tryz.prog w = .ok (.func fn first cap) w := fun _ _ _ _ => rfl
  have hb := Lib.hid (Blk.new w 22 #[.slice A n c])
  go_enter Tryz.func40, Tryz.ntmps40
  go_wp2
  go_ret
  exact ⟨rfl, hb.out, Ext.alloc _ _⟩
/-- what is gathered: a box that holds a row of the call's own -/
structure Gath (w : World) (b0 : Nat) (pre : List Int) (W : World) : Prop where
  ext : Ext w W
  box : ∃ v, Blk W b0 22 #[v] ∧ OwnI W (b0 + 1) 3 v pre
  lt : w.heap.size = b0
theorem Gath.loops {w W W' : World} {b0 B : Nat} {pre : List Int} (h : Gath w b0 pre W) (hk : Loops B W W') (hB : b0 < B) : Gath w b0 pre W' := by
  obtain ⟨h1, ⟨v, h2, h3⟩, h4⟩ := h
  exact ⟨h1.loops hk (by omega), ⟨v, h2.loops hk, h3.loops hk⟩, h4⟩
theorem ownsRow_cells {w : World} {base size n : Nat} {e : TypeId} {v : Value} {xs : List Value} (h : w.ownsRow base e size v n xs) (j : Nat) (o : Obj) (hj : v.ownBlock = some j) (ho : w.heap[j]? = some o) : o.isCells = true := by
  rcases h.2 with ⟨rfl, _⟩ | ⟨g, cap, cur, rfl, _, hb, _⟩
  · cases hj
  · have : g = j := Option.some.inj hj
    subst this
    rw [hb] at ho
    cases ho; rfl
set_option maxRecDepth 100000 in
set_option maxHeartbeats 2000000 in
theorem appendSeq_any (B : Nat) (A : Option Addr) (c : Nat) (xs : List Int) (hl : xs.length ≤ 1000) (w : World) (hB : Blk w B 22 #[.slice A xs.length c]) (hx : IntsAt w A xs) :
    Calls Tryz.prog 148 #[.slice none 0 0, .func (.func 107) #[] #[.pointer (some ⟨B, 0, none⟩)]] w fun e w' => ∃ r, e = .returned r ∧ OwnI w' w.heap.size 3 r xs ∧ Ext w w' := by
  obtain ⟨ti, hi, hz0, hz1, hz2⟩ := info_parts info_int
  refine (callsIn_wide (n := 5)).1 ?_
  refine callsIn_of_wp_marks Tryz.func148 rfl trivial ?_ rfl
  simp only [Tryz.ntmps148, List.size_toArray, List.length_cons, List.length_nil, Nat.reduceAdd, Nat.reduceSub, Array.replicate_succ, Array.replicate_zero, List.push_toArray, List.append_toArray, List.nil_append, List.cons_append]
  have hE := Ext.alloc w (.cells #[.slice none 0 0] 22)
  have hbx := Blk.new w 22 #[.slice none 0 0]
  have hc := (hB.ext hE).c1
  have hlow : LowI w.heap.size (w.alloc (.cells #[.slice none 0 0] 22)) A xs := hx.low.below hE
  have hsz : (w.alloc (.cells #[.slice none 0 0] 22)).heap.size = w.heap.size + 1 := World.size_alloc ..
  have hBl := hB.lt
  obtain ⟨b0, hb0⟩ : ∃ b0, w.heap.size = b0 := ⟨_, rfl⟩
  rw [hb0] at hbx hlow hsz hBl ⊢
  have Hb0 := Lib.hid hb0; have Hlow := Lib.hid hlow; have Hc := Lib.hid hc
  clear hb0 hlow hc hx hB
  gi_wp2
  rw [Hb0.out]
  refine wpIn_rangeFunc_ownG (F := Fence.wide) (n := 5) rfl (by omega) (gf := 107) (lb := #[.pointer (some ⟨B, 0, none⟩)]) rfl trivial (enters_of Tryz.func107 (by kernel_rfl) rfl)
    (encs := fun x : Int => #[Value.int .i64 x]) (Kp := Below b0) (S := fun ys => ys = xs) (Sp := fun pre => ∃ k, k ≤ xs.length ∧ pre = xs.take k) (N := xs.length) (w0 := w.alloc (.cells #[.slice none 0 0] 22))
    (fun l J Jx W hW _ _ hY h0 => values1_in Fence.wide 4 trivial rfl (by omega) l B b0 A c xs hl J Jx hY W ((hW.cell (p := ⟨B, 0, none⟩) (by show B < _; omega)).trans Hc.out) (Hlow.out.below (hW.mono (by omega))) h0)
    belowK_t (belowK_b (by omega)) (Below.refl _ _) (fun _ => rfl)
    (Gath w b0) (fun _ _ _ => False) (ownFrom_keep fun s W W' h hk => h.loops hk (by omega)) (fun _ _ _ _ _ h _ _ => h) ⟨hE, ⟨_, hbx, OwnI.nil _ _ _⟩, Hb0.out⟩
    (fun x => ⟨#[.slice none 0 0, .func (.func 107) #[] #[.pointer (some ⟨B, 0, none⟩)], .pointer (some ⟨b0, 0, none⟩), undef, .slice none 0 0, .int .i64 x, .func (.func 107) #[] #[.pointer (some ⟨B, 0, none⟩)], .int .i64 x, undef, undef, undef, undef, undef], []⟩) ?assign ?body ?done ?stop
  case assign =>
    intro l x W K hK
    gi_wp2
    exact hK
  case body =>
    rintro l pre x W ⟨h1, ⟨v, h2, h3⟩, h4⟩ hlen
    have u0 := h2.c1
    have hX := Ext.alloc W (.cells #[.int .i64 x] 3)
    have h3X := h3.ext hX
    have h2X := h2.ext hX
    have hsz1 := h1.size
    have hb0l := h2.lt
    have hge : ∀ j, v.ownBlock = some j → b0 + 1 ≤ j := fun j hj => (h3.own_lt j hj).1
    gi_wp2_with (gi_at_builtin; refine wpListIn_append_own _ rfl _ _ 22 rfl (b0 + 1) 3 ti (.int .i64 0) 1 8 Tryz.underlying22 hi hz0 hz1 hz2 rfl (by decide) _ _ _ rfl h3X ⟨W.heap.size, 0, none⟩ 1 1 [.int .i64 x] rfl rfl (cell_one_new _ _ _) (by simp [Value.oneCell']) (by unfold maxLen; omega) (by omega) (by simp; omega) ?_; intro v' w' hown hg hblk; have hB9 := Blk.grown h2X hg (fun e => by have := hge b0 e.symm; omega); have q0 := hB9.c1; have q1 := hB9.frozen 0; obtain ⟨A9, c9, rfl⟩ := ownsRow_slice hown)
    have hO : OwnI w' (b0 + 1) 3 (.slice A9 (pre.length + 1) c9) (pre ++ [x]) := by
      unfold OwnI; rw [List.length_append, List.map_append]; exact hown
    refine ⟨(((KeepsOthers.alloc W _).trans (KeepsOthers.of_grownBy hg (ownsRow_cells h3X))).trans (KeepsOthers.setCell _ _ _)).from _, ?_, ?_, ⟨_, by simpa using hB9.set_ 0 (.slice A9 (pre.length + 1) c9), hO.far hB9 (by decide) 0 _⟩, h4⟩
    · exact Below.setCell (p := ⟨b0, 0, none⟩) (Below.grown (hX.mono (by omega)) hg (by simp; omega) (fun j hj => by have := hge j hj; omega)) (show b0 ≤ b0 from Nat.le_refl _) _
    · exact Below.setCell (p := ⟨b0, 0, none⟩) (ext_grown h1 hg (fun j hj => by have := hge j hj; omega)) (by show _ ≤ b0; omega) _
  case done =>
    intro D ys W hD hys h hK
    subst hys
    obtain ⟨h1, ⟨v, h2, h3⟩, h4⟩ := h
    have u0 := h2.c1
    gi_wp2
    refine ⟨by simp, .inl ⟨_, _, rfl, run_takeDeferred hK, ?_⟩⟩
    have hg := grownBy_putObj' W D (.deferred none)
    refine ⟨_, results_tmp rfl _ _ _, _, rfl, ?_, ?_⟩
    · have h3' : OwnI (W.putObj D (.deferred none)) (b0 + 1) 3 v ys := by
        obtain ⟨g1, g2⟩ := h3
        refine ⟨g1, ?_⟩
        rcases g2 with g2 | ⟨q, cap, cur, rfl, hq, hb, r⟩
        · exact .inl g2
        · refine .inr ⟨q, cap, cur, rfl, hq, ?_, r⟩
          refine (World.putObj_heap_other fun e => ?_).trans hb
          subst e
          rw [hK] at hb; cases hb
      exact h3'.mono (by omega)
    · exact Below.grown h1 hg h1.size (fun j e => by cases e; omega)
  case stop => exact fun _ _ _ _ _ _ h _ => h.elim
theorem collect_any (B : Nat) (A : Option Addr) (c : Nat) (xs : List Int) (hl : xs.length ≤ 1000) (w : World) (hB : Blk w B 22 #[.slice A xs.length c]) (hx : IntsAt w A xs) :
    Calls Tryz.prog 105 #[.func (.func 107) #[] #[.pointer (some ⟨B, 0, none⟩)]] w fun e w' => ∃ r, e = .returned r ∧ OwnI w' w.heap.size 3 r xs ∧ Ext w w' := by
  have H := Lib.hid (appendSeq_any B A c xs hl w hB hx)
  clear hB hx
  go_enter Tryz.func105, Tryz.ntmps105
  go_wp2_with fail
  refine H.out.mono ?_
  rintro e w' ⟨r, rfl, hr, he⟩
  obtain ⟨A1, c1, rfl, _⟩ := hr.open_
  have Hr := Lib.hid hr
  clear hr
  go_wp2
  go_ret
  exact ⟨_, rfl, Hr.out, he⟩
/-- a list of the numbers of a slice, in their order -/
theorem sorted_of_any (B : Nat) (A : Option Addr) (c : Nat) (xs : List Int) (hl : xs.length ≤ 1000) (w : World) (hB : Blk w B 22 #[.slice A xs.length c]) (hx : IntsAt w A xs) :
    Calls Tryz.prog 39 #[.func (.func 107) #[] #[.pointer (some ⟨B, 0, none⟩)]] w fun e w' => ∃ r, e = .returned r ∧ OwnI w' w.heap.size 3 r (xs.mergeSort fun x y => decide (x ≤ y)) ∧ Ext w w' := by
  have H := Lib.hid (collect_any B A c xs hl w hB hx)
  clear hB hx
  go_enter Tryz.func39, Tryz.ntmps39
  go_wp2_with fail
  refine H.out.mono ?_
  rintro e w1 ⟨r, rfl, hr, he⟩
  have Hs := Lib.hid (sortI w.heap.size r xs w1 hr (by omega))
  have hge : ∀ j, r.ownBlock = some j → w.heap.size ≤ j := fun j hj => (hr.own_lt j hj).1
  have Hge := Lib.hid hge
  obtain ⟨A1, c1, rfl, _⟩ := hr.open_
  clear hr hge H
  go_wp2_with fail
  refine Hs.out.mono ?_
  rintro e w2 ⟨rfl, hr2, hg⟩
  have hE := Below.grown he hg he.size Hge.out
  have Hr2 := Lib.hid hr2
  clear hr2 Hs
  go_wp2
  go_ret
  exact ⟨_, rfl, Hr2.out, hE⟩
end Go.Proofs.Pet
