/-
  What LoomChecks calls besides: Without with its errors, a map of numbers that are gone, clear.
  Mills of the call's own that are cleared: where they lie.
  theirs: a mill of the reference whose orders lie in a row of its own; rows of orders that grow by one that is not their own.
-/
import Derived.Test.YtknokjnplbdmeaaT8
import Derived.Test.YtknokjnplbdmeaaP21
import Derived.Test.YtknokjnplbdmeaaR5
import Derived.Test.YtknokjnplbdmeaaV1
namespace Go.Proofs.Pet
open Go Go.RowKit Go.Maps Go.Shelf

set_option maxRecDepth 20000 in
set_option maxHeartbeats 4000000 in
theorem without_any (v : Value) (m : Mill) (A : Option Addr) (c : Nat) (xs : List Int) (r : Int) (hr : listE m xs = r) (w : World) (hv : MillVal w v m) (hlc : xs.length ≤ c) (hc : c ≤ maxLen) (hx : IntsAt w A xs) :
    Calls Try.prog 50 #[v, .slice A xs.length c] w fun e w' => ∃ rv, e = .returned (.tuple #[rv, .int .i64 r]) ∧ TakeRes w' w.heap.size rv r (m.without xs) ∧ Ext w w' := by
  by_cases h0 : r = 0
  · subst h0
    have hch : checkE m = 0 := by
      unfold listE at hr
      by_cases e : checkE m = 0
      · exact e
      · rw [if_neg e] at hr; exact absurd hr e
    have hl : listedE m xs = 0 := by unfold listE at hr; rwa [if_pos hch] at hr
    exact (without_ok v m ((check_iff m).1 hch) A c xs hl w hv hlc hc hx).mono fun e w' ⟨a, b, h1, h2, h3, h4⟩ => ⟨_, h1, .inl ⟨rfl, a, b, rfl, h2, h3⟩, h4⟩
  · have Hv := Lib.hid hv
    obtain ⟨A1, c1, A2, c2, rfl, -, -, -, -, -, -⟩ := hv
    have hM := Blk.new w 25 #[.slice A1 m.laced.length c1, .int .i64 m.change, .slice A2 m.orders.length c2]
    have hX := Ext.alloc w (.cells #[.slice A1 m.laced.length c1, .int .i64 m.change, .slice A2 m.orders.length c2] 25)
    have hR := Blk.new (w.alloc (.cells #[.slice A1 m.laced.length c1, .int .i64 m.change, .slice A2 m.orders.length c2] 25)) 25 #[.slice none 0 0, .int .i64 0, .slice none 0 0]
    have hX2 := Ext.alloc (w.alloc (.cells #[.slice A1 m.laced.length c1, .int .i64 m.change, .slice A2 m.orders.length c2] 25)) (.cells #[.slice none 0 0, .int .i64 0, .slice none 0 0] 25)
    replace hM := hM.ext hX2
    have hE := hX.trans hX2
    rw [World.size_alloc] at hR
    have hli := Lib.hid (listed_any _ m A c xs r hr _ (Hv.out.ext hE) hlc hc (hx.ext hE))
    have hd : (r != 0) = true := by simpa using h0
    have H0 := Lib.hid h0
    clear hx hr hX hX2 h0
    obtain ⟨k0, k1, k2⟩ := hM.c3
    go_enter Try.func50, Try.ntmps50
    go_wp2_with fail
    generalize (w.alloc _).alloc _ = W1 at *
    refine hli.out.mono ?_
    rintro e w2 ⟨rfl, he2⟩
    replace hE := hE.trans he2; replace hR := hR.ext he2
    clear hli he2 k0 k1 k2 hM
    have f0 := hR.frozen 0; have f1 := hR.frozen 1; have f2 := hR.frozen 2
    obtain ⟨v0, v1, v2⟩ := hR.c3
    go_wp2_with fail
    have q0 : Blk (((w2.setCell ⟨w.heap.size + 1, 0, none⟩ (.slice none 0 0)).setCell ⟨w.heap.size + 1, 1, none⟩ (.int .i64 0)).setCell ⟨w.heap.size + 1, 2, none⟩ (.slice none 0 0)) (w.heap.size + 1) 25 #[.slice none 0 0, .int .i64 0, .slice none 0 0] := ((hR.set_ 0 _).set_ 1 _).set_ 2 _
    have q1 : Ext w (((w2.setCell ⟨w.heap.size + 1, 0, none⟩ (.slice none 0 0)).setCell ⟨w.heap.size + 1, 1, none⟩ (.int .i64 0)).setCell ⟨w.heap.size + 1, 2, none⟩ (.slice none 0 0)) :=
      Below.setCell (Below.setCell (Below.setCell hE (by show _ ≤ w.heap.size + 1; omega) _) (by show _ ≤ w.heap.size + 1; omega) _) (by show _ ≤ w.heap.size + 1; omega) _
    clear v0 v1 v2 f0 f1 f2
    obtain ⟨v0, v1, v2⟩ := q0.c3
    refine bodyPost_ret (v := .tuple #[.agg #[.slice none 0 0, .int .i64 0, .slice none 0 0], .int .i64 r]) ?_ rfl ⟨_, rfl, TakeRes.zero H0.out, q1⟩
    simp [results, Try.results50, go_sem, v0, v1, v2]
/-! A map from numbers to yes or no. -/
theorem zero_bool (w : World) : (zeroValue 4).run Try.prog w = .ok (.bool false) w := by kernel_rfl
def GoneMap (w : World) (M cnt : Nat) (f : Nat → Bool) : Prop :=
  ∃ D : DataW Unit, w.ownsMap Try.prog 3 (plainElem Try.prog 4) M cnt D ∧ ∀ s : Nat, D.atKey (.int .i64 s) (.lit (.bool false)) = .lit (.bool (f s))
theorem plainElem_bool_inv {P : Program} {e : TypeId} (he : P.underlying e = some .bool) {v : Value} {z : DataW Unit × List MemPlace} (h : plainElem P e v = some z) : ∃ a, v = .bool a ∧ z = (.lit (.bool a), []) := by
  unfold plainElem at h
  rw [he] at h
  cases v <;> simp at h
  exact ⟨_, rfl, h.symm⟩
theorem blit_inj {a b : Bool} (h : (DataW.lit (.bool a) : DataW Unit) = .lit (.bool b)) : a = b := by
  injection h with h
  injection h
theorem GoneMap.made (w : World) : GoneMap (w.alloc (.map #[] 0)) w.heap.size 0 (fun _ => false) := ⟨.map [], World.ownsMap_made w _ _ _, fun s => by rfl⟩
theorem GoneMap.ext {w w' : World} {M cnt : Nat} {f : Nat → Bool} (h : GoneMap w M cnt f) (he : Ext w w') : GoneMap w' M cnt f := by
  obtain ⟨D, h1, h2⟩ := h
  exact ⟨D, h1.kept ⟨he.os, he.tape, he.output, he.size, fun k hk _ => Below.block he k hk⟩ (by simp : some M ≠ none), h2⟩
theorem GoneMap.look {w : World} {M cnt : Nat} {f : Nat → Bool} (h : GoneMap w M cnt f) (s : Nat) (hs : s ≤ 1048576) :
    (Instr.lookup 82 (.map (some M)) (.int .i64 (s : Int)) false).run Try.prog w = .ok (.bool (f s)) w := by
  obtain ⟨D, h1, h2⟩ := h
  obtain ⟨v, ps, hr, hv⟩ := h1.lookup keyed_int Try.underlying82 (zero_bool w) (plainElem_bool Try.underlying4 false) (keyOf_int_mk Try.underlying3 (WalkArith.wf_i64 (n := (s : Int)) (by omega)))
  obtain ⟨a, rfl, e⟩ := plainElem_bool_inv Try.underlying4 hv
  simp only [Prod.mk.injEq] at e
  have hq := (h2 s).symm.trans e.1
  rw [hr, blit_inj hq]
theorem GoneMap.store {w : World} {M cnt : Nat} {f : Nat → Bool} (h : GoneMap w M cnt f) (s : Nat) (hs : s ≤ 1048576) (hc : cnt ≤ 1048576) (v : Bool) :
    ∃ w', (Instr.mapUpdate 82 (.map (some M)) (.int .i64 (s : Int)) (.bool v)).run Try.prog w = .ok () w' ∧ GoneMap w' M (cnt + 1) (fun x => if x = s then v else f x) ∧ w.grownBy w' (some M) := by
  obtain ⟨D, h1, h2⟩ := h
  have hD : IsMap D := by obtain ⟨es, clock, hb, F, hs, rfl⟩ := h1; exact ⟨_, rfl⟩
  obtain ⟨w', hr, ho, hg⟩ := h1.update keyed_int Try.underlying82 (by unfold maxLen; omega) (keyOf_int_mk Try.underlying3 (WalkArith.wf_i64 (n := (s : Int)) (by omega))) (plainElem_bool Try.underlying4 v)
  refine ⟨w', hr, ⟨_, ho, fun x => ?_⟩, hg⟩
  by_cases e : x = s
  · subst e
    rw [atKey_put_same hD (by simp [WideAt.IsKeyLit])]
    simp
  · rw [atKey_put_other (lit_ne (by omega)), h2 x]
    simp [e]
/-! clear -/
/-- a row that is the call's own is overwritten -/
def Wiped (w w' : World) (v : Value) (e : TypeId) : Prop :=
  w' = w ∨ ∃ (g : Nat) (cur cur' : Array Value), v.ownBlock = some g ∧ w.heap[g]? = some (.cells cur e (0, 0)) ∧ cur'.size = cur.size ∧ w' = w.setRow g cur'
theorem run_clear_own {P : Program} (w : World) (base : Nat) (t e : TypeId) (z : Value) (size : Nat) (ht : P.underlying t = some (.slice e)) (hz : (zeroValue e).run P w = .ok z w) (hzs : z.cells.size = size)
    (A : Option Addr) (n c : Nat) (xs : List Value) (hz1 : ∀ u ∈ (Builtin.zeroCells z.cells n).toList, u.oneCell' = true) (h : w.ownsRow base e size (.slice A n c) n xs) :
    ∃ w', (∀ ty, (Builtin.clear_ #[t] ty #[.slice A n c]).run P w = .ok (.tuple #[]) w') ∧ Wiped w w' (.slice A n c) e := by
  have hzl : (Builtin.zeroCells z.cells n).toList.length = n * size := by unfold Builtin.zeroCells; simp [hzs]
  by_cases hn0 : n = 0
  · subst hn0
    refine ⟨w, fun ty => ?_, .inl rfl⟩
    cases A <;> simp [Builtin.clear_, run_underlying ht]
  · rcases h.2 with ⟨_, h0⟩ | ⟨g, cap, cur, e1, hg, hb, hnc, hm, hs, hc⟩
    · exact absurd h0 hn0
    simp only [Value.slice.injEq, true_and] at e1
    obtain ⟨rfl, rfl⟩ := e1
    have hfit : 0 + 0 + (Builtin.zeroCells z.cells n).toList.length ≤ cur.size := by
      rw [hzl, hs]
      have := Nat.mul_le_mul_right size hnc
      omega
    have hst := run_storeCells_at P g 0 e (Builtin.zeroCells z.cells n).toList 0 cur w hb hfit hz1
    simp only [List.take_zero, List.nil_append, Nat.zero_add, Nat.add_zero] at hst
    refine ⟨w.setRow g ((Builtin.zeroCells z.cells n).toList ++ cur.toList.drop (Builtin.zeroCells z.cells n).toList.length).toArray, fun ty => ?_, .inr ⟨g, cur, _, rfl, hb, ?_, rfl⟩⟩
    · obtain ⟨k, rfl⟩ : ∃ k, n = k + 1 := ⟨n - 1, by omega⟩
      simp [Builtin.clear_, run_underlying ht, hz, hst]
    · simp only [List.size_toArray, List.length_append, List.length_drop, Array.length_toList]
      simp only [Array.length_toList, Nat.zero_add] at hfit
      omega
section
variable {w w' : World} {v : Value} {e : TypeId}
theorem Wiped.ext {wB : World} (h : Wiped w w' v e) (he : Ext wB w) (hb : ∀ g, v.ownBlock = some g → wB.heap.size ≤ g) : Ext wB w' := by
  rcases h with rfl | ⟨g, cur, cur', h1, _, _, rfl⟩
  · exact he
  · exact he.setRow (hb g h1) _
theorem Wiped.blk {k : Nat} {t : TypeId} {cs : Array Value} (h : Wiped w w' v e) (hk : Blk w k t cs) (hne : t ≠ e) : Blk w' k t cs := by
  rcases h with rfl | ⟨g, cur, cur', _, h2, _, rfl⟩
  · exact hk
  · exact hk.rowFar (Blk.ne_ hk h2 hne) _
theorem Wiped.size (h : Wiped w w' v e) : w'.heap.size = w.heap.size := by
  rcases h with rfl | ⟨g, cur, cur', _, _, _, rfl⟩
  · rfl
  · exact size_setRow w g _
/-- another row keeps what it holds -/
theorem Wiped.rowFar {base size n : Nat} {t : TypeId} {u : Value} {xs : List Value} (h : Wiped w w' v e) (hu : w.ownsRow base t size u n xs) (hne : t ≠ e ∨ ∀ g, v.ownBlock = some g → g < base) : w'.ownsRow base t size u n xs := by
  rcases h with rfl | ⟨g, cur, cur', h1, h2, _, rfl⟩
  · exact hu
  · refine ⟨hu.1, ?_⟩
    rcases hu.2 with hn | ⟨k, cap, c2, rfl, hg, hb, r⟩
    · exact .inl hn
    · refine .inr ⟨k, cap, c2, rfl, hg, (setRow_other w g k _ ?_).trans hb, r⟩
      rcases hne with hne | hne
      · exact Blk.ne_ hb h2 hne
      · have := hne g h1; omega
/-- a row may be overwritten; it lies where it lay -/
theorem Wiped.row {base size n : Nat} {t : TypeId} {u : Value} (h : Wiped w w' v e) (hu : ∃ xs, w.ownsRow base t size u n xs) : ∃ xs, w'.ownsRow base t size u n xs := by
  rcases h with rfl | ⟨g, cur, cur', h1, h2, h3, rfl⟩
  · exact hu
  · obtain ⟨xs, hl, hu⟩ := hu
    rcases hu with hn | ⟨k, cap, c2, rfl, hg, hb, r1, r2, r3, r4⟩
    · exact ⟨xs, hl, .inl hn⟩
    · by_cases hk : k = g
      · subst hk
        rw [hb] at h2
        simp only [Option.some.injEq, Obj.cells.injEq, and_true] at h2
        obtain ⟨rfl, rfl⟩ := h2
        have hle := Nat.mul_le_mul_right size r1
        refine ⟨cur'.toList.take (n * size), ?_, .inr ⟨k, cap, cur', rfl, hg, setRow_heap _ _ _ _ _ _ hb, r1, r2, by omega, rfl⟩⟩
        rw [List.length_take, Array.length_toList]
        omega
      · exact ⟨xs, hl, .inr ⟨k, cap, c2, rfl, hg, (setRow_other w g k _ hk).trans hb, r1, r2, r3, r4⟩⟩
end
end Go.Proofs.Pet

namespace Go.Proofs.Pet
open Go Go.RowKit Go.Maps Go.Shelf

/-- a list of numbers of the call's own, whatever they are -/
def RowN (w : World) (base : Nat) (v : Value) (n : Nat) : Prop := ∃ xs, w.ownsRow base 3 1 v n xs
/-- orders, their looms whatever they are -/
def OrdSh (w : World) (base : Nat) : List Value → List Ord → Prop
  | [], [] => True
  | p :: d :: b :: s :: cs, x :: xs => p = .int .i64 x.pattern ∧ d = .int .i64 x.days ∧ b = .int .i64 x.by_ ∧ RowN w base s x.on.length ∧ OrdSh w base cs xs
  | _, _ => False
/-- a mill of the call's own, below block T -/
def Clr (w : World) (base T : Nat) (v1 v2 : Value) (m : Mill) : Prop :=
  RowN w base v1 m.laced.length ∧ ∃ cs, w.ownsRow base 78 4 v2 m.orders.length cs ∧ OrdSh w base cs m.orders ∧ ∀ g, v2.ownBlock = some g → g < T
theorem OrdSh.map {w w' : World} {base : Nat} (f : ∀ u n, RowN w base u n → RowN w' base u n) : ∀ {cs : List Value} {xs : List Ord}, OrdSh w base cs xs → OrdSh w' base cs xs
  | [], [], _ => trivial
  | _p :: _d :: _b :: _s :: _cs, _x :: _xs, ⟨h1, h2, h3, h4, h5⟩ => ⟨h1, h2, h3, f _ _ h4, h5.map f⟩
theorem OrdSh.of {w : World} {base : Nat} : ∀ {cs : List Value} {xs : List Ord}, OrdOwn w base cs xs → OrdSh w base cs xs
  | [], [], _ => trivial
  | _p :: _d :: _b :: _s :: _cs, _x :: _xs, ⟨h1, h2, h3, h4, h5⟩ => ⟨h1, h2, h3, ⟨_, h4⟩, OrdSh.of h5⟩
theorem OrdSh.get {w : World} {base : Nat} : ∀ {cs : List Value} {xs : List Ord}, OrdSh w base cs xs → ∀ k, k < xs.length → ∃ s, cs[k * 4]? = some (.int .i64 (xs[k]?.getD default).pattern) ∧
      cs[k * 4 + 1]? = some (.int .i64 (xs[k]?.getD default).days) ∧ cs[k * 4 + 2]? = some (.int .i64 (xs[k]?.getD default).by_) ∧ cs[k * 4 + 3]? = some s ∧ RowN w base s (xs[k]?.getD default).on.length
  | [], [], _, k, hk => by simp at hk
  | p :: d :: b' :: s :: cs, x :: xs, ⟨h1, h2, h3, h4, h7⟩, k, hk => by
    subst h1; subst h2; subst h3
    rcases k with _ | k
    · exact ⟨s, rfl, rfl, rfl, rfl, h4⟩
    · have := OrdSh.get h7 k (by simpa using hk)
      have e1 : (k + 1) * 4 = k * 4 + 1 + 1 + 1 + 1 := by omega
      rw [e1]
      simpa using this
  | [], _ :: _, h, _, _ => by simp [OrdSh] at h
  | _ :: _, [], h, _, _ => by simp [OrdSh] at h
  | [_], _ :: _, h, _, _ => by simp [OrdSh] at h
  | [_, _], _ :: _, h, _, _ => by simp [OrdSh] at h
  | [_, _, _], _ :: _, h, _, _ => by simp [OrdSh] at h
theorem Clr.of {w : World} {base : Nat} {v1 v2 : Value} {m : Mill} (h1 : OwnI w base 3 v1 m.laced) (h2 : OwnOB w base v2 m.orders) : Clr w base w.heap.size v1 v2 m := by
  obtain ⟨cs, g1, g2⟩ := h2
  exact ⟨⟨_, h1⟩, cs, g1, OrdSh.of g2, fun g hg => (ownsRow_own g1 g hg).2⟩
theorem Clr.zero (w : World) (base : Nat) : Clr w base w.heap.size (.slice none 0 0) (.slice none 0 0) ⟨[], 0, []⟩ := ⟨⟨[], World.ownsRow_nil _ _ _ _⟩, [], World.ownsRow_nil _ _ _ _, trivial, fun g h => by cases h⟩
theorem Clr.ext {w w' : World} {base T : Nat} {v1 v2 : Value} {m : Mill} (h : Clr w base T v1 v2 m) (he : Ext w w') : Clr w' base T v1 v2 m := by
  obtain ⟨⟨xs, h1⟩, cs, g1, g2, g3⟩ := h
  exact ⟨⟨xs, ownsRow_ext2 h1 he⟩, cs, ownsRow_ext2 g1 he, g2.map fun _ _ ⟨ys, g⟩ => ⟨ys, ownsRow_ext2 g he⟩, g3⟩
theorem Clr.wipeI {w w' : World} {base T : Nat} {v v1 v2 : Value} {m : Mill} (h : Clr w base T v1 v2 m) (hw : Wiped w w' v 3) : Clr w' base T v1 v2 m := by
  obtain ⟨h1, cs, g1, g2, g3⟩ := h
  exact ⟨hw.row h1, cs, hw.rowFar g1 (.inl (by decide)), g2.map fun _ _ g => hw.row g, g3⟩
theorem Clr.wipeO {w w' : World} {base T : Nat} {v v1 v2 : Value} {m : Mill} (h : Clr w base T v1 v2 m) (hw : Wiped w w' v 78) (hb : ∀ g, v.ownBlock = some g → g < base) : Clr w' base T v1 v2 m := by
  obtain ⟨h1, cs, g1, g2, g3⟩ := h
  exact ⟨hw.row h1, cs, hw.rowFar g1 (.inr hb), g2.map fun _ _ g => hw.row g, g3⟩
theorem RowN.ge {w : World} {base n : Nat} {v : Value} (h : RowN w base v n) : ∀ g, v.ownBlock = some g → base ≤ g := by
  obtain ⟨xs, h⟩ := h
  exact fun g hg => (ownsRow_own h g hg).1
theorem RowN.slice {w : World} {base n : Nat} {v : Value} (h : RowN w base v n) : ∃ A c, v = .slice A n c := by
  obtain ⟨xs, h⟩ := h
  obtain ⟨A, c, e⟩ := ownsRow_slice h
  exact ⟨A, c, e⟩
theorem Clr.slice {w : World} {base T : Nat} {v1 v2 : Value} {m : Mill} (h : Clr w base T v1 v2 m) : ∃ A c, v2 = .slice A m.orders.length c := by
  obtain ⟨_, cs, h, _⟩ := h
  obtain ⟨A, c, e⟩ := ownsRow_slice h
  exact ⟨A, c, e⟩
theorem Clr.at_ {w : World} {base T : Nat} {v1 : Value} {A : Option Addr} {c : Nat} {m : Mill} (h : Clr w base T v1 (.slice A m.orders.length c) m) (k : Nat) (hk : k < m.orders.length) :
    ∃ b o s, A = some ⟨b, o, none⟩ ∧ w.cell? ⟨b, o + k * 4, none⟩ = some (.int .i64 (m.orders[k]?.getD default).pattern) ∧ w.cell? ⟨b, o + k * 4 + 1, none⟩ = some (.int .i64 (m.orders[k]?.getD default).days) ∧
      w.cell? ⟨b, o + k * 4 + 2, none⟩ = some (.int .i64 (m.orders[k]?.getD default).by_) ∧ w.cell? ⟨b, o + k * 4 + 3, none⟩ = some s ∧ RowN w base s (m.orders[k]?.getD default).on.length := by
  obtain ⟨_, cs, ⟨_, h2⟩, h3, _⟩ := h
  rcases h2 with ⟨_, h0⟩ | ⟨g, cap, cur, e, hg, hb, hn, hm, hs, hc⟩
  · omega
  · simp only [Value.slice.injEq, true_and] at e
    obtain ⟨rfl, rfl⟩ := e
    obtain ⟨s, q1, q2, q3, q4, q5⟩ := h3.get k hk
    have hcell := row_cell hb hc
    refine ⟨g, 0, s, rfl, ?_, ?_, ?_, ?_, q5⟩
    · exact hcell _ _ q1
    · have := hcell _ _ q2; rwa [← Nat.add_assoc] at this
    · have := hcell _ _ q3; rwa [← Nat.add_assoc] at this
    · have := hcell _ _ q4; rwa [← Nat.add_assoc] at this
theorem clear_int (w : World) {base n : Nat} {A : Option Addr} {c : Nat} (h : RowN w base (.slice A n c) n) :
    ∃ w', (∀ ty, (Builtin.clear_ #[22] ty #[.slice A n c]).run Try.prog w = .ok (.tuple #[]) w') ∧ Wiped w w' (.slice A n c) 3 := by
  obtain ⟨xs, h⟩ := h
  refine run_clear_own w base 22 3 (.int .i64 0) 1 Try.underlying22 (zero_int w) rfl A n c xs (fun u hu => ?_) h
  unfold Builtin.zeroCells at hu
  simp only [Value.cells] at hu
  obtain ⟨i, _, rfl⟩ := by simpa using hu
  rw [Nat.mod_one]; rfl
theorem zero_order (w : World) : (zeroValue 78).run Try.prog w = .ok (.agg #[.int .i64 0, .int .i64 0, .int .i64 0, .slice none 0 0]) w := by kernel_rfl
theorem clear_ord (w : World) {base T : Nat} {v1 : Value} {A : Option Addr} {c : Nat} {m : Mill} (h : Clr w base T v1 (.slice A m.orders.length c) m) :
    ∃ w', (∀ ty, (Builtin.clear_ #[23] ty #[.slice A m.orders.length c]).run Try.prog w = .ok (.tuple #[]) w') ∧ Wiped w w' (.slice A m.orders.length c) 78 := by
  obtain ⟨_, cs, h, _⟩ := h
  refine run_clear_own w base 23 78 (.agg #[.int .i64 0, .int .i64 0, .int .i64 0, .slice none 0 0]) 4 Try.underlying23 (zero_order w) rfl A m.orders.length c cs (fun u hu => ?_) h
  unfold Builtin.zeroCells at hu
  simp only [Value.cells, Array.toList_map, List.mem_map] at hu
  obtain ⟨i, _, rfl⟩ := hu
  have h4 : i % 4 = 0 ∨ i % 4 = 1 ∨ i % 4 = 2 ∨ i % 4 = 3 := by omega
  show (#[Value.int .i64 0, .int .i64 0, .int .i64 0, .slice none 0 0][i % 4]!).oneCell' = true
  rcases h4 with h | h | h | h <;> rw [h] <;> rfl
/-- what Take and Without return may be cleared, and reads as a mill -/
theorem TakeRes.clr {w : World} {base : Nat} {v : Value} {r : Int} {m : Mill} (h : TakeRes w base v r m) :
    ∃ a b, v = .agg #[a, .int .i64 (if r = 0 then m else ⟨[], 0, []⟩).change, b] ∧ Clr w base w.heap.size a b (if r = 0 then m else ⟨[], 0, []⟩) ∧ MillVal w v (if r = 0 then m else ⟨[], 0, []⟩) := by
  rcases h with ⟨h, a, b, rfl, h1, h2⟩ | ⟨h, rfl⟩
  · rw [if_pos h]
    exact ⟨a, b, rfl, Clr.of h1 h2, MillVal.ofOB h1 h2⟩
  · rw [if_neg h]
    exact ⟨_, _, rfl, Clr.zero w base, ⟨none, 0, none, 0, rfl, Nat.le_refl _, Nat.zero_le _, Nat.le_refl _, Nat.zero_le _, fun k hk => absurd hk (by simp), fun k hk => absurd hk (by simp)⟩⟩
end Go.Proofs.Pet

namespace Go.Proofs.Pet
open Go Go.RowKit Go.Maps Go.Shelf

set_option maxRecDepth 20000 in
set_option maxHeartbeats 2000000 in
theorem theirs_row (v : Value) (m : Mill) (w : World) (hv : MillVal w v m) (hn : m.orders.length ≤ 1000) :
    Calls Try.prog 19 #[v] w fun e w' => ∃ A1 c1 AO cO cs, e = .returned (.agg #[.slice A1 m.laced.length c1, .int .i64 m.change, .slice AO m.orders.length cO]) ∧ (m.laced.length ≤ c1 ∧ c1 ≤ maxLen) ∧ IntsAt w A1 m.laced ∧
      w'.ownsRow w.heap.size 80 4 (.slice AO m.orders.length cO) m.orders.length cs ∧ OrdList w cs m.orders ∧ Ext w w' := by
  have H0 := Lib.hid (Ext.refl w)
  obtain ⟨ti, hi, hz0, hz1, hz2⟩ := info_parts info_order5
  obtain ⟨A1, c1, A2, c2, rfl, h2, h3, h4, h5, h6, h7⟩ := hv
  have Hc := Lib.hid (And.intro h2 (And.intro h3 (And.intro h4 h5)))
  have H6 := Lib.hid h6; have H7 := Lib.hid h7; clear h6 h7
  have hE0 : Ext w ((w.alloc (.cells #[.slice A1 m.laced.length c1, .int .i64 m.change, .slice A2 m.orders.length c2] 25)).alloc (.cells #[.slice none 0 0, .int .i64 0, .slice none 0 0] 31)) := (Ext.alloc _ _).trans (Ext.alloc _ _)
  have hM0 := (Blk.new w 25 #[.slice A1 m.laced.length c1, .int .i64 m.change, .slice A2 m.orders.length c2]).alloc (.cells #[.slice none 0 0, .int .i64 0, .slice none 0 0] 31)
  have hT0 := Blk.new (w.alloc (.cells #[.slice A1 m.laced.length c1, .int .i64 m.change, .slice A2 m.orders.length c2] 25)) 31 #[.slice none 0 0, .int .i64 0, .slice none 0 0]
  rw [World.size_alloc] at hT0
  obtain ⟨k0, k1, k2⟩ := hM0.c3
  clear h3 h5
  go_enter Try.func19, Try.ntmps19
  go_wp2_with (refine wpList_store_row rfl 31 _ _ rfl _ #[.slice A1 m.laced.length c1, .int .i64 m.change, .slice none 0 0] rfl rfl 31 _ (Blk.new _ 31 #[.slice none 0 0, .int .i64 0, .slice none 0 0]) (by kernel_rfl) rfl (by simp only [List.all_toArray, List.all_cons, List.all_nil]; rfl) ?_)
  have hE1 := hE0.trans (Ext.alloc _ (.cells #[.slice A1 m.laced.length c1, .int .i64 m.change, .slice none 0 0] 31))
  have hM1 := hM0.alloc (.cells #[.slice A1 m.laced.length c1, .int .i64 m.change, .slice none 0 0] 31)
  have hT1 := hT0.alloc (.cells #[.slice A1 m.laced.length c1, .int .i64 m.change, .slice none 0 0] 31)
  have hO1 := Blk.new ((w.alloc (.cells #[.slice A1 m.laced.length c1, .int .i64 m.change, .slice A2 m.orders.length c2] 25)).alloc (.cells #[.slice none 0 0, .int .i64 0, .slice none 0 0] 31)) 31 #[.slice A1 m.laced.length c1, .int .i64 m.change, .slice none 0 0]
  rw [World.size_alloc, World.size_alloc] at hO1
  clear hE0 hM0 hT0 k0 k1 k2
  generalize ((w.alloc _).alloc _).alloc _ = W at *
  have hO1' : Blk W (w.heap.size + 2) 31 #[.slice A1 m.laced.length c1, .int .i64 m.change, .slice none 0 0] := hO1
  have e2 : w.heap.size + 1 + 1 = w.heap.size + 2 := rfl
  rw [e2]
  clear hO1
  go_loopw [14] (fun iv wr => ∃ (k : Nat) (ov : Value) (cs : List Value), k ≤ m.orders.length ∧ iv = .int .i64 k ∧ Ext w wr ∧ Blk wr w.heap.size 25 #[.slice A1 m.laced.length c1, .int .i64 m.change, .slice A2 m.orders.length c2] ∧
      Blk wr (w.heap.size + 1) 31 #[.slice none 0 0, .int .i64 0, .slice none 0 0] ∧ Blk wr (w.heap.size + 2) 31 #[.slice A1 m.laced.length c1, .int .i64 m.change, ov] ∧
      Hid (wr.ownsRow (w.heap.size + 3) 80 4 ov k cs) ∧ Hid (OrdList w cs (m.orders.take k))) (fun iv _ => m.orders.length - (intOf iv).toNat)
  case atStart => exact ⟨0, .slice none 0 0, [], by omega, rfl, hE1, hM1, hT1, hO1', World.ownsRow_nil _ _ _ _, trivial⟩
  case round =>
    clear hE1 hM1 hT1 hO1'
    obtain ⟨k, ov, cs, hk, rfl, he, hM, hT, hO, hown, hol⟩ := hrel
    have hOlt := hO.lt
    by_cases hlt : k < m.orders.length
    · obtain ⟨b, o, rfl, A, ca, hca, p1, p2, p3, p4, p5⟩ := H7.out.ext (H0.out.trans he) k hlt
      have hgk := H7.out k hlt
      have htk : Hid (m.orders.take (k + 1) = m.orders.take k ++ [m.orders[k]?.getD default]) := by
        unfold Hid; rw [List.take_succ_eq_append_getElem hlt]; simp [hlt]
      obtain ⟨b', o', e', A', ca', hca', p1', p2', p3', p4', p5'⟩ := hgk
      simp only [Option.some.injEq, Addr.mk.injEq, and_true] at e'
      obtain ⟨rfl, rfl⟩ := e'
      have hA : A' = A ∧ ca' = ca := by
        have h1 := (H0.out.trans he).cell p4'
        rw [p4] at h1
        simp only [Option.some.injEq, Value.slice.injEq] at h1
        exact ⟨h1.1.symm, h1.2.2.symm⟩
      obtain ⟨rfl, rfl⟩ := hA
      have Hp5 := Lib.hid p5'
      clear p1' p2' p3' p4' p5' hca' p5
      generalize m.orders[k]?.getD default = x0 at *
      obtain ⟨AO, cO, rfl⟩ := ownsRow_slice hown.out
      have hb5 := Blk.new wr 78 #[.int .i64 x0.pattern, .int .i64 x0.days, .int .i64 x0.by_, .slice A' x0.on.length ca']
      have hX := Ext.alloc wr (.cells #[.int .i64 x0.pattern, .int .i64 x0.days, .int .i64 x0.by_, .slice A' x0.on.length ca'] 78)
      have hOX := hO.ext hX
      obtain ⟨q0, q1, q2, q3⟩ := hb5.c4
      have r2 := hOX.c3.2.2
      have hge : ∀ j, (Value.slice AO k cO).ownBlock = some j → w.heap.size + 3 ≤ j := by
        intro j hj
        rcases hown.out.2 with ⟨h, _⟩ | ⟨g, cap, cur, h, hg, _⟩
        · rw [h] at hj; cases hj
        · rw [h] at hj
          have : g = j := Option.some.inj hj
          omega
      have hrow2 : Hid (((wr.alloc (.cells #[.int .i64 x0.pattern, .int .i64 x0.days, .int .i64 x0.by_, .slice A' x0.on.length ca'] 78)).alloc (.cells #[.int .i64 x0.pattern, .int .i64 x0.days, .int .i64 x0.by_, .slice A' x0.on.length ca'] 80)).ownsRow (w.heap.size + 3) 80 4 (.slice AO k cO) k cs) := (hown.out.alloc _).alloc _
      have hge' := Lib.hid hge; clear hge
      have hsrc : Hid (Src ((wr.alloc (.cells #[.int .i64 x0.pattern, .int .i64 x0.days, .int .i64 x0.by_, .slice A' x0.on.length ca'] 78)).alloc (.cells #[.int .i64 x0.pattern, .int .i64 x0.days, .int .i64 x0.by_, .slice A' x0.on.length ca'] 80)) (some ⟨wr.heap.size + 1, 0, none⟩) [.int .i64 x0.pattern, .int .i64 x0.days, .int .i64 x0.by_, .slice A' x0.on.length ca']) := by
        have hb6 := Blk.new (wr.alloc (.cells #[.int .i64 x0.pattern, .int .i64 x0.days, .int .i64 x0.by_, .slice A' x0.on.length ca'] 78)) 80 #[.int .i64 x0.pattern, .int .i64 x0.days, .int .i64 x0.by_, .slice A' x0.on.length ca']
        rw [World.size_alloc] at hb6
        refine .inr ⟨_, rfl, fun j u hj => ?_⟩
        have e : (⟨wr.heap.size + 1, 0, none⟩ : Addr).add j = ⟨wr.heap.size + 1, j, none⟩ := by unfold Addr.add; split <;> simp_all
        rw [e, hb6.cell, List.getElem?_toArray]
        exact hj
      have hOXX := hOX.alloc (.cells #[.int .i64 x0.pattern, .int .i64 x0.days, .int .i64 x0.by_, .slice A' x0.on.length ca'] 80)
      have hONe := Lib.hid (ownsRow_ne_blk hrow2.out hOXX (by decide))
      go_wp2_with (at_builtin; refine wpList_app rfl _ _ 29 rfl (w.heap.size + 3) 80 ti _ 4 48 Try.underlying29 hi hz0 hz1 hz2 rfl (by decide) _ _ _ rfl hrow2.out (some ⟨wr.heap.size + 1, 0, none⟩) 1 1 [.int .i64 x0.pattern, .int .i64 x0.days, .int .i64 x0.by_, .slice A' x0.on.length ca'] rfl rfl hsrc.out ?c2 ?c3 ?c4 ?c5 ?_; (case c2 => (intro u hu; simp only [List.mem_cons, List.not_mem_nil, or_false] at hu; rcases hu with rfl | rfl | rfl | rfl <;> rfl)); (case c3 => (unfold maxLen; omega)); (case c4 => omega); (case c5 => (simp; omega)); intro v' w' hown' hg hblk; obtain ⟨AV, cV, rfl⟩ := ownsRow_slice hown'; have hOw := hOXX.grown hg hONe.out; have rW := hOw.c3.2.2; have fW := hOw.frozen 2)
      go_roundw
      case rel =>
        have hXX := hX.trans (Ext.alloc (wr.alloc (.cells #[.int .i64 x0.pattern, .int .i64 x0.days, .int .i64 x0.by_, .slice A' x0.on.length ca'] 78)) (.cells #[.int .i64 x0.pattern, .int .i64 x0.days, .int .i64 x0.by_, .slice A' x0.on.length ca'] 80))
        have hMw := (hM.ext hXX).grown hg (ownsRow_ne_blk hrow2.out (hM.ext hXX) (by decide))
        have hTw := (hT.ext hXX).grown hg (ownsRow_ne_blk hrow2.out (hT.ext hXX) (by decide))
        have hsz := (he.trans hXX).size
        have hew : Ext w w' := Below.grown (he.trans hXX) hg hsz (fun j hj => by have := hge'.out j hj; omega)
        refine ⟨k + 1, _, cs ++ [.int .i64 x0.pattern, .int .i64 x0.days, .int .i64 x0.by_, .slice A' x0.on.length ca'], by omega, by go_num, Below.setCell hew (by show _ ≤ w.heap.size + 2; omega) _, hMw.far (by show _ ≠ w.heap.size + 2; omega) _, hTw.far (by show _ ≠ w.heap.size + 2; omega) _, by simpa using hOw.set_ 2 (.slice AV (k + 1) cV), ?_, ?_⟩
        · exact ownsRow_apart hown' (fun e => ownsRow_ne_blk hown' hOw (by decide) e.symm) ((Apart.refl (w.heap.size + 2) w').set_ 2 _)
        · unfold Hid
          rw [htk.out]
          exact hol.out.append ⟨rfl, rfl, rfl, ⟨A', ca', hca, rfl, Hp5.out⟩, trivial⟩
      case measure => simp [intOf]; omega
    · obtain rfl : k = m.orders.length := by omega
      obtain ⟨AO, cO, rfl⟩ := ownsRow_slice hown.out
      obtain ⟨q0, q1, q2⟩ := hO.c3
      go_wp2_with (refine wpList_store_row rfl 31 _ _ rfl _ #[.slice A1 m.laced.length c1, .int .i64 m.change, .slice AO m.orders.length cO] rfl rfl 31 _ hT (by kernel_rfl) rfl (by simp only [List.all_toArray, List.all_cons, List.all_nil]; rfl) ?_)
      have hWf : Apart (w.heap.size + 1) wr (wr.setRow (w.heap.size + 1) #[.slice A1 m.laced.length c1, .int .i64 m.change, .slice AO m.orders.length cO]) :=
        ⟨rfl, rfl, rfl, by simp [World.setRow], fun j _ hne => setRow_other wr _ j _ hne⟩
      have hbf := hT.row #[.slice A1 m.laced.length c1, .int .i64 m.change, .slice AO m.orders.length cO]
      have heF : Ext w (wr.setRow (w.heap.size + 1) #[.slice A1 m.laced.length c1, .int .i64 m.change, .slice AO m.orders.length cO]) := he.setRow (by omega) _
      have hrowF := ownsRow_mono (ownsRow_apart hown.out (fun e => ownsRow_ne_blk hown.out hT (by decide) e.symm) hWf) (by omega : w.heap.size ≤ w.heap.size + 3)
      have hols := hol.out
      rw [List.take_length] at hols
      have Hrow := Lib.hid hrowF; have Hols := Lib.hid hols
      clear hrowF hols hT hWf hown hol hO hM q0 q1 q2
      generalize wr.setRow _ _ = Wf at *
      obtain ⟨v0, v1, v2⟩ := hbf.c3
      refine bodyPost_ret (v := .agg #[.slice A1 m.laced.length c1, .int .i64 m.change, .slice AO m.orders.length cO]) ?_ rfl ⟨A1, c1, AO, cO, rfl, ⟨Hc.out.1, Hc.out.2.1⟩, H6.out, cs, Hrow.out, Hols.out, heF⟩
      simp [results, Try.results19, go_sem, v0, v1, v2]
/-- rows of lists apart are rows of the call's own -/
theorem OrdOwn.mk {w : World} {base : Nat} : ∀ (os : List Ord) (cs : List Value), cs.length = os.length * 4 →
    (∀ k, k < os.length → cs[k * 4]? = some (.int .i64 (os[k]?.getD default).pattern) ∧ cs[k * 4 + 1]? = some (.int .i64 (os[k]?.getD default).days) ∧ cs[k * 4 + 2]? = some (.int .i64 (os[k]?.getD default).by_) ∧ ∃ s, cs[k * 4 + 3]? = some s ∧ OwnI w base 3 s (os[k]?.getD default).on) → OrdOwn w base cs os
  | [], [], _, _ => trivial
  | [], _ :: _, h, _ => by simp at h
  | x :: xs, cs, hl, h => by
    match cs, hl with
    | p :: d :: b :: s :: cs, hl =>
      obtain ⟨h1, h2, h3, s', h4, h5⟩ := h 0 (by simp)
      simp only [Nat.zero_mul, Nat.zero_add, List.getElem?_cons_zero, List.getElem?_cons_succ, Option.getD_some, Option.some.injEq] at h1 h2 h3 h4 h5
      subst h4
      refine ⟨h1, h2, h3, h5, OrdOwn.mk xs cs (by simp at hl; omega) fun k hk => ?_⟩
      have := h (k + 1) (by simpa using hk)
      have e1 : (k + 1) * 4 = k * 4 + 1 + 1 + 1 + 1 := by omega
      rw [e1] at this
      simpa using this
    | [], hl => simp at hl
    | [_], hl => simp at hl; omega
    | [_, _], hl => simp at hl; omega
    | [_, _, _], hl => simp at hl; omega
theorem OwnSep.ob {w : World} {base : Nat} {a v : Value} {os : List Ord} (h : OwnSep w base a v os) : OwnOB w base v os := by
  rcases h with ⟨rfl, rfl⟩ | ⟨gB, c, cur, f, rfl, h2, h3, h4, h5, h6, h7, h8⟩
  · exact OwnOB.nil w base
  · have hl : (cur.toList.take (os.length * 4)).length = os.length * 4 := by rw [List.length_take, Array.length_toList (xs := cur)]; omega
    refine ⟨cur.toList.take (os.length * 4), ⟨by rw [hl], .inr ⟨gB, c, cur, rfl, h2, h3, h4, h5, h6, rfl⟩⟩, OrdOwn.mk _ _ hl fun k hk => ?_⟩
    obtain ⟨x1, x2, x3, x4⟩ := h7 k hk
    have hg : ∀ j, j < os.length * 4 → (cur.toList.take (os.length * 4))[j]? = cur[j]? := fun j hj => by rw [List.getElem?_take, if_pos hj, Array.getElem?_toList]
    rw [hg (k * 4) (by omega), hg (k * 4 + 1) (by omega), hg (k * 4 + 2) (by omega), hg (k * 4 + 3) (by omega)]
    exact ⟨x1, x2, x3, f k, x4 hk, h8.own k hk⟩
/-- an order of the caller's behind those of the call's own -/
theorem OwnOB.pushO {w w' : World} {base : Nat} {v v' : Value} {A : Option Addr} {c : Nat} {cs : List Value} {xs : List Ord} {x : Ord} (h1 : w.ownsRow base 78 4 v xs.length cs) (h2 : OrdOwn w base cs xs) (hc : x.on.length ≤ c ∧ c ≤ maxLen) (hs : IntsAt w' A x.on)
    (hown : w'.ownsRow base 78 4 v' (xs.length + 1) (cs ++ [.int .i64 x.pattern, .int .i64 x.days, .int .i64 x.by_, .slice A x.on.length c])) (hg : w.grownBy w' v.ownBlock) : OwnO w' base 78 v' (xs ++ [x]) := by
  refine ⟨_, by rw [List.length_append]; exact hown, ?_⟩
  exact (OrdOwn.map (fun _ _ g => g.grownT (by decide) hg h1) h2).list.append ⟨rfl, rfl, rfl, ⟨A, c, hc, rfl, hs⟩, trivial⟩
theorem MillVal.ofO {w : World} {base c1 : Nat} {e : TypeId} {A1 : Option Addr} {b : Value} {m : Mill} (h1 : m.laced.length ≤ c1) (h2 : c1 ≤ maxLen) (h3 : IntsAt w A1 m.laced) (hb : OwnO w base e b m.orders) : MillVal w (.agg #[.slice A1 m.laced.length c1, .int .i64 m.change, b]) m := by
  obtain ⟨A2, c2, rfl, g1, g2, g3, _⟩ := hb.open_
  exact ⟨A1, c1, A2, c2, rfl, h1, h2, g1, g2, h3, g3⟩
theorem Clr.len {w : World} {base T : Nat} {v1 v2 : Value} {m : Mill} (h : Clr w base T v1 v2 m) : m.orders.length ≤ 9223372036854775807 := by
  obtain ⟨_, cs, ⟨_, h⟩, _⟩ := h
  rcases h with ⟨_, h0⟩ | ⟨g, cap, cur, _, _, _, hn, hm, _⟩
  · omega
  · unfold maxLen at hm; omega
/-- the mill that stands for none -/
def noMill : Mill := ⟨[], 0, []⟩
def moreM (m : Mill) (o : Ord) (u : Int) : Mill := if u = 0 then m.more o else noMill
def lessM (m : Mill) (xs : List Int) (u : Int) : Mill := if u = 0 then m.without xs else noMill
/-- a cell that holds a mill -/
def MillAt (w : World) (g : Nat) (m : Mill) : Prop := ∃ a b, Blk w g 25 #[a, .int .i64 m.change, b] ∧ MillVal w (.agg #[a, .int .i64 m.change, b]) m
theorem MillAt.ext {w w' : World} {g : Nat} {m : Mill} (h : MillAt w g m) (he : Ext w w') : MillAt w' g m := by
  obtain ⟨a, b, h1, h2⟩ := h
  exact ⟨a, b, h1.ext he, h2.ext he⟩
instance {w w' : World} {g : Nat} {m : Mill} : Lift (MillAt w g m) w w' (MillAt w' g m) := ⟨fun he h => h.ext he⟩
theorem noMill_val (w : World) : MillVal w (.agg #[.slice none 0 0, .int .i64 0, .slice none 0 0]) noMill :=
  ⟨none, 0, none, 0, rfl, Nat.le_refl _, Nat.zero_le _, Nat.le_refl _, Nat.zero_le _, fun k hk => absurd hk (by simp [noMill]), fun k hk => absurd hk (by simp [noMill])⟩
instance {w w' : World} {b : Nat} {v : Value} {xs : List Int} : Lift (OwnI w b 3 v xs) w w' (OwnI w' b 3 v xs) := ⟨fun he h => h.ext he⟩
/-- no list of looms lies in a block of S -/
def OrdOff (S : Nat → Prop) : List Value → List Ord → Prop
  | _ :: _ :: _ :: s :: cs, x :: xs => (x.on ≠ [] → ∀ A n c, s = .slice A n c → ∀ ad, A = some ad → ¬ S ad.block) ∧ OrdOff S cs xs
  | _, _ => True
theorem OrdOff.get {S : Nat → Prop} : ∀ (cs : List Value) (xs : List Ord), OrdOff S cs xs → ∀ k, k < xs.length → ∀ s, cs[k * 4 + 3]? = some s → (xs[k]?.getD default).on ≠ [] → ∀ A n c, s = .slice A n c → ∀ ad, A = some ad → ¬ S ad.block
  | p :: d :: b :: s :: cs, x :: xs, ⟨h1, h2⟩, 0, _, s', hs => by
    simp only [Nat.zero_mul, Nat.zero_add, List.getElem?_cons_zero, List.getElem?_cons_succ, Option.getD_some, Option.some.injEq] at hs ⊢
    subst hs
    exact h1
  | p :: d :: b :: s :: cs, x :: xs, ⟨h1, h2⟩, k + 1, hk, s', hs => by
    have e1 : (k + 1) * 4 + 3 = k * 4 + 3 + 1 + 1 + 1 + 1 := by omega
    rw [e1] at hs
    have := OrdOff.get cs xs h2 k (by simpa using hk) s' (by simpa using hs)
    simpa using this
  | [], _, _, _, _, _, hs => by simp at hs
  | _ :: _, [], _, _, hk, _, _ => by simp at hk
  | [_], _ :: _, _, _, _, _, hs => by simp at hs
  | [_, _], _ :: _, _, _, _, _, hs => by simp at hs
  | [_, _, _], _ :: _, _, k, _, _, hs => by simp at hs
theorem OrdOwn.off {w : World} {base : Nat} {S : Nat → Prop} (hS : ∀ b, base ≤ b → ¬ S b) : ∀ {cs : List Value} {xs : List Ord}, OrdOwn w base cs xs → OrdOff S cs xs
  | [], [], _ => trivial
  | _ :: _ :: _ :: s :: cs, x :: xs, ⟨_, _, _, h4, h5⟩ => ⟨fun _ A n c e ad e2 => by
      obtain ⟨A', c', e', _, _, _, h6, _⟩ := h4.open_
      rw [e] at e'
      injection e' with e1 _ _
      exact hS _ (h6 ad (by rw [← e1]; exact e2)).1, OrdOwn.off hS h5⟩
theorem OrdOff.append {S : Nat → Prop} {ds : List Value} {ys : List Ord} (h2 : OrdOff S ds ys) {w : World} : ∀ {cs : List Value} {xs : List Ord}, OrdList w cs xs → OrdOff S cs xs → OrdOff S (cs ++ ds) (xs ++ ys)
  | [], [], _, _ => h2
  | _ :: _ :: _ :: _ :: _, _ :: _, ⟨_, _, _, _, h⟩, ⟨h3, h4⟩ => ⟨h3, h2.append h h4⟩
  | [], _ :: _, h, _ => by simp [OrdList] at h
  | _ :: _, [], h, _ => by simp [OrdList] at h
  | [_], _ :: _, h, _ => by simp [OrdList] at h
  | [_, _], _ :: _, h, _ => by simp [OrdList] at h
  | [_, _, _], _ :: _, h, _ => by simp [OrdList] at h
theorem MillValS.ofO {w : World} {base c1 : Nat} {e : TypeId} {A1 : Option Addr} {b : Value} {m : Mill} {S : Nat → Prop} {cs : List Value} (hS : ∀ b, base ≤ b → ¬ S b) (h1 : m.laced.length ≤ c1) (h2 : c1 ≤ maxLen) (h3 : IntsAt w A1 m.laced) (h4 : m.laced ≠ [] → ∀ ad, A1 = some ad → ¬ S ad.block)
    (hb : w.ownsRow base e 4 b m.orders.length cs) (hl : OrdList w cs m.orders) (ho : OrdOff S cs m.orders) : MillValS S w (.agg #[.slice A1 m.laced.length c1, .int .i64 m.change, b]) m := by
  have hb0 := hb
  obtain ⟨_, h5⟩ := hb
  rcases h5 with ⟨rfl, h0⟩ | ⟨g, cap, cur, rfl, hg, hb, hn, hm, hs, hc⟩
  · refine ⟨A1, c1, none, 0, by rw [h0], h1, h2, by omega, Nat.zero_le _, h3, h4, fun k hk => by omega⟩
  · refine ⟨A1, c1, some ⟨g, 0, none⟩, cap, rfl, h1, h2, hn, hm, h3, h4, fun k hk => ?_⟩
    obtain ⟨A, c, q1, q2, q3, q4, q5, q6⟩ := hl.get k hk
    have hcur := row_cell hb hc
    exact ⟨g, 0, rfl, hS _ hg, A, c, q1, hcur _ _ q2, hcur _ _ q3, hcur _ _ q4, hcur _ _ q5, q6, fun hne ad e => OrdOff.get _ _ ho k hk _ q5 hne A _ c rfl ad e⟩
/-- a cell that holds a mill none of whose arrays lies in a block -/
def MillAtS (w : World) (g q : Nat) (m : Mill) : Prop := ∃ a b, Blk w g 25 #[a, .int .i64 m.change, b] ∧ MillValS (fun j => j = q) w (.agg #[a, .int .i64 m.change, b]) m
theorem MillAtS.ext {w w' : World} {g q : Nat} {m : Mill} (h : MillAtS w g q m) (he : Ext w w') : MillAtS w' g q m := by
  obtain ⟨a, b, h1, h2⟩ := h
  exact ⟨a, b, h1.ext he, h2.ext he⟩
theorem MillAtS.apart {w w' : World} {g q : Nat} {m : Mill} (h : MillAtS w g q m) (hne : g ≠ q) (ha : Apart q w w') : MillAtS w' g q m := by
  obtain ⟨a, b, h1, h2⟩ := h
  exact ⟨a, b, h1.apart hne ha, h2.apart rfl ha⟩
theorem MillAtS.at_ {w : World} {g q : Nat} {m : Mill} (h : MillAtS w g q m) : MillAt w g m := by
  obtain ⟨a, b, h1, h2⟩ := h
  exact ⟨a, b, h1, h2.val⟩
theorem MillAtS.none_ {w : World} {g q : Nat} (h : Blk w g 25 #[.slice none 0 0, .int .i64 0, .slice none 0 0]) : MillAtS w g q noMill :=
  ⟨_, _, h, none, 0, none, 0, rfl, Nat.le_refl _, Nat.zero_le _, Nat.le_refl _, Nat.zero_le _, fun k hk => absurd hk (by simp [noMill]), fun h => absurd rfl h, fun k hk => absurd hk (by simp [noMill])⟩
theorem GoneMap.apart {b : Nat} {w w' : World} {M cnt : Nat} {f : Nat → Bool} (h : GoneMap w M cnt f) (hne : M ≠ b) (ha : Apart b w w') : GoneMap w' M cnt f := by
  obtain ⟨D, h1, h2⟩ := h
  exact ⟨D, h1.kept (row := some b) ⟨ha.os, ha.tape, ha.output, ha.size, fun k hk e => ha.block k hk fun g => e (by rw [g])⟩ (fun e => hne (Option.some.inj e)), h2⟩
theorem OwnI.stored2 {W : World} {g g' base : Nat} {a0 a1 a2 b0 b1 b2 v : Value} {xs : List Int} {c5 c6 : Array Value} (h : OwnI W base 3 v xs) (b4 : Blk W g 25 c5) (b5 : Blk W g' 31 c6) :
    OwnI ((((((W.setCell ⟨g, 0, none⟩ a0).setCell ⟨g, 1, none⟩ a1).setCell ⟨g, 2, none⟩ a2).setCell ⟨g', 0, none⟩ b0).setCell ⟨g', 1, none⟩ b1).setCell ⟨g', 2, none⟩ b2) base 3 v xs := by
  obtain ⟨h1, h2⟩ := h
  refine ⟨h1, ?_⟩
  rcases h2 with h2 | ⟨q, cap, cur, rfl, hg, hb, r⟩
  · exact .inl h2
  · have n1 : q ≠ g := Blk.ne_ hb b4 (by decide)
    have n2 : q ≠ g' := Blk.ne_ hb b5 (by decide)
    exact .inr ⟨q, cap, cur, rfl, hg, (((((Blk.far (p := ⟨g, 0, none⟩) hb n1 _).far (p := ⟨g, 1, none⟩) n1 _).far (p := ⟨g, 2, none⟩) n1 _).far (p := ⟨g', 0, none⟩) n2 _).far (p := ⟨g', 1, none⟩) n2 _).far (p := ⟨g', 2, none⟩) n2 _, r⟩
end Go.Proofs.Pet
