/-
  Rows of the call's own that are cleared, a map of numbers that are met; mills of power whose hours are whatever they are.
-/
import Derived.Test.YtjlglbhafopomaaGreatPE9
import Derived.Test.YtjlglbhafopomaaGreatPDB
namespace Go.Proofs.Pet
open Go Go.RowKit Go.Maps Go.Shelf
open Go.Proofs.Pow (PM Sh Wv POk Up)

/-- the parts of a mill's value -/
theorem PMVal.parts {w : World} {m : PM} {A1 A2 : Option Addr} {c1 c2 : Nat} (h : PMVal w (.agg #[.slice A1 m.shafts.length c1, .slice A2 m.wvs.length c2]) m) :
    (m.shafts.length ≤ c1 ∧ c1 ≤ maxLen) ∧ (m.wvs.length ≤ c2 ∧ c2 ≤ maxLen) ∧ ShsAt w A1 m.shafts ∧ WvsAt w A2 m.wvs := by
  obtain ⟨B1, d1, B2, d2, e, h2, h3, h4, h5, h6, h7⟩ := h
  simp only [Value.agg.injEq, Array.mk.injEq, List.cons.injEq, Value.slice.injEq, true_and, and_true] at e
  obtain ⟨⟨rfl, rfl⟩, rfl, rfl⟩ := e
  exact ⟨⟨h2, h3⟩, ⟨h4, h5⟩, h6, h7⟩
theorem shs_nil (w : World) (A : Option Addr) : ShsAt w A [] := fun k h => absurd h (by simp)
theorem wvs_nil (w : World) (A : Option Addr) : WvsAt w A [] := fun k h => absurd h (by simp)
/-! A map from numbers to yes or no. -/
theorem zero_boolG (w : World) : (zeroValue 4).run Tryz.prog w = .ok (.bool false) w := by kernel_rfl
def GoneMap (w : World) (M cnt : Nat) (f : Nat → Bool) : Prop :=
  ∃ D : DataW Unit, w.ownsMap Tryz.prog 3 (plainElem Tryz.prog 4) M cnt D ∧ ∀ s : Nat, D.atKey (.int .i64 s) (.lit (.bool false)) = .lit (.bool (f s))
theorem GoneMap.made (w : World) : GoneMap (w.alloc (.map #[] 0)) w.heap.size 0 (fun _ => false) := ⟨.map [], World.ownsMap_made w _ _ _, fun s => by rfl⟩
theorem GoneMap.ext {w w' : World} {M cnt : Nat} {f : Nat → Bool} (h : GoneMap w M cnt f) (he : Ext w w') : GoneMap w' M cnt f := by
  obtain ⟨D, h1, h2⟩ := h
  exact ⟨D, h1.kept ⟨he.os, he.tape, he.output, he.size, fun k hk _ => Below.block he k hk⟩ (by simp : some M ≠ none), h2⟩
theorem GoneMap.look {w : World} {M cnt : Nat} {f : Nat → Bool} (h : GoneMap w M cnt f) (s : Nat) (hs : s ≤ 1048576) :
    (Instr.lookup 168 (.map (some M)) (.int .i64 (s : Int)) false).run Tryz.prog w = .ok (.bool (f s)) w := by
  obtain ⟨D, h1, h2⟩ := h
  obtain ⟨v, ps, hr, hv⟩ := h1.lookup keyed_int Tryz.underlying168 (zero_boolG w) (plainElem_bool Tryz.underlying4 false) (keyOf_int_mk Tryz.underlying3 (WalkArith.wf_i64 (n := (s : Int)) (by omega)))
  obtain ⟨a, rfl, e⟩ := plainElem_bool_inv Tryz.underlying4 hv
  simp only [Prod.mk.injEq] at e
  have hq := (h2 s).symm.trans e.1
  rw [hr, blit_inj hq]
theorem GoneMap.store {w : World} {M cnt : Nat} {f : Nat → Bool} (h : GoneMap w M cnt f) (s : Nat) (hs : s ≤ 1048576) (hc : cnt ≤ 1048576) (v : Bool) :
    ∃ w', (Instr.mapUpdate 168 (.map (some M)) (.int .i64 (s : Int)) (.bool v)).run Tryz.prog w = .ok () w' ∧ GoneMap w' M (cnt + 1) (fun x => if x = s then v else f x) ∧ w.grownBy w' (some M) := by
  obtain ⟨D, h1, h2⟩ := h
  have hD : IsMap D := by obtain ⟨es, clock, hb, F, hs, rfl⟩ := h1; exact ⟨_, rfl⟩
  obtain ⟨w', hr, ho, hg⟩ := h1.update keyed_int Tryz.underlying168 (by unfold maxLen; omega) (keyOf_int_mk Tryz.underlying3 (WalkArith.wf_i64 (n := (s : Int)) (by omega))) (plainElem_bool Tryz.underlying4 v)
  refine ⟨w', hr, ⟨_, ho, fun x => ?_⟩, hg⟩
  by_cases e : x = s
  · subst e
    rw [atKey_put_same hD (by simp [WideAt.IsKeyLit])]
    simp
  · rw [atKey_put_other (lit_ne (by omega)), h2 x]
    simp [e]
/-! clear -/
/-- a row that is the call's own is overwritten -/
def Wiped (w w' : World) (v : Value) (e : TypeId) : Prop :=
  w' = w ∨ ∃ (g : Nat) (cur cur' : Array Value), v.ownBlock = some g ∧ w.heap[g]? = some (.cells cur e (0, 0)) ∧ cur'.size = cur.size ∧ w' = w.setRow g cur'
theorem run_clear_own {P : Program} (w : World) (base : Nat) (t e : TypeId) (z : Value) (size : Nat) (ht : P.underlying t = some (.slice e)) (hz : (zeroValue e).run P w = .ok z w) (hzs : z.cells.size = size)
    (A : Option Addr) (n c : Nat) (xs : List Value) (hz1 : ∀ u ∈ (Builtin.zeroCells z.cells n).toList, u.oneCell' = true) (h : w.ownsRow base e size (.slice A n c) n xs) :
    ∃ w', (∀ ty, (Builtin.clear_ #[t] ty #[.slice A n c]).run P w = .ok (.tuple #[]) w') ∧ Wiped w w' (.slice A n c) e := by
  have hzl : (Builtin.zeroCells z.cells n).toList.length = n * size := by unfold Builtin.zeroCells; simp [hzs]
  by_cases hn0 : n = 0
  · subst hn0
    refine ⟨w, fun ty => ?_, .inl rfl⟩
    cases A <;> simp [Builtin.clear_, run_underlying ht]
  · rcases h.2 with ⟨_, h0⟩ | ⟨g, cap, cur, e1, hg, hb, hnc, hm, hs, hc⟩
    · exact absurd h0 hn0
    simp only [Value.slice.injEq, true_and] at e1
    obtain ⟨rfl, rfl⟩ := e1
    have hfit : 0 + 0 + (Builtin.zeroCells z.cells n).toList.length ≤ cur.size := by
      rw [hzl, hs]
      have := Nat.mul_le_mul_right size hnc
      omega
    have hst := run_storeCells_at P g 0 e (Builtin.zeroCells z.cells n).toList 0 cur w hb hfit hz1
    simp only [List.take_zero, List.nil_append, Nat.zero_add, Nat.add_zero] at hst
    refine ⟨w.setRow g ((Builtin.zeroCells z.cells n).toList ++ cur.toList.drop (Builtin.zeroCells z.cells n).toList.length).toArray, fun ty => ?_, .inr ⟨g, cur, _, rfl, hb, ?_, rfl⟩⟩
    · obtain ⟨k, rfl⟩ : ∃ k, n = k + 1 := ⟨n - 1, by omega⟩
      simp [Builtin.clear_, run_underlying ht, hz, hst]
    · simp only [List.size_toArray, List.length_append, List.length_drop, Array.length_toList]
      simp only [Array.length_toList, Nat.zero_add] at hfit
      omega
section
variable {w w' : World} {v : Value} {e : TypeId}
theorem Wiped.ext {wB : World} (h : Wiped w w' v e) (he : Ext wB w) (hb : ∀ g, v.ownBlock = some g → wB.heap.size ≤ g) : Ext wB w' := by
  rcases h with rfl | ⟨g, cur, cur', h1, _, _, rfl⟩
  · exact he
  · exact he.setRow (hb g h1) _
theorem Wiped.blk {k : Nat} {t : TypeId} {cs : Array Value} (h : Wiped w w' v e) (hk : Blk w k t cs) (hne : t ≠ e) : Blk w' k t cs := by
  rcases h with rfl | ⟨g, cur, cur', _, h2, _, rfl⟩
  · exact hk
  · exact hk.rowFar (Blk.ne_ hk h2 hne) _
theorem Wiped.size (h : Wiped w w' v e) : w'.heap.size = w.heap.size := by
  rcases h with rfl | ⟨g, cur, cur', _, _, _, rfl⟩
  · rfl
  · exact size_setRow w g _
/-- another row keeps what it holds -/
theorem Wiped.rowFar {base size n : Nat} {t : TypeId} {u : Value} {xs : List Value} (h : Wiped w w' v e) (hu : w.ownsRow base t size u n xs) (hne : t ≠ e ∨ ∀ g, v.ownBlock = some g → g < base) : w'.ownsRow base t size u n xs := by
  rcases h with rfl | ⟨g, cur, cur', h1, h2, _, rfl⟩
  · exact hu
  · refine ⟨hu.1, ?_⟩
    rcases hu.2 with hn | ⟨k, cap, c2, rfl, hg, hb, r⟩
    · exact .inl hn
    · refine .inr ⟨k, cap, c2, rfl, hg, (setRow_other w g k _ ?_).trans hb, r⟩
      rcases hne with hne | hne
      · exact Blk.ne_ hb h2 hne
      · have := hne g h1; omega
/-- a row may be overwritten; it lies where it lay -/
theorem Wiped.row {base size n : Nat} {t : TypeId} {u : Value} (h : Wiped w w' v e) (hu : ∃ xs, w.ownsRow base t size u n xs) : ∃ xs, w'.ownsRow base t size u n xs := by
  rcases h with rfl | ⟨g, cur, cur', h1, h2, h3, rfl⟩
  · exact hu
  · obtain ⟨xs, hl, hu⟩ := hu
    rcases hu with hn | ⟨k, cap, c2, rfl, hg, hb, r1, r2, r3, r4⟩
    · exact ⟨xs, hl, .inl hn⟩
    · by_cases hk : k = g
      · subst hk
        rw [hb] at h2
        simp only [Option.some.injEq, Obj.cells.injEq, and_true] at h2
        obtain ⟨rfl, rfl⟩ := h2
        have hle := Nat.mul_le_mul_right size r1
        refine ⟨cur'.toList.take (n * size), ?_, .inr ⟨k, cap, cur', rfl, hg, setRow_heap _ _ _ _ _ _ hb, r1, r2, by omega, rfl⟩⟩
        rw [List.length_take, Array.length_toList]
        omega
      · exact ⟨xs, hl, .inr ⟨k, cap, c2, rfl, hg, (setRow_other w g k _ hk).trans hb, r1, r2, r3, r4⟩⟩
end
/-- a list of numbers of the call's own, whatever they are -/
def RowN (w : World) (base : Nat) (v : Value) (n : Nat) : Prop := ∃ xs, w.ownsRow base 3 1 v n xs
theorem RowN.ge {w : World} {base n : Nat} {v : Value} (h : RowN w base v n) : ∀ g, v.ownBlock = some g → base ≤ g := by
  obtain ⟨xs, h⟩ := h
  exact fun g hg => (ownsRow_own h g hg).1
theorem RowN.slice {w : World} {base n : Nat} {v : Value} (h : RowN w base v n) : ∃ A c, v = .slice A n c := by
  obtain ⟨xs, h⟩ := h
  obtain ⟨A, c, e⟩ := ownsRow_slice h
  exact ⟨A, c, e⟩
/-- weavers of the call's own, whose hours are whatever they are -/
def ClrW (w : World) (base : Nat) (v : Value) (ys : List Wv) : Prop := ∃ cs, w.ownsRow base 82 2 v ys.length cs ∧ WvF (fun u x => RowN w base u x.hours.length) cs ys
theorem ClrW.of {w : World} {base : Nat} {v : Value} {ys : List Wv} (h : OwnWvs w base v ys) : ClrW w base v ys := by
  obtain ⟨cs, h1, h2⟩ := h
  exact ⟨cs, h1, h2.map fun _ _ g => ⟨_, g⟩⟩
theorem ClrW.ext {w w' : World} {base : Nat} {v : Value} {ys : List Wv} (h : ClrW w base v ys) (he : Ext w w') : ClrW w' base v ys := by
  obtain ⟨cs, h1, h2⟩ := h
  exact ⟨cs, ownsRow_ext2 h1 he, h2.map fun _ _ ⟨xs, g⟩ => ⟨xs, ownsRow_ext2 g he⟩⟩
theorem ClrW.wipe {w w' : World} {base : Nat} {u v : Value} {ys : List Wv} (h : ClrW w base v ys) (hw : Wiped w w' u 3) : ClrW w' base v ys := by
  obtain ⟨cs, h1, h2⟩ := h
  exact ⟨cs, hw.rowFar h1 (.inl (by decide)), h2.map fun _ _ g => hw.row g⟩
theorem ClrW.slice {w : World} {base : Nat} {v : Value} {ys : List Wv} (h : ClrW w base v ys) : ∃ A c, v = .slice A ys.length c := by
  obtain ⟨cs, h, _⟩ := h
  obtain ⟨A, c, e⟩ := ownsRow_slice h
  exact ⟨A, c, e⟩
theorem ClrW.ge {w : World} {base : Nat} {v : Value} {ys : List Wv} (h : ClrW w base v ys) : ∀ g, v.ownBlock = some g → base ≤ g := by
  obtain ⟨xs, h, _⟩ := h
  exact fun g hg => (ownsRow_own h g hg).1
theorem ClrW.at_ {w : World} {base : Nat} {A : Option Addr} {c : Nat} {ys : List Wv} (h : ClrW w base (.slice A ys.length c) ys) (k : Nat) (hk : k < ys.length) :
    ∃ b o s, A = some ⟨b, o, none⟩ ∧ w.cell? ⟨b, o + k * 2, none⟩ = some (.int .i64 (ys[k]?.getD default).shaft) ∧ w.cell? ⟨b, o + k * 2 + 1, none⟩ = some s ∧ RowN w base s (ys[k]?.getD default).hours.length := by
  obtain ⟨cs, ⟨_, h2⟩, h3⟩ := h
  rcases h2 with ⟨_, h0⟩ | ⟨g, cap, cur, e, hg, hb, hn, hm, hs, hc⟩
  · omega
  · simp only [Value.slice.injEq, true_and] at e
    obtain ⟨rfl, rfl⟩ := e
    obtain ⟨q1, s, q2, q3⟩ := h3.at_ k hk
    have hcell := row_cell hb hc
    refine ⟨g, 0, s, rfl, ?_, ?_, q3⟩
    · exact hcell _ _ q1
    · have := hcell _ _ q2; rwa [← Nat.add_assoc] at this
theorem clear_int (w : World) {base n : Nat} {A : Option Addr} {c : Nat} (h : RowN w base (.slice A n c) n) :
    ∃ w', (∀ ty, (Builtin.clear_ #[31] ty #[.slice A n c]).run Tryz.prog w = .ok (.tuple #[]) w') ∧ Wiped w w' (.slice A n c) 3 := by
  obtain ⟨xs, h⟩ := h
  refine run_clear_own w base 31 3 (.int .i64 0) 1 Tryz.underlying31 (zero_int w) rfl A n c xs (fun u hu => ?_) h
  unfold Builtin.zeroCells at hu
  simp only [Value.cells] at hu
  obtain ⟨i, _, rfl⟩ := by simpa using hu
  rw [Nat.mod_one]; rfl
theorem clear_wv (w : World) {base : Nat} {A : Option Addr} {c : Nat} {ys : List Wv} (h : ClrW w base (.slice A ys.length c) ys) :
    ∃ w', (∀ ty, (Builtin.clear_ #[24] ty #[.slice A ys.length c]).run Tryz.prog w = .ok (.tuple #[]) w') ∧ Wiped w w' (.slice A ys.length c) 82 := by
  obtain ⟨cs, h, _⟩ := h
  refine run_clear_own w base 24 82 (.agg #[.int .i64 0, .slice none 0 0]) 2 Tryz.underlying24 (zero_weaver w) rfl A ys.length c cs (fun u hu => ?_) h
  unfold Builtin.zeroCells at hu
  simp only [Value.cells, Array.toList_map, List.mem_map] at hu
  obtain ⟨i, _, rfl⟩ := hu
  have h4 : i % 2 = 0 ∨ i % 2 = 1 := by omega
  show (#[Value.int .i64 0, .slice none 0 0][i % 2]!).oneCell' = true
  rcases h4 with h | h <;> rw [h] <;> rfl
theorem zero_shaft (w : World) : (zeroValue 105).run Tryz.prog w = .ok (.agg #[.int .i64 0, .int .i64 0]) w := by kernel_rfl
theorem clear_sh (w : World) {base : Nat} {A : Option Addr} {n c : Nat} {cs : List Value} (h : w.ownsRow base 105 2 (.slice A n c) n cs) :
    ∃ w', (∀ ty, (Builtin.clear_ #[23] ty #[.slice A n c]).run Tryz.prog w = .ok (.tuple #[]) w') ∧ Wiped w w' (.slice A n c) 105 := by
  refine run_clear_own w base 23 105 (.agg #[.int .i64 0, .int .i64 0]) 2 Tryz.underlying23 (zero_shaft w) rfl A n c cs (fun u hu => ?_) h
  unfold Builtin.zeroCells at hu
  simp only [Value.cells, Array.toList_map, List.mem_map] at hu
  obtain ⟨i, _, rfl⟩ := hu
  have h4 : i % 2 = 0 ∨ i % 2 = 1 := by omega
  show (#[Value.int .i64 0, .int .i64 0][i % 2]!).oneCell' = true
  rcases h4 with h | h <;> rw [h] <;> rfl
end Go.Proofs.Pet
