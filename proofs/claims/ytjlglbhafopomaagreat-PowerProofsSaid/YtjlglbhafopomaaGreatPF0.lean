/-
  Rows of the call's own that are cleared, a map of numbers that are met; mills of power whose hours are whatever they are.
-/
import Derived.Test.YtjlglbhafopomaaGreatPE9
import Derived.Test.YtjlglbhafopomaaGreatPDK
namespace Go.Proofs.Pet
open Go Go.RowKit Go.Maps Go.Shelf
open Go.Proofs.Pow (PM Sh Wv POk Up)

/-! A map from numbers to yes or no. -/
theorem zero_boolG (w : World) : (zeroValue 4).run Tryz.prog w = .ok (.bool false) w := by kernel_rfl
def GoneMap (w : World) (M cnt : Nat) (f : Nat → Bool) : Prop :=
  ∃ D : DataW Unit, w.ownsMap Tryz.prog 3 (plainElem Tryz.prog 4) M cnt D ∧ ∀ s : Nat, D.atKey (.int .i64 s) (.lit (.bool false)) = .lit (.bool (f s))
theorem GoneMap.made (w : World) : GoneMap (w.alloc (.map #[] 0)) w.heap.size 0 (fun _ => false) := ⟨.map [], World.ownsMap_made w _ _ _, fun s => by rfl⟩
theorem GoneMap.look {w : World} {M cnt : Nat} {f : Nat → Bool} (h : GoneMap w M cnt f) (s : Nat) (hs : s ≤ 1048576) :
    (Instr.lookup 168 (.map (some M)) (.int .i64 (s : Int)) false).run Tryz.prog w = .ok (.bool (f s)) w := by
  obtain ⟨D, h1, h2⟩ := h
  obtain ⟨v, ps, hr, hv⟩ := h1.lookup keyed_int Tryz.underlying168 (zero_boolG w) (plainElem_bool Tryz.underlying4 false) (keyOf_int_mk Tryz.underlying3 (WalkArith.wf_i64 (n := (s : Int)) (by omega)))
  obtain ⟨a, rfl, e⟩ := plainElem_bool_inv Tryz.underlying4 hv
  simp only [Prod.mk.injEq] at e
  have hq := (h2 s).symm.trans e.1
  rw [hr, blit_inj hq]
theorem GoneMap.store {w : World} {M cnt : Nat} {f : Nat → Bool} (h : GoneMap w M cnt f) (s : Nat) (hs : s ≤ 1048576) (hc : cnt ≤ 1048576) (v : Bool) :
    ∃ w', (Instr.mapUpdate 168 (.map (some M)) (.int .i64 (s : Int)) (.bool v)).run Tryz.prog w = .ok () w' ∧ GoneMap w' M (cnt + 1) (fun x => if x = s then v else f x) ∧ w.grownBy w' (some M) := by
  obtain ⟨D, h1, h2⟩ := h
  have hD : IsMap D := by obtain ⟨es, clock, hb, F, hs, rfl⟩ := h1; exact ⟨_, rfl⟩
  obtain ⟨w', hr, ho, hg⟩ := h1.update keyed_int Tryz.underlying168 (by unfold maxLen; omega) (keyOf_int_mk Tryz.underlying3 (WalkArith.wf_i64 (n := (s : Int)) (by omega))) (plainElem_bool Tryz.underlying4 v)
  refine ⟨w', hr, ⟨_, ho, fun x => ?_⟩, hg⟩
  by_cases e : x = s
  · subst e
    rw [atKey_put_same hD (by simp [WideAt.IsKeyLit])]
    simp
  · rw [atKey_put_other (lit_ne (by omega)), h2 x]
    simp [e]
/-! clear -/
/-- a row that is the call's own is overwritten -/
def Wiped (w w' : World) (v : Value) (e : TypeId) : Prop :=
  w' = w ∨ ∃ (g : Nat) (cur cur' : Array Value), v.ownBlock = some g ∧ w.heap[g]? = some (.cells cur e (0, 0)) ∧ cur'.size = cur.size ∧ w' = w.setRow g cur'
/-- a list of numbers of the call's own, whatever they are -/
def RowN (w : World) (base : Nat) (v : Value) (n : Nat) : Prop := ∃ xs, w.ownsRow base 3 1 v n xs
/-- weavers of the call's own, whose hours are whatever they are -/
def ClrW (w : World) (base : Nat) (v : Value) (ys : List Wv) : Prop := ∃ cs, w.ownsRow base 82 2 v ys.length cs ∧ WvF (fun u x => RowN w base u x.hours.length) cs ys
end Go.Proofs.Pet
