/-
  The reference's Slipped, walked.
-/
import Derived.Test.YtjlglbhafopomaaGreatPG2
namespace Go.Proofs.Pet
open Go Go.RowKit Go.Maps Go.Shelf
open Go.Proofs.Pow (PM Sh Wv POk Up sightF clrB explB bitsL pickF bothF)

/-- what a search has found -/
def FndI (W : World) (base : Nat) (v : Value) (o : Option (List Nat)) : Prop := (o = none → v = .slice none 0 0) ∧ ∀ l, o = some l → OwnI W base 3 v (ints l)
theorem FndI.ext {W W' : World} {base : Nat} {v : Value} {o : Option (List Nat)} (h : FndI W base v o) (he : Ext W W') : FndI W' base v o := ⟨h.1, fun l e => (h.2 l e).ext he⟩
theorem bits_len (n s : Nat) : (bitsL n s).length ≤ n := by
  unfold bitsL
  exact Nat.le_trans (List.length_filter_le _ _) (by simp)
theorem list_bits7 {n s : Nat} (hn : n ≤ 14) (hs : s < pw n) (w : World) : Calls Tryz.prog 120 #[.int .i64 (s : Int)] w fun e w' => ∃ v, e = .returned v ∧ OwnI w' w.heap.size 3 v (ints (bitsL n s)) ∧ Ext w w' := by
  have hs2 : s < 2 ^ n := by rw [← pw_pow]; exact hs
  have hb := pw_le hn
  have hl := listL_len (k := 0) hs2
  have := list7_any s (by omega) (by omega) w
  rwa [listL_bits hs2] at this
end Go.Proofs.Pet
