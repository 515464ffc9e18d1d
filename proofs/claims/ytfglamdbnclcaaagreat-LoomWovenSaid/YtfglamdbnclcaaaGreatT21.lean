/-
  What a table gives for a loom and a set. No program is named here.
-/
import Derived.Test.YtfglamdbnclcaaaGreatP08
namespace Go.Proofs.Pet
open Go

/-- what a table gives for a loom and a set -/
def numT (n : Nat) (T : Nat → Nat → Nat → Int) (l s : Nat) : Int := if s = 0 then 0 else (bits n s).foldl (fun a k => min a (T l s k)) 99
theorem foldl_min_map (f : Nat → Int) : ∀ (l : List Nat) (a : Int), l.foldl (fun a k => min a (f k)) a = (l.map f).foldl min a
  | [], _ => rfl
  | k :: l, a => by rw [List.foldl_cons, List.map_cons, List.foldl_cons, foldl_min_map f l]
theorem numT_bd {n : Nat} {T : Nat → Nat → Nat → Int} (h : ∀ l s k, 0 ≤ T l s k) (l s : Nat) : 0 ≤ numT n T l s ∧ numT n T l s ≤ 99 := by
  unfold numT
  split
  · omega
  · rw [foldl_min_map]
    obtain ⟨h1, h2, h3⟩ := fold_min ((bits n s).map (T l s)) 99
    refine ⟨?_, h1⟩
    rcases h3 with h3 | h3
    · omega
    · obtain ⟨k, _, e⟩ := List.mem_map.1 h3
      have := h l s k; omega
end Go.Proofs.Pet
