/-
  Contracts of functions, each proved once.
-/
import Derived.Test.YtfglamdbnclcaaaGreatP09
import Derived.Test.YtfglamdbnclcaaaGreatP01
namespace Go.Proofs.Pet
open Go Go.RowKit Go.Maps Go.Shelf

/-- the numbers of a list below k, in increasing order -/
def sortF (xs : List Int) (k : Nat) : List Int := ints ((List.range k).filter fun n => xs.contains (n : Int))
end Go.Proofs.Pet

namespace Go.Proofs.Pet
open Go Go.RowKit Go.Maps Go.Shelf

theorem rvI_take {xs : List Int} {k : Nat} (hk : k < xs.length) : rvI (xs.take (k + 1)) = (xs[k]?.getD 0).toNat :: rvI (xs.take k) := by
  unfold rvI
  rw [List.take_succ_eq_append_getElem hk, List.map_append, List.reverse_append]
  simp [hk]
def endsF (m : Mill) (l : Nat) (xs : List Int) (k : Nat) : List Int := (List.range k).map fun j => dyR m l (rvI (xs.take (j + 1)))
theorem endsF_succ (m : Mill) (l : Nat) (xs : List Int) (k : Nat) : endsF m l xs (k + 1) = endsF m l xs k ++ [dyR m l (rvI (xs.take (k + 1)))] := by
  unfold endsF; rw [List.range_succ, List.map_append]; rfl
theorem endsF_len (m : Mill) (l : Nat) (xs : List Int) (k : Nat) : (endsF m l xs k).length = k := by unfold endsF; simp
theorem dyR_bd {m : Mill} (hch : checkE m = 0) (l : Nat) : ∀ r : List Nat, (∀ j, j ∈ r → j < m.orders.length) → 0 ≤ dyR m l r ∧ dyR m l r ≤ 25 * r.length
  | [], _ => by simp [dyR]
  | k :: r, h => by
    have ih := dyR_bd hch l r (fun j hj => h j (by simp [hj]))
    have hk := h k (by simp)
    have ho := (check_orders hch).1 (m.orders[k]?.getD default) (by simp [hk])
    have hc := (check_orders hch).2
    have h1 := chg_bd (lastPat m l r) (m.pat k)
    have h2 : 0 ≤ m.change * chg (lastPat m l r) (m.pat k) ∧ m.change * chg (lastPat m l r) (m.pat k) ≤ 5 := by
      rcases (show chg (lastPat m l r) (m.pat k) = 0 ∨ chg (lastPat m l r) (m.pat k) = 1 by omega) with e | e
      · rw [e]; omega
      · rw [e]; omega
    rw [dyR, List.length_cons]
    unfold Mill.dys
    omega

def runR (M i ba oa c n b2 o2 n2 c2 x L : Nat) (u : Value) : Nat → Value → World → Prop
  | 0 => fun v _ => v = .pointer (some ⟨M, 2, none⟩)
  | 1 => fun v _ => v = .slice (some ⟨b2, o2, none⟩) n2 c2
  | 2 => fun v _ => v = .slice (some ⟨ba, oa, none⟩) n c
  | 3 => fun v _ => v = .int .i64 i
  | 4 => fun v _ => v = .pointer (some ⟨ba, oa + i, none⟩)
  | 5 => fun v _ => v = .int .i64 x
  | 6 => fun v _ => v = .pointer (some ⟨b2, o2 + x * 4, none⟩)
  | 7 => fun v _ => v = u
  | 8 => fun v W => ∃ b, v = .pointer (some ⟨b, 0, none⟩) ∧ L ≤ b ∧ Blk W b 105 #[.int .i64 0, .int .i64 0, .int .i64 0, .slice none 0 0]
  | _ => fun _ _ => True
end Go.Proofs.Pet
