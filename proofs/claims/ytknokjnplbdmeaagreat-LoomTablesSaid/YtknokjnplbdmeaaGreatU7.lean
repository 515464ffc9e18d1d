/-
  The reference's step of the table.
-/
import Derived.Test.YtknokjnplbdmeaaGreatU6
namespace Go.Proofs.Pet
open Go Go.RowKit Go.Maps Go.Shelf

def dsL (m : Mill) (l : List Nat) : Int := l.foldl (fun d x => d + (m.orders[x]?.getD default).days) 0
theorem dsL_snoc (m : Mill) (l : List Nat) (x : Nat) : dsL m (l ++ [x]) = dsL m l + (m.orders[x]?.getD default).days := by
  unfold dsL; rw [List.foldl_append]; rfl
theorem dsL_bits (m : Mill) (s : Nat) : ∀ n, dsL m (bits n s) = daysOf m n s
  | 0 => rfl
  | n + 1 => by
    rw [bits_succ, daysOf]
    split
    · rw [dsL_snoc, dsL_bits m s n]
    · rw [dsL_bits m s n]; omega
theorem dsL_bd {m : Mill} (h : checkE m = 0) : ∀ l : List Nat, (∀ x, x ∈ l → x < m.orders.length) → 0 ≤ dsL m l ∧ dsL m l ≤ 20 * l.length := by
  intro l
  suffices ∀ (l : List Nat) (a : Int), (∀ x, x ∈ l → x < m.orders.length) → a ≤ l.foldl (fun d x => d + (m.orders[x]?.getD default).days) a ∧ l.foldl (fun d x => d + (m.orders[x]?.getD default).days) a ≤ a + 20 * l.length by
    intro hl
    have := this l 0 hl
    unfold dsL
    omega
  intro l
  induction l with
  | nil => intro a _; simp
  | cons x l ih =>
    intro a hl
    have hx := hl x (by simp)
    have hd := ((check_orders h).1 (m.orders[x]?.getD default) (by simp [hx])).2.1
    have := ih (a + (m.orders[x]?.getD default).days) (fun y hy => hl y (by simp [hy]))
    rw [List.foldl_cons, List.length_cons]
    omega
def acL (m : Mill) (T : Nat → Int) (order : Nat) (a : Int) (l : List Nat) : Int :=
  l.foldl (fun n x => if x = order ∨ T x = 99 then n else min n (T x + chg (m.pat x) (m.pat order))) a
theorem acL_snoc (m : Mill) (T : Nat → Int) (order : Nat) (a : Int) (l : List Nat) (x : Nat) :
    acL m T order a (l ++ [x]) = if x = order ∨ T x = 99 then acL m T order a l else min (acL m T order a l) (T x + chg (m.pat x) (m.pat order)) := by
  unfold acL; rw [List.foldl_append]; rfl
theorem acL_bd (m : Mill) (T : Nat → Int) (order : Nat) (h : ∀ x, 0 ≤ T x ∧ T x ≤ 99) (l : List Nat) : ∀ a : Int, 0 ≤ a ∧ a ≤ 99 → 0 ≤ acL m T order a l ∧ acL m T order a l ≤ 99 := by
  induction l with
  | nil => intro a ha; exact ha
  | cons x l ih =>
    intro a ha
    refine ih _ ?_
    have h1 := h x
    have h2 := chg_bd (m.pat x) (m.pat order)
    dsimp only
    split <;> omega
theorem acL_filter (m : Mill) (T : Nat → Int) (order : Nat) (l : List Nat) : ∀ a : Int, acL m T order a l = (l.filter fun x => !decide (x = order)).foldl (fun n x => if T x = 99 then n else min n (T x + chg (m.pat x) (m.pat order))) a := by
  induction l with
  | nil => intro a; rfl
  | cons x l ih =>
    intro a
    have hc : acL m T order a (x :: l) = acL m T order (if x = order ∨ T x = 99 then a else min a (T x + chg (m.pat x) (m.pat order))) l := rfl
    rw [hc, ih]
    by_cases hx : x = order
    · subst hx; simp
    · simp [hx]
theorem bits_without {n s order : Nat} : (bits n s).filter (fun x => !decide (x = order)) = bits n (sdiff s (2 ^ order)) := by
  unfold bits
  rw [List.filter_filter]
  refine List.filter_congr fun x _ => ?_
  rw [testBit_sdiff, Nat.testBit_two_pow, Bool.and_comm]
  congr 1
  by_cases h : x = order
  · subst h; simp
  · have h2 : ¬ order = x := fun e => h e.symm
    simp [h, h2]
/-- what is left after all orders of the set -/
theorem acL_step (m : Mill) (num : Nat → Nat → Int) (loom set order : Nat) :
    acL m (num (sdiff set (2 ^ order))) order (if sdiff set (2 ^ order) = 0 then chg (m.laced[loom]?.getD 0) (m.pat order) else 99) (bits m.orders.length set) = stepN m num loom (sdiff set (2 ^ order)) order := by
  rw [acL_filter, bits_without]
  unfold stepN
  by_cases h : sdiff set (2 ^ order) = 0
  · rw [if_pos h, if_pos h, h]
    have : bits m.orders.length 0 = [] := by unfold bits; rw [List.filter_eq_nil_iff]; simp
    rw [this]; rfl
  · rw [if_neg h, if_neg h]; rfl
/-- a row of a table of tables -/
def RowIn (w : World) (tv : Value) (loom rest n : Nat) (T : Nat → Int) : Prop :=
  ∃ a ao N c b bo N' c2 d d0 K c3, tv = .slice (some ⟨a, ao, none⟩) N c ∧ loom < N ∧ w.cell? ⟨a, ao + loom, none⟩ = some (.slice (some ⟨b, bo, none⟩) N' c2) ∧ rest < N' ∧
    w.cell? ⟨b, bo + rest, none⟩ = some (.slice (some ⟨d, d0, none⟩) K c3) ∧ n ≤ K ∧ ∀ x, x < n → w.cell? ⟨d, d0 + x, none⟩ = some (.int .i64 (T x))
theorem RowIn.ext {w w' : World} {tv : Value} {loom rest n : Nat} {T : Nat → Int} (h : RowIn w tv loom rest n T) (he : Ext w w') : RowIn w' tv loom rest n T := by
  obtain ⟨a, ao, N, c, b, bo, N', c2, d, d0, K, c3, h1, h2, h3, h4, h5, h6, h7⟩ := h
  exact ⟨a, ao, N, c, b, bo, N', c2, d, d0, K, c3, h1, h2, he.cell h3, h4, he.cell h5, h6, fun x hx => he.cell (h7 x hx)⟩
end Go.Proofs.Pet
