/-
  Contracts of functions, each proved once.
-/
import Derived.Test.YtfglamdbnclcaaaGreatP10
namespace Go.Proofs.Pet
open Go Go.RowKit Go.Maps Go.Shelf

theorem OwnR.grown {w w' : World} {base base' n : Nat} {r v : Value} {xss : List (List Int)} {vs : List Value} (h : OwnR w base r xss) (hg : w.grownBy w' v.ownBlock) (hv : w.ownsRow base' 22 1 v n vs) (hne : ∀ g, r.ownBlock = some g → some g ≠ v.ownBlock) : OwnR w' base r xss := by
  obtain ⟨us, ⟨h0, h1⟩, h2, h3⟩ := h
  refine ⟨us, ⟨h0, ?_⟩, h2, fun i hi => (h3 i hi).grownR hg hv⟩
  rcases h1 with h1 | ⟨g, cap, cur, rfl, hg1, hb, r⟩
  · exact .inl h1
  · exact .inr ⟨g, cap, cur, rfl, hg1, by rw [← hb]; exact hg.block g (Array.getElem?_eq_some_iff.1 hb).1 (hne g rfl), r⟩
/-- all rows that begin with one of the first i elements -/
def accF (n : Nat) (xs : List Int) (i : Nat) : List (List Int) :=
  (List.range i).flatMap fun j => (rowsF n (xs.take j ++ xs.drop (j + 1))).map fun r => (xs[j]?.getD 0) :: r
theorem accF_succ (n : Nat) (xs : List Int) (i : Nat) : accF n xs (i + 1) = accF n xs i ++ (rowsF n (xs.take i ++ xs.drop (i + 1))).map fun r => (xs[i]?.getD 0) :: r := by
  unfold accF; rw [List.range_succ, List.flatMap_append]; simp
def fct : Nat → Nat
  | 0 => 1
  | n + 1 => (n + 1) * fct n
def rowR1 (b o i N c : Nat) : Nat → Value → Prop
  | 1 => fun v => v = .slice (some ⟨b, o, none⟩) (N + 1) c
  | 2 => fun v => v = .int .i64 i
  | 3 => fun v => v = .slice (some ⟨b, o, none⟩) i c
  | 5 => fun v => v = .slice (some ⟨b, o, none⟩) (N + 1) c
  | 6 => fun v => v = .int .i64 i
  | 7 => fun v => v = .int .i64 (i + 1)
  | 8 => fun v => ∃ A' c', v = .slice A' (N - i) c' ∧ (N - i = 0 ∨ A' = some ⟨b, o + (i + 1), none⟩)
  | _ => fun _ => True
def rowS1 (wr : World) (ys zs : List Int) (Ld : Nat → Prop) (x : Nat → Value) (W : World) : Prop :=
  Ext wr W ∧ (Ld 0 → ¬ Ld 4 → OwnI W wr.heap.size 3 (x 0) []) ∧ (Ld 4 → ¬ Ld 9 → OwnI W wr.heap.size 3 (x 4) ys) ∧ (Ld 9 → OwnI W wr.heap.size 3 (x 9) zs)
def rowR2 (b o i c n b' k cR len : Nat) (vout u : Value) (xi : Int) : Nat → Value → Prop
  | 0 => fun v => v = vout
  | 1 => fun v => v = .slice (some ⟨b, o, none⟩) (n + 1) c
  | 2 => fun v => v = .int .i64 i
  | 3 => fun v => v = .pointer (some ⟨b, o + i, none⟩)
  | 4 => fun v => v = .int .i64 xi
  | 5 => fun _ => True
  | 6 => fun v => v = .slice (some ⟨b', 0, none⟩) len cR
  | 7 => fun v => v = .int .i64 k
  | 8 => fun v => v = .pointer (some ⟨b', k, none⟩)
  | 9 => fun v => v = u
  | _ => fun _ => True
def rowS2 (wr : World) (B0 n : Nat) (vout : Value) (vs : List Value) (xi : Int) (Rk : List Int) (Ld : Nat → Prop) (x : Nat → Value) (W : World) : Prop :=
  (¬ Ld 12 → Ext wr W) ∧ (Ld 5 → ¬ Ld 10 → OwnI W wr.heap.size 3 (x 5) [xi]) ∧ (Ld 10 → ¬ Ld 12 → OwnI W wr.heap.size 3 (x 10) (xi :: Rk)) ∧
    (Ld 11 → ¬ Ld 12 → ∃ g, x 11 = .slice (some ⟨g, 0, none⟩) 1 1 ∧ Blk W g 22 #[x 10]) ∧
    (Ld 12 → ∃ W1, Ext wr W1 ∧ OwnI W1 wr.heap.size 3 (x 10) (xi :: Rk) ∧ W.ownsRow B0 22 1 (x 12) (n + 1) (vs ++ [x 10]) ∧ W1.grownBy W vout.ownBlock ∧ ((x 12).ownBlock = vout.ownBlock ∨ (x 12).ownBlock = some W1.heap.size))
theorem one_ints {xs : List Int} : ∀ u, u ∈ xs.map (Value.int .i64) → u.oneCell' = true := by
  intro u hu
  obtain ⟨x, _, rfl⟩ := List.mem_map.1 hu
  rfl
end Go.Proofs.Pet

namespace Go.Proofs.Pet
open Go Go.RowKit Go.Maps Go.Shelf

/-- a slice of ints, wherever it lies -/
def SlI (w : World) (v : Value) (xs : List Int) : Prop := ∃ A c, v = .slice A xs.length c ∧ xs.length ≤ c ∧ c ≤ maxLen ∧ IntsAt w A xs
theorem SlI.ext {w w' : World} {v : Value} {xs : List Int} (h : SlI w v xs) (he : Ext w w') : SlI w' v xs := by
  obtain ⟨A, c, h1, h2, h3, h4⟩ := h
  exact ⟨A, c, h1, h2, h3, h4.ext he⟩
theorem OwnI.sl {w : World} {base : Nat} {e : TypeId} {v : Value} {xs : List Int} (h : OwnI w base e v xs) : SlI w v xs := by
  obtain ⟨A, c, h1, h2, h3, h4, _⟩ := h.open_
  exact ⟨A, c, h1, h2, h3, h4⟩
theorem SlI.nil (w : World) : SlI w (.slice none 0 0) [] := ⟨none, 0, rfl, Nat.le_refl _, Nat.zero_le _, fun k h => absurd h (by simp)⟩
def bestR5 (mv : Value) (l b k len cR : Nat) (u : Value) (ch : Int) (q : Bool) : Nat → Value → World → Prop
  | 0 => fun v _ => v = mv
  | 1 => fun v _ => v = .int .i64 l
  | 2 => fun v _ => v = .slice (some ⟨b, 0, none⟩) len cR
  | 3 => fun v _ => v = .int .i64 k
  | 4 => fun v _ => v = .pointer (some ⟨b, k, none⟩)
  | 5 => fun v _ => v = u
  | 6 => fun v _ => ∃ r, v = .tuple #[r, .int .i64 ch, .bool q]
  | 7 => fun v _ => ∃ r, v = .tuple #[r, .int .i64 ch, .bool q]
  | 8 => fun _ _ => True
  | 9 => fun v _ => v = .int .i64 ch
  | 10 => fun v _ => v = .bool q
  | 11 => fun _ _ => True
  | 12 => fun v _ => v = .int .i64 ch
  | 13 => fun v _ => v = .bool q
  | _ => fun _ _ => True
end Go.Proofs.Pet
