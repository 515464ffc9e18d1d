/-
  A spool of numbers: what it gives lies in the bounds that were asked.
-/
import Derived.Test.YtjlglbhafopomaaGreatPAM
import Derived.Test.YtjlglbhafopomaaGreatB0
namespace Go.Proofs.Pet
set_option linter.unusedSimpArgs false
open Go Go.RowKit Go.Maps Go.Shelf

/-- bytes that can be read, all of them ahead of the block b -/
def BytesAt (w : World) (b : Nat) (A : Option Addr) (n : Nat) : Prop :=
  ∀ j, j < n → ∃ b' o u, A = some ⟨b', o, none⟩ ∧ b' < b ∧ w.cell? ⟨b', o + j, none⟩ = some (.int .u8 u)
/-- a spool, of which at most k numbers have been wound off -/
def SpoolAt (w : World) (b k : Nat) : Prop :=
  ∃ A n c st, ∃ at_ : Nat, Blk w b 132 #[.slice A n c, .int .i64 (at_ : Int), .int .u64 st] ∧ n ≤ c ∧ c ≤ maxLen ∧ at_ ≤ k ∧ BytesAt w b A n
theorem BytesAt.ext {w w' : World} {b n : Nat} {A : Option Addr} (h : BytesAt w b A n) (he : Ext w w') : BytesAt w' b A n := fun j hj => by
  obtain ⟨b', o, u, h1, h2, h3⟩ := h j hj
  exact ⟨b', o, u, h1, h2, he.cell h3⟩
theorem SpoolAt.ext {w w' : World} {b k : Nat} (h : SpoolAt w b k) (he : Ext w w') : SpoolAt w' b k := by
  obtain ⟨A, n, c, st, a, h1, h2, h3, h4, h5⟩ := h
  exact ⟨A, n, c, st, a, h1.ext he, h2, h3, h4, h5.ext he⟩
instance {w w' : World} {b k : Nat} : Lift (SpoolAt w b k) w w' (SpoolAt w' b k) := ⟨fun he h => h.ext he⟩
/-- a number of a spool in its bounds, and the spool goes on -/
def Turned (b k : Nat) (lo hi : Int) (w : World) (e : Ending) (w' : World) : Prop :=
  ∃ r : Int, e = .returned (.int .i64 r) ∧ lo ≤ r ∧ r ≤ hi ∧ SpoolAt w' b (k + 1) ∧ Apart b w w'
/-- a yes or no of a spool -/
def TurnedB (b k : Nat) (w : World) (e : Ending) (w' : World) : Prop :=
  ∃ q : Bool, e = .returned (.bool q) ∧ SpoolAt w' b (k + 1) ∧ Apart b w w'
/-- bytes that can be read -/
def BytesIn (w : World) (v : Value) : Prop := ∃ A n c, v = .slice A n c ∧ n ≤ c ∧ c ≤ maxLen ∧ ∀ j, j < n → ∃ b' o u, A = some ⟨b', o, none⟩ ∧ w.cell? ⟨b', o + j, none⟩ = some (.int .u8 u)
theorem BytesIn.ext {w w' : World} {v : Value} (h : BytesIn w v) (he : Ext w w') : BytesIn w' v := by
  obtain ⟨A, n, c, h1, h2, h3, h4⟩ := h
  exact ⟨A, n, c, h1, h2, h3, fun j hj => by obtain ⟨b', o, u, g1, g2⟩ := h4 j hj; exact ⟨b', o, u, g1, he.cell g2⟩⟩
instance {w w' : World} {v : Value} : Lift (BytesIn w v) w w' (BytesIn w' v) := ⟨fun he h => h.ext he⟩
/-- an order of the numbers below n -/
def PermOf (n : Nat) (l : List Int) : Prop := l.Perm (ints (List.range n))
end Go.Proofs.Pet
