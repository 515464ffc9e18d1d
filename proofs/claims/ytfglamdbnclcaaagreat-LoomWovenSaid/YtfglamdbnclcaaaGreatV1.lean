/-
  Facts on memory that outlast whatever only makes memory, lifted by one word.
-/
import Derived.Test.YtfglamdbnclcaaaGreatV0
import Derived.Test.YtfglamdbnclcaaaGreatP21
namespace Go.Proofs.Pet
open Go Go.RowKit

/-- a fact on the memory w, and the same on a later one -/
class Lift (A : Prop) (w w' : World) (B : outParam Prop) : Prop where
  lift : Ext w w' → A → B
section
variable {w w' : World}
theorem up (he : Ext w w') {A B : Prop} (h : A) [Lift A w w' B] : B := Lift.lift he h
instance (priority := low) {A : Prop} : Lift A w w' A := ⟨fun _ h => h⟩
instance {w0 : World} : Lift (Ext w0 w) w w' (Ext w0 w') := ⟨fun he h => h.trans he⟩
instance {p : Addr} {v : Value} : Lift (w.cell? p = some v) w w' (w'.cell? p = some v) := ⟨fun he h => he.cell h⟩
instance {A B A' B' : Prop} [Lift A w w' A'] [Lift B w w' B'] : Lift (A ∧ B) w w' (A' ∧ B') := ⟨fun he h => ⟨Lift.lift he h.1, Lift.lift he h.2⟩⟩
instance {A A' : Prop} [Lift A w w' A'] : Lift (Hid A) w w' (Hid A') := ⟨fun he h => Lib.hid (Lift.lift he h.out)⟩
instance {α : Sort _} {A B : α → Prop} [∀ x, Lift (A x) w w' (B x)] : Lift (∃ x, A x) w w' (∃ x, B x) := ⟨fun he ⟨x, h⟩ => ⟨x, Lift.lift he h⟩⟩
instance {α : Sort _} {A B : α → Prop} [∀ x, Lift (A x) w w' (B x)] : Lift (∀ x, A x) w w' (∀ x, B x) := ⟨fun he h x => Lift.lift he (h x)⟩
instance {g : Nat} {t : TypeId} {cs : Array Value} : Lift (Blk w g t cs) w w' (Blk w' g t cs) := ⟨fun he h => h.ext he⟩
instance {A : Option Addr} {xs : List Int} : Lift (IntsAt w A xs) w w' (IntsAt w' A xs) := ⟨fun he h => h.ext he⟩
instance {A : Option Addr} {xs : List Ord} : Lift (OrdsAt w A xs) w w' (OrdsAt w' A xs) := ⟨fun he h => h.ext he⟩
instance {v : Value} {x : Ord} : Lift (OrdVal w v x) w w' (OrdVal w' v x) := ⟨fun he h => h.ext he⟩
instance {v : Value} {m : Mill} : Lift (MillVal w v m) w w' (MillVal w' v m) := ⟨fun he h => h.ext he⟩
instance {S : Nat → Prop} {v : Value} {m : Mill} : Lift (MillValS S w v m) w w' (MillValS S w' v m) := ⟨fun he h => h.ext he⟩
instance {b : Nat} {e : TypeId} {v : Value} {xs : List Int} : Lift (OwnI w b e v xs) w w' (OwnI w' b e v xs) := ⟨fun he h => h.ext he⟩
instance {b : Nat} {e : TypeId} {v : Value} {xs : List Ord} : Lift (OwnO w b e v xs) w w' (OwnO w' b e v xs) := ⟨fun he h => h.ext he⟩
instance {b : Nat} {v : Value} {xs : List (List Int)} : Lift (OwnR w b v xs) w w' (OwnR w' b v xs) := ⟨fun he h => h.ext he⟩
instance {v : Value} {xs : List (List Int)} : Lift (RowsI w v xs) w w' (RowsI w' v xs) := ⟨fun he h => h.ext he⟩
instance {v : Value} {xs : List Int} : Lift (SlI w v xs) w w' (SlI w' v xs) := ⟨fun he h => h.ext he⟩
instance {b N : Nat} {f : Nat → Int} : Lift (Row w b N f) w w' (Row w' b N f) := ⟨fun he h => h.ext he⟩
instance {D : Nat} {m : Mill} : Lift (Desk w D m) w w' (Desk w' D m) := ⟨fun he h => h.ext he⟩
instance {B : Nat} {f : Nat → Nat → Nat → Int} : Lift (CostsAt w B f) w w' (CostsAt w' B f) := ⟨fun he h => h.ext he⟩
instance {b : Nat} {e : TypeId} {s : Nat} {v : Value} {n : Nat} {xs : List Value} : Lift (w.ownsRow b e s v n xs) w w' (w'.ownsRow b e s v n xs) := ⟨fun he h => ownsRow_ext2 h he⟩
end
example {w w1 w2 : World} {v : Value} {m : Mill} (he : Ext w1 w2) (h : Ext w w1 ∧ MillVal w1 v m ∧ w1.cell? ⟨3, 0, none⟩ = some v ∧ Hid (∃ b, Blk w1 b 3 #[])) : True := by
  replace h := up he h
  have : MillVal w2 v m := h.2.1
  trivial
end Go.Proofs.Pet
