/-
  Orders of the call's own, each with a list of looms in a row of its own, no two in the same: as Own makes them.
-/
import Derived.Test.YtfglamdbnclcaaaGreatO1
namespace Go.Proofs.Pet
open Go Go.RowKit Go.Maps Go.Shelf

/-- the cells of orders, their lists f -/
def OrdCur (cur : Array Value) (os : List Ord) (f : Nat → Value) (K : Nat) : Prop :=
  ∀ k, k < os.length → cur[k * 4]? = some (.int .i64 (os[k]?.getD default).pattern) ∧ cur[k * 4 + 1]? = some (.int .i64 (os[k]?.getD default).days) ∧ cur[k * 4 + 2]? = some (.int .i64 (os[k]?.getD default).by_) ∧ (k < K → cur[k * 4 + 3]? = some (f k))
/-- each of the first K lists in a row of its own -/
structure ListsSep (w : World) (base : Nat) (a : Value) (os : List Ord) (f : Nat → Value) (K : Nat) : Prop where
  own : ∀ k, k < K → OwnI w base 3 (f k) (os[k]?.getD default).on
  sep : ∀ j k g, j < k → k < K → (f j).ownBlock = some g → (f k).ownBlock ≠ some g
  lac : ∀ k g, k < K → a.ownBlock = some g → (f k).ownBlock ≠ some g
def OwnSep (w : World) (base : Nat) (a v : Value) (os : List Ord) : Prop :=
  (v = .slice none 0 0 ∧ os = []) ∨ ∃ gB c cur f, v = .slice (some ⟨gB, 0, none⟩) os.length c ∧ base ≤ gB ∧ Blk w gB 28 cur ∧ os.length ≤ c ∧ c ≤ maxLen ∧ cur.size = c * 4 ∧ OrdCur cur os f os.length ∧ ListsSep w base a os f os.length
theorem ListsSep.ext {w w' : World} {base : Nat} {a : Value} {os : List Ord} {f : Nat → Value} {K : Nat} (h : ListsSep w base a os f K) (he : Ext w w') : ListsSep w' base a os f K := ⟨fun k hk => (h.own k hk).ext he, h.sep, h.lac⟩
theorem OwnSep.ext {w w' : World} {base : Nat} {a v : Value} {os : List Ord} (h : OwnSep w base a v os) (he : Ext w w') : OwnSep w' base a v os := by
  rcases h with h | ⟨gB, c, cur, f, h1, h2, h3, h4, h5, h6, h7, h8⟩
  · exact .inl h
  · exact .inr ⟨gB, c, cur, f, h1, h2, h3.ext he, h4, h5, h6, h7, h8.ext he⟩
instance {w w' : World} {b : Nat} {a v : Value} {os : List Ord} : Lift (OwnSep w b a v os) w w' (OwnSep w' b a v os) := ⟨fun he h => h.ext he⟩
/-! A turn of one order in place. -/
structure SepAt (w : World) (base : Nat) (a : Value) (gB c : Nat) (os : List Ord) (cur : Array Value) (f : Nat → Value) : Prop where
  ge : base ≤ gB
  blk : Blk w gB 28 cur
  cap : os.length ≤ c ∧ c ≤ maxLen
  size : cur.size = c * 4
  cells : OrdCur cur os f os.length
  lists : ListsSep w base a os f os.length
theorem SepAt.ext {w w' : World} {base : Nat} {a : Value} {gB c : Nat} {os : List Ord} {cur : Array Value} {f : Nat → Value} (h : SepAt w base a gB c os cur f) (he : Ext w w') : SepAt w' base a gB c os cur f :=
  ⟨h.ge, h.blk.ext he, h.cap, h.size, h.cells, h.lists.ext he⟩
instance {w w' : World} {base : Nat} {a : Value} {gB c : Nat} {os : List Ord} {cur : Array Value} {f : Nat → Value} : Lift (SepAt w base a gB c os cur f) w w' (SepAt w' base a gB c os cur f) := ⟨fun he h => h.ext he⟩
/-- what the operations of 'out.Orders[i].On = Dup(o.On)' leave -/
def ownR3 (g o t k : Nat) (r a : Value) (on : List Int) : Nat → Value → World → Prop
  | 0 => fun v _ => v = .pointer (some ⟨g, 2, none⟩)
  | 1 => fun v _ => v = r
  | 2 => fun v _ => v = .int .i64 k
  | 3 => fun v _ => v = .pointer (some ⟨o, 3, none⟩)
  | 4 => fun v _ => v = a
  | 5 => fun v W => OwnI W t 3 v on
  | _ => fun _ _ => True
end Go.Proofs.Pet
