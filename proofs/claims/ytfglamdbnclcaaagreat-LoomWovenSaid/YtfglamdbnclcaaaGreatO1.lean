/-
  Orders of the call's own, each with a list of its own; what mills are right.
-/
import Derived.Test.YtfglamdbnclcaaaGreatO0
import Derived.Test.YtfglamdbnclcaaaGreatOA
namespace Go.Proofs.Pet
open Go Go.RowKit Go.Maps Go.Shelf

/-- orders as values, their lists of looms in rows of the call's own -/
def OrdOwn (w : World) (base : Nat) : List Value → List Ord → Prop
  | [], [] => True
  | p :: d :: b :: s :: cs, x :: xs => p = .int .i64 x.pattern ∧ d = .int .i64 x.days ∧ b = .int .i64 x.by_ ∧ OwnI w base 3 s x.on ∧ OrdOwn w base cs xs
  | _, _ => False
theorem OrdOwn.list {w : World} {base : Nat} : ∀ {cs : List Value} {xs : List Ord}, OrdOwn w base cs xs → OrdList w cs xs
  | [], [], _ => trivial
  | p :: d :: b :: s :: cs, x :: xs, ⟨h1, h2, h3, h4, h5⟩ => by
    obtain ⟨A, c, e, g1, g2, g3, _⟩ := h4.open_
    exact ⟨h1, h2, h3, ⟨A, c, ⟨g1, g2⟩, e, g3⟩, h5.list⟩
theorem OrdOwn.map {w w' : World} {base base' : Nat} (f : ∀ u xs, OwnI w base 3 u xs → OwnI w' base' 3 u xs) : ∀ {cs : List Value} {xs : List Ord}, OrdOwn w base cs xs → OrdOwn w' base' cs xs
  | [], [], _ => trivial
  | _p :: _d :: _b :: _s :: _cs, _x :: _xs, ⟨h1, h2, h3, h4, h5⟩ => ⟨h1, h2, h3, f _ _ h4, h5.map f⟩
theorem OrdOwn.append {w : World} {base : Nat} : ∀ {cs : List Value} {xs : List Ord} {ds : List Value} {ys : List Ord}, OrdOwn w base cs xs → OrdOwn w base ds ys → OrdOwn w base (cs ++ ds) (xs ++ ys)
  | [], [], _, _, _, h => h
  | _p :: _d :: _b :: _s :: _cs, _x :: _xs, _ds, _ys, ⟨h1, h2, h3, h4, h5⟩, h => ⟨h1, h2, h3, h4, h5.append h⟩
def OwnOB (w : World) (base : Nat) (v : Value) (xs : List Ord) : Prop :=
  ∃ cs, w.ownsRow base 28 4 v xs.length cs ∧ OrdOwn w base cs xs
theorem OwnOB.nil (w : World) (base : Nat) : OwnOB w base (.slice none 0 0) [] := ⟨[], World.ownsRow_nil _ _ _ _, trivial⟩
theorem OwnOB.ext {w w' : World} {base : Nat} {v : Value} {xs : List Ord} (h : OwnOB w base v xs) (he : Ext w w') : OwnOB w' base v xs := by
  obtain ⟨cs, h1, h2⟩ := h
  exact ⟨cs, ownsRow_ext2 h1 he, h2.map fun _ _ g => g.ext he⟩
instance {w w' : World} {b : Nat} {v : Value} {xs : List Ord} : Lift (OwnOB w b v xs) w w' (OwnOB w' b v xs) := ⟨fun he h => h.ext he⟩
theorem OwnI.apartB {w W : World} {base b : Nat} {e : TypeId} {v : Value} {xs : List Int} (h : OwnI w base e v xs) (hb : b < base) (ha : Apart b w W) : OwnI W base e v xs :=
  h.apart (fun e => by have := (h.own_lt b e).1; omega) ha
theorem ownsRow_own {w : World} {base size n : Nat} {e : TypeId} {v : Value} {xs : List Value} (h : w.ownsRow base e size v n xs) (j : Nat) (hj : v.ownBlock = some j) : base ≤ j ∧ j < w.heap.size := by
  rcases h.2 with ⟨rfl, _⟩ | ⟨g, cap, cur, rfl, hg, hb, _⟩
  · cases hj
  · have : g = j := Option.some.inj hj
    subst this
    exact ⟨hg, (Array.getElem?_eq_some_iff.1 hb).1⟩
theorem OwnOB.apart {w W : World} {base b : Nat} {v : Value} {xs : List Ord} (h : OwnOB w base v xs) (hb : b < base) (ha : Apart b w W) : OwnOB W base v xs := by
  obtain ⟨cs, h1, h2⟩ := h
  exact ⟨cs, ownsRow_apart h1 (fun e => by have := (ownsRow_own h1 b e).1; omega) ha, h2.map fun _ _ g => g.apartB hb ha⟩
/-- a store into a block of another type -/
theorem OwnI.far {w : World} {base g : Nat} {t : TypeId} {cs : Array Value} {u : Value} {xs : List Int} (h : OwnI w base 3 u xs) (hb : Blk w g t cs) (hne : t ≠ 3) (i : Nat) (v : Value) : OwnI (w.setCell ⟨g, i, none⟩ v) base 3 u xs :=
  h.apart (fun e => h.ne_blk hb hne e.symm) ((Apart.refl g w).set_ i v)
theorem OwnOB.far {w : World} {base g : Nat} {t : TypeId} {cs : Array Value} {u : Value} {xs : List Ord} (h : OwnOB w base u xs) (hb : Blk w g t cs) (h1 : t ≠ 3) (h2 : t ≠ 28 ∨ g < base) (i : Nat) (v : Value) : OwnOB (w.setCell ⟨g, i, none⟩ v) base u xs := by
  obtain ⟨cs', g1, g2⟩ := h
  refine ⟨cs', ownsRow_apart g1 (fun e => ?_) ((Apart.refl g w).set_ i v), g2.map fun _ _ g => g.far hb h1 i v⟩
  rcases h2 with h2 | h2
  · exact ownsRow_ne_blk g1 hb h2 e.symm
  · have := (ownsRow_own g1 g e).1; omega
/-- a row of another type grows -/
theorem OwnI.grownT {w w' : World} {base base' size n : Nat} {e : TypeId} {u v : Value} {xs : List Int} {vs : List Value} (h : OwnI w base 3 u xs) (hne : e ≠ 3) (hg : w.grownBy w' v.ownBlock) (hv : w.ownsRow base' e size v n vs) : OwnI w' base 3 u xs := by
  obtain ⟨h1, h2⟩ := h
  refine ⟨h1, ?_⟩
  rcases h2 with h2 | ⟨g, cap, cur, rfl, hg1, hb, r⟩
  · exact .inl h2
  · refine .inr ⟨g, cap, cur, rfl, hg1, ?_, r⟩
    rw [← hb]
    refine hg.block g (Array.getElem?_eq_some_iff.1 hb).1 fun e' => ?_
    exact ownsRow_ne_blk hv (show Blk w g 3 cur from hb) (fun h => hne h.symm) e'
/-- an order more -/
theorem OwnOB.push {w w' : World} {base : Nat} {v v' s : Value} {cs : List Value} {xs : List Ord} {x : Ord} (h1 : w.ownsRow base 28 4 v xs.length cs) (h2 : OrdOwn w base cs xs) (hs : OwnI w base 3 s x.on)
    (hown : w'.ownsRow base 28 4 v' (xs.length + 1) (cs ++ [.int .i64 x.pattern, .int .i64 x.days, .int .i64 x.by_, s])) (hg : w.grownBy w' v.ownBlock) : OwnOB w' base v' (xs ++ [x]) := by
  refine ⟨_, by rw [List.length_append]; exact hown, ?_⟩
  exact OrdOwn.map (fun _ _ g => g.grownT (by decide) hg h1) (h2.append ⟨rfl, rfl, rfl, hs, trivial⟩)
theorem OwnOB.ords {w : World} {base : Nat} {v : Value} {xs : List Ord} (h : OwnOB w base v xs) : ∃ A c, v = .slice A xs.length c ∧ xs.length ≤ c ∧ c ≤ maxLen ∧ OrdsAt w A xs := by
  obtain ⟨cs, h1, h2⟩ := h
  obtain ⟨A, c, e, g1, g2, g3, _⟩ := OwnO.open_ (⟨cs, h1, h2.list⟩ : OwnO w base 28 v xs)
  exact ⟨A, c, e, g1, g2, g3⟩
end Go.Proofs.Pet
