/-
  Contracts of functions, each proved once.
-/
import Derived.Test.YtfglamdbnclcaaaGreatP13
import Derived.Test.YtfglamdbnclcaaaGreatP03
namespace Go.Proofs.Pet
open Go Go.RowKit Go.Maps Go.Shelf

theorem ownsRow_apart {w W : World} {base b size n : Nat} {e : TypeId} {v : Value} {xs : List Value} (h : w.ownsRow base e size v n xs) (hne : v.ownBlock ≠ some b) (ha : Apart b w W) : W.ownsRow base e size v n xs := by
  obtain ⟨h1, h2⟩ := h
  refine ⟨h1, ?_⟩
  rcases h2 with h2 | ⟨g, cap, cur, rfl, hg1, hb, r⟩
  · exact .inl h2
  · refine .inr ⟨g, cap, cur, rfl, hg1, ?_, r⟩
    rw [← hb]
    exact ha.block g (Array.getElem?_eq_some_iff.1 hb).1 (fun e => hne (by rw [e]; rfl))
/-- a change of a block of S alone -/
theorem MillValS.apart {S : Nat → Prop} {w W : World} {v : Value} {m : Mill} {g : Nat} (h : MillValS S w v m) (hg : S g) (ha : Apart g w W) : MillValS S W v m := by
  have key : ∀ (A : Option Addr) (xs : List Int), IntsAt w A xs → (xs ≠ [] → ∀ ad, A = some ad → ¬ S ad.block) → IntsAt W A xs := by
    intro A xs hx hn k hk
    obtain ⟨b, o, rfl, hc⟩ := hx k hk
    have hne : b ≠ g := fun e => hn (by rintro rfl; cases hk) _ rfl (e ▸ hg)
    have hlt := cell_lt hc
    refine ⟨b, o, rfl, ?_⟩
    rw [← hc]
    unfold World.cell?
    simp only [ha.block b hlt hne]
  have cellK : ∀ (b o : Nat) (u : Value), b ≠ g → w.cell? ⟨b, o, none⟩ = some u → W.cell? ⟨b, o, none⟩ = some u := by
    intro b o u hne hc
    have hlt := cell_lt hc
    rw [← hc]
    unfold World.cell?
    simp only [ha.block b hlt hne]
  obtain ⟨A1, c1, A2, c2, h1, h2, h3, h4, h5, h6, h7, h8⟩ := h
  refine ⟨A1, c1, A2, c2, h1, h2, h3, h4, h5, key _ _ h6 h7, h7, fun k hk => ?_⟩
  obtain ⟨b, o, e, hb, A, c, g1, g2, g3, g4, g5, g6, g7⟩ := h8 k hk
  have hne : b ≠ g := fun e => hb (e ▸ hg)
  exact ⟨b, o, e, hb, A, c, g1, cellK _ _ _ hne g2, cellK _ _ _ hne g3, cellK _ _ _ hne g4, cellK _ _ _ hne g5, key _ _ g6 g7, g7⟩
end Go.Proofs.Pet

namespace Go.Proofs.Pet
open Go Go.RowKit Go.Maps Go.Shelf

end Go.Proofs.Pet
