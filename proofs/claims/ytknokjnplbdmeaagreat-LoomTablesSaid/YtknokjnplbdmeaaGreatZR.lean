/-
  Rows and tables that can be read.
-/
import Derived.Test.YtknokjnplbdmeaaGreatSh
import Derived.Test.YtknokjnplbdmeaaGreatZ8
namespace Go.Proofs.Pet
open Go Go.ChangeShapes Go.WideShapes Go.ChangeAt Go.RowKit Go.Deep

section
variable {H : Type} {enc : TypeId × Value → H} {P : Program} {w : World} {base : Nat} {spare : Nat → Bool} {held : Bool}
/-- a list of elements of one cell that can be read -/
theorem slice_reads {t e : TypeId} {β : Type} (Rd : Value → β → Prop) (z : β) (ht : P.underlying t = some (.slice e)) (hc : P.cellsOf e = 1) (hrd : ∀ fuel u y, DataW.trod enc P w base spare held fuel e [u] = some y → ∃ b, Rd u b)
    {fuel : Nat} {v : Value} {x : DataW H × List MemPlace} (h : DataW.trod enc P w base spare held fuel t [v] = some x) :
    ∃ A c, ∃ xs : List β, v = .slice A xs.length c ∧ xs.length ≤ c ∧ c ≤ maxLen ∧ ∀ i, i < xs.length → ∃ b o u, A = some ⟨b, o, none⟩ ∧ w.cell? ⟨b, o + i, none⟩ = some u ∧ Rd u (xs[i]?.getD z) := by
  rcases open_slice ht h with ⟨h1, _⟩ | ⟨a, len, cap, m, n, D, Pl, h1, _, h2, h3, h4, _, h5⟩
  · injection h1 with h1 _
    exact ⟨none, 0, [], h1, Nat.le_refl _, Nat.zero_le _, fun k hk => by cases hk⟩
  · injection h1 with h1 _
    have hm : len ≤ m := by rw [h4]; split <;> omega
    have key : ∀ i : Nat, ∃ y : β, i < m → ∃ b q u, a = ⟨b, q, none⟩ ∧ w.cell? ⟨b, q + i, none⟩ = some u ∧ Rd u y := by
      intro i
      by_cases him : i < m
      · obtain ⟨cs, hcs, htr⟩ := h5 i him
        rw [hc] at hcs
        obtain ⟨_, hl, hat⟩ := World.cells?_some hcs
        match cs, hl with
        | [u], _ =>
          obtain ⟨y, hy⟩ := hrd _ _ _ htr
          refine ⟨y, fun _ => ?_⟩
          have hz := hat 0 (by omega)
          simp only [List.getElem?_cons_zero] at hz
          obtain ⟨cs0, hc0, _⟩ := h5 0 (by omega)
          rw [hc] at hc0
          obtain ⟨_, hl0, hat0⟩ := World.cells?_some hc0
          have hz0 := hat0 0 (by omega)
          rw [List.getElem?_eq_getElem (by omega)] at hz0
          have hs := spot_none hz0
          obtain ⟨b, q, s⟩ := a
          have hs' : s = none := hs
          subst hs'
          refine ⟨b, q, u, rfl, ?_, hy⟩
          rw [addr_add, addr_add] at hz
          simpa using hz
      · exact ⟨z, fun h => absurd h him⟩
    have hch : ∃ F : Nat → β, ∀ i, i < m → ∃ b q u, a = ⟨b, q, none⟩ ∧ w.cell? ⟨b, q + i, none⟩ = some u ∧ Rd u (F i) := ⟨fun i => (key i).choose, fun i => (key i).choose_spec⟩
    obtain ⟨F, hF⟩ := hch
    refine ⟨some a, cap, (List.range len).map F, by simpa using h1, by simpa using h2, h3, fun k hk => ?_⟩
    rw [List.length_map, List.length_range] at hk
    obtain ⟨b, q, u, rfl, hcell, hr⟩ := hF k (by omega)
    refine ⟨b, q, u, rfl, hcell, ?_⟩
    rw [List.getElem?_map, List.getElem?_range hk]
    exact hr
end
set_option maxRecDepth 100000 in
theorem table_reads {H : Type} {enc : TypeId × Value → H} {w : World} {base : Nat} {spare : Nat → Bool} {held : Bool} {r : Reach} {b0 : Nat} {v : Value} {d : DataW H} {p : List MemPlace} (hv : Value.okWide Tryz.prog w r b0 27 v) (h : DataW.Trod enc Tryz.prog w base spare held 27 v d p) :
    ∃ T, TabI w v T := by
  obtain ⟨n, hn⟩ := h
  obtain ⟨a, l, c, rfl⟩ := okWide_slice Tryz.underlying27 hv
  obtain ⟨A, c', T, e, h1, h2, h3⟩ := slice_reads (RowsI w) [] Tryz.underlying27 (by kernel_rfl) (fun fuel u y hu => by
    obtain ⟨A, c, xss, e, h1, h2, h3⟩ := slice_reads (SlI w) [] Tryz.underlying30 (by kernel_rfl) (fun fuel u y hu => by
      obtain ⟨A, c, xs, e, h1, h2, h3⟩ := ints_reads Tryz.underlying22 Tryz.underlying3 (by kernel_rfl) hu
      exact ⟨xs, A, c, e, h1, h2, h3⟩) hu
    exact ⟨xss, A, c, e, h1, h2, h3⟩) hn
  exact ⟨T, A, c', e, h1, h2, h3⟩
set_option maxRecDepth 100000 in
theorem rows_reads {H : Type} {enc : TypeId × Value → H} {w : World} {base : Nat} {spare : Nat → Bool} {held : Bool} {r : Reach} {b0 : Nat} {v : Value} {d : DataW H} {p : List MemPlace} (hv : Value.okWide Tryz.prog w r b0 30 v) (h : DataW.Trod enc Tryz.prog w base spare held 30 v d p) :
    ∃ xss, RowsI w v xss := by
  obtain ⟨n, hn⟩ := h
  obtain ⟨a, l, c, rfl⟩ := okWide_slice Tryz.underlying30 hv
  obtain ⟨A, c, xss, e, h1, h2, h3⟩ := slice_reads (SlI w) [] Tryz.underlying30 (by kernel_rfl) (fun fuel u y hu => by
    obtain ⟨A, c, xs, e, h1, h2, h3⟩ := ints_reads Tryz.underlying22 Tryz.underlying3 (by kernel_rfl) hu
    exact ⟨xs, A, c, e, h1, h2, h3⟩) hn
  exact ⟨xss, A, c, e, h1, h2, h3⟩
end Go.Proofs.Pet
