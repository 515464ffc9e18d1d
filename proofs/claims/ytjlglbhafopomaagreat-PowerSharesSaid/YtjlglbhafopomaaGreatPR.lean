/-
  What a law of power is passed: mills and sights that can be read.
-/
import Derived.Test.YtjlglbhafopomaaGreatPAM
namespace Go.Proofs.Pet
open Go Go.RowKit Go.WideShapes Go.ChangeShapes Go.Joins Go.Deep
open Go.Proofs.Pow (PM Sh Wv)
section
variable {H : Type} {enc : TypeId × Value → H} {P : Program}
variable {w : World} {base : Nat} {spare : Nat → Bool} {held : Bool}
/-- a shaft's two cells that can be read -/
theorem sh_reads {e ti : TypeId} {n0 n1 g0 g1 p0 p1 : String} {m0 m1 : Bool} {o0 o1 : Nat} {fuel : Nat} {cs : List Value} {x : DataW H × List MemPlace}
    (he : P.underlying e = some (.struct #[⟨n0, ti, 0, m0, g0, p0, o0⟩, ⟨n1, ti, 1, m1, g1, p1, o1⟩])) (hi : P.underlying ti = some (.int .i64)) (ci : P.cellsOf ti = 1) (hC : P.cellsOf e = 2)
    (h : DataW.trod enc P w base spare held fuel e cs = some x) : ∃ o : Sh, cs = [.int .i64 o.up, .int .i64 o.price] := by
  obtain ⟨xs, n, _, _, hlen, hxs, hg⟩ := DataW.trod_struct he h
  rw [hC] at hlen
  match cs, hlen with
  | [c0, c1], _ =>
    match xs, hxs with
    | [y0, y1], _ =>
      have h0 : DataW.trod enc P w base spare held n ti (([c0, c1].drop 0).take (P.cellsOf ti)) = [y0, y1][0]? := hg 0 _ rfl
      have h1 : DataW.trod enc P w base spare held n ti (([c0, c1].drop 1).take (P.cellsOf ti)) = [y0, y1][1]? := hg 1 _ rfl
      rw [ci] at h0 h1
      simp only [List.drop_zero, List.drop_succ_cons, List.take_succ_cons, List.take_zero, List.getElem?_cons_zero, List.getElem?_cons_succ] at h0 h1
      obtain ⟨q0, e0, _, _⟩ := DataW.trod_int hi h0
      obtain ⟨q1, e1, _, _⟩ := DataW.trod_int hi h1
      injection e0 with e0 _
      injection e1 with e1 _
      exact ⟨⟨q0, q1⟩, by rw [e0, e1]⟩
/-- a weaver's two cells that can be read -/
theorem wv_reads {e ti tl : TypeId} {n0 n1 g0 g1 p0 p1 : String} {m0 m1 : Bool} {o0 o1 : Nat} {fuel : Nat} {cs : List Value} {x : DataW H × List MemPlace}
    (he : P.underlying e = some (.struct #[⟨n0, ti, 0, m0, g0, p0, o0⟩, ⟨n1, tl, 1, m1, g1, p1, o1⟩])) (hi : P.underlying ti = some (.int .i64)) (hl : P.underlying tl = some (.slice ti)) (ci : P.cellsOf ti = 1) (cl : P.cellsOf tl = 1) (hC : P.cellsOf e = 2)
    (h : DataW.trod enc P w base spare held fuel e cs = some x) : ∃ (o : Wv) (A : Option Addr) (c : Nat), cs = [.int .i64 o.shaft, .slice A o.hours.length c] ∧ o.hours.length ≤ c ∧ c ≤ maxLen ∧ IntsAt w A o.hours := by
  obtain ⟨xs, n, _, _, hlen, hxs, hg⟩ := DataW.trod_struct he h
  rw [hC] at hlen
  match cs, hlen with
  | [c0, c1], _ =>
    match xs, hxs with
    | [y0, y1], _ =>
      have h0 : DataW.trod enc P w base spare held n ti (([c0, c1].drop 0).take (P.cellsOf ti)) = [y0, y1][0]? := hg 0 _ rfl
      have h1 : DataW.trod enc P w base spare held n tl (([c0, c1].drop 1).take (P.cellsOf tl)) = [y0, y1][1]? := hg 1 _ rfl
      rw [ci] at h0
      rw [cl] at h1
      simp only [List.drop_zero, List.drop_succ_cons, List.take_succ_cons, List.take_zero, List.getElem?_cons_zero, List.getElem?_cons_succ] at h0 h1
      obtain ⟨q0, e0, _, _⟩ := DataW.trod_int hi h0
      obtain ⟨A, c, on, e1, r1, r2, r3⟩ := ints_reads hl hi ci h1
      injection e0 with e0 _
      exact ⟨⟨q0, on⟩, A, c, by rw [e0, e1], r1, r2, r3⟩
/-- a slice of structs of two cells each that can be read -/
theorem two_reads {β : Type} (z : β) (Rd : World → Nat → Nat → β → Prop) {t e : TypeId} {fuel : Nat} {v : Value} {x : DataW H × List MemPlace} (ht : P.underlying t = some (.slice e)) (hC : P.cellsOf e = 2)
    (hrd : ∀ fuel cs y, DataW.trod enc P w base spare held fuel e cs = some y → ∃ o : β, ∀ b q, (∀ j, j < 2 → w.cell? ⟨b, q + j, none⟩ = cs[j]?) → Rd w b q o)
    (h : DataW.trod enc P w base spare held fuel t [v] = some x) : ∃ A c, ∃ xs : List β, v = .slice A xs.length c ∧ xs.length ≤ c ∧ c ≤ maxLen ∧ ∀ k, k < xs.length → ∃ b q, A = some ⟨b, q, none⟩ ∧ Rd w b (q + k * 2) (xs[k]?.getD z) := by
  rcases open_slice ht h with ⟨h1, _⟩ | ⟨a, len, cap, m, n, D, Pl, h1, _, h2, h3, h4, _, h5⟩
  · injection h1 with h1 _
    exact ⟨none, 0, [], h1, Nat.le_refl _, Nat.zero_le _, fun k hk => by cases hk⟩
  · injection h1 with h1 _
    have hm : len ≤ m := by rw [h4]; split <;> omega
    have key : ∀ i : Nat, ∃ o : β, i < m → ∃ b q, a = ⟨b, q, none⟩ ∧ Rd w b (q + i * 2) o := by
      intro i
      by_cases him : i < m
      · obtain ⟨cs, hc, htr⟩ := h5 i him
        obtain ⟨o, ho⟩ := hrd _ cs _ htr
        refine ⟨o, fun _ => ?_⟩
        rw [hC] at hc
        obtain ⟨_, _, hat⟩ := World.cells?_some hc
        obtain ⟨cs0, hc0, _⟩ := h5 0 (by omega)
        rw [hC] at hc0
        obtain ⟨_, hl0, hat0⟩ := World.cells?_some hc0
        have hz := hat0 0 (by omega)
        rw [List.getElem?_eq_getElem (by omega)] at hz
        have hs := spot_none hz
        obtain ⟨b, q, s⟩ := a
        have hs' : s = none := hs
        subst hs'
        exact ⟨b, q, rfl, ho b (q + i * 2) fun j hj => by have := hat j (by omega); rw [addr_add, addr_add] at this; exact this⟩
      · exact ⟨z, fun h => absurd h him⟩
    have hch : ∃ F : Nat → β, ∀ i, i < m → ∃ b q, a = ⟨b, q, none⟩ ∧ Rd w b (q + i * 2) (F i) := ⟨fun i => (key i).choose, fun i => (key i).choose_spec⟩
    obtain ⟨F, hF⟩ := hch
    refine ⟨some a, cap, (List.range len).map F, by simpa using h1, by simpa using h2, h3, fun k hk => ?_⟩
    rw [List.length_map, List.length_range] at hk
    obtain ⟨b, q, rfl, hc⟩ := hF k (by omega)
    refine ⟨b, q, rfl, ?_⟩
    rw [List.getElem?_map, List.getElem?_range hk]
    exact hc
end
set_option maxRecDepth 100000 in
/-- a mill that can be read -/
theorem pmill_reads {H : Type} {enc : TypeId × Value → H} {w : World} {base : Nat} {spare : Nat → Bool} {held : Bool} {r : Reach} {b0 : Nat} {v : Value} {d : DataW H} {p : List MemPlace} (hv : Value.okWide Tryz.prog w r b0 26 v) (h : DataW.Trod enc Tryz.prog w base spare held 26 v d p) : ∃ m, PMVal w v m := by
  obtain ⟨v0, v1, y0, y1, n, rfl, _, _, h0, h1⟩ := open_agg2 Tryz.underlying26 (by kernel_rfl) (by kernel_rfl) hv h
  obtain ⟨A1, c1, xs, rfl, q1, q2, q3⟩ := two_reads (default : Sh) ShCells Tryz.underlying23 (by kernel_rfl) (fun fuel cs y hy => by
    obtain ⟨o, rfl⟩ := sh_reads Tryz.underlying105 Tryz.underlying3 (by kernel_rfl) (by kernel_rfl) hy
    exact ⟨o, fun b q hj => ⟨hj 0 (by omega), hj 1 (by omega)⟩⟩) h0
  obtain ⟨A2, c2, ys, rfl, r1, r2, r3⟩ := two_reads (default : Wv) WvCells Tryz.underlying24 (by kernel_rfl) (fun fuel cs y hy => by
    obtain ⟨o, A, c, rfl, g1, g2, g3⟩ := wv_reads Tryz.underlying82 Tryz.underlying3 Tryz.underlying31 (by kernel_rfl) (by kernel_rfl) (by kernel_rfl) hy
    exact ⟨o, fun b q hj => ⟨A, c, ⟨g1, g2⟩, hj 0 (by omega), hj 1 (by omega), g3⟩⟩) h1
  exact ⟨⟨xs, ys⟩, A1, c1, A2, c2, rfl, q1, q2, r1, r2, q3, r3⟩
end Go.Proofs.Pet
