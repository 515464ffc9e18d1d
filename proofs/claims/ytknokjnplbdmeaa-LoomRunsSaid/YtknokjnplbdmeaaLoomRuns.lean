/- For every mill, number, list and rows, LoomRuns returns true, and leaves what is passed in as it was. There are no conditions. -/
import Derived.Test.YtknokjnplbdmeaaQ6
import Derived.Test.YtknokjnplbdmeaaSh
import Derived.Test.YtknokjnplbdmeaaRows
import Derived.Carry
import Derived.Deep.Matrix
namespace Go.Proofs.Ytknokjnplbdmeaa
open Go Go.ChangeShapes Go.WideShapes Go.ChangeAt Go.RowKit Go.Proofs.Pet

set_option maxRecDepth 100000 in
theorem rows_reads {H : Type} {enc : TypeId × Value → H} {w : World} {base : Nat} {held : Bool} {r : Reach} {b0 : Nat} {v : Value} {d : DataW H} {p : List MemPlace} (hv : Value.okWide Try.prog w r b0 62 v) (h : DataW.Trod enc Try.prog w base (fun _ => true) held 62 v d p) :
    ∃ xss, RowsI w v xss := by
  obtain ⟨n, hn⟩ := h
  obtain ⟨a, l, c, rfl⟩ := okWide_slice Try.underlying62 hv
  rcases Go.Deep.open_int_rows Try.underlying62 Try.underlying22 Try.underlying3 (by kernel_rfl) (by kernel_rfl) hn with ⟨h1, _⟩ | ⟨a', len, cap, A, L, C, Z, h1, _, h2, h3, _, h5⟩
  · injection h1 with h1 _
    exact ⟨[], none, 0, h1, Nat.le_refl _, Nat.zero_le _, fun k hk => absurd hk (by simp)⟩
  · injection h1 with h1 _
    refine ⟨(List.range len).map fun i => (Z i).take (L i), some a', cap, by simpa using h1, by simpa using h2, h3, fun i hi => ?_⟩
    rw [List.length_map, List.length_range] at hi
    obtain ⟨g1, g2, g3, g4, _, g6, g7⟩ := h5 i (by omega)
    have hs := spot_none (h5 0 (by omega)).1
    obtain ⟨b, o, s⟩ := a'
    have hs' : s = none := hs
    subst hs'
    rw [addr_add] at g1
    refine ⟨b, o, _, rfl, g1, A i, C i, ?_, ?_, g3, fun k hk => ?_⟩
    · rw [List.getElem?_map, List.getElem?_range hi]
      simp [g4, Nat.min_eq_left g2]
    · rw [List.getElem?_map, List.getElem?_range hi]
      simp [g4]; omega
    · rw [List.getElem?_map, List.getElem?_range hi] at hk ⊢
      simp only [Option.map_some, Option.getD_some, List.length_take] at hk ⊢
      cases hA : A i with
      | none =>
        have := g6 hA
        omega
      | some ad =>
        obtain ⟨_, g8⟩ := g7 ad hA
        have hc := g8 k (by omega)
        have hs := spot_none (g8 0 (by omega))
        obtain ⟨b2, o2, s2⟩ := ad
        have hs' : s2 = none := hs
        subst hs'
        rw [addr_add] at hc
        refine ⟨b2, o2, rfl, ?_⟩
        rw [hc, List.getElem?_take, if_pos (by omega)]
        simp [List.getD]
set_option maxRecDepth 100000 in
theorem loomRuns_lifted (os : Os) (started : os.Started) (H : Type) (enc : TypeId × Value → H) :
    ReturnsInHanded {} Try.checked os 9 .any (Rows.loomRunsSpec.pre6 enc Try.prog Try.f9 Rows.loomRunsRow.domain false) (Rows.loomRunsSpec.post enc Try.prog Try.f9 false true false false) := by
  refine returnsInHanded_of_change (C := Try.checked) ownKnob_ started (by kernel_rfl) Try.func9
    (ChangeSpec.witness6 (enc := enc) (C := Try.checked) false ⟨#[], #[.agg #[.slice none 0 0, .int .i64 0, .slice none 0 0], .int .i64 0, .slice none 0 0, .slice none 0 0], []⟩ 8 (by kernel_rfl) (by kernel_rfl) (by kernel_rfl) (by kernel_rfl)) ?_
  intro W base args ds gs before hval0 hW hcnd _
  have hval : ∀ (j : Nat) t v, Try.f9.params[j]? = some t → args[j]? = some v → Value.okWide Try.prog W .any base t v := hval0
  have hW' := hW
  obtain ⟨p, q, hA0, hV, rfl, hfz, hnd⟩ := hW
  have hA : DataW.TrodAll enc Try.prog W 0 (fun _ => true) true Try.f9.params.toList args.toList ds p := hA0
  have hlt : ∀ x ∈ p, x.block < W.heap.size := fun x hx => hW'.lt x (by simp [hx])
  have hA1 := hA
  rw [Try.params9] at hA1 hval
  obtain ⟨v0, v1, v2, v3, d0, d1, d2, d3, p0, p1, p2, p3, rfl, rfl, _, h0, h1, h2, h3⟩ := trodAll_four hA1
  obtain ⟨rfl, rfl⟩ := trodVars_none hV
  obtain ⟨m, hm⟩ := mill_reads (hval 0 25 v0 rfl rfl) h0
  obtain ⟨n, rfl, _, _, _⟩ := open_int Try.underlying3 (hval 1 3 v1 rfl rfl) h1
  obtain ⟨A, c, xs, rfl, hc1, hc2, hxs⟩ := list_reads (hval 2 22 v2 rfl rfl) h2
  obtain ⟨xss, hxss⟩ := rows_reads (hval 3 62 v3 rfl rfl) h3
  clear hA0 hval0
  simp only [List.append_nil] at hW'
  refine (loomRuns_any v0 m n A c xs v3 xss W hm hc1 hc2 hxs hxss).mono fun e W' ⟨he, hw⟩ => ?_
  subst he
  exact ⟨_, rfl, law_post (pa := p) (pv := []) hW' (fun _ _ _ => trodAll_mk1 (shut_bool Try.underlying4 true)) (fun sp hsp => trodAll_stays laidOut_ hw _ _ _ _ (by kernel_rfl) hlt (fun x hx => hsp x (by simp [hx])) hA) (fun _ _ => rfl) (by simp)
    hw (ok_one (by kernel_rfl) rfl (okWide_bool_mk Try.underlying4 true))⟩
theorem loomRuns_holds : Rows.LoomRunsSaid :=
  OpenClaim.holds_of_wide 9 Try.f9 rfl rfl rfl rfl rfl rfl rfl ⟨rfl, rfl, rfl, rfl, rfl⟩ rfl rfl rfl rfl rfl (by kernel_rfl) Try.func9 (by kernel_rfl)
    (of_decide_eq_true (by kernel_rfl)) (by unfold Func.isWrapper; rw [if_neg (of_decide_eq_false (by kernel_rfl))]; exact ⟨rfl, rfl⟩)
    (fun os started H enc _ => loomRuns_lifted os started H enc)
end Go.Proofs.Ytknokjnplbdmeaa
