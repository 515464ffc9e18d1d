/- For every mill, order and list, LoomChecks returns true, and leaves what is passed in as it was. There are no conditions. -/
import Derived.Test.YtknokjnplbdmeaaT15
import Derived.Test.YtknokjnplbdmeaaSr
import Derived.Test.YtknokjnplbdmeaaRows
namespace Go.Proofs.Ytknokjnplbdmeaa
open Go Go.ChangeShapes Go.WideShapes Go.ChangeAt Go.RowKit Go.Proofs.Pet

set_option maxRecDepth 100000 in
theorem order_reads {H : Type} {enc : TypeId × Value → H} {w : World} {base : Nat} {spare : Nat → Bool} {held : Bool} {r : Reach} {b0 : Nat} {v : Value} {d : DataW H} {p : List MemPlace} (hv : Value.okWide Try.prog w r b0 78 v) (h : DataW.Trod enc Try.prog w base spare held 78 v d p) : ∃ o, OrdVal w v o := by
  obtain ⟨v0, v1, v2, v3, y0, y1, y2, y3, n, rfl, _, _, h0, h1, h2, h3⟩ := Go.Joins.open_agg4 Try.underlying78 (by kernel_rfl) (by kernel_rfl) hv h
  obtain ⟨A1, c1, xs, rfl, q1, q2, q3⟩ := ints_reads Try.underlying22 Try.underlying3 (by kernel_rfl) h3
  obtain ⟨k0, e0, _, _⟩ := DataW.trod_int Try.underlying3 h0
  injection e0 with e0 _
  subst e0
  obtain ⟨k1, e1, _, _⟩ := DataW.trod_int Try.underlying3 h1
  injection e1 with e1 _
  subst e1
  obtain ⟨k2, e2, _, _⟩ := DataW.trod_int Try.underlying3 h2
  injection e2 with e2 _
  subst e2
  exact ⟨⟨k0, k1, k2, xs⟩, A1, c1, ⟨q1, q2⟩, rfl, q3⟩
set_option maxRecDepth 100000 in
theorem loomChecks_lifted (os : Os) (started : os.Started) (H : Type) (enc : TypeId × Value → H) :
    ReturnsInHanded {} Try.checked os 8 .any (Rows.loomChecksSpec.pre6 enc Try.prog Try.f8 Rows.loomChecksRow.domain false) (Rows.loomChecksSpec.post enc Try.prog Try.f8 false true false false) := by
  refine returnsInHanded_of_change (C := Try.checked) ownKnob_ started (by kernel_rfl) Try.func8
    (ChangeSpec.witness6 (enc := enc) (C := Try.checked) false ⟨#[], #[.agg #[.slice none 0 0, .int .i64 0, .slice none 0 0], .agg #[.int .i64 0, .int .i64 0, .int .i64 0, .slice none 0 0], .slice none 0 0], []⟩ 8 (by kernel_rfl) (by kernel_rfl) (by kernel_rfl) (by kernel_rfl)) ?_
  intro W base args ds gs before hval0 hW hcnd _
  have hval : ∀ (j : Nat) t v, Try.f8.params[j]? = some t → args[j]? = some v → Value.okWide Try.prog W .any base t v := hval0
  have hW' := hW
  obtain ⟨p, q, hA0, hV, rfl, hfz, hnd⟩ := hW
  have hA : DataW.TrodAll enc Try.prog W 0 (fun _ => true) true Try.f8.params.toList args.toList ds p := hA0
  have hlt : ∀ x ∈ p, x.block < W.heap.size := fun x hx => hW'.lt x (by simp [hx])
  have hA1 := hA
  rw [Try.params8] at hA1 hval
  obtain ⟨v0, v1, v2, d0, d1, d2, p0, p1, p2, rfl, rfl, _, h0, h1, h2⟩ := trodAll_three hA1
  obtain ⟨rfl, rfl⟩ := trodVars_none hV
  obtain ⟨m0, hm0⟩ := mill_reads (hval 0 25 v0 rfl rfl) h0
  obtain ⟨o1, ho1⟩ := order_reads (hval 1 78 v1 rfl rfl) h1
  obtain ⟨A2, c2, xs2, rfl, hc2, hd2, hx2⟩ := list_reads (hval 2 22 v2 rfl rfl) h2
  clear hA0 hval0
  simp only [List.append_nil] at hW'
  refine (loomChecks_any v0 m0 v1 o1 A2 c2 xs2 W hm0 ho1 hc2 hd2 hx2).mono fun e W' ⟨he, hw⟩ => ?_
  subst he
  exact ⟨_, rfl, law_post (pa := p) (pv := []) hW' (fun _ _ _ => trodAll_mk1 (shut_bool Try.underlying4 true)) (fun sp hsp => trodAll_stays laidOut_ hw _ _ _ _ (by kernel_rfl) hlt (fun x hx => hsp x (by simp [hx])) hA) (fun _ _ => rfl) (by simp)
    hw (ok_one (by kernel_rfl) rfl (okWide_bool_mk Try.underlying4 true))⟩
theorem loomChecks_holds : Rows.LoomChecksSaid :=
  OpenClaim.holds_of_wide 8 Try.f8 rfl rfl rfl rfl rfl rfl rfl ⟨rfl, rfl, rfl, rfl, rfl⟩ rfl rfl rfl rfl rfl (by kernel_rfl) Try.func8 (by kernel_rfl)
    (of_decide_eq_true (by kernel_rfl)) (by unfold Func.isWrapper; rw [if_neg (of_decide_eq_false (by kernel_rfl))]; exact ⟨rfl, rfl⟩)
    (fun os started H enc _ => loomChecks_lifted os started H enc)
end Go.Proofs.Ytknokjnplbdmeaa
