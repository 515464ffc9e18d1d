/- For every bytes, bytes, byte and byte, TopClocked returns true, and leaves what is passed in as it was. There are no conditions. -/
import Derived.Test.YtnapmppdjlnbdaaJ13
import Derived.Test.YtnapmppdjlnbdaaRows
namespace Go.Proofs.Ytnapmppdjlnbdaa
open Go Go.ChangeShapes Go.WideShapes Go.ChangeAt Go.RowKit Go.Proofs.Pet

set_option maxRecDepth 100000 in
theorem topClocked_lifted (os : Os) (started : os.Started) (H : Type) (enc : TypeId × Value → H) :
    ReturnsInHanded {} Try.checked os 3 .any (Rows.topClockedSpec.pre6 enc Try.prog Try.f3 Rows.topClockedRow.domain false) (Rows.topClockedSpec.post enc Try.prog Try.f3 false true false false) := by
  refine returnsInHanded_of_change (C := Try.checked) ownKnob_ started (by kernel_rfl) Try.func3
    (ChangeSpec.witness6 (enc := enc) (C := Try.checked) false ⟨#[], #[.slice none 0 0, .slice none 0 0, .int .u8 0, .int .u8 0], []⟩ 8 (by kernel_rfl) (by kernel_rfl) (by kernel_rfl) (by kernel_rfl)) ?_
  intro W base args ds gs before hval0 hW hcnd _
  have hval : ∀ (j : Nat) t v, Try.f3.params[j]? = some t → args[j]? = some v → Value.okWide Try.prog W .any base t v := hval0
  have hW' := hW
  obtain ⟨p, q, hA0, hV, rfl, hfz, hnd⟩ := hW
  have hA : DataW.TrodAll enc Try.prog W 0 (fun _ => true) true Try.f3.params.toList args.toList ds p := hA0
  have hlt : ∀ x ∈ p, x.block < W.heap.size := fun x hx => hW'.lt x (by simp [hx])
  have hA1 := hA
  rw [Try.params3] at hA1 hval
  obtain ⟨v0, v1, v2, v3, d0, d1, d2, d3, p0, p1, p2, p3, rfl, rfl, _, h0, h1, h2, h3⟩ := trodAll_four hA1
  obtain ⟨rfl, rfl⟩ := trodVars_none hV
  have hb0 := bytes_reads (hval 0 22 v0 rfl rfl) h0
  have hb1 := bytes_reads (hval 1 22 v1 rfl rfl) h1
  obtain ⟨n2, rfl, _, _, hw2⟩ := open_int Try.underlying5 (hval 2 5 v2 rfl rfl) h2
  obtain ⟨n3, rfl, _, _, hw3⟩ := open_int Try.underlying5 (hval 3 5 v3 rfl rfl) h3
  clear hA0 hval0
  simp only [List.append_nil] at hW'
  refine (topClocked_any v0  v1  n2 n3 W hb0 hb1 (wf_u8 hw2) (wf_u8 hw3)).mono fun e W' ⟨he, hw⟩ => ?_
  subst he
  exact ⟨_, rfl, law_post (pa := p) (pv := []) hW' (fun _ _ _ => trodAll_mk1 (shut_bool Try.underlying4 true)) (fun sp hsp => trodAll_stays laidOut_ hw _ _ _ _ (by kernel_rfl) hlt (fun x hx => hsp x (by simp [hx])) hA) (fun _ _ => rfl) (by simp)
    hw (ok_one (by kernel_rfl) rfl (okWide_bool_mk Try.underlying4 true))⟩
theorem topClocked_and2 {a b : Bool} (h : a = true) (g : b = true) : (a && b) = true := by rw [h, g]; rfl
set_option maxHeartbeats 4000000 in
theorem topClocked_facts : joinedFacts Try.pinned.checked.prog 3 Try.f3 Rows.topClockedSpec Rows.topClockedRow = true := by
  unfold joinedFacts
  repeat' (with_reducible refine topClocked_and2 ?_ ?_)
  all_goals (as_aux_lemma => kernel_rfl)
theorem topClocked_holds : Rows.TopClockedSaid :=
  OpenClaim.holds_of_wide 3 Try.f3 rfl rfl rfl rfl rfl rfl rfl ⟨rfl, rfl, rfl, rfl, rfl⟩ rfl rfl rfl rfl rfl (by kernel_rfl) Try.func3 topClocked_facts
    (of_decide_eq_true (by kernel_rfl)) (by unfold Func.isWrapper; rw [if_neg (of_decide_eq_false (by kernel_rfl))]; exact ⟨rfl, rfl⟩)
    (fun os started H enc _ => topClocked_lifted os started H enc)
end Go.Proofs.Ytnapmppdjlnbdaa
