/- For every mill, sights and list, PowerProofs returns true, and leaves what is passed in as it was. There are no conditions. -/
import Derived.Test.YtjlglbhafopomaaGreatPH7
import Derived.Test.YtjlglbhafopomaaGreatPR
import Derived.Test.YtjlglbhafopomaaGreatRows
namespace Go.Proofs.YtjlglbhafopomaaGreat
open Go Go.ChangeShapes Go.WideShapes Go.ChangeAt Go.RowKit Go.Proofs.Pet

set_option maxRecDepth 100000 in
theorem powerProofs_lifted (os : Os) (started : os.Started) (H : Type) (enc : TypeId × Value → H) :
    ReturnsInHanded {} Tryz.checked os 7 .any (Rows.powerProofsSpec.pre6 enc Tryz.prog Tryz.f7 Rows.powerProofsRow.domain false) (Rows.powerProofsSpec.post enc Tryz.prog Tryz.f7 false true false false) := by
  refine returnsInHanded_of_change (C := Tryz.checked) ownKnob_ started (by kernel_rfl) Tryz.func7
    (ChangeSpec.witness6 (enc := enc) (C := Tryz.checked) false ⟨#[], #[.agg #[.slice none 0 0, .slice none 0 0], .slice none 0 0, .slice none 0 0], []⟩ 8 (by kernel_rfl) (by kernel_rfl) (by kernel_rfl) (by kernel_rfl)) ?_
  intro W base args ds gs before hval0 hW hcnd _
  have hval : ∀ (j : Nat) t v, Tryz.f7.params[j]? = some t → args[j]? = some v → Value.okWide Tryz.prog W .any base t v := hval0
  have hW' := hW
  obtain ⟨p, q, hA0, hV, rfl, hfz, hnd⟩ := hW
  have hA : DataW.TrodAll enc Tryz.prog W 0 (fun _ => true) true Tryz.f7.params.toList args.toList ds p := hA0
  have hlt : ∀ x ∈ p, x.block < W.heap.size := fun x hx => hW'.lt x (by simp [hx])
  have hA1 := hA
  rw [Tryz.params7] at hA1 hval
  obtain ⟨v0, v1, v2, d0, d1, d2, p0, p1, p2, rfl, rfl, _, h0, h1, h2⟩ := trodAll_three hA1
  obtain ⟨rfl, rfl⟩ := trodVars_none hV
  obtain ⟨m0, hm0⟩ := pmill_reads (hval 0 26 v0 rfl rfl) h0
  obtain ⟨A1, c1, xs1, rfl, hc1, hd1, hx1⟩ := sights_reads (hval 1 30 v1 rfl rfl) h1
  obtain ⟨A2, c2, xs2, rfl, hc2, hd2, hx2⟩ := list_reads (hval 2 31 v2 rfl rfl) h2
  clear hA0 hval0
  simp only [List.append_nil] at hW'
  refine (powerProofs_any v0 m0 A1 c1 xs1 A2 c2 xs2 W hm0 hc1 hd1 hx1 hc2 hd2 hx2).mono fun e W' ⟨he, hw⟩ => ?_
  subst he
  exact ⟨_, rfl, law_post (pa := p) (pv := []) hW' (fun _ _ _ => trodAll_mk1 (shut_bool Tryz.underlying4 true)) (fun sp hsp => trodAll_stays laidOut_ hw _ _ _ _ (by kernel_rfl) hlt (fun x hx => hsp x (by simp [hx])) hA) (fun _ _ => rfl) (by simp)
    hw (ok_one (by kernel_rfl) rfl (okWide_bool_mk Tryz.underlying4 true))⟩
theorem powerProofs_and2 {a b : Bool} (h : a = true) (g : b = true) : (a && b) = true := by rw [h, g]; rfl
set_option maxHeartbeats 4000000 in
theorem powerProofs_facts : joinedFacts Tryz.pinned.checked.prog 7 Tryz.f7 Rows.powerProofsSpec Rows.powerProofsRow = true := by
  unfold joinedFacts
  repeat' (with_reducible refine powerProofs_and2 ?_ ?_)
  all_goals (as_aux_lemma => kernel_rfl)
theorem powerProofs_holds : Rows.PowerProofsSaid :=
  OpenClaim.holds_of_wide 7 Tryz.f7 rfl rfl rfl rfl rfl rfl rfl ⟨rfl, rfl, rfl, rfl, rfl⟩ rfl rfl rfl rfl rfl (by kernel_rfl) Tryz.func7 powerProofs_facts
    (of_decide_eq_true (by kernel_rfl)) (by unfold Func.isWrapper; rw [if_neg (of_decide_eq_false (by kernel_rfl))]; exact ⟨rfl, rfl⟩)
    (fun os started H enc _ => powerProofs_lifted os started H enc)
end Go.Proofs.YtjlglbhafopomaaGreat
