/-
  The reference's Runs, Grouped and Cost, walked.
-/
import Derived.Test.YtjlglbhafopomaaGreatPE2
import Derived.Test.YtjlglbhafopomaaGreatPB5
namespace Go.Proofs.Pet
set_option linter.unusedSimpArgs false
open Go Go.RowKit Go.Maps Go.Shelf
open Go.Proofs.Pow (PM Sh Wv POk Up)

/-- the error of a group at a mill that is fit -/
def grpE (m : PM) (g : List Int) : Int := if (g.all fun k => inB k 0 (m.wvs.length - 1)) = false then 1 else if twiceB g = true then 5 else 0
set_option maxHeartbeats 1000000 in
theorem grouped7_any (v : Value) (m : PM) (A : Option Addr) (c n : Nat) (l : List Int) (hn : l.length = n) (r : Int) (hr : grpE m l = r) (w : World) (hv : PMVal w v m) (hlc : n ≤ c) (hl : n ≤ 1000) (hwl : m.wvs.length ≤ 1000) (hx : IntsAt w A l) :
    Calls Tryz.prog 36 #[v, .slice A n c] w fun e w' => e = .returned (.int .i64 r) ∧ Ext w w' := by
  -- <<G
  subst hn
  have Hr := Lib.hid hr; clear hr
  obtain ⟨A1, c1, A2, c2, rfl, h2, h3, h4, h5, h6, h7⟩ := hv
  unfold maxLen at h5
  have hE := Ext.alloc w (.cells #[.slice A1 m.shafts.length c1, .slice A2 m.wvs.length c2] 54)
  have hM := Blk.new w 54 #[.slice A1 m.shafts.length c1, .slice A2 m.wvs.length c2]
  clear h6 h7
  go_enter Tryz.func36, Tryz.ntmps36
  go_wp2
  generalize w.alloc _ = W at *
  go_loopw [5] (fun i wr => ∃ k : Nat, k ≤ l.length ∧ i = .int .i64 k ∧ Ext w wr ∧ Blk wr w.heap.size 54 #[.slice A1 m.shafts.length c1, .slice A2 m.wvs.length c2] ∧
      Hid (∀ j, j < k → inB (l[j]?.getD 0) 0 (m.wvs.length - 1) = true)) (fun i _ => l.length - (intOf i).toNat)
  case atStart => exact ⟨0, by omega, rfl, hE, hM, fun j hj => absurd hj (by omega)⟩
  case round =>
    obtain ⟨k, hk, rfl, he, hM', hm⟩ := hrel
    obtain ⟨k0, k1⟩ := hM'.c2
    by_cases hlt : k < l.length
    · obtain ⟨b, o, rfl, q1⟩ := hx.ext he k hlt
      have hmem0 : (l[k]?.getD 0) ∈ l := by simp [hlt]
      have hmem := Lib.hid hmem0; clear hmem0
      generalize hgx : l[k]?.getD 0 = y at *
      have Hgx := Lib.hid hgx; clear hgx
      obtain ⟨q, hq⟩ : ∃ q, inB y 0 (m.wvs.length - 1) = q := ⟨_, rfl⟩
      have Ho := Lib.hid (off_any y 0 (m.wvs.length - 1) q hq)
      have Hq := Lib.hid hq; clear hq
      go_wp2_with fail
      cases q with
      | false =>
        go_quiet ((go_at_call 109; exact quiet_same (Ho.out _)))
        go_wp2
        go_ret
        exact ⟨by rw [← Hr.out]; unfold grpE; rw [if_pos (all_false hmem.out Hq.out)]; rfl, he.trans (Ext.drewN _ _)⟩
      | true =>
        go_quiet ((go_at_call 109; exact quiet_same (Ho.out _)))
        go_wp2
        go_roundw
        case rel =>
          refine ⟨k + 1, by omega, by go_num, he.trans (Ext.drewN _ _), hM', fun j hj => ?_⟩
          by_cases ej : j = k
          · subst ej; rw [Hgx.out]; exact Hq.out
          · exact hm.out j (by omega)
        case measure => simp [intOf]; omega
    · have hall := Lib.hid (all_true_of (p := fun k => inB k 0 (m.wvs.length - 1)) (xs := l) fun j hj => hm.out j (by omega))
      clear hm
      go_wp2
      obtain ⟨w2, hw2⟩ : ∃ w2, w2 = wr := ⟨_, rfl⟩
      rw [← hw2] at he hM' ⊢
      clear hw2
      go_loopw [6] (fun i wr => ∃ k : Nat, k ≤ l.length ∧ i = .int .i64 k ∧ Ext w wr ∧ Hid (∀ j, j < k → (l.take j).contains (l[j]?.getD 0) = false)) (fun i _ => l.length - (intOf i).toNat)
      case atStart => exact ⟨0, by omega, rfl, he, fun j hj => absurd hj (by omega)⟩
      case round =>
        obtain ⟨k, hk, rfl, he2, hm⟩ := hrel
        by_cases hlt : k < l.length
        · obtain ⟨b, o, rfl, q1⟩ := hx.ext he2 k hlt
          obtain ⟨q, hq⟩ : ∃ q, (l.take k).contains (l[k]?.getD 0) = q := ⟨_, rfl⟩
          have hlk : (l.take k).length = k := by rw [List.length_take]; omega
          have Ho := fun W (hW : Ext w W) => has_any (l[k]?.getD 0) (some ⟨b, o, none⟩) c k (l.take k) hlk q hq W (by unfold maxLen; omega) ((hx.ext hW).take k)
          have Ho' := Lib.hid Ho; clear Ho
          have Hq := Lib.hid hq; clear hq hlk
          generalize hgx : l[k]?.getD 0 = y at *
          have Hgx := Lib.hid hgx; clear hgx
          go_wp2_with fail
          cases q with
          | true =>
            go_quiet ((go_at_call 110; exact quiet_same (Ho'.out _ (he2.trans (Ext.drewN _ _)))))
            go_wp2
            go_ret
            refine ⟨?_, he2.trans (Ext.drewN _ _)⟩
            rw [← Hr.out]
            unfold grpE
            rw [hall.out, twiceB_true hlt (by rw [Hgx.out]; exact Hq.out)]; rfl
          | false =>
            go_quiet ((go_at_call 110; exact quiet_same (Ho'.out _ (he2.trans (Ext.drewN _ _)))))
            go_wp2
            go_roundw
            case rel =>
              refine ⟨k + 1, by omega, by go_num, he2.trans (Ext.drewN _ _), fun j hj => ?_⟩
              by_cases ej : j = k
              · subst ej; rw [Hgx.out]; exact Hq.out
              · exact hm.out j (by omega)
            case measure => simp [intOf]; omega
        · go_wp2
          go_ret
          refine ⟨?_, he2⟩
          rw [← Hr.out]
          unfold grpE
          rw [hall.out, twiceB_false fun j hj => hm.out j (by omega)]; rfl
  -- >>
/-- the sum of the hours before h, and of the shafts before s in the hour h -/
def sumS (m : PM) (mk : Nat → Nat → Bool) (h s : Nat) : Int := ((List.range s).map fun i => if mk i h then (m.sh i).price else 0).sum
def sumH (m : PM) (mk : Nat → Nat → Bool) (h : Nat) : Int := ((List.range h).map fun t => sumS m mk t m.shafts.length).sum
end Go.Proofs.Pet
