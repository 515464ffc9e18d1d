/-
  LoomTables, walked.
-/
import Derived.Test.YtknokjnplbdmeaaGreatZ7
import Derived.Test.YtknokjnplbdmeaaGreatV1
import Derived.Test.YtknokjnplbdmeaaGreatU6
import Derived.Deep.DeepCutAuto
namespace Go.Proofs.Pet
open Go Go.RowKit Go.Maps Go.Shelf

/-- a table of the call's own -/
def OwnT (w : World) (base : Nat) (v : Value) (T : List (List (List Int))) : Prop :=
  ∃ vs, w.ownsRow base 30 1 v T.length vs ∧ vs.length = T.length ∧ ∀ i, i < T.length → OwnR w base (vs[i]?.getD undef) (T[i]?.getD [])
theorem OwnT.nil (w : World) (base : Nat) : OwnT w base (.slice none 0 0) [] := ⟨[], World.ownsRow_nil w base _ 1, rfl, fun i h => absurd h (by simp)⟩
theorem OwnT.ext {w w' : World} {base : Nat} {v : Value} {T : List (List (List Int))} (h : OwnT w base v T) (he : Ext w w') : OwnT w' base v T := by
  obtain ⟨vs, h1, h2, h3⟩ := h
  exact ⟨vs, ownsRow_ext2 h1 he, h2, fun i hi => (h3 i hi).ext he⟩
theorem OwnI.grownOf {w w' : World} {base base' size n : Nat} {e : TypeId} {u v : Value} {xs : List Int} {vs : List Value} (h : OwnI w base 3 u xs) (hne : e ≠ 3) (hg : w.grownBy w' v.ownBlock) (hv : w.ownsRow base' e size v n vs) : OwnI w' base 3 u xs := by
  obtain ⟨h1, h2⟩ := h
  refine ⟨h1, ?_⟩
  rcases h2 with h2 | ⟨g, cap, cur, rfl, hg1, hb, r⟩
  · exact .inl h2
  · refine .inr ⟨g, cap, cur, rfl, hg1, ?_, r⟩
    rw [← hb]
    refine hg.block g (Array.getElem?_eq_some_iff.1 hb).1 fun e' => ?_
    exact ownsRow_ne_blk hv (show Blk w g 3 cur from hb) (fun h => hne h.symm) e'
theorem OwnR.grownTT {w w' : World} {base base' n : Nat} {u v : Value} {X : List (List Int)} {vs : List Value} (h : OwnR w base u X) (hg : w.grownBy w' v.ownBlock) (hv : w.ownsRow base' 30 1 v n vs) : OwnR w' base u X := by
  obtain ⟨us, ⟨h1, h2⟩, h3, h4⟩ := h
  refine ⟨us, ⟨h1, ?_⟩, h3, fun i hi => (h4 i hi).grownOf (by decide) hg hv⟩
  rcases h2 with h2 | ⟨g, cap, cur, rfl, hg1, hb, r⟩
  · exact .inl h2
  · refine .inr ⟨g, cap, cur, rfl, hg1, ?_, r⟩
    rw [← hb]
    refine hg.block g (Array.getElem?_eq_some_iff.1 hb).1 fun e' => ?_
    exact ownsRow_ne_blk hv (show Blk w g 22 cur from hb) (by decide) e'
theorem OwnT.push {w1 w' : World} {base n : Nat} {v v' u : Value} {T : List (List (List Int))} {X : List (List Int)} {vs : List Value} (hn : T.length = n) (hv : w1.ownsRow base 30 1 v n vs) (hl : vs.length = n)
    (he : ∀ i, i < n → OwnR w1 base (vs[i]?.getD undef) (T[i]?.getD [])) (hu : OwnR w1 base u X) (hown : w'.ownsRow base 30 1 v' (n + 1) (vs ++ [u])) (hg : w1.grownBy w' v.ownBlock) : OwnT w' base v' (T ++ [X]) := by
  subst hn
  refine ⟨vs ++ [u], by simpa using hown, by simp [hl], fun i hi => ?_⟩
  rw [List.length_append, List.length_singleton] at hi
  by_cases e : i < T.length
  · rw [List.getElem?_append_left (by omega), List.getElem?_append_left e]
    exact (he i e).grownTT hg hv
  · have : i = T.length := by omega
    subst this
    rw [List.getElem?_append_right (by omega), List.getElem?_append_right (by omega), hl]
    simp only [Nat.sub_self, List.getElem?_cons_zero, Option.getD_some]
    exact hu.grownTT hg hv
theorem OwnT.tab {w : World} {base : Nat} {v : Value} {T : List (List (List Int))} (h : OwnT w base v T) : TabI w v T := by
  obtain ⟨vs, ⟨h0, h1⟩, h2, h3⟩ := h
  rcases h1 with ⟨rfl, hn⟩ | ⟨g, cap, cur, rfl, hg, hb, hn, hm, hs, hc⟩
  · rw [List.length_eq_zero_iff] at hn
    subst hn
    exact ⟨none, 0, rfl, Nat.le_refl _, Nat.zero_le _, fun i hi => absurd hi (by simp)⟩
  · refine ⟨some ⟨g, 0, none⟩, cap, rfl, hn, hm, fun i hi => ?_⟩
    have hlt : i < vs.length := by omega
    have hcell := row_cell hb hc i vs[i] (List.getElem?_eq_getElem hlt)
    have h4 := h3 i hi
    rw [List.getElem?_eq_getElem hlt] at h4
    exact ⟨g, 0, vs[i], rfl, hcell, h4.rows⟩
section
variable {w w' : World}
instance {v : Value} {T : List (List (List Int))} : Lift (TabI w v T) w w' (TabI w' v T) := ⟨fun he h => h.ext he⟩
end
/-- what the law asks of the two functions -/
def TabLaw (m : Mill) (T : List (List (List Int))) (e f : Int) (q : Bool) (n : Int) : Prop := boundE m T = (q, e) ∧ leastE m T = (n, f)
theorem tabLaw_bad {m : Mill} {T : List (List (List Int))} {e : Int} (h : tabE m T = e) (h0 : e ≠ 0) : TabLaw m T e e false 0 := by
  refine ⟨?_, ?_⟩
  · unfold boundE; rw [h]; simp [h0]
  · unfold leastE; rw [if_neg (by rw [h]; exact h0), h]
theorem tabLaw_false {m : Mill} {T : List (List (List Int))} (h : tabE m T = 0) (hq : boundsQ m (tabF T) = false) : TabLaw m T 0 8 false 0 := by
  refine ⟨?_, ?_⟩
  · unfold boundE; rw [h, hq]; rfl
  · unfold leastE; rw [if_pos h, hq]; rfl
theorem tabLaw_true {m : Mill} {T : List (List (List Int))} (h : tabE m T = 0) (hq : boundsQ m (tabF T) = true) {r : Int} (hr : shareF (leastN m T) m.laced.length (bits m.orders.length (2 ^ m.orders.length - 1)) (fun _ => 0) = r) :
    (r < 0 → TabLaw m T 0 6 true 0) ∧ (0 ≤ r → TabLaw m T 0 0 true r) := by
  have hT := tabE_ok h
  obtain ⟨l1, l2, l3⟩ := check_len hT.ok
  have hp := Nat.two_pow_pos m.orders.length
  have hnn := fun l s => (numT_bd (n := m.orders.length) (tabF_nonneg hT) l s).1
  have hs := share_sum (numT m.orders.length (tabF T)) (leastN m T) m.laced.length m.orders.length (2 ^ m.orders.length - 1) l2 (by omega) (by omega) (fun i s _ _ => rfl) hnn
  rw [hr] at hs
  have hsb : 0 ≤ sumF (numT m.orders.length (tabF T)) m.laced.length (2 ^ m.orders.length - 1) ∨ 297 ≤ sumF (numT m.orders.length (tabF T)) m.laced.length (2 ^ m.orders.length - 1) := by
    by_cases h7 : sumF (numT m.orders.length (tabF T)) m.laced.length (2 ^ m.orders.length - 1) < 297
    · obtain ⟨f, _, e2, _⟩ := (sumF_least (numT m.orders.length (tabF T)) hnn m.laced.length (2 ^ m.orders.length - 1) l2).2 h7
      rw [e2]
      exact .inl (tot_nonneg _ _ _ fun i _ => hnn i (f i))
    · exact .inr (by omega)
  have hb : boundE m T = (true, 0) := by unfold boundE; rw [h, hq]; rfl
  have hl : leastE m T = if 297 ≤ sumF (numT m.orders.length (tabF T)) m.laced.length (2 ^ m.orders.length - 1) then (0, 6) else (sumF (numT m.orders.length (tabF T)) m.laced.length (2 ^ m.orders.length - 1), 0) := by
    unfold leastE; rw [if_pos h, if_pos hq]
  constructor
  · intro h0
    refine ⟨hb, ?_⟩
    rw [hl, if_pos]
    split at hs <;> omega
  · intro h0
    refine ⟨hb, ?_⟩
    rw [hl]
    split at hs
    · rw [if_neg (by omega), hs]
    · omega
theorem tabE_check {m : Mill} {T : List (List (List Int))} {r : Int} (h : checkE m = r) (h0 : r ≠ 0) : tabE m T = r := by
  unfold tabE; rw [if_neg (by rw [h]; exact h0), h]

set_option maxRecDepth 100000 in
set_option maxHeartbeats 8000000 in
theorem loomTables_any (v : Value) (m : Mill) (tv : Value) (T : List (List (List Int))) (w : World) (hv : MillVal w v m) (ht : TabI w tv T) :
    Calls Tryz.prog 3 #[v, tv] w fun e w' => e = .returned (.bool true) ∧ Ext w w' := by
  obtain ⟨ti3, hi3, hx0, hx1, hx2⟩ := info_parts info_slII
  have Hv := Lib.hid hv
  have Ht := Lib.hid ht
  obtain ⟨A1, c1, A2, c2, rfl, h2, h3, h4, h5, h6, h7⟩ := hv
  obtain ⟨At, ct, rfl, t2, t3, t4⟩ := ht
  have T4 := Lib.hid t4
  have hE := Ext.alloc w (.cells #[.slice A1 m.laced.length c1, .int .i64 m.change, .slice A2 m.orders.length c2] 25)
  have hM := Blk.new w 25 #[.slice A1 m.laced.length c1, .int .i64 m.change, .slice A2 m.orders.length c2]
  unfold maxLen at h5 t3
  clear h2 h3 h6 h7 t4
  obtain ⟨q, hq⟩ : ∃ q, greatB m = q := ⟨_, rfl⟩
  have hgr := Lib.hid (great_any _ m q hq _ (Hv.out.ext hE))
  have Hq := Lib.hid hq; clear hq
  obtain ⟨k0, k1, k2⟩ := hM.c3
  go_enter Tryz.func3, Tryz.ntmps3
  go_upto_region 1 with fail
  obtain ⟨b0, hb0⟩ : ∃ b0, w.heap.size = b0 := ⟨_, rfl⟩
  rw [hb0] at hM ⊢
  clear hb0 k0 k1 k2
  generalize w.alloc _ = W0 at *
  obtain ⟨k0, k1, k2⟩ := hM.c3
  go_cut [40] (fun s40 wx => Ext W0 wx ∧ ((s40 = .bool true) ∨ (s40 = .bool false ∧ q = false ∧ T.length ≤ 8)))
  case first =>
    -- <<A
    go_wp2_with fail
    refine hgr.out.mono ?_
    rintro e w1 ⟨rfl, he1⟩
    clear k0 k1 k2
    obtain ⟨k0, k1, k2⟩ := (hM.ext he1).c3
    cases q with
    | true =>
      go_wp2_with fail
      go_meet
      exact ⟨he1, .inl rfl⟩
    | false =>
      by_cases h5 : 5 < m.orders.length
      · by_cases h7 : m.orders.length ≤ 7
        · go_wp2_with fail
          go_meet
          exact ⟨he1, .inl rfl⟩
        · have hd : decide (m.orders.length ≤ 7) = false := by simpa using h7
          have hd' : decide ((m.orders.length : Int) ≤ 7) = false := by simp; omega
          by_cases h8 : 8 < T.length
          · have he' : decide (8 < (T.length : Int)) = true := by simp; omega
            go_wp2_with fail
            go_meet
            exact ⟨he1, .inl (by first | rfl | rw [he'])⟩
          · have he : decide (8 < T.length) = false := by simpa using h8
            have he' : decide (8 < (T.length : Int)) = false := by simp; omega
            go_wp2_with fail
            go_meet
            exact ⟨he1, .inr ⟨rfl, by first | rfl | trivial, by omega⟩⟩
      · have hd : decide (5 < m.orders.length) = false := by simpa using h5
        have hd' : decide (5 < (m.orders.length : Int)) = false := by simp; omega
        by_cases h8 : 8 < T.length
        · have he' : decide (8 < (T.length : Int)) = true := by simp; omega
          go_wp2_with fail
          go_meet
          exact ⟨he1, .inl (by first | rfl | rw [he'])⟩
        · have he : decide (8 < T.length) = false := by simpa using h8
          have he' : decide (8 < (T.length : Int)) = false := by simp; omega
          go_wp2_with fail
          go_meet
          exact ⟨he1, .inr ⟨rfl, by first | rfl | trivial, by omega⟩⟩
    -- >>
  case rest =>
    clear k0 k1 k2
    obtain ⟨he1, hcut⟩ := hcut
    have hE1 := hE.trans he1
    have hM1 := hM.ext he1
    generalize wc = w1 at *
    clear he1 hM hgr hE
    rcases hcut with rfl | ⟨rfl, rfl, h8⟩
    · go_wp2_with fail
      refine (awake_any w1).mono ?_
      rintro e w2 ⟨rfl, he2⟩
      go_wp2_with fail
      go_ret
      exact ⟨rfl, hE1.trans he2⟩
    · have hgb := great_bounds Hq.out
      go_wp2_with fail
      go_loopw [5, 44] (fun mv iv wr => ∃ i : Nat, i ≤ T.length ∧ iv = .int .i64 i ∧ Ext w1 wr ∧ Hid (OwnT wr w1.heap.size mv (T.take i))) (fun _ iv _ => T.length - (intOf iv).toNat)
      case atStart => exact ⟨0, by omega, rfl, Ext.refl _, OwnT.nil _ _⟩
      case round =>
        obtain ⟨i, hi, rfl, he, hown⟩ := hrel
        by_cases hlt : i < T.length
        · -- <<B
          obtain ⟨W2, hW2⟩ : ∃ W2, W2 = wr := ⟨_, rfl⟩
          rw [← hW2] at he hown ⊢
          clear hW2
          obtain ⟨b, o, u, rfl, g1, g5⟩ := (TabsAt.ext T4.out (hE1.trans he)) i hlt
          have G5 := Lib.hid g5
          obtain ⟨A', c', rfl, g2, g3, g4⟩ := g5
          obtain ⟨R, hR⟩ : ∃ R, T[i]?.getD [] = R := ⟨_, rfl⟩
          rw [hR] at g1 g2 g4
          simp only [hR] at G5
          have Hti : Hid (T.take (i + 1) = T.take i ++ [R]) := by unfold Hid; rw [List.take_succ_eq_append_getElem hlt, ← hR]; simp [hlt]
          have G4 := Lib.hid g4
          unfold maxLen at g3
          clear hR g4
          by_cases h40 : 40 < R.length
          · go_wp2_with fail
            refine (awake_any W2).mono ?_
            rintro e w2 ⟨rfl, he2⟩
            go_wp2_with fail
            go_ret
            exact ⟨rfl, hE1.trans (he.trans he2)⟩
          · have hd : decide (40 < R.length) = false := by simpa using h40
            have hd' : decide (40 < (R.length : Int)) = false := by simp; omega
            go_wp2_with fail
            clear hd hd'
            go_loopw [54] (fun kv wr => ∃ k : Nat, k ≤ R.length ∧ kv = .int .i64 k ∧ W2 = wr ∧ Hid (∀ j, j < k → (R[j]?.getD []).length ≤ 12)) (fun kv _ => R.length - (intOf kv).toNat)
            case atStart => exact ⟨0, by omega, rfl, rfl, fun j h => absurd h (by omega)⟩
            case round =>
              obtain ⟨k, hk, rfl, rfl, hup⟩ := hrel
              by_cases hltk : k < R.length
              · obtain ⟨b2, o2, u2, rfl, f1, A3, c3, rfl, f2, f3, f4⟩ := G4.out k hltk
                obtain ⟨K, hK⟩ : ∃ K, R[k]?.getD [] = K := ⟨_, rfl⟩
                rw [hK] at f1 f2
                unfold maxLen at f3
                have HK := Lib.hid hK
                clear f4 hK
                by_cases h12 : 12 < K.length
                · go_wp2_with fail
                  refine (awake_any W2).mono ?_
                  rintro e w2 ⟨rfl, he2⟩
                  go_wp2_with fail
                  go_ret
                  exact ⟨rfl, hE1.trans (he.trans he2)⟩
                · have hd : decide (12 < K.length) = false := by simpa using h12
                  have hd' : decide (12 < (K.length : Int)) = false := by simp; omega
                  go_wp2_with fail
                  go_roundw
                  case rel =>
                    refine ⟨k + 1, by omega, by go_num, by trivial, fun j hj => ?_⟩
                    by_cases e : j = k
                    · subst e; rw [HK.out]; omega
                    · exact hup.out j (by omega)
                  case measure => simp [intOf]; omega
              · obtain rfl : k = R.length := by omega
                have hdr := Lib.hid (dupRows_any _ R (by omega) (fun j hj => by have := hup.out j hj; omega) W2 G5.out)
                have Hown := hown
                obtain ⟨vs, o1, o2, o3⟩ := hown.out
                have htl : (T.take i).length = i := by rw [List.length_take]; omega
                rw [htl] at o1 o2 o3
                obtain ⟨Ao, co, rfl⟩ := ownsRow_slice o1
                have O1 := Lib.hid o1; have O2 := Lib.hid o2; have O3 := Lib.hid o3; have Htl := Lib.hid htl
                clear o1 o2 o3 htl hown g1
                go_wp2_with fail
                refine hdr.out.mono ?_
                rintro e w3 ⟨rv, rfl, hrv, he3⟩
                obtain ⟨Ar, cr, rfl, r1, r2, r3, r4⟩ := hrv.open_
                have Hrv := Lib.hid hrv
                clear r3 r4 hrv hdr
                have hX := Ext.alloc w3 (.cells #[.slice Ar R.length cr] 30)
                have hrow := ownsRow_ext2 O1.out (he3.trans hX)
                have hsz := (he.trans he3).size
                have hsrc := Src.one w3 (.slice Ar R.length cr) 30
                have hge : ∀ j, (Value.slice Ao i co).ownBlock = some j → w1.heap.size ≤ j := fun j hj => (own_ge2 hrow j hj).1
                have Hge := Lib.hid hge
                clear hge
                go_wp2_with (at_builtin; refine wpList_app rfl _ _ 27 rfl w1.heap.size 30 ti3 (.slice none 0 0) 1 24 Tryz.underlying27 hi3 hx0 hx1 hx2 rfl (by decide) _ _ _ rfl hrow (some ⟨w3.heap.size, 0, none⟩) 1 1 [.slice Ar R.length cr] rfl rfl hsrc ?c2 ?c3 ?c4 ?c5 ?_; (case c2 => (intro u hu; rw [List.mem_singleton] at hu; subst hu; rfl)); (case c3 => (unfold maxLen; omega)); (case c4 => omega); (case c5 => (simp; omega)); intro v' w4 hown' hg hblk)
                go_roundw
                case rel =>
                  refine ⟨i + 1, by omega, by go_num, ext_grown (he.trans he3) hg Hge.out, ?_⟩
                  unfold Hid
                  rw [Hti.out]
                  exact OwnT.push Htl.out hrow O2.out (fun j hj => (O3.out j hj).ext (he3.trans hX)) ((Hrv.out.ext hX).mono (by have := he.size; omega)) hown' hg
                case measure => simp [intOf]; omega
          -- >>
        · obtain rfl : i = T.length := by omega
          rw [List.take_length] at hown
          obtain ⟨w3, hw3⟩ : ∃ w3, w3 = wr := ⟨_, rfl⟩
          rw [← hw3] at he hown ⊢
          clear hw3
          have hE4 := hE1.trans he
          have hM4 := hM1.ext he
          have hTm := Lib.hid (hown.out.tab)
          obtain ⟨Am, cm, rfl, m2, m3, _⟩ := hown.out.tab
          clear hE1 hM1 he hown
          go_wp2_with fail
          refine wp_region_stage 6 (by kernel_rfl) (by kernel_rfl) (OwnS 1 3 4 5 w3 m) (fun k v => k = 0 ∨ k = 2 → v = .agg #[.slice A1 m.laced.length c1, .int .i64 m.change, .slice A2 m.orders.length c2]) (fun x => OwnS.start 1 3 4 5 w3 m x) ?_ ?_
          · simp only [List.take, AllOps3, fill, Act.put, List.setIfInBounds_toArray, List.set_cons_zero, List.set_cons_succ, Nat.reduceAdd, DepsV, DepsL, List.filter_cons, List.filter_nil, Region.binds, if_true, and_true, Closed]
            refine ⟨?_, ?_, ?_, ?_, ?_, ?_⟩
            all_goals
              intro Ld x W hS hcl hnl hdl hd K Q hK
              obtain ⟨k0, k1, k2⟩ := (hM4.ext hS.ext).c3
              have HK := Lib.hid hK; clear hK
              have HC := Lib.hid hcl; clear hcl
              have HD := Lib.hid hdl; clear hdl
              have HN := Lib.hid hnl; clear hnl
              have HS := Lib.hid hS; clear hS
              have Hd := Lib.hid hd; clear hd
            case refine_1 =>
              go_wp2_with fail
              exact HK.out _ _ (fun _ => rfl) (HS.out.pure (Ext.refl _) _ _ (by decide))
            case refine_3 =>
              go_wp2_with fail
              exact HK.out _ _ (fun _ => rfl) (HS.out.pure (Ext.refl _) _ _ (by decide))
            case refine_2 =>
              have h0 := Hd.out (by simp)
              have hk0 := HK.out; clear HK
              simp only [h0] at hk0 ⊢
              have HK := Lib.hid hk0; clear hk0 h0
              go_wp2_with fail
              refine (own_off _ m w3 W HS.out.ext (Hv.out.ext hE4) Hq.out).mono ?_
              rintro e w' ⟨v', rfl, hv', he'⟩
              go_wp2
              exact HK.out _ _ (fun h => absurd h (by decide)) (HS.out.doOwn he' _ hv' (by decide) (by decide) (by decide))
            case refine_4 =>
              have h0 := Hd.out.1 (by simp)
              have hk0 := HK.out; clear HK
              simp only [h0] at hk0 ⊢
              have HK := Lib.hid hk0; clear hk0 h0
              go_wp2_with fail
              refine (theirs_off _ m w3 W HS.out.ext (Hv.out.ext hE4) (by omega)).mono ?_
              rintro e w' ⟨v', rfl, hv', he'⟩
              go_wp2
              exact HK.out _ _ (fun h => absurd h (by decide)) (HS.out.doRef he' _ hv' (by decide) (by decide) (by decide))
            case refine_5 =>
              go_wp2_with fail
              exact HK.out _ _ (fun h => absurd h (by decide)) (HS.out.doC (by decide) (by decide) (by decide))
            case refine_6 =>
              go_wp2_with fail
              exact HK.out _ _ (fun h => absurd h (by decide)) (HS.out.doD (by decide) (by decide) (by decide))
          · intro x W hS hR
            obtain ⟨g, g', A3, c3, A4, c4, B1, e1, B2, e2, x4, x5, hg, hg', b4, b5, hne, x1, x3, v1, v3⟩ := hS.done (by decide) (by decide) (by decide) (by decide)
            have heW := hS.ext
            simp only [AllV, true_and] at hR
            have x0 := hR.1.1.1.1.1 (by simp)
            have x2 := hR.1.1.1.2 (by simp)
            simp only [List.take, List.drop, fill, Act.put, List.setIfInBounds_toArray, List.set_cons_zero, List.set_cons_succ, Nat.reduceAdd, x0, x1, x2, x3, x4, x5]
            rw [x1] at v1
            rw [x3] at v3
            clear hR hS x0 x1 x2 x3 x4 x5
            obtain ⟨u0, u1, u2⟩ := b4.c3
            obtain ⟨y0, y1, y2⟩ := b5.c3
            have f0 := b4.frozen 0; have f1 := b4.frozen 1; have f2 := b4.frozen 2
            have h0 := b5.frozen 0; have h1 := b5.frozen 1; have h2 := b5.frozen 2
            have hne' : g' ≠ g := fun h => hne h.symm
            have V1 := Lib.hid v1; have V3 := Lib.hid v3; clear v1 v3
            have B4 := Lib.hid b4; have B5 := Lib.hid b5; clear b4 b5
            go_wp2_with fail
            obtain ⟨hE2, bO, bX, vO, vX⟩ := own_stored (.slice A3 m.laced.length c3) (.int .i64 m.change) (.slice A4 m.orders.length c4) (.slice B1 m.laced.length e1) (.int .i64 m.change) (.slice B2 m.orders.length e2) heW hg hg' B4.out B5.out hne V1.out V3.out
            clear u0 u1 u2 y0 y1 y2 f0 f1 f2 h0 h1 h2 B4 B5 V1 V3 heW
            generalize (((((W.setCell _ _).setCell _ _).setCell _ _).setCell _ _).setCell _ _).setCell _ _ = W2 at *
            have hE3 := hE4.trans hE2
            have hTm2 := Lib.hid (hTm.out.ext hE2)
            clear hTm
            have hM3 := hM4.ext hE2
            have hVm := Lib.hid ((Hv.out.ext hE4).ext hE2)
            have hvO := Lib.hid vO; have hvX := Lib.hid vX
            clear hE4 hM4 hE2 vO vX hg hg' hne hne'
            have hTv := Lib.hid (Ht.out.ext hE3)
            obtain ⟨e0, he0⟩ : ∃ e0, tabE m T = e0 := ⟨_, rfl⟩
            obtain ⟨r, hr⟩ : ∃ r, checkE m = r := ⟨_, rfl⟩
            have hck := Lib.hid (check5_any _ m r hr W2 hvX.out)
            have Hr := Lib.hid hr; have He0 := Lib.hid he0
            clear hr he0
            obtain ⟨k0, k1, k2⟩ := bX.c3
            go_wp2_with fail
            refine hck.out.mono ?_
            rintro e w4 ⟨rfl, he4⟩
            clear k0 k1 k2 hck
            replace hE3 := up he4 hE3; replace hM3 := up he4 hM3; replace bO := up he4 bO; replace bX := up he4 bX; replace hVm := up he4 hVm; replace hvO := up he4 hvO; replace hvX := up he4 hvX; replace hTm2 := up he4 hTm2; replace hTv := up he4 hTv
            clear he4
            go_upto_if 76 with fail
            go_cut [12] (fun s12 wx => s12 = .int .i64 e0 ∧ Ext w4 wx)
            case first =>
              by_cases hr0 : r = 0
              · subst hr0
                have ht5 := Lib.hid (tabled5_any _ (.slice At T.length ct) m Hr.out T e0 He0.out w4 hvX.out hTv.out)
                obtain ⟨k0, k1, k2⟩ := bX.c3
                go_wp2_with fail
                refine ht5.out.mono ?_
                rintro e w5 ⟨rfl, he5⟩
                go_wp2_with fail
                go_meet
                exact ⟨rfl, he5⟩
              · have hd : (r == 0) = false := by rw [beq_eq_false_iff_ne]; exact hr0
                obtain rfl : e0 = r := by rw [← He0.out]; exact tabE_check Hr.out hr0
                clear hr0
                go_wp2_with fail
                go_meet
                exact ⟨rfl, Ext.refl _⟩
            case rest =>
              obtain ⟨rfl, he5⟩ := hcut
              generalize wc = w5 at *
              replace hE3 := up he5 hE3; replace hM3 := up he5 hM3; replace bO := up he5 bO; replace bX := up he5 bX; replace hVm := up he5 hVm; replace hvO := up he5 hvO; replace hvX := up he5 hvX; replace hTm2 := up he5 hTm2; replace hTv := up he5 hTv
              clear he5
              go_upto_if 82 with fail
              go_cut [13, 14, 15] (fun s13 s14 s15 wx => ∃ (f : Int) (q : Bool) (n : Int), s13 = .int .i64 f ∧ s14 = .bool q ∧ s15 = .int .i64 n ∧ Hid (TabLaw m T e0 f q n) ∧ Ext w5 wx)
              case first =>
                by_cases h0 : e0 = 0
                · subst h0
                  have hT := Lib.hid (tabE_ok He0.out)
                  obtain ⟨q, hq⟩ : ∃ q, boundsQ m (tabF T) = q := ⟨_, rfl⟩
                  have hb5 := Lib.hid (bounds5_any _ (.slice At T.length ct) m T hT.out q hq w5 hvX.out hTv.out)
                  have Hqq := Lib.hid hq
                  clear hq
                  obtain ⟨k0, k1, k2⟩ := bX.c3
                  go_wp2_with fail
                  refine hb5.out.mono ?_
                  rintro e w6 ⟨rfl, he6⟩
                  clear hb5 k0 k1 k2
                  cases q with
                  | false =>
                    have hlaw := Lib.hid (tabLaw_false He0.out Hqq.out)
                    go_wp2_with fail
                    go_meet
                    exact ⟨8, false, 0, rfl, rfl, rfl, hlaw.out, he6⟩
                  | true =>
                    obtain ⟨ls, hls⟩ : ∃ ls, shareF (leastN m T) m.laced.length (bits m.orders.length (2 ^ m.orders.length - 1)) (fun _ => 0) = ls := ⟨_, rfl⟩
                    have hl5 := Lib.hid (least5_any _ (.slice At T.length ct) m T hT.out ls hls w6 (hvX.out.ext he6) (hTv.out.ext he6))
                    have hlaw := Lib.hid (tabLaw_true He0.out Hqq.out hls)
                    clear hls
                    obtain ⟨k0, k1, k2⟩ := (bX.ext he6).c3
                    go_wp2_with fail
                    refine hl5.out.mono ?_
                    rintro e w7 ⟨rfl, he7⟩
                    clear hl5 k0 k1 k2
                    by_cases hn : ls < 0
                    · go_wp2_with fail
                      go_meet
                      exact ⟨6, true, 0, rfl, rfl, rfl, hlaw.out.1 hn, he6.trans he7⟩
                    · have hd : decide (ls < 0) = false := by simpa using hn
                      have hge : 0 ≤ ls := by omega
                      clear hn
                      go_wp2_with fail
                      go_meet
                      exact ⟨0, true, ls, rfl, rfl, rfl, hlaw.out.2 hge, he6.trans he7⟩
                · have hd : (e0 == 0) = false := by rw [beq_eq_false_iff_ne]; exact h0
                  have hlaw := Lib.hid (tabLaw_bad He0.out h0)
                  clear h0
                  go_wp2_with fail
                  go_meet
                  exact ⟨e0, false, 0, rfl, rfl, rfl, hlaw.out, Ext.refl _⟩
              case rest =>
                obtain ⟨f, q, n, rfl, rfl, rfl, hlaw, he6⟩ := hcut
                generalize wc = w6 at *
                replace hE3 := up he6 hE3; replace hM3 := up he6 hM3; replace bO := up he6 bO; replace hVm := up he6 hVm; replace hvO := up he6 hvO; replace hTm2 := up he6 hTm2; replace hTv := up he6 hTv
                clear he6 hvX bX
                have hbt := Lib.hid (boundsTop_any _ (.slice Am T.length cm) m T q e0 hlaw.out.1 w6 hvO.out hTm2.out)
                obtain ⟨k0, k1, k2⟩ := bO.c3
                go_wp2_with fail
                refine hbt.out.mono ?_
                rintro e w7 ⟨rfl, he7⟩
                replace hE3 := up he7 hE3; replace hM3 := up he7 hM3; replace bO := up he7 bO; replace hVm := up he7 hVm; replace hvO := up he7 hvO; replace hTm2 := up he7 hTm2; replace hTv := up he7 hTv
                clear he7 hbt k0 k1 k2
                have hlt := Lib.hid (leastTop_any _ (.slice Am T.length cm) m T n f hlaw.out.2 w7 hvO.out hTm2.out)
                obtain ⟨k0, k1, k2⟩ := bO.c3
                go_wp2_with fail
                refine hlt.out.mono ?_
                rintro e w8 ⟨rfl, he8⟩
                replace hE3 := up he8 hE3; replace hM3 := up he8 hM3; replace bO := up he8 bO; replace hVm := up he8 hVm; replace hvO := up he8 hvO; replace hTm2 := up he8 hTm2; replace hTv := up he8 hTv
                clear he8 hlt k0 k1 k2
                go_wp2_with fail
                go_loopw [107] (fun iv wr => ∃ i : Nat, i ≤ T.length ∧ iv = .int .i64 i ∧ Ext w8 wr) (fun iv _ => T.length - (intOf iv).toNat)
                case atStart => exact ⟨0, by omega, rfl, Ext.refl _⟩
                case round =>
                  obtain ⟨i, hi, rfl, he⟩ := hrel
                  by_cases hlt : i < T.length
                  · obtain ⟨_, _, ex1, _, _, x4⟩ := hTv.out.ext he
                    cases ex1
                    obtain ⟨b, o, u, rfl, g1, g2⟩ := x4 i hlt
                    obtain ⟨_, _, ey1, _, _, y4⟩ := hTm2.out.ext he
                    cases ey1
                    obtain ⟨b2, o2, u2, rfl, g3, g4⟩ := y4 i hlt
                    obtain ⟨R, hR⟩ : ∃ R, T[i]?.getD [] = R := ⟨_, rfl⟩
                    rw [hR] at g2 g4
                    have heq := Lib.hid (eqRows_any _ _ R R true (by simp) wr g4 g2)
                    obtain ⟨_, _, rfl, _, _, _⟩ := g2
                    obtain ⟨_, _, rfl, _, _, _⟩ := g4
                    clear x4 y4 hR
                    go_wp2_with fail
                    refine heq.out.mono ?_
                    rintro e w9 ⟨rfl, he9⟩
                    go_wp2_with fail
                    go_roundw
                    case rel => exact ⟨i + 1, by omega, by go_num, he.trans he9⟩
                    case measure => simp [intOf]; omega
                  · obtain rfl : i = T.length := by omega
                    replace hE3 := up he hE3; replace hM3 := up he hM3; replace bO := up he bO; replace hVm := up he hVm; replace hvO := up he hvO
                    clear he
                    have hsm := Lib.hid (same_any _ _ m m true (by simp) wr hvO.out hVm.out)
                    obtain ⟨k0, k1, k2⟩ := bO.c3
                    obtain ⟨j0, j1, j2⟩ := hM3.c3
                    go_wp2_with fail
                    refine hsm.out.mono ?_
                    rintro e w9 ⟨rfl, he9⟩
                    clear hsm
                    go_wp2_with fail
                    refine (awake_any w9).mono ?_
                    rintro e w10 ⟨rfl, he10⟩
                    go_wp2_with fail
                    go_ret
                    exact ⟨rfl, hE3.trans (he9.trans he10)⟩
end Go.Proofs.Pet
