/-
  Sights: clash, proof, Cleared, Explains, Slipped, walked.
-/
import Derived.Test.YtjlglbhafopomaaGreatPBF
namespace Go.Proofs.Pet
open Go Go.RowKit Go.Maps Go.Shelf
open Go.Proofs.Pow (PM Sh Wv POk Up sightF clrB opnS hitL explB clashB proofB)

set_option maxRecDepth 20000 in
set_option maxHeartbeats 1000000 in
theorem clash_any (D : Nat) (m : PM) (hm : POk m) (A : Option Addr) (c n : Nat) (l : List Int) (hn : l.length = n) (hl : n = m.wvs.length) (q : Bool) (hq : clashB m (sightF l) = q) (w : World) (hD : DeskAt w D m) (hA : IntsAt w A l) :
    Calls Tryz.prog 100 #[.pointer (some ⟨D, 0, none⟩), .slice A n c] w fun e w' => e = .returned (.bool q) ∧ Ext w w' := by
  have hml := hm.few
  have Hl := Lib.hid hl; have Hn := Lib.hid hn; have Hq := Lib.hid hq
  have hn6 : n ≤ 6 := by omega
  have HA := Lib.hid hA; have HD := Lib.hid hD
  clear hl hn hq hA hD
  go_enter Tryz.func100, Tryz.ntmps100
  go_wp2
  go_loopw [9] (fun iv wr => ∃ k : Nat, k ≤ n ∧ iv = .int .i64 (k : Int) ∧ Hid (∀ j, j < k → (decide (sightF l j = 2) && (opnS m (sightF l) j).isEmpty) = false) ∧ Ext w wr) (fun iv _ => n - (intOf iv).toNat)
  case atStart => exact ⟨0, Nat.zero_le _, rfl, fun j hj => absurd hj (by omega), Ext.refl _⟩
  case round =>
    obtain ⟨k, hk, rfl, hno, hew⟩ := hrel
    by_cases hlt : k < n
    · obtain ⟨b, o, e0, c1⟩ := HA.out.ext hew k (by have := Hn.out; omega)
      have hx : Hid (sightF l k = l[k]?.getD 0) := rfl
      have hkl : k < m.wvs.length := by have := Hl.out; omega
      generalize l[k]?.getD 0 = x at *
      subst e0
      by_cases h2 : x = 2
      · subst h2
        obtain ⟨os, hos⟩ : ∃ os, opnS m (sightF l) k = os := ⟨_, rfl⟩
        have hop := Lib.hid (open_any D m hm (some ⟨b, o, none⟩) c n l Hn.out Hl.out k hkl os hos wr (HD.out.ext hew) (HA.out.ext hew))
        have Hos := Lib.hid hos; clear hos
        go_wp2_with fail
        refine hop.out.mono ?_
        rintro e w3 ⟨u, rfl, hO, he3⟩
        obtain ⟨A3, c3, rfl, -, -, -, -, -⟩ := hO.open_
        have hE3 := hew.trans he3
        clear hop hO he3 hew
        cases os with
        | nil =>
          obtain rfl : q = true := by
            rw [← Hq.out]
            unfold clashB
            rw [List.any_eq_true]
            exact ⟨k, List.mem_range.2 hkl, by rw [hx.out, Hos.out]; rfl⟩
          go_wp2_with fail
          go_ret
          exact ⟨rfl, hE3⟩
        | cons y ys =>
          have hne : (((y :: ys).length : Int) == 0) = false := by simp; omega
          have hf := Lib.hid (show ∀ j, j < k + 1 → (decide (sightF l j = 2) && (opnS m (sightF l) j).isEmpty) = false from fun j hj => by
            by_cases ej : j = k
            · subst ej; rw [Hos.out]; simp
            · exact hno.out j (by omega))
          generalize (y :: ys).length = ln at *
          go_wp2_with fail
          go_roundw
          case rel => exact ⟨k + 1, by omega, by go_num, hf.out, hE3⟩
          case measure => simp [intOf]; omega
      · have hd : (x == 2) = false := by simpa using h2
        have hf := Lib.hid (show ∀ j, j < k + 1 → (decide (sightF l j = 2) && (opnS m (sightF l) j).isEmpty) = false from fun j hj => by
          by_cases ej : j = k
          · subst ej; rw [hx.out]; simp [h2]
          · exact hno.out j (by omega))
        clear h2
        go_wp2_with fail
        go_roundw
        case rel => exact ⟨k + 1, by omega, by go_num, hf.out, hew⟩
        case measure => simp [intOf]; omega
    · obtain rfl : k = n := by omega
      obtain rfl : q = false := by
        rw [← Hq.out]
        unfold clashB
        exact any_false_of fun j hj => hno.out j (by have := Hl.out; omega)
      go_wp2
      go_ret
      exact ⟨rfl, hew⟩
/-- the open shafts of the first k weavers of a list -/
def opnsF (m : PM) (l : List Int) (g : List Nat) (k : Nat) : List Int := (g.take k).flatMap (opnS m (sightF l))
theorem opnsF_succ (m : PM) (l : List Int) (g : List Nat) {k : Nat} (hk : k < g.length) : opnsF m l g (k + 1) = opnsF m l g k ++ opnS m (sightF l) g[k] := by
  unfold opnsF
  rw [List.take_add_one, List.getElem?_eq_getElem hk, List.flatMap_append]
  simp
theorem opnS_len {m : PM} (hm : POk m) (s : Nat → Int) {k : Nat} (hk : k < m.wvs.length) : (opnS m s k).length ≤ 9 := by
  have hat := hm.at_ k hk
  have hms := hm.sz
  have : (m.line (m.wv k).shaft).length ≤ 9 := by
    obtain ⟨z, hz⟩ : ∃ z : Nat, (m.wv k).shaft = z := ⟨_, (Int.toNat_of_nonneg hat.1).symm⟩
    rw [hz] at hat ⊢
    have := line_len hm.up z (by omega)
    omega
  exact Nat.le_trans (List.length_filter_le _ _) this
theorem opnsF_len {m : PM} (hm : POk m) (l : List Int) {g : List Nat} (hg : ∀ k, k ∈ g → k < m.wvs.length) : ∀ k, k ≤ g.length → (opnsF m l g k).length ≤ 9 * k
  | 0, _ => by simp [opnsF]
  | k + 1, h => by
    rw [opnsF_succ m l g (by omega), List.length_append]
    have := opnsF_len hm l hg k (by omega)
    have := opnS_len hm (sightF l) (hg g[k] (List.getElem_mem _))
    omega
theorem twiceB_nodup {l : List Int} : twiceB l = !decide l.Nodup := by
  cases h : twiceB l with
  | false =>
    have := nodup_of_twice h
    simp [this]
  | true =>
    by_cases hn : l.Nodup
    · exfalso
      have hf : twiceB l = false := twiceB_false fun k hk => by
        rw [← Bool.not_eq_true, List.contains_iff_mem]
        intro hm
        rw [List.getElem?_eq_getElem hk] at hm
        simp only [Option.getD_some] at hm
        obtain ⟨j, hj, e⟩ := List.mem_iff_getElem.1 hm
        rw [List.length_take] at hj
        rw [List.getElem_take] at e
        have := (List.nodup_iff_pairwise_ne.1 hn)
        rw [List.pairwise_iff_getElem] at this
        exact this j k (by omega) hk (by omega) e
      rw [hf] at h; cases h
    · simp [hn]
set_option maxRecDepth 20000 in
set_option maxHeartbeats 1000000 in
theorem proof_any (D : Nat) (m : PM) (hm : POk m) (A : Option Addr) (c n : Nat) (l : List Int) (hn : l.length = n) (hl : n = m.wvs.length) (B : Option Addr) (d k2 : Nat) (g : List Int) (hk2 : g.length = k2) (hg : Pow.InG m g) (hg2 : k2 ≤ 100) (q : Bool) (hq : proofB m (sightF l) (natL g) = q) (w : World) (hD : DeskAt w D m) (hA : IntsAt w A l) (hB : IntsAt w B g) :
    Calls Tryz.prog 128 #[.pointer (some ⟨D, 0, none⟩), .slice A n c, .slice B k2 d] w fun e w' => e = .returned (.bool q) ∧ Ext w w' := by
  obtain ⟨ti, hi, hz0, hz1, hz2⟩ := info_parts info_int
  have hml := hm.few
  subst hk2
  have Hl := Lib.hid hl; have Hn := Lib.hid hn; have Hq := Lib.hid hq
  have hn6 : n ≤ 6 := by omega
  have HA := Lib.hid hA; have HB := Lib.hid hB; have HD := Lib.hid hD; have Hg := Lib.hid hg
  have hnl : (natL g).length = g.length := by simp [natL]
  have hbl : ∀ k, k ∈ natL g → k < m.wvs.length := fun k hk => by
    unfold natL at hk
    obtain ⟨y, hy, rfl⟩ := List.mem_map.1 hk
    have := hg y hy; omega
  have Hnl := Lib.hid hnl; have Hbl := Lib.hid hbl
  have hgl : ints (natL g) = g := ints_natL hg
  have Hgl := Lib.hid hgl
  clear hl hn hq hA hB hD hg hnl hbl hgl
  go_enter Tryz.func128, Tryz.ntmps128
  go_wp2
  go_loopw [7, 12] (fun v iv wr => ∃ k : Nat, k ≤ g.length ∧ iv = .int .i64 (k : Int) ∧ Hid (∀ j, j < k → sightF l ((natL g)[j]?.getD 0) = 2) ∧ Hid (OwnI wr w.heap.size 3 v (opnsF m l (natL g) k)) ∧ Ext w wr) (fun _ iv _ => g.length - (intOf iv).toNat)
  case atStart => exact ⟨0, Nat.zero_le _, rfl, fun j hj => absurd hj (by omega), Lib.hid (OwnI.nil _ _ _), Ext.refl _⟩
  case round =>
    obtain ⟨k, hk, rfl, hno, hO, hew⟩ := hrel
    by_cases hlt : k < g.length
    · obtain ⟨b, o, e0, q1⟩ := HB.out.ext hew k hlt
      subst e0
      have hil : k < (natL g).length := by rw [Hnl.out]; exact hlt
      obtain ⟨kk, hkk⟩ : ∃ kk, (natL g)[k] = kk := ⟨_, rfl⟩
      have hgi : g[k]?.getD 0 = (kk : Int) := by
        have : (ints (natL g))[k]?.getD 0 = (kk : Int) := by rw [ints_get _ hil, List.getElem?_eq_getElem hil, ← hkk]; rfl
        rwa [Hgl.out] at this
      rw [hgi] at q1
      have hkl : kk < m.wvs.length := Hbl.out kk (hkk ▸ List.getElem_mem hil)
      obtain ⟨b2, o2, e0, c1⟩ := HA.out.ext hew kk (by have := Hl.out; have := Hn.out; omega)
      have hkn : (kk : Int) < (n : Int) := by have := Hl.out; omega
      have hx : Hid (sightF l kk = l[kk]?.getD 0) := rfl
      have Hs := Lib.hid (opnsF_succ m l (natL g) hil)
      rw [hkk] at Hs
      have hln := opnsF_len hm l Hbl.out k (by omega)
      have hkg : Hid ((natL g)[k]?.getD 0 = kk) := by unfold Hid; rw [List.getElem?_eq_getElem hil, ← hkk]; rfl
      generalize l[kk]?.getD 0 = x at *
      subst e0
      clear hkk hgi
      by_cases h2 : x = 2
      · subst h2
        obtain ⟨os, hos⟩ : ∃ os, opnS m (sightF l) kk = os := ⟨_, rfl⟩
        have hop := Lib.hid (open_any D m hm (some ⟨b2, o2, none⟩) c n l Hn.out Hl.out kk hkl os hos wr (HD.out.ext hew) (HA.out.ext hew))
        have hol := opnS_len hm (sightF l) hkl
        rw [hos] at Hs hol
        have hf := Lib.hid (show ∀ j, j < k + 1 → sightF l ((natL g)[j]?.getD 0) = 2 from fun j hj => by
          by_cases ej : j = k
          · subst ej; rw [hkg.out, hx.out]
          · exact hno.out j (by omega))
        obtain ⟨A5, c5, rfl, -, -, -, -, -⟩ := hO.out.open_
        clear hos
        go_wp2_with fail
        refine hop.out.mono ?_
        rintro e w3 ⟨u, rfl, hOu, he3⟩
        have hE3 := hew.trans he3
        have hO3 := hO.out.ext he3
        have hsz := hE3.size
        obtain ⟨A3, c3, rfl, r1, r2, r3, -, -⟩ := hOu.open_
        have hsrc := r3.src
        have Hw : Hid (∀ v' w', w'.ownsRow w.heap.size 3 1 v' ((opnsF m l (natL g) k).length + os.length) ((opnsF m l (natL g) k).map (Value.int .i64) ++ os.map (Value.int .i64)) → w3.grownBy w' (Value.slice A5 (opnsF m l (natL g) k).length c5).ownBlock → OwnI w' w.heap.size 3 v' (opnsF m l (natL g) (k + 1)) ∧ Ext w w') := by
          intro v' w' hown hgr
          refine ⟨by unfold OwnI; rw [Hs.out, List.length_append, List.map_append]; exact hown, Below.grown hE3 hgr hE3.size fun j hj => (hO3.own_lt j hj).1⟩
        clear hop hOu r3 hO he3 hew
        go_wp2_with (at_builtin; refine wpList_app rfl _ _ 31 rfl w.heap.size 3 ti (.int .i64 0) 1 8 Tryz.underlying31 hi hz0 hz1 hz2 rfl (by decide) (.slice A5 (opnsF m l (natL g) k).length c5) (opnsF m l (natL g) k).length _ rfl hO3 A3 os.length c3 (os.map (Value.int .i64)) rfl ?c1 hsrc ?c2 ?c3 ?c4 ?c5 ?_; (case c1 => simp); (case c2 => exact one_ints); (case c3 => (unfold maxLen; omega)); (case c4 => omega); (case c5 => omega); intro v' w5 hown hg hblk; have HO := Lib.hid (Hw.out v' w5 hown hg); clear hown hg hblk)
        go_roundw
        case rel => exact ⟨k + 1, by omega, by go_num, hf.out, HO.out.1, HO.out.2⟩
        case measure => simp [intOf]; omega
      · have hd : (x != 2) = true := by simpa using h2
        obtain rfl : q = false := by
          rw [← Hq.out]
          unfold proofB
          rw [Bool.and_eq_false_iff]
          left
          rw [List.all_eq_false]
          exact ⟨kk, by rw [← hkg.out, List.getElem?_eq_getElem hil]; exact List.getElem_mem _, by rw [hx.out]; simp [h2]⟩
        clear h2
        go_wp2_with fail
        go_ret
        exact ⟨rfl, hew⟩
    · obtain rfl : k = g.length := by omega
      have hO9 := hO.out
      have hln := opnsF_len hm l Hbl.out g.length (by rw [Hnl.out]; omega)
      have hqq : Hid (q = !twiceB (opnsF m l (natL g) g.length)) := by
        unfold Hid
        rw [← Hq.out, twiceB_nodup, Bool.not_not]
        unfold proofB
        have h1 : ((natL g).all fun k => decide (sightF l k = 2)) = true := by
          rw [List.all_eq_true]
          intro k hk
          obtain ⟨j, hj, rfl⟩ := List.mem_iff_getElem.1 hk
          have := hno.out j (by rw [← Hnl.out]; exact hj)
          rw [List.getElem?_eq_getElem hj] at this
          simpa using this
        rw [h1, Bool.true_and]
        unfold opnsF
        rw [List.take_of_length_le (by rw [Hnl.out]; omega)]
      generalize opnsF m l (natL g) g.length = os at *
      obtain ⟨A5, c5, rfl, r1, r2, r3, -, -⟩ := hO9.open_
      obtain ⟨t, ht⟩ : ∃ t, twiceB os = t := ⟨_, rfl⟩
      have htw := Lib.hid (twice_any A5 c5 os t ht wr (by unfold maxLen; omega) r1 r3)
      rw [ht] at hqq
      clear hO9 hO r3 ht
      go_wp2_with fail
      refine htw.out.mono ?_
      rintro e w3 ⟨rfl, rfl⟩
      go_wp2_with fail
      go_ret
      exact ⟨by rw [hqq.out]; rfl, hew⟩
end Go.Proofs.Pet
