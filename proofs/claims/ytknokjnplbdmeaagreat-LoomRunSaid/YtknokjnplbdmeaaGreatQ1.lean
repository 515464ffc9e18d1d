import Derived.Test.YtknokjnplbdmeaaGreatP18
namespace Go.Proofs.Pet
open Go Go.RowKit Go.Maps Go.Shelf

/-- what Best answers -/
def bestL (m : Mill) (l : Int) (xs : List Int) : List Int :=
  if (costE m l xs).2 = 0 then ints ((moreF m l.toNat (costE m l xs).1 7 [] (setF xs)).getD []) else []
theorem costE_ok {m : Mill} {l : Int} {xs : List Int} (h : (costE m l xs).2 = 0) : checkE m = 0 ∧ runningE m l xs = 0 ∧ (costE m l xs).1 = numC m l.toNat (setF xs) := by
  unfold costE at h ⊢
  by_cases e : runE m l xs ≠ 0
  · rw [if_pos e] at h; exact absurd h e
  · rw [if_neg e] at h ⊢
    have e' : runE m l xs = 0 := by omega
    have hck : checkE m = 0 := by
      unfold runE at e'
      by_cases e2 : checkE m = 0
      · exact e2
      · rw [if_neg e2] at e'; exact absurd e' e2
    refine ⟨hck, ?_, ?_⟩
    · unfold runE at e'
      rwa [if_pos hck] at e'
    · by_cases e3 : numC m l.toNat (setF xs) = 99
      · rw [if_pos e3] at h; simp at h
      · rw [if_neg e3]
set_option maxRecDepth 20000 in
theorem bestTop_any (v : Value) (m : Mill) (l : Int) (A : Option Addr) (c : Nat) (xs : List Int) (k e0 : Int) (hr : costE m l xs = (k, e0)) (w : World) (hv : MillVal w v m) (hlc : xs.length ≤ c) (hl : c ≤ maxLen) (hx : IntsAt w A xs) :
    Calls Tryz.prog 25 #[v, .int .i64 l, .slice A xs.length c] w fun e w' => ∃ r, e = .returned (.tuple #[r, .int .i64 e0]) ∧ SlI w' r (bestL m l xs) ∧ Ext w w' := by
  have Hv := Lib.hid hv
  obtain ⟨A1, c1, A2, c2, rfl, h2, h3, h4, h5, h6, h7⟩ := hv
  have hE := Ext.alloc w (.cells #[.slice A1 m.laced.length c1, .int .i64 m.change, .slice A2 m.orders.length c2] 25)
  have hM := Blk.new w 25 #[.slice A1 m.laced.length c1, .int .i64 m.change, .slice A2 m.orders.length c2]
  have Hr := Lib.hid hr
  have hcost := Lib.hid (cost_any _ m l A c xs (k, e0) hr _ (Hv.out.ext hE) hlc hl (hx.ext hE))
  have Hx := Lib.hid hx
  clear h2 h3 h4 h5 h6 h7 hr hx
  obtain ⟨k0, k1, k2⟩ := hM.c3
  go_enter Tryz.func25, Tryz.ntmps25
  go_wp2_with fail
  refine hcost.out.mono ?_
  rintro e w1 ⟨rfl, he1⟩
  have hE1 := hE.trans he1
  have hM1 := hM.ext he1
  clear hE hM he1 hcost k0 k1 k2
  by_cases h0 : e0 = 0
  · subst h0
    have hok := costE_ok (by rw [Hr.out])
    rw [Hr.out] at hok
    obtain ⟨hck, hre, hk⟩ := hok
    obtain ⟨r1, r2, r3, _, _⟩ := runningE_ok hre
    obtain ⟨l1, l2, l3⟩ := check_len hck
    have hB : Hid (bestL m l xs = ints ((moreF m l.toNat k 7 [] (setF xs)).getD [])) := by
      unfold Hid bestL; rw [Hr.out, if_pos rfl]
    obtain ⟨ln, rfl⟩ : ∃ ln : Nat, l = (ln : Int) := ⟨l.toNat, by omega⟩
    have hslt := setF_lt xs r3 xs.length
    rw [List.take_length] at hslt
    obtain ⟨s, hs⟩ : ∃ s, setF xs = s := ⟨_, rfl⟩
    rw [hs] at hslt hB
    have hkb := numC_bd m (ln : Int).toNat (setF xs)
    have hk' : k = numC m (ln : Int).toNat (setF xs) := hk
    rw [← hk'] at hkb
    rw [Int.toNat_natCast] at hB
    have Hck := Lib.hid hck
    have Hrg := Lib.hid r3
    have Hs := Lib.hid hs
    have hxl : xs.length ≤ maxLen := by omega
    clear hk hk' hs hre r3
    obtain ⟨k0, k1, k2⟩ := hM1.c3
    have hop := Lib.hid (opened_any _ m Hck.out w1 (Hv.out.ext hE1))
    go_wp2_with fail
    refine hop.out.mono ?_
    rintro e w2 ⟨D, rfl, hDs, hD, he2⟩
    have hE2 := hE1.trans he2
    have hset := Lib.hid (set_any A c xs m.orders.length s l3 Hrg.out Hs.out w2 hxl (Hx.out.ext hE2))
    clear hE1 hM1 he2 hop k0 k1 k2 hDs
    have HD := Lib.hid hD; clear hD
    go_wp2_with fail
    refine hset.out.mono ?_
    rintro e w3 ⟨rfl, rfl⟩
    have hbest := Lib.hid (best_any D m Hck.out ln s (by omega) hslt k (by omega) _ HD.out)
    clear hset
    go_wp2_with fail
    refine hbest.out.mono ?_
    rintro e w4 ⟨rv, rfl, hrv, he4⟩
    have hE4 := hE2.trans he4
    rw [← hB.out] at hrv
    clear hE2 he4 hbest
    have Hrv := Lib.hid hrv
    obtain ⟨Ar, cr, rfl, _⟩ := hrv
    go_wp2_with fail
    go_ret2
    exact ⟨_, rfl, Hrv.out, hE4⟩
  · have hd : (e0 != 0) = true := by simpa using h0
    have hB : Hid (bestL m l xs = []) := by unfold Hid bestL; rw [Hr.out, if_neg h0]
    clear h0
    go_wp2_with fail
    go_ret2
    refine ⟨_, rfl, ?_, hE1⟩
    rw [hB.out]
    exact ⟨none, 0, rfl, Nat.le_refl _, Nat.zero_le _, fun k hk => by cases hk⟩
end Go.Proofs.Pet
