/-
  The reference's Sighted and Shared, the law's seen and shaft, walked.
-/
import Derived.Test.YtjlglbhafopomaaGreatPF0
namespace Go.Proofs.Pet
open Go Go.RowKit Go.Maps Go.Shelf
open Go.Proofs.Pow (PM Sh Wv POk Up)

/-- a list of as many numbers as there are weavers, each from 0 to hi -/
def rangE (m : PM) (l : List Int) (hi : Int) : Int := if l.length ≠ m.wvs.length then 2 else if (l.all fun x => inB x 0 hi) = false then 3 else 0
set_option maxHeartbeats 1000000 in
theorem shared7_any (v : Value) (m : PM) (A : Option Addr) (c n : Nat) (l : List Int) (hn : l.length = n) (r : Int) (hr : rangE m l 1000000 = r) (w : World) (hv : PMVal w v m) (hl : n ≤ 1000) (hx : IntsAt w A l) :
    Calls Tryz.prog 47 #[v, .slice A n c] w fun e w' => e = .returned (.int .i64 r) ∧ Ext w w' := by
  unfold rangE at hr
  rw [hn] at hr
  have Hr := Lib.hid hr; have Hn := Lib.hid hn
  clear hr hn
  obtain ⟨A1, c1, A2, c2, rfl, -, -, -, h5, -, -⟩ := hv
  have hE := Ext.alloc w (.cells #[.slice A1 m.shafts.length c1, .slice A2 m.wvs.length c2] 54)
  have hM := Blk.new w 54 #[.slice A1 m.shafts.length c1, .slice A2 m.wvs.length c2]
  have HX := Lib.hid (hx.ext hE)
  obtain ⟨N, hN⟩ : ∃ N, m.wvs.length = N := ⟨_, rfl⟩
  rw [hN] at hM Hr ⊢
  rw [hN] at hE HX
  obtain ⟨k0, k1⟩ := hM.c2
  clear hM hx h5 hN
  go_enter Tryz.func47, Tryz.ntmps47
  by_cases hne : n = N
  · have hd : ((n : Int) != (N : Int)) = false := by rw [hne]; simp
    have Hne := Lib.hid hne
    clear hne
    go_wp2_with fail
    clear k0 k1 hd
    generalize w.alloc _ = W at *
    go_loopw [5] (fun i wr => ∃ k : Nat, k ≤ n ∧ i = .int .i64 k ∧ Ext W wr ∧ Hid (∀ j, j < k → inB (l[j]?.getD 0) 0 1000000 = true)) (fun i _ => n - (intOf i).toNat)
    case atStart => exact ⟨0, by omega, rfl, Ext.refl _, fun j hj => absurd hj (by omega)⟩
    case round =>
      obtain ⟨k, hk, rfl, he, hm⟩ := hrel
      by_cases hlt : k < n
      · have hkl : Hid (k < l.length) := by rw [Hn.out]; exact hlt
        obtain ⟨b, o, rfl, q1⟩ := HX.out.ext he k hkl.out
        obtain ⟨y, hy⟩ : ∃ y, l[k]?.getD 0 = y := ⟨_, rfl⟩
        rw [hy] at q1
        obtain ⟨q, hq⟩ : ∃ q, inB y 0 1000000 = q := ⟨_, rfl⟩
        have Ho := Lib.hid (off_any y 0 1000000 q hq wr)
        have Hq := Lib.hid hq; have Hy := Lib.hid hy
        clear hq hy
        cases q with
        | false =>
          have hres : Hid (r = 3) := by
            unfold Hid
            rw [← Hr.out, if_neg (by rw [Hne.out]; simp), if_pos (all_false (x := y) (by rw [← Hy.out]; simp [hkl.out]) Hq.out)]
          clear hm hkl
          go_wp2_with fail
          refine Ho.out.mono ?_
          rintro e w5 ⟨rfl, rfl⟩
          clear Ho
          go_wp2_with fail
          go_ret
          exact ⟨by rw [hres.out]; rfl, hE.trans he⟩
        | true =>
          clear hkl
          go_wp2_with fail
          refine Ho.out.mono ?_
          rintro e w5 ⟨rfl, rfl⟩
          clear Ho
          go_wp2_with fail
          go_roundw
          case rel =>
            refine ⟨k + 1, by omega, by go_num, he, fun j hj => ?_⟩
            by_cases ej : j = k
            · subst ej; rw [Hy.out]; exact Hq.out
            · exact hm.out j (by omega)
          case measure => simp [intOf]; omega
      · have hres : Hid (r = 0) := by
          unfold Hid
          rw [← Hr.out, if_neg (by rw [Hne.out]; simp), all_true_of (p := fun x => inB x 0 1000000) (xs := l) fun j hj => hm.out j (by rw [Hn.out] at hj; omega)]
          rfl
        clear hm
        go_wp2_with fail
        go_ret
        exact ⟨by rw [hres.out]; rfl, hE.trans he⟩
  · have hd : ((n : Int) != (N : Int)) = true := bne_iff_ne.2 (by omega)
    have hres : Hid (r = 2) := by
      unfold Hid
      rw [← Hr.out, if_pos hne]
    clear hne
    go_wp2_with fail
    go_ret
    exact ⟨by rw [hres.out]; rfl, hE⟩
theorem SlI.len_le {w : World} {v : Value} {xs : List Int} (h : SlI w v xs) : xs.length ≤ maxLen := by
  obtain ⟨_, _, e, h1, h2, _⟩ := h
  exact Nat.le_trans h1 h2
def shaftE (m : PM) (l : List Int) : Int := if (l.all fun k => inB k 0 (m.shafts.length - 1)) = false then 1 else if twiceB l = true then 5 else 0
/-- whether one of the first k stands before it, too -/
def dblB (l : List Int) (k : Nat) : Bool := (List.range k).any fun i => (l.take i).contains (l[i]?.getD 0)
end Go.Proofs.Pet
