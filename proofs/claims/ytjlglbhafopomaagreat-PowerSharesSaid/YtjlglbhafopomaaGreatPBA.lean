/-
  power's Better, Runs, Adds, walked.
-/
import Derived.Test.YtjlglbhafopomaaGreatPB9
namespace Go.Proofs.Pet
open Go Go.RowKit Go.Maps Go.Shelf
open Go.Proofs.Pow (PM Sh Wv POk Up)

/-- the error of Better, and its group -/
def bettE (m : PM) (sh : List Int) : Int := if sharedE m sh ≠ 0 then sharedE m sh else if (Pow.firstF m.wvs.length (Pow.moreB m sh)).isNone then 6 else 0
def bettL (m : PM) (sh : List Int) : List Int := if sharedE m sh ≠ 0 then [] else ints ((Pow.firstF m.wvs.length (Pow.moreB m sh)).getD [])
set_option maxRecDepth 20000 in
theorem Better_any (v : Value) (m : PM) (A : Option Addr) (c n : Nat) (sh : List Int) (hn : sh.length = n) (r : Int) (x : List Int) (hr : bettE m sh = r) (hx : bettL m sh = x) (w : World) (hv : PMVal w v m) (hl : n ≤ maxLen) (hA : IntsAt w A sh) :
    Calls Tryz.prog 52 #[v, .slice A n c] w fun e w' => ∃ u, e = .returned (.tuple #[u, .int .i64 r]) ∧ OwnI w' w.heap.size 3 u x ∧ Ext w w' := by
  have Hv := Lib.hid hv
  obtain ⟨A1, c1, A2, c2, rfl, h2, h3, h4, h5, h6, h7⟩ := hv
  have hE := Ext.alloc w (.cells #[.slice A1 m.shafts.length c1, .slice A2 m.wvs.length c2] 26)
  obtain ⟨k0, k1⟩ := (Blk.new w 26 #[.slice A1 m.shafts.length c1, .slice A2 m.wvs.length c2]).c2
  obtain ⟨r0, hr0⟩ : ∃ r0, sharedE m sh = r0 := ⟨_, rfl⟩
  have ho := Lib.hid (shared_any _ m A c n sh hn r0 hr0 _ (Hv.out.ext hE) hl (hA.ext hE))
  clear h6 h7
  go_enter Tryz.func52, Tryz.ntmps52
  go_wp2_with fail
  refine ho.out.mono ?_
  rintro e w1 ⟨pv, rfl, he1, hop⟩
  have hE1 := hE.trans he1
  by_cases h0 : r0 = 0
  · subst h0
    subst hn
    obtain ⟨D, rfl, hD, -⟩ := hop rfl
    obtain ⟨hc, hle, hsb⟩ := sharedE_ok hr0
    have hm := (checkP_iff m).1 hc
    have hbe := Lib.hid (bett_any D m hm A c _ sh rfl hle hsb w1 (hA.ext hE1) hD)
    unfold bettE at hr
    unfold bettL at hx
    rw [if_neg (by simp [hr0])] at hr hx
    have Hr := Lib.hid hr; have Hx := Lib.hid hx
    clear hx hr hr0 hD hc hA ho hle hsb hm hop
    go_wp2_with fail
    refine hbe.out.mono ?_
    rintro e w2 ⟨A3, k3, c3, rfl, he2, hf⟩
    have hE2 := hE1.trans he2
    have hsz := hE1.size
    cases hq : Pow.firstF m.wvs.length (Pow.moreB m sh) with
    | none =>
      obtain rfl : r = 6 := by rw [← Hr.out, hq]; rfl
      obtain rfl : x = [] := by rw [← Hx.out, hq]; rfl
      rw [Option.isSome_none]
      clear hf hq Hr Hx hbe
      go_wp2_with fail
      go_ret2
      exact ⟨_, rfl, OwnI.nil _ _ _, hE2⟩
    | some l =>
      obtain rfl : r = 0 := by rw [← Hr.out, hq]; rfl
      obtain rfl : x = ints l := by rw [← Hx.out, hq]; rfl
      have hO := (hf l hq).mono hsz
      rw [Option.isSome_some]
      clear hf hq Hr Hx hbe
      go_wp2_with fail
      go_ret2
      exact ⟨_, rfl, hO, hE2⟩
  · have hd : (r0 != 0) = true := by simpa using h0
    unfold bettE at hr
    unfold bettL at hx
    rw [if_pos (by rw [hr0]; exact h0)] at hr hx
    obtain rfl : r0 = r := hr0.symm.trans hr
    subst hx
    clear hr hr0 hA ho h0 hop
    go_wp2_with fail
    go_ret2
    exact ⟨_, rfl, OwnI.nil _ _ _, hE1⟩

def runsL (m : PM) (h : Int) (k : Nat) : List Int := ints ((List.range k).filter fun s => Pow.runsB m s h.toNat)
def runsE (m : PM) (h : Int) : Int := if checkP m ≠ 0 then checkP m else if inB h 0 23 = false then 3 else 0
end Go.Proofs.Pet
