/-
  A mill at work, or the errors of it, of a weaver, a group, shares, sights; walked.
-/
import Derived.Test.YtjlglbhafopomaaGreatPB5
namespace Go.Proofs.Pet
open Go Go.RowKit Go.Maps Go.Shelf
open Go.Proofs.Pow (PM Sh Wv POk)

def knownE (m : PM) (k : Int) : Int := if checkP m ≠ 0 then checkP m else if inB k 0 (m.wvs.length - 1) = false then 1 else 0
def groupE (m : PM) (g : List Int) : Int := if checkP m ≠ 0 then checkP m else if (g.all fun k => inB k 0 (m.wvs.length - 1)) = false then 1 else if twiceB g = true then 5 else 0
def sharedE (m : PM) (l : List Int) : Int := if checkP m ≠ 0 then checkP m else if l.length ≠ m.wvs.length then 2 else if (l.all fun n => inB n 0 1000000) = false then 3 else 0
def sightE (m : PM) (l : List Int) : Int := if checkP m ≠ 0 then checkP m else if l.length ≠ m.wvs.length then 2 else if (l.all fun x => inB x 0 2) = false then 3 else 0
/-- what comes back: a desk if there is no error -/
def Opens (m : PM) (r : Int) (w : World) (e : Ending) (w' : World) : Prop := ∃ pv, e = .returned (.tuple #[.pointer pv, .int .i64 r]) ∧ Ext w w' ∧ (r = 0 → ∃ D, pv = some ⟨D, 0, none⟩ ∧ DeskAt w' D m ∧ w.heap.size ≤ D)
theorem sharedS1 (w : World) (x : Int) : Tells Tryz.prog w 170 #[] #[] IntVal x (inB x 0 1000000) := by
  intro W v hW hv
  obtain rfl : v = .int .i64 x := hv
  have Hc := Lib.hid (in_any x 0 1000000 _ rfl)
  generalize inB x 0 1000000 = q at Hc ⊢
  show Calls Tryz.prog 170 #[_] W _
  go_enter Tryz.func170, Tryz.ntmps170
  go_wp2_with fail
  refine (Hc.out _).mono ?_
  rintro e w' ⟨rfl, rfl⟩
  go_wp2
  go_ret
  exact ⟨rfl, Ext.refl _⟩
theorem sightedS1 (w : World) (x : Int) : Tells Tryz.prog w 164 #[] #[] IntVal x (inB x 0 2) := by
  intro W v hW hv
  obtain rfl : v = .int .i64 x := hv
  show Calls Tryz.prog 164 #[_] W _
  unfold inB
  by_cases h1 : 0 ≤ x
  · by_cases h2 : x ≤ 2
    · go_enter Tryz.func164, Tryz.ntmps164
      go_wp2
      go_ret
      exact ⟨by simp [h1, h2], Ext.refl _⟩
    · have hd : decide (x ≤ 2) = false := by simp; omega
      go_enter Tryz.func164, Tryz.ntmps164
      go_wp2
      go_ret
      exact ⟨by simp, Ext.refl _⟩
  · have hd : decide (0 ≤ x) = false := by simp; omega
    go_enter Tryz.func164, Tryz.ntmps164
    go_wp2
    go_ret
    exact ⟨by simp, Ext.refl _⟩

set_option maxRecDepth 20000 in
theorem known_any (v : Value) (m : PM) (k : Int) (r : Int) (hr : knownE m k = r) (w : World) (hv : PMVal w v m) : Calls Tryz.prog 115 #[v, .int .i64 k] w (Opens m r w) := by
  have Hr := Lib.hid hr; clear hr
  have hmf : ∀ (fn : Fn) (first cap : Array Value) (w : World), (Instr.makeFunc fn first cap).run Tryz.prog w = .ok (.func fn first cap) w := fun _ _ _ _ => rfl
  have Hv := Lib.hid hv
  obtain ⟨A1, c1, A2, c2, rfl, h2, h3, h4, h5, h6, h7⟩ := hv
  have hwl : m.wvs.length ≤ maxLen := Nat.le_trans h4 h5
  unfold maxLen at hwl
  have hE := Ext.alloc w (.cells #[.slice A1 m.shafts.length c1, .slice A2 m.wvs.length c2] 26)
  have hM := Blk.new w 26 #[.slice A1 m.shafts.length c1, .slice A2 m.wvs.length c2]
  obtain ⟨k0, k1⟩ := hM.c2
  have HM := Lib.hid hM
  clear hM h6 h7
  by_cases hc : checkP m = 0
  · have ho := Lib.hid (opened_any _ m hc _ (Hv.out.ext hE))
    have Hc := Lib.hid hc; clear hc
    go_enter Tryz.func115, Tryz.ntmps115
    go_wp2_with fail
    refine ho.out.mono ?_
    rintro e w1 ⟨D, rfl, hD, hlD, he1⟩
    have hE1 := hE.trans he1
    have HD := Lib.hid hD
    have hM1 := HM.out.ext he1
    have hlD' : w.heap.size ≤ D := by have := hE.size; omega
    clear k0 k1 ho HM hD hE he1 hlD
    obtain ⟨k0, k1⟩ := hM1.c2
    obtain ⟨q, hq⟩ : ∃ q, inB k 0 (m.wvs.length - 1) = q := ⟨_, rfl⟩
    have Hq := Lib.hid hq
    have hwk := Lib.hid (pweaver_any _ m k q hq w1 (Hv.out.ext hE1))
    clear hq
    go_wp2_with fail
    refine hwk.out.mono ?_
    rintro e w2 ⟨rfl, he2⟩
    have hE2 := hE1.trans he2
    cases q with
    | false =>
      obtain rfl : r = 1 := by rw [← Hr.out]; unfold knownE; simp [Hc.out, Hq.out]
      go_wp2_with fail
      go_ret2
      exact ⟨_, rfl, hE2, fun h => absurd h (by decide)⟩
    | true =>
      obtain rfl : r = 0 := by rw [← Hr.out]; unfold knownE; simp [Hc.out, Hq.out]
      go_wp2_with fail
      go_ret2
      exact ⟨_, rfl, hE2, fun _ => ⟨D, rfl, HD.out.ext he2, hlD'⟩⟩
  · have ho := Lib.hid (openedErr _ m _ rfl hc _ (Hv.out.ext hE))
    obtain rfl : r = checkP m := by rw [← Hr.out]; unfold knownE; rw [if_pos hc]
    have hd : (checkP m != 0) = true := by simpa using hc
    have hd0 : (checkP m == 0) = false := by simpa using hc
    have Hc := Lib.hid hc; clear hc
    generalize checkP m = r at *
    go_enter Tryz.func115, Tryz.ntmps115
    go_wp2_with fail
    refine ho.out.mono ?_
    rintro e w1 ⟨rfl, he1⟩
    go_wp2_with fail
    go_ret2
    exact ⟨_, rfl, hE.trans he1, fun h => absurd h Hc.out⟩

set_option maxRecDepth 20000 in
theorem grouped_any (v : Value) (m : PM) (A : Option Addr) (c n : Nat) (g : List Int) (hn : g.length = n) (r : Int) (hr : groupE m g = r) (w : World) (hv : PMVal w v m) (hl : n ≤ maxLen) (hlc : n ≤ c) (hA : IntsAt w A g) : Calls Tryz.prog 111 #[v, .slice A n c] w (Opens m r w) := by
  subst hn
  have Hr := Lib.hid hr; clear hr
  have hmf : ∀ (fn : Fn) (first cap : Array Value) (w : World), (Instr.makeFunc fn first cap).run Tryz.prog w = .ok (.func fn first cap) w := fun _ _ _ _ => rfl
  have Hv := Lib.hid hv
  obtain ⟨A1, c1, A2, c2, rfl, h2, h3, h4, h5, h6, h7⟩ := hv
  have hwl : m.wvs.length ≤ maxLen := Nat.le_trans h4 h5
  unfold maxLen at hwl
  have hE := Ext.alloc w (.cells #[.slice A1 m.shafts.length c1, .slice A2 m.wvs.length c2] 26)
  have hM := Blk.new w 26 #[.slice A1 m.shafts.length c1, .slice A2 m.wvs.length c2]
  obtain ⟨k0, k1⟩ := hM.c2
  have HM := Lib.hid hM
  clear hM h6 h7
  by_cases hc : checkP m = 0
  · have ho := Lib.hid (opened_any _ m hc _ (Hv.out.ext hE))
    have Hc := Lib.hid hc; clear hc
    go_enter Tryz.func111, Tryz.ntmps111
    go_wp2_with fail
    refine ho.out.mono ?_
    rintro e w1 ⟨D, rfl, hD, hlD, he1⟩
    have hE1 := hE.trans he1
    have HD := Lib.hid hD
    have hM1 := HM.out.ext he1
    have hlD' : w.heap.size ≤ D := by have := hE.size; omega
    clear k0 k1 ho HM hD hE he1 hlD
    obtain ⟨k0, k1⟩ := hM1.c2
    obtain ⟨q, hq⟩ : ∃ q, (g.all fun k => inB k 0 (m.wvs.length - 1)) = q := ⟨_, rfl⟩
    have Hq := Lib.hid hq
    have hev := everyI 129 #[.agg #[.slice A1 m.shafts.length c1, .slice A2 m.wvs.length c2]] #[] (enters_of Tryz.func129 (by kernel_rfl) rfl) (fun k => inB k 0 (m.wvs.length - 1)) A c g w1 hl (hA.ext hE1)
      (fun y _ => fun W' v' hW' hv' => by
        obtain rfl : v' = .int .i64 y := hv'
        exact pweaver_any _ m y _ rfl W' (Hv.out.ext (hE1.trans hW')))
    rw [hq] at hev
    have Hev := Lib.hid hev
    clear hq hev
    go_wp2_with fail
    refine Hev.out.mono ?_
    rintro e w2 ⟨rfl, he2⟩
    have hE2 := hE1.trans he2
    cases q with
    | false =>
      obtain rfl : r = 1 := by rw [← Hr.out]; unfold groupE; simp [Hc.out, Hq.out]
      go_wp2_with fail
      go_ret2
      exact ⟨_, rfl, hE2, fun h => absurd h (by decide)⟩
    | true =>
      obtain ⟨q2, hq2⟩ : ∃ q2, twiceB g = q2 := ⟨_, rfl⟩
      have Hq2 := Lib.hid hq2
      have htw := Lib.hid (twice_any A c g q2 hq2 w2 hl hlc (hA.ext hE2))
      clear hq2
      go_wp2_with fail
      refine htw.out.mono ?_
      rintro e w3 ⟨rfl, rfl⟩
      cases q2 with
      | true =>
        obtain rfl : r = 5 := by rw [← Hr.out]; unfold groupE; simp [Hc.out, Hq.out, Hq2.out]
        go_wp2_with fail
        go_ret2
        exact ⟨_, rfl, hE2, fun h => absurd h (by decide)⟩
      | false =>
        obtain rfl : r = 0 := by rw [← Hr.out]; unfold groupE; simp [Hc.out, Hq.out, Hq2.out]
        go_wp2_with fail
        go_ret2
        exact ⟨_, rfl, hE2, fun _ => ⟨D, rfl, HD.out.ext he2, hlD'⟩⟩
  · have ho := Lib.hid (openedErr _ m _ rfl hc _ (Hv.out.ext hE))
    obtain rfl : r = checkP m := by rw [← Hr.out]; unfold groupE; rw [if_pos hc]
    have hd : (checkP m != 0) = true := by simpa using hc
    have hd0 : (checkP m == 0) = false := by simpa using hc
    have Hc := Lib.hid hc; clear hc
    generalize checkP m = r at *
    go_enter Tryz.func111, Tryz.ntmps111
    go_wp2_with fail
    refine ho.out.mono ?_
    rintro e w1 ⟨rfl, he1⟩
    go_wp2_with fail
    go_ret2
    exact ⟨_, rfl, hE.trans he1, fun h => absurd h Hc.out⟩

set_option maxRecDepth 20000 in
theorem shared_any (v : Value) (m : PM) (A : Option Addr) (c n : Nat) (l : List Int) (hn : l.length = n) (r : Int) (hr : sharedE m l = r) (w : World) (hv : PMVal w v m) (hl : n ≤ maxLen) (hA : IntsAt w A l) : Calls Tryz.prog 123 #[v, .slice A n c] w (Opens m r w) := by
  have hl' := hl
  unfold maxLen at hl'
  subst hn
  have Hr := Lib.hid hr; clear hr
  have hmf : ∀ (fn : Fn) (first cap : Array Value) (w : World), (Instr.makeFunc fn first cap).run Tryz.prog w = .ok (.func fn first cap) w := fun _ _ _ _ => rfl
  have Hv := Lib.hid hv
  obtain ⟨A1, c1, A2, c2, rfl, h2, h3, h4, h5, h6, h7⟩ := hv
  have hwl : m.wvs.length ≤ maxLen := Nat.le_trans h4 h5
  unfold maxLen at hwl
  have hE := Ext.alloc w (.cells #[.slice A1 m.shafts.length c1, .slice A2 m.wvs.length c2] 26)
  have hM := Blk.new w 26 #[.slice A1 m.shafts.length c1, .slice A2 m.wvs.length c2]
  obtain ⟨k0, k1⟩ := hM.c2
  have HM := Lib.hid hM
  clear hM h6 h7
  by_cases hc : checkP m = 0
  · have ho := Lib.hid (opened_any _ m hc _ (Hv.out.ext hE))
    have Hc := Lib.hid hc; clear hc
    go_enter Tryz.func123, Tryz.ntmps123
    go_wp2_with fail
    refine ho.out.mono ?_
    rintro e w1 ⟨D, rfl, hD, hlD, he1⟩
    have hE1 := hE.trans he1
    have HD := Lib.hid hD
    have hM1 := HM.out.ext he1
    have hlD' : w.heap.size ≤ D := by have := hE.size; omega
    clear k0 k1 ho HM hD hE he1 hlD
    obtain ⟨k0, k1⟩ := hM1.c2
    by_cases hle : l.length = m.wvs.length
    · have Hle := Lib.hid hle
      have hdl : ((l.length : Int) != (m.wvs.length : Int)) = false := by rw [hle]; simp
      clear hle
      obtain ⟨q, hq⟩ : ∃ q, (l.all fun x => inB x 0 1000000) = q := ⟨_, rfl⟩
      have Hq := Lib.hid hq
      have hev := everyI 170 #[] #[] (enters_of Tryz.func170 (by kernel_rfl) rfl) (fun x => inB x 0 1000000) A c l w1 hl (hA.ext hE1) (fun y _ => sharedS1 w1 y)
      rw [hq] at hev
      have Hev := Lib.hid hev
      clear hq hev
      go_wp2_with fail
      refine Hev.out.mono ?_
      rintro e w2 ⟨rfl, he2⟩
      have hE2 := hE1.trans he2
      cases q with
      | false =>
        obtain rfl : r = 3 := by rw [← Hr.out]; unfold sharedE; simp [Hc.out, Hle.out, Hq.out]
        go_wp2_with fail
        go_ret2
        exact ⟨_, rfl, hE2, fun h => absurd h (by decide)⟩
      | true =>
        obtain rfl : r = 0 := by rw [← Hr.out]; unfold sharedE; simp [Hc.out, Hle.out, Hq.out]
        go_wp2_with fail
        go_ret2
        exact ⟨_, rfl, hE2, fun _ => ⟨D, rfl, HD.out.ext he2, hlD'⟩⟩
    · have Hle := Lib.hid hle
      have hdl : ((l.length : Int) != (m.wvs.length : Int)) = true := by simp; omega
      clear hle
      obtain rfl : r = 2 := by rw [← Hr.out]; unfold sharedE; simp [Hc.out, Hle.out]
      go_wp2_with fail
      go_ret2
      exact ⟨_, rfl, hE1, fun h => absurd h (by decide)⟩
  · have ho := Lib.hid (openedErr _ m _ rfl hc _ (Hv.out.ext hE))
    obtain rfl : r = checkP m := by rw [← Hr.out]; unfold sharedE; rw [if_pos hc]
    have hd : (checkP m != 0) = true := by simpa using hc
    have hd0 : (checkP m == 0) = false := by simpa using hc
    have Hc := Lib.hid hc; clear hc
    generalize checkP m = r at *
    go_enter Tryz.func123, Tryz.ntmps123
    go_wp2_with fail
    refine ho.out.mono ?_
    rintro e w1 ⟨rfl, he1⟩
    go_wp2_with fail
    go_ret2
    exact ⟨_, rfl, hE.trans he1, fun h => absurd h Hc.out⟩

set_option maxRecDepth 20000 in
theorem sighted_any (v : Value) (m : PM) (A : Option Addr) (c n : Nat) (l : List Int) (hn : l.length = n) (r : Int) (hr : sightE m l = r) (w : World) (hv : PMVal w v m) (hl : n ≤ maxLen) (hA : IntsAt w A l) : Calls Tryz.prog 96 #[v, .slice A n c] w (Opens m r w) := by
  have hl' := hl
  unfold maxLen at hl'
  subst hn
  have Hr := Lib.hid hr; clear hr
  have hmf : ∀ (fn : Fn) (first cap : Array Value) (w : World), (Instr.makeFunc fn first cap).run Tryz.prog w = .ok (.func fn first cap) w := fun _ _ _ _ => rfl
  have Hv := Lib.hid hv
  obtain ⟨A1, c1, A2, c2, rfl, h2, h3, h4, h5, h6, h7⟩ := hv
  have hwl : m.wvs.length ≤ maxLen := Nat.le_trans h4 h5
  unfold maxLen at hwl
  have hE := Ext.alloc w (.cells #[.slice A1 m.shafts.length c1, .slice A2 m.wvs.length c2] 26)
  have hM := Blk.new w 26 #[.slice A1 m.shafts.length c1, .slice A2 m.wvs.length c2]
  obtain ⟨k0, k1⟩ := hM.c2
  have HM := Lib.hid hM
  clear hM h6 h7
  by_cases hc : checkP m = 0
  · have ho := Lib.hid (opened_any _ m hc _ (Hv.out.ext hE))
    have Hc := Lib.hid hc; clear hc
    go_enter Tryz.func96, Tryz.ntmps96
    go_wp2_with fail
    refine ho.out.mono ?_
    rintro e w1 ⟨D, rfl, hD, hlD, he1⟩
    have hE1 := hE.trans he1
    have HD := Lib.hid hD
    have hM1 := HM.out.ext he1
    have hlD' : w.heap.size ≤ D := by have := hE.size; omega
    clear k0 k1 ho HM hD hE he1 hlD
    obtain ⟨k0, k1⟩ := hM1.c2
    by_cases hle : l.length = m.wvs.length
    · have Hle := Lib.hid hle
      have hdl : ((l.length : Int) != (m.wvs.length : Int)) = false := by rw [hle]; simp
      clear hle
      obtain ⟨q, hq⟩ : ∃ q, (l.all fun x => inB x 0 2) = q := ⟨_, rfl⟩
      have Hq := Lib.hid hq
      have hev := everyX 164 #[] #[] (enters_of Tryz.func164 (by kernel_rfl) rfl) (fun x => inB x 0 2) A c l w1 hl (hA.ext hE1) (fun y _ => sightedS1 w1 y)
      rw [hq] at hev
      have Hev := Lib.hid hev
      clear hq hev
      go_wp2_with fail
      refine Hev.out.mono ?_
      rintro e w2 ⟨rfl, he2⟩
      have hE2 := hE1.trans he2
      cases q with
      | false =>
        obtain rfl : r = 3 := by rw [← Hr.out]; unfold sightE; simp [Hc.out, Hle.out, Hq.out]
        go_wp2_with fail
        go_ret2
        exact ⟨_, rfl, hE2, fun h => absurd h (by decide)⟩
      | true =>
        obtain rfl : r = 0 := by rw [← Hr.out]; unfold sightE; simp [Hc.out, Hle.out, Hq.out]
        go_wp2_with fail
        go_ret2
        exact ⟨_, rfl, hE2, fun _ => ⟨D, rfl, HD.out.ext he2, hlD'⟩⟩
    · have Hle := Lib.hid hle
      have hdl : ((l.length : Int) != (m.wvs.length : Int)) = true := by simp; omega
      clear hle
      obtain rfl : r = 2 := by rw [← Hr.out]; unfold sightE; simp [Hc.out, Hle.out]
      go_wp2_with fail
      go_ret2
      exact ⟨_, rfl, hE1, fun h => absurd h (by decide)⟩
  · have ho := Lib.hid (openedErr _ m _ rfl hc _ (Hv.out.ext hE))
    obtain rfl : r = checkP m := by rw [← Hr.out]; unfold sightE; rw [if_pos hc]
    have hd : (checkP m != 0) = true := by simpa using hc
    have hd0 : (checkP m == 0) = false := by simpa using hc
    have Hc := Lib.hid hc; clear hc
    generalize checkP m = r at *
    go_enter Tryz.func96, Tryz.ntmps96
    go_wp2_with fail
    refine ho.out.mono ?_
    rintro e w1 ⟨rfl, he1⟩
    go_wp2_with fail
    go_ret2
    exact ⟨_, rfl, hE.trans he1, fun h => absurd h Hc.out⟩
end Go.Proofs.Pet
