/- Joined texts: PG1, PD5, PD6, PD7, PG5, S19, PH4, PR. -/
import Derived.Test.YtlekonngbmkdbaaGreatJ09
import Derived.Test.YtlekonngbmkdbaaGreatJ08
import Derived.Test.YtlekonngbmkdbaaGreatJ06
import Derived.Test.YtlekonngbmkdbaaGreatJ07
import Derived.Test.YtlekonngbmkdbaaGreatJ02
namespace Go.Proofs.Pet
open Go Go.RowKit Go.Maps Go.Shelf
open Go.Proofs.Pow (PM Sh Wv POk Up)

/-- a list of as many numbers as there are weavers, each from 0 to hi -/
def rangE (m : PM) (l : List Int) (hi : Int) : Int := if l.length ≠ m.wvs.length then 2 else if (l.all fun x => inB x 0 hi) = false then 3 else 0
def shaftE (m : PM) (l : List Int) : Int := if (l.all fun k => inB k 0 (m.shafts.length - 1)) = false then 1 else if twiceB l = true then 5 else 0
/-- whether one of the first k stands before it, too -/
def dblB (l : List Int) (k : Nat) : Bool := (List.range k).any fun i => (l.take i).contains (l[i]?.getD 0)
end Go.Proofs.Pet

namespace Go.Proofs.Pet
open Go Go.RowKit Go.Maps Go.Shelf
open Go.Proofs.Pow (PM Sh Wv POk Up sightF explB hitL)

/-- sights as they are made -/
def SawT (m : PM) (real : List Nat) (l : List Int) : Prop := ∀ k, k < l.length → l[k]?.getD 0 = 0 ∨ l[k]?.getD 0 = if hitL m real k then 2 else 1
end Go.Proofs.Pet

namespace Go.Proofs.Pet
open Go Go.RowKit Go.Maps Go.Shelf
open Go.Proofs.Pow (PM Sh Wv POk Up sightF explB hitL clrB FoundP)

/-- what is found out from sights of belts that really slipped -/
structure SeenP (m : PM) (l : List Int) (real few prf : List Nat) (sure : List Int) : Prop where
  s0 : sightE m l = 0
  e1 : explE m l (ints real) = 0
  e2 : explQ m l (ints real) = true
  f1 : slipE m l = 0
  f2 : slipL m l = ints few
  g1 : sureE m l = 0
  g2 : sureV m l = sure
  p2 : provL m l = ints prf
  q1 : provE m l (ints prf) = 0
  h1 : explE m l (ints few) = 0
  h2 : explQ m l (ints few) = true
  F : FoundP m (sightF l) real few prf
  su : sure = Pow.sureC m (sightF l)
end Go.Proofs.Pet

namespace Go.Proofs.Pet
open Go Go.RowKit Go.Maps Go.Shelf
open Go.Proofs.Pow (PM Sh Wv POk Up sightF explB hitL clrB clashB)

/-- a list of sights in a block of its own -/
def SRow (w : World) (g W : Nat) (l : List Int) : Prop := ∃ cs, Blk w g 81 cs ∧ W ≤ cs.size ∧ l.length = W ∧ ∀ j, j < W → cs[j]? = some (.int .i64 (l[j]?.getD 0))
end Go.Proofs.Pet

namespace Go.Proofs.Pet
open Go Go.RowKit Go.Maps Go.Shelf
open Go.Proofs.Pow (PM Sh Wv POk Up)

theorem great_bd {m : PM} (h : greatP m = false) : m.shafts.length ≤ 14 ∧ m.wvs.length ≤ 10 ∧ ∀ k, k < m.wvs.length → (m.wv k).hours.length ≤ 30 := by
  unfold greatP at h
  simp only [Bool.or_eq_false_iff, decide_eq_false_iff_not] at h
  refine ⟨by omega, by omega, fun k hk => ?_⟩
  have := List.any_eq_false.1 h.1.1 (m.wv k) (wv_mem hk)
  simpa using this
/-- the operations of the opening: own copy a, the reference's b, the boxes c and d, copies of lists by D -/
def OpenG (a b c d : Nat) (D : Nat → Option (TypeId × List Int)) (w0 : World) (m : PM) (k : Nat) (W : World) (v : Value) : Prop :=
  (k = a → OwnPM W w0.heap.size v m) ∧ (k = b → TheirM w0 W w0.heap.size v m) ∧ (k = c → BoxP 56 w0.heap.size W v) ∧ (k = d → BoxP 62 w0.heap.size W v) ∧ ∀ t l, D k = some (t, l) → OwnI W w0.heap.size t v l
theorem OpenG.ext {a b c d : Nat} {D : Nat → Option (TypeId × List Int)} {w0 : World} {m : PM} : ∀ k W W' v, Ext W W' → OpenG a b c d D w0 m k W v → OpenG a b c d D w0 m k W' v :=
  fun _ _ _ _ he ⟨h1, h2, h3, h4, h5⟩ => ⟨fun e => (h1 e).ext he, fun e => (h2 e).ext he, fun e => (h3 e).ext he, fun e => (h4 e).ext he, fun t l e => (h5 t l e).ext he⟩
theorem OwnI.opened {W : World} {base g g' : Nat} {t : TypeId} {v s1 s2 r1 r2 : Value} {xs : List Int} {c4 c5 : Array Value} (h : OwnI W base t v xs) (b4 : Blk W g 56 c4) (b5 : Blk W g' 62 c5) (n1 : 56 ≠ t) (n2 : 62 ≠ t) :
    OwnI ((((W.setCell ⟨g, 0, none⟩ s1).setCell ⟨g, 1, none⟩ s2).setCell ⟨g', 0, none⟩ r1).setCell ⟨g', 1, none⟩ r2) base t v xs := by
  have hne : g ≠ g' := b4.ne_ b5 (by decide)
  have hap1 : Apart g W ((W.setCell ⟨g, 0, none⟩ s1).setCell ⟨g, 1, none⟩ s2) := ((Apart.refl g W).set_ 0 _).set_ 1 _
  have p5 : Blk ((W.setCell ⟨g, 0, none⟩ s1).setCell ⟨g, 1, none⟩ s2) g' 62 c5 := (b5.far (by show g' ≠ g; exact fun h => hne h.symm) _).far (by show g' ≠ g; exact fun h => hne h.symm) _
  have h1 := OwnI.apart h (fun e => OwnI.ne_blk h b4 n1 e.symm) hap1
  generalize (W.setCell _ _).setCell _ _ = W1 at *
  have hap2 : Apart g' W1 ((W1.setCell ⟨g', 0, none⟩ r1).setCell ⟨g', 1, none⟩ r2) := ((Apart.refl g' W1).set_ 0 _).set_ 1 _
  exact OwnI.apart h1 (fun e => OwnI.ne_blk h1 p5 n2 e.symm) hap2
end Go.Proofs.Pet

namespace Go.Proofs.Pow
/-- a rough bound for what is added to the sums behind a group that lacks r -/
def roughB : Nat → Int
  | 0 => 0
  | r + 1 => 6 * (roughB r + 720 * 12960)
theorem roughB_nonneg : ∀ r, 0 ≤ roughB r
  | 0 => Int.le_refl _
  | r + 1 => by have := roughB_nonneg r; unfold roughB; omega
theorem fac_six {n : Nat} (h : n ≤ 6) : fac n ≤ 720 := by
  rcases (by omega : n = 0 ∨ n = 1 ∨ n = 2 ∨ n = 3 ∨ n = 4 ∨ n = 5 ∨ n = 6) with h | h | h | h | h | h | h <;> subst h <;> simp [fac]
/-- one member's part of the sums -/
def addT (n : Nat) (c : Nat → Int) (r s i k : Nat) : Int := addS n c i r (s + 2 ^ k) + if k = i then (addN n r (s + 2 ^ k) : Int) * (c (s + 2 ^ k) - c s) else 0
theorem addS_T (n : Nat) (c : Nat → Int) (r s i : Nat) : addS n c i (r + 1) s = ((lack n s).map (addT n c r s i)).sum := rfl
theorem mul_bd {a b : Int} (h1 : 0 ≤ a) (h2 : a ≤ 720) (h3 : -12960 ≤ b) (h4 : b ≤ 12960) : -(720 * 12960) ≤ a * b ∧ a * b ≤ 720 * 12960 := by
  constructor
  · have : a * (-12960) ≤ a * b := Int.mul_le_mul_of_nonneg_left h3 h1
    omega
  · have : a * b ≤ a * 12960 := Int.mul_le_mul_of_nonneg_left h4 h1
    omega
theorem sum_abs {α : Type} (f : α → Int) (B : Int) (hB : 0 ≤ B) : ∀ l : List α, (∀ x, x ∈ l → -B ≤ f x ∧ f x ≤ B) → -(B * (l.length : Int)) ≤ (l.map f).sum ∧ (l.map f).sum ≤ B * (l.length : Int)
  | [], _ => by simp
  | a :: l, h => by
    have ih := sum_abs f B hB l fun x hx => h x (by simp [hx])
    have := h a (by simp)
    simp only [List.map_cons, List.sum_cons, List.length_cons, Int.natCast_add, Int.mul_add]
    omega
/-- the sums once those of the lacking below k are done -/
def partA (n : Nat) (c : Nat → Int) (r s i k : Nat) : Int := (((List.range k).filter fun j => !s.testBit j).map (addT n c r s i)).sum
def partN (n : Nat) (r s k : Nat) : Nat := (((List.range k).filter fun j => !s.testBit j).map fun j => addN n r (s + 2 ^ j)).sum
/-! The proof with the most weavers, by sets. -/
def mostR (n : Nat) (p : List Nat → Bool) : Nat → List Nat
  | 0 => []
  | s + 1 => if p (bitsL n s) && (decide ((mostR n p s).length < (bitsL n s).length) || (decide ((bitsL n s).length = (mostR n p s).length) && before (bitsL n s) (mostR n p s))) then bitsL n s else mostR n p s
/-- what the reference asks of a proof -/
def proofR (m : PM) (s : Nat → Int) (l : List Nat) : Bool := (List.range l.length).all fun i => decide (s (l[i]?.getD 0) = 2) && (List.range i).all fun k => (m.line (m.wv (l[i]?.getD 0)).shaft).all fun x => clrB m s x.toNat || !(m.line (m.wv (l[k]?.getD 0)).shaft).contains x
/-! One hour more. -/
theorem cost_all (m : PM) : costF m (fun k => ((List.range m.wvs.length).map fun i : Nat => (i : Int)).contains (k : Int)) = costF m fun _ => true :=
  costQ_congr fun k hk => by
    rw [List.contains_iff_mem]
    exact List.mem_map.2 ⟨k, List.mem_range.2 hk, rfl⟩
end Go.Proofs.Pow

namespace Go.Proofs.Pet
set_option linter.unusedSimpArgs false
open Go Go.RowKit Go.Maps Go.Shelf
open Go.Proofs.Pow (PM Sh Wv POk Up)

theorem cost_allI (m : PM) : Pow.costF m (fun k => (Pow.allI m.wvs.length).contains (k : Int)) = Pow.costF m fun _ => true := Pow.cost_all m
/-- what the search of the cheapest hour has found before hour t -/
def chF (m : PM) (k t : Nat) : Option (Nat × Int) := Pow.leastF (Pow.offerF m k) t
theorem chF_succ (m : PM) (k t : Nat) : chF m k (t + 1) = match Pow.offerF m k t, chF m k t with
    | some x, some b => if x < b.2 then some (t, x) else some b
    | some x, none => some (t, x)
    | none, b => b := rfl
def atV : Option (Nat × Int) → Int
  | none => 0
  | some b => (b.1 : Int)
def leV : Option (Nat × Int) → Int
  | none => 0
  | some b => b.2
def erV : Option (Nat × Int) → Int
  | none => 6
  | some _ => 0
theorem cheapV_ok {m : PM} {k : Int} (h : knownE m k = 0) : cheapV m k = (atV (chF m k.toNat 24), leV (chF m k.toNat 24), erV (chF m k.toNat 24)) := by
  unfold cheapV
  rw [if_neg (by rw [h]; decide)]
  show (match Pow.cheapF m k.toNat with | none => ((0 : Int), (0 : Int), (6 : Int)) | some (a, x) => ((a : Int), x, 0)) = _
  have : Pow.cheapF m k.toNat = chF m k.toNat 24 := rfl
  rw [this]
  cases chF m k.toNat 24 with
  | none => rfl
  | some b => rfl
theorem cheapV_bad {m : PM} {k : Int} (h : knownE m k ≠ 0) : cheapV m k = (0, 0, knownE m k) := by
  unfold cheapV
  rw [if_pos h]
theorem knownE_kq {m : PM} {k : Int} (h0 : checkP m = 0) {kq : Bool} (hkq : decide (0 ≤ k ∧ k < (m.wvs.length : Int)) = kq) : knownE m k = if kq = true then 0 else 1 := by
  unfold knownE
  rw [if_neg (by rw [h0]; decide), ← hkq]
  by_cases h1 : 0 ≤ k ∧ k < (m.wvs.length : Int)
  · rw [inB_iff.2 (show 0 ≤ k ∧ k ≤ m.wvs.length - 1 by omega), decide_eq_true h1]; rfl
  · have h2 : inB k 0 (m.wvs.length - 1) = false := by
      cases hb : inB k 0 (m.wvs.length - 1) with
      | false => rfl
      | true => exact absurd (inB_iff.1 hb) (by omega)
    rw [h2, decide_eq_false h1]; rfl
/-- the value of the mill with one hour more, whose weavers are the reference's -/
theorem used_val {w : World} {b1 : Option Addr} {f1 base : Nat} {A2 : Option Addr} {c2 : Nat} {m : PM} {k : Nat} {h : Int} {u2 : Value} (hv : PMVal w (.agg #[.slice b1 m.shafts.length f1, .slice A2 m.wvs.length c2]) m) (hu : OwnWvsT w base u2 (Pow.useP m k h).wvs) :
    PMVal w (.agg #[.slice b1 m.shafts.length f1, u2]) (Pow.useP m k h) := by
  obtain ⟨B, d, rfl, g1, g2, g3⟩ := hu.at_
  have hp := hv.parts
  exact ⟨b1, f1, B, d, rfl, hp.1.1, hp.1.2, g1, g2, hp.2.2.1, g3⟩
set_option maxRecDepth 20000 in
set_option maxHeartbeats 16000000 in
theorem powerCosts_any (v : Value) (m : PM) (B : Option Addr) (cB : Nat) (gs : List Int) (C : Option Addr) (cC : Nat) (os : List Int) (k h : Int) (w : World) (hv : PMVal w v m) (hB1 : gs.length ≤ cB) (_hB2 : cB ≤ maxLen) (hx : IntsAt w B gs) (hC1 : os.length ≤ cC) (_hC2 : cC ≤ maxLen) (hy : IntsAt w C os) :
    Calls Tryz.prog 4 #[v, .slice B gs.length cB, .slice C os.length cC, .int .i64 k, .int .i64 h] w fun e w' => e = .returned (.bool true) ∧ Ext w w' := by
  have Hv := Lib.hid hv
  have HX := Lib.hid hx; have HY := Lib.hid hy
  obtain ⟨A1, c1, A2, c2, rfl, h2, h3, h4, h5, h6, h7⟩ := hv
  have hE := Ext.alloc w (.cells #[.slice A1 m.shafts.length c1, .slice A2 m.wvs.length c2] 56)
  have hM := Blk.new w 56 #[.slice A1 m.shafts.length c1, .slice A2 m.wvs.length c2]
  clear h2 h3 h4 h5 h6 h7 hx hy
  obtain ⟨q, hq⟩ : ∃ q, greatP m = q := ⟨_, rfl⟩
  have hgr := Lib.hid (great7_any _ m q hq _ (Hv.out.ext hE))
  have Hq := Lib.hid hq; clear hq
  obtain ⟨k0, k1⟩ := hM.c2
  go_enter Tryz.func4, Tryz.ntmps4
  go_wp2_with fail
  refine hgr.out.mono ?_
  rintro e w1 ⟨rfl, he1⟩
  have hE1 := hE.trans he1
  have hM1 := hM.ext he1
  clear hE hM he1 hgr k0 k1
  have haw := Lib.hid (awake7_any w1)
  cases q with
  | true =>
    go_wp2_with fail
    refine haw.out.mono ?_
    rintro e w2 ⟨rfl, he2⟩
    have hE2 := hE1.trans he2
    go_wp2_with fail
    go_ret
    exact ⟨rfl, hE2⟩
  | false =>
    by_cases hs10 : 10 < gs.length
    · have hd1 : decide ((10 : Int) < (gs.length : Int)) = true := decide_eq_true (by omega)
      have hd1' : decide (10 < gs.length) = true := decide_eq_true hs10
      go_wp2_with fail
      refine haw.out.mono ?_
      rintro e w2 ⟨rfl, he2⟩
      have hE2 := hE1.trans he2
      go_wp2_with fail
      go_ret
      exact ⟨rfl, hE2⟩
    have hd1 : decide ((10 : Int) < (gs.length : Int)) = false := decide_eq_false (by omega)
    have hd1' : decide (10 < gs.length) = false := decide_eq_false hs10
    by_cases hl14 : 10 < os.length
    · have hd2 : decide ((10 : Int) < (os.length : Int)) = true := decide_eq_true (by omega)
      have hd2' : decide (10 < os.length) = true := decide_eq_true hl14
      go_wp2_with fail
      refine haw.out.mono ?_
      rintro e w2 ⟨rfl, he2⟩
      have hE2 := hE1.trans he2
      go_wp2_with fail
      go_ret
      exact ⟨rfl, hE2⟩
    have hd2 : decide ((10 : Int) < (os.length : Int)) = false := decide_eq_false (by omega)
    have hd2' : decide (10 < os.length) = false := decide_eq_false hl14
    clear haw
    have hgb := great_bd Hq.out
    have Hg := Lib.hid hgb.2.2
    have hg1 := hgb.1
    have hg2 := hgb.2.1
    have Hv1 := Lib.hid (Hv.out.ext hE1)
    have HX1 := Lib.hid (HX.out.ext hE1); have HY1 := Lib.hid (HY.out.ext hE1)
    clear hgb HX HY
    go_upto_region 3 with fail
    clear hd1 hd1' hd2 hd2'
    refine wp_region_stage 10 (by kernel_rfl) (by kernel_rfl) (StgF w1 (OpenG 1 3 8 9 (fun k => if k = 5 then some (3, gs) else if k = 7 then some (3, os) else none) w1 m)) (fun k v => (k = 0 ∨ k = 2 → v = .agg #[.slice A1 m.shafts.length c1, .slice A2 m.wvs.length c2]) ∧ (k = 4 → v = .slice B gs.length cB) ∧ (k = 6 → v = .slice C os.length cC)) StgF.start ?_ ?_
    · simp only [List.take, AllOps3, fill, Act.put, List.setIfInBounds_toArray, List.set_cons_zero, List.set_cons_succ, Nat.reduceAdd, DepsV, DepsL, List.filter_cons, List.filter_nil, Region.binds, if_true, and_true, Closed]
      refine ⟨?_, ?_, ?_, ?_, ?_, ?_, ?_, ?_, ?_, ?_⟩
      all_goals
        intro Ld x W hS hcl hnl hdl hd K Q hK
        obtain ⟨k0, k1⟩ := (hM1.ext hS.1).c2
        have HK := Lib.hid hK; clear hK hcl hdl hnl
        have HS := Lib.hid hS; clear hS
        have Hd := Lib.hid hd; clear hd
      case refine_2 =>
        have h0 := Hd.out.1 (by simp)
        have hk0 := HK.out; clear HK
        simp only [h0] at hk0 ⊢
        have HK := Lib.hid hk0; clear hk0 h0
        go_wp2_with fail
        refine (own7_any _ m (by omega) (by omega) (fun k hk => by have := Hg.out k hk; omega) W (Hv1.out.ext HS.out.1)).mono ?_
        rintro e w' ⟨v', rfl, hv', he'⟩
        go_wp2
        exact HK.out _ _ (by refine ⟨fun h => ?_, fun h => ?_, fun h => ?_⟩ <;> first | rfl | exact absurd h (by decide)) (HS.out.step OpenG.ext he' 1 _ ⟨fun _ => hv'.mono HS.out.1.size, fun h => absurd h (by decide), fun h => absurd h (by decide), fun h => absurd h (by decide), (fun t l e => by simp at e)⟩)
      case refine_4 =>
        have h0 := Hd.out.1.1 (by simp)
        have hk0 := HK.out; clear HK
        simp only [h0] at hk0 ⊢
        have HK := Lib.hid hk0; clear hk0 h0
        go_wp2_with fail
        refine (theirs7_any _ m w1 W HS.out.1 Hv1.out (by omega) (by omega)).mono ?_
        rintro e w' ⟨v', rfl, hv', he'⟩
        go_wp2
        exact HK.out _ _ (by refine ⟨fun h => ?_, fun h => ?_, fun h => ?_⟩ <;> first | rfl | exact absurd h (by decide)) (HS.out.step OpenG.ext he' 3 _ ⟨fun h => absurd h (by decide), fun _ => hv'.mono HS.out.1.size, fun h => absurd h (by decide), fun h => absurd h (by decide), (fun t l e => by simp at e)⟩)
      case refine_6 =>
        have h0 := Hd.out.1.2.1 (by simp)
        have hk0 := HK.out; clear HK
        simp only [h0] at hk0 ⊢
        have HK := Lib.hid hk0; clear hk0 h0
        go_wp2_with fail
        refine ((fun W (hW : Ext w1 W) => dupI B cB gs W (by omega) (HX1.out.ext hW)) W HS.out.1).mono ?_
        rintro e w' ⟨v', rfl, hv', he'⟩
        go_wp2
        exact HK.out _ _ (by refine ⟨fun h => ?_, fun h => ?_, fun h => ?_⟩ <;> first | rfl | exact absurd h (by decide)) (HS.out.step OpenG.ext he' 5 _ ⟨fun h => absurd h (by decide), fun h => absurd h (by decide), fun h => absurd h (by decide), fun h => absurd h (by decide), (fun t l e => by simp at e; obtain ⟨rfl, rfl⟩ := e; exact hv'.mono HS.out.1.size)⟩)
      case refine_8 =>
        have h0 := Hd.out.1.2.2 (by simp)
        have hk0 := HK.out; clear HK
        simp only [h0] at hk0 ⊢
        have HK := Lib.hid hk0; clear hk0 h0
        go_wp2_with fail
        refine ((fun W (hW : Ext w1 W) => dupI C cC os W (by omega) (HY1.out.ext hW)) W HS.out.1).mono ?_
        rintro e w' ⟨v', rfl, hv', he'⟩
        go_wp2
        exact HK.out _ _ (by refine ⟨fun h => ?_, fun h => ?_, fun h => ?_⟩ <;> first | rfl | exact absurd h (by decide)) (HS.out.step OpenG.ext he' 7 _ ⟨fun h => absurd h (by decide), fun h => absurd h (by decide), fun h => absurd h (by decide), fun h => absurd h (by decide), (fun t l e => by simp at e; obtain ⟨rfl, rfl⟩ := e; exact hv'.mono HS.out.1.size)⟩)
      case refine_9 =>
        go_wp2_with fail
        exact HK.out _ _ (by refine ⟨fun h => ?_, fun h => ?_, fun h => ?_⟩ <;> first | rfl | exact absurd h (by decide)) (HS.out.step OpenG.ext (Ext.alloc _ _) 8 _ ⟨fun h => absurd h (by decide), fun h => absurd h (by decide), fun _ => BoxP.new HS.out.1.size, fun h => absurd h (by decide), (fun t l e => by simp at e)⟩)
      case refine_10 =>
        go_wp2_with fail
        exact HK.out _ _ (by refine ⟨fun h => ?_, fun h => ?_, fun h => ?_⟩ <;> first | rfl | exact absurd h (by decide)) (HS.out.step OpenG.ext (Ext.alloc _ _) 9 _ ⟨fun h => absurd h (by decide), fun h => absurd h (by decide), fun h => absurd h (by decide), fun _ => BoxP.new HS.out.1.size, (fun t l e => by simp at e)⟩)
      all_goals
        go_wp2_with fail
        refine HK.out _ _ (by refine ⟨fun h => ?_, fun h => ?_, fun h => ?_⟩ <;> first | rfl | exact absurd h (by decide)) (HS.out.step OpenG.ext (Ext.refl _) _ _ ⟨fun h => absurd h (by decide), fun h => absurd h (by decide), fun h => absurd h (by decide), fun h => absurd h (by decide), (fun t l e => by simp at e)⟩)
    · intro x W hS hR
      obtain ⟨heW, hF⟩ := hS
      have hO := (hF 1 (by decide)).1 rfl
      have hT := (hF 3 (by decide)).2.1 rfl
      obtain ⟨g, x8, hg, b4⟩ := (hF 8 (by decide)).2.2.1 rfl
      obtain ⟨g', x9, hg', b5⟩ := (hF 9 (by decide)).2.2.2.1 rfl
      have hD5 := (hF 5 (by decide)).2.2.2.2 3 gs (by simp)
      have hD7 := (hF 7 (by decide)).2.2.2.2 3 os (by simp)
      have hO0 := hO
      have hT0 := hT
      obtain ⟨s1, s2, x1, p1, cs1, p2, -⟩ := hO0
      obtain ⟨r1, r2, cs, x3, p3, p4, -⟩ := hT0
      obtain ⟨a1, d1, rfl⟩ := ownsRow_slice p1
      obtain ⟨a2, d2, rfl⟩ := ownsRow_slice p2
      obtain ⟨b1, f1, rfl⟩ := ownsRow_slice p3
      obtain ⟨b2, f2, rfl⟩ := ownsRow_slice p4
      clear p1 p2 p3 p4
      simp only [AllV, true_and] at hR
      have x0 := hR.1.1.1.1.1.1.1.1.1.1 (by simp)
      have x2 := hR.1.1.1.1.1.1.1.2.1 (by simp)
      have x4 := hR.1.1.1.1.1.2.2.1 (by simp)
      obtain ⟨D1, e1, x5⟩ := ownsRow_slice hD5
      rw [x5] at hD5
      have x6 := hR.1.1.1.2.2.2 (by simp)
      obtain ⟨D2, e2, x7⟩ := ownsRow_slice hD7
      rw [x7] at hD7
      rw [x1] at hO
      rw [x3] at hT
      simp only [List.take, List.drop, fill, Act.put, List.setIfInBounds_toArray, List.set_cons_zero, List.set_cons_succ, Nat.reduceAdd, x0, x1, x2, x3, x4, x5, x6, x7, x8, x9]
      clear hR hF x0 x1 x2 x3 x4 x5 x6 x7 x8 x9
      obtain ⟨W2, hW2, hE2, bO, bX, vO, vX⟩ := opened_stored heW hg hg' b4 b5 hO hT
      have hD5' := OwnI.opened (s1 := .slice a1 m.shafts.length d1) (s2 := .slice a2 m.wvs.length d2) (r1 := .slice b1 m.shafts.length f1) (r2 := .slice b2 m.wvs.length f2) hD5 b4 b5 (by decide) (by decide)
      rw [← hW2] at hD5'
      have hD7' := OwnI.opened (s1 := .slice a1 m.shafts.length d1) (s2 := .slice a2 m.wvs.length d2) (r1 := .slice b1 m.shafts.length f1) (r2 := .slice b2 m.wvs.length f2) hD7 b4 b5 (by decide) (by decide)
      rw [← hW2] at hD7'
      obtain ⟨u0, u1⟩ := b4.c2
      obtain ⟨y0, y1⟩ := b5.c2
      have z0 := b4.frozen 0; have z1 := b4.frozen 1
      have i0 := b5.frozen 0; have i1 := b5.frozen 1
      have hne : g ≠ g' := b4.ne_ b5 (by decide)
      have hne' : g' ≠ g := fun h => hne h.symm
      have HW2 := Lib.hid hW2
      have B4 := Lib.hid b4; have B5 := Lib.hid b5
      have HD5 := Lib.hid hD5'
      have HD7 := Lib.hid hD7'
      clear hW2 b4 b5 hO hT hD5 hD5' hD7 hD7'
      obtain ⟨r, hr⟩ : ∃ r, checkP m = r := ⟨_, rfl⟩
      have hck := Lib.hid (check7_any _ m r hr W2 (vX.val hE2))
      obtain ⟨k0, k1⟩ := bX.c2
      have hE2' := hE1.trans hE2
      have hM2 := hM1.ext hE2
      have VO := Lib.hid vO; have VX := Lib.hid vX
      clear k0 k1
      go_wp2_with fail
      rw [← HW2.out]
      clear u0 u1 y0 y1 z0 z1 i0 i1 HW2 B4 B5 vO vX hne hne' heW
      refine hck.out.mono ?_
      rintro e w3 ⟨rfl, he3⟩
      clear hck
      have hE3 := hE2'.trans he3
      have hM3 := hM2.ext he3
      have bO3 := bO.ext he3; have bX3 := bX.ext he3
      have VO3 := Lib.hid (VO.out.ext he3)
      have HVX := Lib.hid ((VX.out.val hE2).ext he3)
      have HX3 := Lib.hid (HX1.out.ext (hE2.trans he3)); have HY3 := Lib.hid (HY1.out.ext (hE2.trans he3))
      have HD5' := Lib.hid (HD5.out.ext he3); have HD7' := Lib.hid (HD7.out.ext he3)
      have Hr := Lib.hid hr
      clear hr he3 VO VX bO bX hE2' hM2 hE2 HX1 HY1 HD5 HD7
      obtain ⟨eC, heC⟩ : ∃ eC, groupE m gs = eC := ⟨_, rfl⟩
      obtain ⟨xC, hxC⟩ : ∃ xC, (if eC = 0 then Pow.costF m (fun k => gs.contains (k : Int)) else 0) = xC := ⟨_, rfl⟩
      obtain ⟨eA, heA⟩ : ∃ eA, addsE m os = eA := ⟨_, rfl⟩
      obtain ⟨xA, hxA⟩ : ∃ xA, (if eA = 0 then Pow.addsF m (natL os) else []) = xA := ⟨_, rfl⟩
      obtain ⟨eX, heX⟩ : ∃ eX, useE m k h = eX := ⟨_, rfl⟩
      obtain ⟨xX, hxX⟩ : ∃ xX, extI m k h = xX := ⟨_, rfl⟩
      obtain ⟨aV, lV, eV, hcV⟩ : ∃ a l e, cheapV m k = (a, l, e) := ⟨_, _, _, rfl⟩
      have HeC := Lib.hid heC; have HxC := Lib.hid hxC; have HeA := Lib.hid heA; have HxA := Lib.hid hxA; have HeX := Lib.hid heX; have HxX := Lib.hid hxX; have HcV := Lib.hid hcV
      clear heC hxC heA hxA heX hxX hcV
      go_upto_if 70 with fail
      go_cut [16, 17, 18, 19, 20, 21, 22, 23, 24] (fun a b c d e f g i j wx => a = .int .i64 eC ∧ b = .int .i64 eA ∧ c = .int .i64 eX ∧ d = .int .i64 eV ∧ e = .int .i64 xC ∧ f = .int .i64 xX ∧ g = .int .i64 aV ∧ i = .int .i64 lV ∧ Hid (SlI wx j xA) ∧ Ext w3 wx)
      case first =>
        by_cases hr0 : r = 0
        · -- <<T
          as_aux_lemma =>
          subst hr0
          have hz : ((0 : Int) == 0) = true := rfl
          have Hm := Lib.hid ((checkP_iff m).1 Hr.out)
          have hsz9 := Hm.out.sz
          have hfew := Hm.out.few
          have hgg : Hid (grpE m gs = eC) := (groupE_grp Hm.out gs).symm.trans HeC.out
          obtain ⟨k0, k1⟩ := bX3.c2
          go_wp2_with fail
          refine (grouped7_any _ m B cB gs.length gs rfl eC hgg.out w3 HVX.out hB1 (by omega) (by omega) HX3.out).mono ?_
          rintro e w4 ⟨rfl, he4⟩
          clear k0 k1
          have bX4 := bX3.ext he4
          have HV4 := Lib.hid (HVX.out.ext he4); have HX4 := Lib.hid (HX3.out.ext he4); have HY4 := Lib.hid (HY3.out.ext he4)
          have hM4 := hM3.ext he4
          go_upto_if 75 with fail
          go_cut [20] (fun a wx => a = .int .i64 xC ∧ Ext w4 wx)
          case first =>
            by_cases h0 : eC = 0
            · have hz9 : (eC == 0) = true := by rw [h0]; rfl
              have hin : Hid (Pow.InG m gs) := grpE_in (hgg.out.trans h0)
              have hcc : Hid (Pow.costF m (fun k => gs.contains (k : Int)) = xC) := by unfold Hid; rw [← HxC.out, if_pos h0]
              obtain ⟨k0, k1⟩ := bX4.c2
              clear h0
              go_wp2_with fail
              refine (cost7_any _ m Hm.out B cB gs.length gs rfl hin.out (by omega) xC hcc.out w4 HV4.out HX4.out).mono ?_
              rintro e w5 ⟨rfl, he5⟩
              clear k0 k1
              go_wp2_with fail
              go_meet
              exact ⟨rfl, he5⟩
            · have hz9 : (eC == 0) = false := beq_eq_false_iff_ne.2 h0
              have hcc : Hid (xC = 0) := by unfold Hid; rw [← HxC.out, if_neg h0]
              clear h0
              go_wp2_with fail
              go_meet
              exact ⟨by rw [hcc.out], Ext.refl _⟩
          case rest =>
            obtain ⟨rfl, he5⟩ := hcut
            obtain ⟨w5, rfl⟩ : ∃ z, z = wc := ⟨_, rfl⟩
            have bX5 := bX4.ext he5; have hM5 := hM4.ext he5
            have HV5 := Lib.hid (HV4.out.ext he5); have HY5 := Lib.hid (HY4.out.ext he5)
            have he35 := he4.trans he5
            clear bX4 hM4 HV4 HX4 HY4 he4 he5 hgg
            obtain ⟨j0, j1⟩ := hM5.c2
            obtain ⟨ql, hql⟩ : ∃ ql, ((os.length : Int) == (m.wvs.length : Int)) = ql := ⟨_, rfl⟩
            go_upto_if 84 with fail
            clear j0 j1
            go_cut [17, 24] (fun a b wx => a = .int .i64 eA ∧ Hid (SlI wx b xA) ∧ Ext w5 wx)
            case first =>
              -- <<A
              as_aux_lemma =>
              cases ql with
              | false =>
                have hne : os.length ≠ m.wvs.length := fun h => by rw [h] at hql; simp at hql
                have e2 : eA = 2 := by rw [← HeA.out]; unfold addsE; rw [if_neg (by rw [Hr.out]; decide), if_pos hne]
                have hx0 : Hid (xA = []) := by unfold Hid; rw [← HxA.out, if_neg (by rw [e2]; decide)]
                have E2 := Lib.hid e2
                clear hne e2 HxA hql
                go_wp2_with fail
                go_meet
                exact ⟨by rw [E2.out], Lib.hid (by rw [hx0.out]; exact (OwnI.nil w5 0 3).sl), Ext.refl _⟩
              | true =>
                have hle : os.length = m.wvs.length := by have := beq_iff_eq.1 hql; omega
                have hgo : Hid (grpE m os = eA) := by
                  unfold Hid
                  rw [← groupE_grp Hm.out, ← HeA.out]
                  unfold addsE
                  rw [if_neg (by rw [Hr.out]; decide), if_neg (by rw [hle]; simp)]
                have Hle := Lib.hid hle
                clear hle hql
                obtain ⟨k0, k1⟩ := bX5.c2
                go_wp2_with fail
                refine (grouped7_any _ m C cC os.length os rfl eA hgo.out w5 HV5.out hC1 (by omega) (by omega) HY5.out).mono ?_
                rintro e w6 ⟨rfl, he6⟩
                clear k0 k1
                by_cases h0 : eA = 0
                · have hz9 : (eA == 0) = true := by rw [h0]; rfl
                  obtain ⟨hc, hg, hnd, hl6⟩ := groupE_ok ((groupE_grp Hm.out os).trans (hgo.out.trans h0))
                  have hgl : ints (natL os) = os := ints_natL hg
                  have hnl : (natL os).length = os.length := by simp [natL]
                  have hndl : (natL os).Nodup := by
                    rw [← hgl] at hnd
                    exact (List.pairwise_map.1 hnd).imp fun h e => h (congrArg _ e)
                  have Hx' : Hid (Pow.addsF m (natL os) = xA) := by unfold Hid; rw [← HxA.out, if_pos h0]
                  have hbl : ∀ k, k ∈ natL os → k < m.wvs.length := fun k hk => by
                    unfold natL at hk
                    obtain ⟨y, hy, rfl⟩ := List.mem_map.1 hk
                    have := hg y hy; omega
                  have Hg := Lib.hid hg; have Hgl := Lib.hid hgl; have Hnl := Lib.hid hnl; have Hndl := Lib.hid hndl; have Hbl := Lib.hid hbl
                  obtain ⟨ti, hi, hz0, hz1, hz2⟩ := info_parts info_int
                  have hmk : ∀ W : World, (Instr.makeSlice 22 (.int .i64 (os.length : Int)) (.int .i64 (os.length : Int))).run Tryz.prog W = .ok (.slice (some ⟨W.heap.size, 0, none⟩) os.length os.length) (W.alloc (.cells (madeCells #[.int .i64 0] os.length) 3)) := by
                    intro W
                    have := run_make (P := Tryz.prog) W 22 3 ti _ Tryz.underlying22 hi hz0 .i64 .i64 os.length os.length (by omega) (by omega) (by rw [hz2]; omega) (by omega)
                    simpa [hz1, Value.cells] using this
                  have hX := Ext.alloc w6 (.cells (madeCells #[.int .i64 0] os.length) 3)
                  have hS := Row.made (Blk.new w6 3 (madeCells #[.int .i64 0] os.length))
                  have HE0 := Lib.hid h0
                  clear hc hgo hgl hnl hndl hbl hg hnd HxA h0 hi hz0 hz1 hz2
                  go_wp2_with fail
                  clear hmk
                  obtain ⟨S, hSe⟩ : ∃ S, w6.heap.size = S := ⟨_, rfl⟩
                  rw [hSe] at hS ⊢
                  have hS0 := hS.congr (g := addR m (natL os) 0) fun j _ => (addR_zero m _ j).symm
                  generalize w6.alloc _ = w7 at *
                  have HSe := Lib.hid hSe
                  have HV6 := Lib.hid (HV5.out.ext he6); have HY6 := Lib.hid (HY5.out.ext he6); have bX6 := bX5.ext he6
                  clear hS hSe
                  go_loopw [95] (fun i wr => ∃ k : Nat, k ≤ os.length ∧ i = .int .i64 (k : Int) ∧ Ext w6 wr ∧ Row wr S os.length (addR m (natL os) k)) (fun i _ => os.length - (intOf i).toNat)
                  case atStart => exact ⟨0, Nat.zero_le _, rfl, hX, hS0⟩
                  case round =>
                    clear hX hS0
                    obtain ⟨i, hi', rfl, hew, hR⟩ := hrel
                    by_cases hlt : i < os.length
                    · obtain ⟨b, o, rfl, q1⟩ := HY6.out.ext hew i hlt
                      have hil : i < (natL os).length := by rw [Hnl.out]; exact hlt
                      obtain ⟨kk, hkk⟩ : ∃ kk, (natL os)[i] = kk := ⟨_, rfl⟩
                      have hgi : os[i]?.getD 0 = (kk : Int) := by
                        conv => lhs; rw [← Hgl.out]
                        rw [ints_get _ hil, List.getElem?_eq_getElem hil, ← hkk]; rfl
                      rw [hgi] at q1
                      have hkl : kk < m.wvs.length := Hbl.out kk (hkk ▸ List.getElem_mem hil)
                      have hkl' : kk < os.length := by rw [Hle.out]; exact hkl
                      have Hnx : Hid (∀ k, (if k = kk then Pow.addF m (natL os) i else addR m (natL os) i k) = addR m (natL os) (i + 1) k) := fun k => by rw [← hkk]; exact addR_next Hndl.out hil k
                      have hca := Pow.cost_bounds Hm.out (Pow.befB (natL os) (i + 1))
                      have hcb := Pow.cost_bounds Hm.out (Pow.befB (natL os) i)
                      have hck : ∀ j, Pow.costF m (fun k => (os.take j).contains (k : Int)) = Pow.costF m (Pow.befB (natL os) j) := fun j => by
                        congr 1
                        funext k
                        have : os.take j = ints ((natL os).take j) := by
                          conv => lhs; rw [← Hgl.out]
                          unfold ints; rw [List.map_take]
                        rw [this, ints_contains]; rfl
                      have Hadd : Hid (Pow.addF m (natL os) i = Pow.costF m (Pow.befB (natL os) (i + 1)) - Pow.costF m (Pow.befB (natL os) i)) := rfl
                      obtain ⟨ca, hcae⟩ : ∃ ca, Pow.costF m (Pow.befB (natL os) (i + 1)) = ca := ⟨_, rfl⟩
                      obtain ⟨cb, hcbe⟩ : ∃ cb, Pow.costF m (Pow.befB (natL os) i) = cb := ⟨_, rfl⟩
                      rw [hcae] at hca Hadd
                      rw [hcbe] at hcb Hadd
                      have HcA := fun W (hW : Ext w6 W) => cost7_any _ m Hm.out (some ⟨b, o, none⟩) cC (i + 1) (os.take (i + 1)) (by rw [List.length_take]; omega) (fun y hy => Hg.out y (List.mem_of_mem_take hy)) (by omega) ca ((hck _).trans hcae) W (HV6.out.ext hW) ((HY6.out.ext hW).take (i + 1))
                      have HcB := fun W (hW : Ext w6 W) => cost7_any _ m Hm.out (some ⟨b, o, none⟩) cC i (os.take i) (by rw [List.length_take]; omega) (fun y hy => Hg.out y (List.mem_of_mem_take hy)) (by omega) cb ((hck _).trans hcbe) W (HV6.out.ext hW) ((HY6.out.ext hW).take i)
                      have HCA := Lib.hid HcA; have HCB := Lib.hid HcB
                      have hic : i + 1 ≤ cC := by omega
                      obtain ⟨k0, k1⟩ := (bX6.ext hew).c2
                      clear HcA HcB hck hcae hcbe hkk hgi
                      go_upto_region 20 with fail
                      clear q1
                      refine wp_region_chain 14 [(7, true), (12, true), (13, true)] [] (by kernel_rfl) (by kernel_rfl) (by kernel_rfl) ?_
                      simp only [List.take, List.drop, fill, Act.put, List.setIfInBounds_toArray, List.set_cons_zero, List.set_cons_succ, Nat.reduceAdd]
                      repeat (first
                        | refine Floats.mut rfl ?_
                        | (apply Floats.float rfl
                           · intro x W he hd K Q hK
                             try (have he := he (by decide); have k0 := he.cell k0; have k1 := he.cell k1)
                             try simp only [edges, DepsE, List.filter_cons, List.filter_nil, Region.binds, if_true, and_true, true_and, upd, Nat.reduceEqDiff, if_false] at hd
                             try simp only [hd] at hK ⊢
                             have HK := Lib.hid hK; clear hK
                             go_wp2_with fail
                             exact HK.out))
                      refine Floats.done fun W he hG => ?_
                      refine Chain.cons _ rfl ?_
                      intro x hd K Q hK
                      try simp only [edges, DepsE, List.filter_cons, List.filter_nil, Region.binds, if_true, and_true, true_and, upd, Nat.reduceEqDiff, if_false] at hd
                      try simp only [hd] at hK ⊢
                      clear hd
                      have HK := Lib.hid hK; clear hK
                      go_wp2_with fail
                      refine (HCA.out W (hew.trans he)).mono ?_
                      rintro e w4 ⟨rfl, he4⟩
                      have hA4 := he.trans he4
                      go_wp2_with fail
                      refine HK.out _ _ (fun _ => hA4) ?_
                      clear HK he he4 hG
                      refine Chain.cons _ rfl ?_
                      intro x hd K Q hK
                      try simp only [edges, DepsE, List.filter_cons, List.filter_nil, Region.binds, if_true, and_true, true_and, upd, Nat.reduceEqDiff, if_false] at hd
                      try simp only [hd] at hK ⊢
                      clear hd
                      have HK := Lib.hid hK; clear hK
                      go_wp2_with fail
                      refine (HCB.out w4 (hew.trans hA4)).mono ?_
                      rintro e w8 ⟨rfl, he8⟩
                      have hA5 := hA4.trans he8
                      go_wp2_with fail
                      refine HK.out _ _ (fun _ => hA5) ?_
                      clear HK hA4 he8
                      refine Chain.cons _ rfl ?_
                      intro x hd K Q hK
                      try simp only [edges, DepsE, List.filter_cons, List.filter_nil, Region.binds, if_true, and_true, true_and, upd, Nat.reduceEqDiff, if_false] at hd
                      try simp only [hd] at hK ⊢
                      clear hd
                      have HK := Lib.hid hK; clear hK
                      go_wp2_with fail
                      refine HK.out _ _ (fun _ => hA5) ?_
                      clear HK
                      refine Chain.nil ?_
                      simp only [upd, Nat.reduceEqDiff, if_false, if_true]
                      have hR5 := hR.ext hA5
                      have hcell := hR5.cell hkl'
                      have hfr := hR5.frozen kk
                      have hE5 := hew.trans hA5
                      clear k0 k1
                      go_wp2_with fail
                      go_roundw
                      case rel =>
                        refine ⟨i + 1, by omega, by go_num, Below.setCell hE5 (by show _ ≤ S; have := HSe.out; omega) _, (hR5.set_ hkl' (ca - cb)).congr fun j hj => ?_⟩
                        rw [← Hnx.out, Hadd.out]
                      case measure => simp [intOf]; omega
                    · obtain rfl : i = os.length := by omega
                      have hO := hR.own (base := S) (Nat.le_refl _) (by unfold maxLen; omega)
                      have hxx : (List.range os.length).map (addR m (natL os) os.length) = xA := by
                        rw [← Hx'.out, ← addR_all (Hnl.out.trans Hle.out) fun k hk => nodup_all Hndl.out (Hnl.out.trans Hle.out) Hbl.out hk, Hnl.out, Hle.out]
                      rw [hxx] at hO
                      have HO := Lib.hid hO.sl
                      clear hO hxx hR
                      go_wp2_with fail
                      go_meet
                      exact ⟨by rw [HE0.out], HO, he6.trans hew⟩
                · have hz9 : (eA == 0) = false := beq_eq_false_iff_ne.2 h0
                  have hx0 : Hid (xA = []) := by unfold Hid; rw [← HxA.out, if_neg h0]
                  clear HxA h0
                  go_wp2_with fail
                  go_meet
                  exact ⟨rfl, Lib.hid (by rw [hx0.out]; exact (OwnI.nil w6 0 3).sl), he6⟩
              -- >>
            case rest =>
              -- <<U
              as_aux_lemma =>
              obtain ⟨rfl, hSA, he6⟩ := hcut
              obtain ⟨w6, rfl⟩ : ∃ z, z = wc := ⟨_, rfl⟩
              have he36 := he35.trans he6
              have bX6 := bX5.ext he6; have hM6 := hM5.ext he6
              have HV6 := Lib.hid (HV5.out.ext he6)
              clear bX5 hM5 HV5 HY5 he35 he6 hql HeC HxC HeA HxA
              obtain ⟨kq, hkq⟩ : ∃ kq, decide (0 ≤ k ∧ k < (m.wvs.length : Int)) = kq := ⟨_, rfl⟩
              have hke := Lib.hid (knownE_kq Hr.out hkq)
              obtain ⟨j0, j1⟩ := hM6.c2
              go_upto_region 23 with fail
              go_cut [124] (fun a wx => a = .bool kq ∧ w6 = wx)
              case first =>
                rcases Int.lt_or_le k 0 with h1 | h1
                · have hd1 : decide ((0 : Int) ≤ k) = false := decide_eq_false (by omega)
                  have hq : kq = false := by rw [← hkq]; exact decide_eq_false (by omega)
                  have HQ := Lib.hid hq
                  clear hkq hq
                  go_wp2_with fail
                  go_meet
                  exact ⟨by rw [HQ.out], rfl⟩
                · have hd1 : decide ((0 : Int) ≤ k) = true := decide_eq_true (by omega)
                  have hd2 : decide (k < (m.wvs.length : Int)) = kq := by rw [← hkq]; exact decide_eq_decide.2 ⟨fun h => ⟨h1, h⟩, fun h => h.2⟩
                  clear hkq
                  go_wp2_with fail
                  go_meet
                  exact ⟨rfl, rfl⟩
              case rest =>
                obtain ⟨rfl, rfl⟩ := hcut
                clear j0 j1
                cases kq with
                | false =>
                  have hk1 : knownE m k = 1 := hke.out.trans (if_neg (by decide))
                  have e1 : eX = 1 := by rw [← HeX.out]; unfold useE; rw [if_pos (by rw [hk1]; decide), hk1]
                  have e2 : xX = 0 := by rw [← HxX.out]; unfold extI; rw [HeX.out, if_neg (by rw [e1]; decide)]
                  have e3 := HcV.out
                  rw [cheapV_bad (by rw [hk1]; decide), hk1] at e3
                  simp only [Prod.mk.injEq] at e3
                  have E := Lib.hid (And.intro e1 (And.intro e2 e3))
                  clear hk1 e1 e2 e3 hkq hke HcV HeX HxX
                  go_wp2_with fail
                  go_meet
                  exact ⟨rfl, rfl, by rw [E.out.1], by rw [E.out.2.2.2.2], rfl, by rw [E.out.2.1], by rw [E.out.2.2.1], by rw [E.out.2.2.2.1], hSA, he36⟩
                | true =>
                  as_aux_lemma =>
                  have hk := of_decide_eq_true hkq
                  obtain ⟨kk, rfl⟩ : ∃ n : Nat, k = n := ⟨k.toNat, by omega⟩
                  have hkl : kk < m.wvs.length := by omega
                  have hk0 : Hid (knownE m (kk : Int) = 0) := hke.out.trans (if_pos rfl)
                  have hcv : Hid (atV (chF m kk 24) = aV ∧ leV (chF m kk 24) = lV ∧ erV (chF m kk 24) = eV) := by
                    have e3 := HcV.out
                    rw [cheapV_ok hk0.out, Int.toNat_natCast] at e3
                    simp only [Prod.mk.injEq] at e3
                    exact e3
                  obtain ⟨cA, hcA⟩ : ∃ cA, Pow.costF m (fun _ => true) = cA := ⟨_, rfl⟩
                  have hcAb := Pow.cost_bounds Hm.out (fun _ => true)
                  have hall : Hid (Pow.costF m (fun k => (Pow.allI m.wvs.length).contains (k : Int)) = cA) := (cost_allI m).trans hcA
                  rw [hcA] at hcAb
                  have HcA := Lib.hid hcA
                  obtain ⟨k0, k1⟩ := bX6.c2
                  clear hk hkq hke HcV hcA
                  go_upto_region 24 with fail
                  refine wp_region_chain 4 [(2, true), (3, true)] [] (by kernel_rfl) (by kernel_rfl) (by kernel_rfl) ?_
                  simp only [List.take, List.drop, fill, Act.put, List.setIfInBounds_toArray, List.set_cons_zero, List.set_cons_succ, Nat.reduceAdd]
                  repeat (first
                    | refine Floats.mut rfl ?_
                    | (apply Floats.float rfl
                       · intro x W he hd K Q hK
                         try (have he := he (by decide); have k0 := he.cell k0; have k1 := he.cell k1)
                         try simp only [edges, DepsE, List.filter_cons, List.filter_nil, Region.binds, if_true, and_true, true_and, upd, Nat.reduceEqDiff, if_false] at hd
                         try simp only [hd] at hK ⊢
                         have HK := Lib.hid hK; clear hK
                         go_wp2_with fail
                         exact HK.out))
                  refine Floats.done fun W he hG => ?_
                  refine Chain.cons _ rfl ?_
                  intro x hd K Q hK
                  try simp only [edges, DepsE, List.filter_cons, List.filter_nil, Region.binds, if_true, and_true, true_and, upd, Nat.reduceEqDiff, if_false] at hd
                  try simp only [hd] at hK ⊢
                  clear hd
                  have HK := Lib.hid hK; clear hK
                  go_wp2_with fail
                  refine (all7_any _ m (by omega) W (HV6.out.ext he)).mono ?_
                  rintro e w7 ⟨u7, rfl, hO7, he7⟩
                  obtain ⟨A7, c7, rfl, y1, y2, y3, -, -⟩ := hO7.open_
                  have heA := he.trans he7
                  have Y3 := Lib.hid y3
                  clear y1 y2 y3 hO7
                  go_wp2_with fail
                  refine HK.out _ _ (fun _ => heA) ?_
                  clear HK
                  refine Chain.cons _ rfl ?_
                  intro x hd K Q hK
                  try simp only [edges, DepsE, List.filter_cons, List.filter_nil, Region.binds, if_true, and_true, true_and, upd, Nat.reduceEqDiff, if_false] at hd
                  try simp only [hd] at hK ⊢
                  clear hd
                  have HK := Lib.hid hK; clear hK
                  go_wp2_with fail
                  refine (cost7_any _ m Hm.out A7 c7 _ (Pow.allI m.wvs.length) rfl (Pow.all_in m) (by rw [allI_len]; omega) cA hall.out w7 (HV6.out.ext heA) Y3.out).mono ?_
                  rintro e w8 ⟨rfl, he8⟩
                  have heB := heA.trans he8
                  go_wp2_with fail
                  refine HK.out _ _ (fun _ => heB) ?_
                  clear HK
                  refine Chain.nil ?_
                  simp only [upd, Nat.reduceEqDiff, if_false, if_true]
                  clear k0 k1 he he7 he8 Y3 heA
                  have he38 := he36.trans heB
                  have bX8 := bX6.ext heB
                  have HV8 := Lib.hid (HV6.out.ext heB)
                  have hSA8 := Lib.hid (hSA.out.ext heB)
                  clear heB bX6 HV6 hSA
                  -- the hour that is asked
                  have hXY := Ext.alloc w8 (.cells #[.slice none 0 0, .slice none 0 0] 62)
                  have bY := Blk.new w8 62 #[.slice none 0 0, .slice none 0 0]
                  have hwl := bY.lt
                  obtain ⟨eU, heU⟩ : ∃ eU, useE7 m kk h = eU := ⟨_, rfl⟩
                  have heX2 : Hid (eX = eU) := HeX.out.symm.trans ((useE_use7 Hm.out hkl h).trans heU)
                  go_upto_region 26 with fail
                  obtain ⟨Yb, hYb⟩ : ∃ Yb, w8.heap.size = Yb := ⟨_, rfl⟩
                  rw [hYb] at bY hwl ⊢
                  have hYb2 : w8.heap.size ≤ Yb := by omega
                  have hus := Lib.hid (use7_any (.slice b1 m.shafts.length f1) (.slice b2 m.wvs.length f2) m Hm.out kk hkl h eU heU _ (HV8.out.ext hXY))
                  have HeU := Lib.hid heU
                  obtain ⟨k0, k1⟩ := (bX8.ext hXY).c2
                  have HV9 := Lib.hid (HV8.out.ext hXY); have bX9 := bX8.ext hXY
                  clear heU hYb
                  generalize w8.alloc _ = w9 at *
                  go_wp2_with fail
                  refine hus.out.mono ?_
                  rintro e w10 ⟨u7, rfl, hU, he10⟩
                  clear k0 k1 hus
                  have bY10 := bY.ext he10
                  obtain ⟨y0, y1⟩ := bY10.c2
                  have z0 := bY10.frozen 0
                  have z1 := bY10.frozen 1
                  have he910 := hXY.trans he10
                  -- two ways, that meet behind the hour that is asked
                  obtain ⟨P1, n1, q1, P2, n2, q2, rfl⟩ : ∃ P1 n1 q1 P2 n2 q2, u7 = .agg #[.slice P1 n1 q1, .slice P2 n2 q2] := by
                    by_cases h0 : eU = 0
                    · obtain ⟨u2, e, cs9, hq⟩ := hU.2 h0
                      obtain ⟨a9, d9, rfl⟩ := ownsRow_slice hq.1
                      exact ⟨_, _, _, _, _, _, e⟩
                    · exact ⟨_, _, _, _, _, _, hU.1 h0⟩
                  go_upto_region 27 with fail
                  clear y0 y1 z0 z1
                  have hap : Apart Yb w10 ((w10.setCell ⟨Yb, 0, none⟩ (.slice P1 n1 q1)).setCell ⟨Yb, 1, none⟩ (.slice P2 n2 q2)) := ((Apart.refl _ w10).set_ 0 _).set_ 1 _
                  have hE11 := Below.setCell (Below.setCell he910 (p := ⟨Yb, 0, none⟩) hYb2 (.slice P1 n1 q1)) (p := ⟨Yb, 1, none⟩) hYb2 (.slice P2 n2 q2)
                  have bY11 : Blk ((w10.setCell ⟨Yb, 0, none⟩ (.slice P1 n1 q1)).setCell ⟨Yb, 1, none⟩ (.slice P2 n2 q2)) Yb 62 #[.slice P1 n1 q1, .slice P2 n2 q2] := by simpa using (bY10.set_ 0 (.slice P1 n1 q1)).set_ 1 (.slice P2 n2 q2)
                  have hUok : Hid (eU = 0 → PMVal ((w10.setCell ⟨Yb, 0, none⟩ (.slice P1 n1 q1)).setCell ⟨Yb, 1, none⟩ (.slice P2 n2 q2)) (.agg #[.slice P1 n1 q1, .slice P2 n2 q2]) (Pow.useP m kk h)) := fun h0 => by
                    obtain ⟨u2, e, hq⟩ := hU.2 h0
                    rw [e]
                    exact used_val ((HV8.out.ext hE11)) (hq.apart hwl hap)
                  have hSA11 := Lib.hid (hSA8.out.ext hE11)
                  have HV11 := Lib.hid (HV8.out.ext hE11); have bX11 := bX8.ext hE11
                  have he311 := he38.trans hE11
                  clear hU hap bY10 hE11 hSA8 HV8 HV9 bX8 bX9 he910 bY hXY he10 hwl hYb2 he38
                  generalize (w10.setCell _ _).setCell _ _ = w11 at *
                  go_upto_if 137 with fail
                  go_cut [21] (fun a wx => a = .int .i64 xX ∧ Ext w11 wx)
                  case first =>
                    as_aux_lemma =>
                    by_cases h0 : eU = 0
                    · have hz9 : (eU == 0) = true := by rw [h0]; rfl
                      rw [hz9]
                      have hh := useE_known (HeX.out.trans (heX2.out.trans h0))
                      obtain ⟨h23, hc⟩ := (inB_iff.1 hh.2.1)
                      have hnc := hh.2.2
                      have hvU := hUok.out h0
                      obtain ⟨hq, rfl⟩ : ∃ n : Nat, h = n := ⟨h.toNat, by omega⟩
                      rw [Int.toNat_natCast] at hnc
                      obtain ⟨M, hM⟩ : ∃ M, Pow.useP m kk (hq : Int) = M := ⟨_, rfl⟩
                      rw [hM] at hvU
                      have HvU := Lib.hid hvU
                      have hmU : POk M := by rw [← hM]; exact Pow.use_ok Hm.out hkl (by omega) hnc
                      obtain ⟨cU, hcU⟩ : ∃ cU, Pow.costF M (fun _ => true) = cU := ⟨_, rfl⟩
                      have hxx : Hid (cU - cA = xX) := by
                        unfold Hid
                        rw [← HxX.out]
                        unfold extI
                        rw [HeX.out, if_pos (heX2.out.trans h0), Int.toNat_natCast, Int.toNat_natCast, ← HcA.out, ← hcU, ← hM]
                        rfl
                      have hcUb := Pow.cost_bounds hmU (fun _ => true)
                      have hallU : Hid (Pow.costF M (fun k => (Pow.allI M.wvs.length).contains (k : Int)) = cU) := (cost_allI _).trans hcU
                      rw [hcU] at hcUb
                      have hlM : M.wvs.length ≤ 6 := by
                        have := Pow.useP_len m kk (hq : Int)
                        rw [hM] at this
                        omega
                      have HmU := Lib.hid hmU
                      obtain ⟨v0, v1⟩ := bY11.c2
                      clear h0 hh h23 hc hnc hvU hcU hmU hM hUok
                      go_upto_region 28 with fail
                      refine wp_region_chain 6 [(2, true), (3, true), (5, true)] [] (by kernel_rfl) (by kernel_rfl) (by kernel_rfl) ?_
                      simp only [List.take, List.drop, fill, Act.put, List.setIfInBounds_toArray, List.set_cons_zero, List.set_cons_succ, Nat.reduceAdd]
                      repeat (first
                        | refine Floats.mut rfl ?_
                        | (apply Floats.float rfl
                           · intro x W he hd K Q hK
                             try (have he := he (by decide); have v0 := he.cell v0; have v1 := he.cell v1)
                             try simp only [edges, DepsE, List.filter_cons, List.filter_nil, Region.binds, if_true, and_true, true_and, upd, Nat.reduceEqDiff, if_false] at hd
                             try simp only [hd] at hK ⊢
                             have HK := Lib.hid hK; clear hK
                             go_wp2_with fail
                             exact HK.out))
                      refine Floats.done fun W he hG => ?_
                      refine Chain.cons _ rfl ?_
                      intro x hd K Q hK
                      try simp only [edges, DepsE, List.filter_cons, List.filter_nil, Region.binds, if_true, and_true, true_and, upd, Nat.reduceEqDiff, if_false] at hd
                      try simp only [hd] at hK ⊢
                      clear hd
                      have HK := Lib.hid hK; clear hK
                      go_wp2_with fail
                      refine (all7_any _ M (by omega) W (HvU.out.ext he)).mono ?_
                      rintro e w12 ⟨u12, rfl, hO12, he12⟩
                      obtain ⟨A7, c7, rfl, y1, y2, y3, -, -⟩ := hO12.open_
                      have heA := he.trans he12
                      have Y3 := Lib.hid y3
                      clear y1 y2 y3 hO12
                      go_wp2_with fail
                      refine HK.out _ _ (fun _ => heA) ?_
                      clear HK
                      refine Chain.cons _ rfl ?_
                      intro x hd K Q hK
                      try simp only [edges, DepsE, List.filter_cons, List.filter_nil, Region.binds, if_true, and_true, true_and, upd, Nat.reduceEqDiff, if_false] at hd
                      try simp only [hd] at hK ⊢
                      clear hd
                      have HK := Lib.hid hK; clear hK
                      go_wp2_with fail
                      refine (cost7_any _ M HmU.out A7 c7 _ (Pow.allI M.wvs.length) rfl (Pow.all_in M) (by rw [allI_len]; omega) cU hallU.out w12 (HvU.out.ext heA) Y3.out).mono ?_
                      rintro e w13 ⟨rfl, he13⟩
                      have heB := heA.trans he13
                      go_wp2_with fail
                      refine HK.out _ _ (fun _ => heB) ?_
                      clear HK
                      refine Chain.cons _ rfl ?_
                      intro x hd K Q hK
                      try simp only [edges, DepsE, List.filter_cons, List.filter_nil, Region.binds, if_true, and_true, true_and, upd, Nat.reduceEqDiff, if_false] at hd
                      try simp only [hd] at hK ⊢
                      clear hd
                      have HK := Lib.hid hK; clear hK
                      go_wp2_with fail
                      refine HK.out _ _ (fun _ => heB) ?_
                      clear HK
                      refine Chain.nil ?_
                      simp only [upd, Nat.reduceEqDiff, if_false, if_true]
                      go_wp2_with fail
                      go_meet
                      exact ⟨by rw [hxx.out], heB⟩
                    · have hz9 : (eU == 0) = false := beq_eq_false_iff_ne.2 h0
                      have hx0 : Hid (xX = 0) := by unfold Hid; rw [← HxX.out]; unfold extI; rw [HeX.out, heX2.out, if_neg h0]
                      clear h0 hUok
                      go_wp2_with fail
                      go_meet
                      exact ⟨by rw [hx0.out], Ext.refl _⟩
                  case rest =>
                    as_aux_lemma =>
                    obtain ⟨rfl, he12⟩ := hcut
                    obtain ⟨w12, rfl⟩ : ∃ z, z = wc := ⟨_, rfl⟩
                    have he312 := he311.trans he12
                    have HV12 := Lib.hid (HV11.out.ext he12); have bX12 := bX11.ext he12
                    have hSA12 := Lib.hid (hSA11.out.ext he12)
                    clear he311 he12 HV11 bX11 hSA11 hUok bY11
                    go_wp2_with fail
                    go_loopw [19, 22, 23, 144] (fun ev av lv tv wr => ∃ t : Nat, t ≤ 24 ∧ tv = .int .i64 t ∧ ev = .int .i64 (erV (chF m kk t)) ∧ av = .int .i64 (atV (chF m kk t)) ∧ lv = .int .i64 (leV (chF m kk t)) ∧ Ext w12 wr) (fun _ _ _ tv _ => 24 - (intOf tv).toNat)
                    case atStart => exact ⟨0, by omega, rfl, rfl, rfl, rfl, Ext.refl _⟩
                    case round =>
                      -- <<L
                      as_aux_lemma =>
                      obtain ⟨t, ht, rfl, rfl, rfl, rfl, hew⟩ := hrel
                      obtain ⟨wo, rfl⟩ : ∃ z, z = wr := ⟨_, rfl⟩
                      by_cases hlt : t < 24
                      · have hd : decide ((t : Int) < 24) = true := decide_eq_true (by omega)
                        have hd' : decide (t < 24) = true := decide_eq_true hlt
                        obtain ⟨et, het⟩ : ∃ et, useE7 m kk (t : Int) = et := ⟨_, rfl⟩
                        have hus := Lib.hid (use7_any (.slice b1 m.shafts.length f1) (.slice b2 m.wvs.length f2) m Hm.out kk hkl (t : Int) et het wo (HV12.out.ext hew))
                        have hsu := chF_succ m kk t
                        obtain ⟨qc, hqc⟩ : ∃ qc, (m.wv kk).hours.contains (t : Int) = qc := ⟨_, rfl⟩
                        have hof : Pow.offerF m kk t = if qc = true then none else some (Pow.extraF m kk t) := by unfold Pow.offerF; rw [hqc]
                        have het2 : et = if qc = true then 5 else 0 := by
                          rw [← het]; unfold useE7
                          rw [inB_iff.2 (show (0 : Int) ≤ t ∧ (t : Int) ≤ 23 by omega), if_neg (by decide), hqc]
                        obtain ⟨o, ho⟩ : ∃ o, chF m kk t = o := ⟨_, rfl⟩
                        rw [ho] at hsu
                        rw [ho]
                        rw [hof] at hsu
                        obtain ⟨k0, k1⟩ := (bX12.ext hew).c2
                        have Hqc := Lib.hid hqc
                        clear het hof ho hqc
                        cases qc with
                        | true =>
                          as_aux_lemma =>
                          have hs2 : Hid (chF m kk (t + 1) = o) := by unfold Hid; rw [hsu]; simp
                          obtain rfl : et = 5 := by rw [het2]; rfl
                          have hz5 : ((5 : Int) != 0) = true := rfl
                          clear hsu het2
                          go_wp2_with fail
                          refine hus.out.mono ?_
                          rintro e w13 ⟨u13, rfl, hU, he13⟩
                          obtain rfl := hU.1 (by decide)
                          clear hus hU k0 k1
                          have hXY := Ext.alloc w13 (.cells #[.slice none 0 0, .slice none 0 0] 62)
                          go_wp2_with fail
                          go_roundw
                          case rel => exact ⟨t + 1, by omega, by go_num, by rw [hs2.out], by rw [hs2.out], by rw [hs2.out], hew.trans (he13.trans hXY)⟩
                          case measure => simp [intOf]; omega
                        | false =>
                          as_aux_lemma =>
                          obtain rfl : et = 0 := by rw [het2]; rfl
                          have hz5 : ((0 : Int) != 0) = false := rfl
                          obtain ⟨M, hMe⟩ : ∃ M, Pow.useP m kk (t : Int) = M := ⟨_, rfl⟩
                          have hmU : POk M := by rw [← hMe]; exact Pow.use_ok Hm.out hkl hlt Hqc.out
                          have hln : M.wvs.length = m.wvs.length := by rw [← hMe]; exact Pow.useP_len m kk (t : Int)
                          have hlM : M.wvs.length ≤ 6 := by omega
                          obtain ⟨cU, hcU⟩ : ∃ cU, Pow.costF M (fun _ => true) = cU := ⟨_, rfl⟩
                          have hcUb := Pow.cost_bounds hmU (fun _ => true)
                          have hallU : Hid (Pow.costF M (fun k => (Pow.allI M.wvs.length).contains (k : Int)) = cU) := (cost_allI _).trans hcU
                          have hxt : Pow.extraF m kk t = cU - cA := by
                            unfold Pow.extraF
                            rw [hMe, hcU, HcA.out]
                          rw [hcU] at hcUb
                          rw [if_neg (by decide), hxt] at hsu
                          have Hsu := Lib.hid hsu; have HmU := Lib.hid hmU; have HMe := Lib.hid hMe
                          clear hsu het2 hxt hcU hmU hln
                          clear hMe
                          go_wp2_with fail
                          refine hus.out.mono ?_
                          rintro e w13 ⟨u13, rfl, hU, he13⟩
                          obtain ⟨u2, rfl, hu2⟩ := hU.2 rfl
                          clear hus hU k0 k1
                          rw [HMe.out] at hu2
                          obtain ⟨B3, d3, rfl, g1, g2, g3⟩ := hu2.at_
                          have hXY := Ext.alloc w13 (.cells #[.slice b1 m.shafts.length f1, .slice B3 M.wvs.length d3] 62)
                          have bY := Blk.new w13 62 #[.slice b1 m.shafts.length f1, .slice B3 M.wvs.length d3]
                          have HvU : Hid (PMVal (w13.alloc (.cells #[.slice b1 m.shafts.length f1, .slice B3 M.wvs.length d3] 62)) (.agg #[.slice b1 m.shafts.length f1, .slice B3 M.wvs.length d3]) M) := by
                            have := used_val (k := kk) (h := (t : Int)) (base := wo.heap.size) ((HV12.out.ext hew).ext he13) (by rw [HMe.out]; exact hu2)
                            rw [HMe.out] at this
                            exact PMVal.ext this hXY
                          have he14 := hew.trans (he13.trans hXY)
                          clear g1 g2 g3 hu2
                          go_upto_region 35 with fail
                          obtain ⟨Yb, hYb⟩ : ∃ Yb, w13.heap.size = Yb := ⟨_, rfl⟩
                          rw [hYb] at bY ⊢
                          clear hYb hXY he13
                          generalize w13.alloc _ = w14 at *
                          obtain ⟨v0, v1⟩ := bY.c2
                          refine wp_region_chain 6 [(2, true), (3, true), (5, true)] [] (by kernel_rfl) (by kernel_rfl) (by kernel_rfl) ?_
                          simp only [List.take, List.drop, fill, Act.put, List.setIfInBounds_toArray, List.set_cons_zero, List.set_cons_succ, Nat.reduceAdd]
                          repeat (first
                            | refine Floats.mut rfl ?_
                            | (apply Floats.float rfl
                               · intro x W he hd K Q hK
                                 try (have he := he (by decide); have v0 := he.cell v0; have v1 := he.cell v1)
                                 try simp only [edges, DepsE, List.filter_cons, List.filter_nil, Region.binds, if_true, and_true, true_and, upd, Nat.reduceEqDiff, if_false] at hd
                                 try simp only [hd] at hK ⊢
                                 have HK := Lib.hid hK; clear hK
                                 go_wp2_with fail
                                 exact HK.out))
                          refine Floats.done fun W he hG => ?_
                          refine Chain.cons _ rfl ?_
                          intro x hd K Q hK
                          try simp only [edges, DepsE, List.filter_cons, List.filter_nil, Region.binds, if_true, and_true, true_and, upd, Nat.reduceEqDiff, if_false] at hd
                          try simp only [hd] at hK ⊢
                          clear hd
                          have HK := Lib.hid hK; clear hK
                          go_wp2_with fail
                          refine (all7_any _ M (by omega) W (HvU.out.ext he)).mono ?_
                          rintro e w15 ⟨u15, rfl, hO15, he15⟩
                          obtain ⟨A7, c7, rfl, y1, y2, y3, -, -⟩ := hO15.open_
                          have heA := he.trans he15
                          have Y3 := Lib.hid y3
                          clear y1 y2 y3 hO15
                          go_wp2_with fail
                          refine HK.out _ _ (fun _ => heA) ?_
                          clear HK
                          refine Chain.cons _ rfl ?_
                          intro x hd K Q hK
                          try simp only [edges, DepsE, List.filter_cons, List.filter_nil, Region.binds, if_true, and_true, true_and, upd, Nat.reduceEqDiff, if_false] at hd
                          try simp only [hd] at hK ⊢
                          clear hd
                          have HK := Lib.hid hK; clear hK
                          go_wp2_with fail
                          refine (cost7_any _ M HmU.out A7 c7 _ (Pow.allI M.wvs.length) rfl (Pow.all_in M) (by rw [allI_len]; omega) cU hallU.out w15 (HvU.out.ext heA) Y3.out).mono ?_
                          rintro e w16 ⟨rfl, he16⟩
                          have heB := he14.trans (heA.trans he16)
                          have heB' := heA.trans he16
                          go_wp2_with fail
                          refine HK.out _ _ (fun _ => heB') ?_
                          clear HK
                          refine Chain.cons _ rfl ?_
                          intro x hd K Q hK
                          try simp only [edges, DepsE, List.filter_cons, List.filter_nil, Region.binds, if_true, and_true, true_and, upd, Nat.reduceEqDiff, if_false] at hd
                          try simp only [hd] at hK ⊢
                          clear hd
                          have HK := Lib.hid hK; clear hK
                          go_wp2_with fail
                          refine HK.out _ _ (fun _ => heB') ?_
                          clear HK
                          refine Chain.nil ?_
                          simp only [upd, Nat.reduceEqDiff, if_false, if_true]
                          clear v0 v1 he he15 he16 heA heB' Y3 bY he14
                          cases o with
                          | none =>
                            have hN : Hid (chF m kk (t + 1) = some (t, cU - cA)) := Hsu.out
                            have hz6 : (erV none != 0) = true := rfl
                            have hz6' : ((6 : Int) != 0) = true := rfl
                            clear Hsu
                            simp only [erV, atV, leV]
                            go_wp2_with fail
                            go_roundw
                            case rel => exact ⟨t + 1, by omega, by go_num, by rw [hN.out]; rfl, by rw [hN.out]; rfl, by rw [hN.out]; rfl, heB⟩
                            case measure => simp [intOf]; omega
                          | some b =>
                            obtain ⟨ba, bx⟩ := b
                            have hs3 := Hsu.out
                            simp only at hs3
                            simp only [erV, atV, leV]
                            by_cases hlx : cU - cA < bx
                            · have hN : Hid (chF m kk (t + 1) = some (t, cU - cA)) := hs3.trans (if_pos hlx)
                              have hdx : decide (cU - cA < bx) = true := decide_eq_true hlx
                              clear Hsu hs3 hlx
                              go_wp2_with fail
                              go_roundw
                              case rel => exact ⟨t + 1, by omega, by go_num, by rw [hN.out]; rfl, by rw [hN.out]; rfl, by rw [hN.out]; rfl, heB⟩
                              case measure => simp [intOf]; omega
                            · have hN : Hid (chF m kk (t + 1) = some (ba, bx)) := hs3.trans (if_neg hlx)
                              have hdx : decide (cU - cA < bx) = false := decide_eq_false hlx
                              clear Hsu hs3 hlx
                              go_wp2_with fail
                              go_roundw
                              case rel => exact ⟨t + 1, by omega, by go_num, by rw [hN.out]; rfl, by rw [hN.out]; rfl, by rw [hN.out]; rfl, heB⟩
                              case measure => simp [intOf]; omega
                      · obtain rfl : t = 24 := by omega
                        rw [hcv.out.1, hcv.out.2.1, hcv.out.2.2]
                        clear hlt
                        go_wp2_with fail
                        go_meet
                        exact ⟨rfl, rfl, by rw [heX2.out], rfl, rfl, rfl, rfl, rfl, Lib.hid (hSA12.out.ext hew), he312.trans hew⟩
                      -- >>
              -- >>
          -- >>
        · -- <<B
          as_aux_lemma =>
          have hz : (r == 0) = false := beq_eq_false_iff_ne.2 hr0
          have hk1 : knownE m k = r := by unfold knownE; rw [Hr.out, if_pos hr0]
          have e1 : eC = r := by rw [← HeC.out]; unfold groupE; rw [Hr.out, if_pos hr0]
          have e2 : eA = r := by rw [← HeA.out]; unfold addsE; rw [Hr.out, if_pos hr0]
          have e3 : eX = r := by rw [← HeX.out]; unfold useE; rw [hk1, if_pos hr0]
          have e4 := HcV.out
          rw [cheapV_bad (by rw [hk1]; exact hr0), hk1] at e4
          simp only [Prod.mk.injEq] at e4
          have e5 : xC = 0 := by rw [← HxC.out, if_neg (by rw [e1]; exact hr0)]
          have e6 : xA = [] := by rw [← HxA.out, if_neg (by rw [e2]; exact hr0)]
          have e7 : xX = 0 := by rw [← HxX.out]; unfold extI; rw [HeX.out, if_neg (by rw [e3]; exact hr0)]
          have hS : SlI w3 (.slice none 0 0) [] := (OwnI.nil w3 0 3).sl
          have E := Lib.hid (And.intro e1 (And.intro e2 (And.intro e3 (And.intro e5 (And.intro e6 (And.intro e7 e4))))))
          clear e1 e2 e3 e4 e5 e6 e7 hk1 hr0 HxC HxA
          go_wp2_with fail
          go_meet
          exact ⟨by rw [E.out.1], by rw [E.out.2.1], by rw [E.out.2.2.1], by rw [E.out.2.2.2.2.2.2.2.2], by rw [E.out.2.2.2.1], by rw [E.out.2.2.2.2.2.1], by rw [E.out.2.2.2.2.2.2.1], by rw [E.out.2.2.2.2.2.2.2.1], Lib.hid (by rw [E.out.2.2.2.2.1]; exact hS), Ext.refl _⟩
          -- >>
      case rest =>
        -- <<R
        as_aux_lemma =>
        obtain ⟨rfl, rfl, rfl, rfl, rfl, rfl, rfl, rfl, hSA, he5⟩ := hcut
        obtain ⟨w5, rfl⟩ : ∃ z, z = wc := ⟨_, rfl⟩
        have bO5 := bO3.ext he5; have hM5 := hM3.ext he5
        have HVO := Lib.hid (VO3.out.ext he5)
        have HDa := Lib.hid (HD5'.out.ext he5); have HDb := Lib.hid (HD7'.out.ext he5)
        have HX5 := Lib.hid (HX3.out.ext he5); have HY5 := Lib.hid (HY3.out.ext he5)
        have hE5 := hE3.trans he5
        have Hv5 := Lib.hid (Hv.out.ext hE5)
        have HI5 := Lib.hid HDa.out.sl.ints; have HI7 := Lib.hid HDb.out.sl.ints
        have hD5c : gs.length ≤ e1 := by
          obtain ⟨_, _, e, h1, _, _⟩ := HDa.out.sl
          simp only [Value.slice.injEq, true_and] at e
          obtain ⟨-, rfl⟩ := e
          exact h1
        have hD7c : os.length ≤ e2 := by
          obtain ⟨_, _, e, h1, _, _⟩ := HDb.out.sl
          simp only [Value.slice.injEq, true_and] at e
          obtain ⟨-, rfl⟩ := e
          exact h1
        have hlm : os.length ≤ maxLen := by unfold maxLen; omega
        have hsm : gs.length ≤ maxLen := by unfold maxLen; omega
        have Hlm := Lib.hid hlm; have Hsm := Lib.hid hsm
        clear bO3 hM3 VO3 HD5' HD7' HX3 HY3 hE3 he5 bX3 HVX hlm hsm
        have Hc1 := Lib.hid (Cost_any _ m D1 e1 gs.length gs rfl eC xC HeC.out HxC.out w5 HVO.out.val Hsm.out hD5c HI5.out)
        clear HxC
        obtain ⟨k0, k1⟩ := bO5.c2
        go_wp2_with fail
        refine Hc1.out.mono ?_
        rintro e wA ⟨rfl, heA⟩
        clear Hc1 k0 k1
        obtain ⟨k0, k1⟩ := (bO5.ext heA).c2
        have Hc2 := Lib.hid (Adds_any _ m D2 e2 os.length os rfl eA xA HeA.out HxA.out wA (HVO.out.ext heA).val Hlm.out hD7c (HI7.out.ext heA))
        clear HxA
        go_wp2_with fail
        refine Hc2.out.mono ?_
        rintro e wB ⟨uB, rfl, hOB, heB'⟩
        have heB := heA.trans heB'
        have HOB := Lib.hid hOB.sl
        clear Hc2 k0 k1 hOB heB' heA
        obtain ⟨k0, k1⟩ := (bO5.ext heB).c2
        have Hc3 := Lib.hid (Extra_any _ m k h eX xX HeX.out HxX.out wB (HVO.out.ext heB).val)
        go_wp2_with fail
        refine Hc3.out.mono ?_
        rintro e wC ⟨rfl, heC'⟩
        have heC := heB.trans heC'
        have HOC := Lib.hid (HOB.out.ext heC')
        clear Hc3 k0 k1 HOB heC' heB
        obtain ⟨k0, k1⟩ := (bO5.ext heC).c2
        have Hc4 := Lib.hid (Cheapest_any _ m k aV lV eV HcV.out wC (HVO.out.ext heC).val)
        go_wp2_with fail
        refine Hc4.out.mono ?_
        rintro e wD ⟨rfl, heD'⟩
        have heD := heC.trans heD'
        obtain ⟨EA, fA, rfl, gA1, gA2, gA3⟩ := HOC.out.ext heD'
        obtain ⟨FA, iA, rfl, _, _, jA3⟩ := hSA.out.ext heD
        have hq1 : (eC == eC) = true := by simp
        have hq2 : (eA == eA) = true := by simp
        have hq3 : (eX == eX) = true := by simp
        have hq4 : (eV == eV) = true := by simp
        have hq5 : (xC == xC) = true := by simp
        have hq6 : (xX == xX) = true := by simp
        have hq7 : (aV == aV) = true := by simp
        have hq8 : (lV == lV) = true := by simp
        have Hq6 := Lib.hid (fun W (hW : Ext wD W) => eqI EA FA fA iA _ _ true (decide_eq_true rfl) W (Nat.le_trans gA1 gA2) (IntsAt.ext gA3 hW) (IntsAt.ext jA3 hW))
        obtain ⟨n1, hn1⟩ : ∃ n, xA.length = n := ⟨_, rfl⟩
        rw [hn1] at Hq6 ⊢
        have hE9 := hE5.trans heD
        have bO9 := bO5.ext heD; have hM9 := hM5.ext heD
        have Hsa := Lib.hid (fun W (hW : Ext wD W) => same7_any _ _ m m true (decide_eq_true rfl) W (HVO.out.ext (heD.trans hW)).val (Hv5.out.ext (heD.trans hW)))
        have Heq := Lib.hid (fun W (hW : Ext wD W) => eqI D1 B e1 cB gs gs true (decide_eq_true rfl) W Hsm.out (HI5.out.ext (heD.trans hW)) (HX5.out.ext (heD.trans hW)))
        have Heq2 := Lib.hid (fun W (hW : Ext wD W) => eqI D2 C e2 cC os os true (decide_eq_true rfl) W Hlm.out (HI7.out.ext (heD.trans hW)) (HY5.out.ext (heD.trans hW)))
        clear Hc4 k0 k1 HOC heD' hSA gA1 gA2 gA3 jA3 hn1 heC heD hE5 bO5 hM5 HVO HDa HDb HX5 HY5 Hv5 HI5 HI7 hD5c hD7c HeC HeA HeX HxX HcV
        go_wp2_with fail
        refine (Hq6.out wD (Ext.refl _)).mono ?_
        rintro e wG ⟨rfl, heG⟩
        clear Hq6
        obtain ⟨k0, k1⟩ := (bO9.ext heG).c2
        obtain ⟨j0, j1⟩ := (hM9.ext heG).c2
        go_wp2_with fail
        refine (Hsa.out wG heG).mono ?_
        rintro e wH ⟨rfl, heH'⟩
        have heH := heG.trans heH'
        clear Hsa heG heH' k0 k1 j0 j1
        go_wp2_with fail
        refine (Heq.out wH heH).mono ?_
        rintro e wI ⟨rfl, heI'⟩
        have heI := heH.trans heI'
        clear Heq heH heI'
        go_wp2_with fail
        refine (Heq2.out wI heI).mono ?_
        rintro e wJ ⟨rfl, heJ'⟩
        have heJ := heI.trans heJ'
        clear Heq2 heI heJ'
        go_wp2_with fail
        refine (awake7_any wJ).mono ?_
        rintro e wK ⟨rfl, heK⟩
        go_wp2_with fail
        go_ret
        exact ⟨rfl, hE9.trans (heJ.trans heK)⟩
        -- >>
end Go.Proofs.Pet

namespace Go.Proofs.Pet
open Go Go.RowKit Go.WideShapes Go.ChangeShapes Go.Joins Go.Deep
open Go.Proofs.Pow (PM Sh Wv)
section
variable {H : Type} {enc : TypeId × Value → H} {P : Program}
variable {w : World} {base : Nat} {spare : Nat → Bool} {held : Bool}
/-- a shaft's two cells that can be read -/
theorem sh_reads {e ti : TypeId} {n0 n1 g0 g1 p0 p1 : String} {m0 m1 : Bool} {o0 o1 : Nat} {fuel : Nat} {cs : List Value} {x : DataW H × List MemPlace}
    (he : P.underlying e = some (.struct #[⟨n0, ti, 0, m0, g0, p0, o0⟩, ⟨n1, ti, 1, m1, g1, p1, o1⟩])) (hi : P.underlying ti = some (.int .i64)) (ci : P.cellsOf ti = 1) (hC : P.cellsOf e = 2)
    (h : DataW.trod enc P w base spare held fuel e cs = some x) : ∃ o : Sh, cs = [.int .i64 o.up, .int .i64 o.price] := by
  obtain ⟨xs, n, _, _, hlen, hxs, hg⟩ := DataW.trod_struct he h
  rw [hC] at hlen
  match cs, hlen with
  | [c0, c1], _ =>
    match xs, hxs with
    | [y0, y1], _ =>
      have h0 : DataW.trod enc P w base spare held n ti (([c0, c1].drop 0).take (P.cellsOf ti)) = [y0, y1][0]? := hg 0 _ rfl
      have h1 : DataW.trod enc P w base spare held n ti (([c0, c1].drop 1).take (P.cellsOf ti)) = [y0, y1][1]? := hg 1 _ rfl
      rw [ci] at h0 h1
      simp only [List.drop_zero, List.drop_succ_cons, List.take_succ_cons, List.take_zero, List.getElem?_cons_zero, List.getElem?_cons_succ] at h0 h1
      obtain ⟨q0, e0, _, _⟩ := DataW.trod_int hi h0
      obtain ⟨q1, e1, _, _⟩ := DataW.trod_int hi h1
      injection e0 with e0 _
      injection e1 with e1 _
      exact ⟨⟨q0, q1⟩, by rw [e0, e1]⟩
/-- a weaver's two cells that can be read -/
theorem wv_reads {e ti tl : TypeId} {n0 n1 g0 g1 p0 p1 : String} {m0 m1 : Bool} {o0 o1 : Nat} {fuel : Nat} {cs : List Value} {x : DataW H × List MemPlace}
    (he : P.underlying e = some (.struct #[⟨n0, ti, 0, m0, g0, p0, o0⟩, ⟨n1, tl, 1, m1, g1, p1, o1⟩])) (hi : P.underlying ti = some (.int .i64)) (hl : P.underlying tl = some (.slice ti)) (ci : P.cellsOf ti = 1) (cl : P.cellsOf tl = 1) (hC : P.cellsOf e = 2)
    (h : DataW.trod enc P w base spare held fuel e cs = some x) : ∃ (o : Wv) (A : Option Addr) (c : Nat), cs = [.int .i64 o.shaft, .slice A o.hours.length c] ∧ o.hours.length ≤ c ∧ c ≤ maxLen ∧ IntsAt w A o.hours := by
  obtain ⟨xs, n, _, _, hlen, hxs, hg⟩ := DataW.trod_struct he h
  rw [hC] at hlen
  match cs, hlen with
  | [c0, c1], _ =>
    match xs, hxs with
    | [y0, y1], _ =>
      have h0 : DataW.trod enc P w base spare held n ti (([c0, c1].drop 0).take (P.cellsOf ti)) = [y0, y1][0]? := hg 0 _ rfl
      have h1 : DataW.trod enc P w base spare held n tl (([c0, c1].drop 1).take (P.cellsOf tl)) = [y0, y1][1]? := hg 1 _ rfl
      rw [ci] at h0
      rw [cl] at h1
      simp only [List.drop_zero, List.drop_succ_cons, List.take_succ_cons, List.take_zero, List.getElem?_cons_zero, List.getElem?_cons_succ] at h0 h1
      obtain ⟨q0, e0, _, _⟩ := DataW.trod_int hi h0
      obtain ⟨A, c, on, e1, r1, r2, r3⟩ := ints_reads hl hi ci h1
      injection e0 with e0 _
      exact ⟨⟨q0, on⟩, A, c, by rw [e0, e1], r1, r2, r3⟩
/-- a slice of structs of two cells each that can be read -/
theorem two_reads {β : Type} (z : β) (Rd : World → Nat → Nat → β → Prop) {t e : TypeId} {fuel : Nat} {v : Value} {x : DataW H × List MemPlace} (ht : P.underlying t = some (.slice e)) (hC : P.cellsOf e = 2)
    (hrd : ∀ fuel cs y, DataW.trod enc P w base spare held fuel e cs = some y → ∃ o : β, ∀ b q, (∀ j, j < 2 → w.cell? ⟨b, q + j, none⟩ = cs[j]?) → Rd w b q o)
    (h : DataW.trod enc P w base spare held fuel t [v] = some x) : ∃ A c, ∃ xs : List β, v = .slice A xs.length c ∧ xs.length ≤ c ∧ c ≤ maxLen ∧ ∀ k, k < xs.length → ∃ b q, A = some ⟨b, q, none⟩ ∧ Rd w b (q + k * 2) (xs[k]?.getD z) := by
  rcases open_slice ht h with ⟨h1, _⟩ | ⟨a, len, cap, m, n, D, Pl, h1, _, h2, h3, h4, _, h5⟩
  · injection h1 with h1 _
    exact ⟨none, 0, [], h1, Nat.le_refl _, Nat.zero_le _, fun k hk => by cases hk⟩
  · injection h1 with h1 _
    have hm : len ≤ m := by rw [h4]; split <;> omega
    have key : ∀ i : Nat, ∃ o : β, i < m → ∃ b q, a = ⟨b, q, none⟩ ∧ Rd w b (q + i * 2) o := by
      intro i
      by_cases him : i < m
      · obtain ⟨cs, hc, htr⟩ := h5 i him
        obtain ⟨o, ho⟩ := hrd _ cs _ htr
        refine ⟨o, fun _ => ?_⟩
        rw [hC] at hc
        obtain ⟨_, _, hat⟩ := World.cells?_some hc
        obtain ⟨cs0, hc0, _⟩ := h5 0 (by omega)
        rw [hC] at hc0
        obtain ⟨_, hl0, hat0⟩ := World.cells?_some hc0
        have hz := hat0 0 (by omega)
        rw [List.getElem?_eq_getElem (by omega)] at hz
        have hs := spot_none hz
        obtain ⟨b, q, s⟩ := a
        have hs' : s = none := hs
        subst hs'
        exact ⟨b, q, rfl, ho b (q + i * 2) fun j hj => by have := hat j (by omega); rw [addr_add, addr_add] at this; exact this⟩
      · exact ⟨z, fun h => absurd h him⟩
    have hch : ∃ F : Nat → β, ∀ i, i < m → ∃ b q, a = ⟨b, q, none⟩ ∧ Rd w b (q + i * 2) (F i) := ⟨fun i => (key i).choose, fun i => (key i).choose_spec⟩
    obtain ⟨F, hF⟩ := hch
    refine ⟨some a, cap, (List.range len).map F, by simpa using h1, by simpa using h2, h3, fun k hk => ?_⟩
    rw [List.length_map, List.length_range] at hk
    obtain ⟨b, q, rfl, hc⟩ := hF k (by omega)
    refine ⟨b, q, rfl, ?_⟩
    rw [List.getElem?_map, List.getElem?_range hk]
    exact hc
end
set_option maxRecDepth 100000 in
/-- a mill that can be read -/
theorem pmill_reads {H : Type} {enc : TypeId × Value → H} {w : World} {base : Nat} {spare : Nat → Bool} {held : Bool} {r : Reach} {b0 : Nat} {v : Value} {d : DataW H} {p : List MemPlace} (hv : Value.okWide Tryz.prog w r b0 56 v) (h : DataW.Trod enc Tryz.prog w base spare held 56 v d p) : ∃ m, PMVal w v m := by
  obtain ⟨v0, v1, y0, y1, n, rfl, _, _, h0, h1⟩ := open_agg2 Tryz.underlying56 (by kernel_rfl) (by kernel_rfl) hv h
  obtain ⟨A1, c1, xs, rfl, q1, q2, q3⟩ := two_reads (default : Sh) ShCells Tryz.underlying53 (by kernel_rfl) (fun fuel cs y hy => by
    obtain ⟨o, rfl⟩ := sh_reads Tryz.underlying84 Tryz.underlying3 (by kernel_rfl) (by kernel_rfl) hy
    exact ⟨o, fun b q hj => ⟨hj 0 (by omega), hj 1 (by omega)⟩⟩) h0
  obtain ⟨A2, c2, ys, rfl, r1, r2, r3⟩ := two_reads (default : Wv) WvCells Tryz.underlying54 (by kernel_rfl) (fun fuel cs y hy => by
    obtain ⟨o, A, c, rfl, g1, g2, g3⟩ := wv_reads Tryz.underlying86 Tryz.underlying3 Tryz.underlying22 (by kernel_rfl) (by kernel_rfl) (by kernel_rfl) hy
    exact ⟨o, fun b q hj => ⟨A, c, ⟨g1, g2⟩, hj 0 (by omega), hj 1 (by omega), g3⟩⟩) h1
  exact ⟨⟨xs, ys⟩, A1, c1, A2, c2, rfl, q1, q2, r1, r2, q3, r3⟩
end Go.Proofs.Pet
