/-
  PowerHours walked.
-/
import Derived.Test.YtjlglbhafopomaaGreatPL1
namespace Go.Proofs.Pet
set_option linter.unusedSimpArgs false
open Go Go.RowKit Go.Maps Go.Shelf
open Go.Proofs.Pow (PM Sh Wv POk Up)

theorem wv_none {m : PM} (hm : MadeOk m) (h0 : m.wvs.length = 0) : useE m 0 0 = 1 ∧ extI m 0 0 = 0 := by
  have hc : checkP m = 0 := (checkP_iff m).2 hm.1
  have h1 : inB 0 0 ((m.wvs.length : Int) - 1) = false := by rw [h0]; rfl
  have hk : knownE m 0 = 1 := by unfold knownE; rw [if_neg (by simp [hc]), if_pos h1]
  have hu : useE m 0 0 = 1 := by unfold useE; rw [if_pos (by rw [hk]; decide), hk]
  exact ⟨hu, by unfold extI; rw [if_neg (by rw [hu]; decide)]⟩
theorem known_in {m : PM} (hm : MadeOk m) {k : Nat} (hk : k < m.wvs.length) : knownE m k = 0 := by
  have hc : checkP m = 0 := (checkP_iff m).2 hm.1
  unfold knownE
  rw [if_neg (by simp [hc]), if_neg (by rw [inB_iff.2 ⟨by omega, by omega⟩]; simp)]
theorem cheap_is {m : PM} (hm : MadeOk m) {k : Nat} (hk : k < m.wvs.length) : ∃ (a : Nat) (x : Int), cheapV m k = ((a : Int), x, 0) ∧ a < 24 ∧ (m.wv k).hours.contains (a : Int) = false ∧ ∀ h : Nat, h < 24 → (m.wv k).hours.contains (h : Int) = false → x ≤ Pow.extraF m k h ∧ (Pow.extraF m k h = x → a ≤ h) := by
  have h12 : (m.wv k).hours.contains ((12 : Nat) : Int) = false := by
    rw [← Bool.not_eq_true, List.contains_iff_mem]
    intro h
    have := hm.2 k hk _ h
    omega
  cases hc : Pow.cheapF m k with
  | none =>
    have := Pow.leastF_none.1 hc 12 (by decide)
    unfold Pow.offerF at this
    rw [h12] at this
    cases this
  | some b =>
    obtain ⟨a, x⟩ := b
    obtain ⟨g1, g2, g3⟩ := Pow.leastF_some hc
    refine ⟨a, x, ?_, g1, ?_, fun h hh hn => ?_⟩
    · unfold cheapV
      rw [if_neg (by simp [known_in hm hk]), show Pow.cheapF m (k : Int).toNat = some (a, x) from hc]
    · unfold Pow.offerF at g2
      cases hq : (m.wv k).hours.contains (a : Int) with
      | false => rfl
      | true => rw [hq] at g2; cases g2
    · have := g3 h (Pow.extraF m k h) hh (by unfold Pow.offerF; rw [hn]; rfl)
      exact this
theorem use_in {m : PM} (hm : MadeOk m) {k h : Nat} (hk : k < m.wvs.length) (hh : h < 24) : useE m k h = if (m.wv k).hours.contains (h : Int) then 5 else 0 := by
  unfold useE
  rw [if_neg (by simp [known_in hm hk]), if_neg (by rw [inB_iff.2 ⟨by omega, by omega⟩]; simp)]
  rfl
/-- what is summed up in the line -/
def wantF (m : PM) (h : Nat) (l : List Int) : Int := (l.map fun x => if Pow.runsB m x.toNat h then 0 else (m.sh x.toNat).price).sum
theorem wantF_snoc (m : PM) (h : Nat) (l : List Int) (x : Int) : wantF m h (l ++ [x]) = wantF m h l + if Pow.runsB m x.toNat h then 0 else (m.sh x.toNat).price := by simp [wantF]
theorem wantF_bounds {m : PM} (hm : POk m) (h : Nat) : ∀ {l : List Int}, (∀ y, y ∈ l → 0 ≤ y ∧ y < (m.shafts.length : Int)) → 0 ≤ wantF m h l ∧ wantF m h l ≤ 60 * (l.length : Int)
  | [], _ => by constructor <;> simp [wantF]
  | a :: l, hl => by
    have ih := wantF_bounds hm h (l := l) fun y hy => hl y (List.mem_cons_of_mem _ hy)
    have ha := hl a List.mem_cons_self
    have hp := hm.price a.toNat (by omega)
    have e : wantF m h (a :: l) = (if Pow.runsB m a.toNat h then 0 else (m.sh a.toNat).price) + wantF m h l := by simp [wantF]
    rw [e, List.length_cons]
    split <;> omega
theorem runsL_contains {m : PM} {h s : Nat} (hs : s < m.shafts.length) : (runsL m h m.shafts.length).contains (s : Int) = Pow.runsB m s h := by
  unfold runsL
  rw [ints_contains, Bool.eq_iff_iff, List.contains_iff_mem, List.mem_filter, List.mem_range]
  exact ⟨fun g => g.2, fun g => ⟨hs, g⟩⟩
theorem hours_law {m : PM} (hm : POk m) {k h : Nat} (hk : k < m.wvs.length) (hh : h < 24) (hn : (m.wv k).hours.contains (h : Int) = false) :
    POk (Pow.useP m k h) ∧ (∀ x, x < m.wvs.length → x ≠ k → Pow.shareP (Pow.useP m k h) x ≤ Pow.shareP m x) ∧
      ((List.range m.wvs.length).map fun x => Pow.shareP (Pow.useP m k h) x - Pow.shareP m x).sum = 60 * Pow.extraF m k h ∧ Pow.extraF m k h = wantF m h (m.line (m.wv k).shaft) := by
  have hu := Pow.use_used (m := m) (h := h) hk
  have hok := Pow.use_ok hm hk hh hn
  refine ⟨hok, fun x hx hne => hu.share hm hx hne, ?_, hu.extra hm hh⟩
  have h1 := hok.total
  have h2 := hm.total
  rw [Pow.useP_len] at h1
  have h3 : ∀ (l : List Nat) (f g : Nat → Int), (l.map fun x => f x - g x).sum = (l.map f).sum - (l.map g).sum := fun l f g => by
    induction l with
    | nil => simp
    | cons a l ih => simp only [List.map_cons, List.sum_cons, ih]; omega
  rw [h3, h1, h2]
  unfold Pow.extraF
  omega
/-- what comes to the shares of the first weavers -/
def sumD (m mu : PM) (j : Nat) : Int := ((List.range j).map fun x => Pow.shareP mu x - Pow.shareP m x).sum
theorem sumD_succ (m mu : PM) (j : Nat) : sumD m mu (j + 1) = sumD m mu j + (Pow.shareP mu j - Pow.shareP m j) := by simp [sumD, List.range_succ]
theorem sumD_bounds {m mu : PM} {j N : Nat} (hb : ∀ x, x < N → 0 ≤ Pow.shareP m x ∧ Pow.shareP m x ≤ 777600 ∧ 0 ≤ Pow.shareP mu x ∧ Pow.shareP mu x ≤ 777600) (hj : j ≤ N) : 0 ≤ sumD m mu j + 777600 * j ∧ sumD m mu j ≤ 777600 * j := by
  induction j with
  | zero => exact ⟨Int.le_refl 0, Int.le_refl 0⟩
  | succ j ih =>
    have h1 := ih (by omega)
    have h2 := hb j (by omega)
    rw [sumD_succ]
    omega
set_option maxRecDepth 100000 in
set_option maxHeartbeats 4000000 in
theorem powerHours_any (v : Value) (n1 n2 : Int) (w : World) (hv : BytesIn w v) (hn1 : 0 ≤ n1 ∧ n1 < 256) (hn2 : 0 ≤ n2 ∧ n2 < 256) :
    Calls Tryz.prog 10 #[v, .int .u8 n1, .int .u8 n2] w fun e w' => e = .returned (.bool true) ∧ Ext w w' := by
  have hwo := Lib.hid (wound_any v w hv)
  clear hv
  go_enter Tryz.func10, Tryz.ntmps10
  go_wp2_with fail
  refine hwo.out.mono ?_
  rintro e w1 ⟨rfl, hs1, he1⟩
  clear hwo
  have hma := Lib.hid (made7_any w.heap.size 0 (by omega) 6 (by omega) w1 hs1)
  go_wp2_with fail
  refine hma.out.mono ?_
  rintro e w2 ⟨mv, m, rfl, hO, hok, -, -, hap⟩
  have hE := Apart.ext_of he1 (Nat.le_refl _) hap
  have hml := hok.1.few
  have hval := hO.val
  obtain ⟨A1, c1, A2, c2, rfl, q1, q2, q3, q4, q5, q6⟩ := hO.val
  have hM := Blk.new w2 26 #[.slice A1 m.shafts.length c1, .slice A2 m.wvs.length c2]
  have hX := Ext.alloc w2 (.cells #[.slice A1 m.shafts.length c1, .slice A2 m.wvs.length c2] 26)
  have HV := Lib.hid (hval.ext hX)
  have hMw := hM
  have Hok := Lib.hid hok
  have HE := Lib.hid (hE.trans hX)
  have HW6 := Lib.hid (q6.ext hX)
  have HS5 := Lib.hid (q5.ext hX)
  obtain ⟨M, hMe⟩ : ∃ M, w2.heap.size = M := ⟨_, rfl⟩
  obtain ⟨k0, k1⟩ := hM.c2
  rw [hMe] at hMw k0 k1
  have HM := Lib.hid hMw
  clear hma hs1 he1 hap hok hval hO hM hMw hX hE q5 q6
  go_upto_region 2 with fail
  try rw [hMe]
  clear hMe
  generalize w2.alloc _ = w3 at *
  by_cases h0 : m.wvs.length = 0
  · have hd : ((m.wvs.length : Int) == 0) = true := by simp [h0]
    obtain ⟨g1, g2⟩ := wv_none Hok.out h0
    have hex := Lib.hid (Extra_any _ m 0 0 1 0 g1 g2 w3 HV.out)
    clear h0 g1 g2
    go_wp2_with fail
    refine hex.out.mono ?_
    rintro e w4 ⟨rfl, he4⟩
    have haw := Lib.hid (awake7_any w4)
    go_wp2_with fail
    refine haw.out.mono ?_
    rintro e w5 ⟨rfl, he5⟩
    go_wp2_with fail
    go_ret
    exact ⟨rfl, HE.out.trans (he4.trans he5)⟩
  · have hd : ((m.wvs.length : Int) == 0) = false := beq_eq_false_iff_ne.2 (by omega)
    have hn0 : (m.wvs.length : Int) ≠ 0 := by omega
    obtain ⟨kk, hkk⟩ : ∃ kk : Nat, n1.tmod (m.wvs.length : Int) = kk := ⟨_, (Int.toNat_of_nonneg (Int.tmod_nonneg _ hn1.1)).symm⟩
    have hkl : kk < m.wvs.length := by
      have := Int.tmod_lt_of_pos n1 (show (0 : Int) < (m.wvs.length : Int) by omega)
      rw [hkk] at this
      omega
    obtain ⟨hh, hhh⟩ : ∃ hh : Nat, n2.tmod 24 = hh := ⟨_, (Int.toNat_of_nonneg (Int.tmod_nonneg _ hn2.1)).symm⟩
    have hhl : hh < 24 := by
      have := Int.tmod_lt_of_pos n2 (show (0 : Int) < 24 by omega)
      rw [hhh] at this
      omega
    obtain ⟨la, lx, hch, hla, hlc, hlm⟩ := cheap_is Hok.out hkl
    obtain ⟨b2, o2, rfl, A3, c3, h3, j1, j2, j3⟩ := HW6.out kk hkl
    have hwv : m.wvs[kk]?.getD default = m.wv kk := rfl
    rw [hwv] at h3 j1 j2 j3
    have hue := use_in Hok.out hkl hhl
    obtain ⟨q, hq⟩ : ∃ q, (m.wv kk).hours.contains (hh : Int) = q := ⟨_, rfl⟩
    have hhlw := Hok.out.1
    obtain ⟨hl, hhl2⟩ : ∃ hl, (m.wv kk).hours.length = hl := ⟨_, rfl⟩
    rw [hhl2] at h3 j2
    have HL2 := Lib.hid hhl2
    have HJ3 := Lib.hid j3; have HJ2 := Lib.hid j2; have Hlm := Lib.hid hlm; have Hq := Lib.hid hq
    have hce := Lib.hid (Cheapest_any _ m kk la lx 0 hch w3 HV.out)
    have Hlc := Lib.hid hlc
    rw [hq] at hue
    clear hch hlm hq j1 j2 j3 hwv hlc hhlw hhl2
    have hlaf : decide ((la : Int) < 0) = false := by simp
    have hlag : decide (23 < (la : Int)) = false := by simp; omega
    go_wp2_with fail
    refine hce.out.mono ?_
    rintro e w4 ⟨rfl, he4⟩
    obtain ⟨k0', k1'⟩ := (HM.out.ext he4).c2
    have j2' := he4.cell HJ2.out
    have hct := Lib.hid (contains_any (la : Int) A3 c3 hl (m.wv kk).hours HL2.out false Hlc.out w4 (by rw [HL2.out]; exact Nat.le_trans h3.1 h3.2) (HJ3.out.ext he4))
    clear k0 k1 hce
    go_wp2_with fail
    refine hct.out.mono ?_
    rintro e w5 ⟨rfl, rfl⟩
    cases q with
    | true =>
      obtain ⟨mu, hmu⟩ : ∃ mu, useM m kk hh = mu := ⟨_, rfl⟩
      have hue : useE m kk hh = 5 := hue
      have hexe : extI m kk hh = 0 := by unfold extI; rw [if_neg (by rw [hue]; decide)]
      have hus := Lib.hid (Use_any _ m kk hh 5 mu hue hmu w4 (HV.out.ext he4))
      clear hct hmu
      go_wp2_with fail
      refine hus.out.mono ?_
      rintro e w5 ⟨uv, rfl, hO5, he5⟩
      have hE5 := he4.trans he5
      have hval5 := hO5.val
      obtain ⟨B1, e1, B2, e2, rfl, -⟩ := id hval5
      clear hus he4 k0' k1' j2' hO5
      have hX5 := Ext.alloc w5 (.cells #[.slice B1 mu.shafts.length e1, .slice B2 mu.wvs.length e2] 26)
      have hU := Blk.new w5 26 #[.slice B1 mu.shafts.length e1, .slice B2 mu.wvs.length e2]
      obtain ⟨k0, k1⟩ := ((HM.out.ext hE5).ext hX5).c2
      have HV6 := Lib.hid (hval5.ext hX5)
      have hE6 := hE5.trans hX5
      have hex := Lib.hid (Extra_any _ m kk hh 5 0 hue hexe _ (HV.out.ext hE6))
      have j2' := hE6.cell HJ2.out
      obtain ⟨U, hUe⟩ : ∃ U, w5.heap.size = U := ⟨_, rfl⟩
      rw [hUe] at hU
      have HU := Lib.hid hU
      clear hE5 he5 hval5 hX5 hU hue hexe
      go_upto_region 10 with fail
      try rw [hUe]
      clear hUe
      generalize w5.alloc _ = w6 at *
      go_wp2_with fail
      refine hex.out.mono ?_
      rintro e w7 ⟨rfl, he7⟩
      have hE7 := hE6.trans he7
      obtain ⟨k0', k1'⟩ := (HM.out.ext hE7).c2
      have j2'' := hE7.cell HJ2.out
      have hct := Lib.hid (contains_any (hh : Int) A3 c3 hl (m.wv kk).hours HL2.out true Hq.out w7 (by rw [HL2.out]; exact Nat.le_trans h3.1 h3.2) (HJ3.out.ext hE7))
      clear k0 k1 hex j2'
      go_wp2_with fail
      refine hct.out.mono ?_
      rintro e w8 ⟨rfl, rfl⟩
      have haw := Lib.hid (awake7_any w7)
      go_wp2_with fail
      refine haw.out.mono ?_
      rintro e w9 ⟨rfl, he9⟩
      go_wp2_with fail
      go_ret
      exact ⟨rfl, HE.out.trans (hE7.trans he9)⟩
    | false =>
      obtain ⟨mu, hmu⟩ : ∃ mu, useM m kk hh = mu := ⟨_, rfl⟩
      have hue : useE m kk hh = 0 := hue
      obtain ⟨ex, hexv⟩ : ∃ ex, Pow.extraF m kk hh = ex := ⟨_, rfl⟩
      have hexe : extI m kk hh = ex := by unfold extI; rw [if_pos hue]; exact hexv
      have hmu2 : mu = Pow.useP m kk hh := by rw [← hmu]; unfold useM; rw [if_pos hue]; rfl
      have Hmu2 := Lib.hid hmu2; have Hexv := Lib.hid hexv
      clear hmu2 hexv
      have hus := Lib.hid (Use_any _ m kk hh 0 mu hue hmu w4 (HV.out.ext he4))
      clear hct hmu
      go_wp2_with fail
      refine hus.out.mono ?_
      rintro e w5 ⟨uv, rfl, hO5, he5⟩
      have hE5 := he4.trans he5
      have hval5 := hO5.val
      obtain ⟨B1, e1, B2, e2, rfl, -⟩ := id hval5
      clear hus he4 k0' k1' j2' hO5
      have hX5 := Ext.alloc w5 (.cells #[.slice B1 mu.shafts.length e1, .slice B2 mu.wvs.length e2] 26)
      have hU := Blk.new w5 26 #[.slice B1 mu.shafts.length e1, .slice B2 mu.wvs.length e2]
      obtain ⟨k0, k1⟩ := ((HM.out.ext hE5).ext hX5).c2
      have HV6 := Lib.hid (hval5.ext hX5)
      have hE6 := hE5.trans hX5
      have hex := Lib.hid (Extra_any _ m kk hh 0 ex hue hexe _ (HV.out.ext hE6))
      have j2' := hE6.cell HJ2.out
      obtain ⟨U, hUe⟩ : ∃ U, w5.heap.size = U := ⟨_, rfl⟩
      rw [hUe] at hU
      have HU := Lib.hid hU
      clear hE5 he5 hval5 hX5 hU hue hexe
      go_upto_region 10 with fail
      try rw [hUe]
      clear hUe
      generalize w5.alloc _ = w6 at *
      go_wp2_with fail
      refine hex.out.mono ?_
      rintro e w7 ⟨rfl, he7⟩
      have hE7 := hE6.trans he7
      obtain ⟨k0', k1'⟩ := (HM.out.ext hE7).c2
      have j2'' := hE7.cell HJ2.out
      have hct := Lib.hid (contains_any (hh : Int) A3 c3 hl (m.wv kk).hours HL2.out false Hq.out w7 (by rw [HL2.out]; exact Nat.le_trans h3.1 h3.2) (HJ3.out.ext hE7))
      clear k0 k1 hex j2'
      go_wp2_with fail
      refine hct.out.mono ?_
      rintro e w8 ⟨rfl, rfl⟩
      -- <<B
      obtain ⟨hol, hno, hos, how⟩ := hours_law Hok.out.1 hkl hhl Hq.out
      rw [← Hmu2.out] at hol hos hno
      rw [Hexv.out] at hos how
      have hml2 : Hid (mu.wvs.length = m.wvs.length) := by unfold Hid; rw [Hmu2.out, Pow.useP_len]
      have hcm : checkP m = 0 := (checkP_iff m).2 Hok.out.1
      have hcu : checkP mu = 0 := (checkP_iff mu).2 hol
      have Hol := Lib.hid hol; have Hos := Lib.hid hos; have Hno := Lib.hid hno; have How := Lib.hid how
      have hle := Lib.hid (Hlm.out hh hhl Hq.out)
      rw [Hexv.out] at hle
      have hs1 := Lib.hid (shares_any _ m hcm w7 (HV.out.ext hE7))
      clear hct hol hos hno how j2''
      go_wp2_with fail
      refine hs1.out.mono ?_
      rintro e w8 ⟨S1, rfl, hR1, -, he8⟩
      have hU8 := HU.out.ext (he7.trans he8)
      obtain ⟨u0, u1⟩ := hU8.c2
      have hs2 := Lib.hid ((shares_any _ mu hcu w8 (HV6.out.ext (he7.trans he8))).mono (R' := fun e w' => ∃ S, e = .returned (.tuple #[.slice (some ⟨S, 0, none⟩) m.wvs.length m.wvs.length, .int .i64 0]) ∧ Row w' S m.wvs.length (Pow.shareP mu) ∧ w8.heap.size ≤ S ∧ Ext w8 w') (by
        rintro e w' ⟨S, rfl, g1, g2, g3⟩
        rw [hml2.out] at g1 ⊢
        exact ⟨S, rfl, g1, g2, g3⟩))
      have hE8 := hE7.trans he8
      clear hs1 hU8 he8 hE7 he7 hE6 k0' k1'
      go_wp2_with fail
      refine hs2.out.mono ?_
      rintro e w9 ⟨S2, rfl, hR2, -, he9⟩
      have hE9 := hE8.trans he9
      have HR1 := Lib.hid (hR1.ext he9)
      obtain ⟨k0, k1⟩ := (HM.out.ext hE9).c2
      have hru := Lib.hid (Runs_any _ m hh 0 (runsL m hh m.shafts.length) (by unfold runsE; rw [if_neg (by rw [hcm]; decide), if_neg (by rw [inB_iff.2 ⟨by omega, by omega⟩]; simp)]) (if_pos rfl) w9 (HV.out.ext hE9))
      clear hs2 u0 u1 he9 hE8 hR1
      go_wp2_with fail
      refine hru.out.mono ?_
      rintro e w10 ⟨rv, rfl, hO10, he10⟩
      have hE10 := hE9.trans he10
      obtain ⟨A4, c4, rfl, r1, r2, r3, -, -⟩ := hO10.open_
      have HR1' := Lib.hid (HR1.out.ext he10)
      have HR2 := Lib.hid (hR2.ext he10)
      obtain ⟨k0', k1'⟩ := (HM.out.ext hE10).c2
      obtain ⟨rl, hrl⟩ : ∃ rl, runsL m hh m.shafts.length = rl := ⟨_, rfl⟩
      rw [hrl] at r1 r3 ⊢
      have Hrl := Lib.hid hrl
      have Hr3 := Lib.hid r3
      obtain ⟨rn, hrn⟩ : ∃ rn, rl.length = rn := ⟨_, rfl⟩
      rw [hrn] at r1 ⊢
      have Hrn := Lib.hid hrn
      have hli := Lib.hid (Line_any _ m kk 0 (m.line (m.wv kk).shaft) (known_in Hok.out hkl) (if_pos rfl) w10 (HV.out.ext hE10))
      clear hru k0 k1 he10 hE9 hR2 HR1 r3 hO10 hrl hrn
      go_wp2_with fail
      refine hli.out.mono ?_
      rintro e w11 ⟨lv, rfl, hO11, he11⟩
      have hE11 := hE10.trans he11
      obtain ⟨A5, c5, rfl, l1, l2, l3, -, -⟩ := hO11.open_
      have HR1 := Lib.hid (HR1'.out.ext he11)
      have HR2' := Lib.hid (HR2.out.ext he11)
      obtain ⟨k0, k1⟩ := (HM.out.ext hE11).c2
      obtain ⟨ll, hll⟩ : ∃ ll, m.line (m.wv kk).shaft = ll := ⟨_, rfl⟩
      rw [hll] at l1 l3 ⊢
      rw [hll] at How
      have Hin : Hid (∀ x, x ∈ ll → 0 ≤ x ∧ x < m.shafts.length) := fun x hx => line_lt Hok.out.1 hkl (by rw [hll]; exact hx)
      obtain ⟨ln, hln⟩ : ∃ ln, ll.length = ln := ⟨_, rfl⟩
      rw [hln] at l1 ⊢
      have Hln := Lib.hid hln
      have Hl3 := Lib.hid l3
      have Hr4 := Lib.hid (Hr3.out.ext he11)
      have hln9 : ln ≤ 9 := by
        have hat := Hok.out.1.at_ kk hkl
        have hms := Hok.out.1.sz
        obtain ⟨z, hz⟩ : ∃ z : Nat, (m.wv kk).shaft = z := ⟨_, (Int.toNat_of_nonneg hat.1).symm⟩
        rw [hz] at hat hll
        have := line_len Hok.out.1.up z (by omega)
        rw [hll, hln] at this
        omega
      have hms := Hok.out.1.sz
      clear hli k0' k1' he11 hE10 HR1' HR2 l3 hO11 hll hln Hr3 hml2
      have hlen : ((m.wvs.length : Int) != (m.wvs.length : Int)) = false := by simp
      have hlt1 : decide (ex < lx) = false := by simpa using hle.out.1
      obtain ⟨q2, hq2⟩ : ∃ q2, (ex == lx) = q2 := ⟨_, rfl⟩
      have hlt2 : q2 = true → decide ((hh : Int) < (la : Int)) = false := fun h => by
        rw [h] at hq2
        have := hle.out.2 (by simpa using hq2)
        simpa using this
      go_upto_region 19 with fail
      go_cut [184] (fun s wx => s = .bool false ∧ w11 = wx)
      case first =>
        -- <<C1
        cases q2 with
        | true =>
          have hlt3 : decide (hh < la) = false := by simpa using hlt2 rfl
          clear hlt2
          go_wp2_with fail
          go_meet
          exact ⟨rfl, rfl⟩
        | false =>
          clear hlt2
          go_wp2_with fail
          go_meet
          exact ⟨rfl, rfl⟩
        -- >>
      case rest =>
        obtain ⟨rfl, rfl⟩ := hcut
        clear hq2 hlt2 hlt1 hlen
        have hsb : Hid (∀ x, x < m.wvs.length → 0 ≤ Pow.shareP m x ∧ Pow.shareP m x ≤ 777600 ∧ 0 ≤ Pow.shareP mu x ∧ Pow.shareP mu x ≤ 777600) := fun x hx => by
          have g1 := Hok.out.1.own hx
          have g2 := (Pow.cost_bounds Hok.out.1 (fun i => decide (i = x))).2
          have g3 := Hol.out.own (k := x) (by rw [Hmu2.out, Pow.useP_len]; exact hx)
          have g4 := (Pow.cost_bounds Hol.out (fun i => decide (i = x))).2
          exact ⟨Hok.out.1.nonneg x, by omega, Hol.out.nonneg x, by omega⟩
        have hJ0 : decide ((0 : Int) < 0) = false := rfl
        go_wp2_with fail
        go_loopw [26, 187] (fun s i wr => ∃ j : Nat, j ≤ m.wvs.length ∧ i = .int .i64 (j : Int) ∧ s = .int .i64 (sumD m mu j) ∧ Ext w11 wr) (fun s i _ => m.wvs.length - (intOf i).toNat)
        case atStart => exact ⟨0, Nat.zero_le _, rfl, rfl, Ext.refl _⟩
        case round =>
          obtain ⟨j, hj, rfl, rfl, heA⟩ := hrel
          have hsj := sumD_bounds hsb.out hj
          by_cases hlt : j < m.wvs.length
          · have a1 := (HR1.out.ext heA).cell hlt
            have a2 := (HR2'.out.ext heA).cell hlt
            have hbj := hsb.out j hlt
            have hsu := sumD_succ m mu j
            obtain ⟨x1, hx1⟩ : ∃ x1, Pow.shareP m j = x1 := ⟨_, rfl⟩
            obtain ⟨x2, hx2⟩ : ∃ x2, Pow.shareP mu j = x2 := ⟨_, rfl⟩
            rw [hx1] at a1 hbj hsu
            rw [hx2] at a2 hbj hsu
            obtain ⟨s0, hs0⟩ : ∃ s0, sumD m mu j = s0 := ⟨_, rfl⟩
            rw [hs0] at hsj hsu ⊢
            have Hsu := Lib.hid hsu
            have hgt : j ≠ kk → decide (x2 > x1) = false := fun h => by
              have := Hno.out j hlt h
              rw [hx1, hx2] at this
              simpa using this
            clear hx1 hx2 hs0 hsu
            go_upto_region 25 with fail
            refine wp_region_chain 11 [] [] (by kernel_rfl) (by kernel_rfl) (by kernel_rfl) ?_
            simp only [List.take, List.drop, fill, Act.put, List.setIfInBounds_toArray, List.set_cons_zero, List.set_cons_succ, Nat.reduceAdd]
            repeat (first
              | refine Floats.mut rfl ?_
              | (apply Floats.float rfl
                 · intro x W he hd K Q hK
                   try (have he := he (by decide); have a1 := he.cell a1; have a2 := he.cell a2)
                   try simp only [edges, DepsE, List.filter_cons, List.filter_nil, Region.binds, if_true, and_true, true_and, upd, Nat.reduceEqDiff, if_false] at hd
                   try simp only [hd] at hK ⊢
                   have HK := Lib.hid hK; clear hK
                   go_wp2_with fail
                   exact HK.out))
            refine Floats.done fun W he hG => ?_
            refine Chain.nil ?_
            simp only [upd, Nat.reduceEqDiff, if_false, if_true]
            have heB := heA.trans he
            have b1 := he.cell a1
            have b2 := he.cell a2
            clear a1 a2 he heA hG
            go_upto_region 26 with fail
            by_cases hjk : j = kk
            -- <<R1
            · have ht1 : ((j : Int) != (kk : Int)) = false := by simp [hjk]
              clear hgt hjk
              refine wp_region_chain 14 [] [] (by kernel_rfl) (by kernel_rfl) (by kernel_rfl) ?_
              simp only [List.take, List.drop, fill, Act.put, List.setIfInBounds_toArray, List.set_cons_zero, List.set_cons_succ, Nat.reduceAdd]
              repeat (first
                | refine Floats.mut rfl ?_
                | (apply Floats.float rfl
                   · intro x W he hd K Q hK
                     try (have he := he (by decide); have b1 := he.cell b1; have b2 := he.cell b2)
                     try simp only [edges, DepsE, List.filter_cons, List.filter_nil, Region.binds, if_true, and_true, true_and, upd, Nat.reduceEqDiff, if_false] at hd
                     try simp only [hd] at hK ⊢
                     have HK := Lib.hid hK; clear hK
                     go_wp2_with fail
                     exact HK.out))
              refine Floats.done fun W he hG => ?_
              refine Chain.nil ?_
              simp only [upd, Nat.reduceEqDiff, if_false, if_true]
              go_wp2_with fail
              go_roundw
              case rel => exact ⟨j + 1, by omega, by go_num, by rw [Hsu.out], heB.trans he⟩
              case measure => simp [intOf]; omega
            -- >>
            · -- <<R2
              have ht1 : ((j : Int) != (kk : Int)) = true := by simp; omega
              have ht2 := hgt hjk
              clear hgt hjk
              refine wp_region_chain 14 [] [] (by kernel_rfl) (by kernel_rfl) (by kernel_rfl) ?_
              simp only [List.take, List.drop, fill, Act.put, List.setIfInBounds_toArray, List.set_cons_zero, List.set_cons_succ, Nat.reduceAdd]
              repeat (first
                | refine Floats.mut rfl ?_
                | (apply Floats.float rfl
                   · intro x W he hd K Q hK
                     try (have he := he (by decide); have b1 := he.cell b1; have b2 := he.cell b2)
                     try simp only [edges, DepsE, List.filter_cons, List.filter_nil, Region.binds, if_true, and_true, true_and, upd, Nat.reduceEqDiff, if_false] at hd
                     try simp only [hd] at hK ⊢
                     have HK := Lib.hid hK; clear hK
                     go_wp2_with fail
                     exact HK.out))
              refine Floats.done fun W he hG => ?_
              refine Chain.nil ?_
              simp only [upd, Nat.reduceEqDiff, if_false, if_true]
              go_wp2_with fail
              go_roundw
              case rel => exact ⟨j + 1, by omega, by go_num, by rw [Hsu.out], heB.trans he⟩
              case measure => simp [intOf]; omega
              -- >>
          · -- <<L2
            have hje : j = m.wvs.length := by omega
            subst hje
            have hsf : sumD m mu m.wvs.length = 60 * ex := Hos.out
            rw [hsf]
            have hexb : 60 * ex ≤ 4665600 ∧ -4665600 ≤ 60 * ex := by
              rw [hsf] at hsj
              omega
            clear hsf hsj
            go_wp2_with fail
            go_loopw [27, 29, 218] (fun f s i wr => ∃ (j : Nat) (fb : Bool), j ≤ ln ∧ i = .int .i64 (j : Int) ∧ s = .int .i64 (wantF m hh (ll.take j)) ∧ f = .bool fb ∧ Hid (fb = true → wantF m hh (ll.take j) = 0) ∧ Ext w11 wr) (fun f s i _ => ln - (intOf i).toNat)
            case atStart => exact ⟨0, true, Nat.zero_le _, rfl, rfl, rfl, (fun _ => rfl), heA⟩
            case round =>
              clear heA
              obtain ⟨j, fb, hj, rfl, rfl, rfl, hfb, heA⟩ := hrel
              by_cases hlt : j < ln
              · obtain ⟨b5, o5, rfl, l5⟩ := Hl3.out.ext heA j (by rw [Hln.out]; exact hlt)
                obtain ⟨x, hx⟩ : ∃ x, ll[j]? = some x := ⟨_, List.getElem?_eq_getElem (by rw [Hln.out]; exact hlt)⟩
                rw [hx] at l5
                have hxm : x ∈ ll := List.mem_of_getElem? hx
                have hxl := Hin.out x hxm
                obtain ⟨xx, rfl⟩ : ∃ xx : Nat, x = xx := ⟨x.toNat, by omega⟩
                have hxx : xx < m.shafts.length := by omega
                have htk : ll.take (j + 1) = ll.take j ++ [(xx : Int)] := by rw [List.take_add_one, hx]; rfl
                have hws := wantF_snoc m hh (ll.take j) (xx : Int)
                rw [← htk, Int.toNat_natCast] at hws
                have hwb := wantF_bounds Hok.out.1 hh (l := ll.take j) fun y hy => Hin.out y (List.mem_of_mem_take hy)
                have hwl : (ll.take j).length = j := by rw [List.length_take, Hln.out]; omega
                rw [hwl] at hwb
                have hpr := Hok.out.1.price xx hxx
                obtain ⟨b1, o1, rfl, s1, s2⟩ := HS5.out.ext (hE11.trans heA) xx hxx
                have hsh : m.shafts[xx]?.getD default = m.sh xx := rfl
                rw [hsh] at s1 s2
                obtain ⟨pr, hpe⟩ : ∃ pr, (m.sh xx).price = pr := ⟨_, rfl⟩
                rw [hpe] at s2 hpr hws
                obtain ⟨q, hq⟩ : ∃ q, Pow.runsB m xx hh = q := ⟨_, rfl⟩
                rw [hq] at hws
                have hqc : rl.contains (xx : Int) = q := by rw [← Hrl.out, runsL_contains hxx, hq]
                obtain ⟨w0, hw0⟩ : ∃ w0, wantF m hh (ll.take j) = w0 := ⟨_, rfl⟩
                rw [hw0] at hws hwb hfb ⊢
                obtain ⟨k0', k1'⟩ := (HM.out.ext (hE11.trans heA)).c2
                have hct := Lib.hid (contains_any (xx : Int) A4 c4 rn rl Hrn.out q hqc wr (by rw [Hrn.out]; exact Nat.le_trans r1 r2) (Hr4.out.ext heA))
                have Hws := Lib.hid hws
                clear hws hqc hq hpe hw0 hwl htk hxm hx k0 k1 s1
                go_wp2_with fail
                refine hct.out.mono ?_
                rintro e wy ⟨rfl, rfl⟩
                cases q with
                | true =>
                  cases fb with
                  | true =>
                    go_wp2_with fail
                    refine hct.out.mono ?_
                    rintro e wy ⟨rfl, rfl⟩
                    go_wp2_with fail
                    go_roundw
                    case rel => exact ⟨j + 1, true, by omega, by go_num, by rw [Hws.out]; simp, rfl, (fun _ => by
                      have h0 : w0 = 0 := by simpa using hfb.out
                      rw [Hws.out, h0]; simp), heA⟩
                    case measure => simp [intOf]; omega
                  | false =>
                    go_wp2_with fail
                    go_roundw
                    case rel => exact ⟨j + 1, false, by omega, by go_num, by rw [Hws.out]; simp, rfl, (fun h => by cases h), heA⟩
                    case measure => simp [intOf]; omega
                | false =>
                  cases fb with
                  | true =>
                    go_wp2_with fail
                    refine hct.out.mono ?_
                    rintro e wy ⟨rfl, rfl⟩
                    go_wp2_with fail
                    go_roundw
                    case rel => exact ⟨j + 1, false, by omega, by go_num, by rw [Hws.out]; simp, rfl, (fun h => by cases h), heA⟩
                    case measure => simp [intOf]; omega
                  | false =>
                    go_wp2_with fail
                    go_roundw
                    case rel => exact ⟨j + 1, false, by omega, by go_num, by rw [Hws.out]; simp, rfl, (fun h => by cases h), heA⟩
                    case measure => simp [intOf]; omega
              · have hje : j = ln := by omega
                subst hje
                have htk : ll.take j = ll := List.take_of_length_le (by rw [Hln.out]; exact Nat.le_refl _)
                rw [htk] at hfb ⊢
                rw [← How.out] at hfb ⊢
                have h1 : (60 * ex == 60 * ex) = true := by simp
                have h2 : (ex == ex) = true := by simp
                have haw := Lib.hid (awake7_any wr)
                clear htk k0 k1
                cases fb with
                | true =>
                  have h3 : (ex == 0) = true := by rw [hfb.out rfl]; rfl
                  go_wp2_with fail
                  refine haw.out.mono ?_
                  rintro e wy ⟨rfl, hey⟩
                  go_wp2_with fail
                  go_ret
                  exact ⟨rfl, HE.out.trans ((hE11.trans heA).trans hey)⟩
                | false =>
                  go_wp2_with fail
                  refine haw.out.mono ?_
                  rintro e wy ⟨rfl, hey⟩
                  go_wp2_with fail
                  go_ret
                  exact ⟨rfl, HE.out.trans ((hE11.trans heA).trans hey)⟩
            -- >>
      -- >>
end Go.Proofs.Pet
