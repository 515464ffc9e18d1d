/- Joined texts: PG6, PG7, PG8. -/
import Derived.Test.YtjlglbhafopomaaGreatPG3
import Derived.Test.YtjlglbhafopomaaGreatPB9
import Derived.Test.YtjlglbhafopomaaGreatPB8
namespace Go.Proofs.Pet
set_option linter.unusedSimpArgs false
open Go Go.RowKit Go.Maps Go.Shelf
open Go.Proofs.Pow (PM Sh Wv POk Up bitsL lack addN addS partA partN costH)

/-- the costs of the first t groups by bits -/
def costL (m : PM) (t : Nat) : List Int := (List.range t).map fun s => costH m.wvs.length (Pow.spots m) s
theorem costL_succ (m : PM) (t : Nat) : costL m (t + 1) = costL m t ++ [costH m.wvs.length (Pow.spots m) t] := by
  unfold costL
  rw [List.range_succ, List.map_append]
  rfl
theorem costL_len (m : PM) (t : Nat) : (costL m t).length = t := by unfold costL; simp
theorem costL_at (m : PM) {t s : Nat} (h : s < t) : (costL m t)[s]?.getD 0 = costH m.wvs.length (Pow.spots m) s := by
  unfold costL
  rw [List.getElem?_map, List.getElem?_range h]; rfl
theorem cost_bits (m : PM) (t : Nat) : Pow.costF m (fun k => (ints (bitsL m.wvs.length t)).contains (k : Int)) = costH m.wvs.length (Pow.spots m) t := by
  rw [cost_ints, Pow.bits_cost]
set_option maxRecDepth 20000 in
set_option maxHeartbeats 4000000 in
theorem costs7_any (v : Value) (m : PM) (hm : POk m) (w : World) (hv : PMVal w v m) :
    Calls Tryz.prog 118 #[v] w fun e w' => ∃ u, e = .returned u ∧ OwnI w' w.heap.size 3 u (costL m (pw m.wvs.length)) ∧ Ext w w' := by
  obtain ⟨ti, hi, ht0, ht1, ht2⟩ := info_parts info_int
  have Hv := Lib.hid hv
  have hfew := hm.few
  obtain ⟨A1, c1, A2, c2, rfl, -, -, -, -, -, -⟩ := hv
  have hE := Ext.alloc w (.cells #[.slice A1 m.shafts.length c1, .slice A2 m.wvs.length c2] 54)
  have HM := Lib.hid (Blk.new w 54 #[.slice A1 m.shafts.length c1, .slice A2 m.wvs.length c2])
  have HV := Lib.hid (Hv.out.ext hE)
  have hszE := hE.size
  obtain ⟨S, hS⟩ : ∃ S, m.wvs.length = S := ⟨_, rfl⟩
  have Hco := Lib.hid (fun (t : Nat) (B : Option Addr) (d n2 : Nat) (hg : (ints (bitsL S t)).length = n2) (hn2 : n2 ≤ 100) (q : Int) (hq : costH S (Pow.spots m) t = q) (W : World) (hW : Ext (w.alloc (.cells #[.slice A1 m.shafts.length c1, .slice A2 m.wvs.length c2] 54)) W) (hB : IntsAt W B (ints (bitsL S t))) =>
    cost7_any _ m hm B d n2 _ hg (by have := ints_inG (m := m) (Pow.bitsL_up m.wvs.length t); rwa [hS] at this) hn2 q (by have := cost_bits m t; rw [hS] at this; exact this.trans hq) W (HV.out.ext hW) hB)
  obtain ⟨cl, hcl⟩ : ∃ cl, costL m = cl := ⟨_, rfl⟩
  have Hsc : Hid (∀ t, cl (t + 1) = cl t ++ [costH S (Pow.spots m) t]) := fun t => by rw [← hcl, ← hS]; exact costL_succ m t
  have Hln : Hid (∀ t, (cl t).length = t) := fun t => by rw [← hcl]; exact costL_len m t
  rw [hS, hcl]
  rw [hS] at hfew HM hE hszE Hco HV
  clear hm Hv hS hcl
  go_enter Tryz.func118, Tryz.ntmps118
  go_wp2_with fail
  generalize w.alloc _ = W_1 at *
  have hbS := pw_le (k := S) (by omega)
  go_loopw [3, 4] (fun x i wr => ∃ j : Nat, j ≤ S ∧ i = .int .i64 j ∧ x = .int .i64 (pw j : Nat) ∧ Ext W_1 wr) (fun _ i _ => S - (intOf i).toNat)
  case atStart => exact ⟨0, by omega, rfl, rfl, Ext.refl _⟩
  case round =>
    obtain ⟨j, hj, rfl, rfl, he⟩ := hrel
    obtain ⟨k0, k1⟩ := (HM.out.ext he).c2
    by_cases hlt : j < S
    · have hb := pw_le (k := j) (by omega)
      have hs : pw (j + 1) = 2 * pw j := rfl
      obtain ⟨x, hx⟩ : ∃ x, pw j = x := ⟨_, rfl⟩
      rw [hx] at hb hs ⊢
      have Hs := Lib.hid hs
      clear hx hs
      go_wp2_with fail
      go_roundw
      case rel => exact ⟨j + 1, by omega, by go_num, by rw [Hs.out]; go_num, he⟩
      case measure => simp [intOf]; omega
    · obtain rfl : j = S := by omega
      obtain ⟨P, hP⟩ : ∃ P, pw j = P := ⟨_, rfl⟩
      have HP := Lib.hid hP
      rw [hP] at hbS ⊢
      obtain ⟨wo, rfl⟩ : ∃ z, z = wr := ⟨_, rfl⟩
      clear hP hlt
      go_wp2_with fail
      clear k0 k1
      go_loopw [5, 6] (fun u i wr => ∃ t : Nat, t ≤ P ∧ i = .int .i64 t ∧ Hid (OwnI wr W_1.heap.size 3 u (cl t)) ∧ Ext W_1 wr) (fun _ i _ => P - (intOf i).toNat)
      case atStart =>
        refine ⟨0, by omega, rfl, ?_, he⟩
        have h0 := Hln.out 0
        rw [List.length_eq_zero_iff] at h0
        unfold Hid
        rw [h0]
        exact OwnI.nil _ _ _
      case round =>
        clear he
        obtain ⟨t, ht, rfl, hO, he⟩ := hrel
        by_cases hlt : t < P
        · obtain ⟨wq, rfl⟩ : ∃ z, z = wr := ⟨_, rfl⟩
          have hli := Lib.hid (fun W' => list_bits7 (n := j) (s := t) (by omega) (by rw [HP.out]; exact hlt) W')
          obtain ⟨xs, hxs⟩ : ∃ xs, cl t = xs := ⟨_, rfl⟩
          have hxl : xs.length = t := by rw [← hxs]; exact Hln.out t
          have hsc := Hsc.out t
          rw [hxs] at hsc
          rw [hxs] at hO
          obtain ⟨A9, c9, rfl⟩ := ownsRow_slice hO.out
          obtain ⟨q, hq⟩ : ∃ q, costH j (Pow.spots m) t = q := ⟨_, rfl⟩
          rw [hq] at hsc
          have Hq := Lib.hid hq; have HS := Lib.hid hsc
          have hxl2 : xs.length ≤ 100000 := by omega
          obtain ⟨k0, k1⟩ := (HM.out.ext he).c2
          have heq := he
          clear he hxs hsc hq hxl
          go_upto_region 10 with fail
          refine wp_region_chain 6 [(3, true), (4, true), (5, true)] [] (by kernel_rfl) (by kernel_rfl) (by kernel_rfl) ?_
          simp only [List.take, List.drop, fill, Act.put, List.setIfInBounds_toArray, List.set_cons_zero, List.set_cons_succ, Nat.reduceAdd]
          repeat (first
            | refine Floats.mut rfl ?_
            | (apply Floats.float rfl
               · intro x W he hd K Q hK
                 try (have he := he (by decide); have k0 := he.cell k0; have k1 := he.cell k1)
                 try simp only [edges, DepsE, List.filter_cons, List.filter_nil, Region.binds, if_true, and_true, true_and, upd, Nat.reduceEqDiff, if_false] at hd
                 try simp only [hd] at hK ⊢
                 have HK := Lib.hid hK; clear hK
                 go_wp2_with fail
                 exact HK.out))
          refine Floats.done fun W he hG => ?_
          refine Chain.cons _ rfl ?_
          intro x hd K Q hK
          try simp only [edges, DepsE, List.filter_cons, List.filter_nil, Region.binds, if_true, and_true, true_and, upd, Nat.reduceEqDiff, if_false] at hd
          try simp only [hd] at hK ⊢
          clear hd
          have HK := Lib.hid hK; clear hK
          go_wp2_with fail
          refine (hli.out W).mono ?_
          rintro e w5 ⟨uL, rfl, hOL, he5⟩
          have heA := he.trans he5
          obtain ⟨AL, cL, rfl⟩ := ownsRow_slice hOL
          obtain ⟨xn, hxn⟩ : ∃ xn, (ints (bitsL j t)).length = xn := ⟨_, rfl⟩
          have hxn14 : xn ≤ 100 := by
            rw [← hxn]; unfold ints; rw [List.length_map]
            exact Nat.le_trans (bits_len j t) (by omega)
          have hco := Lib.hid (Hco.out t AL cL xn hxn hxn14 q Hq.out w5 (heq.trans heA) hOL.sl.ints)
          rw [hxn]
          clear hOL hxn
          go_wp2_with fail
          refine HK.out _ _ (fun _ => heA) ?_
          clear HK
          refine Chain.cons _ rfl ?_
          intro x hd K Q hK
          try simp only [edges, DepsE, List.filter_cons, List.filter_nil, Region.binds, if_true, and_true, true_and, upd, Nat.reduceEqDiff, if_false] at hd
          try simp only [hd] at hK ⊢
          clear hd
          have HK := Lib.hid hK; clear hK
          go_wp2_with fail
          refine hco.out.mono ?_
          rintro e w6 ⟨rfl, he6⟩
          have heB := heA.trans he6
          clear hco
          go_wp2_with fail
          refine HK.out _ _ (fun _ => heB) ?_
          clear HK
          refine Chain.cons _ rfl ?_
          intro x hd K Q hK
          try simp only [edges, DepsE, List.filter_cons, List.filter_nil, Region.binds, if_true, and_true, true_and, upd, Nat.reduceEqDiff, if_false] at hd
          try simp only [hd] at hK ⊢
          clear hd
          have HK := Lib.hid hK; clear hK
          have hX := Ext.alloc w6 (.cells #[.int .i64 q] 3)
          have hsrc := Src.one w6 (.int .i64 q) 3
          have hOX := (hO.out.ext heB).ext hX
          have heC := heq.trans heB
          have hsz := heC.size
          have hszX := hX.size
          have Hw : Hid (∀ v' w', w'.ownsRow W_1.heap.size 3 1 v' (xs.length + 1) (xs.map (Value.int .i64) ++ [.int .i64 q]) → (w6.alloc (.cells #[.int .i64 q] 3)).grownBy w' (Value.slice A9 xs.length c9).ownBlock → OwnI w' W_1.heap.size 3 v' (xs ++ [q]) ∧ Ext W_1 w') := by
            intro v' w' hown hg
            exact ⟨by unfold OwnI; rw [List.length_append, List.map_append]; exact hown, ext_grown heC hg fun j hj => ((hO.out.ext heB).own_lt j hj).1⟩
          go_wp2_with fail
          refine HK.out _ _ (fun _ => heB.trans hX) ?_
          clear HK
          refine Chain.nil ?_
          simp only [upd, Nat.reduceEqDiff, if_false, if_true]
          clear k0 k1
          go_wp2_with (at_builtin; refine wpList_app rfl _ _ 31 rfl W_1.heap.size 3 ti (.int .i64 0) 1 8 Tryz.underlying31 hi ht0 ht1 ht2 rfl (by decide) (.slice A9 xs.length c9) xs.length _ rfl hOX (some ⟨w6.heap.size, 0, none⟩) 1 1 [.int .i64 q] rfl rfl hsrc ?c2 ?c3 ?c4 ?c5 ?_; (case c2 => (intro u hu; rw [List.mem_singleton] at hu; subst hu; rfl)); (case c3 => (unfold maxLen; omega)); (case c4 => omega); (case c5 => omega); intro v' w9 hown hg9 hblk; have HO := Lib.hid (Hw.out v' w9 hown hg9); clear hown hg9 hblk)
          go_roundw
          case rel => exact ⟨t + 1, by omega, by go_num, Lib.hid (by rw [HS.out]; exact HO.out.1), HO.out.2⟩
          case measure => simp [intOf]; omega
        · obtain rfl : t = P := by omega
          clear hlt
          go_wp2_with fail
          go_ret
          exact ⟨_, rfl, by rw [HP.out]; exact hO.out.mono hszE, hE.trans he⟩
end Go.Proofs.Pet

namespace Go.Proofs.Pet
set_option linter.unusedSimpArgs false
open Go Go.RowKit Go.Maps Go.Shelf
open Go.Proofs.Pow (PM Sh Wv POk Up bitsL lack addN addS partA partN costH roughB)

theorem ints_bit {n s k : Nat} (hk : k < n) : (ints (bitsL n s)).contains (k : Int) = s.testBit k := by
  rw [ints_contains, Pow.bits_contains hk]
theorem roughB_step (r : Nat) : roughB r + 720 * 12960 ≤ roughB (r + 1) := by
  have := Pow.roughB_nonneg r
  show _ ≤ 6 * (roughB r + 720 * 12960)
  omega
theorem addT_pw (n : Nat) (c : Nat → Int) (r s i k : Nat) : Pow.addT n c r s i k = addS n c i r (s + pw k) + if i = k then (addN n r (s + pw k) : Int) * (c (s + pw k) - c s) else 0 := by
  unfold Pow.addT
  rw [pw_pow]
  by_cases e : k = i
  · subst e; simp
  · rw [if_neg e, if_neg fun h => e h.symm]
set_option maxRecDepth 20000 in
set_option maxHeartbeats 4000000 in
theorem add7_any (n : Nat) (hn : n ≤ 6) (P : Nat) (hP : pw n = P) (A : Option Addr) (cA : Nat) (cs : List Int) (hcs : cs.length = P) (cst : Nat → Int) (hat : ∀ s, s < P → cs[s]?.getD 0 = cst s) (hcb : ∀ s, 0 ≤ cst s ∧ cst s ≤ 12960) (S : Nat) (w0 : World) (hA : IntsAt w0 A cs) (hS : w0.heap.size ≤ S) :
    ∀ (r s : Nat) (f : Nat → Int) (w : World), s < P → (lack n s).length = r → (∀ j, j < n → -(4000000000000 - 2 * roughB r) ≤ f j ∧ f j ≤ 4000000000000 - 2 * roughB r) → Ext w0 w → Row w S n f →
      Calls Tryz.prog 119 #[.slice A P cA, .slice (some ⟨S, 0, none⟩) n n, .int .i64 (s : Int), .int .i64 (n : Int)] w fun e w' => e = .returned (.int .i64 (addN n r s : Nat)) ∧ Row w' S n (fun j => f j + addS n cst j r s) ∧ Ext w0 w' := by
  have hPb := pw_le (show n ≤ 14 by omega)
  rw [hP] at hPb
  have HA := Lib.hid hA; have Hcs := Lib.hid hcs; have Hat := Lib.hid hat; have Hcb := Lib.hid hcb; have HP := Lib.hid hP
  clear hA hcs hat hcb hP
  intro r
  induction r with
  | zero =>
    intro s f w hs hl hf h0 hR
    have hfull : s = P - 1 := by
      have h2 : s < 2 ^ n := by rw [← pw_pow, HP.out]; exact hs
      have := (Pow.lack_full h2).1 hl
      rw [← pw_pow, HP.out] at this
      exact this
    have hd : ((s : Int) == (P : Int) - 1) = true := beq_iff_eq.2 (by omega)
    clear hf hl hfull
    go_enter Tryz.func119, Tryz.ntmps119
    go_wp2_with fail
    go_ret
    exact ⟨rfl, hR.congr fun j _ => by show f j = f j + 0; omega, h0⟩
  | succ r ih =>
    intro s f w hs hl hf h0 hR
    have Ih := Lib.hid ih
    have hne : s ≠ P - 1 := by
      intro h
      have h2 : s < 2 ^ n := by rw [← pw_pow, HP.out]; exact hs
      have := (Pow.lack_full h2).2 (by rw [← pw_pow, HP.out]; exact h)
      omega
    have hd : ((s : Int) == (P : Int) - 1) = false := beq_eq_false_iff_ne.2 (by omega)
    have Hl := Lib.hid hl; have Hf := Lib.hid hf
    have hr5 : r ≤ 5 := by
      have : (lack n s).length ≤ n := by unfold lack; exact Nat.le_trans (List.length_filter_le _ _) (by simp)
      omega
    clear hl hf ih hne
    go_enter Tryz.func119, Tryz.ntmps119
    go_wp2_with fail
    clear hd
    go_loopw [9, 10] (fun o kv wr => ∃ (k x : Nat), k ≤ n ∧ x ≤ 720 * k ∧ kv = .int .i64 k ∧ o = .int .i64 (x : Int) ∧ Hid (partN n r s k = x) ∧ Hid (Row wr S n fun j => f j + partA n cst r s j k) ∧ Ext w0 wr) (fun _ kv _ => n - (intOf kv).toNat)
    case atStart => exact ⟨0, 0, by omega, by omega, rfl, rfl, rfl, hR.congr fun j _ => by show f j = f j + 0; omega, h0⟩
    case round =>
      clear hR h0
      obtain ⟨k, xo, hk, hx, rfl, rfl, hpx, hR, he⟩ := hrel
      obtain ⟨wo, rfl⟩ : ∃ z, z = wr := ⟨_, rfl⟩
      by_cases hlt : k < n
      · have hli := Lib.hid (list_bits7 (n := n) (s := s) (by omega) (by rw [HP.out]; exact hs) wo)
        obtain ⟨q, hq⟩ : ∃ q, s.testBit k = q := ⟨_, rfl⟩
        have hcont : Hid ((ints (bitsL n s)).contains (k : Int) = q) := (ints_bit hlt).trans hq
        have hsN := Pow.partN_succ n r s k
        have hsA := fun j => Pow.partA_succ n cst r s j k
        rw [hq, hpx.out] at hsN
        simp only [hq] at hsA
        have HsN := Lib.hid hsN; have HsA := Lib.hid hsA
        have hdk : decide ((k : Int) < (n : Int)) = true := decide_eq_true (by omega)
        have hdk' : decide (k < n) = true := decide_eq_true hlt
        have Hq := Lib.hid hq
        clear hsN hsA hq hpx
        go_wp2_with fail
        refine hli.out.mono ?_
        rintro e w5 ⟨uL, rfl, hOL, he5⟩
        obtain ⟨AL, cL, rfl⟩ := ownsRow_slice hOL
        obtain ⟨xn, hxn⟩ : ∃ xn, (ints (bitsL n s)).length = xn := ⟨_, rfl⟩
        have hlm := hOL.sl.len_le
        rw [hxn] at hlm
        have hha := Lib.hid (has_any (k : Int) AL cL xn _ hxn q hcont.out w5 hlm hOL.sl.ints)
        rw [hxn]
        have heA := he.trans he5
        have hR5 := Lib.hid (hR.out.ext he5)
        clear hli hOL hxn hlm hR hcont
        go_wp2_with fail
        refine hha.out.mono ?_
        rintro e w6 ⟨rfl, rfl⟩
        clear hha
        cases q with
        | true =>
          have hN : Hid (partN n r s (k + 1) = xo) := HsN.out
          have hA' : Hid (∀ j, partA n cst r s j (k + 1) = partA n cst r s j k) := fun j => by rw [HsA.out]; simp
          clear HsN HsA
          go_wp2_with fail
          go_roundw
          case rel => exact ⟨k + 1, xo, by omega, by omega, by go_num, rfl, hN, hR5.out.congr fun j _ => by rw [hA'.out], heA⟩
          case measure => simp [intOf]; omega
        | false =>
          obtain ⟨p, hp⟩ : ∃ p, pw k = p := ⟨_, rfl⟩
          have hp2 : 2 ^ k = p := (pw_pow k).symm.trans hp
          have hb14 := pw_le (show k ≤ 14 by omega)
          rw [hp] at hb14
          have hlt2 : s + p < P := by
            have := Pow.lack_lt (n := n) (s := s) (k := k) (by rw [← pw_pow, HP.out]; exact hs) hlt Hq.out
            rw [hp2, ← pw_pow, HP.out] at this
            exact this
          have hll : (lack n (s + p)).length = r := by
            have := Pow.lack_len (n := n) (s := s) (k := k) (Pow.mem_lack.2 ⟨hlt, Hq.out⟩)
            rw [hp2, Hl.out] at this
            omega
          have hRr : roughB r + 720 * 12960 ≤ roughB (r + 1) := roughB_step r
          have hRr2 : 2 * roughB r ≤ roughB (r + 1) := by
            have := Pow.roughB_nonneg r
            show _ ≤ 6 * (roughB r + 720 * 12960)
            omega
          have hRt := Pow.roughB_top (r := r + 1) (by omega)
          have hRn := Pow.roughB_nonneg r
          have hpart := fun j => Pow.partA_bd hn Hcb.out j r s k (by omega) Hl.out
          have hih := Lib.hid (Ih.out (s + p) _ w5 hlt2 hll (fun j hj => by
            have h1 := Hf.out j hj
            have h2 := hpart j
            omega) heA hR5.out)
          have hadd := Pow.addS_bd hn Hcb.out k r (s + p) hll
          have hN2 : Hid (partN n r s (k + 1) = xo + addN n r (s + p)) := by
            unfold Hid
            rw [HsN.out, hp2]; simp
          have hA2 : Hid (∀ j, partA n cst r s j (k + 1) = partA n cst r s j k + (addS n cst j r (s + p) + if j = k then (addN n r (s + p) : Int) * (cst (s + p) - cst s) else 0)) := fun j => by
            rw [HsA.out, addT_pw, hp]; simp
          have hNb := Pow.partN_bd hn r s (k + 1) (by omega) Hl.out
          rw [hN2.out] at hNb
          have hNf : addN n r (s + p) ≤ 720 := by
            rw [Pow.addN_fac n r (s + p) hll]; exact Pow.fac_six (by omega)
          have c1 := Hcb.out (s + p)
          have c0 := Hcb.out s
          have hmul := Pow.mul_bd (a := (addN n r (s + p) : Int)) (b := cst (s + p) - cst s) (by omega) (by omega) (by omega) (by omega)
          have hxk : -(4000000000000 - 2 * roughB (r + 1)) - roughB (r + 1) - roughB r ≤ (f k + partA n cst r s k k) + addS n cst k r (s + p) ∧ (f k + partA n cst r s k k) + addS n cst k r (s + p) ≤ 4000000000000 - 2 * roughB (r + 1) + roughB (r + 1) + roughB r := by
            have h1 := Hf.out k hlt
            have h2 := hpart k
            omega
          have hbit := Lib.hid (fun W' => bit7_any k (by omega) W')
          rw [hp] at hbit
          have hc1 := Hat.out (s + p) hlt2
          have hc0 := Hat.out s hs
          clear hp2
          obtain ⟨an, han⟩ : ∃ an, addN n r (s + p) = an := ⟨_, rfl⟩
          rw [han] at hih hN2 hA2 hNb hNf hmul
          obtain ⟨d1, hd1⟩ : ∃ d1, cst (s + p) = d1 := ⟨_, rfl⟩
          obtain ⟨d0, hd0⟩ : ∃ d0, cst s = d0 := ⟨_, rfl⟩
          have Hd1 := Lib.hid hd1; have Hd0 := Lib.hid hd0
          rw [hd1] at hmul hc1 c1
          rw [hd0] at hmul hc0 c0
          obtain ⟨xk, hxke⟩ : ∃ xk, (f k + partA n cst r s k k) + addS n cst k r (s + p) = xk := ⟨_, rfl⟩
          rw [hxke] at hxk
          have Hxk := Lib.hid hxke
          have Hc1 := Lib.hid hc1; have Hc0 := Lib.hid hc0
          have hxkb : -5000000000000 ≤ xk ∧ xk ≤ 5000000000000 := by omega
          clear hxke hd1 hd0 han hp hpart hadd hRr hRr2 hRt hRn hxk hc1 hc0 hll HsN HsA Ih hR5
          go_wp2_with fail
          refine (hbit.out w5).mono ?_
          rintro e w6 ⟨rfl, rfl⟩
          go_wp2_with fail
          refine hih.out.mono ?_
          rintro e w7 ⟨rfl, hR7, he7⟩
          clear hih
          have hcell := hR7.cell hlt
          have hfr := hR7.frozen k
          rw [Hxk.out] at hcell
          obtain ⟨b, o, e0, q1⟩ := HA.out.ext he7 (s + p) (by rw [Hcs.out]; exact hlt2)
          obtain ⟨b', o', e1, q0⟩ := HA.out.ext he7 s (by rw [Hcs.out]; exact hs)
          subst e0
          cases e1
          rw [Hc1.out] at q1
          rw [Hc0.out] at q0
          have hsz7 := he7.size
          go_upto_region 9 with fail
          refine wp_region_tree 21 [(10, true)] [] (by kernel_rfl) (by kernel_rfl) (by kernel_rfl) (ds := [0, 1, 2, 3, 4, 5, 6, 7, 8, 9, 14, 15, 16, 17]) (by kernel_rfl) ?_
          simp only [List.take, List.drop, fill, Act.put, List.setIfInBounds_toArray, List.set_cons_zero, List.set_cons_succ, Nat.reduceAdd]
          repeat (first
            | (apply Unlock.float rfl
               · intro x W he hd K Qr hK
                 try (have he := he (by decide); have hcell := he.cell hcell; have q1 := he.cell q1; have q0 := he.cell q0)
                 try simp only [edges, DepsE, List.filter_cons, List.filter_nil, Region.binds, if_true, and_true, true_and, upd, Nat.reduceEqDiff, if_false] at hd
                 try simp only [hd] at hK ⊢
                 have HK := Lib.hid hK; clear hK
                 go_wp2_with fail
                 exact HK.out))
          refine Unlock.nil ?_
          intro W he hG
          refine Tree.next (ks := [(10, true)]) (by kernel_rfl) ?_
          refine TSteps.cons _ rfl ?_ trivial
          intro x hd K Qr hK
          try simp only [edges, DepsE, List.filter_cons, List.filter_nil, Region.binds, if_true, and_true, true_and, upd, Nat.reduceEqDiff, if_false] at hd
          try simp only [hd] at hK ⊢
          clear hd
          have HK := Lib.hid hK; clear hK
          go_wp2_with fail
          refine (hbit.out W).mono ?_
          rintro e w8 ⟨rfl, rfl⟩
          go_wp2_with fail
          refine HK.out _ _ (fun _ => he) ?_
          clear HK
          refine Unlock.of (ds := [11, 12, 13, 18, 19, 20]) (by kernel_rfl) ?_
          repeat (first
            | (apply Unlock.float rfl
               · intro x W he hd K Qr hK
                 try (have he := he (by decide); have q1 := he.cell q1)
                 try simp only [edges, DepsE, List.filter_cons, List.filter_nil, Region.binds, if_true, and_true, true_and, upd, Nat.reduceEqDiff, if_false] at hd
                 try simp only [hd] at hK ⊢
                 have HK := Lib.hid hK; clear hK
                 go_wp2_with fail
                 exact HK.out))
          refine Unlock.nil ?_
          refine Tree.nil (by kernel_rfl) ?_
          simp only [upd, Nat.reduceEqDiff, if_false, if_true]
          have hR8 := hR7.ext he
          have hcell8 := hR8.cell hlt
          have hfr8 := hR8.frozen k
          have hE8 := he7.trans he
          clear hcell hfr q1 q0
          go_wp2_with fail
          go_roundw
          case rel =>
            refine ⟨k + 1, xo + an, by omega, by omega, by go_num, by go_num, hN2, ?_, Below.setCell hE8 (p := ⟨S, k, none⟩) hS _⟩
            refine (hR8.set_ hlt (xk + (an : Int) * (d1 - d0))).congr fun j hj => ?_
            rw [hA2.out, Hd1.out, Hd0.out]
            by_cases e : j = k
            · subst e; rw [if_pos rfl, if_pos rfl, ← Hxk.out]; omega
            · rw [if_neg e, if_neg e]; omega
          case measure => simp [intOf]; omega
      · obtain rfl : k = n := by omega
        have hres : Hid (addN k (r + 1) s = xo) := hpx.out
        clear hlt
        go_wp2_with fail
        go_ret
        exact ⟨by rw [hres.out]; rfl, hR.out, he⟩
/-- the sums once the first i are shares -/
def shrT (m : PM) (i j : Nat) : Int := if j < i then Pow.shareP m j else addS m.wvs.length (costH m.wvs.length (Pow.spots m)) j m.wvs.length 0
set_option maxRecDepth 20000 in
set_option maxHeartbeats 4000000 in
theorem shares7_any (v : Value) (m : PM) (hm : POk m) (w : World) (hv : PMVal w v m) :
    Calls Tryz.prog 46 #[v] w fun e w' => ∃ u, e = .returned (.tuple #[u, .bool true]) ∧ OwnI w' w.heap.size 3 u ((List.range m.wvs.length).map (Pow.shareP m)) ∧ Ext w w' := by
  obtain ⟨ti, hi, hz0, hz1, hz2⟩ := info_parts info_int
  have Hv := Lib.hid hv
  have hfew := hm.few
  obtain ⟨A1, c1, A2, c2, rfl, -, -, -, -, -, -⟩ := hv
  have hE := Ext.alloc w (.cells #[.slice A1 m.shafts.length c1, .slice A2 m.wvs.length c2] 54)
  have HM := Lib.hid (Blk.new w 54 #[.slice A1 m.shafts.length c1, .slice A2 m.wvs.length c2])
  have HV := Lib.hid (Hv.out.ext hE)
  have hszE := hE.size
  have Hco := Lib.hid (costs7_any _ m hm _ HV.out)
  have Hord := Lib.hid (fun i (hi : i < m.wvs.length) => Pow.share_orders hm hi)
  have Hsh := Lib.hid (fun i (hi : i < m.wvs.length) => Pow.share_le hm hi)
  have Hat := Lib.hid (fun s (hs : s < pw m.wvs.length) => costL_at m hs)
  have Hcb := Lib.hid (Pow.costH_bd hm)
  have Hlen := Lib.hid (costL_len m (pw m.wvs.length))
  have HshrT : Hid (∀ i j, shrT m i j = if j < i then Pow.shareP m j else addS m.wvs.length (costH m.wvs.length (Pow.spots m)) j m.wvs.length 0) := fun i j => rfl
  obtain ⟨S, hS⟩ : ∃ S, m.wvs.length = S := ⟨_, rfl⟩
  obtain ⟨cst, hcst⟩ : ∃ cst, costH m.wvs.length (Pow.spots m) = cst := ⟨_, rfl⟩
  rw [hcst] at Hord Hat Hcb HshrT
  obtain ⟨cl, hcl⟩ : ∃ cl, costL m (pw m.wvs.length) = cl := ⟨_, rfl⟩
  rw [hcl] at Hco Hat Hlen
  rw [hS] at hfew HM hE hszE HV Hco Hord Hsh Hat Hlen HshrT ⊢
  have hfac := Pow.fac_pos S
  have hfac6 := Pow.fac_six hfew
  have Hon := Lib.hid (Pow.orders_fac S)
  clear hm Hv hS hcst hcl
  have hmk : ∀ W : World, (Instr.makeSlice 31 (.int .i64 (S : Int)) (.int .i64 (S : Int))).run Tryz.prog W = .ok (.slice (some ⟨W.heap.size, 0, none⟩) S S) (W.alloc (.cells (madeCells #[.int .i64 0] S) 3)) := by
    intro W
    have := run_make (P := Tryz.prog) W 31 3 ti _ Tryz.underlying31 hi hz0 .i64 .i64 S S (by omega) (by omega) (by rw [hz2]; omega) (by omega)
    simpa [hz1, Value.cells] using this
  clear hi hz0 hz1 hz2
  obtain ⟨k0, k1⟩ := HM.out.c2
  go_enter Tryz.func46, Tryz.ntmps46
  go_wp2_with fail
  generalize w.alloc _ = W at *
  refine Hco.out.mono ?_
  rintro e w1 ⟨uC, rfl, hOC, he1⟩
  obtain ⟨AC, cC, rfl⟩ := ownsRow_slice hOC
  have HC := Lib.hid hOC.sl.ints
  obtain ⟨P, hP⟩ : ∃ P, pw S = P := ⟨_, rfl⟩
  rw [hP] at Hat Hlen
  rw [Hlen.out]
  have HP := Lib.hid hP
  clear Hco k0 k1 hOC hP
  obtain ⟨k0, k1⟩ := (HM.out.ext he1).c2
  have hX := Ext.alloc w1 (.cells (madeCells #[.int .i64 0] S) 3)
  have hRow := Row.made (Blk.new w1 3 (madeCells #[.int .i64 0] S))
  have hE1 := hE.trans he1
  have he1X := he1.trans hX
  go_upto_region 3 with fail
  clear hmk k0 k1
  obtain ⟨R, hRe⟩ : ∃ R, w1.heap.size = R := ⟨_, rfl⟩
  rw [hRe] at hRow ⊢
  have hRl : w1.heap.size ≤ R := by omega
  have hadd := Lib.hid (add7_any S hfew P HP.out AC cC cl Hlen.out cst Hat.out Hcb.out R w1 HC.out hRl S 0 (fun _ => 0) _ (by have := pw_le (show S ≤ 14 by omega); rw [HP.out] at this; omega) (by rw [Pow.lack_zero, List.length_range]) (fun j hj => by have := Pow.roughB_top hfew; have := Pow.roughB_nonneg S; omega) hX hRow)
  generalize w1.alloc _ = w2 at *
  obtain ⟨k0, k1⟩ := (HM.out.ext he1X).c2
  clear hRe
  go_wp2_with fail
  refine hadd.out.mono ?_
  rintro e w3 ⟨rfl, hR3, he3⟩
  clear hadd k0 k1 hRow
  rw [Hon.out]
  obtain ⟨F, hF⟩ : ∃ F, Pow.fac S = F := ⟨_, rfl⟩
  rw [hF] at hfac hfac6 Hord ⊢
  have hR3' : Row w3 R S (shrT m 0) := hR3.congr fun j hj => by
    rw [HshrT.out, if_neg (by omega)]
    show 0 + addS S cst j S 0 = addS S cst j S 0
    omega
  clear hR3 hF
  go_wp2_with fail
  go_loopw [7] (fun iv wr => ∃ i : Nat, i ≤ S ∧ iv = .int .i64 i ∧ Row wr R S (shrT m i) ∧ Ext w1 wr) (fun iv _ => S - (intOf iv).toNat)
  case atStart => exact ⟨0, by omega, rfl, hR3', he3⟩
  case round =>
    clear hR3' he3
    obtain ⟨i, hi, rfl, hR, he⟩ := hrel
    by_cases hlt : i < S
    · have hcell := hR.cell hlt
      have hfr := hR.frozen i
      have hv := HshrT.out i i
      rw [if_neg (Nat.lt_irrefl i)] at hv
      rw [hv] at hcell
      have h60 := Hord.out i hlt
      have hsb := Hsh.out i hlt
      obtain ⟨a, ha⟩ : ∃ a, addS S cst i S 0 = a := ⟨_, rfl⟩
      obtain ⟨b, hb⟩ : ∃ b, Pow.shareP m i = b := ⟨_, rfl⟩
      rw [ha] at h60 hcell
      rw [hb] at h60 hsb
      have hb1 : 0 ≤ b * (F : Int) := Int.mul_nonneg hsb.1 (by omega)
      have hb2 : b * (F : Int) ≤ 777600 * 720 := by
        have h1 : b * (F : Int) ≤ b * 720 := Int.mul_le_mul_of_nonneg_left (by omega) hsb.1
        omega
      have ha1 : 0 ≤ a ∧ a ≤ 10000000 := by omega
      have hmod : Int.tmod (60 * a) (F : Int) = 0 := by rw [h60]; exact Int.mul_tmod_left b F
      have hdiv : Int.tdiv (60 * a) (F : Int) = b := by rw [h60]; exact Int.mul_tdiv_cancel b (by omega)
      have hF0 : ((F : Int) == 0) = false := beq_eq_false_iff_ne.2 (by omega)
      have hFn : (F : Int) ≠ 0 := by omega
      have hz : ((0 : Int) != 0) = false := rfl
      have Hb := Lib.hid hb
      clear h60 hv ha hb hb1 hb2
      go_wp2_with fail
      go_roundw
      case rel =>
        refine ⟨i + 1, by omega, by go_num, (hR.set_ hlt b).congr fun j hj => ?_, Below.setCell he (p := ⟨R, i, none⟩) hRl _⟩
        rw [HshrT.out, HshrT.out]
        by_cases e : j = i
        · subst e; rw [if_pos rfl, if_pos (by omega), Hb.out]
        · rw [if_neg e]
          by_cases h : j < i
          · rw [if_pos h, if_pos (by omega)]
          · rw [if_neg h, if_neg (by omega)]
      case measure => simp [intOf]; omega
    · obtain rfl : i = S := by omega
      have hsz := hE1.size
      have hO := (hR.congr (g := Pow.shareP m) fun j hj => by rw [HshrT.out, if_pos hj]).own (base := w.heap.size) (by omega) (by unfold maxLen; omega)
      have HO := Lib.hid hO
      clear hlt hO hR
      go_wp2_with fail
      go_ret2
      exact ⟨_, rfl, HO.out, hE1.trans he⟩
end Go.Proofs.Pet

namespace Go.Proofs.Pet
set_option linter.unusedSimpArgs false
open Go Go.RowKit Go.Maps Go.Shelf
open Go.Proofs.Pow (PM Sh Wv POk Up bitsL pickF costH)

theorem run_nil_eq (W : World) (A : Option Addr) (n c : Nat) : (binOp .eql 31 (.slice A n c) (.slice none 0 0)).run Tryz.prog W = .ok (.bool A.isNone) W := Lib.run_eql_slice_nil W 31 _ A _ _ 0 0 Tryz.underlying31
theorem run_nil_ne (W : World) (A : Option Addr) (n c : Nat) : (binOp .neq 31 (.slice A n c) (.slice none 0 0)).run Tryz.prog W = .ok (.bool (!A.isNone)) W := by
  simp only [binOp]
  simp [Op.equal, Op.maxDepth, Lib.run_equalIn_slice_nil W 9999 31 _ A n c 0 0 Tryz.underlying31]
theorem OwnI.some_ {W : World} {base : Nat} {A : Option Addr} {n c : Nat} {xs : List Int} (h : OwnI W base 3 (.slice A n c) xs) (hx : xs ≠ []) : ∃ a, A = some a := by
  rcases h.2 with ⟨_, h0⟩ | ⟨g, cap, cur, e1, _⟩
  · exact absurd (List.length_eq_zero_iff.1 h0) hx
  · simp only [Value.slice.injEq] at e1
    exact ⟨_, e1.1⟩
theorem shSum_take {sh : List Int} {l : List Nat} {j : Nat} (hj : j < l.length) : shSum sh (l.take (j + 1)) = shSum sh (l.take j) + sh[l[j]?.getD 0]?.getD 0 := by
  rw [take_snocN hj rfl, shSum_snoc]
/-- whether a group is better off, by its bits -/
theorem more_bits (m : PM) (sh : List Int) (t : Nat) : Pow.moreB m sh (bitsL m.wvs.length t) = decide (60 * costH m.wvs.length (Pow.spots m) t < shSum sh (bitsL m.wvs.length t)) := by
  unfold Pow.moreB
  rw [Pow.bits_cost]
  rfl
set_option maxRecDepth 20000 in
set_option maxHeartbeats 4000000 in
theorem better7_any (v : Value) (m : PM) (hm : POk m) (B : Option Addr) (cB n : Nat) (sh : List Int) (hsl : sh.length = n) (hnw : n = m.wvs.length) (hsb : ∀ x, x ∈ sh → 0 ≤ x ∧ x ≤ 1000000) (w : World) (hv : PMVal w v m) (hx : IntsAt w B sh) :
    Calls Tryz.prog 49 #[v, .slice B n cB] w fun e w' => ∃ u, e = .returned (.tuple #[u, .bool (pickF m.wvs.length (Pow.moreB m sh) (2 ^ m.wvs.length)).isSome]) ∧ OwnI w' w.heap.size 3 u (ints ((pickF m.wvs.length (Pow.moreB m sh) (2 ^ m.wvs.length)).getD [])) ∧ Ext w w' := by
  rw [← pw_pow]
  have Hv := Lib.hid hv
  have hfew := hm.few
  obtain ⟨A1, c1, A2, c2, rfl, -, -, -, -, -, -⟩ := hv
  have hE := Ext.alloc w (.cells #[.slice A1 m.shafts.length c1, .slice A2 m.wvs.length c2] 54)
  have HM := Lib.hid (Blk.new w 54 #[.slice A1 m.shafts.length c1, .slice A2 m.wvs.length c2])
  have HV := Lib.hid (Hv.out.ext hE)
  have HX := Lib.hid (hx.ext hE)
  have hszE := hE.size
  have Hco := Lib.hid (costs7_any _ m hm _ HV.out)
  have Hat := Lib.hid (fun s (hs : s < pw m.wvs.length) => costL_at m hs)
  have Hcb := Lib.hid (Pow.costH_bd hm)
  have Hlen := Lib.hid (costL_len m (pw m.wvs.length))
  have Hmb := Lib.hid (more_bits m sh)
  have Hp1 := Lib.hid (Pow.pick_one m sh m.wvs.length)
  have Hp0 := Lib.hid (Pow.more_nil m sh)
  have Hsl := Lib.hid hsl; have Hsb := Lib.hid hsb; have Hnw := Lib.hid hnw
  obtain ⟨S, hS⟩ : ∃ S, m.wvs.length = S := ⟨_, rfl⟩
  obtain ⟨cst, hcst⟩ : ∃ cst, costH m.wvs.length (Pow.spots m) = cst := ⟨_, rfl⟩
  rw [hcst] at Hat Hcb Hmb
  obtain ⟨cl, hcl⟩ : ∃ cl, costL m (pw m.wvs.length) = cl := ⟨_, rfl⟩
  rw [hcl] at Hco Hat Hlen
  obtain ⟨p, hp⟩ : ∃ p, Pow.moreB m sh = p := ⟨_, rfl⟩
  rw [hp] at Hmb Hp1 Hp0 ⊢
  rw [hS] at hfew HM hE hszE HV HX Hco Hat Hlen Hmb Hp1 Hnw ⊢
  have hn6 : n ≤ 6 := by have := Hnw.out; omega
  clear hm Hv hS hcst hcl hx hsl hsb hnw hp
  obtain ⟨k0, k1⟩ := HM.out.c2
  go_enter Tryz.func49, Tryz.ntmps49
  go_wp2_with fail
  generalize w.alloc _ = W at *
  refine Hco.out.mono ?_
  rintro e w1 ⟨uC, rfl, hOC, he1⟩
  obtain ⟨AC, cC, rfl⟩ := ownsRow_slice hOC
  have HC := Lib.hid hOC.sl.ints
  obtain ⟨P, hP⟩ : ∃ P, pw S = P := ⟨_, rfl⟩
  have hbP := pw_le (show S ≤ 14 by omega)
  rw [hP] at Hat Hlen hbP
  rw [Hlen.out]
  have HP := Lib.hid hP
  have hE1 := hE.trans he1
  have HX1 := Lib.hid (HX.out.ext he1)
  have hsz1 := he1.size
  clear Hco k0 k1 hOC hP HX HV HM
  go_wp2_with fail
  go_loopw [7, 8] (fun u tv wr => ∃ (t : Nat) (uv : Value), uv = u ∧ 1 ≤ t ∧ t ≤ P ∧ tv = .int .i64 t ∧ Hid (FndI wr W.heap.size uv (pickF S p t)) ∧ Ext w1 wr) (fun _ tv _ => P - (intOf tv).toNat)
  case atStart =>
    refine ⟨1, _, rfl, by omega, by omega, rfl, ?_, Ext.refl _⟩
    unfold Hid
    rw [Hp1.out]
    exact ⟨fun _ => rfl, fun l e => by cases e⟩
  case round =>
    obtain ⟨t, uv, rfl, ht1, ht, rfl, hF, he⟩ := hrel
    obtain ⟨wo, rfl⟩ : ∃ z, z = wr := ⟨_, rfl⟩
    by_cases hlt : t < P
    · have hli := Lib.hid (list_bits7 (n := S) (s := t) (by omega) (by rw [HP.out]; exact hlt) wo)
      have hne : bitsL S t ≠ [] := Pow.bits_ne (by omega) (by rw [← pw_pow, HP.out]; exact hlt)
      have hbl := bits_len S t
      have hbm : ∀ x, x ∈ bitsL S t → x < S := fun x hx => (Pow.mem_bitsL.1 hx).1
      have hs1 : pickF S p (t + 1) = if p (bitsL S t) && (match pickF S p t with | none => true | some x => Pow.before (bitsL S t) x) then some (bitsL S t) else pickF S p t := rfl
      have hmb := Hmb.out t
      obtain ⟨gl, hgl⟩ : ∃ gl, bitsL S t = gl := ⟨_, rfl⟩
      rw [hgl] at hne hbl hbm hs1 hmb hli
      obtain ⟨gn, hgn⟩ : ∃ gn, gl.length = gn := ⟨_, rfl⟩
      have hgn2 : (ints gl).length = gn := by unfold ints; rw [List.length_map]; exact hgn
      rw [hgn] at hbl
      have Hne := Lib.hid hne; have Hbm := Lib.hid hbm; have Hs1 := Lib.hid hs1; have Hmbt := Lib.hid hmb; have Hgn := Lib.hid hgn; have Hgn2 := Lib.hid hgn2
      have hd : decide ((t : Int) < (P : Int)) = true := decide_eq_true (by omega)
      have hd' : decide (t < P) = true := decide_eq_true hlt
      clear hne hbm hs1 hmb hgl hgn hgn2
      go_wp2_with fail
      refine hli.out.mono ?_
      rintro e w5 ⟨uL, rfl, hOL, he5⟩
      obtain ⟨AL, cL, rfl⟩ := ownsRow_slice hOL
      have HOL := Lib.hid hOL
      rw [Hgn2.out]
      have heA := he.trans he5
      clear hli hOL
      go_wp2_with fail
      go_loopw [10, 11] (fun sv jv wr => ∃ (j : Nat) (x : Int), j ≤ gn ∧ 0 ≤ x ∧ x ≤ 1000000 * j ∧ jv = .int .i64 j ∧ sv = .int .i64 x ∧ Hid (shSum sh (gl.take j) = x) ∧ Ext w5 wr) (fun _ jv _ => gn - (intOf jv).toNat)
      case atStart => exact ⟨0, 0, by omega, by omega, by omega, rfl, rfl, rfl, Ext.refl _⟩
      case round =>
        obtain ⟨j, x, hj, hx0, hx1, rfl, rfl, hsx, he2⟩ := hrel
        have heB := heA.trans he2
        by_cases hlj : j < gn
        · have hjl : Hid (j < gl.length) := by rw [Hgn.out]; exact hlj
          have hjl2 : Hid (j < (ints gl).length) := by rw [Hgn2.out]; exact hlj
          obtain ⟨b, o, rfl, q1⟩ := (HOL.out.sl.ints.ext he2) j hjl2.out
          obtain ⟨kk, hkk⟩ : ∃ kk, gl[j]?.getD 0 = kk := ⟨_, rfl⟩
          rw [ints_get gl hjl.out, hkk] at q1
          have hkS : kk < S := Hbm.out kk (by rw [← hkk]; simp [hjl.out])
          have hkn : kk < n := by rw [Hnw.out]; exact hkS
          have hkl : Hid (kk < sh.length) := by rw [Hsl.out]; exact hkn
          obtain ⟨b2, o2, rfl, q2⟩ := HX1.out.ext heB kk hkl.out
          obtain ⟨y, hy⟩ : ∃ y, sh[kk]?.getD 0 = y := ⟨_, rfl⟩
          have hyb := Hsb.out y (by rw [← hy]; simp [hkl.out])
          have hsc := shSum_take (sh := sh) hjl.out
          rw [hkk, hy, hsx.out] at hsc
          rw [hy] at q2
          have Hsc := Lib.hid hsc
          clear hsc hy hkk hsx hjl hjl2 hkl
          go_wp2_with fail
          go_roundw
          case rel => exact ⟨j + 1, x + y, by omega, by omega, by omega, by go_num, rfl, Hsc, he2⟩
          case measure => simp [intOf]; omega
        · obtain rfl : j = gn := by omega
          obtain ⟨wq, rfl⟩ : ∃ z, z = wr := ⟨_, rfl⟩
          have hfull : shSum sh gl = x := by
            have := hsx.out
            rwa [List.take_of_length_le (by rw [Hgn.out]; omega)] at this
          have hct : Hid (t < cl.length) := by rw [Hlen.out]; exact hlt
          obtain ⟨b, o, rfl, q1⟩ := HC.out.ext heB t hct.out
          rw [Hat.out t hlt] at q1
          have hcb := Hcb.out t
          have hmb := Hmbt.out
          rw [hfull] at hmb
          obtain ⟨cv, hcv⟩ : ∃ cv, cst t = cv := ⟨_, rfl⟩
          rw [hcv] at q1 hcb hmb
          obtain ⟨q, hq⟩ : ∃ q, p gl = q := ⟨_, rfl⟩
          have hqd : decide (60 * cv < x) = q := by rw [← hmb, hq]
          have hs1 := Hs1.out
          rw [hq] at hs1
          have Hs := Lib.hid hs1
          have hOq := Lib.hid (HOL.out.ext he2)
          have hFq := Lib.hid (hF.out.ext (he5.trans he2))
          have hszA := he.size
          obtain ⟨o1, ho1⟩ : ∃ o1, pickF S p t = o1 := ⟨_, rfl⟩
          have hpo : Hid (∀ x1, o1 = some x1 → x1 ≠ [] ∧ x1.length ≤ S) := fun x1 e => by
            rw [e] at ho1
            obtain ⟨h1, ⟨t', ht', rfl⟩, _⟩ := Pow.pickF_some ho1
            refine ⟨fun h => ?_, bits_len _ _⟩
            rw [h, Hp0.out] at h1
            cases h1
          rw [ho1] at Hs hFq
          clear hfull hmb hq hs1 hcv hsx hct HOL hF ho1 Hs1 Hmbt
          cases q with
          | false =>
            have hN : Hid (pickF S p (t + 1) = o1) := by unfold Hid; rw [Hs.out]; rfl
            clear Hs hpo
            go_wp2_with fail
            go_roundw
            case rel => exact ⟨t + 1, _, rfl, by omega, by omega, by go_num, by rw [hN.out]; exact hFq, heB⟩
            case measure => simp [intOf]; omega
          | true =>
            cases o1 with
            | none =>
              have hu := hFq.out.1 rfl
              subst hu
              have hN : Hid (pickF S p (t + 1) = some gl) := by unfold Hid; rw [Hs.out]; rfl
              have hnl := fun W => run_nil_eq W none 0 0
              have hno : (none : Option Addr).isNone = true := rfl
              have HW : Hid (OwnI wq W.heap.size 3 (.slice AL j cL) (ints gl)) := by
                have := hOq.out.mono (base' := W.heap.size) (by omega)
                rw [Hgn2.out] at this
                exact this
              clear Hs hpo hOq hFq
              go_wp2_with fail
              go_roundw
              case rel => exact ⟨t + 1, _, rfl, by omega, by omega, by go_num, by rw [hN.out]; exact ⟨fun e => (by cases e), fun l e => by rw [Option.some.injEq] at e; rw [← e]; exact HW.out⟩, heB⟩
              case measure => simp [intOf]; omega
            | some x1 =>
              have hO1 := hFq.out.2 x1 rfl
              obtain ⟨A3, c3, rfl⟩ := ownsRow_slice hO1
              obtain ⟨h1, h2⟩ := hpo.out x1 rfl
              obtain ⟨a3, rfl⟩ := hO1.some_ (by unfold ints; simpa using h1)
              obtain ⟨n3, hn3⟩ : ∃ n3, (ints x1).length = n3 := ⟨_, rfl⟩
              have hn3' : x1.length = n3 := by rw [← hn3]; unfold ints; rw [List.length_map]
              obtain ⟨q3, hq3⟩ : ∃ q3, Pow.before gl x1 = q3 := ⟨_, rfl⟩
              have hIL := hOq.out.sl.ints
              have hbf := Lib.hid (before7_any AL (some a3) cL c3 j n3 gl x1 Hgn.out hn3' q3 hq3 wq ⟨by omega, by omega⟩ hIL hO1.sl.ints)
              have hnl := fun W => run_nil_eq W (some a3) n3 c3
              have hno : (some a3 : Option Addr).isNone = false := rfl
              have hs1 := Hs.out
              simp only [hq3, Bool.true_and] at hs1
              have HW : Hid (OwnI wq W.heap.size 3 (.slice AL j cL) (ints gl)) := by
                have := hOq.out.mono (base' := W.heap.size) (by omega)
                rw [Hgn2.out] at this
                exact this
              have hFq2 : Hid (FndI wq W.heap.size (.slice (some a3) n3 c3) (some x1)) := by have := hFq.out; rw [hn3] at this; exact this
              have HS1 := Lib.hid hs1
              rw [hn3]
              clear Hs hpo hOq hFq hO1 h1 h2 hn3 hn3' hq3 hIL hs1
              cases q3 with
              | true =>
                have hN : Hid (pickF S p (t + 1) = some gl) := by unfold Hid; rw [HS1.out]; simp
                clear HS1
                go_wp2_with fail
                refine hbf.out.mono ?_
                rintro e w7 ⟨rfl, he7⟩
                clear hbf
                go_wp2_with fail
                go_roundw
                case rel => exact ⟨t + 1, _, rfl, by omega, by omega, by go_num, by rw [hN.out]; exact ⟨fun e => (by cases e), fun l e => by rw [Option.some.injEq] at e; rw [← e]; exact HW.out.ext he7⟩, heB.trans he7⟩
                case measure => simp [intOf]; omega
              | false =>
                have hN : Hid (pickF S p (t + 1) = some x1) := by unfold Hid; rw [HS1.out]; simp
                clear HS1
                go_wp2_with fail
                refine hbf.out.mono ?_
                rintro e w7 ⟨rfl, he7⟩
                clear hbf
                go_wp2_with fail
                go_roundw
                case rel => exact ⟨t + 1, _, rfl, by omega, by omega, by go_num, by rw [hN.out]; exact hFq2.out.ext he7, heB.trans he7⟩
                case measure => simp [intOf]; omega
    · obtain rfl : t = P := by omega
      obtain ⟨o1, ho1⟩ : ∃ o1, pickF S p t = o1 := ⟨_, rfl⟩
      have hpo : Hid (∀ x1, o1 = some x1 → x1 ≠ []) := fun x1 e h => by
        rw [e] at ho1
        obtain ⟨h1, _, _⟩ := Pow.pickF_some ho1
        rw [h, Hp0.out] at h1
        cases h1
      have HO1 := Lib.hid ho1
      rw [ho1] at hF
      clear ho1 hlt
      cases o1 with
      | none =>
        have hu := hF.out.1 rfl
        subst hu
        have hnl := fun W => run_nil_ne W none 0 0
        have hno : (!(none : Option Addr).isNone) = false := rfl
        clear hpo
        go_wp2_with fail
        go_ret2
        exact ⟨_, by rw [HP.out, HO1.out]; rfl, by rw [HP.out, HO1.out]; exact OwnI.nil _ _ _, hE1.trans he⟩
      | some x1 =>
        have hO1 := hF.out.2 x1 rfl
        obtain ⟨A3, c3, rfl⟩ := ownsRow_slice hO1
        obtain ⟨a3, rfl⟩ := hO1.some_ (by have := hpo.out x1 rfl; unfold ints; simpa using this)
        have hnl := fun W => run_nil_ne W (some a3) (ints x1).length c3
        have hno : (!(some a3 : Option Addr).isNone) = true := rfl
        have HO := Lib.hid (hO1.mono hszE)
        clear hpo hO1 hF
        go_wp2_with fail
        go_ret2
        exact ⟨_, by rw [HP.out, HO1.out]; rfl, by rw [HP.out, HO1.out]; exact HO.out, hE1.trans he⟩
set_option maxRecDepth 20000 in
set_option maxHeartbeats 4000000 in
theorem fair7_any (v : Value) (m : PM) (hm : POk m) (B : Option Addr) (cB n : Nat) (sh : List Int) (hsl : sh.length = n) (hnw : n = m.wvs.length) (hsb : ∀ x, x ∈ sh → 0 ≤ x ∧ x ≤ 1000000) (q : Bool) (hq : fairF m sh = q) (w : World) (hv : PMVal w v m) (hx : IntsAt w B sh) :
    Calls Tryz.prog 48 #[v, .slice B n cB] w fun e w' => e = .returned (.bool q) ∧ Ext w w' := by
  have Hv := Lib.hid hv
  have hfew := hm.few
  have Hm := Lib.hid hm
  obtain ⟨A1, c1, A2, c2, rfl, -, -, -, -, -, -⟩ := hv
  have hE := Ext.alloc w (.cells #[.slice A1 m.shafts.length c1, .slice A2 m.wvs.length c2] 54)
  have HM := Lib.hid (Blk.new w 54 #[.slice A1 m.shafts.length c1, .slice A2 m.wvs.length c2])
  have HV := Lib.hid (Hv.out.ext hE)
  have HX := Lib.hid (hx.ext hE)
  have Hsl := Lib.hid hsl; have Hsb := Lib.hid hsb; have Hnw := Lib.hid hnw
  have hn6 : n ≤ 6 := by omega
  have Hbe := Lib.hid (fun W (hW : Ext (w.alloc (.cells #[.slice A1 m.shafts.length c1, .slice A2 m.wvs.length c2] 54)) W) => better7_any _ m hm B cB n sh hsl hnw hsb W (HV.out.ext hW) (HX.out.ext hW))
  rw [Pow.pick_first] at Hbe
  obtain ⟨o1, ho1⟩ : ∃ o1, Pow.firstF m.wvs.length (Pow.moreB m sh) = o1 := ⟨_, rfl⟩
  have hqq : (o1.isNone && decide (sh.sum = 60 * Pow.costF m fun _ => true)) = q := by rw [← ho1]; exact hq
  rw [ho1] at Hbe
  obtain ⟨cA, hcA⟩ : ∃ cA, Pow.costF m (fun _ => true) = cA := ⟨_, rfl⟩
  have hcb := Pow.cost_bd hm (fun _ => true)
  rw [hcA] at hqq hcb
  have Hall : Hid (Pow.costF m (fun k => (Pow.allI m.wvs.length).contains (k : Int)) = cA) := (Pow.cost_all m).trans hcA
  have Hq := Lib.hid hqq
  clear hm Hv hx hsl hnw hsb ho1 hqq hq hcA
  go_enter Tryz.func48, Tryz.ntmps48
  go_wp2_with fail
  generalize w.alloc _ = W0 at *
  go_loopw [5, 6] (fun sv jv wr => ∃ (j : Nat) (x : Int), j ≤ n ∧ 0 ≤ x ∧ x ≤ 1000000 * j ∧ jv = .int .i64 j ∧ sv = .int .i64 x ∧ Hid ((sh.take j).sum = x) ∧ Ext W0 wr) (fun _ jv _ => n - (intOf jv).toNat)
  case atStart => exact ⟨0, 0, by omega, by omega, by omega, rfl, rfl, rfl, Ext.refl _⟩
  case round =>
    obtain ⟨j, y, hj, hx0, hx1, rfl, rfl, hsx, he⟩ := hrel
    by_cases hlj : j < n
    · have hjl : Hid (j < sh.length) := by rw [Hsl.out]; exact hlj
      obtain ⟨b2, o2, rfl, q2⟩ := HX.out.ext he j hjl.out
      obtain ⟨z, hz⟩ : ∃ z, sh[j]?.getD 0 = z := ⟨_, rfl⟩
      have hyb := Hsb.out z (by rw [← hz]; simp [hjl.out])
      have hsc := sum_take (l := sh) hjl.out
      rw [hz, hsx.out] at hsc
      rw [hz] at q2
      have Hsc := Lib.hid hsc
      clear hsc hz hsx hjl
      go_wp2_with fail
      go_roundw
      case rel => exact ⟨j + 1, y + z, by omega, by omega, by omega, by go_num, rfl, Hsc, he⟩
      case measure => simp [intOf]; omega
    · obtain rfl : j = n := by omega
      obtain ⟨wo, rfl⟩ : ∃ z, z = wr := ⟨_, rfl⟩
      have hfull : sh.sum = y := by
        have := hsx.out
        rwa [List.take_of_length_le (by rw [Hsl.out]; omega)] at this
      have hqd := Hq.out
      rw [hfull] at hqd
      have Hqd := Lib.hid hqd
      have hbe := Lib.hid (Hbe.out wo he)
      obtain ⟨k0, k1⟩ := (HM.out.ext he).c2
      clear hfull hqd hsx Hq hlj
      go_wp2_with fail
      refine hbe.out.mono ?_
      rintro e w1 ⟨uB, rfl, -, he1⟩
      have heA := he.trans he1
      clear hbe k0 k1
      obtain ⟨k0, k1⟩ := (HM.out.ext heA).c2
      cases o1 with
      | some x1 =>
        have hqf : q = false := by rw [← Hqd.out]; rfl
        have hs : (some x1 : Option (List Nat)).isSome = true := rfl
        subst hqf
        clear Hqd
        go_upto_region 7 with fail
        refine wp_region_tree 11 [(6, true), (7, true)] [] (by kernel_rfl) (by kernel_rfl) (by kernel_rfl) (ds := [0, 1, 2, 3, 4, 5]) (by kernel_rfl) ?_
        simp only [List.take, List.drop, fill, Act.put, List.setIfInBounds_toArray, List.set_cons_zero, List.set_cons_succ, Nat.reduceAdd]
        repeat (first
          | (apply Unlock.float rfl
             · intro x W he hd K Qr hK
               try (have he := he (by decide); have k0 := he.cell k0; have k1 := he.cell k1)
               try simp only [edges, DepsE, List.filter_cons, List.filter_nil, Region.binds, if_true, and_true, true_and, upd, Nat.reduceEqDiff, if_false] at hd
               try simp only [hd] at hK ⊢
               have HK := Lib.hid hK; clear hK
               go_wp2_with fail
               exact HK.out))
        refine Unlock.nil ?_
        intro W he hG
        refine Tree.next (ks := [(6, true)]) (by kernel_rfl) ?_
        refine TSteps.cons _ rfl ?_ trivial
        intro x hd K Qr hK
        try simp only [edges, DepsE, List.filter_cons, List.filter_nil, Region.binds, if_true, and_true, true_and, upd, Nat.reduceEqDiff, if_false] at hd
        try simp only [hd] at hK ⊢
        clear hd
        have HK := Lib.hid hK; clear hK
        go_wp2_with fail
        refine HK.out _ _ (fun _ => he) ?_
        clear HK
        refine Unlock.of (ds := []) (by kernel_rfl) ?_
        repeat (first
          | (apply Unlock.float rfl
             · intro x W he hd K Qr hK
               try (have he := he (by decide); skip)
               try simp only [edges, DepsE, List.filter_cons, List.filter_nil, Region.binds, if_true, and_true, true_and, upd, Nat.reduceEqDiff, if_false] at hd
               try simp only [hd] at hK ⊢
               have HK := Lib.hid hK; clear hK
               go_wp2_with fail
               exact HK.out))
        refine Unlock.nil ?_
        refine Tree.next (ks := [(7, true)]) (by kernel_rfl) ?_
        refine TSteps.cons _ rfl ?_ trivial
        intro x hd K Qr hK
        try simp only [edges, DepsE, List.filter_cons, List.filter_nil, Region.binds, if_true, and_true, true_and, upd, Nat.reduceEqDiff, if_false] at hd
        try simp only [hd] at hK ⊢
        clear hd
        have HK := Lib.hid hK; clear hK
        go_wp2_with fail
        refine HK.out _ _ (fun _ => he) ?_
        clear HK
        refine Unlock.of (ds := [8, 9, 10]) (by kernel_rfl) ?_
        repeat (first
          | (apply Unlock.float rfl
             · intro x W he hd K Qr hK
               try (have he := he (by decide); skip)
               try simp only [edges, DepsE, List.filter_cons, List.filter_nil, Region.binds, if_true, and_true, true_and, upd, Nat.reduceEqDiff, if_false] at hd
               try simp only [hd] at hK ⊢
               have HK := Lib.hid hK; clear hK
               go_wp2_with fail
               exact HK.out))
        refine Unlock.nil ?_
        refine Tree.nil (by kernel_rfl) ?_
        simp only [upd, Nat.reduceEqDiff, if_false, if_true]
        go_wp2_with fail
        go_ret
        exact ⟨rfl, hE.trans (heA.trans he)⟩
      | none =>
        have hqf : Hid (decide (y = 60 * cA) = q) := Hqd.out
        have hbq : (y == 60 * cA) = q := by
          rw [← hqf.out]
          by_cases h : y = 60 * cA
          · rw [decide_eq_true h, beq_iff_eq]; exact h
          · rw [decide_eq_false h]; exact beq_eq_false_iff_ne.2 h
        have hs : (none : Option (List Nat)).isSome = false := rfl
        clear Hqd hqf
        go_upto_region 7 with fail
        refine wp_region_tree 11 [(6, true), (7, true)] [] (by kernel_rfl) (by kernel_rfl) (by kernel_rfl) (ds := [0, 1, 2, 3, 4, 5]) (by kernel_rfl) ?_
        simp only [List.take, List.drop, fill, Act.put, List.setIfInBounds_toArray, List.set_cons_zero, List.set_cons_succ, Nat.reduceAdd]
        repeat (first
          | (apply Unlock.float rfl
             · intro x W he hd K Qr hK
               try (have he := he (by decide); have k0 := he.cell k0; have k1 := he.cell k1)
               try simp only [edges, DepsE, List.filter_cons, List.filter_nil, Region.binds, if_true, and_true, true_and, upd, Nat.reduceEqDiff, if_false] at hd
               try simp only [hd] at hK ⊢
               have HK := Lib.hid hK; clear hK
               go_wp2_with fail
               exact HK.out))
        refine Unlock.nil ?_
        intro W he hG
        refine Tree.next (ks := [(6, true)]) (by kernel_rfl) ?_
        refine TSteps.cons _ rfl ?_ trivial
        intro x hd K Qr hK
        try simp only [edges, DepsE, List.filter_cons, List.filter_nil, Region.binds, if_true, and_true, true_and, upd, Nat.reduceEqDiff, if_false] at hd
        try simp only [hd] at hK ⊢
        clear hd
        have HK := Lib.hid hK; clear hK
        go_wp2_with fail
        refine (all7_any _ m (by omega) W (HV.out.ext (heA.trans he))).mono ?_
        rintro e w12 ⟨u12, rfl, hO12, he12⟩
        obtain ⟨A7, c7, rfl, y1, y2, y3, -, -⟩ := hO12.open_
        have heB := he.trans he12
        have Y3 := Lib.hid y3
        clear y1 y2 y3 hO12
        go_wp2_with fail
        refine HK.out _ _ (fun _ => heB) ?_
        clear HK
        refine Unlock.of (ds := []) (by kernel_rfl) ?_
        repeat (first
          | (apply Unlock.float rfl
             · intro x W he hd K Qr hK
               try (have he := he (by decide); skip)
               try simp only [edges, DepsE, List.filter_cons, List.filter_nil, Region.binds, if_true, and_true, true_and, upd, Nat.reduceEqDiff, if_false] at hd
               try simp only [hd] at hK ⊢
               have HK := Lib.hid hK; clear hK
               go_wp2_with fail
               exact HK.out))
        refine Unlock.nil ?_
        refine Tree.next (ks := [(7, true)]) (by kernel_rfl) ?_
        refine TSteps.cons _ rfl ?_ trivial
        intro x hd K Qr hK
        try simp only [edges, DepsE, List.filter_cons, List.filter_nil, Region.binds, if_true, and_true, true_and, upd, Nat.reduceEqDiff, if_false] at hd
        try simp only [hd] at hK ⊢
        clear hd
        have HK := Lib.hid hK; clear hK
        go_wp2_with fail
        refine (cost7_any _ m Hm.out A7 c7 _ (Pow.allI m.wvs.length) rfl (Pow.all_in m) (by rw [allI_len]; omega) cA Hall.out w12 (HV.out.ext (heA.trans heB)) Y3.out).mono ?_
        rintro e w13 ⟨rfl, he13⟩
        have heC := heB.trans he13
        go_wp2_with fail
        refine HK.out _ _ (fun _ => heC) ?_
        clear HK
        refine Unlock.of (ds := [8, 9, 10]) (by kernel_rfl) ?_
        repeat (first
          | (apply Unlock.float rfl
             · intro x W he hd K Qr hK
               try (have he := he (by decide); skip)
               try simp only [edges, DepsE, List.filter_cons, List.filter_nil, Region.binds, if_true, and_true, true_and, upd, Nat.reduceEqDiff, if_false] at hd
               try simp only [hd] at hK ⊢
               have HK := Lib.hid hK; clear hK
               go_wp2_with fail
               exact HK.out))
        refine Unlock.nil ?_
        refine Tree.nil (by kernel_rfl) ?_
        simp only [upd, Nat.reduceEqDiff, if_false, if_true]
        go_wp2_with fail
        go_ret
        exact ⟨rfl, hE.trans (heA.trans heC)⟩
end Go.Proofs.Pet
