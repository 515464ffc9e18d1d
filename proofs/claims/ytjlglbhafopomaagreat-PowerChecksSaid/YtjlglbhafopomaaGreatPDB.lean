/-
  PowerAlone walked.
-/
import Derived.Test.YtjlglbhafopomaaGreatPDA
import Derived.Test.YtjlglbhafopomaaGreatPC5
import Derived.Test.YtjlglbhafopomaaGreatS18
namespace Go.Proofs.Pet
set_option linter.unusedSimpArgs false
open Go Go.RowKit Go.Maps Go.Shelf
open Go.Proofs.Pow (PM Sh Wv POk Up)

theorem cost_one (m : PM) (k : Nat) : (Pow.costF m fun i => ([(k : Int)] : List Int).contains (i : Int)) = Pow.costF m fun i => decide (i = k) :=
  Pow.costQ_congr fun i _ => by
    rw [Bool.eq_iff_iff, List.contains_iff_mem, List.mem_singleton, decide_eq_true_eq]
    omega
theorem wv_same {m : PM} {i k : Nat} (h1 : (m.wv i).shaft = (m.wv k).shaft) (h2 : (m.wv i).hours = (m.wv k).hours) : Pow.shareP m i = Pow.shareP m k := by
  refine Pow.share_same ?_
  cases hi : m.wv i
  cases hk : m.wv k
  rw [hi, hk] at h1 h2
  simp only at h1 h2
  rw [h1, h2]
set_option maxRecDepth 100000 in
set_option maxHeartbeats 16000000 in
theorem powerAlone_any (v : Value) (n1 : Int) (w : World) (hv : BytesIn w v) (hn1 : 0 ≤ n1 ∧ n1 < 256) :
    Calls Tryz.prog 6 #[v, .int .u8 n1] w fun e w' => e = .returned (.bool true) ∧ Ext w w' := by
  have hwo := Lib.hid (wound_any v w hv)
  clear hv
  go_enter Tryz.func6, Tryz.ntmps6
  go_wp2_with fail
  refine hwo.out.mono ?_
  rintro e w1 ⟨rfl, hs1, he1⟩
  clear hwo
  have hma := Lib.hid (made7_any w.heap.size 0 (by omega) 6 (by omega) w1 hs1)
  go_wp2_with fail
  refine hma.out.mono ?_
  rintro e w2 ⟨mv, m, rfl, hO, hok, -, -, hap⟩
  have hE := Apart.ext_of he1 (Nat.le_refl _) hap
  have hml := hok.1.few
  have hms := hok.1.sz
  have hval := hO.val
  obtain ⟨A1, c1, A2, c2, rfl, q1, q2, q3, q4, q5, q6⟩ := hO.val
  have hM := Blk.new w2 26 #[.slice A1 m.shafts.length c1, .slice A2 m.wvs.length c2]
  have hX := Ext.alloc w2 (.cells #[.slice A1 m.shafts.length c1, .slice A2 m.wvs.length c2] 26)
  have HV := Lib.hid (hval.ext hX)
  have HW6 := Lib.hid (q6.ext hX)
  have hMw := hM
  have Hok := Lib.hid hok.1
  have hcm : checkP m = 0 := (checkP_iff m).2 hok.1
  have HE := Lib.hid (hE.trans hX)
  obtain ⟨M, hMe⟩ : ∃ M, w2.heap.size = M := ⟨_, rfl⟩
  obtain ⟨k0, k1⟩ := hM.c2
  rw [hMe] at hMw k0 k1
  have HM := Lib.hid hMw
  clear hma hs1 he1 hap hok hval hO hM hMw hX hE q5 q6 q1 q2 q3 q4
  go_upto_region 2 with fail
  try rw [hMe]
  clear hMe
  generalize w2.alloc _ = w3 at *
  have hsh := Lib.hid (shares_any _ m hcm w3 HV.out)
  go_wp2_with fail
  refine hsh.out.mono ?_
  rintro e w4 ⟨S, rfl, hR, -, he4⟩
  obtain ⟨k0', k1'⟩ := (HM.out.ext he4).c2
  have hlen : ((m.wvs.length : Int) != (m.wvs.length : Int)) = false := by simp
  have HR := Lib.hid hR
  have Hbd : Hid (∀ k, k < m.wvs.length → 0 ≤ Pow.shareP m k ∧ Pow.shareP m k ≤ 777600) := fun k hk => Pow.share_le Hok.out hk
  clear hsh k0 k1 hR
  by_cases hW0 : m.wvs.length = 0
  · have haw := Lib.hid (awake7_any w4)
    have ht : ((m.wvs.length : Int) == 0) = true := by simp [hW0]
    clear hW0
    go_wp2_with fail
    refine haw.out.mono ?_
    rintro e w7 ⟨rfl, he7⟩
    go_wp2_with fail
    go_ret
    exact ⟨rfl, HE.out.trans (he4.trans he7)⟩
  · have ht : ((m.wvs.length : Int) == 0) = false := beq_eq_false_iff_ne.2 (by omega)
    have hW : 0 < m.wvs.length := by omega
    clear hW0
    go_wp2_with fail
    clear hlen ht k0' k1'
    go_loopw [44] (fun i wr => ∃ j : Nat, j ≤ m.wvs.length ∧ i = .int .i64 (j : Int) ∧ Ext w4 wr) (fun i _ => m.wvs.length - (intOf i).toNat)
    case atStart => exact ⟨0, Nat.zero_le _, rfl, Ext.refl _⟩
    case round =>
      obtain ⟨k, hk, rfl, he⟩ := hrel
      have heA := he4.trans he
      by_cases hlt : k < m.wvs.length
      · -- <<L
        as_aux_lemma =>
        have r1 := (HR.out.ext he).cell hlt
        have hb := Hbd.out k hlt
        have hown := Hok.out.own hlt
        have hidl := Pow.share_idle (m := m) (k := k)
        obtain ⟨x, hx⟩ : ∃ x, Pow.shareP m k = x := ⟨_, rfl⟩
        rw [hx] at r1 hb hown hidl
        have Hx := Lib.hid hx
        have hX := Ext.alloc wr (.cells #[.int .i64 (k : Int)] 3)
        have hK := Blk.new wr 3 #[.int .i64 (k : Int)]
        have heX := heA.trans hX
        have hcb := Pow.cost_bounds Hok.out fun i => decide (i = k)
        have hlc := lcost_any _ m Hok.out (some ⟨wr.heap.size, 0, none⟩) 1 1 [(k : Int)] rfl (fun y hy => by rw [List.mem_singleton] at hy; subst hy; omega) (by unfold maxLen; omega) _ (HV.out.ext heX) (fun t htt => by
          obtain rfl : t = 0 := by simp at htt; omega
          exact ⟨_, 0, rfl, hK.c1⟩)
        rw [cost_one] at hlc
        obtain ⟨cf, hcf⟩ : ∃ cf, (Pow.costF m fun i => decide (i = k)) = cf := ⟨_, rfl⟩
        rw [hcf] at hlc hcb hown
        have Hlc := Lib.hid hlc
        obtain ⟨k0, k1⟩ := (HM.out.ext heA).c2
        have hd1 : decide (x < 0) = false := by have := hb.1; simpa using this
        have hd2 : decide (x > 60 * cf) = false := by simpa using hown
        obtain ⟨b2, o2, rfl, A3, c3, h3', j1, j2, j3⟩ := HW6.out k hlt
        have hwv : m.wvs[k]?.getD default = m.wv k := rfl
        rw [hwv] at j1 j2 j3 h3'
        obtain ⟨hl, hhl⟩ : ∃ hl, (m.wv k).hours.length = hl := ⟨_, rfl⟩
        rw [hhl] at j2 h3'
        have hid2 : hl = 0 → x = 0 := fun h => hidl (List.length_eq_zero_iff.1 (by rw [hhl]; exact h))
        have Hhl := Lib.hid hhl; have HJ1 := Lib.hid j1; have HJ2 := Lib.hid j2; have HJ3 := Lib.hid j3
        have hXw := hX
        clear hlc hcf hown hidl hx hwv hhl j1 j2 j3 hX hK
        go_upto_region 10 with fail
        go_cut [73] (fun q wx => q = .bool false ∧ Ext wr wx)
        case first =>
          go_wp2_with fail
          refine Hlc.out.mono ?_
          rintro e w5 ⟨rfl, he5⟩
          have heB := heX.trans he5
          obtain ⟨k0', k1'⟩ := (HM.out.ext heB).c2
          have j2' := heB.cell HJ2.out
          have hfin := hXw.trans he5
          clear Hlc he5 heX k0 k1
          by_cases hl0 : hl = 0
          · have hz1 : ((hl : Int) == 0) = true := by simp [hl0]
            have hz2 : (x != 0) = false := by simp [hid2 hl0]
            clear hl0 hid2
            go_wp2_with fail
            go_meet
            exact ⟨rfl, hfin⟩
          · have hz1 : ((hl : Int) == 0) = false := beq_eq_false_iff_ne.2 (by omega)
            clear hl0 hid2
            go_wp2_with fail
            go_meet
            exact ⟨rfl, hfin⟩
        case rest =>
          obtain ⟨rfl, heC⟩ := hcut
          have heD := heA.trans heC
          have heE := he.trans heC
          obtain ⟨k0, k1⟩ := (HM.out.ext heD).c2
          clear Hlc heX hXw hd1 hd2 hid2 r1 he heA heC
          go_wp2_with fail
          go_loopw [77] (fun i wq => ∃ t : Nat, t ≤ m.wvs.length ∧ i = .int .i64 (t : Int) ∧ Ext w4 wq) (fun i _ => m.wvs.length - (intOf i).toNat)
          case atStart => exact ⟨0, Nat.zero_le _, rfl, heE⟩
          case round =>
            clear heD heE k0 k1
            obtain ⟨t, ht, rfl, he⟩ := hrel
            have heA := he4.trans he
            by_cases hlt2 : t < m.wvs.length
            · obtain ⟨b3, o3, e3, A4, c4, h4', i1, i2, i3⟩ := HW6.out.ext heA t hlt2
              cases e3
              have hwv : m.wvs[t]?.getD default = m.wv t := rfl
              rw [hwv] at i1 i2 i3 h4'
              obtain ⟨hl2, hhl2⟩ : ∃ hl2, (m.wv t).hours.length = hl2 := ⟨_, rfl⟩
              rw [hhl2] at i2 h4'
              have hsame := wv_same (m := m) (i := t) (k := k)
              rw [Hx.out] at hsame
              obtain ⟨s1, hs1⟩ : ∃ s1, (m.wv t).shaft = s1 := ⟨_, rfl⟩
              obtain ⟨s2, hs2⟩ : ∃ s2, (m.wv k).shaft = s2 := ⟨_, rfl⟩
              have HJ1' := HJ1.out
              rw [hs1] at i1 hsame
              rw [hs2] at HJ1' hsame
              have hX := Ext.alloc wr (.cells #[.int .i64 s1, .slice A4 hl2 c4] 82)
              have hK := Blk.new wr 82 #[.int .i64 s1, .slice A4 hl2 c4]
              have heX := heA.trans hX
              obtain ⟨k0, k1⟩ := (HM.out.ext heX).c2
              obtain ⟨f0, f1⟩ := hK.c2
              have j1' := heX.cell HJ1'
              have j2' := heX.cell HJ2.out
              have r1 := (HR.out.ext (he.trans hX)).cell hlt2
              obtain ⟨y, hy⟩ : ∃ y, Pow.shareP m t = y := ⟨_, rfl⟩
              rw [hy] at r1 hsame
              obtain ⟨q, hq⟩ : ∃ q, decide ((m.wv t).hours = (m.wv k).hours) = q := ⟨_, rfl⟩
              have hEq := equalI A4 A3 c4 c3 (m.wv t).hours (m.wv k).hours q hq
              rw [hhl2, Hhl.out] at hEq
              have HEq := Lib.hid (fun W (heW : Ext (wr.alloc (.cells #[.int .i64 s1, .slice A4 hl2 c4] 82)) W) => hEq W (Nat.le_trans h4'.1 h4'.2) ((i3.ext hX).ext heW) (HJ3.out.ext (heX.trans heW)))
              have hsm : Hid (s1 = s2 → q = true → y = x) := fun h h' => by
                rw [← hq, decide_eq_true_eq] at h'
                exact hsame h h'
              have Hfin := Lib.hid (he.trans hX)
              clear hwv hhl2 hsame hs1 hs2 hX hK hy hq hEq i3 h4'
              go_upto_region 15 with fail
              obtain ⟨K0, hK0⟩ : ∃ K0, wr.heap.size = K0 := ⟨_, rfl⟩
              rw [hK0] at f0 f1 ⊢
              clear i1 i2 hK0
              generalize wr.alloc _ = w6 at *
              by_cases hss : s1 = s2
              · have hz : (s1 == s2) = true := by simp [hss]
                cases q with
                | true =>
                  have hyx := hsm.out hss (by first | rfl | trivial)
                  have hz2 : (y != x) = false := by simp [hyx]
                  clear hss hyx hsm
                  refine wp_region_tree 28 [(18, true)] [] (by kernel_rfl) (by kernel_rfl) (by kernel_rfl) (ds := [0, 1, 2, 3, 4, 5, 6, 7, 8, 9, 10, 11, 12, 13, 14, 15, 16, 17]) (by kernel_rfl) ?_
                  simp only [List.take, List.drop, fill, Act.put, List.setIfInBounds_toArray, List.set_cons_zero, List.set_cons_succ, Nat.reduceAdd]
                  repeat (first
                    | (apply Unlock.float rfl
                       · intro x W he hd K Qr hK
                         try (have he := he (by decide); have k0 := he.cell k0; have k1 := he.cell k1; have f0 := he.cell f0; have f1 := he.cell f1; have j1' := he.cell j1'; have j2' := he.cell j2'; have r1 := he.cell r1)
                         try simp only [edges, DepsE, List.filter_cons, List.filter_nil, Region.binds, if_true, and_true, true_and, upd, Nat.reduceEqDiff, if_false] at hd
                         try simp only [hd] at hK ⊢
                         have HK := Lib.hid hK; clear hK
                         go_wp2_with fail
                         exact HK.out))
                  refine Unlock.nil ?_
                  intro W he hG
                  refine Tree.next (ks := [(18, true)]) (by kernel_rfl) ?_
                  refine TSteps.cons _ rfl ?_ trivial
                  intro x hd K Qr hK
                  try simp only [edges, DepsE, List.filter_cons, List.filter_nil, Region.binds, if_true, and_true, true_and, upd, Nat.reduceEqDiff, if_false] at hd
                  try simp only [hd] at hK ⊢
                  clear hd
                  have HK := Lib.hid hK; clear hK
                  go_wp2_with fail
                  refine (HEq.out W he).mono ?_
                  rintro e w7 ⟨rfl, he7⟩
                  have heB := he.trans he7
                  go_wp2_with fail
                  refine HK.out _ _ (fun _ => heB) ?_
                  clear HK
                  refine Unlock.of (ds := [19, 20, 21, 22, 23, 24, 25, 26, 27]) (by kernel_rfl) ?_
                  repeat (first
                    | (apply Unlock.float rfl
                       · intro x W he hd K Qr hK
                         try (have he := he (by decide); have r1' := he.cell r1)
                         try simp only [edges, DepsE, List.filter_cons, List.filter_nil, Region.binds, if_true, and_true, true_and, upd, Nat.reduceEqDiff, if_false] at hd
                         try simp only [hd] at hK ⊢
                         have HK := Lib.hid hK; clear hK
                         go_wp2_with fail
                         exact HK.out))
                  refine Unlock.nil ?_
                  refine Tree.nil (by kernel_rfl) ?_
                  simp only [upd, Nat.reduceEqDiff, if_false, if_true]
                  go_wp2_with fail
                  go_roundw
                  case rel => exact ⟨t + 1, by omega, by go_num, Hfin.out.trans heB⟩
                  case measure => simp [intOf]; omega
                | false =>
                  clear hss hsm
                  refine wp_region_tree 28 [(18, true)] [] (by kernel_rfl) (by kernel_rfl) (by kernel_rfl) (ds := [0, 1, 2, 3, 4, 5, 6, 7, 8, 9, 10, 11, 12, 13, 14, 15, 16, 17]) (by kernel_rfl) ?_
                  simp only [List.take, List.drop, fill, Act.put, List.setIfInBounds_toArray, List.set_cons_zero, List.set_cons_succ, Nat.reduceAdd]
                  repeat (first
                    | (apply Unlock.float rfl
                       · intro x W he hd K Qr hK
                         try (have he := he (by decide); have k0 := he.cell k0; have k1 := he.cell k1; have f0 := he.cell f0; have f1 := he.cell f1; have j1' := he.cell j1'; have j2' := he.cell j2'; have r1 := he.cell r1)
                         try simp only [edges, DepsE, List.filter_cons, List.filter_nil, Region.binds, if_true, and_true, true_and, upd, Nat.reduceEqDiff, if_false] at hd
                         try simp only [hd] at hK ⊢
                         have HK := Lib.hid hK; clear hK
                         go_wp2_with fail
                         exact HK.out))
                  refine Unlock.nil ?_
                  intro W he hG
                  refine Tree.next (ks := [(18, true)]) (by kernel_rfl) ?_
                  refine TSteps.cons _ rfl ?_ trivial
                  intro x hd K Qr hK
                  try simp only [edges, DepsE, List.filter_cons, List.filter_nil, Region.binds, if_true, and_true, true_and, upd, Nat.reduceEqDiff, if_false] at hd
                  try simp only [hd] at hK ⊢
                  clear hd
                  have HK := Lib.hid hK; clear hK
                  go_wp2_with fail
                  refine (HEq.out W he).mono ?_
                  rintro e w7 ⟨rfl, he7⟩
                  have heB := he.trans he7
                  go_wp2_with fail
                  refine HK.out _ _ (fun _ => heB) ?_
                  clear HK
                  refine Unlock.of (ds := [19, 20, 21, 22, 23, 24, 25, 26, 27]) (by kernel_rfl) ?_
                  repeat (first
                    | (apply Unlock.float rfl
                       · intro x W he hd K Qr hK
                         try (have he := he (by decide))
                         try simp only [edges, DepsE, List.filter_cons, List.filter_nil, Region.binds, if_true, and_true, true_and, upd, Nat.reduceEqDiff, if_false] at hd
                         try simp only [hd] at hK ⊢
                         have HK := Lib.hid hK; clear hK
                         go_wp2_with fail
                         exact HK.out))
                  refine Unlock.nil ?_
                  refine Tree.nil (by kernel_rfl) ?_
                  simp only [upd, Nat.reduceEqDiff, if_false, if_true]
                  go_wp2_with fail
                  go_roundw
                  case rel => exact ⟨t + 1, by omega, by go_num, Hfin.out.trans heB⟩
                  case measure => simp [intOf]; omega
              · have hz : (s1 == s2) = false := beq_eq_false_iff_ne.2 hss
                clear hss hsm HEq
                refine wp_region_chain 28 [] [] (by kernel_rfl) (by kernel_rfl) (by kernel_rfl) ?_
                simp only [List.take, List.drop, fill, Act.put, List.setIfInBounds_toArray, List.set_cons_zero, List.set_cons_succ, Nat.reduceAdd]
                repeat (first
                  | refine Floats.mut rfl ?_
                  | (apply Floats.float rfl
                     · intro x W he hd K Q hK
                       try (have he := he (by decide); have k0 := he.cell k0; have k1 := he.cell k1; have f0 := he.cell f0; have f1 := he.cell f1; have j1' := he.cell j1'; have j2' := he.cell j2'; have r1 := he.cell r1)
                       try simp only [edges, DepsE, List.filter_cons, List.filter_nil, Region.binds, if_true, and_true, true_and, upd, Nat.reduceEqDiff, if_false] at hd
                       try simp only [hd] at hK ⊢
                       have HK := Lib.hid hK; clear hK
                       go_wp2_with fail
                       exact HK.out))
                refine Floats.done fun W he hG => ?_
                refine Chain.nil ?_
                simp only [upd, Nat.reduceEqDiff, if_false, if_true]
                go_wp2_with fail
                go_roundw
                case rel => exact ⟨t + 1, by omega, by go_num, Hfin.out.trans he⟩
                case measure => simp [intOf]; omega
            · go_wp2_with fail
              go_roundw
              case rel => exact ⟨k + 1, by omega, by go_num, he⟩
              case measure => simp [intOf]; omega
        -- >>
      · -- <<E
        as_aux_lemma =>
        obtain ⟨kk, hkk⟩ : ∃ kk : Nat, n1.tmod (m.wvs.length : Int) = kk := ⟨_, (Int.toNat_of_nonneg (Int.tmod_nonneg _ hn1.1)).symm⟩
        have hkl : kk < m.wvs.length := by
          have := Int.tmod_lt_of_pos n1 (show (0 : Int) < (m.wvs.length : Int) by omega)
          rw [hkk] at this
          omega
        have hn0 : (m.wvs.length : Int) ≠ 0 := by omega
        have Hh : Hid (∀ k, k < m.wvs.length → (m.wv k).hours.length ≤ 1000) := fun k hk => Nat.le_trans (hours_len (Hok.out.rise k hk) (Hok.out.hour k hk)) (by omega)
        have how := Lib.hid (own7_any _ m (by omega) (by omega) Hh.out wr (HV.out.ext heA))
        obtain ⟨k0, k1⟩ := (HM.out.ext heA).c2
        go_wp2_with fail
        refine how.out.mono ?_
        rintro e w5 ⟨u, rfl, hO5, he5⟩
        obtain ⟨u1, u2, rfl, hO51, hO52⟩ := hO5
        obtain ⟨B1, d1, rfl, b1, b2, b3⟩ := hO51.at_
        obtain ⟨B2, d2, rfl, b4, b5, b6⟩ := hO52.at_
        obtain ⟨g, o, rfl, -⟩ := b6 0 hW
        have hX := Ext.alloc w5 (.cells #[.slice B1 m.shafts.length d1, .slice (some ⟨g, o, none⟩) m.wvs.length d2] 26)
        have hN := Blk.new w5 26 #[.slice B1 m.shafts.length d1, .slice (some ⟨g, o, none⟩) m.wvs.length d2]
        obtain ⟨N, hNe⟩ : ∃ N, w5.heap.size = N := ⟨_, rfl⟩
        have hNl : w5.heap.size ≤ N := by omega
        rw [hNe] at hN
        have hsl : ∀ W : World, (Instr.slice 24 (.slice (some ⟨g, o, none⟩) m.wvs.length d2) (some (.int .i64 (kk : Int))) (some (.int .i64 ((kk : Int) + 1))) none).run Tryz.prog W = .ok (.slice (some ⟨g, o + kk * 2, none⟩) 1 (d2 - kk)) W := fun W => by
          have hsz : (sizeOf 82).run Tryz.prog W = .ok 2 W := by kernel_rfl
          rw [run_slice_lh W 24 (some ⟨g, o, none⟩) m.wvs.length d2 Tryz.underlying24 .i64 .i64 (kk : Int) ((kk : Int) + 1) (by omega) (by omega) (by omega)]
          show Result.andThen ((sizeOf 82).run Tryz.prog W) _ = _
          rw [hsz]
          show Result.ok (sliced (some ⟨g, o, none⟩) (kk : Int).toNat ((kk : Int) + 1).toNat d2 2) W = _
          unfold sliced
          rw [Int.toNat_natCast, if_neg (by omega), show ((kk : Int) + 1).toNat - kk = 1 by omega]
          simp [addr_off]
        have hb3 := Lib.hid b3; have hb6 := Lib.hid b6
        have hset := Ext.alloc w5 (.cells #[.slice B1 m.shafts.length d1, .slice (some ⟨g, o + kk * 2, none⟩) 1 (d2 - kk)] 26)
        have hset2 := Blk.new w5 26 #[.slice B1 m.shafts.length d1, .slice (some ⟨g, o + kk * 2, none⟩) 1 (d2 - kk)]
        rw [hNe] at hset2
        obtain ⟨n0, n1'⟩ := hN.c2
        have f1 := hN.frozen 1
        unfold maxLen at b2 b5
        clear how hO51 hO52 b3 b6 hX hN k0 k1
        go_upto_region 22 with fail
        try rw [hNe]
        clear hNe n0 n1' f1 hsl
        generalize w5.alloc _ = w6 at *
        have hS6 := hb3.out.ext hset
        have hW6 : WvsAt w6 (some ⟨g, o + kk * 2, none⟩) [m.wv kk] := fun t ht => by
          obtain rfl : t = 0 := by simp at ht; omega
          obtain ⟨g', o', e', hc⟩ := hb6.out.ext hset kk hkl
          cases e'
          exact ⟨g, _, rfl, hc⟩
        have hv6 : PMVal w6 (.agg #[.slice B1 m.shafts.length d1, .slice (some ⟨g, o + kk * 2, none⟩) 1 (d2 - kk)]) (Pow.PM.only m kk) := ⟨_, d1, _, d2 - kk, rfl, b1, by unfold maxLen; omega, by show 1 ≤ d2 - kk; omega, by unfold maxLen; omega, hS6, hW6⟩
        have hok1 : POk (Pow.PM.only m kk) := (Pow.only_some hkl).ok Hok.out (by show 1 ≤ 6; omega)
        have hc1 : checkP (Pow.PM.only m kk) = 0 := (checkP_iff _).2 hok1
        have hsh1 := Lib.hid ((shares_any _ _ hc1 w6 hv6).mono (R' := fun e w' => ∃ S, e = .returned (.tuple #[.slice (some ⟨S, 0, none⟩) 1 1, .int .i64 0]) ∧ w'.cell? ⟨S, 0, none⟩ = some (.int .i64 (60 * Pow.costF m fun i => decide (i = kk))) ∧ Ext w6 w') (by
          rintro e w' ⟨S, rfl, g1, -, g3⟩
          refine ⟨S, rfl, ?_, g3⟩
          have := g1.cell (j := 0) (by show 0 < 1; omega)
          rw [Pow.only_share Hok.out hkl] at this
          exact this))
        have heB := heA.trans (he5.trans hset)
        obtain ⟨n0, n1'⟩ := hset2.c2
        have heN := he.trans (he5.trans hset)
        clear hS6 hW6 hv6 hok1 hc1 hb3 hb6 hset hset2 he5 he heA
        go_wp2_with fail
        refine hsh1.out.mono ?_
        rintro e w7 ⟨S1, rfl, hS1, he7⟩
        have heC := heB.trans he7
        have heM := heN.trans he7
        have how := Lib.hid (own7_any _ m (by omega) (by omega) Hh.out w7 (HV.out.ext heC))
        obtain ⟨k0, k1⟩ := (HM.out.ext heC).c2
        clear hsh1 n0 n1' heB he7 heN
        go_wp2_with fail
        refine how.out.mono ?_
        rintro e w8 ⟨u, rfl, hO8, he8⟩
        obtain ⟨u1, u2, rfl, hO81, hO82⟩ := hO8
        obtain ⟨C1, p1, rfl⟩ := ownsRow_slice hO81
        obtain ⟨C2, p2, e2, -⟩ := hO82.at_
        subst e2
        have hX := Ext.alloc w8 (.cells #[.slice C1 m.shafts.length p1, .slice C2 m.wvs.length p2] 26)
        have hN := Blk.new w8 26 #[.slice C1 m.shafts.length p1, .slice C2 m.wvs.length p2]
        obtain ⟨N2, hNe⟩ : ∃ N2, w8.heap.size = N2 := ⟨_, rfl⟩
        rw [hNe] at hN
        have hN7 : w7.heap.size ≤ N2 := by rw [← hNe]; exact he8.size
        have heX := he8.trans hX
        have hO91 := Lib.hid (OwnShs.ext hO81 hX)
        have hO92 := OwnWvs.ext hO82 hX
        have hde := Lib.hid (deleteWv w7.heap.size _ m.wvs _ hO92 (by omega) kk hkl)
        have HO92 := Lib.hid hO92
        obtain ⟨n0, n1'⟩ := hN.c2
        have HN := Lib.hid hN
        have HS1 := Lib.hid hS1
        have HeX := Lib.hid heX
        clear how hO81 hO82 hO92 hX hN k0 k1 heX hS1 he8
        go_upto_region 24 with fail
        try rw [hNe]
        clear hNe
        generalize w8.alloc _ = w9 at *
        go_wp2_with fail
        refine hde.out.mono ?_
        rintro e w10 ⟨v', rfl, hOd, hgd⟩
        have hge : ∀ y, (Value.slice C2 m.wvs.length p2).ownBlock = some y → w7.heap.size ≤ y := fun y hy => by
          obtain ⟨cs, hr, -⟩ := HO92.out
          exact (ownsRow_own hr y hy).1
        have he10 : Ext w7 w10 := ext_grown0 HeX.out hgd hge
        have hN10 : Blk w10 N2 26 #[.slice C1 m.shafts.length p1, .slice C2 m.wvs.length p2] := HN.out.grown hgd (fun e => by
          obtain ⟨cs, hr, -⟩ := HO92.out
          exact ownsRow_ne_blk hr HN.out (by decide) e)
        have hS10 : OwnShs w10 w7.heap.size (.slice C1 m.shafts.length p1) m.shafts := by
          obtain ⟨cs, hr, -⟩ := HO92.out
          exact hO91.out.grownT (by decide) hgd hr
        have hS1' := Lib.hid (he10.cell HS1.out)
        have hdl : (m.wvs.eraseIdx kk).length = m.wvs.length - 1 := by rw [List.length_eraseIdx, if_pos hkl]
        obtain ⟨An, pn, rfl⟩ : ∃ A c, v' = .slice A (m.wvs.eraseIdx kk).length c := by
          obtain ⟨A, c, e, -⟩ := hOd.at_
          exact ⟨A, c, e⟩
        obtain ⟨dn, hdn⟩ : ∃ dn, (m.wvs.eraseIdx kk).length = dn := ⟨_, rfl⟩
        rw [hdn] at hdl hOd ⊢
        have hd1 : dn < m.wvs.length ∧ m.wvs.length ≤ dn + 1 := by omega
        clear hdl
        have hS11 := hS10.far hN10 (.inl (by decide)) 1 (.slice An dn pn)
        have hW11 := hOd.far hN10 (by decide) (.inl (by decide)) 1 (.slice An dn pn)
        have hN11 : Blk (w10.setCell ⟨N2, 1, none⟩ (.slice An dn pn)) N2 26 #[.slice C1 m.shafts.length p1, .slice An dn pn] := by simpa using hN10.set_ 1 (.slice An dn pn)
        have he11 : Ext w7 (w10.setCell ⟨N2, 1, none⟩ (.slice An dn pn)) := Below.setCell he10 (p := ⟨N2, 1, none⟩) (by show _ ≤ N2; omega) (.slice An dn pn)
        obtain ⟨n0, n1'⟩ := hN10.c2
        have f1 := hN10.frozen 1
        have Hdn := Lib.hid hdn
        have hS1w := Lib.hid (he11.cell HS1.out)
        clear hde HO92 hO91 hgd hge he10 hN10 hS10 hOd HeX HN HS1 hS1' hdn
        go_upto_region 25 with fail
        clear n0 n1' f1
        generalize World.setCell _ _ _ = w11 at *
        have hv11 : PMVal w11 (.agg #[.slice C1 m.shafts.length p1, .slice An dn pn]) (Pow.PM.drop m kk) := by
          obtain ⟨Aa, ca, e1, g1, g2, g3⟩ := hS11.at_
          obtain ⟨Ab, cb, e2, g4, g5, g6⟩ := hW11.at_
          rw [e1, e2]
          exact ⟨Aa, ca, Ab, cb, rfl, g1, g2, g4, g5, g3, g6⟩
        have hok2 : POk (Pow.PM.drop m kk) := (Pow.drop_some hkl).2.ok Hok.out (by show (m.wvs.eraseIdx kk).length ≤ 6; rw [Hdn.out]; omega)
        have hc2 : checkP (Pow.PM.drop m kk) = 0 := (checkP_iff _).2 hok2
        have hsh2 := Lib.hid ((shares_any _ _ hc2 w11 hv11).mono (R' := fun e w' => ∃ S, e = .returned (.tuple #[.slice (some ⟨S, 0, none⟩) dn dn, .int .i64 0]) ∧ Row w' S dn (Pow.shareP (Pow.PM.drop m kk)) ∧ Ext w11 w') (by
          rintro e w' ⟨S, rfl, g1, -, g3⟩
          rw [show (Pow.PM.drop m kk).wvs.length = dn from Hdn.out] at g1 ⊢
          exact ⟨S, rfl, g1, g3⟩))
        have Hle : Hid (∀ t, t < dn → Pow.shareP m (Pow.skip kk t) ≤ Pow.shareP (Pow.PM.drop m kk) t) := fun t ht => (Pow.drop_some hkl).2.share Hok.out (by show t < (m.wvs.eraseIdx kk).length; rw [Hdn.out]; exact ht)
        have Hb2 : Hid (∀ t, t < dn → 0 ≤ Pow.shareP (Pow.PM.drop m kk) t ∧ Pow.shareP (Pow.PM.drop m kk) t ≤ 777600) := fun t ht => Pow.share_le hok2 (by show t < (m.wvs.eraseIdx kk).length; rw [Hdn.out]; exact ht)
        have heD := heC.trans he11
        have heS := heM.trans he11
        obtain ⟨n0, n1'⟩ := hN11.c2
        clear hS11 hW11 hN11 hv11 hok2 hc2 he11 heC heM
        go_wp2_with fail
        refine hsh2.out.mono ?_
        rintro e w12 ⟨S2, rfl, hR2, he12⟩
        have heE := heD.trans he12
        have heS2 := heS.trans he12
        obtain ⟨k0, k1⟩ := (HM.out.ext heE).c2
        have l0 := he12.cell hS1w.out
        have HR2 := Lib.hid hR2
        obtain ⟨cf, hcf⟩ : ∃ cf, (Pow.costF m fun i => decide (i = kk)) = cf := ⟨_, rfl⟩
        have hcb := Pow.cost_bounds Hok.out fun i => decide (i = kk)
        have Hlc : Hid (∀ W b, Ext w12 W → W.cell? ⟨b, 0, none⟩ = some (.int .i64 (kk : Int)) → Calls Tryz.prog 53 #[.agg #[.slice A1 m.shafts.length c1, .slice A2 m.wvs.length c2], .slice (some ⟨b, 0, none⟩) 1 1] W fun e w' => e = .returned (.int .i64 cf) ∧ Ext W w') := fun W b hW' hc' => by
          have := lcost_any _ m Hok.out (some ⟨b, 0, none⟩) 1 1 [(kk : Int)] rfl (fun y hy => by rw [List.mem_singleton] at hy; subst hy; omega) (by unfold maxLen; omega) W (HV.out.ext (heE.trans hW')) (fun t htt => by
            obtain rfl : t = 0 := by simp at htt; omega
            exact ⟨_, 0, rfl, hc'⟩)
          rw [cost_one, hcf] at this
          exact this
        rw [hcf] at l0 hcb
        have hz1 : (60 * cf != 60 * cf) = false := by simp
        have hz2 : ((dn : Int) != (m.wvs.length : Int) - 1) = false := by simp; omega
        clear hsh2 n0 n1' hR2 hcf hS1w he12 heD heS
        go_upto_region 26 with fail
        refine wp_region_tree 30 [(17, true), (18, true)] [] (by kernel_rfl) (by kernel_rfl) (by kernel_rfl) (ds := [0, 1, 2, 3, 4, 5, 6, 7, 8, 9, 10, 11, 12, 13, 14, 15, 16]) (by kernel_rfl) ?_
        simp only [List.take, List.drop, fill, Act.put, List.setIfInBounds_toArray, List.set_cons_zero, List.set_cons_succ, Nat.reduceAdd]
        repeat (first
          | (apply Unlock.float rfl
             · intro x W he hd K Qr hK
               try (have he := he (by decide); have k0 := he.cell k0; have k1 := he.cell k1; have l0 := he.cell l0)
               try simp only [edges, DepsE, List.filter_cons, List.filter_nil, Region.binds, if_true, and_true, true_and, upd, Nat.reduceEqDiff, if_false] at hd
               try simp only [hd] at hK ⊢
               have HK := Lib.hid hK; clear hK
               go_wp2_with fail
               exact HK.out))
        refine Unlock.nil ?_
        intro W he hG
        refine Tree.next (ks := [(17, true)]) (by kernel_rfl) ?_
        refine TSteps.cons _ rfl ?_ trivial
        intro x hd K Qr hK
        try simp only [edges, DepsE, List.filter_cons, List.filter_nil, Region.binds, if_true, and_true, true_and, upd, Nat.reduceEqDiff, if_false] at hd
        try simp only [hd] at hK ⊢
        clear hd
        have HK := Lib.hid hK; clear hK
        have hXk := Ext.alloc W (.cells #[.int .i64 (kk : Int)] 3)
        have hKb := (Blk.new W 3 #[.int .i64 (kk : Int)]).c1
        have heX := he.trans hXk
        go_wp2_with fail
        refine HK.out _ _ (fun _ => heX) ?_
        clear HK
        refine Unlock.of (ds := []) (by kernel_rfl) ?_
        repeat (first
          | (apply Unlock.float rfl
             · intro x W he hd K Qr hK
               try (have he := he (by decide))
               try simp only [edges, DepsE, List.filter_cons, List.filter_nil, Region.binds, if_true, and_true, true_and, upd, Nat.reduceEqDiff, if_false] at hd
               try simp only [hd] at hK ⊢
               have HK := Lib.hid hK; clear hK
               go_wp2_with fail
               exact HK.out))
        refine Unlock.nil ?_
        refine Tree.next (ks := [(18, true)]) (by kernel_rfl) ?_
        refine TSteps.cons _ rfl ?_ trivial
        intro x hd K Qr hK
        try simp only [edges, DepsE, List.filter_cons, List.filter_nil, Region.binds, if_true, and_true, true_and, upd, Nat.reduceEqDiff, if_false] at hd
        try simp only [hd] at hK ⊢
        clear hd
        have HK := Lib.hid hK; clear hK
        have hlc := Lib.hid (Hlc.out _ _ heX hKb)
        go_wp2_with fail
        refine hlc.out.mono ?_
        rintro e w13 ⟨rfl, he13⟩
        have heY := heX.trans he13
        clear hlc hKb hXk heX
        go_wp2_with fail
        refine HK.out _ _ (fun _ => heY) ?_
        clear HK
        refine Unlock.of (ds := [19, 20, 21, 22, 23, 24, 25, 26, 27, 28, 29]) (by kernel_rfl) ?_
        repeat (first
          | (apply Unlock.float rfl
             · intro x W he hd K Qr hK
               try (have he := he (by decide))
               try simp only [edges, DepsE, List.filter_cons, List.filter_nil, Region.binds, if_true, and_true, true_and, upd, Nat.reduceEqDiff, if_false] at hd
               try simp only [hd] at hK ⊢
               have HK := Lib.hid hK; clear hK
               go_wp2_with fail
               exact HK.out))
        refine Unlock.nil ?_
        refine Tree.nil (by kernel_rfl) ?_
        simp only [upd, Nat.reduceEqDiff, if_false, if_true]
        have heZ := heS2.trans heY
        have heF := heE.trans heY
        have hA := (HR.out.ext heZ).ints
        obtain ⟨xs, hxs⟩ : ∃ xs, (List.range m.wvs.length).map (Pow.shareP m) = xs := ⟨_, rfl⟩
        have hxl : xs.length = m.wvs.length := by rw [← hxs]; simp
        have Hxg : Hid (∀ t, t < m.wvs.length → xs[t]? = some (Pow.shareP m t)) := fun t ht => by
          rw [← hxs, List.getElem?_map, List.getElem?_range ht]; rfl
        rw [hxs] at hA
        have hcl := cloneI (some ⟨S, 0, none⟩) m.wvs.length xs w13 (by rw [hxl]; omega) hA
        rw [hxl] at hcl
        have Hcl := Lib.hid hcl; have Hxl := Lib.hid hxl
        have HR3 := Lib.hid (HR2.out.ext heY)
        clear hcl hA hxs hz1 hz2 k0 k1 l0 Hlc hcb heE heS2 heY heZ HR2 hxl hG he
        go_wp2_with fail
        refine Hcl.out.mono ?_
        rintro e w14 ⟨v8, rfl, hO14, he14⟩
        have hde := Lib.hid (deleteI w13.heap.size v8 xs w14 hO14 (by rw [Hxl.out]; omega) kk (by rw [Hxl.out]; exact hkl))
        have HO14 := Lib.hid hO14
        obtain ⟨A14, c14, rfl⟩ := ownsRow_slice hO14
        clear hO14 Hcl
        go_wp2_with fail
        refine hde.out.mono ?_
        rintro e w15 ⟨v9, rfl, hO15, -, hg15⟩
        have he15 : Ext w13 w15 := ext_grown0 he14 hg15 fun y hy => (HO14.out.own_lt y hy).1
        obtain ⟨D, hD⟩ : ∃ D, xs.take kk ++ xs.drop (kk + 1) = D := ⟨_, rfl⟩
        have hDl : D.length = dn := by rw [← hD, List.length_append, List.length_take, List.length_drop, Hxl.out]; omega
        have HDg : Hid (∀ t, t < dn → D[t]?.getD 0 = Pow.shareP m (Pow.skip kk t)) := fun t ht => by
          rw [← hD]
          unfold Pow.skip
          by_cases h : t < kk
          · rw [if_pos h, List.getElem?_append_left (by rw [List.length_take, Hxl.out]; omega), List.getElem?_take, if_pos h, Hxg.out t (by omega)]; rfl
          · rw [if_neg h, List.getElem?_append_right (by rw [List.length_take, Hxl.out]; omega), List.length_take, Hxl.out, Nat.min_eq_left (by omega), List.getElem?_drop, show kk + 1 + (t - kk) = t + 1 by omega, Hxg.out (t + 1) (by omega)]; rfl
        rw [hD] at hO15
        obtain ⟨A15, c15, rfl, -, -, y3, -, -⟩ := hO15.open_
        rw [hDl]
        have HY := Lib.hid y3; have HDl := Lib.hid hDl
        have heG := heF.trans he15
        have HR4 := Lib.hid (HR3.out.ext he15)
        clear hde HO14 hg15 hO15 hD y3 hDl he14 heF he15 HR3
        go_wp2_with fail
        go_loopw [182] (fun i wq => ∃ t : Nat, t ≤ dn ∧ i = .int .i64 (t : Int) ∧ w15 = wq) (fun i _ => dn - (intOf i).toNat)
        case atStart => exact ⟨0, Nat.zero_le _, rfl, rfl⟩
        case round =>
          obtain ⟨t, ht, rfl, rfl⟩ := hrel
          by_cases hlt2 : t < dn
          · obtain ⟨b9, o9, rfl, l9⟩ := HY.out t (by rw [HDl.out]; exact hlt2)
            have r9 := HR4.out.cell hlt2
            have hle := Hle.out t hlt2
            rw [HDg.out t hlt2] at l9
            obtain ⟨x, hx⟩ : ∃ x, Pow.shareP m (Pow.skip kk t) = x := ⟨_, rfl⟩
            obtain ⟨y, hy⟩ : ∃ y, Pow.shareP (Pow.PM.drop m kk) t = y := ⟨_, rfl⟩
            rw [hx] at l9 hle
            rw [hy] at r9 hle
            have hgt : decide (x > y) = false := by simpa using hle
            clear hx hy hle
            go_wp2_with fail
            go_roundw
            case rel => exact ⟨t + 1, by omega, by go_num, by trivial⟩
            case measure => simp [intOf]; omega
          · have haw := Lib.hid (awake7_any w15)
            go_wp2_with fail
            refine haw.out.mono ?_
            rintro e w16 ⟨rfl, he16⟩
            go_wp2_with fail
            go_ret
            exact ⟨rfl, HE.out.trans (heG.trans he16)⟩
        -- >>
end Go.Proofs.Pet
