/-
  The reference's List, bit, before, All, Line, walked.
-/
import Derived.Test.YtjlglbhafopomaaGreatPE1
import Derived.Test.YtjlglbhafopomaaGreatPDJ
namespace Go.Proofs.Pet
set_option linter.unusedSimpArgs false
open Go Go.RowKit Go.Maps Go.Shelf
open Go.Proofs.Pow (PM Sh Wv POk Up)

set_option maxRecDepth 20000 in
set_option maxHeartbeats 1000000 in
theorem list7_any (s : Nat) (hs : s ≤ 100000) (hl : (listL s 0).length ≤ 100) (w : World) :
    Calls Tryz.prog 120 #[.int .i64 (s : Int)] w fun e w' => ∃ v, e = .returned v ∧ OwnI w' w.heap.size 3 v (listL s 0) ∧ Ext w w' := by
  obtain ⟨ti, hi, hz0, hz1, hz2⟩ := info_parts info_int
  obtain ⟨L, hL⟩ : ∃ L, listL s 0 = L := ⟨_, rfl⟩
  rw [hL] at hl ⊢
  have HL := Lib.hid hL
  clear hL
  go_enter Tryz.func120, Tryz.ntmps120
  go_wp2_with fail
  go_loopw [0, 3, 4] (fun sv u kv wr => ∃ (t k : Nat) (acc : List Int), t ≤ 100000 ∧ k ≤ 100000 ∧ t + k ≤ 100000 ∧ sv = .int .i64 (t : Int) ∧ kv = .int .i64 (k : Int) ∧ Hid (acc ++ listL t k = L) ∧ Hid (OwnI wr w.heap.size 3 u acc) ∧ Ext w wr) (fun sv _ _ _ => (intOf sv).toNat)
  case atStart => exact ⟨s, 0, [], hs, by omega, by omega, rfl, rfl, by simpa using HL, Lib.hid (OwnI.nil _ _ _), Ext.refl _⟩
  case round =>
    clear HL
    obtain ⟨t, k, acc, ht, hk, htk, rfl, rfl, hacc, hO, he⟩ := hrel
    by_cases hpos : 0 < t
    · have hl2 := hacc.out
      rw [listL_pos (by omega), ← List.append_assoc] at hl2
      have hal : acc.length ≤ 100 := by
        have := congrArg List.length hacc.out
        rw [List.length_append] at this
        omega
      by_cases hodd : t % 2 = 1
      · rw [if_pos hodd] at hl2
        have hb : ((t : Int) % 2 == 1) = true := beq_iff_eq.2 (by omega)
        have hX := Ext.alloc wr (.cells #[.int .i64 (k : Int)] 3)
        have hsrc := Src.one wr (.int .i64 (k : Int)) 3
        have hOX := hO.out.ext hX
        have hsz := he.size
        have hszX := hX.size
        obtain ⟨A3, c3, rfl⟩ := ownsRow_slice hO.out
        have Hl2 := Lib.hid hl2
        have Hw : Hid (∀ v' w', w'.ownsRow w.heap.size 3 1 v' (acc.length + 1) (acc.map (Value.int .i64) ++ [.int .i64 (k : Int)]) → (wr.alloc (.cells #[.int .i64 (k : Int)] 3)).grownBy w' (Value.slice A3 acc.length c3).ownBlock → OwnI w' w.heap.size 3 v' (acc ++ [(k : Int)]) ∧ Ext w w') := by
          intro v' w' hown hg
          exact ⟨by unfold OwnI; rw [List.length_append, List.map_append]; exact hown, ext_grown he hg fun j hj => (hO.out.own_lt j hj).1⟩
        clear hl2 hacc hodd hO
        go_wp2_with (at_builtin; refine wpList_app rfl _ _ 31 rfl w.heap.size 3 ti (.int .i64 0) 1 8 Tryz.underlying31 hi hz0 hz1 hz2 rfl (by decide) (.slice A3 acc.length c3) acc.length _ rfl hOX (some ⟨wr.heap.size, 0, none⟩) 1 1 [.int .i64 (k : Int)] rfl rfl hsrc ?c2 ?c3 ?c4 ?c5 ?_; (case c2 => (intro u hu; rw [List.mem_singleton] at hu; subst hu; rfl)); (case c3 => (unfold maxLen; omega)); (case c4 => omega); (case c5 => omega); intro v' w5 hown hg hblk; have HO := Lib.hid (Hw.out v' w5 hown hg); clear hown hg hblk)
        go_roundw
        case rel => exact ⟨t / 2, k + 1, acc ++ [(k : Int)], by omega, by omega, by omega, by show Value.int _ _ = _; congr 1, by go_num, Hl2, HO.out.1, HO.out.2⟩
        case measure => simp [intOf]; omega
      · rw [if_neg hodd, List.append_nil] at hl2
        have hb : ((t : Int) % 2 == 1) = false := beq_eq_false_iff_ne.2 (by omega)
        have Hl2 := Lib.hid hl2
        clear hl2 hacc hodd
        go_wp2_with fail
        go_roundw
        case rel => exact ⟨t / 2, k + 1, acc, by omega, by omega, by omega, by show Value.int _ _ = _; congr 1, by go_num, Hl2, hO, he⟩
        case measure => simp [intOf]; omega
    · obtain rfl : t = 0 := by omega
      have e := hacc.out
      rw [listL_zero, List.append_nil] at e
      subst e
      go_wp2_with fail
      go_ret
      exact ⟨_, rfl, hO.out, he⟩
def pw : Nat → Nat
  | 0 => 1
  | k + 1 => 2 * pw k
theorem pw_pow : ∀ k, pw k = 2 ^ k
  | 0 => rfl
  | k + 1 => by rw [pw, pw_pow k, Nat.pow_succ]; omega
theorem pw_le {k : Nat} (h : k ≤ 14) : 1 ≤ pw k ∧ pw k ≤ 16384 := by
  have : ∀ k : Fin 15, 1 ≤ pw k ∧ pw k ≤ 16384 := by decide
  exact this ⟨k, by omega⟩
theorem bit7_any (k : Nat) (hk : k ≤ 14) (w : World) : Calls Tryz.prog 126 #[.int .i64 (k : Int)] w fun e w' => e = .returned (.int .i64 (pw k : Nat)) ∧ w = w' := by
  go_enter Tryz.func126, Tryz.ntmps126
  go_wp2_with fail
  go_loopw [3, 4] (fun n i wr => ∃ j : Nat, j ≤ k ∧ i = .int .i64 (j : Int) ∧ n = .int .i64 (pw j : Nat) ∧ w = wr) (fun _ i _ => k - (intOf i).toNat)
  case atStart => exact ⟨0, Nat.zero_le _, rfl, rfl, rfl⟩
  case round =>
    obtain ⟨j, hj, rfl, rfl, rfl⟩ := hrel
    by_cases hlt : j < k
    · have hb := pw_le (k := j) (by omega)
      have hs : pw (j + 1) = 2 * pw j := rfl
      obtain ⟨x, hx⟩ : ∃ x, pw j = x := ⟨_, rfl⟩
      rw [hx] at hb hs ⊢
      have Hs := Lib.hid hs
      clear hx hs
      go_wp2_with fail
      go_roundw
      case rel => exact ⟨j + 1, by omega, by go_num, by rw [Hs.out]; go_num, by trivial⟩
      case measure => simp [intOf]; omega
    · obtain rfl : j = k := by omega
      go_wp2_with fail
      go_ret
      exact ⟨rfl, rfl⟩
theorem ahead_cons (a b : Nat) (x y : List Nat) : Pow.ahead (a :: x) (b :: y) = if a = b then Pow.ahead x y else decide (a < b) := by
  conv => lhs; unfold Pow.ahead
set_option maxRecDepth 20000 in
set_option maxHeartbeats 1000000 in
theorem before7_any (A B : Option Addr) (c d n1 n2 : Nat) (x y : List Nat) (h1 : x.length = n1) (h2 : y.length = n2) (q : Bool) (hq : Pow.before x y = q) (w : World) (hb : n1 ≤ 1000 ∧ n2 ≤ 1000) (hA : IntsAt w A (ints x)) (hB : IntsAt w B (ints y)) :
    Calls Tryz.prog 121 #[.slice A n1 c, .slice B n2 d] w fun e w' => e = .returned (.bool q) ∧ Ext w w' := by
  have H1 := Lib.hid h1; have H2 := Lib.hid h2; have HA := Lib.hid hA; have HB := Lib.hid hB
  unfold Pow.before at hq
  rw [h1, h2] at hq
  clear h1 h2 hA hB
  go_enter Tryz.func121, Tryz.ntmps121
  by_cases hne : n1 = n2
  · subst hne
    rw [if_pos rfl] at hq
    have hz : ((n1 : Int) != (n1 : Int)) = false := by simp
    have Hq := Lib.hid hq
    clear hq
    go_wp2_with fail
    go_loopw [5] (fun i wr => ∃ j : Nat, j ≤ n1 ∧ i = .int .i64 (j : Int) ∧ Hid (Pow.ahead (x.drop j) (y.drop j) = q) ∧ Ext w wr) (fun i _ => n1 - (intOf i).toNat)
    case atStart => exact ⟨0, Nat.zero_le _, rfl, Hq, Ext.refl _⟩
    case round =>
      clear Hq
      obtain ⟨j, hj, rfl, hq, he⟩ := hrel
      by_cases hlt : j < n1
      · have hx1 : j < x.length := by rw [H1.out]; exact hlt
        have hy1 : j < y.length := by rw [H2.out]; exact hlt
        obtain ⟨b1, o1, rfl, l1⟩ := HA.out.ext he j (by rw [ints_length]; exact hx1)
        obtain ⟨b2, o2, rfl, l2⟩ := HB.out.ext he j (by rw [ints_length]; exact hy1)
        have ex : (ints x)[j]?.getD 0 = (x[j] : Int) := by unfold ints; rw [List.getElem?_map, List.getElem?_eq_getElem hx1]; rfl
        have ey : (ints y)[j]?.getD 0 = (y[j] : Int) := by unfold ints; rw [List.getElem?_map, List.getElem?_eq_getElem hy1]; rfl
        rw [ex] at l1
        rw [ey] at l2
        have hq2 := hq.out
        rw [List.drop_eq_getElem_cons hx1, List.drop_eq_getElem_cons hy1, ahead_cons] at hq2
        obtain ⟨a, ha⟩ : ∃ a, x[j] = a := ⟨_, rfl⟩
        obtain ⟨b, hb'⟩ : ∃ b, y[j] = b := ⟨_, rfl⟩
        rw [ha] at l1 hq2
        rw [hb'] at l2 hq2
        have he0 := he
        clear ex ey hq ha hb' he hx1 hy1
        by_cases hab : a = b
        · rw [if_pos hab] at hq2
          have hz2 : ((a : Int) != (b : Int)) = false := by simp [hab]
          have Hq2 := Lib.hid hq2
          clear hq2 hab
          go_upto_region 6 with fail
          refine wp_region_chain 9 [] [] (by kernel_rfl) (by kernel_rfl) (by kernel_rfl) ?_
          simp only [List.take, List.drop, fill, Act.put, List.setIfInBounds_toArray, List.set_cons_zero, List.set_cons_succ, Nat.reduceAdd]
          repeat (first
            | refine Floats.mut rfl ?_
            | (apply Floats.float rfl
               · intro x W he hd K Q hK
                 try (have he := he (by decide); have l1 := he.cell l1; have l2 := he.cell l2)
                 try simp only [edges, DepsE, List.filter_cons, List.filter_nil, Region.binds, if_true, and_true, true_and, upd, Nat.reduceEqDiff, if_false] at hd
                 try simp only [hd] at hK ⊢
                 have HK := Lib.hid hK; clear hK
                 go_wp2_with fail
                 exact HK.out))
          refine Floats.done fun W he hG => ?_
          refine Chain.nil ?_
          simp only [upd, Nat.reduceEqDiff, if_false, if_true]
          go_wp2_with fail
          go_roundw
          case rel => exact ⟨j + 1, by omega, by go_num, Hq2, he0.trans he⟩
          case measure => simp [intOf]; omega
        · rw [if_neg hab] at hq2
          have hz2 : ((a : Int) != (b : Int)) = true := by simp; omega
          have hz3 : decide (a < b) = q := hq2
          clear hq2 hab
          go_upto_region 6 with fail
          refine wp_region_chain 9 [] [] (by kernel_rfl) (by kernel_rfl) (by kernel_rfl) ?_
          simp only [List.take, List.drop, fill, Act.put, List.setIfInBounds_toArray, List.set_cons_zero, List.set_cons_succ, Nat.reduceAdd]
          repeat (first
            | refine Floats.mut rfl ?_
            | (apply Floats.float rfl
               · intro x W he hd K Q hK
                 try (have he := he (by decide); have l1 := he.cell l1; have l2 := he.cell l2)
                 try simp only [edges, DepsE, List.filter_cons, List.filter_nil, Region.binds, if_true, and_true, true_and, upd, Nat.reduceEqDiff, if_false] at hd
                 try simp only [hd] at hK ⊢
                 have HK := Lib.hid hK; clear hK
                 go_wp2_with fail
                 exact HK.out))
          refine Floats.done fun W he hG => ?_
          refine Chain.nil ?_
          simp only [upd, Nat.reduceEqDiff, if_false, if_true]
          have he1 := he0.trans he
          have r1 := he.cell l1
          have r2 := he.cell l2
          clear l1 l2 he he0 hG
          go_upto_region 7 with fail
          refine wp_region_chain 9 [] [] (by kernel_rfl) (by kernel_rfl) (by kernel_rfl) ?_
          simp only [List.take, List.drop, fill, Act.put, List.setIfInBounds_toArray, List.set_cons_zero, List.set_cons_succ, Nat.reduceAdd]
          repeat (first
            | refine Floats.mut rfl ?_
            | (apply Floats.float rfl
               · intro x W he hd K Q hK
                 try (have he := he (by decide); have r1 := he.cell r1; have r2 := he.cell r2)
                 try simp only [edges, DepsE, List.filter_cons, List.filter_nil, Region.binds, if_true, and_true, true_and, upd, Nat.reduceEqDiff, if_false] at hd
                 try simp only [hd] at hK ⊢
                 have HK := Lib.hid hK; clear hK
                 go_wp2_with fail
                 exact HK.out))
          refine Floats.done fun W he hG => ?_
          refine Chain.nil ?_
          simp only [upd, Nat.reduceEqDiff, if_false, if_true]
          go_wp2_with fail
          go_ret
          exact ⟨rfl, he1.trans he⟩
      · obtain rfl : j = n1 := by omega
        have hq2 := hq.out
        rw [show x.drop j = [] from List.drop_of_length_le (by rw [H1.out]; exact Nat.le_refl _), show y.drop j = [] from List.drop_of_length_le (by rw [H2.out]; exact Nat.le_refl _)] at hq2
        have : q = false := hq2.symm
        subst this
        clear hq hq2
        go_wp2_with fail
        go_ret
        exact ⟨rfl, he⟩
  · rw [if_neg hne] at hq
    have hz : ((n1 : Int) != (n2 : Int)) = true := by simp; omega
    have hz2 : decide (n1 < n2) = q := hq
    clear hq hne
    go_wp2_with fail
    go_ret
    exact ⟨rfl, Ext.refl _⟩
set_option maxRecDepth 20000 in
set_option maxHeartbeats 1000000 in
theorem all7_any (v : Value) (m : PM) (hml : m.wvs.length ≤ 1000) (w : World) (hv : PMVal w v m) :
    Calls Tryz.prog 38 #[v] w fun e w' => ∃ u, e = .returned u ∧ OwnI w' w.heap.size 3 u (Pow.allI m.wvs.length) ∧ Ext w w' := by
  obtain ⟨ti, hi, hz0, hz1, hz2⟩ := info_parts info_int
  obtain ⟨A1, c1, A2, c2, rfl, -, -, -, -, -, -⟩ := hv
  have hE := Ext.alloc w (.cells #[.slice A1 m.shafts.length c1, .slice A2 m.wvs.length c2] 54)
  have hM := Blk.new w 54 #[.slice A1 m.shafts.length c1, .slice A2 m.wvs.length c2]
  have hszE := hE.size
  have HM := Lib.hid hM
  clear hM
  go_enter Tryz.func38, Tryz.ntmps38
  go_wp2_with fail
  generalize w.alloc _ = w1 at *
  go_loopw [3, 4] (fun v i wr => ∃ k : Nat, k ≤ m.wvs.length ∧ i = .int .i64 k ∧ Hid (OwnI wr w1.heap.size 3 v (Pow.allI k)) ∧ Ext w1 wr) (fun _ i _ => m.wvs.length - (intOf i).toNat)
  case atStart => exact ⟨0, Nat.zero_le _, rfl, Lib.hid (OwnI.nil _ _ _), Ext.refl _⟩
  case round =>
    obtain ⟨k, hk, rfl, hO, he⟩ := hrel
    obtain ⟨k0, k1⟩ := (HM.out.ext he).c2
    by_cases hlt : k < m.wvs.length
    · have hX := Ext.alloc wr (.cells #[.int .i64 (k : Int)] 3)
      have hsrc := Src.one wr (.int .i64 (k : Int)) 3
      have hOX := hO.out.ext hX
      have hsz := he.size
      have hszX := hX.size
      obtain ⟨A3, c3, rfl, r1, r2, r3, r4, r5⟩ := hO.out.open_
      have hlen := allI_len k
      have Hw : Hid (∀ v' w', w'.ownsRow w1.heap.size 3 1 v' ((Pow.allI k).length + 1) ((Pow.allI k).map (Value.int .i64) ++ [.int .i64 (k : Int)]) → (wr.alloc (.cells #[.int .i64 (k : Int)] 3)).grownBy w' (Value.slice A3 (Pow.allI k).length c3).ownBlock → OwnI w' w1.heap.size 3 v' (Pow.allI (k + 1)) ∧ Ext w1 w') := by
        intro v' w' hown hg
        refine ⟨by unfold OwnI; rw [allI_succ, List.length_append, List.map_append]; exact hown, ext_grown he hg fun j hj => (hO.out.own_lt j hj).1⟩
      clear r3 r4 r5 hO
      go_wp2_with (at_builtin; refine wpList_app rfl _ _ 31 rfl w1.heap.size 3 ti (.int .i64 0) 1 8 Tryz.underlying31 hi hz0 hz1 hz2 rfl (by decide) (.slice A3 (Pow.allI k).length c3) (Pow.allI k).length _ rfl hOX (some ⟨wr.heap.size, 0, none⟩) 1 1 [.int .i64 (k : Int)] rfl rfl hsrc ?c2 ?c3 ?c4 ?c5 ?_; (case c2 => (intro u hu; rw [List.mem_singleton] at hu; subst hu; rfl)); (case c3 => (unfold maxLen; omega)); (case c4 => omega); (case c5 => omega); intro v' w5 hown hg hblk; have HO := Lib.hid (Hw.out v' w5 hown hg); clear hown hg hblk)
      go_roundw
      case rel => exact ⟨k + 1, by omega, by go_num, HO.out.1, HO.out.2⟩
      case measure => simp [intOf]; omega
    · obtain rfl : k = m.wvs.length := by omega
      go_wp2_with fail
      go_ret
      exact ⟨_, rfl, hO.out.mono hszE, hE.trans he⟩
set_option maxRecDepth 20000 in
set_option maxHeartbeats 1000000 in
theorem line7_any (v : Value) (m : PM) (hm : POk m) (k : Nat) (hk : k < m.wvs.length) (w : World) (hv : PMVal w v m) :
    Calls Tryz.prog 74 #[v, .int .i64 (k : Int)] w fun e w' => ∃ u, e = .returned u ∧ OwnI w' w.heap.size 3 u (m.line (m.wv k).shaft) ∧ Ext w w' := by
  obtain ⟨ti, hi, hz0, hz1, hz2⟩ := info_parts info_int
  obtain ⟨A1, c1, A2, c2, rfl, -, -, -, -, h6, h7⟩ := hv
  have hE := Ext.alloc w (.cells #[.slice A1 m.shafts.length c1, .slice A2 m.wvs.length c2] 54)
  have hM := Blk.new w 54 #[.slice A1 m.shafts.length c1, .slice A2 m.wvs.length c2]
  have hszE := hE.size
  have HM := Lib.hid hM
  have H6 := Lib.hid (h6.ext hE)
  obtain ⟨b2, o2, rfl, A3, c3, h3', j1, j2, j3⟩ := h7.ext hE k hk
  have hwv : m.wvs[k]?.getD default = m.wv k := rfl
  rw [hwv] at j1
  have hat := hm.at_ k hk
  obtain ⟨z, hz⟩ : ∃ z : Nat, (m.wv k).shaft = z := ⟨_, (Int.toNat_of_nonneg hat.1).symm⟩
  rw [hz] at j1 hat ⊢
  obtain ⟨L, hL⟩ : ∃ L, m.line z = L := ⟨_, rfl⟩
  have hzl : z < m.shafts.length := by omega
  have hLl : L.length ≤ 100 := by
    have := line_len hm.up z hzl
    have := hm.sz
    rw [hL] at *
    omega
  have hL0 : Hid ([] ++ m.line z = L) := hL
  have Hup := Lib.hid hm.up
  have hsz9 := hm.sz
  obtain ⟨k0, k1⟩ := hM.c2
  rw [hL]
  clear hL hM hz hwv j2 j3 h3' h6 h7 hm
  go_enter Tryz.func74, Tryz.ntmps74
  go_wp2_with fail
  generalize w.alloc _ = w1 at *
  clear k0 k1 j1
  go_loopw [5, 6] (fun u x wr => ∃ (y : Int) (acc : List Int), -1 ≤ y ∧ y < m.shafts.length ∧ x = .int .i64 y ∧ Hid (acc ++ m.line y = L) ∧ Hid (OwnI wr w1.heap.size 3 u acc) ∧ Ext w1 wr) (fun _ x _ => (intOf x + 1).toNat)
  case atStart => exact ⟨(z : Int), [], by omega, by omega, rfl, hL0, Lib.hid (OwnI.nil _ _ _), Ext.refl _⟩
  case round =>
    clear hL0
    obtain ⟨y, acc, hy1, hy2, rfl, hacc, hO, he⟩ := hrel
    by_cases h1 : y = -1
    · subst h1
      have e := hacc.out
      rw [Pow.line_neg m (by decide), List.append_nil] at e
      subst e
      go_wp2_with fail
      go_ret
      exact ⟨_, rfl, hO.out.mono hszE, hE.trans he⟩
    · obtain ⟨yy, rfl⟩ : ∃ yy : Nat, y = yy := ⟨y.toNat, by omega⟩
      have hyl : yy < m.shafts.length := by omega
      have hl := Pow.line_cons m Hup.out hyl
      have hup := Hup.out yy hyl
      have hl2 := hacc.out
      rw [hl, ← List.singleton_append, ← List.append_assoc] at hl2
      have hal : acc.length ≤ 100 := by
        have := congrArg List.length hacc.out
        rw [List.length_append] at this
        omega
      have hX := Ext.alloc wr (.cells #[.int .i64 (yy : Int)] 3)
      have hsrc := Src.one wr (.int .i64 (yy : Int)) 3
      have hOX := hO.out.ext hX
      have hsz := he.size
      have hszX := hX.size
      obtain ⟨A4, c4, rfl⟩ := ownsRow_slice hO.out
      obtain ⟨u, hu⟩ : ∃ u, (m.sh yy).up = u := ⟨_, rfl⟩
      rw [hu] at hl2 hup
      have Hl2 := Lib.hid hl2
      have Hw : Hid (∀ v' w', w'.ownsRow w1.heap.size 3 1 v' (acc.length + 1) (acc.map (Value.int .i64) ++ [.int .i64 (yy : Int)]) → (wr.alloc (.cells #[.int .i64 (yy : Int)] 3)).grownBy w' (Value.slice A4 acc.length c4).ownBlock → OwnI w' w1.heap.size 3 v' (acc ++ [(yy : Int)]) ∧ Ext w1 w') := by
        intro v' w' hown hg
        exact ⟨by unfold OwnI; rw [List.length_append, List.map_append]; exact hown, ext_grown he hg fun j hj => (hO.out.own_lt j hj).1⟩
      have Hu := Lib.hid hu
      clear hl hl2 hacc hO hu
      go_wp2_with (at_builtin; refine wpList_app rfl _ _ 31 rfl w1.heap.size 3 ti (.int .i64 0) 1 8 Tryz.underlying31 hi hz0 hz1 hz2 rfl (by decide) (.slice A4 acc.length c4) acc.length _ rfl hOX (some ⟨wr.heap.size, 0, none⟩) 1 1 [.int .i64 (yy : Int)] rfl rfl hsrc ?c2 ?c3 ?c4 ?c5 ?_; (case c2 => (intro u hu; rw [List.mem_singleton] at hu; subst hu; rfl)); (case c3 => (unfold maxLen; omega)); (case c4 => omega); (case c5 => omega); intro v' w5 hown hg hblk; have HO := Lib.hid (Hw.out v' w5 hown hg); obtain ⟨k0, k1⟩ := (HM.out.ext HO.out.2).c2; obtain ⟨b1, o1, e1, s1, s2⟩ := H6.out.ext HO.out.2 yy hyl; rw [show m.shafts[yy]?.getD default = m.sh yy from rfl, Hu.out] at s1; subst e1; clear hown hg hblk s2)
      go_roundw
      case rel => exact ⟨u, acc ++ [(yy : Int)], by omega, by omega, rfl, Hl2, HO.out.1, HO.out.2⟩
      case measure => simp [intOf]; omega
end Go.Proofs.Pet
