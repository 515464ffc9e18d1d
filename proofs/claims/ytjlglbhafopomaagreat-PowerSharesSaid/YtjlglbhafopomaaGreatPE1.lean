/-
  The reference's small functions, walked: off, has, Rising, List, bit, before, All, Line.
-/
import Derived.Test.YtjlglbhafopomaaGreatPD9
import Derived.Test.YtjlglbhafopomaaGreatSJ
namespace Go.Proofs.Pet
set_option linter.unusedSimpArgs false
open Go Go.RowKit Go.Maps Go.Shelf
open Go.Proofs.Pow (PM Sh Wv POk Up)

theorem off_any (n lo hi : Int) (q : Bool) (hq : inB n lo hi = q) (w : World) : Calls Tryz.prog 109 #[.int .i64 n, .int .i64 lo, .int .i64 hi] w fun e w' => e = .returned (.bool (!q)) ∧ w = w' := by
  unfold inB at hq
  go_enter Tryz.func109, Tryz.ntmps109
  by_cases h1 : n < lo
  · have : q = false := by rw [← hq]; simp; omega
    subst this
    clear hq
    go_wp2_with fail
    go_ret
    exact ⟨rfl, rfl⟩
  · by_cases h2 : hi < n
    · have : q = false := by rw [← hq]; simp; omega
      subst this
      clear hq
      go_wp2_with fail
      go_ret
      exact ⟨rfl, rfl⟩
    · have : q = true := by rw [← hq]; simp; omega
      subst this
      clear hq
      go_wp2_with fail
      go_ret
      exact ⟨rfl, rfl⟩
set_option maxRecDepth 20000 in
set_option maxHeartbeats 1000000 in
theorem has_any (k : Int) (A : Option Addr) (c n : Nat) (xs : List Int) (hn : xs.length = n) (q : Bool) (hq : xs.contains k = q) (w : World) (hl : n ≤ maxLen) (hA : IntsAt w A xs) :
    Calls Tryz.prog 110 #[.slice A n c, .int .i64 k] w fun e w' => e = .returned (.bool q) ∧ w = w' := by
  have Hn := Lib.hid hn; have Hq := Lib.hid hq; have HA := Lib.hid hA
  unfold maxLen at hl
  clear hn hq hA
  go_enter Tryz.func110, Tryz.ntmps110
  go_wp2_with fail
  go_loopw [5] (fun i wr => ∃ j : Nat, j ≤ n ∧ i = .int .i64 (j : Int) ∧ Hid ((xs.drop j).contains k = q) ∧ w = wr) (fun i _ => n - (intOf i).toNat)
  case atStart => exact ⟨0, Nat.zero_le _, rfl, Hq, rfl⟩
  case round =>
    clear Hq
    obtain ⟨j, hj, rfl, hq, rfl⟩ := hrel
    by_cases hlt : j < n
    · have hl1 : j < xs.length := by rw [Hn.out]; exact hlt
      obtain ⟨b, o, rfl, l1⟩ := HA.out j hl1
      rw [List.getElem?_eq_getElem hl1, Option.getD_some] at l1
      have hq2 := hq.out
      rw [List.drop_eq_getElem_cons hl1, List.contains_cons] at hq2
      obtain ⟨x, hx⟩ : ∃ x, xs[j] = x := ⟨_, rfl⟩
      rw [hx] at l1 hq2
      clear hx hq
      by_cases hxk : x = k
      · have ht : (x == k) = true := by simp [hxk]
        have : q = true := by rw [← hq2, hxk]; simp
        subst this
        clear hq2 hxk
        go_wp2_with fail
        go_ret
        exact ⟨rfl, rfl⟩
      · have ht : (x == k) = false := beq_eq_false_iff_ne.2 hxk
        have hq3 : Hid ((xs.drop (j + 1)).contains k = q) := by
          rw [beq_eq_false_iff_ne.2 (fun e => hxk e.symm), Bool.false_or] at hq2
          exact hq2
        clear hq2 hxk
        go_wp2_with fail
        go_roundw
        case rel => exact ⟨j + 1, by omega, by go_num, hq3, by trivial⟩
        case measure => simp [intOf]; omega
    · obtain rfl : j = n := by omega
      have : q = false := by rw [← hq.out, show xs.drop j = [] from List.drop_of_length_le (by rw [Hn.out]; exact Nat.le_refl _)]; rfl
      subst this
      clear hq
      go_wp2_with fail
      go_ret
      exact ⟨rfl, rfl⟩
theorem rising_at {xs : List Int} {q : Bool} (hq : risingB xs = q) : (q = true → ∀ i, 0 < i → i < xs.length → xs[i - 1]?.getD 0 < xs[i]?.getD 0) ∧ (q = false → ∃ i, 0 < i ∧ i < xs.length ∧ ¬ xs[i - 1]?.getD 0 < xs[i]?.getD 0) := by
  subst hq
  constructor
  · intro h i h1 h2
    have := (risingB_iff xs).1 h
    exact this i h1 h2
  · intro h
    apply Classical.byContradiction
    intro hn
    have : risingB xs = true := (risingB_iff xs).2 fun i h1 h2 => by
      apply Classical.byContradiction
      intro h3
      exact hn ⟨i, h1, h2, h3⟩
    rw [this] at h
    cases h
set_option maxRecDepth 20000 in
set_option maxHeartbeats 1000000 in
theorem rising7_any (A : Option Addr) (c n : Nat) (xs : List Int) (hn : xs.length = n) (q : Bool) (hq : risingB xs = q) (w : World) (hl : n ≤ maxLen) (hA : IntsAt w A xs) :
    Calls Tryz.prog 63 #[.slice A n c] w fun e w' => e = .returned (.bool q) ∧ Ext w w' := by
  obtain ⟨h1, h2⟩ := rising_at hq
  have Hn := Lib.hid hn; have H1 := Lib.hid h1; have H2 := Lib.hid h2; have HA := Lib.hid hA
  unfold maxLen at hl
  clear hn hq hA h1 h2
  go_enter Tryz.func63, Tryz.ntmps63
  go_wp2_with fail
  go_loopw [3] (fun i wr => ∃ k : Int, 1 ≤ k ∧ (k ≤ n ∨ k = 1) ∧ i = .int .i64 k ∧ Hid (∀ i : Nat, 0 < i → (i : Int) < k → i < n → xs[i - 1]?.getD 0 < xs[i]?.getD 0) ∧ Ext w wr) (fun i _ => (n + 1 - intOf i).toNat)
  case atStart => exact ⟨1, Int.le_refl _, .inr rfl, rfl, (fun i h1 h2 => by omega), Ext.refl _⟩
  case round =>
    obtain ⟨k, hk1, hk2, rfl, hm, he⟩ := hrel
    by_cases hlt : k < n
    · obtain ⟨jj, rfl⟩ : ∃ jj : Nat, k = (jj : Int) + 1 := ⟨(k - 1).toNat, by omega⟩
      obtain ⟨b, o, rfl, l1⟩ := HA.out (jj + 1) (by rw [Hn.out]; omega)
      obtain ⟨b', o', e', l2⟩ := HA.out jj (by rw [Hn.out]; omega)
      cases e'
      obtain ⟨x, hx⟩ : ∃ x, xs[jj + 1]?.getD 0 = x := ⟨_, rfl⟩
      obtain ⟨y, hy⟩ : ∃ y, xs[jj]?.getD 0 = y := ⟨_, rfl⟩
      rw [hx] at l1
      rw [hy] at l2
      have r1 := he.cell l1
      have r2 := he.cell l2
      have Hx := Lib.hid hx; have Hy := Lib.hid hy
      have he0 := he
      clear hx hy he hk2 l1 l2
      obtain ⟨z, hz⟩ : ∃ z, decide (x ≤ y) = z := ⟨_, rfl⟩
      have Hz := Lib.hid hz
      cases z with
      | false =>
        have hm2 : Hid (∀ i : Nat, 0 < i → (i : Int) < (jj : Int) + 1 + 1 → i < n → xs[i - 1]?.getD 0 < xs[i]?.getD 0) := fun i h1 h2 h3 => by
          by_cases e : i = jj + 1
          · subst e
            rw [Nat.add_sub_cancel, Hx.out, Hy.out]
            have := Hz.out
            rw [decide_eq_false_iff_not] at this
            omega
          · exact hm.out i h1 (by omega) h3
        clear hm Hx Hy
        go_upto_region 4 with fail
        refine wp_region_chain 10 [] [] (by kernel_rfl) (by kernel_rfl) (by kernel_rfl) ?_
        simp only [List.take, List.drop, fill, Act.put, List.setIfInBounds_toArray, List.set_cons_zero, List.set_cons_succ, Nat.reduceAdd]
        repeat (first
          | refine Floats.mut rfl ?_
          | (apply Floats.float rfl
             · intro x W he hd K Q hK
               try (have he := he (by decide); have r1 := he.cell r1; have r2 := he.cell r2)
               try simp only [edges, DepsE, List.filter_cons, List.filter_nil, Region.binds, if_true, and_true, true_and, upd, Nat.reduceEqDiff, if_false] at hd
               try simp only [hd] at hK ⊢
               have HK := Lib.hid hK; clear hK
               go_wp2_with fail
               exact HK.out))
        refine Floats.done fun W he hG => ?_
        refine Chain.nil ?_
        simp only [upd, Nat.reduceEqDiff, if_false, if_true]
        go_wp2_with fail
        go_roundw
        case rel => exact ⟨(jj : Int) + 1 + 1, by omega, .inl (by omega), by go_num, hm2, he0.trans he⟩
        case measure => simp [intOf]; omega
      | true =>
        have : q = false := by
          cases q with
          | false => rfl
          | true =>
            have := H1.out rfl (jj + 1) (by omega) (by rw [Hn.out]; omega)
            rw [Nat.add_sub_cancel, Hx.out, Hy.out] at this
            have h2 := Hz.out
            rw [decide_eq_true_eq] at h2
            omega
        subst this
        clear hm Hx Hy H1 H2 Hz HA Hn hk1
        go_upto_region 4 with fail
        refine wp_region_chain 10 [] [] (by kernel_rfl) (by kernel_rfl) (by kernel_rfl) ?_
        simp only [List.take, List.drop, fill, Act.put, List.setIfInBounds_toArray, List.set_cons_zero, List.set_cons_succ, Nat.reduceAdd]
        repeat (first
          | refine Floats.mut rfl ?_
          | (apply Floats.float rfl
             · intro x W he hd K Q hK
               try (have he := he (by decide); have r1 := he.cell r1; have r2 := he.cell r2)
               try simp only [edges, DepsE, List.filter_cons, List.filter_nil, Region.binds, if_true, and_true, true_and, upd, Nat.reduceEqDiff, if_false] at hd
               try simp only [hd] at hK ⊢
               have HK := Lib.hid hK; clear hK
               go_wp2_with fail
               exact HK.out))
        refine Floats.done fun W he hG => ?_
        refine Chain.nil ?_
        simp only [upd, Nat.reduceEqDiff, if_false, if_true]
        go_wp2_with fail
        go_ret
        exact ⟨rfl, he0.trans he⟩
    · have : q = true := by
        cases q with
        | true => rfl
        | false =>
          obtain ⟨i, h1, h2, h3⟩ := H2.out rfl
          have h4 := hm.out i h1 (by have := Hn.out; omega) (by have := Hn.out; omega); omega
      subst this
      clear hm hk2
      go_wp2_with fail
      go_ret
      exact ⟨rfl, he⟩
/-- the numbers that the bits of a number say -/
def listL (s k : Nat) : List Int := if _h : s = 0 then [] else (if s % 2 = 1 then [(k : Int)] else []) ++ listL (s / 2) (k + 1)
termination_by s
decreasing_by omega
theorem listL_pos {s k : Nat} (h : s ≠ 0) : listL s k = (if s % 2 = 1 then [(k : Int)] else []) ++ listL (s / 2) (k + 1) := by
  rw [listL, dif_neg h]
theorem listL_zero (k : Nat) : listL 0 k = [] := by rw [listL, dif_pos rfl]
theorem mem_listL {x : Int} : ∀ {s k : Nat}, x ∈ listL s k ↔ ∃ t : Nat, x = (k + t : Nat) ∧ s.testBit t = true := by
  intro s
  induction s using Nat.strongRecOn with
  | _ s ih =>
    intro k
    by_cases h : s = 0
    · subst h
      rw [listL_zero]
      simp
    · rw [listL_pos h, List.mem_append, ih (s / 2) (by omega)]
      constructor
      · rintro (h1 | ⟨t, rfl, h2⟩)
        · by_cases h2 : s % 2 = 1
          · rw [if_pos h2, List.mem_singleton] at h1
            exact ⟨0, by omega, by simp [Nat.testBit_zero, h2]⟩
          · rw [if_neg h2] at h1; cases h1
        · exact ⟨t + 1, by omega, by rw [Nat.testBit_succ]; exact h2⟩
      · rintro ⟨t, rfl, h2⟩
        cases t with
        | zero =>
          left
          have : s % 2 = 1 := by simpa [Nat.testBit_zero] using h2
          rw [if_pos this]; simp
        | succ t => exact .inr ⟨t, by omega, by rw [Nat.testBit_succ] at h2; exact h2⟩
theorem listL_sorted : ∀ {s k : Nat}, (listL s k).Pairwise (· < ·) ∧ ∀ x, x ∈ listL s k → (k : Int) ≤ x := by
  intro s
  induction s using Nat.strongRecOn with
  | _ s ih =>
    intro k
    refine ⟨?_, fun x hx => by obtain ⟨t, rfl, -⟩ := mem_listL.1 hx; omega⟩
    by_cases h : s = 0
    · subst h; rw [listL_zero]; exact List.Pairwise.nil
    · rw [listL_pos h]
      obtain ⟨h1, h2⟩ := ih (s / 2) (by omega) (k := k + 1)
      by_cases h3 : s % 2 = 1
      · rw [if_pos h3]
        exact List.pairwise_cons.2 ⟨fun x hx => by have := h2 x hx; omega, h1⟩
      · rw [if_neg h3]; exact h1
theorem listL_bits {n s : Nat} (hs : s < 2 ^ n) : listL s 0 = ints (Pow.bitsL n s) := by
  have h1 := (listL_sorted (s := s) (k := 0))
  have e : listL s 0 = ints ((listL s 0).map Int.toNat) := by
    unfold ints
    rw [List.map_map]
    refine ((List.map_congr_left fun x hx => ?_).trans (List.map_id _)).symm
    have := h1.2 x hx
    show ((x.toNat : Nat) : Int) = id x
    simp only [id]; omega
  rw [e]
  congr 1
  refine Pow.sorted_ext ?_ (Pow.bitsL_up n s).1 fun x => ?_
  · rw [List.pairwise_map]
    refine h1.1.imp_of_mem fun {a b} ha hb hab => ?_
    have := h1.2 a ha
    omega
  · rw [Pow.mem_bitsL, List.mem_map]
    constructor
    · rintro ⟨y, hy, rfl⟩
      obtain ⟨t, rfl, ht⟩ := mem_listL.1 hy
      rw [Nat.zero_add, Int.toNat_natCast]
      refine ⟨?_, ht⟩
      apply Classical.byContradiction
      intro hn
      have := Nat.testBit_lt_two_pow (Nat.lt_of_lt_of_le hs (Nat.pow_le_pow_right (by omega) (show n ≤ t by omega)))
      rw [this] at ht; cases ht
    · rintro ⟨-, ht⟩
      exact ⟨(x : Int), mem_listL.2 ⟨x, by omega, ht⟩, rfl⟩
theorem listL_len : ∀ {s k b : Nat}, s < 2 ^ b → (listL s k).length ≤ b := by
  intro s
  induction s using Nat.strongRecOn with
  | _ s ih =>
    intro k b hb
    by_cases h : s = 0
    · subst h; rw [listL_zero]; simp
    · cases b with
      | zero => simp at hb; omega
      | succ b =>
        rw [listL_pos h, List.length_append]
        have := ih (s / 2) (by omega) (k := k + 1) (b := b) (by rw [Nat.pow_succ] at hb; omega)
        split <;> simp <;> omega
end Go.Proofs.Pet
