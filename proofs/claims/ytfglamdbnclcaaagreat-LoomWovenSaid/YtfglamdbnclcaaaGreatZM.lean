/-
  LoomWoven: the table that is made bounds, with the fewest changes as its least; a mill of the first orders alone; plans that are given. No program is named here.
-/
import Derived.Test.YtfglamdbnclcaaaGreatZE9
import Derived.Test.YtfglamdbnclcaaaGreatZK
import Derived.Test.YtfglamdbnclcaaaGreatT6
import Derived.Test.YtfglamdbnclcaaaGreatUA
namespace Go.Proofs.Pet
open Go

theorem stepL_same {m : Mill} {num num' : Nat → Nat → Int} {rest order : Nat} : ∀ (l : List Nat), (∀ x, x ∈ l → num rest x = num' rest x) → stepL m num rest order l = stepL m num' rest order l := by
  intro l h
  unfold stepL
  have key : ∀ (l : List Nat) (a : Int), (∀ x, x ∈ l → num rest x = num' rest x) → l.foldl (fun n x => if num rest x = 99 then n else min n (num rest x + chg (m.pat x) (m.pat order))) a = l.foldl (fun n x => if num' rest x = 99 then n else min n (num' rest x + chg (m.pat x) (m.pat order))) a := by
    intro l
    induction l with
    | nil => intro _ _; rfl
    | cons y l ih =>
      intro a h
      rw [List.foldl_cons, List.foldl_cons, h y (by simp)]
      exact ih _ fun x hx => h x (by simp [hx])
  exact key l 99 h
theorem stepS_same {m : Mill} {num num' : Nat → Nat → Int} {loom set order : Nat} (h : ∀ x, x < m.orders.length → num (sdiff set (2 ^ order)) x = num' (sdiff set (2 ^ order)) x) : stepS m num loom set order = stepS m num' loom set order := by
  have e : stepN m num loom (sdiff set (2 ^ order)) order = stepN m num' loom (sdiff set (2 ^ order)) order := by
    unfold stepN
    rw [stepL_same _ fun x hx => h x (mem_bits.1 hx).1]
  unfold stepS
  rw [e]
theorem tabC_F {m : Mill} {l s k : Nat} (h1 : l < m.laced.length) (h2 : s < 2 ^ m.orders.length) (h3 : k < m.orders.length) : tabF (tabC m) l s k = costC m l s k := by
  unfold tabF
  rw [tabC_get h1, rowsC_at h2, lst_get _ h3]
theorem tabC_bounds {m : Mill} (hn : m.orders.length ≤ 7) : boundsQ m (tabF (tabC m)) = true := boundsQ_iff.2 fun l s k h1 h2 h3 h4 => by
  have h7 : 2 ^ m.orders.length ≤ 2 ^ 7 := Nat.pow_le_pow_right (by omega) hn
  rw [tabC_F h1 h2 h3, stepS_same (num' := costC m l) fun x hx => tabC_F h1 (Nat.lt_of_le_of_lt (sdiff_le _ _) h2) hx, ← costC_in m l s k (by omega) h4]
  exact Int.le_refl _
theorem tabC_num {m : Mill} (hn : m.orders.length ≤ 7) {l s : Nat} (h1 : l < m.laced.length) (h2 : s < 2 ^ m.orders.length) : numT m.orders.length (tabF (tabC m)) l s = numC m l s := by
  rw [← numT_cost m hn]
  unfold numT
  split
  · rfl
  · have : ∀ (b : List Nat) (a : Int), (∀ k, k ∈ b → k < m.orders.length) → b.foldl (fun a k => min a (tabF (tabC m) l s k)) a = b.foldl (fun a k => min a (costC m l s k)) a := by
      intro b
      induction b with
      | nil => intro _ _; rfl
      | cons k b ih =>
        intro a hb
        rw [List.foldl_cons, List.foldl_cons, tabC_F h1 h2 (hb k (by simp))]
        exact ih _ fun k hk => hb k (by simp [hk])
    exact this _ _ fun k hk => (mem_bits.1 hk).1
theorem sumF_le {num num' : Nat → Nat → Int} {n L s : Nat} (hL : L ≤ 3) (h0 : ∀ l s, 0 ≤ num l s) (h0' : ∀ l s, 0 ≤ num' l s) (hs : s < 2 ^ n) (hle : ∀ l t, l < L → t < 2 ^ n → num' l t ≤ num l t) (hp : sumF num L s < 297) : sumF num' L s ≤ sumF num L s := by
  obtain ⟨f, h1, h2, h3, h4⟩ := (sumF_least num h0 L s hL).2 hp
  have hlt : ∀ i, i < L → f i < 2 ^ n := fun i hi => by
    refine Nat.lt_pow_two_of_testBit _ fun j hj => ?_
    rw [Bool.eq_false_iff]
    intro e
    have := (h3 j).2 ⟨i, hi, e⟩
    rw [Nat.testBit_lt_two_pow (Nat.lt_of_lt_of_le hs (Nat.pow_le_pow_right (by omega) hj))] at this
    cases this
  have hP : Part num' L s (tot num' f L) := ⟨f, fun i hi => by have := hle i (f i) hi (hlt i hi); have := h1 i hi; omega, rfl, h3, h4⟩
  rw [h2]
  exact Int.le_trans ((sumF_least num' h0' L s hL).1 _ hP) (tot_le _ fun i hi => hle i (f i) hi (hlt i hi))
/-- what Bounds and Least say of the table that is made -/
theorem tabC_law {m : Mill} (hok : MillOk m) : boundE m (tabC m) = (true, 0) ∧
    ((planF m = none ∧ leastE m (tabC m) = (0, 6)) ∨ ∃ rows, planF m = some rows ∧ leastE m (tabC m) = (chgF m rows rows.length, 0)) := by
  have hch := (check_iff m).2 hok
  have hT := (tabC_ok hch).tabE
  have hq := tabC_bounds hok.few
  have hlt : 2 ^ m.orders.length - 1 < 2 ^ m.orders.length := by have := Nat.two_pow_pos m.orders.length; omega
  refine ⟨by unfold boundE; rw [hT, hq]; rfl, ?_⟩
  have hl : leastE m (tabC m) = if 297 ≤ sumF (numT m.orders.length (tabF (tabC m))) m.laced.length (2 ^ m.orders.length - 1) then (0, 6) else (sumF (numT m.orders.length (tabF (tabC m))) m.laced.length (2 ^ m.orders.length - 1), 0) := by
    unfold leastE; rw [if_pos hT, if_pos hq]
  have n0 : ∀ l s, 0 ≤ numT m.orders.length (tabF (tabC m)) l s := fun l s => (numT_bd (fun l s k => ((tabC_ok hch).bd l s k).1) l s).1
  have n1 : ∀ l s, 0 ≤ numC m l s := fun l s => (numC_bd m l s).1
  have e1 : sumF (numC m) m.laced.length (2 ^ m.orders.length - 1) < 297 → sumF (numT m.orders.length (tabF (tabC m))) m.laced.length (2 ^ m.orders.length - 1) ≤ sumF (numC m) m.laced.length (2 ^ m.orders.length - 1) :=
    sumF_le hok.looms.2 n1 n0 hlt fun l t h1 h2 => Int.le_of_eq (tabC_num hok.few h1 h2)
  have e2 : sumF (numT m.orders.length (tabF (tabC m))) m.laced.length (2 ^ m.orders.length - 1) < 297 → sumF (numC m) m.laced.length (2 ^ m.orders.length - 1) ≤ sumF (numT m.orders.length (tabF (tabC m))) m.laced.length (2 ^ m.orders.length - 1) :=
    sumF_le hok.looms.2 n0 n1 hlt fun l t h1 h2 => Int.le_of_eq (tabC_num hok.few h1 h2).symm
  rw [hl]
  cases hp : planF m with
  | none =>
    have h9 : ¬ sumF (numC m) m.laced.length (2 ^ m.orders.length - 1) < 297 := by
      intro h
      unfold planF at hp
      rw [if_pos h] at hp
      cases hp
    refine .inl ⟨rfl, if_pos ?_⟩
    rcases Int.lt_or_le (sumF (numT m.orders.length (tabF (tabC m))) m.laced.length (2 ^ m.orders.length - 1)) 297 with h | h
    · have := e2 h; omega
    · exact h
  | some rows =>
    have h9 : sumF (numC m) m.laced.length (2 ^ m.orders.length - 1) < 297 := by
      unfold planF at hp
      split at hp
      · assumption
      · cases hp
    have h1 := e1 h9
    have h2 := e2 (by omega)
    refine .inr ⟨rows, rfl, ?_⟩
    rw [if_neg (by omega), (plan_law hch hp).sum, fewR_sum m hch _ hlt, if_pos h9]
    congr 1
    omega
/-- a mill of the first orders alone -/
def Mill.cut (m : Mill) (k : Nat) : Mill := { m with orders := m.orders.take k }
theorem cut_len {m : Mill} {k : Nat} (hk : k ≤ m.orders.length) : (m.cut k).orders.length = k := by
  unfold Mill.cut; rw [List.length_take]; omega
theorem cut_ok {m : Mill} (h : MillOk m) (k : Nat) : MillOk (m.cut k) :=
  { h with
    few := Nat.le_trans (by unfold Mill.cut; rw [List.length_take]; omega) h.few
    ords := fun o ho => h.ords o (List.mem_of_mem_take ho) }
theorem cut_emb {m : Mill} {k : Nat} (hk : k ≤ m.orders.length) : Emb (m.cut k) m id := by
  have hl := cut_len hk
  refine ⟨rfl, rfl, fun j hj => by show j < _; omega, fun j hj => ?_, fun _ _ _ _ h => h⟩
  show m.orders[j]?.getD default = (m.orders.take k)[j]?.getD default
  rw [List.getElem?_take, if_pos (by omega)]
theorem cut_plan {m : Mill} (hok : MillOk m) {k : Nat} (hk : k ≤ m.orders.length) : planF (m.cut k) = none ↔ 297 ≤ sumF (numC m) m.laced.length (2 ^ k - 1) := by
  have hl := cut_len hk
  have hch := (check_iff m).2 hok
  have hb : ∀ j, (sdiff (2 ^ m.orders.length - 1) (2 ^ k - 1)).testBit j = true ↔ j < m.orders.length ∧ ¬ j < k := fun j => by
    rw [sdiff_full, Nat.testBit_two_pow_sub_one]; simp
  rw [planF_feas ((check_iff _).2 (cut_ok hok k)), (cut_emb hk).feas (off := sdiff (2 ^ m.orders.length - 1) (2 ^ k - 1)) fun j hj => ?_, feas_iff hch]
  · have e : sdiff (2 ^ m.orders.length - 1) (sdiff (2 ^ m.orders.length - 1) (2 ^ k - 1)) = 2 ^ k - 1 := by
      apply Nat.eq_of_testBit_eq
      intro j
      rw [Bool.eq_iff_iff, sdiff_full, Nat.testBit_two_pow_sub_one, decide_eq_true_eq, ← Bool.not_eq_true, hb]
      omega
    rw [e]
    omega
  · rw [← Bool.not_eq_true, hb, hl]
    constructor
    · intro h; exact ⟨j, by omega, rfl⟩
    · rintro ⟨i, hi, e⟩
      have e : i = j := e
      omega
/-- what First says, and the mills of the first orders -/
theorem first_law {m : Mill} (hok : MillOk m) : (planF m ≠ none ∧ firstE m = (0, 6)) ∨ ∃ k : Nat, k < m.orders.length ∧ planF m = none ∧ firstE m = ((k : Int), 0) ∧ planF (m.cut k) ≠ none ∧ planF (m.cut (k + 1)) = none := by
  have hch := (check_iff m).2 hok
  have hfull : planF m = none ↔ 297 ≤ sumF (numC m) m.laced.length (2 ^ m.orders.length - 1) := by
    have := cut_plan hok (Nat.le_refl m.orders.length)
    have e : m.cut m.orders.length = m := by unfold Mill.cut; rw [List.take_length]
    rwa [e] at this
  have hzero : planF (m.cut 0) ≠ none := by
    rw [Ne, cut_plan hok (Nat.zero_le _)]
    have hF : Feas m (2 ^ m.orders.length - 1) := feas_all m
    rw [feas_iff hch] at hF
    have e : sdiff (2 ^ m.orders.length - 1) (2 ^ m.orders.length - 1) = 2 ^ 0 - 1 := by
      apply Nat.eq_of_testBit_eq
      intro j
      rw [testBit_sdiff]; simp
    rw [e] at hF
    omega
  unfold firstE
  rw [if_pos hch]
  cases h : firstS m with
  | none =>
    refine .inl ⟨?_, rfl⟩
    unfold firstS at h
    rw [List.find?_eq_none] at h
    rw [Ne, hfull]
    by_cases h0 : m.orders.length = 0
    · rw [h0]
      have := hzero
      rwa [Ne, cut_plan hok (Nat.zero_le _)] at this
    · have := h (m.orders.length - 1) (List.mem_range.2 (by omega))
      rw [show m.orders.length - 1 + 1 = m.orders.length by omega] at this
      simpa using this
  | some k =>
    unfold firstS at h
    rw [List.find?_eq_some_iff_append] at h
    obtain ⟨hp, pre, bs, h1, h2⟩ := h
    have hkm : k ∈ List.range m.orders.length := by rw [h1]; simp
    have hk := List.mem_range.1 hkm
    have has : pre = List.range k := by
      have e1 : (List.range m.orders.length)[pre.length]? = some k := by rw [h1]; simp
      have e2 : pre.length < m.orders.length := by
        have := congrArg List.length h1
        simp at this
        omega
      rw [List.getElem?_range e2] at e1
      have e3 : pre.length = k := Option.some.inj e1
      have e4 := congrArg (List.take k) h1
      rw [List.take_range, Nat.min_eq_left (by omega), ← e3, List.take_left] at e4
      rw [← e3]; exact e4.symm
    have hp' : 297 ≤ sumF (numC m) m.laced.length (2 ^ (k + 1) - 1) := by simpa using hp
    have hcut : planF (m.cut (k + 1)) = none := (cut_plan hok (by omega)).2 hp'
    refine .inr ⟨k, hk, ?_, rfl, ?_, hcut⟩
    · rw [planF_feas hch]
      intro hF
      rw [planF_feas ((check_iff _).2 (cut_ok hok (k + 1)))] at hcut
      exact hcut ((cut_emb (by omega)).few hok ((check_iff _).2 (cut_ok hok (k + 1))) hch hF).1
    · cases k with
      | zero => exact hzero
      | succ k =>
        rw [Ne, cut_plan hok (by omega)]
        have := h2 k (by rw [has]; exact List.mem_range.2 (by omega))
        simpa using this
/-- a plan that is given: its rows name each order once, at a loom that weaves it -/
theorem given_law {m : Mill} (hok : MillOk m) {X : Nat → List Int} (hX : GivenOk m (ints (List.range m.orders.length)) X) (rows : List (List Int)) (hr : (List.range m.laced.length).map X = rows) :
    plE m rows = 0 ∧ keepsB m rows = keptQ m rows ∧ (keptQ m rows = true → keptB m rows = true ∧ planF m ≠ none ∧ ∀ pl, planF m = some pl → chgF m pl pl.length ≤ chgF m rows rows.length) := by
  have hch := (check_iff m).2 hok
  have hlen : rows.length = m.laced.length := by rw [← hr]; simp
  have hget : ∀ i, i < m.laced.length → rows[i]?.getD [] = X i := fun i hi => by rw [← hr, List.getElem?_map, List.getElem?_range hi]; rfl
  have hperm : rows.flatten.Perm (ints (List.range m.orders.length)) := by rw [← hr]; exact hX.perm
  have hnd : rows.flatten.Nodup := hperm.nodup_iff.2 (nodup_ints List.nodup_range)
  have hfl : rows.flatten.length = m.orders.length := by rw [hperm.length_eq]; simp [ints]
  have hwa : weavesAll m rows = true := weavesAll_true fun j hj => by
    rw [hget j (by omega), List.all_eq_true]
    exact fun x hx => hX.on j x hx
  have hli : listedE m rows.flatten = 0 := by
    unfold listedE
    rw [if_neg, if_neg]
    · rw [twice_of_nodup hnd]; simp
    · rw [Bool.not_eq_false, List.all_eq_true]
      intro x hx
      obtain ⟨k, hk, rfl⟩ := ints_mem.1 (hperm.mem_iff.1 hx)
      have := List.mem_range.1 hk
      unfold inB; simp; omega
  have hndr : ∀ i, i < m.laced.length → (X i).Nodup := fun i hi => by
    have hm : X i ∈ rows := by rw [← hr]; exact List.mem_map.2 ⟨i, List.mem_range.2 hi, rfl⟩
    have h1 := hnd
    rw [List.nodup_iff_pairwise_ne, List.pairwise_flatten] at h1
    rw [List.nodup_iff_pairwise_ne]
    exact h1.1 _ hm
  have hapart : ∀ i i' x, i < i' → i' < m.laced.length → x ∈ X i → x ∉ X i' := fun i i' x hlt hi' h1 h2 => by
    have h3 := hnd
    rw [List.nodup_iff_pairwise_ne, List.pairwise_flatten, ← hr, List.pairwise_map] at h3
    have h4 := h3.2
    have h5 := List.pairwise_iff_getElem.1 h4 i i' (by rw [List.length_range]; omega) (by rw [List.length_range]; exact hi') hlt
    rw [List.getElem_range, List.getElem_range] at h5
    exact h5 x h1 x h2 rfl
  have hpl : plE m rows = 0 := by
    unfold plE
    rw [if_neg (by rw [hch]; simp), if_neg (by rw [hlen]; simp), if_neg (by rw [hli]; simp), if_neg (by rw [hwa]; simp)]
  have hkb : keptB m rows = true ↔ ∀ i, i < m.laced.length → tmR m i (rvI (X i)) = true := by
    rw [keptB_iff]
    constructor
    · rintro ⟨_, h⟩ i hi
      have := h i (by omega)
      rw [hget i hi] at this
      exact (okW_iff.1 this).2.2.2
    · refine fun h => ⟨hlen, fun i hi => ?_⟩
      rw [hget i (by omega), okW_iff]
      refine ⟨fun x hx => hX.rng i x hx, ?_, fun x hx => hX.on i x hx, h i (by omega)⟩
      exact hndr i (by omega)
  have hkq : keptQ m rows = keptB m rows := by
    unfold keptQ
    rw [decide_eq_true hnd, decide_eq_true hfl]; simp
  have hall : ∀ k, k < m.orders.length → ∃ i, i < m.laced.length ∧ (k : Int) ∈ X i := fun k hk => by
    have : (k : Int) ∈ rows.flatten := hperm.mem_iff.2 (ints_mem.2 ⟨k, List.mem_range.2 hk, rfl⟩)
    obtain ⟨l, hl, hx⟩ := List.mem_flatten.1 this
    rw [← hr] at hl
    obtain ⟨i, hi, rfl⟩ := List.mem_map.1 hl
    exact ⟨i, List.mem_range.1 hi, hx⟩
  refine ⟨hpl, ?_, fun hq => ?_⟩
  · rw [hkq, Bool.eq_iff_iff, ← keeps_law hpl, allSet_iff, tmU_iff, hkb]
    constructor
    · rintro ⟨h, _⟩ i hi
      have := h i (by omega)
      rwa [hget i hi] at this
    · refine fun h => ⟨fun i hi => by rw [hget i (by omega)]; exact h i (by omega), fun k hk => ?_⟩
      rcases endsUp_last m rows k rows.length with ⟨_, e2⟩ | ⟨i, j, e1, e2, e3, e4⟩
      · obtain ⟨i, hi, hx⟩ := hall k hk
        obtain ⟨j, hj, e⟩ := List.mem_iff_getElem.1 hx
        have h9 := e2 i j (by omega) (by rw [hget i hi]; exact hj)
        rw [hget i hi, List.getElem?_eq_getElem hj, e] at h9
        exact absurd (by simp) h9
      · rw [e4]
        have := (dyR_bd hch i (rvI ((rows[i]?.getD []).take (j + 1))) fun y hy => by
          unfold rvI at hy
          rw [List.mem_reverse, List.mem_map] at hy
          obtain ⟨x, hx, rfl⟩ := hy
          rw [hget i (by omega)] at hx
          have := hX.rng i x (List.mem_of_mem_take hx)
          omega).1
        omega
  · rw [hkq] at hq
    have hmem : ∀ i j, j ∈ rvI (X i) ↔ (j : Int) ∈ X i := fun i j => by
      unfold rvI
      rw [List.mem_reverse, List.mem_map]
      constructor
      · rintro ⟨x, hx, rfl⟩
        have := hX.rng i x hx
        rwa [Int.toNat_of_nonneg this.1]
      · intro h; exact ⟨_, h, by simp⟩
    have hP : PlanOf m (fun j => j < m.orders.length) fun i => rvI (X i) := by
      refine ⟨fun i hi => ?_, fun i hi j hj => ?_, fun i hi => hkb.1 hq i hi, fun j => ?_, fun i i' j hi hi' h1 h2 => ?_⟩
      · unfold rvI
        rw [(List.reverse_perm _).nodup_iff, List.nodup_iff_pairwise_ne, List.pairwise_map]
        exact (List.nodup_iff_pairwise_ne.1 (hndr i hi)).imp_of_mem fun {a b} ha hb hab e => by
          have := hX.rng i a ha; have := hX.rng i b hb; omega
      · have h1 := (hmem i j).1 hj
        have h2 := hX.rng i _ h1
        have h3 := hX.on i _ h1
        unfold weavesI at h3
        rw [Int.toNat_natCast] at h3
        exact ⟨by omega, h3⟩
      · constructor
        · intro hj
          obtain ⟨i, hi, hx⟩ := hall j hj
          exact ⟨i, hi, (hmem i j).2 hx⟩
        · rintro ⟨i, _, hj⟩
          have := hX.rng i _ ((hmem i j).1 hj)
          omega
      · rcases Nat.lt_trichotomy i i' with h | h | h
        · exact absurd ((hmem i' j).1 h2) (hapart i i' _ h hi' ((hmem i j).1 h1))
        · exact h
        · exact absurd ((hmem i j).1 h1) (hapart i' i _ h hi ((hmem i' j).1 h2))
    refine ⟨hq, ?_, fun pl hpl' => ?_⟩
    · rw [Ne, planF_feas hch]
      intro h
      refine h ⟨_, hP.nodup, hP.mem, hP.tm, fun j => ?_, hP.once⟩
      rw [← hP.all j]; simp
    · rw [(plan_law hch hpl').sum]
      refine Int.le_trans (few_le hch hP) (Int.le_of_eq ?_)
      rw [totC_sum, chgF_sum, hlen]
      congr 1
      exact List.map_congr_left fun i hi => by rw [hget i (List.mem_range.1 hi)]
theorem plan_keeps {m : Mill} (hok : MillOk m) {rows : List (List Int)} (h : PlanIsOk m rows) : keepsB m rows = true := by
  have hr : (List.range m.laced.length).map (fun i => rows[i]?.getD []) = rows := by
    apply List.ext_getElem
    · simp [h.len]
    · intro i h1 h2
      simp [h2]
  obtain ⟨_, _, _, h4⟩ := plE_ok h.pl
  have hX : GivenOk m (ints (List.range m.orders.length)) (fun i => rows[i]?.getD []) := by
    refine ⟨fun i x hx => ?_, fun i x hx => ?_, by rw [hr]; exact h.perm⟩
    · by_cases hi : i < rows.length
      · exact h.rng i hi x hx
      · rw [List.getElem?_eq_none (by omega)] at hx; simp at hx
    · by_cases hi : i < rows.length
      · unfold weavesAll at h4
        exact List.all_eq_true.1 (List.all_eq_true.1 h4 i (List.mem_range.2 hi)) x hx
      · rw [List.getElem?_eq_none (by omega)] at hx; simp at hx
  rw [(given_law hok hX rows hr).2.1, h.kept]
end Go.Proofs.Pet
