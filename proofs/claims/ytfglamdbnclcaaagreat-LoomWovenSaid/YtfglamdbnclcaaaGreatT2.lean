/-
  Tables that bound: at most what runs in time cost; their least is at most what plans that keep cost. No program is named here.
-/
import Derived.Test.YtfglamdbnclcaaaGreatR2
import Derived.Test.YtfglamdbnclcaaaGreatT21
namespace Go.Proofs.Pet
open Go

theorem stepL_mono {m : Mill} {num num' : Nat → Nat → Int} {rest order : Nat} (h : ∀ x, num rest x ≤ num' rest x) (h9 : ∀ x, num' rest x ≤ 99) : ∀ (l : List Nat), stepL m num rest order l ≤ stepL m num' rest order l := by
  intro l
  unfold stepL
  suffices ∀ a b : Int, a ≤ b → l.foldl (fun n x => if num rest x = 99 then n else min n (num rest x + chg (m.pat x) (m.pat order))) a ≤ l.foldl (fun n x => if num' rest x = 99 then n else min n (num' rest x + chg (m.pat x) (m.pat order))) b from this 99 99 (Int.le_refl _)
  induction l with
  | nil => intro a b h; exact h
  | cons x l ih =>
    intro a b hab
    refine ih _ _ ?_
    have h1 := h x; have h2 := h9 x
    dsimp only
    split <;> split <;> omega
theorem stepN_mono {m : Mill} {num num' : Nat → Nat → Int} {loom rest order : Nat} (h : ∀ x, num rest x ≤ num' rest x) (h9 : ∀ x, num' rest x ≤ 99) : stepN m num loom rest order ≤ stepN m num' loom rest order := by
  unfold stepN
  split
  · exact Int.le_refl _
  · exact stepL_mono h h9 _
theorem stepS_mono {m : Mill} (hc : 0 ≤ m.change) {num num' : Nat → Nat → Int} {loom set order : Nat} (h : ∀ x, num (sdiff set (2 ^ order)) x ≤ num' (sdiff set (2 ^ order)) x) (h9 : ∀ x, num' (sdiff set (2 ^ order)) x ≤ 99) : stepS m num loom set order ≤ stepS m num' loom set order := by
  have hn := stepN_mono (m := m) (loom := loom) (order := order) h h9
  unfold stepS
  have hm : m.change * stepN m num loom (sdiff set (2 ^ order)) order ≤ m.change * stepN m num' loom (sdiff set (2 ^ order)) order := Int.mul_le_mul_of_nonneg_left hn hc
  dsimp only
  split
  · exact Int.le_refl _
  · repeat' split
    all_goals omega
/-- a table's numbers: from 0 to 99; each at most what its step gives -/
structure BoundsT (m : Mill) (T : Nat → Nat → Nat → Int) : Prop where
  bd : ∀ l s k, 0 ≤ T l s k ∧ T l s k ≤ 99
  le : ∀ l s k, l < m.laced.length → s < 2 ^ m.orders.length → s.testBit k = true → T l s k ≤ stepS m (T l) l s k
theorem BoundsT.cost {m : Mill} (hc : 0 ≤ m.change) (hn : m.orders.length ≤ 7) {T : Nat → Nat → Nat → Int} (h : BoundsT m T) (l : Nat) (hl : l < m.laced.length) : ∀ s, s < 2 ^ m.orders.length → ∀ k, T l s k ≤ costC m l s k := by
  intro s
  induction s using Nat.strongRecOn with
  | _ s ih =>
    intro hs k
    have h7 : 2 ^ m.orders.length ≤ 2 ^ 7 := Nat.pow_le_pow_right (by omega) hn
    cases hb : s.testBit k with
    | false => rw [costC_out _ _ _ _ hb]; exact (h.bd l s k).2
    | true =>
      have hs2 : s < 9223372036854775808 := by omega
      rw [costC_in m l s k hs2 hb]
      have hlt := sdiff_lt hs2 hb
      exact Int.le_trans (h.le l s k hl hs hb) (stepS_mono hc (fun x => ih _ hlt (by omega) x) (fun x => (costC_bd m l _ x).2))
/-- what a table says of a run in time is at most its changes -/
theorem BoundsT.run {m : Mill} (hok : MillOk m) {T : Nat → Nat → Nat → Int} (h : BoundsT m T) {l : Nat} (hl : l < m.laced.length) {xs : List Int} (hx : okW m l xs = true) (hne : xs ≠ []) : T l (setF xs) (xs.getLast hne).toNat ≤ chR m l (rvI xs) := by
  have hch := (check_iff m).2 hok
  obtain ⟨h1, h2, h3, h4⟩ := okW_iff.1 hx
  have hlt : setF xs < 2 ^ m.orders.length := by
    have := setF_lt xs h1 xs.length
    rwa [List.take_length] at this
  have h7 : 2 ^ m.orders.length ≤ 2 ^ 7 := Nat.pow_le_pow_right (by omega) hok.few
  refine Int.le_trans (h.cost (check_change hch) hok.few l hl _ hlt _) ?_
  have e : rvI xs = (xs.getLast hne).toNat :: rvI xs.dropLast := by
    conv => lhs; rw [← List.dropLast_concat_getLast hne]
    unfold rvI
    rw [List.map_append, List.reverse_append]; rfl
  have hmem : ∀ j, j ∈ rvI xs → ∃ x, x ∈ xs ∧ x.toNat = j := fun j hj => by
    unfold rvI at hj
    rw [List.mem_reverse, List.mem_map] at hj
    exact hj
  have hset : IsSet (setF xs) (rvI xs) := by
    refine ⟨?_, fun j => ?_⟩
    · unfold rvI
      rw [(List.reverse_perm _).nodup_iff, List.nodup_iff_pairwise_ne, List.pairwise_map]
      exact (List.nodup_iff_pairwise_ne.1 h2).imp_of_mem fun {a b} ha hb hab e => by
        have := h1 a ha; have := h1 b hb; omega
    · rw [setF_testBit _ (fun x hx => (h1 x hx).1), List.contains_iff_mem]
      constructor
      · intro hj
        obtain ⟨x, hx, rfl⟩ := hmem j hj
        have := h1 x hx
        rw [Int.toNat_of_nonneg this.1]; exact hx
      · intro hj
        unfold rvI
        rw [List.mem_reverse, List.mem_map]
        exact ⟨_, hj, by simp⟩
  rw [e] at hset h4 ⊢
  exact cost_le m l (check_change hch) _ _ _ hset (by omega) (fun j hj => by
    rw [← e] at hj
    obtain ⟨x, hx, rfl⟩ := hmem j hj
    have := h1 x hx; omega) (fun j hj => by
    rw [← e] at hj
    obtain ⟨x, hx, rfl⟩ := hmem j hj
    have := h3 x hx
    unfold weavesI at this
    unfold Mill.weaves
    have g := (h1 x hx).1
    simpa using this) h4
/-- by the costs of runs -/
theorem numT_cost (m : Mill) (hn : m.orders.length ≤ 7) (l s : Nat) : numT m.orders.length (costC m) l s = numC m l s := by
  unfold numT numC
  split
  · rfl
  · rw [foldl_min_map]
    obtain ⟨h1, h2, h3⟩ := fold_min ((bits m.orders.length s).map (costC m l s)) 99
    obtain ⟨g1, g2, g3⟩ := fold_min ((List.range 7).map (costC m l s)) 99
    have a1 : ((List.range 7).map (costC m l s)).foldl min 99 ≤ ((bits m.orders.length s).map (costC m l s)).foldl min 99 := by
      rcases h3 with h3 | h3
      · omega
      · obtain ⟨k, hk, e⟩ := List.mem_map.1 h3
        rw [← e]
        exact g2 _ (List.mem_map.2 ⟨k, List.mem_range.2 (by have := (mem_bits.1 hk).1; omega), rfl⟩)
    have a2 : ((bits m.orders.length s).map (costC m l s)).foldl min 99 ≤ ((List.range 7).map (costC m l s)).foldl min 99 := by
      rcases g3 with g3 | g3
      · omega
      · obtain ⟨k, hk, e⟩ := List.mem_map.1 g3
        rw [← e]
        cases hb : s.testBit k with
        | false => rw [costC_out _ _ _ _ hb]; exact h1
        | true =>
          by_cases hkn : k < m.orders.length
          · exact h2 _ (List.mem_map.2 ⟨k, mem_bits.2 ⟨hkn, hb⟩, rfl⟩)
          · -- an order that is none: its On is empty
            have hw : m.weaves l k = false := by
              unfold Mill.weaves
              rw [List.getElem?_eq_none (by omega)]; rfl
            have e2 : costC m l s k = 99 := by
              unfold costC
              rw [costA, if_pos hb]
              unfold stepS
              rw [if_pos hw]
            rw [e2]; exact h1
    omega
/-- the least of a table that bounds, and a plan -/
theorem BoundsT.least {m : Mill} (hok : MillOk m) {T : Nat → Nat → Nat → Int} (h : BoundsT m T) {s : Nat} (hs : s < 2 ^ m.orders.length) (hp : sumF (numC m) m.laced.length s < 297) :
    sumF (numT m.orders.length T) m.laced.length s ≤ sumF (numC m) m.laced.length s := by
  have hch := (check_iff m).2 hok
  have hle : ∀ l t, l < m.laced.length → t < 2 ^ m.orders.length → numT m.orders.length T l t ≤ numC m l t := fun l t hl ht => by
    rw [← numT_cost m hok.few]
    unfold numT
    split
    · exact Int.le_refl _
    · rw [foldl_min_map, foldl_min_map]
      obtain ⟨h1, h2, h3⟩ := fold_min ((bits m.orders.length t).map (T l t)) 99
      obtain ⟨g1, g2, g3⟩ := fold_min ((bits m.orders.length t).map (costC m l t)) 99
      rcases g3 with g3 | g3
      · omega
      · obtain ⟨k, hk, e⟩ := List.mem_map.1 g3
        rw [← e]
        exact Int.le_trans (h2 _ (List.mem_map.2 ⟨k, hk, rfl⟩)) (h.cost (check_change hch) hok.few l hl t ht k)
  obtain ⟨f, h1, h2, h3, h4⟩ := (sumF_least (numC m) (fun l s => (numC_bd m l s).1) m.laced.length s hok.looms.2).2 hp
  have hlt : ∀ i, i < m.laced.length → f i < 2 ^ m.orders.length := fun i hi => by
    refine Nat.lt_pow_two_of_testBit _ fun j hj => ?_
    rw [Bool.eq_false_iff]
    intro e
    have := (h3 j).2 ⟨i, hi, e⟩
    rw [Nat.testBit_lt_two_pow (Nat.lt_of_lt_of_le hs (Nat.pow_le_pow_right (by omega) hj))] at this
    cases this
  have hP : Part (numT m.orders.length T) m.laced.length s (tot (numT m.orders.length T) f m.laced.length) :=
    ⟨f, fun i hi => by have := hle i (f i) hi (hlt i hi); have := h1 i hi; omega, rfl, h3, h4⟩
  have g1 := (sumF_least (numT m.orders.length T) (fun l s => (numT_bd (fun l s k => (h.bd l s k).1) l s).1) m.laced.length s hok.looms.2).1 _ hP
  rw [h2]
  exact Int.le_trans g1 (tot_le _ fun i hi => hle i (f i) hi (hlt i hi))
end Go.Proofs.Pet
