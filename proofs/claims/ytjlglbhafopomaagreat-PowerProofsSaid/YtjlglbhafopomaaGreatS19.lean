/-
  The reference's ways of power: shares by all orders, the first group, shafts in all lists, the proof with the most weavers; plain lists alone.
-/
import Derived.Test.YtjlglbhafopomaaGreatSJ
namespace Go.Proofs.Pow
/-- a rough bound for what is added to the sums behind a group that lacks r -/
def roughB : Nat → Int
  | 0 => 0
  | r + 1 => 6 * (roughB r + 720 * 12960)
theorem roughB_nonneg : ∀ r, 0 ≤ roughB r
  | 0 => Int.le_refl _
  | r + 1 => by have := roughB_nonneg r; unfold roughB; omega
theorem fac_six {n : Nat} (h : n ≤ 6) : fac n ≤ 720 := by
  rcases (by omega : n = 0 ∨ n = 1 ∨ n = 2 ∨ n = 3 ∨ n = 4 ∨ n = 5 ∨ n = 6) with h | h | h | h | h | h | h <;> subst h <;> simp [fac]
/-- one member's part of the sums -/
def addT (n : Nat) (c : Nat → Int) (r s i k : Nat) : Int := addS n c i r (s + 2 ^ k) + if k = i then (addN n r (s + 2 ^ k) : Int) * (c (s + 2 ^ k) - c s) else 0
theorem addS_T (n : Nat) (c : Nat → Int) (r s i : Nat) : addS n c i (r + 1) s = ((lack n s).map (addT n c r s i)).sum := rfl
theorem mul_bd {a b : Int} (h1 : 0 ≤ a) (h2 : a ≤ 720) (h3 : -12960 ≤ b) (h4 : b ≤ 12960) : -(720 * 12960) ≤ a * b ∧ a * b ≤ 720 * 12960 := by
  constructor
  · have : a * (-12960) ≤ a * b := Int.mul_le_mul_of_nonneg_left h3 h1
    omega
  · have : a * b ≤ a * 12960 := Int.mul_le_mul_of_nonneg_left h4 h1
    omega
theorem sum_abs {α : Type} (f : α → Int) (B : Int) (hB : 0 ≤ B) : ∀ l : List α, (∀ x, x ∈ l → -B ≤ f x ∧ f x ≤ B) → -(B * (l.length : Int)) ≤ (l.map f).sum ∧ (l.map f).sum ≤ B * (l.length : Int)
  | [], _ => by simp
  | a :: l, h => by
    have ih := sum_abs f B hB l fun x hx => h x (by simp [hx])
    have := h a (by simp)
    simp only [List.map_cons, List.sum_cons, List.length_cons, Int.natCast_add, Int.mul_add]
    omega
/-- the sums once those of the lacking below k are done -/
def partA (n : Nat) (c : Nat → Int) (r s i k : Nat) : Int := (((List.range k).filter fun j => !s.testBit j).map (addT n c r s i)).sum
def partN (n : Nat) (r s k : Nat) : Nat := (((List.range k).filter fun j => !s.testBit j).map fun j => addN n r (s + 2 ^ j)).sum
/-! Shafts that are in all lists. -/
theorem compact_strict {zs : List Int} (h : zs.Pairwise (· ≤ ·)) : (Lib.compact zs).Pairwise (· < ·) := by
  unfold Lib.compact Lib.compactUpTo
  rw [List.pairwise_map]
  refine (List.pairwise_lt_range.filter _).imp_of_mem fun {a b} ha hb hab => ?_
  have h1 := List.mem_range.1 (List.mem_filter.1 ha).1
  have h2 := List.mem_range.1 (List.mem_filter.1 hb).1
  have h3 := (List.mem_filter.1 hb).2
  have e1 : zs.toArray[a]! = zs[a] := by simp [h1]
  have e2 : zs.toArray[b]! = zs[b] := by simp [h2]
  obtain ⟨b', rfl⟩ : ∃ b', b = b' + 1 := ⟨b - 1, by omega⟩
  have e3 : zs.toArray[b']! = zs[b'] := by simp [show b' < zs.length by omega]
  have hk : zs[b' + 1] ≠ zs[b'] := by
    intro e
    unfold Lib.keeps at h3
    simp [e2, e3, e] at h3
  rw [e1, e2]
  have q1 := List.pairwise_iff_getElem.1 h b' (b' + 1) (by omega) h2 (by omega)
  rcases Nat.lt_or_ge a b' with hlt | hge
  · have q2 := List.pairwise_iff_getElem.1 h a b' h1 (by omega) hlt
    omega
  · obtain rfl : a = b' := by omega
    omega
theorem sorted_extI : ∀ {l r : List Int}, l.Pairwise (· < ·) → r.Pairwise (· < ·) → (∀ x, x ∈ l ↔ x ∈ r) → l = r
  | [], [], _, _, _ => rfl
  | [], b :: r, _, _, h => absurd ((h b).2 (by simp)) (by simp)
  | a :: l, [], _, _, h => absurd ((h a).1 (by simp)) (by simp)
  | a :: l, b :: r, h1, h2, h => by
    rw [List.pairwise_cons] at h1 h2
    have e : a = b := by
      have q1 := (h a).1 (by simp)
      have q2 := (h b).2 (by simp)
      simp only [List.mem_cons] at q1 q2
      rcases q1 with q1 | q1
      · exact q1
      · rcases q2 with q2 | q2
        · exact q2.symm
        · have := h1.1 b q2; have := h2.1 a q1; omega
    subst e
    congr 1
    refine sorted_extI h1.2 h2.2 fun x => ⟨fun hx => ?_, fun hx => ?_⟩
    · have := (h x).1 (by simp [hx])
      simp only [List.mem_cons] at this
      rcases this with rfl | q
      · have := h1.1 x hx; omega
      · exact q
    · have := (h x).2 (by simp [hx])
      simp only [List.mem_cons] at this
      rcases this with rfl | q
      · have := h2.1 x hx; omega
      · exact q
/-- what is in all lists that explain is what surely slipped -/
theorem both_sure {m : PM} (hm : POk m) {s : Nat → Int} {b : List Nat} (h : bothF m.shafts.length (explB m s) (2 ^ m.shafts.length) = some b) : sureC m s = b.map fun i : Nat => (i : Int) := by
  obtain ⟨h1, h2⟩ := bothF_some h
  have hex : ∃ t, t < 2 ^ m.shafts.length ∧ explB m s (bitsL m.shafts.length t) = true := by
    by_cases hn : ∃ t, t < 2 ^ m.shafts.length ∧ explB m s (bitsL m.shafts.length t) = true
    · exact hn
    · have : bothF m.shafts.length (explB m s) (2 ^ m.shafts.length) = none := bothF_none.2 fun t ht => by
        cases hq : explB m s (bitsL m.shafts.length t) with
        | false => rfl
        | true => exact absurd ⟨t, ht, hq⟩ hn
      rw [this] at h; cases h
  have hc : clashB m s = false := by
    obtain ⟨t, ht, he⟩ := hex
    cases hc : clashB m s with
    | false => rfl
    | true => have := firstF_none.1 ((slipped_none hm.up hm.at_).2 hc) _ (bitsL_up m.shafts.length t); rw [he] at this; cases this
  have hall : ∀ i : Nat, i ∈ b ↔ ∃ k, k < m.wvs.length ∧ s k = 2 ∧ opnS m s k = [(i : Int)] := fun i => by
    rw [← sure_iff hm.up hm.at_ hc, h2]
    constructor
    · intro h l hl he
      obtain ⟨t, ht, rfl⟩ := up_bits hl
      exact h t ht he
    · intro h t _ he
      exact h _ (bitsL_up _ t) he
  refine sorted_extI (compact_strict (sortL_le _)) (List.pairwise_map.2 (h1.imp fun h => by omega)) fun x => ?_
  have hx : x ∈ sureC m s ↔ x ∈ sureL m s := mem_sureC
  rw [hx, mem_sureL hm.up hm.at_, List.mem_map]
  constructor
  · rintro ⟨i, k, rfl, hk⟩
    exact ⟨i, (hall i).2 ⟨k, hk⟩, rfl⟩
  · rintro ⟨i, hi, rfl⟩
    obtain ⟨k, hk⟩ := (hall i).1 hi
    exact ⟨i, k, rfl, hk⟩
theorem both_pick {n : Nat} {p : List Nat → Bool} (s : Nat) : bothF n p s = none ↔ pickF n p s = none := by rw [bothF_none, pickF_none]
theorem clash_pick {m : PM} (hm : POk m) {s : Nat → Int} : clashB m s = (pickF m.shafts.length (explB m s) (2 ^ m.shafts.length)).isNone := by
  rw [pick_first, Bool.eq_iff_iff, Option.isNone_iff_eq_none]
  exact (slipped_none hm.up hm.at_).symm
/-! The proof with the most weavers, by sets. -/
def mostR (n : Nat) (p : List Nat → Bool) : Nat → List Nat
  | 0 => []
  | s + 1 => if p (bitsL n s) && (decide ((mostR n p s).length < (bitsL n s).length) || (decide ((bitsL n s).length = (mostR n p s).length) && before (bitsL n s) (mostR n p s))) then bitsL n s else mostR n p s
theorem mostR_ok {n : Nat} {p : List Nat → Bool} (h0 : p [] = true) : ∀ s, p (mostR n p s) = true ∧ Up n 0 (mostR n p s) ∧
    ∀ t, t < s → p (bitsL n t) = true → (bitsL n t).length ≤ (mostR n p s).length ∧ ((bitsL n t).length = (mostR n p s).length → before (bitsL n t) (mostR n p s) = false)
  | 0 => ⟨h0, ⟨List.Pairwise.nil, fun x h => by cases h⟩, fun t h => by omega⟩
  | s + 1 => by
    obtain ⟨h1, h2, h3⟩ := mostR_ok h0 s
    unfold mostR
    generalize mostR n p s = b at *
    by_cases hq : (p (bitsL n s) && (decide (b.length < (bitsL n s).length) || (decide ((bitsL n s).length = b.length) && before (bitsL n s) b))) = true
    · rw [if_pos hq]
      simp only [Bool.and_eq_true, Bool.or_eq_true, decide_eq_true_eq] at hq
      refine ⟨hq.1, bitsL_up n s, fun t ht hp => ?_⟩
      rcases Nat.lt_or_eq_of_le (Nat.le_of_lt_succ ht) with hlt | rfl
      · have := h3 t hlt hp
        rcases hq.2 with h | ⟨h, hb⟩
        · exact ⟨by omega, fun e => by omega⟩
        · refine ⟨by omega, fun e => ?_⟩
          cases hx : before (bitsL n t) (bitsL n s) with
          | false => rfl
          | true =>
            have hy := before_tr hx hb
            rw [this.2 (by omega)] at hy
            cases hy
      · exact ⟨Nat.le_refl _, fun _ => before_irr _⟩
    · rw [if_neg hq]
      refine ⟨h1, h2, fun t ht hp => ?_⟩
      rcases Nat.lt_or_eq_of_le (Nat.le_of_lt_succ ht) with hlt | rfl
      · exact h3 t hlt hp
      · simp only [hp, Bool.true_and, Bool.or_eq_true, Bool.and_eq_true, decide_eq_true_eq, not_or, not_and] at hq
        refine ⟨by omega, fun e => ?_⟩
        have := hq.2 e
        simpa using this
theorem most_prove {n : Nat} {p : List Nat → Bool} (h0 : p [] = true) : mostR n p (2 ^ n) = proveF n p := by
  obtain ⟨h1, h2, h3⟩ := mostR_ok h0 (n := n) (2 ^ n)
  obtain ⟨g1, g2, g3⟩ := proveF_ok (n := n) h0
  obtain ⟨t, ht, e⟩ := up_bits g2
  have q1 := h3 t ht (by rw [e]; exact g1)
  rw [e] at q1
  have q2 := g3 _ h2 h1
  have hl : (proveF n p).length = (mostR n p (2 ^ n)).length := by omega
  exact before_total _ _ (q2.2 hl.symm) (q1.2 hl)
/-- what the reference asks of a proof -/
def proofR (m : PM) (s : Nat → Int) (l : List Nat) : Bool := (List.range l.length).all fun i => decide (s (l[i]?.getD 0) = 2) && (List.range i).all fun k => (m.line (m.wv (l[i]?.getD 0)).shaft).all fun x => clrB m s x.toNat || !(m.line (m.wv (l[k]?.getD 0)).shaft).contains x
theorem opnS_mem {m : PM} {s : Nat → Int} (hm : POk m) {k : Nat} (hk : k < m.wvs.length) {x : Int} : x ∈ opnS m s k ↔ x ∈ m.line (m.wv k).shaft ∧ clrB m s x.toNat = false := by
  have ha := hm.at_ k hk
  have hnat : x ∈ m.line (m.wv k).shaft → ∃ i : Nat, x = i := fun hx => by
    obtain ⟨j, hj⟩ : ∃ j : Nat, (m.wv k).shaft = j := ⟨(m.wv k).shaft.toNat, by omega⟩
    rw [hj] at hx
    have := line_mem m hm.up j (by omega) x hx
    exact ⟨x.toNat, by omega⟩
  constructor
  · intro hx
    obtain ⟨i, rfl, h1, h2⟩ := opnS_nat hm.up hm.at_ hk hx
    exact ⟨drv_iff.1 (mem_opnS.1 hx).1, by simpa using h2⟩
  · rintro ⟨hx, h2⟩
    obtain ⟨i, rfl⟩ := hnat hx
    exact mem_opnS.2 ⟨drv_iff.2 hx, by simpa using h2⟩
theorem proofR_proofB {m : PM} (hm : POk m) (s : Nat → Int) {l : List Nat} (hl : ∀ k, k ∈ l → k < m.wvs.length) (hn : l.Nodup) : proofR m s l = proofB m s l := by
  rw [Bool.eq_iff_iff, proofB_iff hm.up hm.at_ hl hn]
  unfold proofR
  simp only [List.all_eq_true, List.mem_range, Bool.and_eq_true, decide_eq_true_eq, Bool.or_eq_true, Bool.not_eq_true', Bool.eq_false_iff, ne_eq]
  have hget : ∀ i, (hi : i < l.length) → l[i]?.getD 0 = l[i] := fun i hi => by simp [hi]
  constructor
  · intro h
    have h2 : ∀ k, k ∈ l → s k = 2 := fun k hk => by
      obtain ⟨i, hi, rfl⟩ := List.getElem_of_mem hk
      have := (h i hi).1
      rwa [hget i hi] at this
    refine ⟨h2, ?_⟩
    have key : ∀ i k, (hi : i < l.length) → (hk : k < i) → ∀ v, v ∈ opnS m s l[i] → v ∉ opnS m s (l[k]'(by omega)) := fun i k hi hk v hv hw => by
      have h4 := (opnS_mem hm (hl _ (List.getElem_mem hi))).1 hv
      have h5 := (opnS_mem hm (hl _ (List.getElem_mem (show k < l.length by omega)))).1 hw
      have := (h i hi).2 k hk v (by rw [hget i hi]; exact h4.1)
      rw [hget k (by omega), h4.2] at this
      rcases this with e | e
      · cases e
      · exact e (List.contains_iff_mem.2 h5.1)
    intro a b ha hb hab v hv hw
    obtain ⟨i, hi, rfl⟩ := List.getElem_of_mem ha
    obtain ⟨k, hk, rfl⟩ := List.getElem_of_mem hb
    rcases Nat.lt_trichotomy i k with hlt | rfl | hlt
    · exact key k i hk hlt v hw hv
    · exact hab rfl
    · exact key i k hi hlt v hv hw
  · rintro ⟨h1, h2⟩ i hi
    refine ⟨by rw [hget i hi]; exact h1 _ (List.getElem_mem hi), fun k hk v hv => ?_⟩
    rw [hget i hi] at hv
    rw [hget k (by omega)]
    by_cases hc : clrB m s v.toNat = true
    · exact .inl hc
    · refine .inr fun hq => ?_
      have hc' : clrB m s v.toNat = false := by simpa using hc
      refine h2 l[i] (l[k]'(by omega)) (List.getElem_mem _) (List.getElem_mem _) (fun e => ?_) v ((opnS_mem hm (hl _ (List.getElem_mem _))).2 ⟨hv, hc'⟩) ((opnS_mem hm (hl _ (List.getElem_mem _))).2 ⟨List.contains_iff_mem.1 hq, hc'⟩)
      exact List.pairwise_iff_getElem.1 (List.nodup_iff_pairwise_ne.1 hn) k i (by omega) hi hk e.symm
/-! Explains. -/
theorem expl_line {m : PM} {l : List Nat} {k : Nat} (_hm : POk m) (_hk : k < m.wvs.length) : hitL m l k = (m.line (m.wv k).shaft).any fun x => (l.map fun i : Nat => (i : Int)).contains x := by
  rw [Bool.eq_iff_iff, hitL_iff, List.any_eq_true]
  constructor
  · rintro ⟨i, h1, h2⟩
    exact ⟨i, drv_iff.1 h2, List.contains_iff_mem.2 (List.mem_map.2 ⟨i, h1, rfl⟩)⟩
  · rintro ⟨x, h1, h2⟩
    obtain ⟨i, hi, rfl⟩ := List.mem_map.1 (List.contains_iff_mem.1 h2)
    exact ⟨i, hi, drv_iff.2 h1⟩
end Go.Proofs.Pow
