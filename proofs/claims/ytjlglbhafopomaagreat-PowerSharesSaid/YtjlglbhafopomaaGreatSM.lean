/- Joined texts: S1, S2, K1, S3, F1, S4, S5, S6, S7, S8, S9, S10, S11, S12, S13, S14, S15. -/
import Derived.IntWalk
import Derived.KernelRfl
namespace Go.Proofs.Pow

def fac : Nat → Nat
  | 0 => 1
  | n + 1 => (n + 1) * fac n
theorem fac_pos : ∀ n, 0 < fac n
  | 0 => Nat.zero_lt_one
  | n + 1 => by unfold fac; exact Nat.mul_pos (by omega) (fac_pos n)
/-- numbers below n that a set lacks -/
def lack (n s : Nat) : List Nat := (List.range n).filter fun k => !s.testBit k
theorem mem_lack {n s k : Nat} : k ∈ lack n s ↔ k < n ∧ s.testBit k = false := by
  unfold lack
  rw [List.mem_filter, List.mem_range]; simp
theorem lack_nodup (n s : Nat) : (lack n s).Nodup := List.Pairwise.filter _ List.nodup_range
theorem testBit_plus {s k : Nat} (h : s.testBit k = false) (j : Nat) : (s + 2 ^ k).testBit j = (s.testBit j || decide (j = k)) := by
  have hr : s % 2 ^ k < 2 ^ k := Nat.mod_lt _ (Nat.two_pow_pos k)
  have hq : (s / 2 ^ k) % 2 = 0 := by
    rw [Nat.testBit_eq_decide_div_mod_eq] at h
    have := of_decide_eq_false h
    omega
  have e1 : s = 2 ^ k * (s / 2 ^ k) + s % 2 ^ k := (Nat.div_add_mod s (2 ^ k)).symm
  have e2 : s + 2 ^ k = 2 ^ k * (s / 2 ^ k + 1) + s % 2 ^ k := by rw [Nat.mul_add]; omega
  rw [e2, Nat.testBit_two_pow_mul_add _ hr]
  conv => rhs; rw [e1, Nat.testBit_two_pow_mul_add _ hr]
  generalize s / 2 ^ k = q at hq
  obtain ⟨t, rfl⟩ : ∃ t, q = 2 * t := ⟨q / 2, by omega⟩
  by_cases hj : j < k
  · rw [if_pos hj, if_pos hj]
    have : decide (j = k) = false := decide_eq_false (by omega)
    rw [this, Bool.or_false]
  · rw [if_neg hj, if_neg hj]
    by_cases e : j = k
    · subst e
      rw [Nat.sub_self]
      simp [Nat.testBit_zero]
    · obtain ⟨d, hd⟩ : ∃ d, j - k = d + 1 := ⟨j - k - 1, by omega⟩
      rw [hd, Nat.testBit_succ, Nat.testBit_succ]
      have e3 : (2 * t + 1) / 2 = t := by omega
      have e4 : 2 * t / 2 = t := by omega
      rw [e3, e4, decide_eq_false e, Bool.or_false]
theorem lack_plus {n s k : Nat} (h : s.testBit k = false) : lack n (s + 2 ^ k) = (lack n s).filter fun j => decide (j ≠ k) := by
  unfold lack
  rw [List.filter_filter]
  refine List.filter_congr fun j _ => ?_
  rw [testBit_plus h]
  cases s.testBit j <;> by_cases e : j = k <;> simp [e]
theorem len_without {l : List Nat} (hn : l.Nodup) {k : Nat} (hk : k ∈ l) : (l.filter fun j => decide (j ≠ k)).length + 1 = l.length := by
  induction l with
  | nil => cases hk
  | cons a l ih =>
    rw [List.nodup_cons] at hn
    by_cases e : a = k
    · subst e
      rw [List.filter_cons_of_neg (by simp), List.filter_eq_self.2, List.length_cons]
      intro x hx
      have : x ≠ a := fun e => hn.1 (e ▸ hx)
      simpa using this
    · rw [List.filter_cons_of_pos (by simpa using e), List.length_cons, List.length_cons, ih hn.2 (by rcases List.mem_cons.1 hk with h | h; exact absurd h.symm e; exact h)]
theorem lack_len {n s k : Nat} (hk : k ∈ lack n s) : (lack n (s + 2 ^ k)).length + 1 = (lack n s).length := by
  rw [lack_plus (mem_lack.1 hk).2]
  exact len_without (lack_nodup n s) hk
/-- how many orders go on behind a set -/
def addN (n : Nat) : Nat → Nat → Nat
  | 0, _ => 1
  | r + 1, s => ((lack n s).map fun k => addN n r (s + 2 ^ k)).sum
/-- what player i adds in all orders that go on behind a set -/
def addS (n : Nat) (c : Nat → Int) (i : Nat) : Nat → Nat → Int
  | 0, _ => 0
  | r + 1, s => ((lack n s).map fun k => addS n c i r (s + 2 ^ k) + if k = i then (addN n r (s + 2 ^ k) : Int) * (c (s + 2 ^ k) - c s) else 0).sum
theorem sum_const {α : Type} (f : α → Nat) (c : Nat) : ∀ l : List α, (∀ x, x ∈ l → f x = c) → (l.map f).sum = l.length * c
  | [], _ => by simp
  | a :: l, h => by
    rw [List.map_cons, List.sum_cons, h a (by simp), sum_const f c l fun x hx => h x (by simp [hx]), List.length_cons, Nat.add_mul, Nat.one_mul]; omega
theorem addN_fac (n : Nat) : ∀ r s, (lack n s).length = r → addN n r s = fac r
  | 0, _, _ => rfl
  | r + 1, s, h => by
    unfold addN fac
    rw [sum_const _ (fac r) _ fun k hk => addN_fac n r _ (by have := lack_len hk; omega), h]
/-- 1 if one of some players has come -/
def hit (n : Nat) (U : Nat → Bool) (s : Nat) : Int := if (List.range n).any fun k => U k && s.testBit k then 1 else 0
def cntU (n : Nat) (U : Nat → Bool) : Nat := ((List.range n).filter U).length
theorem hit_iff {n : Nat} {U : Nat → Bool} {s : Nat} : hit n U s = 1 ↔ ∃ k, k < n ∧ U k = true ∧ s.testBit k = true := by
  unfold hit
  split
  · rename_i h
    rw [List.any_eq_true] at h
    obtain ⟨k, hk, h⟩ := h
    rw [Bool.and_eq_true] at h
    exact ⟨fun _ => ⟨k, List.mem_range.1 hk, h⟩, fun _ => rfl⟩
  · rename_i h
    refine ⟨fun h => absurd h (by omega), fun ⟨k, h1, h2, h3⟩ => absurd ?_ h⟩
    rw [List.any_eq_true]
    exact ⟨k, List.mem_range.2 h1, by rw [h2, h3]; rfl⟩
theorem hit_zero {n : Nat} {U : Nat → Bool} {s : Nat} : hit n U s = 0 ↔ ∀ k, k < n → U k = true → s.testBit k = false := by
  have h1 := hit_iff (n := n) (U := U) (s := s)
  have h2 : hit n U s = 0 ∨ hit n U s = 1 := by unfold hit; split <;> simp
  constructor
  · intro h k hk hu
    cases hb : s.testBit k with
    | false => rfl
    | true => have := h1.2 ⟨k, hk, hu, hb⟩; omega
  · intro h
    rcases h2 with h2 | h2
    · exact h2
    · obtain ⟨k, a, b, c⟩ := h1.1 h2
      rw [h k a b] at c; cases c
theorem hit_up {n : Nat} {U : Nat → Bool} {s k : Nat} (hk : s.testBit k = false) (h : hit n U s = 1) : hit n U (s + 2 ^ k) = 1 := by
  obtain ⟨j, a, b, c⟩ := hit_iff.1 h
  exact hit_iff.2 ⟨j, a, b, by rw [testBit_plus hk, c]; rfl⟩
theorem hit_out {n : Nat} {U : Nat → Bool} {s k : Nat} (hk : s.testBit k = false) (hu : U k = false) : hit n U (s + 2 ^ k) = hit n U s := by
  unfold hit
  congr 2
  have : (fun j => U j && (s + 2 ^ k).testBit j) = fun j => U j && s.testBit j := by
    funext j
    rw [testBit_plus hk]
    by_cases e : j = k
    · subst e; simp [hu]
    · simp [e]
  rw [this]
theorem hit_in {n : Nat} {U : Nat → Bool} {s k : Nat} (hk : s.testBit k = false) (hn : k < n) (hu : U k = true) : hit n U (s + 2 ^ k) = 1 :=
  hit_iff.2 ⟨k, hn, hu, by rw [testBit_plus hk]; simp⟩
theorem sum_zero' {α : Type} (f : α → Int) : ∀ l : List α, (∀ x, x ∈ l → f x = 0) → (l.map f).sum = 0
  | [], _ => rfl
  | a :: l, h => by rw [List.map_cons, List.sum_cons, h a (by simp), sum_zero' f l fun x hx => h x (by simp [hx])]; rfl
theorem addS_hit {n : Nat} {U : Nat → Bool} (i : Nat) : ∀ r s, hit n U s = 1 → addS n (hit n U) i r s = 0
  | 0, _, _ => rfl
  | r + 1, s, h => by
    unfold addS
    refine sum_zero' _ _ fun k hk => ?_
    have hk := (mem_lack.1 hk).2
    have h1 := hit_up hk h
    rw [addS_hit i r _ h1, h1, h]
    split <;> omega
theorem addS_out {n : Nat} {U : Nat → Bool} {i : Nat} (hi : U i = false) : ∀ r s, addS n (hit n U) i r s = 0
  | 0, _ => rfl
  | r + 1, s => by
    unfold addS
    refine sum_zero' _ _ fun k hk => ?_
    have hk := (mem_lack.1 hk).2
    rw [addS_out hi r]
    split
    · rename_i e
      subst e
      rw [hit_out hk hi]; simp
    · rfl
theorem sum_three (U : Nat → Bool) (i : Nat) (hi : U i = true) (u : Int) (F : Int) : ∀ l : List Nat, l.Nodup → (l.map fun k => if U k then (if k = i then u * F else 0) else F).sum = (if i ∈ l then u * F else 0) + ((l.filter fun k => !U k).length : Int) * F
  | [], _ => by simp
  | a :: l, h => by
    rw [List.nodup_cons] at h
    rw [List.map_cons, List.sum_cons, sum_three U i hi u F l h.2]
    cases hu : U a with
    | false =>
      have e : i ≠ a := fun e => by rw [e, hu] at hi; cases hi
      rw [List.filter_cons_of_pos (by simp [hu]), List.length_cons]
      have : (i ∈ a :: l) ↔ i ∈ l := by rw [List.mem_cons]; exact ⟨fun h => h.resolve_left e, .inr⟩
      simp only [this, Bool.false_eq_true, if_false]
      rw [Int.natCast_add, Int.add_mul]; omega
    | true =>
      rw [List.filter_cons_of_neg (by simp [hu])]
      by_cases e : a = i
      · subst e
        simp [h.1]
      · have : (i ∈ a :: l) ↔ i ∈ l := by rw [List.mem_cons]; exact ⟨fun h => h.resolve_left (Ne.symm e), .inr⟩
        simp [this, e]
theorem mul_sum {α : Type} (u : Int) (f : α → Int) : ∀ l : List α, u * (l.map f).sum = (l.map fun x => u * f x).sum
  | [] => by simp
  | a :: l => by rw [List.map_cons, List.sum_cons, Int.mul_add, mul_sum u f l, List.map_cons, List.sum_cons]
theorem filter_split {α : Type} (p : α → Bool) : ∀ l : List α, (l.filter p).length + (l.filter fun x => !p x).length = l.length
  | [] => rfl
  | a :: l => by
    have := filter_split p l
    cases h : p a <;> simp [h] <;> omega
/-- of those who count each is as often the first one to come -/
theorem addS_in {n : Nat} {U : Nat → Bool} {i : Nat} (hi : i < n) (hU : U i = true) : ∀ r s, (lack n s).length = r → hit n U s = 0 → (cntU n U : Int) * addS n (hit n U) i r s = fac r
  | 0, s, h, h0 => by
    have : i ∈ lack n s := mem_lack.2 ⟨hi, hit_zero.1 h0 i hi hU⟩
    rw [List.length_eq_zero_iff] at h
    rw [h] at this; cases this
  | r + 1, s, h, h0 => by
    have hz := hit_zero.1 h0
    unfold addS
    rw [mul_sum]
    have e : (lack n s).map (fun x => (cntU n U : Int) * (addS n (hit n U) i r (s + 2 ^ x) + if x = i then (addN n r (s + 2 ^ x) : Int) * (hit n U (s + 2 ^ x) - hit n U s) else 0)) =
        (lack n s).map fun k => if U k then (if k = i then (cntU n U : Int) * fac r else 0) else (fac r : Int) := by
      refine List.map_congr_left fun k hk => ?_
      have hk' := mem_lack.1 hk
      have hl := lack_len hk
      cases hu : U k with
      | true =>
        rw [addS_hit i r _ (hit_in hk'.2 hk'.1 hu), hit_in hk'.2 hk'.1 hu, h0, addN_fac n r _ (by omega)]
        by_cases e : k = i <;> simp [e]
      | false =>
        have e : k ≠ i := fun e => by rw [e, hU] at hu; cases hu
        have ih := addS_in hi hU r (s + 2 ^ k) (by omega) (by rw [hit_out hk'.2 hu]; exact h0)
        simp only [e, if_false, Int.add_zero, Bool.false_eq_true]
        exact ih
    rw [e, sum_three U i hU _ _ _ (lack_nodup n s), if_pos (mem_lack.2 ⟨hi, hz i hi hU⟩)]
    have h1 := filter_split U (lack n s)
    have h2 : (lack n s).filter U = (List.range n).filter U := by
      unfold lack
      rw [List.filter_filter]
      refine List.filter_congr fun k hk => ?_
      cases hu : U k with
      | false => simp
      | true => rw [hz k (List.mem_range.1 hk) hu]; simp
    rw [h2, h] at h1
    have h3 : (cntU n U : Int) + ((lack n s).filter fun k => !U k).length = (r + 1 : Nat) := by unfold cntU; omega
    rw [← Int.add_mul, h3]
    show _ = (((r + 1) * fac r : Nat) : Int)
    rw [Int.natCast_mul]
/-! Sums of what counts. -/
def costH (n : Nat) (L : List (Int × (Nat → Bool))) (s : Nat) : Int := (L.map fun p => p.1 * hit n p.2 s).sum
theorem sum_add {α : Type} (f g : α → Int) : ∀ l : List α, (l.map fun x => f x + g x).sum = (l.map f).sum + (l.map g).sum
  | [] => rfl
  | a :: l => by simp only [List.map_cons, List.sum_cons, sum_add f g l]; omega
theorem addS_add (n : Nat) (c d : Nat → Int) (i : Nat) : ∀ r s, addS n (fun s => c s + d s) i r s = addS n c i r s + addS n d i r s
  | 0, _ => rfl
  | r + 1, s => by
    unfold addS
    rw [← sum_add]
    refine congrArg _ (List.map_congr_left fun k _ => ?_)
    rw [addS_add n c d i r]
    split
    · rw [show c (s + 2 ^ k) + d (s + 2 ^ k) - (c s + d s) = (c (s + 2 ^ k) - c s) + (d (s + 2 ^ k) - d s) by omega, Int.mul_add]; omega
    · omega
theorem addS_mul (n : Nat) (c : Nat → Int) (w : Int) (i : Nat) : ∀ r s, addS n (fun s => w * c s) i r s = w * addS n c i r s
  | 0, _ => by simp [addS]
  | r + 1, s => by
    unfold addS
    rw [mul_sum]
    refine congrArg _ (List.map_congr_left fun k _ => ?_)
    rw [addS_mul n c w i r]
    split
    · rw [Int.mul_add, ← Int.mul_sub]; congr 1; rw [← Int.mul_assoc, ← Int.mul_assoc, Int.mul_comm w]
    · simp
theorem addS_zero (n : Nat) (i : Nat) : ∀ r s, addS n (fun _ => 0) i r s = 0
  | 0, _ => rfl
  | r + 1, s => by
    unfold addS
    refine sum_zero' _ _ fun k _ => ?_
    rw [addS_zero n i r]; simp
theorem addS_sum (n : Nat) (i r s : Nat) : ∀ L : List (Int × (Nat → Bool)), addS n (costH n L) i r s = (L.map fun p => p.1 * addS n (hit n p.2) i r s).sum
  | [] => by
    have : costH n [] = fun _ => 0 := by funext s; rfl
    rw [this, addS_zero]; rfl
  | p :: L => by
    have : costH n (p :: L) = fun s => p.1 * hit n p.2 s + costH n L s := by funext s; rfl
    rw [this, addS_add, addS_mul, addS_sum n i r s L]; rfl
/-- equal parts of what is counted -/
def shareH (n : Nat) (L : List (Int × (Nat → Bool))) (i : Nat) : Int := (L.map fun p => if p.2 i then 60 * p.1 / (cntU n p.2 : Int) else 0).sum
theorem cntU_le (n : Nat) (U : Nat → Bool) : cntU n U ≤ n := by
  unfold cntU
  have := List.length_filter_le U (List.range n)
  rwa [List.length_range] at this
theorem cntU_pos {n i : Nat} {U : Nat → Bool} (hi : i < n) (hU : U i = true) : 0 < cntU n U :=
  List.length_pos_of_mem (List.mem_filter.2 ⟨List.mem_range.2 hi, hU⟩)
theorem sixty {u : Int} (h0 : 0 < u) (h6 : u ≤ 6) (w : Int) : 60 * w / u * u = 60 * w := by
  obtain rfl | rfl | rfl | rfl | rfl | rfl : u = 1 ∨ u = 2 ∨ u = 3 ∨ u = 4 ∨ u = 5 ∨ u = 6 := by omega
  all_goals omega
/-- 60 times what one adds on the average is the share -/
theorem share_law {n : Nat} (hn : n ≤ 6) {i : Nat} (hi : i < n) : ∀ L : List (Int × (Nat → Bool)), 60 * addS n (costH n L) i n 0 = shareH n L i * fac n := by
  intro L
  rw [addS_sum]
  have h0 : ∀ U : Nat → Bool, hit n U 0 = 0 := fun U => hit_zero.2 fun k _ _ => Nat.zero_testBit k
  have hl : (lack n 0).length = n := by
    unfold lack
    rw [List.filter_eq_self.2, List.length_range]
    intro k _; simp
  induction L with
  | nil => simp [shareH]
  | cons p L ih =>
    unfold shareH at ih ⊢
    rw [List.map_cons, List.sum_cons, List.map_cons, List.sum_cons, Int.mul_add, Int.add_mul, ih]
    congr 1
    cases hU : p.2 i with
    | false => rw [addS_out hU]; simp
    | true =>
      have h1 := addS_in hi hU n 0 hl (h0 p.2)
      have h2 := cntU_pos hi hU; have h3 := cntU_le n p.2
      have h4 := sixty (u := (cntU n p.2 : Int)) (by omega) (by omega) p.1
      rw [if_pos rfl, ← h1]
      rw [← Int.mul_assoc, ← Int.mul_assoc (60 * p.1 / _), h4]
end Go.Proofs.Pow

namespace Go.Proofs.Pow

theorem sum_swap {α β : Type} (f : α → β → Int) : ∀ (l : List α) (r : List β), (l.map fun a => (r.map fun b => f a b).sum).sum = (r.map fun b => (l.map fun a => f a b).sum).sum
  | [], r => by
    simp only [List.map_nil, List.sum_nil]
    rw [sum_zero' _ r fun _ _ => rfl]
  | a :: l, r => by
    rw [List.map_cons, List.sum_cons, sum_swap f l r, ← sum_add]
    congr 1
theorem sum_le {α : Type} (f g : α → Int) : ∀ l : List α, (∀ x, x ∈ l → f x ≤ g x) → (l.map f).sum ≤ (l.map g).sum
  | [], _ => Int.le_refl _
  | a :: l, h => by
    have h1 := h a (by simp)
    have h2 := sum_le f g l fun x hx => h x (by simp [hx])
    simp only [List.map_cons, List.sum_cons]
    omega
theorem sum_eq {α : Type} (f g : α → Int) (l : List α) (h : ∀ x, x ∈ l → f x = g x) : (l.map f).sum = (l.map g).sum := by
  rw [List.map_congr_left h]
theorem sum_nonneg {α : Type} (f : α → Int) (l : List α) (h : ∀ x, x ∈ l → 0 ≤ f x) : 0 ≤ (l.map f).sum := by
  have := sum_le (fun _ => 0) f l h
  rw [sum_zero' _ l fun _ _ => rfl] at this
  exact this
theorem sum_ite {α : Type} (q : α → Bool) (c : Int) : ∀ l : List α, (l.map fun k => if q k then c else 0).sum = c * ((l.filter q).length : Int)
  | [] => by simp
  | a :: l => by
    rw [List.map_cons, List.sum_cons, sum_ite q c l]
    cases h : q a with
    | true => rw [List.filter_cons_of_pos h, List.length_cons, if_pos rfl, Int.natCast_add, Int.mul_add]; simp [Int.add_comm]
    | false => rw [List.filter_cons_of_neg (by simp [h]), if_neg (by simp)]; simp
/-- does someone of p use it -/
def hitQ (n : Nat) (U p : Nat → Bool) : Bool := (List.range n).any fun k => U k && p k
theorem hitQ_iff {n : Nat} {U p : Nat → Bool} : hitQ n U p = true ↔ ∃ k, k < n ∧ U k = true ∧ p k = true := by
  unfold hitQ
  rw [List.any_eq_true]
  simp only [List.mem_range, Bool.and_eq_true]
theorem hitQ_false {n : Nat} {U p : Nat → Bool} : hitQ n U p = false ↔ ∀ k, k < n → U k = true → p k = false := by
  rw [← Bool.not_eq_true, hitQ_iff]
  constructor
  · intro h k hk hu
    cases hp : p k with
    | false => rfl
    | true => exact absurd ⟨k, hk, hu, hp⟩ h
  · rintro h ⟨k, hk, hu, hp⟩
    rw [h k hk hu] at hp; cases hp
/-- what the group p costs -/
def costQ (n : Nat) (L : List (Int × (Nat → Bool))) (p : Nat → Bool) : Int := (L.map fun x => if hitQ n x.2 p then x.1 else 0).sum
theorem hit_hitQ (n : Nat) (U : Nat → Bool) (s : Nat) : hit n U s = if hitQ n U s.testBit then 1 else 0 := by
  unfold hit hitQ
  rfl
theorem costH_costQ (n : Nat) (L : List (Int × (Nat → Bool))) (s : Nat) : costH n L s = costQ n L s.testBit := by
  unfold costH costQ
  refine sum_eq _ _ L fun x _ => ?_
  rw [hit_hitQ]
  split <;> simp
theorem costQ_congr {n : Nat} {L : List (Int × (Nat → Bool))} {p q : Nat → Bool} (h : ∀ k, k < n → p k = q k) : costQ n L p = costQ n L q := by
  unfold costQ
  refine sum_eq _ _ L fun x _ => ?_
  have : hitQ n x.2 p = hitQ n x.2 q := by
    rw [Bool.eq_iff_iff, hitQ_iff, hitQ_iff]
    constructor
    · rintro ⟨k, hk, h1, h2⟩; exact ⟨k, hk, h1, by rw [← h k hk]; exact h2⟩
    · rintro ⟨k, hk, h1, h2⟩; exact ⟨k, hk, h1, by rw [h k hk]; exact h2⟩
  rw [this]
theorem costQ_mono {n : Nat} {L : List (Int × (Nat → Bool))} (hL : ∀ x, x ∈ L → 0 ≤ x.1) {p q : Nat → Bool} (h : ∀ k, k < n → p k = true → q k = true) : costQ n L p ≤ costQ n L q := by
  unfold costQ
  refine sum_le _ _ L fun x hx => ?_
  have h0 := hL x hx
  cases h1 : hitQ n x.2 p with
  | false => simp only [if_neg (show ¬ (false = true) by simp)]; split <;> omega
  | true =>
    obtain ⟨k, hk, g1, g2⟩ := hitQ_iff.1 h1
    rw [if_pos rfl, if_pos (hitQ_iff.2 ⟨k, hk, g1, h k hk g2⟩)]
    exact Int.le_refl _
theorem costQ_nonneg {n : Nat} {L : List (Int × (Nat → Bool))} (hL : ∀ x, x ∈ L → 0 ≤ x.1) (p : Nat → Bool) : 0 ≤ costQ n L p := by
  unfold costQ
  refine sum_nonneg _ L fun x hx => ?_
  have := hL x hx
  split <;> omega
/-- the shares of one spot: those of a group come to no more than the group pays for it -/
theorem spot_le {n : Nat} (hn : n ≤ 6) (U p : Nat → Bool) {w : Int} (hw : 0 ≤ w) :
    (((List.range n).filter p).map fun k => if U k then 60 * w / (cntU n U : Int) else 0).sum ≤ 60 * (if hitQ n U p then w else 0) := by
  rw [sum_ite]
  cases h : hitQ n U p with
  | false =>
    have : ((List.range n).filter p).filter U = [] := by
      rw [List.filter_eq_nil_iff]
      intro k hk hu
      rw [List.mem_filter, List.mem_range] at hk
      rw [hitQ_false.1 h k hk.1 hu] at hk
      simp at hk
    rw [this]
    simp
  | true =>
    rw [if_pos rfl]
    obtain ⟨k, hk, h1, h2⟩ := hitQ_iff.1 h
    have hu := cntU_pos hk h1
    have hu6 := cntU_le n U
    have hs := sixty (u := (cntU n U : Int)) (by omega) (by omega) w
    have hle : (((List.range n).filter p).filter U).length ≤ cntU n U := by
      unfold cntU
      rw [List.filter_filter]
      have : (List.range n).filter (fun a => U a && p a) = ((List.range n).filter U).filter p := by
        rw [List.filter_filter]
        congr 1
        funext a
        exact Bool.and_comm _ _
      rw [this]
      exact List.length_filter_le _ _
    have h0 : 0 ≤ 60 * w / (cntU n U : Int) := Int.ediv_nonneg (by omega) (by omega)
    exact Int.le_trans (Int.mul_le_mul_of_nonneg_left (show ((((List.range n).filter p).filter U).length : Int) ≤ (cntU n U : Int) by omega) h0) (Int.le_of_eq hs)
theorem spot_all {n : Nat} (hn : n ≤ 6) (U : Nat → Bool) (w : Int) :
    ((List.range n).map fun k => if U k then 60 * w / (cntU n U : Int) else 0).sum = 60 * (if hitQ n U (fun _ => true) then w else 0) := by
  rw [sum_ite]
  show _ * (cntU n U : Int) = _
  cases h : hitQ n U (fun _ => true) with
  | false =>
    have : cntU n U = 0 := by
      unfold cntU
      rw [List.length_eq_zero_iff, List.filter_eq_nil_iff]
      intro k hk hu
      have := hitQ_false.1 h k (List.mem_range.1 hk) hu
      cases this
    rw [this]; simp
  | true =>
    obtain ⟨k, hk, h1, _⟩ := hitQ_iff.1 h
    have hu := cntU_pos hk h1
    have hu6 := cntU_le n U
    rw [if_pos rfl]
    exact sixty (by omega) (by omega) w
/-- no group has more parts than sixty times its cost -/
theorem share_group {n : Nat} (hn : n ≤ 6) {L : List (Int × (Nat → Bool))} (hL : ∀ x, x ∈ L → 0 ≤ x.1) (p : Nat → Bool) : (((List.range n).filter p).map (shareH n L)).sum ≤ 60 * costQ n L p := by
  unfold shareH costQ
  rw [sum_swap, mul_sum]
  exact sum_le _ _ L fun x hx => spot_le hn x.2 p (hL x hx)
/-- and all together have just as many -/
theorem share_total {n : Nat} (hn : n ≤ 6) (L : List (Int × (Nat → Bool))) : ((List.range n).map (shareH n L)).sum = 60 * costQ n L (fun _ => true) := by
  unfold shareH costQ
  rw [sum_swap, mul_sum]
  exact sum_eq _ _ L fun x _ => spot_all hn x.2 x.1
theorem share_nonneg {n : Nat} {L : List (Int × (Nat → Bool))} (hL : ∀ x, x ∈ L → 0 ≤ x.1) (i : Nat) : 0 ≤ shareH n L i := by
  unfold shareH
  refine sum_nonneg _ L fun x hx => ?_
  have := hL x hx
  split
  · exact Int.ediv_nonneg (by omega) (by omega)
  · exact Int.le_refl _
theorem filter_one {n i : Nat} (hi : i < n) : (List.range n).filter (fun k => decide (k = i)) = [i] := by
  induction n with
  | zero => omega
  | succ n ih =>
    rw [List.range_succ, List.filter_append]
    by_cases e : i = n
    · subst e
      rw [List.filter_eq_nil_iff.2 fun k hk => by have := List.mem_range.1 hk; simp; omega]
      simp
    · rw [ih (by omega)]
      simp [show ¬ n = i by omega]
/-- a weaver pays no more than the weaver's own cost -/
theorem share_own {n : Nat} (hn : n ≤ 6) {L : List (Int × (Nat → Bool))} (hL : ∀ x, x ∈ L → 0 ≤ x.1) {i : Nat} (hi : i < n) : shareH n L i ≤ 60 * costQ n L (fun k => decide (k = i)) := by
  have := share_group hn hL (fun k => decide (k = i))
  rw [filter_one hi] at this
  simpa using this
/-- what a weaver adds to those that came before -/
theorem cost_add {n : Nat} {L : List (Int × (Nat → Bool))} {p : Nat → Bool} {i : Nat} (hi : i < n) :
    costQ n L (fun k => p k || decide (k = i)) - costQ n L p = (L.map fun x => if x.2 i && !hitQ n x.2 p then x.1 else 0).sum := by
  unfold costQ
  have : ∀ l : List (Int × (Nat → Bool)), (l.map fun x => if hitQ n x.2 (fun k => p k || decide (k = i)) then x.1 else 0).sum = (l.map fun x => if hitQ n x.2 p then x.1 else 0).sum + (l.map fun x => if x.2 i && !hitQ n x.2 p then x.1 else 0).sum := fun l => by
    rw [← sum_add]
    refine sum_eq _ _ l fun x _ => ?_
    have e : hitQ n x.2 (fun k => p k || decide (k = i)) = (hitQ n x.2 p || x.2 i) := by
      rw [Bool.eq_iff_iff, Bool.or_eq_true, hitQ_iff, hitQ_iff]
      constructor
      · rintro ⟨k, hk, h1, h2⟩
        rw [Bool.or_eq_true, decide_eq_true_eq] at h2
        rcases h2 with h2 | rfl
        · exact .inl ⟨k, hk, h1, h2⟩
        · exact .inr h1
      · rintro (⟨k, hk, h1, h2⟩ | h)
        · exact ⟨k, hk, h1, by simp [h2]⟩
        · exact ⟨i, hi, h, by simp⟩
    rw [e]
    cases hitQ n x.2 p <;> cases x.2 i <;> simp
  rw [this]
  omega
theorem add_nonneg {n : Nat} {L : List (Int × (Nat → Bool))} (hL : ∀ x, x ∈ L → 0 ≤ x.1) {p : Nat → Bool} {i : Nat} (hi : i < n) : 0 ≤ costQ n L (fun k => p k || decide (k = i)) - costQ n L p := by
  rw [cost_add hi]
  refine sum_nonneg _ L fun x hx => ?_
  have := hL x hx
  split <;> omega
end Go.Proofs.Pow

namespace Go.Proofs.Pow

structure Sh where
  up : Int
  price : Int
deriving Inhabited, DecidableEq
structure Wv where
  shaft : Int
  hours : List Int
deriving Inhabited, DecidableEq
structure PM where
  shafts : List Sh
  wvs : List Wv
def PM.sh (m : PM) (s : Nat) : Sh := m.shafts[s]?.getD default
def PM.wv (m : PM) (k : Nat) : Wv := m.wvs[k]?.getD default
/-- the line of a shaft: it and those above it -/
def lineF (m : PM) : Nat → Int → List Int
  | 0, _ => []
  | f + 1, s => if s < 0 then [] else s :: lineF m f (m.sh s.toNat).up
def PM.line (m : PM) (s : Int) : List Int := lineF m m.shafts.length s
def PM.drv (m : PM) (s k : Nat) : Bool := (m.line (m.wv k).shaft).contains (s : Int)
/-- each shaft is driven by one before it -/
def UpOk (m : PM) : Prop := ∀ s, s < m.shafts.length → -1 ≤ (m.sh s).up ∧ (m.sh s).up < s
theorem lineF_more (m : PM) (h : UpOk m) : ∀ (f g : Nat) (s : Int), s < (m.shafts.length : Int) → s < (f : Int) → f ≤ g → lineF m g s = lineF m f s
  | 0, 0, _, _, _, _ => rfl
  | 0, g + 1, s, _, h1, _ => by
    unfold lineF; rw [if_pos (by omega)]
  | f + 1, 0, _, _, _, h2 => by omega
  | f + 1, g + 1, s, hs, h1, h2 => by
    unfold lineF
    by_cases h0 : s < 0
    · rw [if_pos h0, if_pos h0]
    · rw [if_neg h0, if_neg h0]
      have := h s.toNat (by omega)
      rw [lineF_more m h f g _ (by omega) (by omega) (by omega)]
theorem line_neg (m : PM) {s : Int} (h : s < 0) : m.line s = [] := by
  unfold PM.line
  cases m.shafts.length with
  | zero => rfl
  | succ n => unfold lineF; rw [if_pos h]
theorem line_cons (m : PM) (h : UpOk m) {s : Nat} (hs : s < m.shafts.length) : m.line s = (s : Int) :: m.line (m.sh s).up := by
  unfold PM.line
  obtain ⟨n, hn⟩ : ∃ n, m.shafts.length = n + 1 := ⟨m.shafts.length - 1, by omega⟩
  rw [hn]
  conv => lhs; unfold lineF
  rw [if_neg (by omega)]
  have := h s hs
  show _ :: lineF m n (m.sh s).up = _
  rw [lineF_more m h n (n + 1) _ (by omega) (by omega) (by omega)]
/-- the elements of a line: from it downward, each once -/
theorem line_mem (m : PM) (h : UpOk m) : ∀ s : Nat, s < m.shafts.length → ∀ x, x ∈ m.line s → 0 ≤ x ∧ x ≤ s := by
  intro s
  induction s using Nat.strongRecOn with
  | _ s ih =>
    intro hs x hx
    rw [line_cons m h hs] at hx
    rcases List.mem_cons.1 hx with rfl | hx
    · omega
    · have hu := h s hs
      rcases Int.lt_or_le (m.sh s).up 0 with h0 | h0
      · rw [line_neg m h0] at hx; cases hx
      · obtain ⟨u, hu'⟩ : ∃ u : Nat, (m.sh s).up = u := ⟨_, (Int.toNat_of_nonneg h0).symm⟩
        rw [hu'] at hx hu
        have := ih u (by omega) (by omega) x hx
        omega
theorem line_down (m : PM) (h : UpOk m) : ∀ s : Nat, s < m.shafts.length → (m.line s).Pairwise (· > ·) := by
  intro s
  induction s using Nat.strongRecOn with
  | _ s ih =>
    intro hs
    rw [line_cons m h hs]
    have hu := h s hs
    rcases Int.lt_or_le (m.sh s).up 0 with h0 | h0
    · rw [line_neg m h0]; exact List.pairwise_singleton _ _
    · obtain ⟨u, hu'⟩ : ∃ u : Nat, (m.sh s).up = u := ⟨_, (Int.toNat_of_nonneg h0).symm⟩
      rw [hu'] at hu ⊢
      refine List.pairwise_cons.2 ⟨fun x hx => ?_, ih u (by omega) (by omega)⟩
      have := line_mem m h u (by omega) x hx
      omega
/-! Shafts that are not cleared on lines; those that meet all lines, and lines that have none in common. -/
def opn (m : PM) (cl : Int → Bool) (k : Nat) : List Int := (m.line (m.wv k).shaft).filter fun s => !cl s
/-- each weaver is at a shaft -/
def AtOk (m : PM) : Prop := ∀ k, k < m.wvs.length → 0 ≤ (m.wv k).shaft ∧ (m.wv k).shaft < m.shafts.length
def topF (m : PM) (cl : Int → Bool) (k : Nat) : Int := ((opn m cl k).getLast?).getD 0
section
variable {m : PM} (hu : UpOk m) (ha : AtOk m) {cl : Int → Bool}
include hu ha
end
theorem nodup_le {α : Type} [DecidableEq α] : ∀ {l r : List α}, l.Nodup → (∀ x, x ∈ l → x ∈ r) → l.length ≤ r.length
  | [], r, _, _ => Nat.zero_le _
  | a :: l, r, h, hs => by
    rw [List.nodup_cons] at h
    have hm := hs a (by simp)
    have := nodup_le (l := l) (r := r.erase a) h.2 fun x hx => (List.mem_erase_of_ne (fun e => h.1 (by rw [← e]; exact hx))).2 (hs x (by simp [hx]))
    rw [List.length_erase_of_mem hm] at this
    have := List.length_pos_of_mem hm
    rw [List.length_cons]; omega
end Go.Proofs.Pow

namespace Go.Proofs.Pow

/-- weaver k uses power of shaft s in the hour h -/
def usesB (m : PM) (s h k : Nat) : Bool := m.drv s k && (m.wv k).hours.contains (h : Int)
def spotL (S : Nat) : List (Nat × Nat) := (List.range S).flatMap fun s => (List.range 24).map fun h => (s, h)
def spots (m : PM) : List (Int × (Nat → Bool)) := (spotL m.shafts.length).map fun x => ((m.sh x.1).price, usesB m x.1 x.2)
theorem mem_spotL {S s h : Nat} : (s, h) ∈ spotL S ↔ s < S ∧ h < 24 := by
  unfold spotL
  rw [List.mem_flatMap]
  constructor
  · rintro ⟨s', h1, h2⟩
    obtain ⟨h', h3, e⟩ := List.mem_map.1 h2
    cases e
    exact ⟨List.mem_range.1 h1, List.mem_range.1 h3⟩
  · rintro ⟨h1, h2⟩
    exact ⟨s, List.mem_range.2 h1, List.mem_map.2 ⟨h, List.mem_range.2 h2, rfl⟩⟩
theorem spotL_succ (S : Nat) : spotL (S + 1) = spotL S ++ (List.range 24).map fun h => (S, h) := by
  unfold spotL; rw [show List.range (S + 1) = List.range S ++ [S] from List.range_succ, List.flatMap_append]; simp
theorem spotL_nodup : ∀ S, (spotL S).Nodup
  | 0 => by simp [spotL]
  | S + 1 => by
    rw [spotL_succ, List.nodup_append]
    refine ⟨spotL_nodup S, ?_, ?_⟩
    · rw [List.nodup_iff_pairwise_ne, List.pairwise_map]
      exact (List.nodup_iff_pairwise_ne.1 List.nodup_range).imp fun h e => h (by cases e; rfl)
    · intro a ha b hb e
      subst e
      obtain ⟨s, h⟩ := a
      obtain ⟨h', _, e⟩ := List.mem_map.1 hb
      cases e
      have := (mem_spotL.1 ha).1
      omega
theorem sum_flat (f : Nat × Nat → Int) : ∀ S, ((spotL S).map f).sum = ((List.range S).map fun s => ((List.range 24).map fun h => f (s, h)).sum).sum
  | 0 => by simp [spotL]
  | S + 1 => by
    rw [spotL_succ, List.map_append, List.sum_append, sum_flat f S, show List.range (S + 1) = List.range S ++ [S] from List.range_succ, List.map_append, List.sum_append, List.map_map]
    simp only [List.map_cons, List.map_nil, List.sum_cons, List.sum_nil, Int.add_zero]
    rfl
/-- hours first -/
theorem sum_flat' (f : Nat × Nat → Int) (S : Nat) : ((spotL S).map f).sum = ((List.range 24).map fun h => ((List.range S).map fun s => f (s, h)).sum).sum := by
  rw [sum_flat, sum_swap]
theorem sum_upd {α : Type} [DecidableEq α] (f g : α → Int) {a : α} (h0 : f a = 0) : ∀ {l : List α}, l.Nodup → a ∈ l → (∀ x, x ∈ l → x ≠ a → g x = f x) → (l.map g).sum = (l.map f).sum + g a
  | b :: l, hn, ha, h => by
    obtain ⟨hb, hn⟩ := List.nodup_cons.1 hn
    simp only [List.map_cons, List.sum_cons]
    by_cases e : b = a
    · subst e
      rw [h0, sum_eq g f l fun x hx => h x (by simp [hx]) fun e => hb (e ▸ hx)]
      omega
    · rw [sum_upd f g h0 hn ((List.mem_cons.1 ha).resolve_left fun h => e h.symm) fun x hx hne => h x (by simp [hx]) hne, h b (by simp) e]
      omega
/-- the prices of what is marked -/
def sumM (m : PM) (mk : Nat → Nat → Bool) : Int := ((spotL m.shafts.length).map fun x => if mk x.1 x.2 then (m.sh x.1).price else 0).sum
theorem sumM_none (m : PM) : sumM m (fun _ _ => false) = 0 := by
  unfold sumM
  exact sum_zero' _ _ fun x _ => by simp
theorem sumM_mark {m : PM} {mk mk' : Nat → Nat → Bool} {s h : Nat} (hs : s < m.shafts.length) (hh : h < 24) (h0 : mk s h = false) (h1 : ∀ s' h', mk' s' h' = (mk s' h' || (decide (s' = s) && decide (h' = h)))) : sumM m mk' = sumM m mk + (m.sh s).price := by
  unfold sumM
  rw [sum_upd (fun x : Nat × Nat => if mk x.1 x.2 then (m.sh x.1).price else 0) (fun x => if mk' x.1 x.2 then (m.sh x.1).price else 0) (a := (s, h)) (by simp [h0]) (spotL_nodup _) (mem_spotL.2 ⟨hs, hh⟩) ?_]
  · simp [h1]
  · rintro ⟨s', h'⟩ _ hne
    have : (decide (s' = s) && decide (h' = h)) = false := by
      rw [Bool.and_eq_false_iff, decide_eq_false_iff_not, decide_eq_false_iff_not]
      by_cases e : s' = s
      · exact .inr fun e' => hne (by rw [e, e'])
      · exact .inl e
    rw [h1, this]; simp
theorem sumM_congr {m : PM} {mk mk' : Nat → Nat → Bool} (h : ∀ s h, s < m.shafts.length → h < 24 → mk s h = mk' s h) : sumM m mk = sumM m mk' := by
  unfold sumM
  refine sum_eq _ _ _ ?_
  rintro ⟨s, t⟩ hx
  obtain ⟨h1, h2⟩ := mem_spotL.1 hx
  rw [h s t h1 h2]
/-- what a group costs: those of p -/
def costF (m : PM) (p : Nat → Bool) : Int := costQ m.wvs.length (spots m) p
theorem costF_sumM (m : PM) (p : Nat → Bool) : costF m p = sumM m fun s h => hitQ m.wvs.length (usesB m s h) p := by
  unfold costF costQ spots sumM
  rw [List.map_map]
  rfl
def shareP (m : PM) (k : Nat) : Int := shareH m.wvs.length (spots m) k
structure POk (m : PM) : Prop where
  sz : 1 ≤ m.shafts.length ∧ m.shafts.length ≤ 9
  few : m.wvs.length ≤ 6
  price : ∀ s, s < m.shafts.length → 0 ≤ (m.sh s).price ∧ (m.sh s).price ≤ 60
  hour : ∀ k, k < m.wvs.length → ∀ h, h ∈ (m.wv k).hours → 0 ≤ h ∧ h ≤ 23
  up : UpOk m
  at_ : AtOk m
  rise : ∀ k, k < m.wvs.length → (m.wv k).hours.Pairwise (· < ·)
theorem POk.spots {m : PM} (h : POk m) : ∀ x, x ∈ spots m → 0 ≤ x.1 := fun x hx => by
  unfold Pow.spots at hx
  obtain ⟨⟨s, t⟩, h1, rfl⟩ := List.mem_map.1 hx
  exact (h.price s (mem_spotL.1 h1).1).1
theorem POk.nodup {m : PM} (h : POk m) {k : Nat} (hk : k < m.wvs.length) : (m.wv k).hours.Nodup := List.nodup_iff_pairwise_ne.2 ((h.rise k hk).imp fun h => by omega)
/-- the shares come to the whole cost, no group has more; each pays no more than the own cost -/
theorem POk.total {m : PM} (h : POk m) : ((List.range m.wvs.length).map (shareP m)).sum = 60 * costF m (fun _ => true) := share_total h.few _
theorem POk.own {m : PM} (h : POk m) {k : Nat} (hk : k < m.wvs.length) : shareP m k ≤ 60 * costF m (fun i => decide (i = k)) := share_own h.few h.spots hk
theorem POk.nonneg {m : PM} (h : POk m) (k : Nat) : 0 ≤ shareP m k := share_nonneg h.spots k
end Go.Proofs.Pow

namespace Go.Proofs.Pow

/-! Lists of numbers below n in increasing order, by their lengths, then in lexicographic order: the first one of a kind. -/
def cmb (n : Nat) : Nat → Nat → List (List Nat)
  | 0, _ => [[]]
  | r + 1, a => (List.range' a (n - a)).flatMap fun k => (cmb n r (k + 1)).map (k :: ·)
/-- a comes before b -/
def ahead : List Nat → List Nat → Bool
  | [], [] => false
  | [], _ :: _ => true
  | _ :: _, [] => false
  | a :: xs, b :: ys => if a = b then ahead xs ys else decide (a < b)
def before (a b : List Nat) : Bool := if a.length = b.length then ahead a b else decide (a.length < b.length)
theorem ahead_irr : ∀ a : List Nat, ahead a a = false
  | [] => rfl
  | x :: a => by unfold ahead; rw [if_pos rfl, ahead_irr a]
theorem ahead_anti : ∀ a b : List Nat, ahead a b = true → ahead b a = false
  | [], [], h => by simp [ahead] at h
  | [], _ :: _, _ => rfl
  | _ :: _, [], h => by simp [ahead] at h
  | a :: xs, b :: ys, h => by
    unfold ahead at h ⊢
    by_cases e : a = b
    · subst e
      simp only [if_true] at h ⊢
      exact ahead_anti xs ys h
    · rw [if_neg e, decide_eq_true_eq] at h
      rw [if_neg (fun h => e h.symm), decide_eq_false_iff_not]
      omega
theorem before_irr (a : List Nat) : before a a = false := by unfold before; rw [if_pos rfl]; exact ahead_irr a
theorem before_anti (a b : List Nat) (h : before a b = true) : before b a = false := by
  unfold before at h ⊢
  by_cases e : a.length = b.length
  · rw [if_pos e] at h; rw [if_pos e.symm]; exact ahead_anti a b h
  · rw [if_neg e, decide_eq_true_eq] at h
    rw [if_neg (fun h => e h.symm), decide_eq_false_iff_not]; omega
/-- increasing, from a on, below n -/
def Up (n a : Nat) (l : List Nat) : Prop := l.Pairwise (· < ·) ∧ ∀ x, x ∈ l → a ≤ x ∧ x < n
theorem mem_cmb (n : Nat) : ∀ r a l, l ∈ cmb n r a ↔ l.length = r ∧ Up n a l
  | 0, a, l => by
    unfold cmb
    rw [List.mem_singleton, List.length_eq_zero_iff]
    exact ⟨fun h => ⟨h, by subst h; exact ⟨List.Pairwise.nil, by simp⟩⟩, (·.1)⟩
  | r + 1, a, l => by
    unfold cmb
    rw [List.mem_flatMap]
    constructor
    · rintro ⟨k, hk, hl⟩
      rw [List.mem_range'_1] at hk
      obtain ⟨t, ht, rfl⟩ := List.mem_map.1 hl
      obtain ⟨h1, h2, h3⟩ := (mem_cmb n r (k + 1) t).1 ht
      refine ⟨by rw [List.length_cons, h1], List.pairwise_cons.2 ⟨fun x hx => by have := h3 x hx; omega, h2⟩, fun x hx => ?_⟩
      rcases List.mem_cons.1 hx with rfl | hx
      · omega
      · have := h3 x hx; omega
    · rintro ⟨h1, h2, h3⟩
      match l, h1 with
      | k :: t, h1 =>
        rw [List.pairwise_cons] at h2
        have hk := h3 k (by simp)
        refine ⟨k, by rw [List.mem_range'_1]; omega, List.mem_map.2 ⟨t, (mem_cmb n r (k + 1) t).2 ⟨by simpa using h1, h2.2, fun x hx => ?_⟩, rfl⟩⟩
        have := h2.1 x hx; have := h3 x (by simp [hx]); omega
theorem cmb_order (n : Nat) : ∀ r a, (cmb n r a).Pairwise fun x y => ahead x y = true
  | 0, _ => List.pairwise_singleton _ _
  | r + 1, a => by
    unfold cmb
    rw [List.pairwise_flatMap]
    refine ⟨fun k _ => ?_, ?_⟩
    · rw [List.pairwise_map]
      refine (cmb_order n r (k + 1)).imp fun {x y} h => ?_
      unfold ahead; rw [if_pos rfl]; exact h
    · refine (List.pairwise_lt_range' (step := 1)).imp fun {i j} hij => ?_
      intro x hx y hy
      obtain ⟨x', _, rfl⟩ := List.mem_map.1 hx
      obtain ⟨y', _, rfl⟩ := List.mem_map.1 hy
      unfold ahead
      rw [if_neg (by omega)]; exact decide_eq_true hij
/-- all of them in their order -/
def allF (n : Nat) : List (List Nat) := (List.range (n + 1)).flatMap fun r => cmb n r 0
theorem up_len {n : Nat} : ∀ {a : Nat} {l : List Nat}, Up n a l → l.length ≤ n - a
  | a, [], _ => Nat.zero_le _
  | a, k :: t, ⟨h1, h2⟩ => by
    rw [List.pairwise_cons] at h1
    have hk := h2 k (by simp)
    have := up_len (n := n) (a := k + 1) (l := t) ⟨h1.2, fun x hx => by have := h1.1 x hx; have := h2 x (by simp [hx]); omega⟩
    rw [List.length_cons]; omega
theorem mem_allF (n : Nat) (l : List Nat) : l ∈ allF n ↔ Up n 0 l := by
  unfold allF
  rw [List.mem_flatMap]
  constructor
  · rintro ⟨r, _, h⟩; exact ((mem_cmb n r 0 l).1 h).2
  · intro h
    have := up_len h
    exact ⟨l.length, List.mem_range.2 (by omega), (mem_cmb n _ 0 l).2 ⟨rfl, h⟩⟩
theorem allF_order (n : Nat) : (allF n).Pairwise fun x y => before x y = true := by
  unfold allF
  rw [List.pairwise_flatMap]
  refine ⟨fun r _ => (cmb_order n r 0).imp_of_mem fun {x y} hx hy h => ?_, List.pairwise_lt_range.imp fun {i j} hij x hx y hy => ?_⟩
  · have h1 := ((mem_cmb n r 0 x).1 hx).1; have h2 := ((mem_cmb n r 0 y).1 hy).1
    unfold before; rw [if_pos (by omega)]; exact h
  · have h1 := ((mem_cmb n i 0 x).1 hx).1; have h2 := ((mem_cmb n j 0 y).1 hy).1
    unfold before; rw [if_neg (by omega)]; exact decide_eq_true (by omega)
def firstF (n : Nat) (p : List Nat → Bool) : Option (List Nat) := (allF n).find? p
/-- what the first one is -/
theorem firstF_some {n : Nat} {p : List Nat → Bool} {l : List Nat} : firstF n p = some l ↔ p l = true ∧ Up n 0 l ∧ ∀ x, Up n 0 x → p x = true → before x l = false := by
  unfold firstF
  constructor
  · intro h
    have h1 := List.find?_some h
    have hm := List.mem_of_find?_eq_some h
    refine ⟨h1, (mem_allF n l).1 hm, fun x hx hp => ?_⟩
    obtain ⟨_, pre, post, e, hno⟩ := List.find?_eq_some_iff_append.1 h
    have hx' := (mem_allF n x).2 hx
    have ho := allF_order n
    rw [e] at hx' ho
    rw [List.pairwise_append] at ho
    rcases List.mem_append.1 hx' with hx' | hx'
    · have := hno x hx'
      rw [hp] at this; cases this
    · rcases List.mem_cons.1 hx' with rfl | hx'
      · exact before_irr _
      · exact before_anti _ _ ((List.pairwise_cons.1 ho.2.1).1 x hx')
  · rintro ⟨h1, h2, h3⟩
    cases h : (allF n).find? p with
    | none =>
      have := List.find?_eq_none.1 h l ((mem_allF n l).2 h2)
      exact absurd h1 this
    | some b =>
      have hb := List.find?_some h
      have hm := (mem_allF n b).1 (List.mem_of_find?_eq_some h)
      obtain ⟨_, pre, post, e, hno⟩ := List.find?_eq_some_iff_append.1 h
      have hl := (mem_allF n l).2 h2
      have ho := allF_order n
      rw [e] at hl ho
      rw [List.pairwise_append] at ho
      rcases List.mem_append.1 hl with hl | hl
      · have := hno l hl
        rw [h1] at this; cases this
      · rcases List.mem_cons.1 hl with rfl | hl
        · rfl
        · have g1 := (List.pairwise_cons.1 ho.2.1).1 l hl
          rw [h3 b hm hb] at g1; cases g1
theorem firstF_none {n : Nat} {p : List Nat → Bool} : firstF n p = none ↔ ∀ x, Up n 0 x → p x = false := by
  unfold firstF
  rw [List.find?_eq_none]
  exact ⟨fun h x hx => by simpa using h x ((mem_allF n x).2 hx), fun h x hx => by rw [h x ((mem_allF n x).1 hx)]; simp⟩
end Go.Proofs.Pow

namespace Go.Proofs.Pow

section
variable (m : PM) (s : Nat → Int)
/-- a shaft is cleared -/
def clrB (i : Nat) : Bool := (List.range m.wvs.length).any fun k => decide (s k = 1) && m.drv i k
def clI (x : Int) : Bool := clrB m s x.toNat
def opnS (k : Nat) : List Int := opn m (clI m s) k
def hitL (l : List Nat) (k : Nat) : Bool := l.any fun i => m.drv i k
def explB (l : List Nat) : Bool := (List.range m.wvs.length).all fun k => !(decide (s k = 1) && hitL m l k) && !(decide (s k = 2) && !hitL m l k)
def clashB : Bool := (List.range m.wvs.length).any fun k => decide (s k = 2) && (opnS m s k).isEmpty
/-- those that surely slipped, as they are found -/
def sureL : List Int := ((List.range m.wvs.length).filter fun k => decide (s k = 2) && decide ((opnS m s k).length = 1)).map fun k => (opnS m s k)[0]?.getD 0
def proofB (l : List Nat) : Bool := (l.all fun k => decide (s k = 2)) && decide ((l.flatMap (opnS m s)).Nodup)
end
section
variable {m : PM} {s : Nat → Int}
/-- all shafts that are not cleared, but those of out -/
def restL (m : PM) (s : Nat → Int) (out : Nat → Bool) : List Nat := (List.range m.shafts.length).filter fun i => !clrB m s i && !out i
/-- the proof that is found: of each number of weavers the first one, the last that there is -/
def proveF (n : Nat) (p : List Nat → Bool) : List Nat := (List.range (n + 1)).foldl (fun b c => (firstF n fun l => decide (l.length = c) && p l).getD b) []
end
end Go.Proofs.Pow

namespace Go.Proofs.Pow

/-! One hour more. -/
/-- m' is m, in which weaver k0 uses power in the hour h0, too -/
structure Used (m m' : PM) (k0 : Nat) (h0 : Nat) : Prop where
  shafts : m'.shafts = m.shafts
  len : m'.wvs.length = m.wvs.length
  lt : k0 < m.wvs.length
  other : ∀ j, j ≠ k0 → m'.wv j = m.wv j
  shaft : (m'.wv k0).shaft = (m.wv k0).shaft
  hours : ∀ h : Int, (m'.wv k0).hours.contains h = ((m.wv k0).hours.contains h || decide (h = (h0 : Int)))
theorem line_shafts {m m' : PM} (h : m'.shafts = m.shafts) (s : Int) : m'.line s = m.line s := by
  have : ∀ f s, lineF m' f s = lineF m f s := by
    intro f
    induction f with
    | zero => intro s; rfl
    | succ f ih =>
      intro s
      unfold lineF
      rw [ih]
      unfold PM.sh
      rw [h]
  unfold PM.line
  rw [h, this]
theorem Used.drv {m m' : PM} {k0 h0 : Nat} (h : Used m m' k0 h0) (s k : Nat) : m'.drv s k = m.drv s k := by
  unfold PM.drv
  rw [line_shafts h.shafts]
  by_cases e : k = k0
  · subst e; rw [h.shaft]
  · rw [h.other k e]
theorem Used.uses {m m' : PM} {k0 h0 : Nat} (h : Used m m' k0 h0) (s t k : Nat) : usesB m' s t k = (usesB m s t k || (decide (k = k0) && decide (t = h0) && m.drv s k0)) := by
  unfold usesB
  rw [h.drv]
  by_cases e : k = k0
  · subst e
    rw [h.hours]
    have : decide ((t : Int) = (h0 : Int)) = decide (t = h0) := by
      rw [Bool.eq_iff_iff, decide_eq_true_eq, decide_eq_true_eq]; omega
    rw [this]
    cases m.drv s k <;> cases (m.wv k).hours.contains (t : Int) <;> simp
  · rw [h.other k e]; simp [e]
/-- a shaft runs in an hour -/
def runsB (m : PM) (s h : Nat) : Bool := hitQ m.wvs.length (usesB m s h) fun _ => true
theorem Used.runs {m m' : PM} {k0 h0 : Nat} (h : Used m m' k0 h0) (s t : Nat) : runsB m' s t = (runsB m s t || (decide (t = h0) && m.drv s k0)) := by
  unfold runsB
  rw [Bool.eq_iff_iff, Bool.or_eq_true, hitQ_iff, hitQ_iff, h.len]
  constructor
  · rintro ⟨k, hk, h1, _⟩
    rw [h.uses, Bool.or_eq_true] at h1
    rcases h1 with h1 | h1
    · exact .inl ⟨k, hk, h1, rfl⟩
    · rw [Bool.and_eq_true, Bool.and_eq_true] at h1
      exact .inr (by rw [h1.1.2, h1.2]; rfl)
  · rintro (⟨k, hk, h1, _⟩ | h1)
    · exact ⟨k, hk, by rw [h.uses, h1]; rfl, rfl⟩
    · rw [Bool.and_eq_true] at h1
      exact ⟨k0, h.lt, by rw [h.uses]; simp [h1.1, h1.2], rfl⟩
theorem sum_list {S : Nat} (f : Int → Int) : ∀ {l : List Int}, l.Nodup → (∀ x, x ∈ l → 0 ≤ x ∧ x < (S : Int)) → (l.map f).sum = ((List.range S).map fun s : Nat => if l.contains (s : Int) then f s else 0).sum
  | [], _, _ => by
    rw [sum_zero' _ (List.range S) fun x _ => by simp]; rfl
  | a :: l, hn, hb => by
    obtain ⟨ha, hn2⟩ := List.nodup_cons.1 hn
    obtain ⟨h1, h2⟩ := hb a (by simp)
    obtain ⟨n, rfl⟩ : ∃ n : Nat, a = n := ⟨a.toNat, by omega⟩
    have ih := sum_list (S := S) f hn2 fun x hx => hb x (by simp [hx])
    rw [List.map_cons, List.sum_cons, ih]
    have hc : l.contains (n : Int) = false := by rw [← Bool.not_eq_true, List.contains_iff_mem]; exact ha
    have h3 := sum_upd (fun s : Nat => if l.contains (s : Int) then f (s : Int) else 0) (fun s : Nat => if ((n : Int) :: l).contains (s : Int) then f (s : Int) else 0) (a := n) (by simp only [hc]; rfl) (l := List.range S) List.nodup_range (List.mem_range.2 (by omega)) (fun x _ hne => by
      have : ((x : Int) == (n : Int)) = false := by rw [beq_eq_false_iff_ne]; omega
      simp only [List.contains_cons, this, Bool.false_or])
    have h4 : (fun s : Nat => if ((n : Int) :: l).contains (s : Int) then f (s : Int) else 0) n = f (n : Int) := by simp
    exact (Int.add_comm _ _).trans (h3.trans (congrArg _ h4)).symm
/-- what one hour more costs: the shafts of the line that do not run yet -/
theorem Used.extra {m m' : PM} {k0 h0 : Nat} (h : Used m m' k0 h0) (hm : POk m) (hh : h0 < 24) :
    costF m' (fun _ => true) - costF m (fun _ => true) = ((m.line (m.wv k0).shaft).map fun x => if runsB m x.toNat h0 then 0 else (m.sh x.toNat).price).sum := by
  have hk := hm.at_ k0 h.lt
  obtain ⟨n, hn⟩ : ∃ n : Nat, (m.wv k0).shaft = n := ⟨(m.wv k0).shaft.toNat, by omega⟩
  have hn' : n < m.shafts.length := by omega
  have hnd : (m.line (m.wv k0).shaft).Nodup := by
    rw [hn]
    exact List.nodup_iff_pairwise_ne.2 ((line_down m hm.up n hn').imp fun h => by omega)
  rw [sum_list (S := m.shafts.length) _ hnd fun x hx => by rw [hn] at hx; have := line_mem m hm.up n hn' x hx; omega]
  rw [costF_sumM, costF_sumM]
  have e1 : ∀ mm : PM, mm.shafts = m.shafts → ∀ mk, sumM mm mk = sumM m mk := fun mm e mk => by
    unfold sumM PM.sh
    rw [e]
  rw [e1 m' h.shafts]
  show sumM m (runsB m') - sumM m (runsB m) = _
  unfold sumM
  rw [sum_flat, sum_flat]
  have key : ∀ l : List Nat, (l.map fun s => ((List.range 24).map fun t => if runsB m' s t then (m.sh s).price else 0).sum).sum - (l.map fun s => ((List.range 24).map fun t => if runsB m s t then (m.sh s).price else 0).sum).sum =
      (l.map fun s : Nat => if (m.line (m.wv k0).shaft).contains (s : Int) then (if runsB m s h0 then 0 else (m.sh s).price) else 0).sum := by
    intro l
    induction l with
    | nil => rfl
    | cons s l ih =>
      simp only [List.map_cons, List.sum_cons]
      have e : ((List.range 24).map fun t => if runsB m' s t then (m.sh s).price else 0).sum = ((List.range 24).map fun t => if runsB m s t then (m.sh s).price else 0).sum + (if (m.line (m.wv k0).shaft).contains (s : Int) then (if runsB m s h0 then 0 else (m.sh s).price) else 0) := by
        cases hd : (m.line (m.wv k0).shaft).contains (s : Int) with
        | false =>
          rw [if_neg (by simp), Int.add_zero]
          refine sum_eq _ _ _ fun t _ => ?_
          rw [h.runs]
          have : m.drv s k0 = false := hd
          rw [this]; simp
        | true =>
          have hd' : m.drv s k0 = true := hd
          rw [if_pos rfl]
          cases hr : runsB m s h0 with
          | true =>
            rw [if_pos rfl, Int.add_zero]
            refine sum_eq _ _ _ fun t _ => ?_
            rw [h.runs, hd']
            by_cases e : t = h0
            · subst e; rw [hr]; rfl
            · simp [e]
          | false =>
            rw [if_neg (by simp)]
            rw [sum_upd (fun t => if runsB m s t then (m.sh s).price else 0) (fun t => if runsB m' s t then (m.sh s).price else 0) (a := h0) (by simp [hr]) List.nodup_range (List.mem_range.2 hh) ?_]
            · have : runsB m' s h0 = true := by rw [h.runs, hd']; simp
              rw [if_pos this]
            · intro t _ hne
              rw [h.runs]
              simp [hne]
      rw [e]
      omega
  rw [key]
  refine sum_eq _ _ _ fun s _ => ?_
  rw [Int.toNat_natCast]
/-! What weavers add in an order of coming. -/
def befB (l : List Nat) (i : Nat) (k : Nat) : Bool := (l.take i).contains k
/-- what the one at place i adds -/
def addF (m : PM) (l : List Nat) (i : Nat) : Int := costF m (befB l (i + 1)) - costF m (befB l i)
theorem add_at {m : PM} {l : List Nat} {i : Nat} (hi : i < l.length) : addF m l i = costF m (fun k => befB l i k || decide (k = l[i])) - costF m (befB l i) := by
  unfold addF
  congr 1
  refine costQ_congr fun k _ => ?_
  unfold befB
  rw [List.take_succ_eq_append_getElem hi, Bool.eq_iff_iff, Bool.or_eq_true, List.contains_iff_mem, List.contains_iff_mem, decide_eq_true_eq, List.mem_append, List.mem_singleton]
theorem addF_nonneg {m : PM} (hm : POk m) {l : List Nat} {i : Nat} (hi : i < l.length) (hlt : l[i] < m.wvs.length) : 0 ≤ addF m l i := by
  rw [add_at hi]
  exact add_nonneg hm.spots hlt
end Go.Proofs.Pow

namespace Go.Proofs.Pow

/-- all orders of the numbers below n, by insertion -/
def permsF : Nat → List (List Nat)
  | 0 => [[]]
  | k + 1 => (permsF k).flatMap fun l => (List.range (l.length + 1)).map fun a => l.take a ++ k :: l.drop a
theorem perm_ins {l : List Nat} {k a : Nat} : (l.take a ++ k :: l.drop a).Perm (k :: l) := by
  refine List.perm_middle.trans ?_
  rw [List.take_append_drop]
theorem permsF_perm : ∀ n l, l ∈ permsF n → l.Perm (List.range n)
  | 0, l, h => by
    unfold permsF at h
    rw [List.mem_singleton] at h
    subst h; exact List.Perm.refl _
  | k + 1, l, h => by
    unfold permsF at h
    obtain ⟨r, h1, h2⟩ := List.mem_flatMap.1 h
    obtain ⟨a, _, rfl⟩ := List.mem_map.1 h2
    refine perm_ins.trans ?_
    rw [List.range_succ]
    exact ((permsF_perm k r h1).cons k).trans (List.perm_append_singleton k _).symm
theorem ins_inj {l : List Nat} {k a b : Nat} (hk : k ∉ l) (ha : a ≤ l.length) (hb : b ≤ l.length) (h : l.take a ++ k :: l.drop a = l.take b ++ k :: l.drop b) : a = b := by
  have key : ∀ a b, a ≤ l.length → b ≤ l.length → l.take a ++ k :: l.drop a = l.take b ++ k :: l.drop b → ¬ a < b := fun a b ha hb h hlt => by
    have e : (l.take a ++ k :: l.drop a)[a]? = (l.take b ++ k :: l.drop b)[a]? := by rw [h]
    have l1 : (l.take a).length = a := by rw [List.length_take]; omega
    have l2 : (l.take b).length = b := by rw [List.length_take]; omega
    rw [List.getElem?_append_right (by omega), l1, Nat.sub_self, List.getElem?_cons_zero, List.getElem?_append_left (by omega), List.getElem?_take, if_pos hlt] at e
    exact hk (List.mem_of_getElem? e.symm)
  have h1 := key a b ha hb h
  have h2 := key b a hb ha h.symm
  omega
theorem ins_back {l : List Nat} {k a : Nat} (hk : k ∉ l) : (l.take a ++ k :: l.drop a).filter (fun x => decide (x ≠ k)) = l := by
  rw [List.filter_append, List.filter_cons_of_neg (by simp), ← List.filter_append, List.take_append_drop, List.filter_eq_self]
  intro x hx
  rw [decide_eq_true_eq]
  exact fun e => hk (e ▸ hx)
/-- all orders that go on behind a set -/
def ordsR (n : Nat) : Nat → Nat → List (List Nat)
  | 0, _ => [[]]
  | r + 1, s => (lack n s).flatMap fun k => (ordsR n r (s + 2 ^ k)).map (k :: ·)
theorem lack_zero (n : Nat) : lack n 0 = List.range n := by
  unfold lack
  rw [List.filter_eq_self]
  intro k _; simp
theorem ordsR_len (n : Nat) : ∀ r s, (ordsR n r s).length = addN n r s
  | 0, _ => rfl
  | r + 1, s => by
    unfold ordsR addN
    rw [List.length_flatMap]
    congr 1
    refine List.map_congr_left fun k _ => ?_
    rw [List.length_map, ordsR_len n r]
/-- what i adds in an order, behind a set -/
def addIn (c : Nat → Int) (i : Nat) : Nat → List Nat → Int
  | _, [] => 0
  | s, x :: r => (if x = i then c (s + 2 ^ x) - c s else 0) + addIn c i (s + 2 ^ x) r
theorem sum_flatMap {α β : Type} (f : β → Int) (g : α → List β) : ∀ l : List α, ((l.flatMap g).map f).sum = (l.map fun a => ((g a).map f).sum).sum
  | [] => rfl
  | a :: l => by rw [List.flatMap_cons, List.map_append, List.sum_append, sum_flatMap f g l]; rfl
theorem sum_same {α : Type} (c : Int) : ∀ l : List α, (l.map fun _ => c).sum = (l.length : Int) * c
  | [] => by simp
  | a :: l => by rw [List.map_cons, List.sum_cons, sum_same c l, List.length_cons, Int.natCast_add, Int.add_mul]; simp [Int.add_comm]
/-- the set of those that have come -/
def maskL (s : Nat) (l : List Nat) : Nat := l.foldl (fun s x => s + 2 ^ x) s
theorem maskL_bit : ∀ (l : List Nat) (s : Nat), l.Nodup → (∀ x, x ∈ l → s.testBit x = false) → ∀ k, (maskL s l).testBit k = (s.testBit k || l.contains k)
  | [], s, _, _, k => by simp [maskL]
  | x :: l, s, hn, h, k => by
    obtain ⟨h1, h2⟩ := List.nodup_cons.1 hn
    have hx := h x (by simp)
    show (maskL (s + 2 ^ x) l).testBit k = _
    rw [maskL_bit l (s + 2 ^ x) h2 fun y hy => by
      rw [testBit_plus hx, h y (by simp [hy])]
      simp only [Bool.false_or, decide_eq_false_iff_not]
      exact fun e => h1 (e ▸ hy)]
    rw [testBit_plus hx, List.contains_cons]
    have : (k == x) = decide (k = x) := rfl
    rw [this, Bool.or_assoc]
theorem addIn_out (c : Nat → Int) {i : Nat} : ∀ (l : List Nat) (s : Nat), i ∉ l → addIn c i s l = 0
  | [], _, _ => rfl
  | x :: l, s, h => by
    rw [List.mem_cons, not_or] at h
    unfold addIn
    rw [if_neg (fun e => h.1 e.symm), addIn_out c l _ h.2]; rfl
end Go.Proofs.Pow

namespace Go.Proofs.Pow

theorem sorted_ext : ∀ {l r : List Nat}, l.Pairwise (· < ·) → r.Pairwise (· < ·) → (∀ x, x ∈ l ↔ x ∈ r) → l = r
  | [], [], _, _, _ => rfl
  | [], b :: r, _, _, h => absurd ((h b).2 (by simp)) (by simp)
  | a :: l, [], _, _, h => absurd ((h a).1 (by simp)) (by simp)
  | a :: l, b :: r, h1, h2, h => by
    obtain ⟨g1, g2⟩ := List.pairwise_cons.1 h1
    obtain ⟨k1, k2⟩ := List.pairwise_cons.1 h2
    have hab : a = b := by
      have e1 := (h a).1 (by simp)
      have e2 := (h b).2 (by simp)
      rcases List.mem_cons.1 e1 with e1 | e1
      · exact e1
      · rcases List.mem_cons.1 e2 with e2 | e2
        · exact e2.symm
        · have := k1 a e1; have := g1 b e2; omega
    subst hab
    rw [sorted_ext g2 k2 fun x => ?_]
    constructor
    · intro hx
      have := (h x).1 (by simp [hx])
      rcases List.mem_cons.1 this with e | e
      · have := g1 x hx; omega
      · exact e
    · intro hx
      have := (h x).2 (by simp [hx])
      rcases List.mem_cons.1 this with e | e
      · have := k1 x hx; omega
      · exact e
/-- the numbers that the bits of a number say -/
def bitsL (n s : Nat) : List Nat := (List.range n).filter fun k => s.testBit k
theorem mem_bitsL {n s k : Nat} : k ∈ bitsL n s ↔ k < n ∧ s.testBit k = true := by
  unfold bitsL; rw [List.mem_filter, List.mem_range]
theorem bitsL_up (n s : Nat) : Up n 0 (bitsL n s) := ⟨List.pairwise_lt_range.filter _, fun _x hx => ⟨Nat.zero_le _, (mem_bitsL.1 hx).1⟩⟩
theorem up_nodup {n a : Nat} {l : List Nat} (h : Up n a l) : l.Nodup := List.nodup_iff_pairwise_ne.2 (h.1.imp fun h => by omega)
theorem up_bits {n : Nat} {l : List Nat} (h : Up n 0 l) : ∃ s, s < 2 ^ n ∧ bitsL n s = l := by
  have hb := maskL_bit l 0 (up_nodup h) fun x _ => Nat.zero_testBit x
  refine ⟨maskL 0 l, ?_, sorted_ext (bitsL_up n _).1 h.1 fun x => ?_⟩
  · refine Nat.lt_pow_two_of_testBit _ fun i hi => ?_
    rw [hb, Nat.zero_testBit, Bool.false_or, ← Bool.not_eq_true, List.contains_iff_mem]
    intro hx
    have := (h.2 i hx).2
    omega
  · rw [mem_bitsL, hb, Nat.zero_testBit, Bool.false_or, List.contains_iff_mem]
    exact ⟨fun g => g.2, fun g => ⟨(h.2 x g).2, g⟩⟩
/-- the first one, found by trying all sets below s -/
def pickF (n : Nat) (p : List Nat → Bool) : Nat → Option (List Nat)
  | 0 => none
  | s + 1 => if p (bitsL n s) && (match pickF n p s with | none => true | some x => before (bitsL n s) x) then some (bitsL n s) else pickF n p s
theorem pickF_none {n : Nat} {p : List Nat → Bool} : ∀ {s : Nat}, pickF n p s = none ↔ ∀ t, t < s → p (bitsL n t) = false
  | 0 => by simp [pickF]
  | s + 1 => by
    unfold pickF
    constructor
    · intro h
      cases hp : pickF n p s with
      | none =>
        rw [hp] at h
        have h1 := pickF_none.1 hp
        intro t ht
        rcases Nat.lt_or_eq_of_le (Nat.le_of_lt_succ ht) with e | e
        · exact h1 t e
        · subst e
          cases hq : p (bitsL n t) with
          | false => rfl
          | true => rw [hq] at h; simp at h
      | some x =>
        rw [hp] at h
        cases hq : p (bitsL n s) && before (bitsL n s) x with
        | true => simp only [hq, if_pos] at h; cases h
        | false => simp only [hq, Bool.false_eq_true, if_false] at h; cases h
    · intro h
      have h1 : pickF n p s = none := pickF_none.2 fun t ht => h t (by omega)
      rw [h1, h s (by omega)]; rfl
theorem ahead_trans : ∀ {a b c : List Nat}, ahead a b = true → ahead b c = true → ahead a c = true
  | [], b, [], _, h2 => by cases b <;> simp [ahead] at h2
  | [], _, _ :: _, _, _ => rfl
  | a :: x, [], _, h1, _ => by simp [ahead] at h1
  | a :: x, b :: y, [], _, h2 => by simp [ahead] at h2
  | a :: x, b :: y, c :: z, h1, h2 => by
    unfold ahead at h1 h2 ⊢
    by_cases e1 : a = b
    · subst e1
      rw [if_pos rfl] at h1
      by_cases e2 : a = c
      · subst e2
        rw [if_pos rfl] at h2 ⊢
        exact ahead_trans h1 h2
      · rw [if_neg e2] at h2 ⊢; exact h2
    · rw [if_neg e1, decide_eq_true_eq] at h1
      by_cases e2 : b = c
      · subst e2
        rw [if_neg e1]; exact decide_eq_true h1
      · rw [if_neg e2, decide_eq_true_eq] at h2
        rw [if_neg (by omega)]
        exact decide_eq_true (by omega)
theorem before_tr {a b c : List Nat} (h1 : before a b = true) (h2 : before b c = true) : before a c = true := by
  unfold before at h1 h2 ⊢
  by_cases e1 : a.length = b.length
  · rw [if_pos e1] at h1
    by_cases e2 : b.length = c.length
    · rw [if_pos e2] at h2
      rw [if_pos (by omega)]
      exact ahead_trans h1 h2
    · rw [if_neg e2, decide_eq_true_eq] at h2
      rw [if_neg (by omega)]
      exact decide_eq_true (by omega)
  · rw [if_neg e1, decide_eq_true_eq] at h1
    by_cases e2 : b.length = c.length
    · rw [if_neg (by omega)]
      exact decide_eq_true (by omega)
    · rw [if_neg e2, decide_eq_true_eq] at h2
      rw [if_neg (by omega)]
      exact decide_eq_true (by omega)
theorem pickF_some {n : Nat} {p : List Nat → Bool} : ∀ {s : Nat} {l : List Nat}, pickF n p s = some l → p l = true ∧ (∃ t, t < s ∧ bitsL n t = l) ∧ ∀ t, t < s → p (bitsL n t) = true → before (bitsL n t) l = false
  | s + 1, l, h => by
    unfold pickF at h
    cases hp : pickF n p s with
    | none =>
      rw [hp] at h
      have h1 := pickF_none.1 hp
      cases hq : p (bitsL n s) with
      | false => rw [hq] at h; simp at h
      | true =>
        rw [hq] at h
        simp only [Bool.and_self, if_pos, Option.some.injEq] at h
        subst h
        refine ⟨hq, ⟨s, by omega, rfl⟩, fun t ht g => ?_⟩
        rcases Nat.lt_or_eq_of_le (Nat.le_of_lt_succ ht) with e | e
        · rw [h1 t e] at g; cases g
        · subst e; exact before_irr _
    | some x =>
      obtain ⟨k1, ⟨t0, k2, k3⟩, k4⟩ := pickF_some hp
      rw [hp] at h
      cases hq : p (bitsL n s) && before (bitsL n s) x with
      | false =>
        simp only [hq] at h
        simp only [Bool.false_eq_true, if_false, Option.some.injEq] at h
        subst h
        refine ⟨k1, ⟨t0, by omega, k3⟩, fun t ht g => ?_⟩
        rcases Nat.lt_or_eq_of_le (Nat.le_of_lt_succ ht) with e | e
        · exact k4 t e g
        · subst e
          rw [g, Bool.true_and] at hq
          exact hq
      | true =>
        simp only [hq, if_pos, Option.some.injEq] at h
        subst h
        rw [Bool.and_eq_true] at hq
        refine ⟨hq.1, ⟨s, by omega, rfl⟩, fun t ht g => ?_⟩
        rcases Nat.lt_or_eq_of_le (Nat.le_of_lt_succ ht) with e | e
        · have := k4 t e g
          rw [← Bool.not_eq_true]
          intro h5
          rw [before_tr h5 hq.2] at this
          cases this
        · subst e; exact before_irr _
/-- both ways find the same -/
theorem pick_first (n : Nat) (p : List Nat → Bool) : pickF n p (2 ^ n) = firstF n p := by
  cases h : pickF n p (2 ^ n) with
  | none =>
    symm
    rw [firstF_none]
    intro x hx
    obtain ⟨s, hs, rfl⟩ := up_bits hx
    exact pickF_none.1 h s hs
  | some l =>
    obtain ⟨h1, ⟨t, _, rfl⟩, h3⟩ := pickF_some h
    symm
    rw [firstF_some]
    refine ⟨h1, bitsL_up n t, fun x hx hp => ?_⟩
    obtain ⟨s, hs, rfl⟩ := up_bits hx
    exact h3 s hs hp
/-- what is in all lists of a kind, found by trying all sets below s; none if there are none -/
def bothF (n : Nat) (p : List Nat → Bool) : Nat → Option (List Nat)
  | 0 => none
  | s + 1 => if p (bitsL n s) then some (match bothF n p s with | none => (bitsL n s).filter fun x => (bitsL n s).contains x | some b => b.filter fun x => (bitsL n s).contains x) else bothF n p s
theorem bothF_none {n : Nat} {p : List Nat → Bool} : ∀ {s : Nat}, bothF n p s = none ↔ ∀ t, t < s → p (bitsL n t) = false
  | 0 => by simp [bothF]
  | s + 1 => by
    unfold bothF
    constructor
    · intro h t ht
      cases hq : p (bitsL n s) with
      | true => rw [hq] at h; simp at h
      | false =>
        rw [hq] at h
        simp only [Bool.false_eq_true, if_false] at h
        rcases Nat.lt_or_eq_of_le (Nat.le_of_lt_succ ht) with e | e
        · exact bothF_none.1 h t e
        · subst e; exact hq
    · intro h
      rw [h s (by omega)]
      simp only [Bool.false_eq_true, if_false]
      exact bothF_none.2 fun t ht => h t (by omega)
end Go.Proofs.Pow

namespace Go.Proofs.Pow

def skip (k j : Nat) : Nat := if j < k then j else j + 1
/-- p has some of m's weavers: its j is m's f j -/
structure Some (p m : PM) (f : Nat → Nat) : Prop where
  shafts : p.shafts = m.shafts
  lt : ∀ j, j < p.wvs.length → f j < m.wvs.length
  same : ∀ j, j < p.wvs.length → p.wv j = m.wv (f j)
  inj : ∀ a b, a < p.wvs.length → b < p.wvs.length → f a = f b → a = b
def PM.drop (m : PM) (k : Nat) : PM := { m with wvs := m.wvs.eraseIdx k }
def PM.only (m : PM) (k : Nat) : PM := { m with wvs := [m.wv k] }
end Go.Proofs.Pow

namespace Go.Proofs.Pow

/-- all groups of the numbers below n -/
def groupsF : Nat → List (List Nat)
  | 0 => [[]]
  | k + 1 => groupsF k ++ (groupsF k).map (· ++ [k])
theorem up_snoc {n : Nat} {l : List Nat} (h : Up n 0 l) : Up (n + 1) 0 (l ++ [n]) := by
  refine ⟨?_, fun x hx => ⟨Nat.zero_le _, ?_⟩⟩
  · rw [List.pairwise_append]
    exact ⟨h.1, List.pairwise_singleton _ _, fun a ha b hb => by rw [List.mem_singleton] at hb; subst hb; exact (h.2 a ha).2⟩
  · rcases List.mem_append.1 hx with h1 | h1
    · have := (h.2 x h1).2; omega
    · rw [List.mem_singleton] at h1; omega
/-- a group has more parts than sixty times its cost -/
def moreB (m : PM) (sh : List Int) (l : List Nat) : Bool := decide (60 * costF m (fun k => l.contains k) < (l.map fun k => sh[k]?.getD 0).sum)
def betterF (m : PM) (sh : List Int) : Option (List Nat) := firstF m.wvs.length (moreB m sh)
end Go.Proofs.Pow

namespace Go.Proofs.Pow

/-- each shaft is driven by the one before it -/
def ChainOk (m : PM) : Prop := ∀ s, s < m.shafts.length → (m.sh s).up = (s : Int) - 1
theorem ChainOk.up {m : PM} (h : ChainOk m) : UpOk m := fun s hs => by rw [h s hs]; omega
/-- the most hours of the looms that a shaft drives -/
def mostF (m : PM) (s : Nat) : Nat := m.wvs.foldl (fun a w => if (s : Int) ≤ w.shaft then max a w.hours.length else a) 0
end Go.Proofs.Pow

namespace Go.Proofs.Pow

/-- group g (numbers): weaver k marks (s, h) -/
def usesI (m : PM) (s h : Nat) (k : Int) : Bool := (m.line (m.wv k.toNat).shaft).contains (s : Int) && (m.wv k.toNat).hours.contains (h : Int)
def mkG (m : PM) (g : List Int) (s h : Nat) : Bool := g.any (usesI m s h)
/-- within the round of k: the hours hs are done, in the hour cur the shafts ls -/
def mk3 (m : PM) (g : List Int) (k : Int) (hs : List Int) (cur : Int) (ls : List Int) (s h : Nat) : Bool :=
  mkG m g s h || (hs.contains (h : Int) && (m.line (m.wv k.toNat).shaft).contains (s : Int)) || (decide ((h : Int) = cur) && ls.contains (s : Int))
def InG (m : PM) (g : List Int) : Prop := ∀ k, k ∈ g → 0 ≤ k ∧ k < m.wvs.length
theorem mkG_hit {m : PM} {g : List Int} (hg : InG m g) (s h : Nat) : mkG m g s h = hitQ m.wvs.length (usesB m s h) fun k => g.contains (k : Int) := by
  rw [Bool.eq_iff_iff, hitQ_iff]
  unfold mkG
  rw [List.any_eq_true]
  constructor
  · rintro ⟨k, hk, hu⟩
    obtain ⟨h0, h1⟩ := hg k hk
    obtain ⟨n, rfl⟩ := Int.eq_ofNat_of_zero_le h0
    exact ⟨n, by omega, hu, List.contains_iff_mem.2 hk⟩
  · rintro ⟨k, hk, hu, hc⟩
    exact ⟨k, List.contains_iff_mem.1 hc, hu⟩
theorem cost_mkG {m : PM} {g : List Int} (hg : InG m g) : sumM m (mkG m g) = costF m fun k => g.contains (k : Int) := by
  rw [costF_sumM]
  exact sumM_congr fun s h _ _ => mkG_hit hg s h
theorem mkG_nil (m : PM) : mkG m [] = fun _ _ => false := rfl
theorem mkG_snoc (m : PM) (g : List Int) (k : Int) : mkG m (g ++ [k]) = fun s h => mkG m g s h || ((m.wv k.toNat).hours.contains (h : Int) && (m.line (m.wv k.toNat).shaft).contains (s : Int)) := by
  funext s h
  unfold mkG
  rw [List.any_append]
  simp [usesI, Bool.and_comm]
theorem mk3_start (m : PM) (g : List Int) (k : Int) : mk3 m g k [] 0 [] = mkG m g := by
  funext s h; simp [mk3]
theorem mk3_cur (m : PM) (g : List Int) (k : Int) (hs : List Int) (c c' : Int) : mk3 m g k hs c [] = mk3 m g k hs c' [] := by
  funext s h; simp [mk3]
theorem mk3_hour (m : PM) (g : List Int) (k : Int) (hs : List Int) (c c' : Int) : mk3 m g k (hs ++ [c]) c' [] = mk3 m g k hs c (m.line (m.wv k.toNat).shaft) := by
  funext s h
  unfold mk3
  rw [Bool.eq_iff_iff]
  simp
  constructor
  · rintro (h | ⟨h1 | h1, h2⟩)
    · exact .inl (.inl h)
    · exact .inl (.inr ⟨h1, h2⟩)
    · exact .inr ⟨h1, h2⟩
  · rintro ((h | ⟨h1, h2⟩) | ⟨h1, h2⟩)
    · exact .inl h
    · exact .inr ⟨.inl h1, h2⟩
    · exact .inr ⟨.inr h1, h2⟩
theorem mk3_end (m : PM) (g : List Int) (k : Int) (c : Int) : mk3 m g k (m.wv k.toNat).hours c [] = mkG m (g ++ [k]) := by
  rw [mkG_snoc]
  funext s h; simp [mk3]
/-- a spot comes: it is marked already, or it is marked now and its price is added -/
theorem mk3_old {m : PM} {g : List Int} {k : Int} {hs : List Int} {c : Nat} {ls : List Int} {x : Nat} (h : mk3 m g k hs c ls x c = true) : mk3 m g k hs c (ls ++ [(x : Int)]) = mk3 m g k hs c ls := by
  funext s t
  by_cases e : s = x ∧ t = c
  · obtain ⟨rfl, rfl⟩ := e
    rw [h]
    unfold mk3 at h ⊢
    rw [Bool.or_eq_true] at h ⊢
    rcases h with h | h
    · exact .inl h
    · refine .inr ?_
      rw [Bool.and_eq_true] at h ⊢
      exact ⟨h.1, by simp⟩
  · unfold mk3
    congr 1
    rw [Bool.eq_iff_iff]
    simp
    intro h1 h2
    exact absurd ⟨by omega, by omega⟩ e
theorem mk3_new (m : PM) (g : List Int) (k : Int) (hs : List Int) (c : Nat) (ls : List Int) (x : Nat) (s t : Nat) :
    mk3 m g k hs c (ls ++ [(x : Int)]) s t = (mk3 m g k hs c ls s t || (decide (s = x) && decide (t = c))) := by
  unfold mk3
  rw [Bool.eq_iff_iff]
  simp
  constructor
  · rintro (h | ⟨h1, h2 | h2⟩)
    · exact .inl (.inl h)
    · exact .inl (.inr ⟨h1, h2⟩)
    · exact .inr ⟨by omega, by omega⟩
  · rintro ((h | ⟨h1, h2⟩) | ⟨h1, h2⟩)
    · exact .inl h
    · exact .inr ⟨h1, .inl h2⟩
    · exact .inr ⟨by omega, .inr (by omega)⟩
theorem sum_new {m : PM} {g : List Int} {k : Int} {hs : List Int} {c : Nat} {ls : List Int} {x : Nat} (hx : x < m.shafts.length) (hc : c < 24) (h : mk3 m g k hs c ls x c = false) :
    sumM m (mk3 m g k hs c (ls ++ [(x : Int)])) = sumM m (mk3 m g k hs c ls) + (m.sh x).price := sumM_mark hx hc h fun s t => mk3_new m g k hs c ls x s t
/-- bounds of sums -/
theorem sumM_bounds {m : PM} (hm : POk m) (mk : Nat → Nat → Bool) : 0 ≤ sumM m mk ∧ sumM m mk ≤ 12960 := by
  have key : ∀ l : List (Nat × Nat), (∀ x, x ∈ l → x.1 < m.shafts.length) → 0 ≤ (l.map fun x => if mk x.1 x.2 then (m.sh x.1).price else 0).sum ∧ (l.map fun x => if mk x.1 x.2 then (m.sh x.1).price else 0).sum ≤ 60 * (l.length : Int) := by
    intro l
    induction l with
    | nil => intro _; simp
    | cons a l ih =>
      intro h
      have h1 := ih fun x hx => h x (List.mem_cons_of_mem _ hx)
      have h2 := hm.price a.1 (h a List.mem_cons_self)
      simp only [List.map_cons, List.sum_cons, List.length_cons]
      split <;> omega
  have hl : (spotL m.shafts.length).length = m.shafts.length * 24 := by
    generalize m.shafts.length = S
    induction S with
    | zero => rfl
    | succ S ih => rw [spotL_succ, List.length_append, ih]; simp; omega
  have := key (spotL m.shafts.length) fun x hx => (mem_spotL.1 hx).1
  rw [hl] at this
  have h9 := hm.sz
  unfold sumM
  omega
theorem cost_bounds {m : PM} (hm : POk m) (p : Nat → Bool) : 0 ≤ costF m p ∧ costF m p ≤ 12960 := by
  rw [costF_sumM]; exact sumM_bounds hm _
end Go.Proofs.Pow

namespace Go.Proofs.Pow

/-! The search, as nested rounds run it. -/
/-- lists of r more numbers from a on, behind l -/
def goR (n : Nat) (p : List Nat → Bool) (r : Nat) (l : List Nat) (a : Nat) : Option (List Nat) := ((cmb n r a).map (l ++ ·)).find? p
/-- .. those whose next number is below b alone -/
def goT (n : Nat) (p : List Nat → Bool) (r : Nat) (l : List Nat) (a b : Nat) : Option (List Nat) := (((List.range' a (b - a)).flatMap fun k => (cmb n r (k + 1)).map (k :: ·)).map (l ++ ·)).find? p
theorem goR_zero (n : Nat) (p : List Nat → Bool) (l : List Nat) (a : Nat) : goR n p 0 l a = if p l then some l else none := by
  unfold goR cmb
  simp [List.find?_cons]
  cases p l <;> rfl
theorem goR_succ (n : Nat) (p : List Nat → Bool) (r : Nat) (l : List Nat) (a : Nat) : goR n p (r + 1) l a = goT n p r l a n := rfl
theorem goT_start (n : Nat) (p : List Nat → Bool) (r : Nat) (l : List Nat) (a : Nat) : goT n p r l a a = none := by
  unfold goT
  rw [Nat.sub_self]
  rfl
theorem goT_step (n : Nat) (p : List Nat → Bool) (r : Nat) (l : List Nat) {a b : Nat} (h : a ≤ b) : goT n p r l a (b + 1) = (goT n p r l a b).or (goR n p r (l ++ [b]) (b + 1)) := by
  unfold goT goR
  rw [show b + 1 - a = (b - a) + 1 by omega, List.range'_concat, List.flatMap_append, List.map_append, List.find?_append, show a + 1 * (b - a) = b by omega]
  congr 1
  simp only [List.flatMap_cons, List.flatMap_nil, List.append_nil, List.map_map]
  congr 2
  funext x
  simp
/-- lists of fewer than c numbers -/
def lenF (n : Nat) (p : List Nat → Bool) (c : Nat) : Option (List Nat) := ((List.range c).flatMap fun r => cmb n r 0).find? p
theorem lenF_zero (n : Nat) (p : List Nat → Bool) : lenF n p 0 = none := rfl
theorem lenF_succ (n : Nat) (p : List Nat → Bool) (c : Nat) : lenF n p (c + 1) = (lenF n p c).or (goR n p c [] 0) := by
  unfold lenF goR
  rw [List.range_succ, List.flatMap_append, List.find?_append]
  congr 1
  simp
theorem lenF_first (n : Nat) (p : List Nat → Bool) : lenF n p (n + 1) = firstF n p := rfl
/-! Shares on their way. -/
def shr (m : PM) (k : Nat) (x : Nat × Nat) : Int := if usesB m x.1 x.2 k then 60 * (m.sh x.1).price / (cntU m.wvs.length (usesB m x.1 x.2) : Int) else 0
def shareTo (m : PM) (L : List (Nat × Nat)) (k : Nat) : Int := (L.map (shr m k)).sum
theorem share_to (m : PM) (k : Nat) : shareP m k = shareTo m (spotL m.shafts.length) k := by
  unfold shareP shareH spots shareTo
  rw [List.map_map]
  rfl
theorem shareTo_snoc (m : PM) (L : List (Nat × Nat)) (x : Nat × Nat) (k : Nat) : shareTo m (L ++ [x]) k = shareTo m L k + shr m k x := by
  unfold shareTo
  rw [List.map_append, List.sum_append]; simp
def spotT (s h : Nat) : List (Nat × Nat) := spotL s ++ (List.range h).map fun t => (s, t)
theorem spotT_zero (s : Nat) : spotT s 0 = spotL s := by simp [spotT]
theorem spotT_succ (s h : Nat) : spotT s (h + 1) = spotT s h ++ [(s, h)] := by
  unfold spotT
  rw [List.range_succ, List.map_append, ← List.append_assoc]; rfl
theorem spotT_full (s : Nat) : spotT s 24 = spotL (s + 1) := (spotL_succ s).symm
/-- a shaft that drives nobody -/
theorem share_nobody {m : PM} {s : Nat} (h : ∀ k, k < m.wvs.length → m.drv s k = false) {k : Nat} (hk : k < m.wvs.length) : shareTo m (spotL (s + 1)) k = shareTo m (spotL s) k := by
  rw [spotL_succ]
  unfold shareTo
  rw [List.map_append, List.sum_append]
  have : ((List.map (shr m k) ((List.range 24).map fun h => (s, h))).sum) = 0 := by
    refine sum_zero' _ _ ?_
    intro x hx
    obtain ⟨t, _, rfl⟩ := List.mem_map.1 hx
    unfold shr usesB
    rw [h k hk]; rfl
  omega
theorem shr_bounds {m : PM} (hm : POk m) (k : Nat) {x : Nat × Nat} (hx : x.1 < m.shafts.length) : 0 ≤ shr m k x ∧ shr m k x ≤ 3600 := by
  unfold shr
  have hp := hm.price x.1 hx
  split
  · refine ⟨Int.ediv_nonneg (by omega) (by omega), ?_⟩
    refine Int.le_trans (Int.ediv_le_self _ (by omega)) (by omega)
  · omega
theorem shareTo_bounds {m : PM} (hm : POk m) (k : Nat) : ∀ L : List (Nat × Nat), (∀ x, x ∈ L → x.1 < m.shafts.length) → 0 ≤ shareTo m L k ∧ shareTo m L k ≤ 3600 * (L.length : Int)
  | [], _ => ⟨Int.le_refl _, Int.le_refl _⟩
  | x :: L, h => by
    have h1 := shareTo_bounds hm k L fun y hy => h y (List.mem_cons_of_mem _ hy)
    have h2 := shr_bounds hm k (h x List.mem_cons_self)
    have e : shareTo m (x :: L) k = shr m k x + shareTo m L k := rfl
    rw [e, List.length_cons]
    omega

/-! The first least of some numbers that are there. -/
def leastF (f : Nat → Option Int) : Nat → Option (Nat × Int)
  | 0 => none
  | h + 1 => match f h, leastF f h with
    | some x, some b => if x < b.2 then some (h, x) else some b
    | some x, none => some (h, x)
    | none, b => b
theorem leastF_none {f : Nat → Option Int} : ∀ {n : Nat}, leastF f n = none ↔ ∀ h, h < n → f h = none
  | 0 => ⟨fun _ h hh => by omega, fun _ => rfl⟩
  | n + 1 => by
    have ih := leastF_none (f := f) (n := n)
    unfold leastF
    constructor
    · intro h
      cases e : f n with
      | some x =>
        rw [e] at h
        cases e2 : leastF f n with
        | none => rw [e2] at h; cases h
        | some b => rw [e2] at h; simp only at h; split at h <;> cases h
      | none =>
        rw [e] at h
        intro k hk
        by_cases e3 : k = n
        · rw [e3, e]
        · exact ih.1 h k (by omega)
    · intro h
      rw [h n (by omega)]
      exact ih.2 fun k hk => h k (by omega)
end Go.Proofs.Pow

namespace Go.Proofs.Pow

def sortL (xs : List Int) : List Int := xs.mergeSort fun x y => decide (x ≤ y)
theorem sortL_perm (xs : List Int) : (sortL xs).Perm xs := List.mergeSort_perm xs _
theorem sortL_le (xs : List Int) : (sortL xs).Pairwise (· ≤ ·) := by
  have := List.pairwise_mergeSort (le := fun x y : Int => decide (x ≤ y)) (fun a b c h1 h2 => by simp only [decide_eq_true_eq] at *; omega) (fun a b => by simp only [Bool.or_eq_true, decide_eq_true_eq]; omega) xs
  exact this.imp fun h => by simpa using h
/-- weaver k uses power in the hour h, too -/
def useP (m : PM) (k : Nat) (h : Int) : PM := { m with wvs := (List.range m.wvs.length).map fun i => if i = k then { shaft := (m.wv i).shaft, hours := sortL ((m.wv i).hours ++ [h]) } else m.wv i }
theorem useP_len (m : PM) (k : Nat) (h : Int) : (useP m k h).wvs.length = m.wvs.length := by simp [useP]
theorem useP_wv (m : PM) (k : Nat) (h : Int) {i : Nat} (hi : i < m.wvs.length) : (useP m k h).wv i = if i = k then { shaft := (m.wv i).shaft, hours := sortL ((m.wv i).hours ++ [h]) } else m.wv i := by
  unfold PM.wv useP
  simp [hi, PM.wv]
theorem use_used {m : PM} {k h : Nat} (hk : k < m.wvs.length) : Used m (useP m k (h : Int)) k h := by
  refine ⟨rfl, useP_len _ _ _, hk, fun j hj => ?_, ?_, fun x => ?_⟩
  · by_cases hl : j < m.wvs.length
    · rw [useP_wv m k h hl, if_neg hj]
    · unfold PM.wv
      rw [List.getElem?_eq_none (by rw [useP_len]; omega), List.getElem?_eq_none (by omega)]
  · rw [useP_wv m k h hk, if_pos rfl]
  · rw [useP_wv m k h hk, if_pos rfl, Bool.eq_iff_iff, Bool.or_eq_true, List.contains_iff_mem, List.contains_iff_mem, decide_eq_true_eq]
    show x ∈ sortL _ ↔ _
    rw [(sortL_perm _).mem_iff, List.mem_append, List.mem_singleton]
theorem use_ok {m : PM} (hm : POk m) {k h : Nat} (hk : k < m.wvs.length) (hh : h < 24) (hn : (m.wv k).hours.contains (h : Int) = false) : POk (useP m k (h : Int)) := by
  have hl := useP_len m k (h : Int)
  have hw : ∀ i, i < m.wvs.length → ((useP m k (h : Int)).wv i).shaft = (m.wv i).shaft := fun i hi => by rw [useP_wv m k h hi]; split <;> rfl
  refine ⟨hm.sz, by rw [hl]; exact hm.few, hm.price, fun i hi x hx => ?_, hm.up, fun i hi => ?_, fun i hi => ?_⟩
  · rw [hl] at hi
    rw [useP_wv m k h hi] at hx
    split at hx
    · have hx' : x ∈ sortL ((m.wv i).hours ++ [(h : Int)]) := hx
      rw [(sortL_perm _).mem_iff, List.mem_append, List.mem_singleton] at hx'
      rcases hx' with hx' | rfl
      · exact hm.hour i hi x hx'
      · omega
    · exact hm.hour i hi x hx
  · rw [hl] at hi
    rw [hw i hi]
    exact hm.at_ i hi
  · rw [hl] at hi
    rw [useP_wv m k h hi]
    split
    · rename_i e
      subst e
      show (sortL _).Pairwise _
      have h1 := sortL_le ((m.wv i).hours ++ [(h : Int)])
      have h2 : (sortL ((m.wv i).hours ++ [(h : Int)])).Nodup := by
        rw [(sortL_perm _).nodup_iff, List.nodup_append]
        refine ⟨hm.nodup hi, by simp, fun a ha b hb e => ?_⟩
        rw [List.mem_singleton] at hb
        subst hb; subst e
        rw [List.contains_iff_mem.2 ha] at hn
        cases hn
      exact (h1.and (List.nodup_iff_pairwise_ne.1 h2)).imp fun h => by omega
    · exact hm.rise i hi
def extraF (m : PM) (k h : Nat) : Int := costF (useP m k (h : Int)) (fun _ => true) - costF m fun _ => true
def offerF (m : PM) (k h : Nat) : Option Int := if (m.wv k).hours.contains (h : Int) then none else some (extraF m k h)
def cheapF (m : PM) (k : Nat) : Option (Nat × Int) := leastF (offerF m k) 24
/-- what each adds in an order of coming -/
def addsF (m : PM) (l : List Nat) : List Int := (List.range m.wvs.length).map fun k => addF m l (l.findIdx fun x => decide (x = k))
theorem findIdx_at {l : List Nat} (hn : l.Nodup) {i : Nat} (hi : i < l.length) : l.findIdx (fun x => decide (x = l[i])) = i := by
  rw [List.findIdx_eq hi]
  refine ⟨by simp, fun j hj => ?_⟩
  rw [decide_eq_false_iff_not]
  intro e
  have := List.pairwise_iff_getElem.1 (List.nodup_iff_pairwise_ne.1 hn) j i (by omega) hi hj
  exact this e
theorem addsF_at {m : PM} {l : List Nat} (hn : l.Nodup) {i : Nat} (hi : i < l.length) (hk : l[i] < m.wvs.length) : (addsF m l)[l[i]]?.getD 0 = addF m l i := by
  unfold addsF
  rw [List.getElem?_map, List.getElem?_range hk]
  simp only [Option.map_some, Option.getD_some]
  rw [findIdx_at hn hi]
end Go.Proofs.Pow

namespace Go.Proofs.Pow

/-- how many of a group use power of shaft s in the hour h -/
def useI (m : PM) (g : List Int) (s h : Nat) : Nat := (g.filter fun k => m.drv s k.toNat && (m.wv k.toNat).hours.contains (h : Int)).length
def allI (n : Nat) : List Int := (List.range n).map fun k : Nat => (k : Int)
theorem useI_nil (m : PM) (s h : Nat) : useI m [] s h = 0 := rfl
theorem useI_snoc (m : PM) (g : List Int) (k : Nat) (s h : Nat) : useI m (g ++ [(k : Int)]) s h = useI m g s h + if usesB m s h k then 1 else 0 := by
  unfold useI
  rw [List.filter_append, List.length_append]
  congr 1
  show (List.filter _ [(k : Int)]).length = _
  rw [List.filter_cons]
  show (if usesB m s h k = true then _ else _ : List Int).length = _
  split <;> rfl
theorem useI_le (m : PM) (g : List Int) (s h : Nat) : useI m g s h ≤ g.length := List.length_filter_le _ _
theorem useI_all (m : PM) (n s h : Nat) : useI m (allI n) s h = cntU n (usesB m s h) := by
  unfold useI allI cntU
  rw [List.filter_map, List.length_map]
  rfl
theorem useI_one (m : PM) (s h k : Nat) : 0 < useI m [(k : Int)] s h ↔ usesB m s h k = true := by
  have := useI_snoc m [] k s h
  rw [useI_nil, List.nil_append] at this
  rw [this]
  split
  · rename_i e; simp [e]
  · rename_i e; simp [e]
/-- a group of all -/
theorem all_group (m : PM) : costF m (fun k => (allI m.wvs.length).contains (k : Int)) = costF m fun _ => true := by
  refine costQ_congr fun k hk => ?_
  rw [List.contains_iff_mem]
  exact List.mem_map.2 ⟨k, List.mem_range.2 hk, rfl⟩
theorem all_in (m : PM) : InG m (allI m.wvs.length) := by
  intro k hk
  obtain ⟨i, hi, rfl⟩ := List.mem_map.1 hk
  have := List.mem_range.1 hi
  omega
end Go.Proofs.Pow

namespace Go.Proofs.Pow
def threeM : PM := ⟨[⟨-1, 6⟩, ⟨0, 4⟩, ⟨0, 3⟩], [⟨1, [0, 1]⟩, ⟨1, [1, 2]⟩, ⟨2, [1]⟩]⟩
def sightF (l : List Int) (k : Nat) : Int := l[k]?.getD 0
theorem three_shares : (List.range 3).map (shareP threeM) = [840, 840, 300] := by kernel_rfl
theorem three_adds : addsF threeM [2, 1, 0] = [10, 14, 9] := by kernel_rfl
theorem three_sure : clashB threeM (sightF [2, 2, 1]) = false ∧ sureL threeM (sightF [2, 2, 1]) = [1, 1] := ⟨by kernel_rfl, by kernel_rfl⟩
theorem leastF_congr {f g : Nat → Option Int} : ∀ {n : Nat}, (∀ h, h < n → f h = g h) → leastF f n = leastF g n
  | 0, _ => rfl
  | n + 1, h => by
    unfold leastF
    rw [h n (by omega), leastF_congr (n := n) fun x hx => h x (by omega)]
/-- what one hour more costs, by the line -/
def extraL (m : PM) (k h : Nat) : Int := ((m.line (m.wv k).shaft).map fun x => if runsB m x.toNat h then 0 else (m.sh x.toNat).price).sum
theorem extra_line {m : PM} (hm : POk m) {k h : Nat} (hk : k < m.wvs.length) (hh : h < 24) : extraF m k h = extraL m k h := (use_used hk).extra hm hh
theorem cheap_line {m : PM} (hm : POk m) {k : Nat} (hk : k < m.wvs.length) : cheapF m k = leastF (fun h => if (m.wv k).hours.contains (h : Int) then none else some (extraL m k h)) 24 :=
  leastF_congr fun h hh => by
    unfold offerF
    rw [extra_line hm hk hh]
theorem three_ok : POk threeM where
  sz := by decide
  few := by decide
  price := by decide
  hour := by decide
  up := by unfold UpOk; decide
  at_ := by unfold AtOk; decide
  rise := by decide
theorem three_cheap : cheapF threeM 2 = some (0, 3) := (cheap_line three_ok (by decide)).trans (by kernel_rfl)
end Go.Proofs.Pow
