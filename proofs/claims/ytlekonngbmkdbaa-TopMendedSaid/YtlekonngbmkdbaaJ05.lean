/- Joined texts: S1, S2, K1, S3, F1, S4, S5, S6, TM1, TM2, TM3, P16. -/
import Derived.IntWalk
import Derived.Test.YtlekonngbmkdbaaJ04
namespace Go.Proofs.Pow

def fac : Nat → Nat
  | 0 => 1
  | n + 1 => (n + 1) * fac n
/-- numbers below n that a set lacks -/
def lack (n s : Nat) : List Nat := (List.range n).filter fun k => !s.testBit k
theorem mem_lack {n s k : Nat} : k ∈ lack n s ↔ k < n ∧ s.testBit k = false := by
  unfold lack
  rw [List.mem_filter, List.mem_range]; simp
theorem lack_nodup (n s : Nat) : (lack n s).Nodup := List.Pairwise.filter _ List.nodup_range
theorem testBit_plus {s k : Nat} (h : s.testBit k = false) (j : Nat) : (s + 2 ^ k).testBit j = (s.testBit j || decide (j = k)) := by
  have hr : s % 2 ^ k < 2 ^ k := Nat.mod_lt _ (Nat.two_pow_pos k)
  have hq : (s / 2 ^ k) % 2 = 0 := by
    rw [Nat.testBit_eq_decide_div_mod_eq] at h
    have := of_decide_eq_false h
    omega
  have e1 : s = 2 ^ k * (s / 2 ^ k) + s % 2 ^ k := (Nat.div_add_mod s (2 ^ k)).symm
  have e2 : s + 2 ^ k = 2 ^ k * (s / 2 ^ k + 1) + s % 2 ^ k := by rw [Nat.mul_add]; omega
  rw [e2, Nat.testBit_two_pow_mul_add _ hr]
  conv => rhs; rw [e1, Nat.testBit_two_pow_mul_add _ hr]
  generalize s / 2 ^ k = q at hq
  obtain ⟨t, rfl⟩ : ∃ t, q = 2 * t := ⟨q / 2, by omega⟩
  by_cases hj : j < k
  · rw [if_pos hj, if_pos hj]
    have : decide (j = k) = false := decide_eq_false (by omega)
    rw [this, Bool.or_false]
  · rw [if_neg hj, if_neg hj]
    by_cases e : j = k
    · subst e
      rw [Nat.sub_self]
      simp [Nat.testBit_zero]
    · obtain ⟨d, hd⟩ : ∃ d, j - k = d + 1 := ⟨j - k - 1, by omega⟩
      rw [hd, Nat.testBit_succ, Nat.testBit_succ]
      have e3 : (2 * t + 1) / 2 = t := by omega
      have e4 : 2 * t / 2 = t := by omega
      rw [e3, e4, decide_eq_false e, Bool.or_false]
theorem lack_plus {n s k : Nat} (h : s.testBit k = false) : lack n (s + 2 ^ k) = (lack n s).filter fun j => decide (j ≠ k) := by
  unfold lack
  rw [List.filter_filter]
  refine List.filter_congr fun j _ => ?_
  rw [testBit_plus h]
  cases s.testBit j <;> by_cases e : j = k <;> simp [e]
theorem len_without {l : List Nat} (hn : l.Nodup) {k : Nat} (hk : k ∈ l) : (l.filter fun j => decide (j ≠ k)).length + 1 = l.length := by
  induction l with
  | nil => cases hk
  | cons a l ih =>
    rw [List.nodup_cons] at hn
    by_cases e : a = k
    · subst e
      rw [List.filter_cons_of_neg (by simp), List.filter_eq_self.2, List.length_cons]
      intro x hx
      have : x ≠ a := fun e => hn.1 (e ▸ hx)
      simpa using this
    · rw [List.filter_cons_of_pos (by simpa using e), List.length_cons, List.length_cons, ih hn.2 (by rcases List.mem_cons.1 hk with h | h; exact absurd h.symm e; exact h)]
theorem lack_len {n s k : Nat} (hk : k ∈ lack n s) : (lack n (s + 2 ^ k)).length + 1 = (lack n s).length := by
  rw [lack_plus (mem_lack.1 hk).2]
  exact len_without (lack_nodup n s) hk
/-- how many orders go on behind a set -/
def addN (n : Nat) : Nat → Nat → Nat
  | 0, _ => 1
  | r + 1, s => ((lack n s).map fun k => addN n r (s + 2 ^ k)).sum
/-- what player i adds in all orders that go on behind a set -/
def addS (n : Nat) (c : Nat → Int) (i : Nat) : Nat → Nat → Int
  | 0, _ => 0
  | r + 1, s => ((lack n s).map fun k => addS n c i r (s + 2 ^ k) + if k = i then (addN n r (s + 2 ^ k) : Int) * (c (s + 2 ^ k) - c s) else 0).sum
theorem sum_const {α : Type} (f : α → Nat) (c : Nat) : ∀ l : List α, (∀ x, x ∈ l → f x = c) → (l.map f).sum = l.length * c
  | [], _ => by simp
  | a :: l, h => by
    rw [List.map_cons, List.sum_cons, h a (by simp), sum_const f c l fun x hx => h x (by simp [hx]), List.length_cons, Nat.add_mul, Nat.one_mul]; omega
theorem addN_fac (n : Nat) : ∀ r s, (lack n s).length = r → addN n r s = fac r
  | 0, _, _ => rfl
  | r + 1, s, h => by
    unfold addN fac
    rw [sum_const _ (fac r) _ fun k hk => addN_fac n r _ (by have := lack_len hk; omega), h]
/-- 1 if one of some players has come -/
def hit (n : Nat) (U : Nat → Bool) (s : Nat) : Int := if (List.range n).any fun k => U k && s.testBit k then 1 else 0
def cntU (n : Nat) (U : Nat → Bool) : Nat := ((List.range n).filter U).length
theorem hit_iff {n : Nat} {U : Nat → Bool} {s : Nat} : hit n U s = 1 ↔ ∃ k, k < n ∧ U k = true ∧ s.testBit k = true := by
  unfold hit
  split
  · rename_i h
    rw [List.any_eq_true] at h
    obtain ⟨k, hk, h⟩ := h
    rw [Bool.and_eq_true] at h
    exact ⟨fun _ => ⟨k, List.mem_range.1 hk, h⟩, fun _ => rfl⟩
  · rename_i h
    refine ⟨fun h => absurd h (by omega), fun ⟨k, h1, h2, h3⟩ => absurd ?_ h⟩
    rw [List.any_eq_true]
    exact ⟨k, List.mem_range.2 h1, by rw [h2, h3]; rfl⟩
theorem hit_zero {n : Nat} {U : Nat → Bool} {s : Nat} : hit n U s = 0 ↔ ∀ k, k < n → U k = true → s.testBit k = false := by
  have h1 := hit_iff (n := n) (U := U) (s := s)
  have h2 : hit n U s = 0 ∨ hit n U s = 1 := by unfold hit; split <;> simp
  constructor
  · intro h k hk hu
    cases hb : s.testBit k with
    | false => rfl
    | true => have := h1.2 ⟨k, hk, hu, hb⟩; omega
  · intro h
    rcases h2 with h2 | h2
    · exact h2
    · obtain ⟨k, a, b, c⟩ := h1.1 h2
      rw [h k a b] at c; cases c
theorem hit_up {n : Nat} {U : Nat → Bool} {s k : Nat} (hk : s.testBit k = false) (h : hit n U s = 1) : hit n U (s + 2 ^ k) = 1 := by
  obtain ⟨j, a, b, c⟩ := hit_iff.1 h
  exact hit_iff.2 ⟨j, a, b, by rw [testBit_plus hk, c]; rfl⟩
theorem hit_out {n : Nat} {U : Nat → Bool} {s k : Nat} (hk : s.testBit k = false) (hu : U k = false) : hit n U (s + 2 ^ k) = hit n U s := by
  unfold hit
  congr 2
  have : (fun j => U j && (s + 2 ^ k).testBit j) = fun j => U j && s.testBit j := by
    funext j
    rw [testBit_plus hk]
    by_cases e : j = k
    · subst e; simp [hu]
    · simp [e]
  rw [this]
theorem hit_in {n : Nat} {U : Nat → Bool} {s k : Nat} (hk : s.testBit k = false) (hn : k < n) (hu : U k = true) : hit n U (s + 2 ^ k) = 1 :=
  hit_iff.2 ⟨k, hn, hu, by rw [testBit_plus hk]; simp⟩
theorem sum_zero' {α : Type} (f : α → Int) : ∀ l : List α, (∀ x, x ∈ l → f x = 0) → (l.map f).sum = 0
  | [], _ => rfl
  | a :: l, h => by rw [List.map_cons, List.sum_cons, h a (by simp), sum_zero' f l fun x hx => h x (by simp [hx])]; rfl
theorem addS_hit {n : Nat} {U : Nat → Bool} (i : Nat) : ∀ r s, hit n U s = 1 → addS n (hit n U) i r s = 0
  | 0, _, _ => rfl
  | r + 1, s, h => by
    unfold addS
    refine sum_zero' _ _ fun k hk => ?_
    have hk := (mem_lack.1 hk).2
    have h1 := hit_up hk h
    rw [addS_hit i r _ h1, h1, h]
    split <;> omega
theorem sum_three (U : Nat → Bool) (i : Nat) (hi : U i = true) (u : Int) (F : Int) : ∀ l : List Nat, l.Nodup → (l.map fun k => if U k then (if k = i then u * F else 0) else F).sum = (if i ∈ l then u * F else 0) + ((l.filter fun k => !U k).length : Int) * F
  | [], _ => by simp
  | a :: l, h => by
    rw [List.nodup_cons] at h
    rw [List.map_cons, List.sum_cons, sum_three U i hi u F l h.2]
    cases hu : U a with
    | false =>
      have e : i ≠ a := fun e => by rw [e, hu] at hi; cases hi
      rw [List.filter_cons_of_pos (by simp [hu]), List.length_cons]
      have : (i ∈ a :: l) ↔ i ∈ l := by rw [List.mem_cons]; exact ⟨fun h => h.resolve_left e, .inr⟩
      simp only [this, Bool.false_eq_true, if_false]
      rw [Int.natCast_add, Int.add_mul]; omega
    | true =>
      rw [List.filter_cons_of_neg (by simp [hu])]
      by_cases e : a = i
      · subst e
        simp [h.1]
      · have : (i ∈ a :: l) ↔ i ∈ l := by rw [List.mem_cons]; exact ⟨fun h => h.resolve_left (Ne.symm e), .inr⟩
        simp [this, e]
theorem mul_sum {α : Type} (u : Int) (f : α → Int) : ∀ l : List α, u * (l.map f).sum = (l.map fun x => u * f x).sum
  | [] => by simp
  | a :: l => by rw [List.map_cons, List.sum_cons, Int.mul_add, mul_sum u f l, List.map_cons, List.sum_cons]
theorem filter_split {α : Type} (p : α → Bool) : ∀ l : List α, (l.filter p).length + (l.filter fun x => !p x).length = l.length
  | [] => rfl
  | a :: l => by
    have := filter_split p l
    cases h : p a <;> simp [h] <;> omega
/-! Sums of what counts. -/
def costH (n : Nat) (L : List (Int × (Nat → Bool))) (s : Nat) : Int := (L.map fun p => p.1 * hit n p.2 s).sum
theorem sum_add {α : Type} (f g : α → Int) : ∀ l : List α, (l.map fun x => f x + g x).sum = (l.map f).sum + (l.map g).sum
  | [] => rfl
  | a :: l => by simp only [List.map_cons, List.sum_cons, sum_add f g l]; omega
theorem addS_add (n : Nat) (c d : Nat → Int) (i : Nat) : ∀ r s, addS n (fun s => c s + d s) i r s = addS n c i r s + addS n d i r s
  | 0, _ => rfl
  | r + 1, s => by
    unfold addS
    rw [← sum_add]
    refine congrArg _ (List.map_congr_left fun k _ => ?_)
    rw [addS_add n c d i r]
    split
    · rw [show c (s + 2 ^ k) + d (s + 2 ^ k) - (c s + d s) = (c (s + 2 ^ k) - c s) + (d (s + 2 ^ k) - d s) by omega, Int.mul_add]; omega
    · omega
theorem addS_mul (n : Nat) (c : Nat → Int) (w : Int) (i : Nat) : ∀ r s, addS n (fun s => w * c s) i r s = w * addS n c i r s
  | 0, _ => by simp [addS]
  | r + 1, s => by
    unfold addS
    rw [mul_sum]
    refine congrArg _ (List.map_congr_left fun k _ => ?_)
    rw [addS_mul n c w i r]
    split
    · rw [Int.mul_add, ← Int.mul_sub]; congr 1; rw [← Int.mul_assoc, ← Int.mul_assoc, Int.mul_comm w]
    · simp
theorem addS_zero (n : Nat) (i : Nat) : ∀ r s, addS n (fun _ => 0) i r s = 0
  | 0, _ => rfl
  | r + 1, s => by
    unfold addS
    refine sum_zero' _ _ fun k _ => ?_
    rw [addS_zero n i r]; simp
/-- equal parts of what is counted -/
def shareH (n : Nat) (L : List (Int × (Nat → Bool))) (i : Nat) : Int := (L.map fun p => if p.2 i then 60 * p.1 / (cntU n p.2 : Int) else 0).sum
end Go.Proofs.Pow

namespace Go.Proofs.Pow

theorem sum_eq {α : Type} (f g : α → Int) (l : List α) (h : ∀ x, x ∈ l → f x = g x) : (l.map f).sum = (l.map g).sum := by
  rw [List.map_congr_left h]
/-- does someone of p use it -/
def hitQ (n : Nat) (U p : Nat → Bool) : Bool := (List.range n).any fun k => U k && p k
/-- what the group p costs -/
def costQ (n : Nat) (L : List (Int × (Nat → Bool))) (p : Nat → Bool) : Int := (L.map fun x => if hitQ n x.2 p then x.1 else 0).sum
end Go.Proofs.Pow

namespace Go.Proofs.Pow

structure Sh where
  up : Int
  price : Int
deriving Inhabited, DecidableEq
structure Wv where
  shaft : Int
  hours : List Int
deriving Inhabited, DecidableEq
structure PM where
  shafts : List Sh
  wvs : List Wv
def PM.sh (m : PM) (s : Nat) : Sh := m.shafts[s]?.getD default
def PM.wv (m : PM) (k : Nat) : Wv := m.wvs[k]?.getD default
/-- the line of a shaft: it and those above it -/
def lineF (m : PM) : Nat → Int → List Int
  | 0, _ => []
  | f + 1, s => if s < 0 then [] else s :: lineF m f (m.sh s.toNat).up
def PM.line (m : PM) (s : Int) : List Int := lineF m m.shafts.length s
def PM.drv (m : PM) (s k : Nat) : Bool := (m.line (m.wv k).shaft).contains (s : Int)
/-- each shaft is driven by one before it -/
def UpOk (m : PM) : Prop := ∀ s, s < m.shafts.length → -1 ≤ (m.sh s).up ∧ (m.sh s).up < s
/-! Shafts that are not cleared on lines; those that meet all lines, and lines that have none in common. -/
def opn (m : PM) (cl : Int → Bool) (k : Nat) : List Int := (m.line (m.wv k).shaft).filter fun s => !cl s
/-- each weaver is at a shaft -/
def AtOk (m : PM) : Prop := ∀ k, k < m.wvs.length → 0 ≤ (m.wv k).shaft ∧ (m.wv k).shaft < m.shafts.length
def topF (m : PM) (cl : Int → Bool) (k : Nat) : Int := ((opn m cl k).getLast?).getD 0
section
variable {m : PM} (hu : UpOk m) (ha : AtOk m) {cl : Int → Bool}
include hu ha
end
end Go.Proofs.Pow

namespace Go.Proofs.Pow

/-- weaver k uses power of shaft s in the hour h -/
def usesB (m : PM) (s h k : Nat) : Bool := m.drv s k && (m.wv k).hours.contains (h : Int)
def spotL (S : Nat) : List (Nat × Nat) := (List.range S).flatMap fun s => (List.range 24).map fun h => (s, h)
def spots (m : PM) : List (Int × (Nat → Bool)) := (spotL m.shafts.length).map fun x => ((m.sh x.1).price, usesB m x.1 x.2)
theorem mem_spotL {S s h : Nat} : (s, h) ∈ spotL S ↔ s < S ∧ h < 24 := by
  unfold spotL
  rw [List.mem_flatMap]
  constructor
  · rintro ⟨s', h1, h2⟩
    obtain ⟨h', h3, e⟩ := List.mem_map.1 h2
    cases e
    exact ⟨List.mem_range.1 h1, List.mem_range.1 h3⟩
  · rintro ⟨h1, h2⟩
    exact ⟨s, List.mem_range.2 h1, List.mem_map.2 ⟨h, List.mem_range.2 h2, rfl⟩⟩
theorem spotL_succ (S : Nat) : spotL (S + 1) = spotL S ++ (List.range 24).map fun h => (S, h) := by
  unfold spotL; rw [show List.range (S + 1) = List.range S ++ [S] from List.range_succ, List.flatMap_append]; simp
theorem sum_upd {α : Type} [DecidableEq α] (f g : α → Int) {a : α} (h0 : f a = 0) : ∀ {l : List α}, l.Nodup → a ∈ l → (∀ x, x ∈ l → x ≠ a → g x = f x) → (l.map g).sum = (l.map f).sum + g a
  | b :: l, hn, ha, h => by
    obtain ⟨hb, hn⟩ := List.nodup_cons.1 hn
    simp only [List.map_cons, List.sum_cons]
    by_cases e : b = a
    · subst e
      rw [h0, sum_eq g f l fun x hx => h x (by simp [hx]) fun e => hb (e ▸ hx)]
      omega
    · rw [sum_upd f g h0 hn ((List.mem_cons.1 ha).resolve_left fun h => e h.symm) fun x hx hne => h x (by simp [hx]) hne, h b (by simp) e]
      omega
/-- the prices of what is marked -/
def sumM (m : PM) (mk : Nat → Nat → Bool) : Int := ((spotL m.shafts.length).map fun x => if mk x.1 x.2 then (m.sh x.1).price else 0).sum
/-- what a group costs: those of p -/
def costF (m : PM) (p : Nat → Bool) : Int := costQ m.wvs.length (spots m) p
def shareP (m : PM) (k : Nat) : Int := shareH m.wvs.length (spots m) k
structure POk (m : PM) : Prop where
  sz : 1 ≤ m.shafts.length ∧ m.shafts.length ≤ 9
  few : m.wvs.length ≤ 6
  price : ∀ s, s < m.shafts.length → 0 ≤ (m.sh s).price ∧ (m.sh s).price ≤ 60
  hour : ∀ k, k < m.wvs.length → ∀ h, h ∈ (m.wv k).hours → 0 ≤ h ∧ h ≤ 23
  up : UpOk m
  at_ : AtOk m
  rise : ∀ k, k < m.wvs.length → (m.wv k).hours.Pairwise (· < ·)
end Go.Proofs.Pow

namespace Go.Proofs.Pow

/-! Lists of numbers below n in increasing order, by their lengths, then in lexicographic order: the first one of a kind. -/
def cmb (n : Nat) : Nat → Nat → List (List Nat)
  | 0, _ => [[]]
  | r + 1, a => (List.range' a (n - a)).flatMap fun k => (cmb n r (k + 1)).map (k :: ·)
/-- a comes before b -/
def ahead : List Nat → List Nat → Bool
  | [], [] => false
  | [], _ :: _ => true
  | _ :: _, [] => false
  | a :: xs, b :: ys => if a = b then ahead xs ys else decide (a < b)
def before (a b : List Nat) : Bool := if a.length = b.length then ahead a b else decide (a.length < b.length)
theorem ahead_irr : ∀ a : List Nat, ahead a a = false
  | [] => rfl
  | x :: a => by unfold ahead; rw [if_pos rfl, ahead_irr a]
theorem ahead_anti : ∀ a b : List Nat, ahead a b = true → ahead b a = false
  | [], [], h => by simp [ahead] at h
  | [], _ :: _, _ => rfl
  | _ :: _, [], h => by simp [ahead] at h
  | a :: xs, b :: ys, h => by
    unfold ahead at h ⊢
    by_cases e : a = b
    · subst e
      simp only [if_true] at h ⊢
      exact ahead_anti xs ys h
    · rw [if_neg e, decide_eq_true_eq] at h
      rw [if_neg (fun h => e h.symm), decide_eq_false_iff_not]
      omega
theorem before_irr (a : List Nat) : before a a = false := by unfold before; rw [if_pos rfl]; exact ahead_irr a
theorem before_anti (a b : List Nat) (h : before a b = true) : before b a = false := by
  unfold before at h ⊢
  by_cases e : a.length = b.length
  · rw [if_pos e] at h; rw [if_pos e.symm]; exact ahead_anti a b h
  · rw [if_neg e, decide_eq_true_eq] at h
    rw [if_neg (fun h => e h.symm), decide_eq_false_iff_not]; omega
/-- increasing, from a on, below n -/
def Up (n a : Nat) (l : List Nat) : Prop := l.Pairwise (· < ·) ∧ ∀ x, x ∈ l → a ≤ x ∧ x < n
theorem mem_cmb (n : Nat) : ∀ r a l, l ∈ cmb n r a ↔ l.length = r ∧ Up n a l
  | 0, a, l => by
    unfold cmb
    rw [List.mem_singleton, List.length_eq_zero_iff]
    exact ⟨fun h => ⟨h, by subst h; exact ⟨List.Pairwise.nil, by simp⟩⟩, (·.1)⟩
  | r + 1, a, l => by
    unfold cmb
    rw [List.mem_flatMap]
    constructor
    · rintro ⟨k, hk, hl⟩
      rw [List.mem_range'_1] at hk
      obtain ⟨t, ht, rfl⟩ := List.mem_map.1 hl
      obtain ⟨h1, h2, h3⟩ := (mem_cmb n r (k + 1) t).1 ht
      refine ⟨by rw [List.length_cons, h1], List.pairwise_cons.2 ⟨fun x hx => by have := h3 x hx; omega, h2⟩, fun x hx => ?_⟩
      rcases List.mem_cons.1 hx with rfl | hx
      · omega
      · have := h3 x hx; omega
    · rintro ⟨h1, h2, h3⟩
      match l, h1 with
      | k :: t, h1 =>
        rw [List.pairwise_cons] at h2
        have hk := h3 k (by simp)
        refine ⟨k, by rw [List.mem_range'_1]; omega, List.mem_map.2 ⟨t, (mem_cmb n r (k + 1) t).2 ⟨by simpa using h1, h2.2, fun x hx => ?_⟩, rfl⟩⟩
        have := h2.1 x hx; have := h3 x (by simp [hx]); omega
theorem cmb_order (n : Nat) : ∀ r a, (cmb n r a).Pairwise fun x y => ahead x y = true
  | 0, _ => List.pairwise_singleton _ _
  | r + 1, a => by
    unfold cmb
    rw [List.pairwise_flatMap]
    refine ⟨fun k _ => ?_, ?_⟩
    · rw [List.pairwise_map]
      refine (cmb_order n r (k + 1)).imp fun {x y} h => ?_
      unfold ahead; rw [if_pos rfl]; exact h
    · refine (List.pairwise_lt_range' (step := 1)).imp fun {i j} hij => ?_
      intro x hx y hy
      obtain ⟨x', _, rfl⟩ := List.mem_map.1 hx
      obtain ⟨y', _, rfl⟩ := List.mem_map.1 hy
      unfold ahead
      rw [if_neg (by omega)]; exact decide_eq_true hij
/-- all of them in their order -/
def allF (n : Nat) : List (List Nat) := (List.range (n + 1)).flatMap fun r => cmb n r 0
theorem up_len {n : Nat} : ∀ {a : Nat} {l : List Nat}, Up n a l → l.length ≤ n - a
  | a, [], _ => Nat.zero_le _
  | a, k :: t, ⟨h1, h2⟩ => by
    rw [List.pairwise_cons] at h1
    have hk := h2 k (by simp)
    have := up_len (n := n) (a := k + 1) (l := t) ⟨h1.2, fun x hx => by have := h1.1 x hx; have := h2 x (by simp [hx]); omega⟩
    rw [List.length_cons]; omega
theorem mem_allF (n : Nat) (l : List Nat) : l ∈ allF n ↔ Up n 0 l := by
  unfold allF
  rw [List.mem_flatMap]
  constructor
  · rintro ⟨r, _, h⟩; exact ((mem_cmb n r 0 l).1 h).2
  · intro h
    have := up_len h
    exact ⟨l.length, List.mem_range.2 (by omega), (mem_cmb n _ 0 l).2 ⟨rfl, h⟩⟩
theorem allF_order (n : Nat) : (allF n).Pairwise fun x y => before x y = true := by
  unfold allF
  rw [List.pairwise_flatMap]
  refine ⟨fun r _ => (cmb_order n r 0).imp_of_mem fun {x y} hx hy h => ?_, List.pairwise_lt_range.imp fun {i j} hij x hx y hy => ?_⟩
  · have h1 := ((mem_cmb n r 0 x).1 hx).1; have h2 := ((mem_cmb n r 0 y).1 hy).1
    unfold before; rw [if_pos (by omega)]; exact h
  · have h1 := ((mem_cmb n i 0 x).1 hx).1; have h2 := ((mem_cmb n j 0 y).1 hy).1
    unfold before; rw [if_neg (by omega)]; exact decide_eq_true (by omega)
def firstF (n : Nat) (p : List Nat → Bool) : Option (List Nat) := (allF n).find? p
/-- what the first one is -/
theorem firstF_some {n : Nat} {p : List Nat → Bool} {l : List Nat} : firstF n p = some l ↔ p l = true ∧ Up n 0 l ∧ ∀ x, Up n 0 x → p x = true → before x l = false := by
  unfold firstF
  constructor
  · intro h
    have h1 := List.find?_some h
    have hm := List.mem_of_find?_eq_some h
    refine ⟨h1, (mem_allF n l).1 hm, fun x hx hp => ?_⟩
    obtain ⟨_, pre, post, e, hno⟩ := List.find?_eq_some_iff_append.1 h
    have hx' := (mem_allF n x).2 hx
    have ho := allF_order n
    rw [e] at hx' ho
    rw [List.pairwise_append] at ho
    rcases List.mem_append.1 hx' with hx' | hx'
    · have := hno x hx'
      rw [hp] at this; cases this
    · rcases List.mem_cons.1 hx' with rfl | hx'
      · exact before_irr _
      · exact before_anti _ _ ((List.pairwise_cons.1 ho.2.1).1 x hx')
  · rintro ⟨h1, h2, h3⟩
    cases h : (allF n).find? p with
    | none =>
      have := List.find?_eq_none.1 h l ((mem_allF n l).2 h2)
      exact absurd h1 this
    | some b =>
      have hb := List.find?_some h
      have hm := (mem_allF n b).1 (List.mem_of_find?_eq_some h)
      obtain ⟨_, pre, post, e, hno⟩ := List.find?_eq_some_iff_append.1 h
      have hl := (mem_allF n l).2 h2
      have ho := allF_order n
      rw [e] at hl ho
      rw [List.pairwise_append] at ho
      rcases List.mem_append.1 hl with hl | hl
      · have := hno l hl
        rw [h1] at this; cases this
      · rcases List.mem_cons.1 hl with rfl | hl
        · rfl
        · have g1 := (List.pairwise_cons.1 ho.2.1).1 l hl
          rw [h3 b hm hb] at g1; cases g1
theorem firstF_none {n : Nat} {p : List Nat → Bool} : firstF n p = none ↔ ∀ x, Up n 0 x → p x = false := by
  unfold firstF
  rw [List.find?_eq_none]
  exact ⟨fun h x hx => by simpa using h x ((mem_allF n x).2 hx), fun h x hx => by rw [h x ((mem_allF n x).1 hx)]; simp⟩
end Go.Proofs.Pow

namespace Go.Proofs.Pow

section
variable (m : PM) (s : Nat → Int)
/-- a shaft is cleared -/
def clrB (i : Nat) : Bool := (List.range m.wvs.length).any fun k => decide (s k = 1) && m.drv i k
def clI (x : Int) : Bool := clrB m s x.toNat
def opnS (k : Nat) : List Int := opn m (clI m s) k
def hitL (l : List Nat) (k : Nat) : Bool := l.any fun i => m.drv i k
def explB (l : List Nat) : Bool := (List.range m.wvs.length).all fun k => !(decide (s k = 1) && hitL m l k) && !(decide (s k = 2) && !hitL m l k)
def clashB : Bool := (List.range m.wvs.length).any fun k => decide (s k = 2) && (opnS m s k).isEmpty
/-- those that surely slipped, as they are found -/
def sureL : List Int := ((List.range m.wvs.length).filter fun k => decide (s k = 2) && decide ((opnS m s k).length = 1)).map fun k => (opnS m s k)[0]?.getD 0
def proofB (l : List Nat) : Bool := (l.all fun k => decide (s k = 2)) && decide ((l.flatMap (opnS m s)).Nodup)
end
section
variable {m : PM} {s : Nat → Int}
/-- all shafts that are not cleared, but those of out -/
def restL (m : PM) (s : Nat → Int) (out : Nat → Bool) : List Nat := (List.range m.shafts.length).filter fun i => !clrB m s i && !out i
/-- the proof that is found: of each number of weavers the first one, the last that there is -/
def proveF (n : Nat) (p : List Nat → Bool) : List Nat := (List.range (n + 1)).foldl (fun b c => (firstF n fun l => decide (l.length = c) && p l).getD b) []
end
end Go.Proofs.Pow

namespace Go.Proofs.Pow

/-! One hour more. -/
/-- m' is m, in which weaver k0 uses power in the hour h0, too -/
structure Used (m m' : PM) (k0 : Nat) (h0 : Nat) : Prop where
  shafts : m'.shafts = m.shafts
  len : m'.wvs.length = m.wvs.length
  lt : k0 < m.wvs.length
  other : ∀ j, j ≠ k0 → m'.wv j = m.wv j
  shaft : (m'.wv k0).shaft = (m.wv k0).shaft
  hours : ∀ h : Int, (m'.wv k0).hours.contains h = ((m.wv k0).hours.contains h || decide (h = (h0 : Int)))
/-- a shaft runs in an hour -/
def runsB (m : PM) (s h : Nat) : Bool := hitQ m.wvs.length (usesB m s h) fun _ => true
/-! What weavers add in an order of coming. -/
def befB (l : List Nat) (i : Nat) (k : Nat) : Bool := (l.take i).contains k
/-- what the one at place i adds -/
def addF (m : PM) (l : List Nat) (i : Nat) : Int := costF m (befB l (i + 1)) - costF m (befB l i)
end Go.Proofs.Pow

namespace Go.Proofs.Pow

/-- all orders of the numbers below n, by insertion -/
def permsF : Nat → List (List Nat)
  | 0 => [[]]
  | k + 1 => (permsF k).flatMap fun l => (List.range (l.length + 1)).map fun a => l.take a ++ k :: l.drop a
theorem perm_ins {l : List Nat} {k a : Nat} : (l.take a ++ k :: l.drop a).Perm (k :: l) := by
  refine List.perm_middle.trans ?_
  rw [List.take_append_drop]
theorem permsF_perm : ∀ n l, l ∈ permsF n → l.Perm (List.range n)
  | 0, l, h => by
    unfold permsF at h
    rw [List.mem_singleton] at h
    subst h; exact List.Perm.refl _
  | k + 1, l, h => by
    unfold permsF at h
    obtain ⟨r, h1, h2⟩ := List.mem_flatMap.1 h
    obtain ⟨a, _, rfl⟩ := List.mem_map.1 h2
    refine perm_ins.trans ?_
    rw [List.range_succ]
    exact ((permsF_perm k r h1).cons k).trans (List.perm_append_singleton k _).symm
theorem mem_permsF : ∀ n l, l ∈ permsF n ↔ l.Perm (List.range n)
  | 0, l => by
    unfold permsF
    rw [List.mem_singleton, List.range_zero, List.perm_nil]
  | k + 1, l => by
    refine ⟨permsF_perm _ l, fun h => ?_⟩
    have hk : k ∈ l := h.mem_iff.2 (List.mem_range.2 (Nat.lt_succ_self k))
    obtain ⟨pre, post, rfl⟩ := List.append_of_mem hk
    have h1 : (pre ++ post).Perm (List.range k) := by
      have h2 := List.perm_middle.symm.trans h
      rw [List.range_succ] at h2
      exact (List.perm_cons k).1 (h2.trans (List.perm_append_singleton k _))
    unfold permsF
    refine List.mem_flatMap.2 ⟨pre ++ post, (mem_permsF k _).2 h1, List.mem_map.2 ⟨pre.length, List.mem_range.2 (by rw [List.length_append]; omega), ?_⟩⟩
    rw [List.take_left, List.drop_left]
theorem ins_inj {l : List Nat} {k a b : Nat} (hk : k ∉ l) (ha : a ≤ l.length) (hb : b ≤ l.length) (h : l.take a ++ k :: l.drop a = l.take b ++ k :: l.drop b) : a = b := by
  have key : ∀ a b, a ≤ l.length → b ≤ l.length → l.take a ++ k :: l.drop a = l.take b ++ k :: l.drop b → ¬ a < b := fun a b ha hb h hlt => by
    have e : (l.take a ++ k :: l.drop a)[a]? = (l.take b ++ k :: l.drop b)[a]? := by rw [h]
    have l1 : (l.take a).length = a := by rw [List.length_take]; omega
    have l2 : (l.take b).length = b := by rw [List.length_take]; omega
    rw [List.getElem?_append_right (by omega), l1, Nat.sub_self, List.getElem?_cons_zero, List.getElem?_append_left (by omega), List.getElem?_take, if_pos hlt] at e
    exact hk (List.mem_of_getElem? e.symm)
  have h1 := key a b ha hb h
  have h2 := key b a hb ha h.symm
  omega
theorem ins_back {l : List Nat} {k a : Nat} (hk : k ∉ l) : (l.take a ++ k :: l.drop a).filter (fun x => decide (x ≠ k)) = l := by
  rw [List.filter_append, List.filter_cons_of_neg (by simp), ← List.filter_append, List.take_append_drop, List.filter_eq_self]
  intro x hx
  rw [decide_eq_true_eq]
  exact fun e => hk (e ▸ hx)
/-- all orders that go on behind a set -/
def ordsR (n : Nat) : Nat → Nat → List (List Nat)
  | 0, _ => [[]]
  | r + 1, s => (lack n s).flatMap fun k => (ordsR n r (s + 2 ^ k)).map (k :: ·)
theorem ordsR_len (n : Nat) : ∀ r s, (ordsR n r s).length = addN n r s
  | 0, _ => rfl
  | r + 1, s => by
    unfold ordsR addN
    rw [List.length_flatMap]
    congr 1
    refine List.map_congr_left fun k _ => ?_
    rw [List.length_map, ordsR_len n r]
/-- what i adds in an order, behind a set -/
def addIn (c : Nat → Int) (i : Nat) : Nat → List Nat → Int
  | _, [] => 0
  | s, x :: r => (if x = i then c (s + 2 ^ x) - c s else 0) + addIn c i (s + 2 ^ x) r
theorem sum_flatMap {α β : Type} (f : β → Int) (g : α → List β) : ∀ l : List α, ((l.flatMap g).map f).sum = (l.map fun a => ((g a).map f).sum).sum
  | [] => rfl
  | a :: l => by rw [List.flatMap_cons, List.map_append, List.sum_append, sum_flatMap f g l]; rfl
theorem sum_same {α : Type} (c : Int) : ∀ l : List α, (l.map fun _ => c).sum = (l.length : Int) * c
  | [] => by simp
  | a :: l => by rw [List.map_cons, List.sum_cons, sum_same c l, List.length_cons, Int.natCast_add, Int.add_mul]; simp [Int.add_comm]
theorem sum_perm {α : Type} (f : α → Int) {l r : List α} (h : l.Perm r) : (l.map f).sum = (r.map f).sum := by
  induction h with
  | nil => rfl
  | cons x _ ih => simp only [List.map_cons, List.sum_cons, ih]
  | swap x y l => simp only [List.map_cons, List.sum_cons]; omega
  | trans _ _ h1 h2 => exact h1.trans h2
/-- the set of those that have come -/
def maskL (s : Nat) (l : List Nat) : Nat := l.foldl (fun s x => s + 2 ^ x) s
theorem addIn_out (c : Nat → Int) {i : Nat} : ∀ (l : List Nat) (s : Nat), i ∉ l → addIn c i s l = 0
  | [], _, _ => rfl
  | x :: l, s, h => by
    rw [List.mem_cons, not_or] at h
    unfold addIn
    rw [if_neg (fun e => h.1 e.symm), addIn_out c l _ h.2]; rfl
end Go.Proofs.Pow

namespace Go.Proofs.Mended

/-- for each place, how long the longest rising list is that begins there -/
def risesF : List Nat → List Nat
  | [] => []
  | x :: t => ((t.zip (risesF t)).foldl (fun a y => cond (Nat.blt x y.1) (cond (Nat.blt a y.2) y.2 a) a) 0 + 1) :: risesF t
def maxF (l : List Nat) : Nat := l.foldl (fun a x => cond (Nat.blt a x) x a) 0
/-- the first place with the number left (behind the last one) -/
def placeF (left : Nat) (last : Option (Nat × Nat)) : Nat → List Nat → List Nat → Option (Nat × Nat)
  | p, x :: t, n :: r => cond (Nat.beq n left && (match last with | none => true | some (q, y) => Nat.blt q p && Nat.blt y x)) (some (p, x)) (placeF left last (p + 1) t r)
  | _, _, _ => none
def riseF (order rs : List Nat) : Nat → Option (Nat × Nat) → List (Nat × Nat)
  | 0, _ => []
  | left + 1, last => match placeF (left + 1) last 0 order rs with
    | some a => a :: riseF order rs left (some a)
    | none => riseF order rs left last
/-- the cards that are kept -/
def keptF (order : List Nat) : List Nat := (riseF order (risesF order) (maxF (risesF order)) none).map (·.2)
def hasF (l : List Nat) (k : Nat) : Bool := l.any (Nat.beq k)
def idxF (k : Nat) : List Nat → Nat
  | [] => 0
  | x :: t => cond (Nat.beq k x) 0 (idxF k t + 1)
def cutF : Nat → List Nat → List Nat
  | _, [] => []
  | 0, _ :: t => t
  | i + 1, x :: t => x :: cutF i t
def putF (k : Nat) : Nat → List Nat → List Nat
  | 0, l => k :: l
  | _ + 1, [] => [k]
  | i + 1, x :: t => x :: putF k i t
def atF : Nat → List Nat → Nat
  | _, [] => 0
  | 0, x :: _ => x
  | i + 1, _ :: t => atF i t
def madeF (order : List Nat) (m : Nat × Nat) : List Nat := putF (atF m.1 order) m.2 (cutF m.1 order)
/-- behind all cards that are kept and less -/
def toF (k : Nat) (kept : List Nat) : Nat → Nat → List Nat → Nat
  | _, tq, [] => tq
  | i, tq, n :: t => toF k kept (i + 1) (cond (Nat.blt n k && hasF kept n) (i + 1) tq) t
/-- the mending from card k on -/
def mendR : Nat → Nat → List Nat → List Nat → List (Nat × Nat)
  | 0, _, _, _ => []
  | c + 1, k, order, kept => cond (hasF kept k) (mendR c (k + 1) order kept)
    (let f := idxF k order
     let tq := toF k kept 0 0 (cutF f order)
     let rest := mendR c (k + 1) (madeF order (f, tq)) (kept ++ [k])
     cond (Nat.beq f tq) rest ((f, tq) :: rest))
def mendF (order : List Nat) : List (Nat × Nat) := mendR order.length 0 order (keptF order)
def makeF (order : List Nat) (ms : List (Nat × Nat)) : List Nat := ms.foldl madeF order
/-- along the moves: each leaves one less -/
def alongF : List Nat → List (Nat × Nat) → Bool
  | order, [] => Nat.beq (mendF order).length 0
  | order, m :: ms => Nat.beq (mendF order).length (ms.length + 1) && Nat.blt m.1 order.length && Nat.blt m.2 order.length && alongF (madeF order m) ms
def goodF (order : List Nat) : Bool := Nat.ble (mendF order).length 5 && alongF order (mendF order)
set_option maxRecDepth 100000 in
theorem good_few : (Pow.permsF 1).all goodF = true ∧ (Pow.permsF 2).all goodF = true ∧ (Pow.permsF 3).all goodF = true ∧ (Pow.permsF 4).all goodF = true := by decide +kernel
set_option maxRecDepth 100000 in
theorem good_five : (Pow.permsF 5).all goodF = true := by decide +kernel
set_option maxRecDepth 100000 in
theorem good_six : (Pow.permsF 6).all goodF = true := by decide +kernel
end Go.Proofs.Mended

namespace Go.Proofs.Mended

theorem along_take : ∀ {ms : List (Nat × Nat)} {order : List Nat}, alongF order ms = true → ∀ k, k ≤ ms.length → (mendF (makeF order (ms.take k))).length = ms.length - k
  | [], order, h, k, hk => by
    obtain rfl : k = 0 := by simpa using hk
    exact Nat.eq_of_beq_eq_true h
  | m :: ms, order, h, 0, _ => by
    unfold alongF at h
    simp only [Bool.and_eq_true] at h
    exact Nat.eq_of_beq_eq_true h.1.1.1
  | m :: ms, order, h, k + 1, hk => by
    unfold alongF at h
    simp only [Bool.and_eq_true] at h
    have := along_take h.2 k (by simpa using hk)
    rw [List.take_succ_cons, List.length_cons, Nat.add_sub_add_right]
    exact this
theorem good_all {n : Nat} (h1 : 1 ≤ n) (h6 : n ≤ 6) {l : List Nat} (hl : l.Perm (List.range n)) : goodF l = true := by
  have hm := (Pow.mem_permsF n l).2 hl
  have h : (Pow.permsF n).all goodF = true := by
    match n, h1, h6 with
    | 1, _, _ => exact good_few.1
    | 2, _, _ => exact good_few.2.1
    | 3, _, _ => exact good_few.2.2.1
    | 4, _, _ => exact good_few.2.2.2
    | 5, _, _ => exact good_five
    | 6, _, _ => exact good_six
    | n + 7, _, h => omega
  exact List.all_eq_true.1 h l hm
theorem mend_law {n : Nat} (h1 : 1 ≤ n) (h6 : n ≤ 6) {l : List Nat} (hl : l.Perm (List.range n)) :
    (mendF l).length ≤ 5 ∧ ∀ k, k ≤ (mendF l).length → (mendF (makeF l ((mendF l).take k))).length = (mendF l).length - k := by
  have h := good_all h1 h6 hl
  unfold goodF at h
  rw [Bool.and_eq_true] at h
  exact ⟨Nat.le_of_ble_eq_true h.1, along_take h.2⟩
end Go.Proofs.Mended

namespace Go.Proofs.Mended

def atN (l : List Nat) (p : Nat) : Nat := l[p]?.getD 0
theorem atN_lt {l : List Nat} {p : Nat} (h : p < l.length) : l[p]? = some (atN l p) := by
  unfold atN
  rw [List.getElem?_eq_getElem h]; rfl
def upF (x : Nat) (l : List (Nat × Nat)) : Nat := l.foldl (fun a y => cond (Nat.blt x y.1) (cond (Nat.blt a y.2) y.2 a) a) 0
theorem risesF_cons (x : Nat) (t : List Nat) : risesF (x :: t) = (upF x (t.zip (risesF t)) + 1) :: risesF t := rfl
theorem risesF_len : ∀ l : List Nat, (risesF l).length = l.length
  | [] => rfl
  | x :: t => by rw [risesF_cons, List.length_cons, List.length_cons, risesF_len t]
theorem risesF_drop : ∀ (l : List Nat) (p : Nat), (risesF l).drop p = risesF (l.drop p)
  | [], p => by simp [risesF]
  | x :: t, 0 => rfl
  | x :: t, p + 1 => by rw [risesF_cons, List.drop_succ_cons, List.drop_succ_cons]; exact risesF_drop t p
theorem risesF_at {l : List Nat} {p : Nat} (h : p < l.length) : atN (risesF l) p = upF (atN l p) ((l.drop (p + 1)).zip (risesF (l.drop (p + 1)))) + 1 := by
  have h1 : (risesF l).drop p = (upF l[p] ((l.drop (p + 1)).zip (risesF (l.drop (p + 1)))) + 1) :: risesF (l.drop (p + 1)) := by
    rw [risesF_drop, List.drop_eq_getElem_cons h, risesF_cons]
  have h2 : (risesF l)[p]? = some (upF l[p] ((l.drop (p + 1)).zip (risesF (l.drop (p + 1)))) + 1) := by
    rw [← List.head?_drop, h1]; rfl
  unfold atN
  rw [h2, List.getElem?_eq_getElem h]; rfl
/-- the same of the first j cards behind p alone -/
def upT (l : List Nat) (p j : Nat) : Nat := upF (atN l p) (((l.drop (p + 1)).zip (risesF (l.drop (p + 1)))).take j)
theorem upT_zero (l : List Nat) (p : Nat) : upT l p 0 = 0 := rfl
theorem upT_succ {l : List Nat} {p j : Nat} (h : p + 1 + j < l.length) : upT l p (j + 1) = if atN l p < atN l (p + 1 + j) then max (upT l p j) (atN (risesF l) (p + 1 + j)) else upT l p j := by
  unfold upT
  have hr : (risesF (l.drop (p + 1)))[j]? = some (atN (risesF l) (p + 1 + j)) := by
    rw [← risesF_drop, List.getElem?_drop, atN_lt (by rw [risesF_len]; exact h)]
  have hl : (l.drop (p + 1))[j]? = some (atN l (p + 1 + j)) := by rw [List.getElem?_drop, atN_lt h]
  have hz : ((l.drop (p + 1)).zip (risesF (l.drop (p + 1))))[j]? = some (atN l (p + 1 + j), atN (risesF l) (p + 1 + j)) := by
    rw [List.getElem?_zip_eq_some]; exact ⟨hl, hr⟩
  rw [List.take_add_one, hz]
  unfold upF
  rw [List.foldl_append]
  show cond (Nat.blt _ _) (cond (Nat.blt _ _) _ _) _ = _
  generalize List.foldl _ _ _ = a
  by_cases h1 : atN l p < atN l (p + 1 + j)
  · rw [if_pos h1, show Nat.blt (atN l p) (atN l (p + 1 + j)) = true from by rw [Nat.blt_eq]; exact h1, cond_true]
    by_cases h2 : a < atN (risesF l) (p + 1 + j)
    · rw [show Nat.blt a (atN (risesF l) (p + 1 + j)) = true from by rw [Nat.blt_eq]; exact h2, cond_true]; omega
    · rw [show Nat.blt a (atN (risesF l) (p + 1 + j)) = false from by rw [Bool.eq_false_iff]; intro e; rw [Nat.blt_eq] at e; exact h2 e, cond_false]; omega
  · rw [if_neg h1, show Nat.blt (atN l p) (atN l (p + 1 + j)) = false from by rw [Bool.eq_false_iff]; intro e; rw [Nat.blt_eq] at e; exact h1 e, cond_false]
theorem upT_all {l : List Nat} {p j : Nat} (h : p < l.length) (hj : l.length ≤ p + 1 + j) : upT l p j + 1 = atN (risesF l) p := by
  rw [risesF_at h]
  unfold upT
  rw [List.take_of_length_le]
  rw [List.length_zip, risesF_len, List.length_drop]
  omega
theorem rises_le {l : List Nat} : ∀ (d p : Nat), p + d + 1 = l.length → atN (risesF l) p ≤ d + 1 := by
  intro d
  induction d using Nat.strongRecOn with
  | ind d ih =>
    intro p hp
    rw [← upT_all (l := l) (p := p) (j := d) (by omega) (by omega)]
    have key : ∀ j, j ≤ d → upT l p j ≤ d := by
      intro j
      induction j with
      | zero => intro _; rw [upT_zero]; omega
      | succ j ihj =>
        intro hj
        rw [upT_succ (by omega)]
        have h1 := ihj (by omega)
        have h2 := ih (d - 1 - j) (by omega) (p + 1 + j) (by omega)
        split <;> omega
    have := key d (Nat.le_refl _)
    omega
theorem rises_bound (l : List Nat) (p : Nat) : atN (risesF l) p ≤ l.length := by
  by_cases h : p < l.length
  · have := rises_le (l := l) (l.length - 1 - p) p (by omega)
    omega
  · unfold atN
    rw [List.getElem?_eq_none (by rw [risesF_len]; omega)]
    exact Nat.zero_le _
theorem upT_bound (l : List Nat) (p : Nat) : ∀ j, p + 1 + j ≤ l.length → upT l p j ≤ l.length
  | 0, _ => by rw [upT_zero]; omega
  | j + 1, h => by
    rw [upT_succ (by omega)]
    have h1 := upT_bound l p j (by omega)
    have h2 := rises_bound l (p + 1 + j)
    split <;> omega
/-- the greatest of a list -/
theorem maxF_max (l : List Nat) : maxF l = l.foldl max 0 := by
  unfold maxF
  have : (fun a x : Nat => cond (Nat.blt a x) x a) = max := by
    funext a x
    by_cases h : a < x
    · rw [show Nat.blt a x = true from by rw [Nat.blt_eq]; exact h, cond_true]; omega
    · rw [show Nat.blt a x = false from by rw [Bool.eq_false_iff]; intro e; rw [Nat.blt_eq] at e; exact h e, cond_false]; omega
  rw [this]
theorem foldl_max_le {b : Nat} : ∀ (l : List Nat) (a : Nat), a ≤ b → (∀ x, x ∈ l → x ≤ b) → l.foldl max a ≤ b
  | [], a, h, _ => h
  | x :: l, a, h, g => foldl_max_le l (max a x) (by have := g x (by simp); omega) fun y hy => g y (by simp [hy])
theorem maxF_le (l : List Nat) : maxF (risesF l) ≤ l.length := by
  rw [maxF_max]
  refine foldl_max_le _ _ (Nat.zero_le _) fun x hx => ?_
  obtain ⟨p, hp, rfl⟩ := List.mem_iff_getElem.1 hx
  have := rises_bound l p
  unfold atN at this
  rw [List.getElem?_eq_getElem hp] at this
  exact this
/-- whether a place is the next one -/
def fitB (l r : List Nat) (left : Nat) (last : Option (Nat × Nat)) (p : Nat) : Bool :=
  decide (atN r p = left) && (match last with | none => true | some (q, y) => decide (q < p) && decide (y < atN l p))
theorem placeF_step {l r : List Nat} (hr : r.length = l.length) {left : Nat} {last : Option (Nat × Nat)} {p : Nat} (h : p < l.length) :
    placeF left last p (l.drop p) (r.drop p) = if fitB l r left last p = true then some (p, atN l p) else placeF left last (p + 1) (l.drop (p + 1)) (r.drop (p + 1)) := by
  have hst : ∀ (x n : Nat) (t r' : List Nat), placeF left last p (x :: t) (n :: r') = cond (Nat.beq n left && (match last with | none => true | some (q, y) => Nat.blt q p && Nat.blt y x)) (some (p, x)) (placeF left last (p + 1) t r') := fun _ _ _ _ => rfl
  rw [List.drop_eq_getElem_cons h, List.drop_eq_getElem_cons (show p < r.length by omega), hst]
  have h1 : atN l p = l[p] := by unfold atN; rw [List.getElem?_eq_getElem h]; rfl
  have h2 : atN r p = r[p] := by unfold atN; rw [List.getElem?_eq_getElem (show p < r.length by omega)]; rfl
  unfold fitB
  rw [h1, h2]
  have e1 : Nat.beq r[p] left = decide (r[p] = left) := by
    rw [Bool.eq_iff_iff, decide_eq_true_eq]
    exact ⟨Nat.eq_of_beq_eq_true, fun e => by rw [e]; exact Nat.beq_refl _⟩
  have e2 : ∀ a b : Nat, Nat.blt a b = decide (a < b) := fun a b => by
    rw [Bool.eq_iff_iff, decide_eq_true_eq, Nat.blt_eq]
  cases last with
  | none =>
    simp only [e1]
    cases decide (r[p] = left) <;> rfl
  | some a =>
    obtain ⟨q, y⟩ := a
    simp only [e1, e2]
    generalize (decide (r[p] = left) && (decide (q < p) && decide (y < l[p]))) = b
    cases b <;> rfl
theorem placeF_end {l r : List Nat} {left : Nat} {last : Option (Nat × Nat)} : placeF left last l.length (l.drop l.length) (r.drop l.length) = none := by
  rw [List.drop_length, placeF]
  intro a b c d e; cases e
theorem placeF_some {left : Nat} {last : Option (Nat × Nat)} : ∀ (d p : Nat) {l r : List Nat} {q y : Nat}, r.length = l.length → p + d = l.length → placeF left last p (l.drop p) (r.drop p) = some (q, y) → q < l.length ∧ y = atN l q
  | 0, p, l, r, q, y, hr, hp, h => by
    obtain rfl : p = l.length := by omega
    rw [placeF_end] at h; cases h
  | d + 1, p, l, r, q, y, hr, hp, h => by
    rw [placeF_step hr (by omega)] at h
    split at h
    · cases h; exact ⟨by omega, rfl⟩
    · exact placeF_some d (p + 1) hr (by omega) h
theorem riseF_mem (l r : List Nat) (hr : r.length = l.length) : ∀ (left : Nat) (last : Option (Nat × Nat)) (a : Nat × Nat), a ∈ riseF l r left last → a.1 < l.length ∧ a.2 = atN l a.1
  | 0, _, a, h => by cases h
  | left + 1, last, a, h => by
    rw [riseF] at h
    split at h
    · rename_i b hb
      rcases List.mem_cons.1 h with rfl | h
      · obtain ⟨q, y⟩ := a
        exact placeF_some l.length 0 hr (by omega) hb
      · exact riseF_mem l r hr left _ a h
    · exact riseF_mem l r hr left _ a h
theorem riseF_len (l r : List Nat) : ∀ (left : Nat) (last : Option (Nat × Nat)), (riseF l r left last).length ≤ left
  | 0, _ => Nat.le_refl _
  | left + 1, last => by
    rw [riseF]
    split
    · rw [List.length_cons]; have := riseF_len l r left (some ‹_›); omega
    · have := riseF_len l r left last; omega
def riseL (l : List Nat) : List (Nat × Nat) := riseF l (risesF l) (maxF (risesF l)) none
theorem riseL_len (l : List Nat) : (riseL l).length ≤ l.length := Nat.le_trans (riseF_len _ _ _ _) (maxF_le l)
theorem riseL_mem {l : List Nat} {a : Nat × Nat} (h : a ∈ riseL l) : a.1 < l.length ∧ a.2 = atN l a.1 := riseF_mem l _ (risesF_len l) _ _ a h
theorem kept_rise (l : List Nat) : keptF l = ((riseL l).map (·.1)).map (atN l) := by
  unfold keptF
  rw [List.map_map]
  exact List.map_congr_left fun a ha => (riseL_mem ha).2
/- one move -/
theorem cutF_eq : ∀ (i : Nat) (l : List Nat), i < l.length → cutF i l = l.take i ++ l.drop (i + 1)
  | _, [], h => by simp at h
  | 0, x :: t, _ => rfl
  | i + 1, x :: t, h => by
    rw [cutF, cutF_eq i t (by simpa using h)]; rfl
theorem putF_eq (k : Nat) : ∀ (i : Nat) (l : List Nat), i ≤ l.length → putF k i l = l.take i ++ k :: l.drop i
  | 0, l, _ => by rw [putF]; rfl
  | i + 1, [], h => by simp at h
  | i + 1, x :: t, h => by
    rw [putF, putF_eq k i t (by simpa using h)]; rfl
theorem atF_eq : ∀ (i : Nat) (l : List Nat), atF i l = atN l i
  | 0, [] => rfl
  | _ + 1, [] => rfl
  | 0, x :: t => rfl
  | i + 1, x :: t => by
    rw [atF, atF_eq i t]; rfl
theorem madeF_eq {l : List Nat} {a b : Nat} (ha : a < l.length) (hb : b < l.length) : madeF l (a, b) = (l.take a ++ l.drop (a + 1)).take b ++ atN l a :: (l.take a ++ l.drop (a + 1)).drop b := by
  unfold madeF
  rw [cutF_eq a l ha, atF_eq, putF_eq]
  rw [List.length_append, List.length_take, List.length_drop]
  show b ≤ _
  omega
theorem cut_len {l : List Nat} {a : Nat} (ha : a < l.length) : (cutF a l).length = l.length - 1 := by
  rw [cutF_eq a l ha, List.length_append, List.length_take, List.length_drop]; omega
theorem madeF_perm {l : List Nat} {a b : Nat} (ha : a < l.length) (hb : b < l.length) : (madeF l (a, b)).Perm l := by
  rw [madeF_eq ha hb]
  refine List.perm_middle.trans ?_
  rw [List.take_append_drop]
  refine (List.perm_middle (a := atN l a) (l₁ := l.take a) (l₂ := l.drop (a + 1))).symm.trans ?_
  have e : l.take a ++ atN l a :: l.drop (a + 1) = l := by
    have h1 : l.drop a = l[a] :: l.drop (a + 1) := List.drop_eq_getElem_cons ha
    have h2 : atN l a = l[a] := by unfold atN; rw [List.getElem?_eq_getElem ha]; rfl
    rw [h2, ← h1, List.take_append_drop]
  rw [e]
theorem hasF_iff {l : List Nat} {k : Nat} : hasF l k = true ↔ k ∈ l := by
  unfold hasF
  rw [List.any_eq_true]
  constructor
  · rintro ⟨x, hx, e⟩
    rw [Nat.eq_of_beq_eq_true e]; exact hx
  · intro h; exact ⟨k, h, Nat.beq_refl k⟩
theorem idxF_lt {k : Nat} : ∀ {l : List Nat}, k ∈ l → idxF k l < l.length
  | [], h => by cases h
  | x :: t, h => by
    rw [idxF, List.length_cons]
    by_cases e : k = x
    · subst e; rw [Nat.beq_refl, cond_true]; omega
    · have h' : k ∈ t := (List.mem_cons.1 h).resolve_left e
      have := idxF_lt h'
      cases Nat.beq k x
      · rw [cond_false]; omega
      · rw [cond_true]; omega
/-- the place of the first of a number -/
theorem idxF_is {k : Nat} : ∀ {l : List Nat}, k ∈ l → atN l (idxF k l) = k ∧ ∀ j, j < idxF k l → atN l j ≠ k
  | [], h => by cases h
  | x :: t, h => by
    rw [idxF]
    by_cases e : k = x
    · subst e; rw [Nat.beq_refl, cond_true]
      exact ⟨rfl, fun j hj => absurd hj (by omega)⟩
    · have h' : k ∈ t := (List.mem_cons.1 h).resolve_left e
      have hb : Nat.beq k x = false := by
        rw [Bool.eq_false_iff]; intro q; exact e (Nat.eq_of_beq_eq_true q)
      rw [hb, cond_false]
      obtain ⟨g1, g2⟩ := idxF_is h'
      refine ⟨g1, fun j hj => ?_⟩
      cases j with
      | zero => exact fun q => e q.symm
      | succ j => exact g2 j (by omega)
theorem toF_step {k : Nat} {kept l : List Nat} {i tq : Nat} (h : i < l.length) : toF k kept i tq (l.drop i) = toF k kept (i + 1) (if atN l i < k ∧ atN l i ∈ kept then i + 1 else tq) (l.drop (i + 1)) := by
  rw [List.drop_eq_getElem_cons h, toF]
  have h1 : atN l i = l[i] := by unfold atN; rw [List.getElem?_eq_getElem h]; rfl
  rw [← h1]
  congr 1
  by_cases e : atN l i < k ∧ atN l i ∈ kept
  · rw [if_pos e, show Nat.blt (atN l i) k = true from by rw [Nat.blt_eq]; exact e.1, hasF_iff.2 e.2]; rfl
  · rw [if_neg e]
    have : (Nat.blt (atN l i) k && hasF kept (atN l i)) = false := by
      rw [Bool.eq_false_iff]
      intro q
      rw [Bool.and_eq_true, Nat.blt_eq, hasF_iff] at q
      exact e q
    rw [this]; rfl
theorem toF_end {k : Nat} {kept l : List Nat} {tq : Nat} : toF k kept l.length tq (l.drop l.length) = tq := by rw [List.drop_length]; rfl
theorem toF_le {k : Nat} {kept : List Nat} : ∀ (l : List Nat) (i tq : Nat), tq ≤ i → toF k kept i tq l ≤ i + l.length
  | [], i, tq, h => by rw [toF]; simpa using h
  | n :: t, i, tq, h => by
    rw [toF, List.length_cons]
    have := toF_le (k := k) (kept := kept) t (i + 1) (cond (Nat.blt n k && hasF kept n) (i + 1) tq) (by cases (Nat.blt n k && hasF kept n) <;> simp only [cond_true, cond_false] <;> omega)
    omega
/-- the mending of one card -/
def destF (k : Nat) (l kept : List Nat) : Nat := toF k kept 0 0 (cutF (idxF k l) l)
theorem dest_lt {k : Nat} {l kept : List Nat} (h : k ∈ l) : destF k l kept < l.length := by
  have h1 := idxF_lt h
  have h2 := toF_le (k := k) (kept := kept) (cutF (idxF k l) l) 0 0 (Nat.le_refl _)
  rw [cut_len h1] at h2
  unfold destF
  omega
theorem mendR_kept {c k : Nat} {l kept : List Nat} (h : k ∈ kept) : mendR (c + 1) k l kept = mendR c (k + 1) l kept := by
  rw [mendR, hasF_iff.2 h, cond_true]
theorem mendR_move {c k : Nat} {l kept : List Nat} (h : k ∉ kept) : mendR (c + 1) k l kept = if idxF k l = destF k l kept then mendR c (k + 1) (madeF l (idxF k l, destF k l kept)) (kept ++ [k]) else (idxF k l, destF k l kept) :: mendR c (k + 1) (madeF l (idxF k l, destF k l kept)) (kept ++ [k]) := by
  have h1 : hasF kept k = false := by
    rw [Bool.eq_false_iff]; intro e; exact h (hasF_iff.1 e)
  rw [mendR, h1, cond_false]
  show cond (Nat.beq (idxF k l) (destF k l kept)) _ _ = _
  by_cases e : idxF k l = destF k l kept
  · have hb : Nat.beq (idxF k l) (destF k l kept) = true := by rw [e]; exact Nat.beq_refl _
    rw [if_pos e, hb]; rfl
  · rw [if_neg e]
    have : Nat.beq (idxF k l) (destF k l kept) = false := by
      rw [Bool.eq_false_iff]; intro q; exact e (Nat.eq_of_beq_eq_true q)
    rw [this]; rfl
theorem makeF_snoc (l : List Nat) (ms : List (Nat × Nat)) (m : Nat × Nat) : makeF l (ms ++ [m]) = madeF (makeF l ms) m := by
  unfold makeF; rw [List.foldl_append]; rfl
end Go.Proofs.Mended

namespace Go.Proofs.Pet
open Go Go.RowKit Go.Maps Go.Shelf

/-- append(nil, make([]T, n)...) lays n zeros -/
theorem run_append_zeros {P : Program} {w : World} (t u ty e : TypeId) (i : TypeInfo) (z : Value) (k : IntKind) (ht : P.underlying t = some (.slice e)) (hu : P.underlying u = some (.int k)) (hi : P.info? e = some i) (hz : i.zero = some z)
    (n : Nat) (h0 : 0 < n) (hs : 0 < i.size) (h63 : (n : Int) ≤ 9223372036854775807) (h48 : n * i.bytes ≤ 281474976710656) :
    (Builtin.append_ #[t, u] ty #[.slice none 0 0, .int .i64 n]).run P w =
      .ok (.slice (some ⟨w.heap.size, 0, none⟩) n (grownCap w n 0 e)) (w.drew.alloc (.cells (Builtin.zeroCells z.cells n ++ Builtin.zeroCells z.cells (grownCap w n 0 e - n)) e)) := by
  have hn : n ≠ 0 := by omega
  have h63' : ¬ (9223372036854775807 < (n : Int)) := by omega
  have h48' : ¬ (281474976710656 < Builtin.nextslicecap n 0 * i.bytes) := by rw [nextslicecap_zero h0]; omega
  have hw : IntKind.i64.wrap (n : Int) = (n : Int) := by rw [IntKind.wrap_i64]; omega
  have n1 : ¬ ((n : Int) < 0) := by omega
  have n2 : ¬ (281474976710656 < (n : Int) * (i.bytes : Int)) := by
    have : (n : Int) * (i.bytes : Int) = ((n * i.bytes : Nat) : Int) := by simp
    omega
  have n3 : n * i.size ≠ 0 := Nat.ne_of_gt (Nat.mul_pos h0 hs)
  have n4 : ¬ (n = 0 ∨ i.size = 0) := by omega
  simp [Builtin.append_, run_underlying ht, run_underlying hu, asInt, asIntOf, sizeOf, typeInfo, zeroValue, hi, hz, hw, n1, n2, n3, hn, h63', h48', Question.forced, run_firstCells_none, newRow, grownCap]
theorem wpList_app_run {P : Program} {w : World} {ops : Array Oper} {rest : List Oper} {o : Oper} {a : Act} {Q : Exit → Act → World → Prop} (hgd : o.guard = none) (s x : Operand) (t u : TypeId)
    (ho : o.op = .call { callee := .builtin .append, args := #[s, x], argTypes := #[t, u] }) (v v2 v' : Value) (w' : World) (hs : a.eval s = v) (hx : a.eval x = v2)
    (hrun : (Builtin.append_ #[t, u] o.type #[v, v2]).run P w = .ok v' w') (h : wpList P ops Q rest (a.put o.dst v') w') : wpList P ops Q (o :: rest) a w :=
  wpList_plain hgd fun K hK => by
    unfold Oper.wp execOp
    simp only [ho, resolve, invoke, builtin, Sem.run_bind, Sem.run_pure, Result.andThen_ok, List.map_toArray, List.map_cons, List.map_nil, hs, hx, hrun]
    exact hK _ _ h
set_option maxRecDepth 20000 in
theorem grow_any (n : Nat) (hn : n ≤ 1000) (w : World) :
    Calls Try.prog 151 #[.slice none 0 0, .int .i64 (n : Int)] w fun e w' => ∃ r, e = .returned r ∧ OwnI w' w.heap.size 3 r [] ∧ Ext w w' := by
  obtain ⟨i, hi, hz0, hz1, hz2⟩ := info_parts info_int
  by_cases h0 : 0 < n
  · have happ := run_append_zeros (P := Try.prog) (w := w) 28 3 28 3 i (.int .i64 0) .i64 Try.underlying28 Try.underlying3 hi hz0 n h0 (by omega) (by omega) (by rw [hz2]; omega)
    obtain ⟨cs, hcs⟩ : ∃ cs, (Builtin.zeroCells (Value.int .i64 0).cells n ++ Builtin.zeroCells (Value.int .i64 0).cells (grownCap w n 0 3 - n)) = cs := ⟨_, rfl⟩
    have hge := grownCap_ge w n 0 3
    have hle := grownCap_le_maxLen w n 0 3 (by unfold maxLen; omega)
    have hsz : cs.size = grownCap w n 0 3 := by
      rw [← hcs, Array.size_append, size_zeroCells, size_zeroCells]
      simp only [Value.cells, List.size_toArray, List.length_cons, List.length_nil]
      omega
    rw [hcs] at happ
    have hb := Blk.new w.drew 3 cs
    have hE : Ext w (w.drew.alloc (.cells cs 3)) := (Ext.drew w).trans (Ext.alloc _ _)
    obtain ⟨G, hG⟩ : ∃ G, grownCap w n 0 3 = G := ⟨_, rfl⟩
    rw [hG] at happ hge hle hsz
    clear hcs hG
    go_enter Try.func151, Try.ntmps151
    have Happ := Lib.hid happ; clear happ
    go_wp2_with (at_builtin; refine wpList_app_run rfl _ _ 28 3 rfl _ _ _ _ rfl rfl Happ.out ?_)
    go_ret
    refine ⟨_, rfl, ?_, hE⟩
    exact ⟨rfl, .inr ⟨w.heap.size, G, cs, rfl, Nat.le_refl _, hb, Nat.zero_le _, hle, by omega, by simp⟩⟩
  · obtain rfl : n = 0 := by omega
    go_enter Try.func151, Try.ntmps151
    go_wp2_with fail
    go_ret
    exact ⟨_, rfl, OwnI.nil _ _ _, Ext.refl _⟩
/-- rows of ints, wherever they lie -/
def RowsI (w : World) (v : Value) (xss : List (List Int)) : Prop :=
  ∃ A c, v = .slice A xss.length c ∧ xss.length ≤ c ∧ c ≤ maxLen ∧ ∀ i, i < xss.length → ∃ b o u, A = some ⟨b, o, none⟩ ∧ w.cell? ⟨b, o + i, none⟩ = some u ∧ SlI w u (xss[i]?.getD [])
theorem RowsI.ext {w w' : World} {v : Value} {xss : List (List Int)} (h : RowsI w v xss) (he : Ext w w') : RowsI w' v xss := by
  obtain ⟨A, c, h1, h2, h3, h4⟩ := h
  refine ⟨A, c, h1, h2, h3, fun i hi => ?_⟩
  obtain ⟨b, o, u, g1, g2, g3⟩ := h4 i hi
  exact ⟨b, o, u, g1, he.cell g2, g3.ext he⟩
theorem flat_take {xss : List (List Int)} {k : Nat} (hk : k < xss.length) : (xss.take (k + 1)).flatten = (xss.take k).flatten ++ xss[k]?.getD [] := by
  rw [List.take_succ_eq_append_getElem hk, List.flatten_append]
  simp [hk]
theorem flat_le (xss : List (List Int)) : ∀ k, (xss.take k).flatten.length ≤ xss.flatten.length := by
  intro k
  have := congrArg List.length (congrArg List.flatten (List.take_append_drop k xss))
  rw [List.flatten_append, List.length_append] at this
  omega
set_option maxRecDepth 20000 in
set_option maxHeartbeats 1000000 in
theorem concat_any (v : Value) (xss : List (List Int)) (hb : xss.flatten.length ≤ 1000) (hb2 : xss.length ≤ 1000) (w : World) (hv : RowsI w v xss) :
    Calls Try.prog 106 #[v] w fun e w' => ∃ r, e = .returned r ∧ OwnI w' w.heap.size 3 r xss.flatten ∧ Ext w w' := by
  obtain ⟨ti, hi, hz0, hz1, hz2⟩ := info_parts info_int
  obtain ⟨A, c, rfl, h2, h3, h4⟩ := hv
  have H4 := Lib.hid h4; clear h4
  have Hfl := Lib.hid (flat_le xss)
  unfold maxLen at h3
  go_enter Try.func106, Try.ntmps106
  go_wp2_with fail
  go_loopw [3, 11] (fun sv iv wr => ∃ (k s : Nat), k ≤ xss.length ∧ iv = .int .i64 k ∧ sv = .int .i64 s ∧ s ≤ 1000 ∧ Hid ((xss.take k).flatten.length = s) ∧ w = wr) (fun _ iv _ => xss.length - (intOf iv).toNat)
  case atStart => exact ⟨0, 0, by omega, rfl, rfl, by omega, rfl, rfl⟩
  case round =>
    obtain ⟨k, s, hk, rfl, rfl, hs, hse, rfl⟩ := hrel
    by_cases hlt : k < xss.length
    · obtain ⟨b, o, u, rfl, p1, A', c', rfl, p2, p3, p4⟩ := H4.out k hlt
      have hn2 : Hid ((xss.take (k + 1)).flatten.length = s + (xss[k]?.getD []).length) := by
        unfold Hid; rw [flat_take hlt, List.length_append, hse.out]
      have hle : s + (xss[k]?.getD []).length ≤ 1000 := by have := Hfl.out (k + 1); rw [hn2.out] at this; omega
      clear p4
      generalize (xss[k]?.getD []).length = L at *
      go_wp2_with fail
      go_roundw
      case rel => exact ⟨k + 1, s + L, by omega, by go_num, by go_num, hle, hn2, by trivial⟩
      case measure => simp [intOf]; omega
    · have hke : k = xss.length := by omega
      subst hke
      have hgr := Lib.hid (grow_any s hs w)
      go_wp2_with fail
      refine hgr.out.mono ?_
      rintro e w1 ⟨r, rfl, hr, he1⟩
      go_wp2_with fail
      go_loopw [6, 27] (fun rv iv wr => ∃ k : Nat, k ≤ xss.length ∧ iv = .int .i64 k ∧ Ext w wr ∧ Hid (OwnI wr w.heap.size 3 rv (xss.take k).flatten)) (fun _ iv _ => xss.length - (intOf iv).toNat)
      case atStart => exact ⟨0, by omega, rfl, he1, hr⟩
      case round =>
        clear hr he1
        obtain ⟨k, hk, rfl, he, ho⟩ := hrel
        by_cases hlt2 : k < xss.length
        · obtain ⟨b, o, u, rfl, p1, A', c', rfl, p2, p3, p4⟩ := H4.out k hlt2
          obtain ⟨BB, cB, rfl, o1, o2, o3, o4, o5⟩ := ho.out.open_
          have O4 := Lib.hid o4; clear o3 o4 o5
          have p1' := he.cell p1
          have hn2 : Hid ((xss.take (k + 1)).flatten = (xss.take k).flatten ++ xss[k]?.getD []) := flat_take hlt2
          have hle := Hfl.out (k + 1)
          rw [hn2.out, List.length_append] at hle
          have hsrc : Hid (Src wr A' ((xss[k]?.getD []).map (Value.int .i64))) := (p4.ext he).src
          clear p4
          obtain ⟨ys, hys⟩ : ∃ ys, xss[k]?.getD [] = ys := ⟨_, rfl⟩
          rw [hys] at p1 p1' p2 hle
          simp only [hys] at hn2 hsrc
          clear hys
          generalize hln : (xss.take k).flatten.length = L at *
          have HL := Lib.hid hln; clear hln
          have hszr := he.size
          have hrow : Hid (wr.ownsRow w.heap.size 3 1 (.slice BB L cB) L ((xss.take k).flatten.map (Value.int .i64))) := by
            have := ho.out
            unfold OwnI at this
            rw [HL.out] at this
            exact this
          go_wp2_with (at_builtin; refine wpList_app rfl _ _ 28 rfl w.heap.size 3 ti (.int .i64 0) 1 8 Try.underlying28 hi hz0 hz1 hz2 rfl (by decide) _ _ _ rfl hrow.out A' ys.length c' (ys.map (Value.int .i64)) rfl (by simp) hsrc.out one_ints ?c3 ?c4 ?c5 ?_; (case c3 => (unfold maxLen; omega)); (case c4 => omega); (case c5 => omega); intro v' w' hown' hg hblk)
          go_roundw
          case rel =>
            have hge := own_ge O4.out (L := L) (c := cB)
            refine ⟨k + 1, by omega, by go_num, Below.grown he hg hszr (fun j hj => hge j hj), ?_⟩
            unfold Hid
            rw [hn2.out]
            unfold OwnI
            rw [List.map_append, List.length_append, HL.out]
            exact hown'
          case measure => simp [intOf]; omega
        · have hke : k = xss.length := by omega
          subst hke
          have h := ho.out
          rw [List.take_length] at h
          go_wp2_with fail
          go_ret
          exact ⟨_, rfl, h, he⟩
end Go.Proofs.Pet

namespace Go.Proofs.Pet
open Go Go.RowKit Go.Maps Go.Shelf

theorem planned1_any (m : Mill) (l x : Int) (hx : 0 ≤ x ∧ x < m.orders.length) (B C : Nat) (mv : Value) (w : World) (hv : MillVal w mv m) (hB : ∃ A1 c1 A2 c2, mv = .agg #[.slice A1 m.laced.length c1, .int .i64 m.change, .slice A2 m.orders.length c2] ∧ Blk w B 64 #[.slice A1 m.laced.length c1, .int .i64 m.change, .slice A2 m.orders.length c2]) (hC : Blk w C 3 #[.int .i64 l]) :
    Calls Try.prog 108 #[.int .i64 x, .pointer (some ⟨B, 0, none⟩), .pointer (some ⟨C, 0, none⟩)] w fun e w' => e = .returned (.bool (weavesI m l x)) ∧ Ext w w' := by
  obtain ⟨A1, c1, A2, c2, rfl, hB⟩ := hB
  obtain ⟨k, rfl⟩ : ∃ k : Nat, x = (k : Int) := ⟨x.toNat, by omega⟩
  have hw := Lib.hid (weaves_any _ m l k (by omega) (weavesI m l k) rfl w hv)
  generalize weavesI m l k = q at *
  clear hv
  obtain ⟨k0, k1, k2⟩ := hB.c3
  have k3 := hC.c1
  go_enter Try.func108, Try.ntmps108
  go_wp2_with fail
  refine hw.out.mono ?_
  rintro e w' ⟨rfl, he⟩
  go_wp2_with fail
  go_ret
  exact ⟨rfl, he⟩
def weavesAll (m : Mill) (xss : List (List Int)) : Bool := (List.range xss.length).all fun j => (xss[j]?.getD []).all fun x => weavesI m j x
def plE (m : Mill) (xss : List (List Int)) : Int :=
  if checkE m ≠ 0 then checkE m else if xss.length ≠ m.laced.length then 2 else if listedE m xss.flatten ≠ 0 then listedE m xss.flatten else if weavesAll m xss = false then 8 else 0
theorem weavesAll_true {m : Mill} {xss : List (List Int)} (h : ∀ j, j < xss.length → ((xss[j]?.getD []).all fun x => weavesI m j x) = true) : weavesAll m xss = true := by
  unfold weavesAll
  rw [List.all_eq_true]
  intro j hj
  exact h j (List.mem_range.1 hj)
theorem weavesAll_false {m : Mill} {xss : List (List Int)} {j : Nat} (hj : j < xss.length) (h : ((xss[j]?.getD []).all fun x => weavesI m j x) = false) : weavesAll m xss = false := by
  unfold weavesAll
  rw [List.all_eq_false]
  exact ⟨j, List.mem_range.2 hj, by rw [h]; simp⟩
theorem mem_flat {xss : List (List Int)} {j : Nat} {x : Int} (hj : j < xss.length) (h : x ∈ xss[j]?.getD []) : x ∈ xss.flatten := by
  rw [List.mem_flatten]
  refine ⟨xss[j], List.getElem_mem hj, ?_⟩
  simpa [hj] using h
def planR (mv pv : Value) (fl : List Int) (le : Int) : Nat → Value → World → Prop
  | 0 => fun v _ => v = mv
  | 1 => fun v _ => v = pv
  | 2 => fun v W => SlI W v fl
  | 3 => fun v _ => v = .int .i64 le
  | 4 => fun v _ => v = .int .i64 le
  | _ => fun _ _ => True
theorem planR.ext {mv pv : Value} {fl : List Int} {le : Int} {w w' : World} (he : Ext w w') (j : Nat) (v : Value) (h : planR mv pv fl le j v w) : planR mv pv fl le j v w' := by
  match j, h with
  | 0, h | 1, h | 3, h | 4, h => exact h
  | 2, h => exact SlI.ext h he
  | _ + 5, h => trivial

set_option maxRecDepth 20000 in
set_option maxHeartbeats 2000000 in
theorem planned_any (v pv : Value) (m : Mill) (xss : List (List Int)) (r : Int) (hr : plE m xss = r) (hb : xss.flatten.length ≤ 1000) (hb2 : xss.length ≤ 1000) (w : World) (hv : MillVal w v m) (hp : RowsI w pv xss) :
    Calls Try.prog 53 #[v, pv] w fun e w' => e = .returned (.int .i64 r) ∧ Ext w w' := by
  have hmf : ∀ (fn : Fn) (first cap : Array Value) (w : World), (Instr.makeFunc fn first cap).run Try.prog w = .ok (.func fn first cap) w := fun _ _ _ _ => rfl
  obtain ⟨fl, hfl⟩ : ∃ fl, xss.flatten = fl := ⟨_, rfl⟩
  have Hfb := Lib.hid hb; clear hb
  have Hr := Lib.hid hr; clear hr
  have Hv := Lib.hid hv
  obtain ⟨A1, c1, A2, c2, rfl, h2, h3, h4, h5, h6, h7⟩ := hv
  have Hp := Lib.hid hp
  obtain ⟨PA, pc, rfl, g2, g3, g4⟩ := hp
  have G4 := Lib.hid g4; clear g4
  have hE := Ext.alloc w (.cells #[.slice A1 m.laced.length c1, .int .i64 m.change, .slice A2 m.orders.length c2] 64)
  have hM := Blk.new w 64 #[.slice A1 m.laced.length c1, .int .i64 m.change, .slice A2 m.orders.length c2]
  have hch := Lib.hid (check_any _ m _ (Hv.out.ext hE))
  clear h6 h7 h3 h5
  obtain ⟨k0, k1, k2⟩ := hM.c3
  by_cases h0 : checkE m = 0
  · have hr2 : Hid ((if xss.length ≠ m.laced.length then 2 else if listedE m fl ≠ 0 then listedE m fl else if weavesAll m xss = false then 8 else 0) = r) := by
      unfold Hid; rw [← Hr.out]; unfold plE; rw [if_neg (show ¬ (checkE m ≠ 0) by simp [h0]), hfl]
    have hli : Hid (listE m fl = listedE m fl) := by unfold Hid listE; rw [if_pos h0]
    have Hfl := Lib.hid hfl; clear hfl
    rw [h0] at hch
    clear h0
    by_cases hlen : xss.length = m.laced.length
    · have hd1 : ((xss.length : Int) != (m.laced.length : Int)) = false := by simp; omega
      have hr3 : Hid ((if listedE m fl ≠ 0 then listedE m fl else if weavesAll m xss = false then 8 else 0) = r) := by
        unfold Hid; rw [← hr2.out, if_neg (show ¬ (xss.length ≠ m.laced.length) by simp [hlen])]
      clear hlen hr2
      obtain ⟨le, hle⟩ : ∃ le, listedE m fl = le := ⟨_, rfl⟩
      simp only [hle] at hr3
      have Hle := Lib.hid hle; clear hle
      go_enter Try.func53, Try.ntmps53
      go_wp2_with fail
      refine hch.out.mono ?_
      rintro e w1 ⟨rfl, he1⟩
      have hE1 := hE.trans he1
      have hM1 := hM.ext he1
      clear hM hE he1 hch k0 k1 k2
      obtain ⟨k0, k1, k2⟩ := hM1.c3
      go_wp2_with fail
      refine wp_region_apart 5 (by kernel_rfl) (by kernel_rfl) (fun W' => Ext w1 W') (planR (.agg #[.slice A1 m.laced.length c1, .int .i64 m.change, .slice A2 m.orders.length c2]) (.slice PA xss.length pc) fl le) (fun _ _ _ _ => True) (Ext.drew _) ?_ ?_
      · simp only [List.take, AllOps2, fill, Act.put, List.setIfInBounds_toArray, List.set_cons_zero, List.set_cons_succ, Nat.reduceAdd, Deps, DepsL, List.filter_cons, List.filter_nil, Region.binds, if_true, and_true]
        refine ⟨?_, ?_, ?_, ?_, ?_⟩
        all_goals
          intro Ld x W' hG hnl hLR hAp hdl hd K Q hK
        case refine_3 =>
          simp only [planR] at hd
          simp only [hd] at hK ⊢
          have HK := Lib.hid hK; clear hK
          have HL := Lib.hid hLR; clear hLR hAp hdl
          have hcc := Lib.hid (concat_any _ xss Hfb.out hb2 W' (Hp.out.ext (hE1.trans hG)))
          rw [Hfl.out] at hcc
          go_wp2_with fail
          refine hcc.out.mono ?_
          rintro e w' ⟨rv, rfl, hrv, he'⟩
          go_wp2
          exact HK.out _ _ hrv.sl (hG.trans he') (fun j hj => ⟨planR.ext he' j _ (HL.out j hj), .inl trivial⟩)
        case refine_4 =>
          have hx0 : x 0 = _ := hd.1
          have hx2 : SlI W' (x 2) fl := hd.2.1
          obtain ⟨AF, cF, e2, f1, f2, f3⟩ := hx2
          simp only [hx0, e2] at hK ⊢
          have HK := Lib.hid hK; clear hK
          have HL := Lib.hid hLR; clear hLR hAp hdl hd e2 hx0
          have hcc := Lib.hid (listed_any _ m AF cF fl le (by rw [hli.out]; exact Hle.out) W' (Hv.out.ext (hE1.trans hG)) f1 f2 f3)
          clear f3
          go_wp2_with fail
          refine hcc.out.mono ?_
          rintro e w' ⟨rfl, he'⟩
          go_wp2
          exact HK.out _ _ rfl (hG.trans he') (fun j hj => ⟨planR.ext he' j _ (HL.out j hj), .inl trivial⟩)
        case refine_5 =>
          have hx3 : x 3 = _ := hd.1
          simp only [hx3] at hK ⊢
          have HK := Lib.hid hK; clear hK
          have HL := Lib.hid hLR; clear hLR hAp hdl hd hx3
          go_wp2_with fail
          exact HK.out _ _ rfl hG (fun j hj => ⟨HL.out j hj, .inl trivial⟩)
        all_goals
          try (simp only [planR] at hd; simp only [hd] at hK ⊢)
          have HK := Lib.hid hK; clear hK
          have HL := Lib.hid hLR; clear hLR hAp hdl
          obtain ⟨k0, k1, k2⟩ := (hM1.ext hG).c3
          go_wp2_with fail
          exact HK.out _ _ rfl hG (fun j hj => ⟨HL.out j hj, .inl trivial⟩)
      · intro x W2 hG _ hR
        simp only [AllR, planR, true_and] at hR
        obtain ⟨h03, r4⟩ := hR
        clear h03
        simp only [List.take, List.drop, fill, Act.put, List.setIfInBounds_toArray, List.set_cons_zero, List.set_cons_succ, Nat.reduceAdd, r4]
        clear r4
        have hE2 := hE1.trans hG
        have hM2 := hM1.ext hG
        clear hM1 hE1 hG k0 k1 k2
        by_cases hl0 : le = 0
        · have hrange := inB_range (listedE_ok (Hle.out.trans hl0)).1
          have Hrange := Lib.hid hrange; clear hrange
          have hr4 : Hid ((if weavesAll m xss = false then (8 : Int) else 0) = r) := by have := hr3.out; unfold Hid; rwa [if_neg (show ¬ (le ≠ 0) by simp [hl0])] at this
          have hdl0 : (le != 0) = false := by simp [hl0]
          clear hl0
          go_wp2_with fail
          go_loopw [29] (fun iv wr => ∃ k : Nat, k ≤ xss.length ∧ iv = .int .i64 k ∧ Hid (∀ j, j < k → ((xss[j]?.getD []).all fun x => weavesI m j x) = true) ∧ Ext w wr ∧ Blk wr w.heap.size 64 #[.slice A1 m.laced.length c1, .int .i64 m.change, .slice A2 m.orders.length c2]) (fun iv _ => xss.length - (intOf iv).toNat)
          case atStart => exact ⟨0, by omega, rfl, fun j hj => absurd hj (by omega), hE2, hM2⟩
          case round =>
            clear hE2 hM2
            obtain ⟨k, hk, rfl, hall, he, hMr⟩ := hrel
            by_cases hlt : k < xss.length
            · obtain ⟨pb, po, u, e0, q1, hsl⟩ := G4.out k hlt
              subst e0
              have q1' := he.cell q1
              obtain ⟨LA, lc, rfl, s1, s2, s3⟩ := hsl.ext he
              have hX := Ext.alloc wr (.cells #[.int .i64 (k : Int)] 3)
              have hC := Blk.new wr 3 #[.int .i64 (k : Int)]
              have hMX := hMr.ext hX
              obtain ⟨q, hq⟩ : ∃ q, ((xss[k]?.getD []).all fun x => weavesI m k x) = q := ⟨_, rfl⟩
              have hev := everyI 108 #[] #[.pointer (some ⟨w.heap.size, 0, none⟩), .pointer (some ⟨wr.heap.size, 0, none⟩)] (enters_of Try.func108 (by kernel_rfl) rfl) (fun n => weavesI m k n) LA lc (xss[k]?.getD []) (wr.alloc (.cells #[.int .i64 (k : Int)] 3)) (Nat.le_trans s1 s2) (s3.ext hX) (fun x hx' => by
                intro W u hW hu
                obtain rfl : u = .int .i64 x := hu
                exact planned1_any m k x (Hrange.out x (Hfl.out ▸ mem_flat hlt hx')) _ _ _ W (Hv.out.ext (he.trans (hX.trans hW))) ⟨A1, c1, A2, c2, rfl, hMX.ext hW⟩ (hC.ext hW))
              rw [hq] at hev
              have Hev := Lib.hid hev; clear hev s3 hsl
              have Hq := Lib.hid hq; clear hq
              have hfl8 : Hid (q = false → r = 8) := fun h => by rw [← hr4.out, weavesAll_false hlt (by rw [← h]; exact Hq.out)]; simp
              generalize hLL : (xss[k]?.getD []) = ys at *
              have HLL := Lib.hid hLL; clear hLL
              go_wp2_with fail
              refine Hev.out.mono ?_
              rintro e w' ⟨rfl, he'⟩
              cases q with
              | true =>
                go_wp2_with fail
                go_roundw
                case rel =>
                  refine ⟨k + 1, by omega, by go_num, fun j hj => ?_, he.trans (hX.trans he'), hMX.ext he'⟩
                  by_cases ej : j = k
                  · subst ej; rw [HLL.out]; exact Hq.out
                  · exact hall.out j (by omega)
                case measure => simp [intOf]; omega
              | false =>
                have hr8 := hfl8.out rfl
                subst hr8
                go_wp2_with fail
                go_ret
                exact ⟨rfl, he.trans (hX.trans he')⟩
            · have hr0 : r = 0 := by rw [← hr4.out, weavesAll_true fun j hj => hall.out j (by omega)]; simp
              subst hr0
              go_wp2_with fail
              go_ret
              exact ⟨rfl, he⟩
        · have hr0 : r = le := by rw [← hr3.out, if_pos hl0]
          have hd : (le != 0) = true := by simpa using hl0
          clear hl0
          subst hr0
          go_wp2_with fail
          go_ret
          exact ⟨rfl, hE2⟩
    · have hd1 : ((xss.length : Int) != (m.laced.length : Int)) = true := by simp; omega
      have hr3 : r = 2 := by rw [← hr2.out, if_pos hlen]
      clear hlen
      subst hr3
      go_enter Try.func53, Try.ntmps53
      go_wp2_with fail
      refine hch.out.mono ?_
      rintro e w1 ⟨rfl, he1⟩
      have hM1 := hM.ext he1
      clear k0 k1 k2
      obtain ⟨k0, k1, k2⟩ := hM1.c3
      go_wp2_with fail
      go_ret
      exact ⟨rfl, hE.trans he1⟩
  · have hr2 : checkE m = r := by rw [← Hr.out]; unfold plE; rw [if_pos h0]
    have hd : (r != 0) = true := by rw [← hr2]; simpa using h0
    rw [hr2] at hch
    clear h0 hr2
    go_enter Try.func53, Try.ntmps53
    go_wp2_with fail
    refine hch.out.mono ?_
    rintro e w1 ⟨rfl, he1⟩
    go_wp2_with fail
    go_ret
    exact ⟨rfl, hE.trans he1⟩
def chgF (m : Mill) (xss : List (List Int)) : Nat → Int
  | 0 => 0
  | k + 1 => chgF m xss k + chR m k (rvI (xss[k]?.getD []))
theorem chgF_bd (m : Mill) (xss : List (List Int)) (h : ∀ j, j < xss.length → (xss[j]?.getD []).length ≤ 100) : ∀ k, k ≤ xss.length → 0 ≤ chgF m xss k ∧ chgF m xss k ≤ 100 * k
  | 0, _ => by simp [chgF]
  | k + 1, hk => by
    have ih := chgF_bd m xss h k (by omega)
    have hc := chR_bd m k (rvI (xss[k]?.getD []))
    have hl : (rvI (xss[k]?.getD [])).length = (xss[k]?.getD []).length := by unfold rvI; simp
    have := h k (by omega)
    rw [chgF]; omega
set_option maxRecDepth 20000 in
set_option maxHeartbeats 1000000 in
theorem changes_any (v pv : Value) (m : Mill) (xss : List (List Int)) (e0 : Int) (he0 : plE m xss = e0) (hb : xss.flatten.length ≤ 100) (hb2 : xss.length ≤ 1000) (w : World) (hv : MillVal w v m) (hp : RowsI w pv xss) :
    Calls Try.prog 21 #[v, pv] w fun e w' => e = .returned (.tuple #[.int .i64 (if e0 = 0 then chgF m xss xss.length else 0), .int .i64 e0]) ∧ Ext w w' := by
  have Hv := Lib.hid hv
  have Hp := Lib.hid hp
  have Hlen : Hid (∀ j, j < xss.length → (xss[j]?.getD []).length ≤ 100) := fun j hj => by
    have h1 := flat_take hj
    have h2 := flat_le xss (j + 1)
    rw [h1, List.length_append] at h2
    omega
  obtain ⟨A1, c1, A2, c2, rfl, h2, h3, h4, h5, h6, h7⟩ := hv
  obtain ⟨PA, pc, rfl, g2, g3, g4⟩ := hp
  have G4 := Lib.hid g4; clear g4
  unfold maxLen at g3
  have hE := Ext.alloc w (.cells #[.slice A1 m.laced.length c1, .int .i64 m.change, .slice A2 m.orders.length c2] 64)
  have hM := Blk.new w 64 #[.slice A1 m.laced.length c1, .int .i64 m.change, .slice A2 m.orders.length c2]
  have hpl := Lib.hid (planned_any _ _ m xss e0 he0 (by omega) hb2 _ (Hv.out.ext hE) (Hp.out.ext hE))
  have He0 := Lib.hid he0; clear he0
  clear h6 h7 h3 h5 hb
  obtain ⟨k0, k1, k2⟩ := hM.c3
  by_cases h0 : e0 = 0
  · have hck : Hid (checkE m = 0 ∧ xss.length = m.laced.length ∧ listedE m xss.flatten = 0) := by
      have h := He0.out
      rw [h0] at h
      unfold plE at h
      by_cases a1 : checkE m ≠ 0
      · rw [if_pos a1] at h; exact absurd h a1
      rw [if_neg a1] at h
      by_cases a2 : xss.length ≠ m.laced.length
      · rw [if_pos a2] at h; omega
      rw [if_neg a2] at h
      by_cases a3 : listedE m xss.flatten ≠ 0
      · rw [if_pos a3] at h; exact absurd h a3
      exact ⟨by omega, by omega, by omega⟩
    have Hrange := Lib.hid (inB_range (listedE_ok hck.out.2.2).1)
    obtain ⟨l1, l2, l3⟩ := check_len hck.out.1
    rw [if_pos h0]
    have hd0 : (e0 != 0) = false := by simp [h0]
    have H0 := Lib.hid h0; clear h0
    go_enter Try.func21, Try.ntmps21
    go_wp2_with fail
    refine hpl.out.mono ?_
    rintro e w1 ⟨rfl, he1⟩
    have hE1 := hE.trans he1
    have hM1 := hM.ext he1
    clear hM hE he1 hpl k0 k1 k2
    go_wp2_with fail
    go_loopw [7, 20] (fun sv iv wr => ∃ (k : Nat) (s : Int), k ≤ xss.length ∧ iv = .int .i64 k ∧ sv = .int .i64 s ∧ (0 ≤ s ∧ s ≤ 100 * k) ∧ Hid (chgF m xss k = s) ∧ Ext w wr ∧ Blk wr w.heap.size 64 #[.slice A1 m.laced.length c1, .int .i64 m.change, .slice A2 m.orders.length c2]) (fun _ iv _ => xss.length - (intOf iv).toNat)
    case atStart => exact ⟨0, 0, by omega, rfl, rfl, by omega, rfl, hE1, hM1⟩
    case round =>
      clear hE1 hM1
      obtain ⟨k, s, hk, rfl, rfl, hsb, hs, he, hMr⟩ := hrel
      obtain ⟨k0, k1, k2⟩ := hMr.c3
      by_cases hlt : k < xss.length
      · obtain ⟨pb, po, u, e1, q1, hsl⟩ := G4.out k hlt
        subst e1
        have q1' := he.cell q1
        obtain ⟨LA, lc, rfl, s1, s2, s3⟩ := hsl.ext he
        have hst : Hid (chgF m xss (k + 1) = s + chR m k (rvI (xss[k]?.getD []))) := by unfold Hid; rw [chgF, hs.out]
        have hb := chgF_bd m xss Hlen.out (k + 1) (by omega)
        rw [hst.out] at hb
        have hran := Lib.hid (ran_any _ m hck.out.1 k (by have := hck.out.2.1; omega) LA lc (xss[k]?.getD []).length (xss[k]?.getD []) rfl (Hlen.out k hlt) (fun x hx => Hrange.out x (mem_flat hlt hx)) wr (Hv.out.ext he) s3)
        clear s3 hsl
        generalize (xss[k]?.getD []) = ys at *
        generalize chR m k (rvI ys) = cc at *
        go_wp2_with fail
        refine hran.out.mono ?_
        rintro e w' ⟨rr, rfl, _, he'⟩
        go_wp2_with fail
        go_roundw
        case rel => exact ⟨k + 1, s + cc, by omega, by go_num, by first | rfl | go_num, hb, hst, he.trans he', hMr.ext he'⟩
        case measure => simp [intOf]; omega
      · have hke : k = xss.length := by omega
        subst hke
        go_wp2_with fail
        go_ret2
        exact ⟨by rw [hs.out, H0.out]; rfl, he⟩
  · rw [if_neg h0]
    have hd : (e0 != 0) = true := by simpa using h0
    clear h0
    go_enter Try.func21, Try.ntmps21
    go_wp2_with fail
    refine hpl.out.mono ?_
    rintro e w1 ⟨rfl, he1⟩
    go_wp2_with fail
    go_ret2
    exact ⟨rfl, hE.trans he1⟩
end Go.Proofs.Pet
