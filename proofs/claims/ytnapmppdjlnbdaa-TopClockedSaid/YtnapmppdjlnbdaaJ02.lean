/- Joined texts: S1, S2, K1, S3, F1, S4, S5, S6, S7, S8, PA1, PA2, PV, S9, S10, S11, S12, S13, S14, S15, PA4. -/
import Derived.IntWalk
import Derived.Test.YtnapmppdjlnbdaaB0
import Derived.KernelRfl
namespace Go.Proofs.Pow

def fac : Nat → Nat
  | 0 => 1
  | n + 1 => (n + 1) * fac n
/-- numbers below n that a set lacks -/
def lack (n s : Nat) : List Nat := (List.range n).filter fun k => !s.testBit k
theorem mem_lack {n s k : Nat} : k ∈ lack n s ↔ k < n ∧ s.testBit k = false := by
  unfold lack
  rw [List.mem_filter, List.mem_range]; simp
theorem lack_nodup (n s : Nat) : (lack n s).Nodup := List.Pairwise.filter _ List.nodup_range
theorem testBit_plus {s k : Nat} (h : s.testBit k = false) (j : Nat) : (s + 2 ^ k).testBit j = (s.testBit j || decide (j = k)) := by
  have hr : s % 2 ^ k < 2 ^ k := Nat.mod_lt _ (Nat.two_pow_pos k)
  have hq : (s / 2 ^ k) % 2 = 0 := by
    rw [Nat.testBit_eq_decide_div_mod_eq] at h
    have := of_decide_eq_false h
    omega
  have e1 : s = 2 ^ k * (s / 2 ^ k) + s % 2 ^ k := (Nat.div_add_mod s (2 ^ k)).symm
  have e2 : s + 2 ^ k = 2 ^ k * (s / 2 ^ k + 1) + s % 2 ^ k := by rw [Nat.mul_add]; omega
  rw [e2, Nat.testBit_two_pow_mul_add _ hr]
  conv => rhs; rw [e1, Nat.testBit_two_pow_mul_add _ hr]
  generalize s / 2 ^ k = q at hq
  obtain ⟨t, rfl⟩ : ∃ t, q = 2 * t := ⟨q / 2, by omega⟩
  by_cases hj : j < k
  · rw [if_pos hj, if_pos hj]
    have : decide (j = k) = false := decide_eq_false (by omega)
    rw [this, Bool.or_false]
  · rw [if_neg hj, if_neg hj]
    by_cases e : j = k
    · subst e
      rw [Nat.sub_self]
      simp [Nat.testBit_zero]
    · obtain ⟨d, hd⟩ : ∃ d, j - k = d + 1 := ⟨j - k - 1, by omega⟩
      rw [hd, Nat.testBit_succ, Nat.testBit_succ]
      have e3 : (2 * t + 1) / 2 = t := by omega
      have e4 : 2 * t / 2 = t := by omega
      rw [e3, e4, decide_eq_false e, Bool.or_false]
theorem lack_plus {n s k : Nat} (h : s.testBit k = false) : lack n (s + 2 ^ k) = (lack n s).filter fun j => decide (j ≠ k) := by
  unfold lack
  rw [List.filter_filter]
  refine List.filter_congr fun j _ => ?_
  rw [testBit_plus h]
  cases s.testBit j <;> by_cases e : j = k <;> simp [e]
theorem len_without {l : List Nat} (hn : l.Nodup) {k : Nat} (hk : k ∈ l) : (l.filter fun j => decide (j ≠ k)).length + 1 = l.length := by
  induction l with
  | nil => cases hk
  | cons a l ih =>
    rw [List.nodup_cons] at hn
    by_cases e : a = k
    · subst e
      rw [List.filter_cons_of_neg (by simp), List.filter_eq_self.2, List.length_cons]
      intro x hx
      have : x ≠ a := fun e => hn.1 (e ▸ hx)
      simpa using this
    · rw [List.filter_cons_of_pos (by simpa using e), List.length_cons, List.length_cons, ih hn.2 (by rcases List.mem_cons.1 hk with h | h; exact absurd h.symm e; exact h)]
theorem lack_len {n s k : Nat} (hk : k ∈ lack n s) : (lack n (s + 2 ^ k)).length + 1 = (lack n s).length := by
  rw [lack_plus (mem_lack.1 hk).2]
  exact len_without (lack_nodup n s) hk
/-- how many orders go on behind a set -/
def addN (n : Nat) : Nat → Nat → Nat
  | 0, _ => 1
  | r + 1, s => ((lack n s).map fun k => addN n r (s + 2 ^ k)).sum
/-- what player i adds in all orders that go on behind a set -/
def addS (n : Nat) (c : Nat → Int) (i : Nat) : Nat → Nat → Int
  | 0, _ => 0
  | r + 1, s => ((lack n s).map fun k => addS n c i r (s + 2 ^ k) + if k = i then (addN n r (s + 2 ^ k) : Int) * (c (s + 2 ^ k) - c s) else 0).sum
theorem sum_const {α : Type} (f : α → Nat) (c : Nat) : ∀ l : List α, (∀ x, x ∈ l → f x = c) → (l.map f).sum = l.length * c
  | [], _ => by simp
  | a :: l, h => by
    rw [List.map_cons, List.sum_cons, h a (by simp), sum_const f c l fun x hx => h x (by simp [hx]), List.length_cons, Nat.add_mul, Nat.one_mul]; omega
theorem addN_fac (n : Nat) : ∀ r s, (lack n s).length = r → addN n r s = fac r
  | 0, _, _ => rfl
  | r + 1, s, h => by
    unfold addN fac
    rw [sum_const _ (fac r) _ fun k hk => addN_fac n r _ (by have := lack_len hk; omega), h]
/-- 1 if one of some players has come -/
def hit (n : Nat) (U : Nat → Bool) (s : Nat) : Int := if (List.range n).any fun k => U k && s.testBit k then 1 else 0
def cntU (n : Nat) (U : Nat → Bool) : Nat := ((List.range n).filter U).length
theorem hit_iff {n : Nat} {U : Nat → Bool} {s : Nat} : hit n U s = 1 ↔ ∃ k, k < n ∧ U k = true ∧ s.testBit k = true := by
  unfold hit
  split
  · rename_i h
    rw [List.any_eq_true] at h
    obtain ⟨k, hk, h⟩ := h
    rw [Bool.and_eq_true] at h
    exact ⟨fun _ => ⟨k, List.mem_range.1 hk, h⟩, fun _ => rfl⟩
  · rename_i h
    refine ⟨fun h => absurd h (by omega), fun ⟨k, h1, h2, h3⟩ => absurd ?_ h⟩
    rw [List.any_eq_true]
    exact ⟨k, List.mem_range.2 h1, by rw [h2, h3]; rfl⟩
theorem hit_zero {n : Nat} {U : Nat → Bool} {s : Nat} : hit n U s = 0 ↔ ∀ k, k < n → U k = true → s.testBit k = false := by
  have h1 := hit_iff (n := n) (U := U) (s := s)
  have h2 : hit n U s = 0 ∨ hit n U s = 1 := by unfold hit; split <;> simp
  constructor
  · intro h k hk hu
    cases hb : s.testBit k with
    | false => rfl
    | true => have := h1.2 ⟨k, hk, hu, hb⟩; omega
  · intro h
    rcases h2 with h2 | h2
    · exact h2
    · obtain ⟨k, a, b, c⟩ := h1.1 h2
      rw [h k a b] at c; cases c
theorem hit_up {n : Nat} {U : Nat → Bool} {s k : Nat} (hk : s.testBit k = false) (h : hit n U s = 1) : hit n U (s + 2 ^ k) = 1 := by
  obtain ⟨j, a, b, c⟩ := hit_iff.1 h
  exact hit_iff.2 ⟨j, a, b, by rw [testBit_plus hk, c]; rfl⟩
theorem hit_out {n : Nat} {U : Nat → Bool} {s k : Nat} (hk : s.testBit k = false) (hu : U k = false) : hit n U (s + 2 ^ k) = hit n U s := by
  unfold hit
  congr 2
  have : (fun j => U j && (s + 2 ^ k).testBit j) = fun j => U j && s.testBit j := by
    funext j
    rw [testBit_plus hk]
    by_cases e : j = k
    · subst e; simp [hu]
    · simp [e]
  rw [this]
theorem hit_in {n : Nat} {U : Nat → Bool} {s k : Nat} (hk : s.testBit k = false) (hn : k < n) (hu : U k = true) : hit n U (s + 2 ^ k) = 1 :=
  hit_iff.2 ⟨k, hn, hu, by rw [testBit_plus hk]; simp⟩
theorem sum_zero' {α : Type} (f : α → Int) : ∀ l : List α, (∀ x, x ∈ l → f x = 0) → (l.map f).sum = 0
  | [], _ => rfl
  | a :: l, h => by rw [List.map_cons, List.sum_cons, h a (by simp), sum_zero' f l fun x hx => h x (by simp [hx])]; rfl
theorem addS_hit {n : Nat} {U : Nat → Bool} (i : Nat) : ∀ r s, hit n U s = 1 → addS n (hit n U) i r s = 0
  | 0, _, _ => rfl
  | r + 1, s, h => by
    unfold addS
    refine sum_zero' _ _ fun k hk => ?_
    have hk := (mem_lack.1 hk).2
    have h1 := hit_up hk h
    rw [addS_hit i r _ h1, h1, h]
    split <;> omega
theorem sum_three (U : Nat → Bool) (i : Nat) (hi : U i = true) (u : Int) (F : Int) : ∀ l : List Nat, l.Nodup → (l.map fun k => if U k then (if k = i then u * F else 0) else F).sum = (if i ∈ l then u * F else 0) + ((l.filter fun k => !U k).length : Int) * F
  | [], _ => by simp
  | a :: l, h => by
    rw [List.nodup_cons] at h
    rw [List.map_cons, List.sum_cons, sum_three U i hi u F l h.2]
    cases hu : U a with
    | false =>
      have e : i ≠ a := fun e => by rw [e, hu] at hi; cases hi
      rw [List.filter_cons_of_pos (by simp [hu]), List.length_cons]
      have : (i ∈ a :: l) ↔ i ∈ l := by rw [List.mem_cons]; exact ⟨fun h => h.resolve_left e, .inr⟩
      simp only [this, Bool.false_eq_true, if_false]
      rw [Int.natCast_add, Int.add_mul]; omega
    | true =>
      rw [List.filter_cons_of_neg (by simp [hu])]
      by_cases e : a = i
      · subst e
        simp [h.1]
      · have : (i ∈ a :: l) ↔ i ∈ l := by rw [List.mem_cons]; exact ⟨fun h => h.resolve_left (Ne.symm e), .inr⟩
        simp [this, e]
theorem mul_sum {α : Type} (u : Int) (f : α → Int) : ∀ l : List α, u * (l.map f).sum = (l.map fun x => u * f x).sum
  | [] => by simp
  | a :: l => by rw [List.map_cons, List.sum_cons, Int.mul_add, mul_sum u f l, List.map_cons, List.sum_cons]
theorem filter_split {α : Type} (p : α → Bool) : ∀ l : List α, (l.filter p).length + (l.filter fun x => !p x).length = l.length
  | [] => rfl
  | a :: l => by
    have := filter_split p l
    cases h : p a <;> simp [h] <;> omega
/-! Sums of what counts. -/
def costH (n : Nat) (L : List (Int × (Nat → Bool))) (s : Nat) : Int := (L.map fun p => p.1 * hit n p.2 s).sum
theorem sum_add {α : Type} (f g : α → Int) : ∀ l : List α, (l.map fun x => f x + g x).sum = (l.map f).sum + (l.map g).sum
  | [] => rfl
  | a :: l => by simp only [List.map_cons, List.sum_cons, sum_add f g l]; omega
theorem addS_add (n : Nat) (c d : Nat → Int) (i : Nat) : ∀ r s, addS n (fun s => c s + d s) i r s = addS n c i r s + addS n d i r s
  | 0, _ => rfl
  | r + 1, s => by
    unfold addS
    rw [← sum_add]
    refine congrArg _ (List.map_congr_left fun k _ => ?_)
    rw [addS_add n c d i r]
    split
    · rw [show c (s + 2 ^ k) + d (s + 2 ^ k) - (c s + d s) = (c (s + 2 ^ k) - c s) + (d (s + 2 ^ k) - d s) by omega, Int.mul_add]; omega
    · omega
theorem addS_mul (n : Nat) (c : Nat → Int) (w : Int) (i : Nat) : ∀ r s, addS n (fun s => w * c s) i r s = w * addS n c i r s
  | 0, _ => by simp [addS]
  | r + 1, s => by
    unfold addS
    rw [mul_sum]
    refine congrArg _ (List.map_congr_left fun k _ => ?_)
    rw [addS_mul n c w i r]
    split
    · rw [Int.mul_add, ← Int.mul_sub]; congr 1; rw [← Int.mul_assoc, ← Int.mul_assoc, Int.mul_comm w]
    · simp
theorem addS_zero (n : Nat) (i : Nat) : ∀ r s, addS n (fun _ => 0) i r s = 0
  | 0, _ => rfl
  | r + 1, s => by
    unfold addS
    refine sum_zero' _ _ fun k _ => ?_
    rw [addS_zero n i r]; simp
/-- equal parts of what is counted -/
def shareH (n : Nat) (L : List (Int × (Nat → Bool))) (i : Nat) : Int := (L.map fun p => if p.2 i then 60 * p.1 / (cntU n p.2 : Int) else 0).sum
theorem sixty {u : Int} (h0 : 0 < u) (h6 : u ≤ 6) (w : Int) : 60 * w / u * u = 60 * w := by
  obtain rfl | rfl | rfl | rfl | rfl | rfl : u = 1 ∨ u = 2 ∨ u = 3 ∨ u = 4 ∨ u = 5 ∨ u = 6 := by omega
  all_goals omega
end Go.Proofs.Pow

namespace Go.Proofs.Pow

theorem sum_le {α : Type} (f g : α → Int) : ∀ l : List α, (∀ x, x ∈ l → f x ≤ g x) → (l.map f).sum ≤ (l.map g).sum
  | [], _ => Int.le_refl _
  | a :: l, h => by
    have h1 := h a (by simp)
    have h2 := sum_le f g l fun x hx => h x (by simp [hx])
    simp only [List.map_cons, List.sum_cons]
    omega
theorem sum_eq {α : Type} (f g : α → Int) (l : List α) (h : ∀ x, x ∈ l → f x = g x) : (l.map f).sum = (l.map g).sum := by
  rw [List.map_congr_left h]
/-- does someone of p use it -/
def hitQ (n : Nat) (U p : Nat → Bool) : Bool := (List.range n).any fun k => U k && p k
theorem hitQ_iff {n : Nat} {U p : Nat → Bool} : hitQ n U p = true ↔ ∃ k, k < n ∧ U k = true ∧ p k = true := by
  unfold hitQ
  rw [List.any_eq_true]
  simp only [List.mem_range, Bool.and_eq_true]
/-- what the group p costs -/
def costQ (n : Nat) (L : List (Int × (Nat → Bool))) (p : Nat → Bool) : Int := (L.map fun x => if hitQ n x.2 p then x.1 else 0).sum
end Go.Proofs.Pow

namespace Go.Proofs.Pow

structure Sh where
  up : Int
  price : Int
deriving Inhabited, DecidableEq
structure Wv where
  shaft : Int
  hours : List Int
deriving Inhabited, DecidableEq
structure PM where
  shafts : List Sh
  wvs : List Wv
def PM.sh (m : PM) (s : Nat) : Sh := m.shafts[s]?.getD default
def PM.wv (m : PM) (k : Nat) : Wv := m.wvs[k]?.getD default
/-- the line of a shaft: it and those above it -/
def lineF (m : PM) : Nat → Int → List Int
  | 0, _ => []
  | f + 1, s => if s < 0 then [] else s :: lineF m f (m.sh s.toNat).up
def PM.line (m : PM) (s : Int) : List Int := lineF m m.shafts.length s
def PM.drv (m : PM) (s k : Nat) : Bool := (m.line (m.wv k).shaft).contains (s : Int)
/-- each shaft is driven by one before it -/
def UpOk (m : PM) : Prop := ∀ s, s < m.shafts.length → -1 ≤ (m.sh s).up ∧ (m.sh s).up < s
theorem lineF_more (m : PM) (h : UpOk m) : ∀ (f g : Nat) (s : Int), s < (m.shafts.length : Int) → s < (f : Int) → f ≤ g → lineF m g s = lineF m f s
  | 0, 0, _, _, _, _ => rfl
  | 0, g + 1, s, _, h1, _ => by
    unfold lineF; rw [if_pos (by omega)]
  | f + 1, 0, _, _, _, h2 => by omega
  | f + 1, g + 1, s, hs, h1, h2 => by
    unfold lineF
    by_cases h0 : s < 0
    · rw [if_pos h0, if_pos h0]
    · rw [if_neg h0, if_neg h0]
      have := h s.toNat (by omega)
      rw [lineF_more m h f g _ (by omega) (by omega) (by omega)]
theorem line_neg (m : PM) {s : Int} (h : s < 0) : m.line s = [] := by
  unfold PM.line
  cases m.shafts.length with
  | zero => rfl
  | succ n => unfold lineF; rw [if_pos h]
theorem line_cons (m : PM) (h : UpOk m) {s : Nat} (hs : s < m.shafts.length) : m.line s = (s : Int) :: m.line (m.sh s).up := by
  unfold PM.line
  obtain ⟨n, hn⟩ : ∃ n, m.shafts.length = n + 1 := ⟨m.shafts.length - 1, by omega⟩
  rw [hn]
  conv => lhs; unfold lineF
  rw [if_neg (by omega)]
  have := h s hs
  show _ :: lineF m n (m.sh s).up = _
  rw [lineF_more m h n (n + 1) _ (by omega) (by omega) (by omega)]
/-- the elements of a line: from it downward, each once -/
theorem line_mem (m : PM) (h : UpOk m) : ∀ s : Nat, s < m.shafts.length → ∀ x, x ∈ m.line s → 0 ≤ x ∧ x ≤ s := by
  intro s
  induction s using Nat.strongRecOn with
  | _ s ih =>
    intro hs x hx
    rw [line_cons m h hs] at hx
    rcases List.mem_cons.1 hx with rfl | hx
    · omega
    · have hu := h s hs
      rcases Int.lt_or_le (m.sh s).up 0 with h0 | h0
      · rw [line_neg m h0] at hx; cases hx
      · obtain ⟨u, hu'⟩ : ∃ u : Nat, (m.sh s).up = u := ⟨_, (Int.toNat_of_nonneg h0).symm⟩
        rw [hu'] at hx hu
        have := ih u (by omega) (by omega) x hx
        omega
/-! Shafts that are not cleared on lines; those that meet all lines, and lines that have none in common. -/
def opn (m : PM) (cl : Int → Bool) (k : Nat) : List Int := (m.line (m.wv k).shaft).filter fun s => !cl s
/-- each weaver is at a shaft -/
def AtOk (m : PM) : Prop := ∀ k, k < m.wvs.length → 0 ≤ (m.wv k).shaft ∧ (m.wv k).shaft < m.shafts.length
def topF (m : PM) (cl : Int → Bool) (k : Nat) : Int := ((opn m cl k).getLast?).getD 0
section
variable {m : PM} (hu : UpOk m) (ha : AtOk m) {cl : Int → Bool}
include hu ha
end
theorem nodup_le {α : Type} [DecidableEq α] : ∀ {l r : List α}, l.Nodup → (∀ x, x ∈ l → x ∈ r) → l.length ≤ r.length
  | [], r, _, _ => Nat.zero_le _
  | a :: l, r, h, hs => by
    rw [List.nodup_cons] at h
    have hm := hs a (by simp)
    have := nodup_le (l := l) (r := r.erase a) h.2 fun x hx => (List.mem_erase_of_ne (fun e => h.1 (by rw [← e]; exact hx))).2 (hs x (by simp [hx]))
    rw [List.length_erase_of_mem hm] at this
    have := List.length_pos_of_mem hm
    rw [List.length_cons]; omega
end Go.Proofs.Pow

namespace Go.Proofs.Pow

/-- weaver k uses power of shaft s in the hour h -/
def usesB (m : PM) (s h k : Nat) : Bool := m.drv s k && (m.wv k).hours.contains (h : Int)
def spotL (S : Nat) : List (Nat × Nat) := (List.range S).flatMap fun s => (List.range 24).map fun h => (s, h)
def spots (m : PM) : List (Int × (Nat → Bool)) := (spotL m.shafts.length).map fun x => ((m.sh x.1).price, usesB m x.1 x.2)
theorem mem_spotL {S s h : Nat} : (s, h) ∈ spotL S ↔ s < S ∧ h < 24 := by
  unfold spotL
  rw [List.mem_flatMap]
  constructor
  · rintro ⟨s', h1, h2⟩
    obtain ⟨h', h3, e⟩ := List.mem_map.1 h2
    cases e
    exact ⟨List.mem_range.1 h1, List.mem_range.1 h3⟩
  · rintro ⟨h1, h2⟩
    exact ⟨s, List.mem_range.2 h1, List.mem_map.2 ⟨h, List.mem_range.2 h2, rfl⟩⟩
theorem spotL_succ (S : Nat) : spotL (S + 1) = spotL S ++ (List.range 24).map fun h => (S, h) := by
  unfold spotL; rw [show List.range (S + 1) = List.range S ++ [S] from List.range_succ, List.flatMap_append]; simp
theorem spotL_nodup : ∀ S, (spotL S).Nodup
  | 0 => by simp [spotL]
  | S + 1 => by
    rw [spotL_succ, List.nodup_append]
    refine ⟨spotL_nodup S, ?_, ?_⟩
    · rw [List.nodup_iff_pairwise_ne, List.pairwise_map]
      exact (List.nodup_iff_pairwise_ne.1 List.nodup_range).imp fun h e => h (by cases e; rfl)
    · intro a ha b hb e
      subst e
      obtain ⟨s, h⟩ := a
      obtain ⟨h', _, e⟩ := List.mem_map.1 hb
      cases e
      have := (mem_spotL.1 ha).1
      omega
theorem sum_upd {α : Type} [DecidableEq α] (f g : α → Int) {a : α} (h0 : f a = 0) : ∀ {l : List α}, l.Nodup → a ∈ l → (∀ x, x ∈ l → x ≠ a → g x = f x) → (l.map g).sum = (l.map f).sum + g a
  | b :: l, hn, ha, h => by
    obtain ⟨hb, hn⟩ := List.nodup_cons.1 hn
    simp only [List.map_cons, List.sum_cons]
    by_cases e : b = a
    · subst e
      rw [h0, sum_eq g f l fun x hx => h x (by simp [hx]) fun e => hb (e ▸ hx)]
      omega
    · rw [sum_upd f g h0 hn ((List.mem_cons.1 ha).resolve_left fun h => e h.symm) fun x hx hne => h x (by simp [hx]) hne, h b (by simp) e]
      omega
/-- the prices of what is marked -/
def sumM (m : PM) (mk : Nat → Nat → Bool) : Int := ((spotL m.shafts.length).map fun x => if mk x.1 x.2 then (m.sh x.1).price else 0).sum
theorem sumM_none (m : PM) : sumM m (fun _ _ => false) = 0 := by
  unfold sumM
  exact sum_zero' _ _ fun x _ => by simp
theorem sumM_mark {m : PM} {mk mk' : Nat → Nat → Bool} {s h : Nat} (hs : s < m.shafts.length) (hh : h < 24) (h0 : mk s h = false) (h1 : ∀ s' h', mk' s' h' = (mk s' h' || (decide (s' = s) && decide (h' = h)))) : sumM m mk' = sumM m mk + (m.sh s).price := by
  unfold sumM
  rw [sum_upd (fun x : Nat × Nat => if mk x.1 x.2 then (m.sh x.1).price else 0) (fun x => if mk' x.1 x.2 then (m.sh x.1).price else 0) (a := (s, h)) (by simp [h0]) (spotL_nodup _) (mem_spotL.2 ⟨hs, hh⟩) ?_]
  · simp [h1]
  · rintro ⟨s', h'⟩ _ hne
    have : (decide (s' = s) && decide (h' = h)) = false := by
      rw [Bool.and_eq_false_iff, decide_eq_false_iff_not, decide_eq_false_iff_not]
      by_cases e : s' = s
      · exact .inr fun e' => hne (by rw [e, e'])
      · exact .inl e
    rw [h1, this]; simp
theorem sumM_congr {m : PM} {mk mk' : Nat → Nat → Bool} (h : ∀ s h, s < m.shafts.length → h < 24 → mk s h = mk' s h) : sumM m mk = sumM m mk' := by
  unfold sumM
  refine sum_eq _ _ _ ?_
  rintro ⟨s, t⟩ hx
  obtain ⟨h1, h2⟩ := mem_spotL.1 hx
  rw [h s t h1 h2]
/-- what a group costs: those of p -/
def costF (m : PM) (p : Nat → Bool) : Int := costQ m.wvs.length (spots m) p
theorem costF_sumM (m : PM) (p : Nat → Bool) : costF m p = sumM m fun s h => hitQ m.wvs.length (usesB m s h) p := by
  unfold costF costQ spots sumM
  rw [List.map_map]
  rfl
def shareP (m : PM) (k : Nat) : Int := shareH m.wvs.length (spots m) k
structure POk (m : PM) : Prop where
  sz : 1 ≤ m.shafts.length ∧ m.shafts.length ≤ 9
  few : m.wvs.length ≤ 6
  price : ∀ s, s < m.shafts.length → 0 ≤ (m.sh s).price ∧ (m.sh s).price ≤ 60
  hour : ∀ k, k < m.wvs.length → ∀ h, h ∈ (m.wv k).hours → 0 ≤ h ∧ h ≤ 23
  up : UpOk m
  at_ : AtOk m
  rise : ∀ k, k < m.wvs.length → (m.wv k).hours.Pairwise (· < ·)
end Go.Proofs.Pow

namespace Go.Proofs.Pow

/-! Lists of numbers below n in increasing order, by their lengths, then in lexicographic order: the first one of a kind. -/
def cmb (n : Nat) : Nat → Nat → List (List Nat)
  | 0, _ => [[]]
  | r + 1, a => (List.range' a (n - a)).flatMap fun k => (cmb n r (k + 1)).map (k :: ·)
/-- a comes before b -/
def ahead : List Nat → List Nat → Bool
  | [], [] => false
  | [], _ :: _ => true
  | _ :: _, [] => false
  | a :: xs, b :: ys => if a = b then ahead xs ys else decide (a < b)
def before (a b : List Nat) : Bool := if a.length = b.length then ahead a b else decide (a.length < b.length)
theorem ahead_irr : ∀ a : List Nat, ahead a a = false
  | [] => rfl
  | x :: a => by unfold ahead; rw [if_pos rfl, ahead_irr a]
theorem ahead_anti : ∀ a b : List Nat, ahead a b = true → ahead b a = false
  | [], [], h => by simp [ahead] at h
  | [], _ :: _, _ => rfl
  | _ :: _, [], h => by simp [ahead] at h
  | a :: xs, b :: ys, h => by
    unfold ahead at h ⊢
    by_cases e : a = b
    · subst e
      simp only [if_true] at h ⊢
      exact ahead_anti xs ys h
    · rw [if_neg e, decide_eq_true_eq] at h
      rw [if_neg (fun h => e h.symm), decide_eq_false_iff_not]
      omega
theorem before_irr (a : List Nat) : before a a = false := by unfold before; rw [if_pos rfl]; exact ahead_irr a
theorem before_anti (a b : List Nat) (h : before a b = true) : before b a = false := by
  unfold before at h ⊢
  by_cases e : a.length = b.length
  · rw [if_pos e] at h; rw [if_pos e.symm]; exact ahead_anti a b h
  · rw [if_neg e, decide_eq_true_eq] at h
    rw [if_neg (fun h => e h.symm), decide_eq_false_iff_not]; omega
/-- increasing, from a on, below n -/
def Up (n a : Nat) (l : List Nat) : Prop := l.Pairwise (· < ·) ∧ ∀ x, x ∈ l → a ≤ x ∧ x < n
theorem mem_cmb (n : Nat) : ∀ r a l, l ∈ cmb n r a ↔ l.length = r ∧ Up n a l
  | 0, a, l => by
    unfold cmb
    rw [List.mem_singleton, List.length_eq_zero_iff]
    exact ⟨fun h => ⟨h, by subst h; exact ⟨List.Pairwise.nil, by simp⟩⟩, (·.1)⟩
  | r + 1, a, l => by
    unfold cmb
    rw [List.mem_flatMap]
    constructor
    · rintro ⟨k, hk, hl⟩
      rw [List.mem_range'_1] at hk
      obtain ⟨t, ht, rfl⟩ := List.mem_map.1 hl
      obtain ⟨h1, h2, h3⟩ := (mem_cmb n r (k + 1) t).1 ht
      refine ⟨by rw [List.length_cons, h1], List.pairwise_cons.2 ⟨fun x hx => by have := h3 x hx; omega, h2⟩, fun x hx => ?_⟩
      rcases List.mem_cons.1 hx with rfl | hx
      · omega
      · have := h3 x hx; omega
    · rintro ⟨h1, h2, h3⟩
      match l, h1 with
      | k :: t, h1 =>
        rw [List.pairwise_cons] at h2
        have hk := h3 k (by simp)
        refine ⟨k, by rw [List.mem_range'_1]; omega, List.mem_map.2 ⟨t, (mem_cmb n r (k + 1) t).2 ⟨by simpa using h1, h2.2, fun x hx => ?_⟩, rfl⟩⟩
        have := h2.1 x hx; have := h3 x (by simp [hx]); omega
theorem cmb_order (n : Nat) : ∀ r a, (cmb n r a).Pairwise fun x y => ahead x y = true
  | 0, _ => List.pairwise_singleton _ _
  | r + 1, a => by
    unfold cmb
    rw [List.pairwise_flatMap]
    refine ⟨fun k _ => ?_, ?_⟩
    · rw [List.pairwise_map]
      refine (cmb_order n r (k + 1)).imp fun {x y} h => ?_
      unfold ahead; rw [if_pos rfl]; exact h
    · refine (List.pairwise_lt_range' (step := 1)).imp fun {i j} hij => ?_
      intro x hx y hy
      obtain ⟨x', _, rfl⟩ := List.mem_map.1 hx
      obtain ⟨y', _, rfl⟩ := List.mem_map.1 hy
      unfold ahead
      rw [if_neg (by omega)]; exact decide_eq_true hij
/-- all of them in their order -/
def allF (n : Nat) : List (List Nat) := (List.range (n + 1)).flatMap fun r => cmb n r 0
theorem up_len {n : Nat} : ∀ {a : Nat} {l : List Nat}, Up n a l → l.length ≤ n - a
  | a, [], _ => Nat.zero_le _
  | a, k :: t, ⟨h1, h2⟩ => by
    rw [List.pairwise_cons] at h1
    have hk := h2 k (by simp)
    have := up_len (n := n) (a := k + 1) (l := t) ⟨h1.2, fun x hx => by have := h1.1 x hx; have := h2 x (by simp [hx]); omega⟩
    rw [List.length_cons]; omega
theorem mem_allF (n : Nat) (l : List Nat) : l ∈ allF n ↔ Up n 0 l := by
  unfold allF
  rw [List.mem_flatMap]
  constructor
  · rintro ⟨r, _, h⟩; exact ((mem_cmb n r 0 l).1 h).2
  · intro h
    have := up_len h
    exact ⟨l.length, List.mem_range.2 (by omega), (mem_cmb n _ 0 l).2 ⟨rfl, h⟩⟩
theorem allF_order (n : Nat) : (allF n).Pairwise fun x y => before x y = true := by
  unfold allF
  rw [List.pairwise_flatMap]
  refine ⟨fun r _ => (cmb_order n r 0).imp_of_mem fun {x y} hx hy h => ?_, List.pairwise_lt_range.imp fun {i j} hij x hx y hy => ?_⟩
  · have h1 := ((mem_cmb n r 0 x).1 hx).1; have h2 := ((mem_cmb n r 0 y).1 hy).1
    unfold before; rw [if_pos (by omega)]; exact h
  · have h1 := ((mem_cmb n i 0 x).1 hx).1; have h2 := ((mem_cmb n j 0 y).1 hy).1
    unfold before; rw [if_neg (by omega)]; exact decide_eq_true (by omega)
def firstF (n : Nat) (p : List Nat → Bool) : Option (List Nat) := (allF n).find? p
/-- what the first one is -/
theorem firstF_some {n : Nat} {p : List Nat → Bool} {l : List Nat} : firstF n p = some l ↔ p l = true ∧ Up n 0 l ∧ ∀ x, Up n 0 x → p x = true → before x l = false := by
  unfold firstF
  constructor
  · intro h
    have h1 := List.find?_some h
    have hm := List.mem_of_find?_eq_some h
    refine ⟨h1, (mem_allF n l).1 hm, fun x hx hp => ?_⟩
    obtain ⟨_, pre, post, e, hno⟩ := List.find?_eq_some_iff_append.1 h
    have hx' := (mem_allF n x).2 hx
    have ho := allF_order n
    rw [e] at hx' ho
    rw [List.pairwise_append] at ho
    rcases List.mem_append.1 hx' with hx' | hx'
    · have := hno x hx'
      rw [hp] at this; cases this
    · rcases List.mem_cons.1 hx' with rfl | hx'
      · exact before_irr _
      · exact before_anti _ _ ((List.pairwise_cons.1 ho.2.1).1 x hx')
  · rintro ⟨h1, h2, h3⟩
    cases h : (allF n).find? p with
    | none =>
      have := List.find?_eq_none.1 h l ((mem_allF n l).2 h2)
      exact absurd h1 this
    | some b =>
      have hb := List.find?_some h
      have hm := (mem_allF n b).1 (List.mem_of_find?_eq_some h)
      obtain ⟨_, pre, post, e, hno⟩ := List.find?_eq_some_iff_append.1 h
      have hl := (mem_allF n l).2 h2
      have ho := allF_order n
      rw [e] at hl ho
      rw [List.pairwise_append] at ho
      rcases List.mem_append.1 hl with hl | hl
      · have := hno l hl
        rw [h1] at this; cases this
      · rcases List.mem_cons.1 hl with rfl | hl
        · rfl
        · have g1 := (List.pairwise_cons.1 ho.2.1).1 l hl
          rw [h3 b hm hb] at g1; cases g1
theorem firstF_none {n : Nat} {p : List Nat → Bool} : firstF n p = none ↔ ∀ x, Up n 0 x → p x = false := by
  unfold firstF
  rw [List.find?_eq_none]
  exact ⟨fun h x hx => by simpa using h x ((mem_allF n x).2 hx), fun h x hx => by rw [h x ((mem_allF n x).1 hx)]; simp⟩
end Go.Proofs.Pow

namespace Go.Proofs.Pow

section
variable (m : PM) (s : Nat → Int)
/-- a shaft is cleared -/
def clrB (i : Nat) : Bool := (List.range m.wvs.length).any fun k => decide (s k = 1) && m.drv i k
def clI (x : Int) : Bool := clrB m s x.toNat
def opnS (k : Nat) : List Int := opn m (clI m s) k
def hitL (l : List Nat) (k : Nat) : Bool := l.any fun i => m.drv i k
def explB (l : List Nat) : Bool := (List.range m.wvs.length).all fun k => !(decide (s k = 1) && hitL m l k) && !(decide (s k = 2) && !hitL m l k)
def clashB : Bool := (List.range m.wvs.length).any fun k => decide (s k = 2) && (opnS m s k).isEmpty
/-- those that surely slipped, as they are found -/
def sureL : List Int := ((List.range m.wvs.length).filter fun k => decide (s k = 2) && decide ((opnS m s k).length = 1)).map fun k => (opnS m s k)[0]?.getD 0
def proofB (l : List Nat) : Bool := (l.all fun k => decide (s k = 2)) && decide ((l.flatMap (opnS m s)).Nodup)
end
section
variable {m : PM} {s : Nat → Int}
/-- all shafts that are not cleared, but those of out -/
def restL (m : PM) (s : Nat → Int) (out : Nat → Bool) : List Nat := (List.range m.shafts.length).filter fun i => !clrB m s i && !out i
/-- the proof that is found: of each number of weavers the first one, the last that there is -/
def proveF (n : Nat) (p : List Nat → Bool) : List Nat := (List.range (n + 1)).foldl (fun b c => (firstF n fun l => decide (l.length = c) && p l).getD b) []
end
end Go.Proofs.Pow

namespace Go.Proofs.Pow

/-! One hour more. -/
/-- m' is m, in which weaver k0 uses power in the hour h0, too -/
structure Used (m m' : PM) (k0 : Nat) (h0 : Nat) : Prop where
  shafts : m'.shafts = m.shafts
  len : m'.wvs.length = m.wvs.length
  lt : k0 < m.wvs.length
  other : ∀ j, j ≠ k0 → m'.wv j = m.wv j
  shaft : (m'.wv k0).shaft = (m.wv k0).shaft
  hours : ∀ h : Int, (m'.wv k0).hours.contains h = ((m.wv k0).hours.contains h || decide (h = (h0 : Int)))
theorem line_shafts {m m' : PM} (h : m'.shafts = m.shafts) (s : Int) : m'.line s = m.line s := by
  have : ∀ f s, lineF m' f s = lineF m f s := by
    intro f
    induction f with
    | zero => intro s; rfl
    | succ f ih =>
      intro s
      unfold lineF
      rw [ih]
      unfold PM.sh
      rw [h]
  unfold PM.line
  rw [h, this]
/-- a shaft runs in an hour -/
def runsB (m : PM) (s h : Nat) : Bool := hitQ m.wvs.length (usesB m s h) fun _ => true
/-! What weavers add in an order of coming. -/
def befB (l : List Nat) (i : Nat) (k : Nat) : Bool := (l.take i).contains k
/-- what the one at place i adds -/
def addF (m : PM) (l : List Nat) (i : Nat) : Int := costF m (befB l (i + 1)) - costF m (befB l i)
end Go.Proofs.Pow

namespace Go.Proofs.Pow

/-- all orders of the numbers below n, by insertion -/
def permsF : Nat → List (List Nat)
  | 0 => [[]]
  | k + 1 => (permsF k).flatMap fun l => (List.range (l.length + 1)).map fun a => l.take a ++ k :: l.drop a
theorem perm_ins {l : List Nat} {k a : Nat} : (l.take a ++ k :: l.drop a).Perm (k :: l) := by
  refine List.perm_middle.trans ?_
  rw [List.take_append_drop]
theorem permsF_perm : ∀ n l, l ∈ permsF n → l.Perm (List.range n)
  | 0, l, h => by
    unfold permsF at h
    rw [List.mem_singleton] at h
    subst h; exact List.Perm.refl _
  | k + 1, l, h => by
    unfold permsF at h
    obtain ⟨r, h1, h2⟩ := List.mem_flatMap.1 h
    obtain ⟨a, _, rfl⟩ := List.mem_map.1 h2
    refine perm_ins.trans ?_
    rw [List.range_succ]
    exact ((permsF_perm k r h1).cons k).trans (List.perm_append_singleton k _).symm
theorem ins_inj {l : List Nat} {k a b : Nat} (hk : k ∉ l) (ha : a ≤ l.length) (hb : b ≤ l.length) (h : l.take a ++ k :: l.drop a = l.take b ++ k :: l.drop b) : a = b := by
  have key : ∀ a b, a ≤ l.length → b ≤ l.length → l.take a ++ k :: l.drop a = l.take b ++ k :: l.drop b → ¬ a < b := fun a b ha hb h hlt => by
    have e : (l.take a ++ k :: l.drop a)[a]? = (l.take b ++ k :: l.drop b)[a]? := by rw [h]
    have l1 : (l.take a).length = a := by rw [List.length_take]; omega
    have l2 : (l.take b).length = b := by rw [List.length_take]; omega
    rw [List.getElem?_append_right (by omega), l1, Nat.sub_self, List.getElem?_cons_zero, List.getElem?_append_left (by omega), List.getElem?_take, if_pos hlt] at e
    exact hk (List.mem_of_getElem? e.symm)
  have h1 := key a b ha hb h
  have h2 := key b a hb ha h.symm
  omega
theorem ins_back {l : List Nat} {k a : Nat} (hk : k ∉ l) : (l.take a ++ k :: l.drop a).filter (fun x => decide (x ≠ k)) = l := by
  rw [List.filter_append, List.filter_cons_of_neg (by simp), ← List.filter_append, List.take_append_drop, List.filter_eq_self]
  intro x hx
  rw [decide_eq_true_eq]
  exact fun e => hk (e ▸ hx)
/-- all orders that go on behind a set -/
def ordsR (n : Nat) : Nat → Nat → List (List Nat)
  | 0, _ => [[]]
  | r + 1, s => (lack n s).flatMap fun k => (ordsR n r (s + 2 ^ k)).map (k :: ·)
theorem ordsR_len (n : Nat) : ∀ r s, (ordsR n r s).length = addN n r s
  | 0, _ => rfl
  | r + 1, s => by
    unfold ordsR addN
    rw [List.length_flatMap]
    congr 1
    refine List.map_congr_left fun k _ => ?_
    rw [List.length_map, ordsR_len n r]
/-- what i adds in an order, behind a set -/
def addIn (c : Nat → Int) (i : Nat) : Nat → List Nat → Int
  | _, [] => 0
  | s, x :: r => (if x = i then c (s + 2 ^ x) - c s else 0) + addIn c i (s + 2 ^ x) r
theorem sum_flatMap {α β : Type} (f : β → Int) (g : α → List β) : ∀ l : List α, ((l.flatMap g).map f).sum = (l.map fun a => ((g a).map f).sum).sum
  | [] => rfl
  | a :: l => by rw [List.flatMap_cons, List.map_append, List.sum_append, sum_flatMap f g l]; rfl
theorem sum_same {α : Type} (c : Int) : ∀ l : List α, (l.map fun _ => c).sum = (l.length : Int) * c
  | [] => by simp
  | a :: l => by rw [List.map_cons, List.sum_cons, sum_same c l, List.length_cons, Int.natCast_add, Int.add_mul]; simp [Int.add_comm]
/-- the set of those that have come -/
def maskL (s : Nat) (l : List Nat) : Nat := l.foldl (fun s x => s + 2 ^ x) s
theorem addIn_out (c : Nat → Int) {i : Nat} : ∀ (l : List Nat) (s : Nat), i ∉ l → addIn c i s l = 0
  | [], _, _ => rfl
  | x :: l, s, h => by
    rw [List.mem_cons, not_or] at h
    unfold addIn
    rw [if_neg (fun e => h.1 e.symm), addIn_out c l _ h.2]; rfl
end Go.Proofs.Pow

namespace Go.Proofs.Pow

theorem sorted_ext : ∀ {l r : List Nat}, l.Pairwise (· < ·) → r.Pairwise (· < ·) → (∀ x, x ∈ l ↔ x ∈ r) → l = r
  | [], [], _, _, _ => rfl
  | [], b :: r, _, _, h => absurd ((h b).2 (by simp)) (by simp)
  | a :: l, [], _, _, h => absurd ((h a).1 (by simp)) (by simp)
  | a :: l, b :: r, h1, h2, h => by
    obtain ⟨g1, g2⟩ := List.pairwise_cons.1 h1
    obtain ⟨k1, k2⟩ := List.pairwise_cons.1 h2
    have hab : a = b := by
      have e1 := (h a).1 (by simp)
      have e2 := (h b).2 (by simp)
      rcases List.mem_cons.1 e1 with e1 | e1
      · exact e1
      · rcases List.mem_cons.1 e2 with e2 | e2
        · exact e2.symm
        · have := k1 a e1; have := g1 b e2; omega
    subst hab
    rw [sorted_ext g2 k2 fun x => ?_]
    constructor
    · intro hx
      have := (h x).1 (by simp [hx])
      rcases List.mem_cons.1 this with e | e
      · have := g1 x hx; omega
      · exact e
    · intro hx
      have := (h x).2 (by simp [hx])
      rcases List.mem_cons.1 this with e | e
      · have := k1 x hx; omega
      · exact e
/-- the numbers that the bits of a number say -/
def bitsL (n s : Nat) : List Nat := (List.range n).filter fun k => s.testBit k
theorem mem_bitsL {n s k : Nat} : k ∈ bitsL n s ↔ k < n ∧ s.testBit k = true := by
  unfold bitsL; rw [List.mem_filter, List.mem_range]
theorem bitsL_up (n s : Nat) : Up n 0 (bitsL n s) := ⟨List.pairwise_lt_range.filter _, fun _x hx => ⟨Nat.zero_le _, (mem_bitsL.1 hx).1⟩⟩
/-- the first one, found by trying all sets below s -/
def pickF (n : Nat) (p : List Nat → Bool) : Nat → Option (List Nat)
  | 0 => none
  | s + 1 => if p (bitsL n s) && (match pickF n p s with | none => true | some x => before (bitsL n s) x) then some (bitsL n s) else pickF n p s
theorem pickF_none {n : Nat} {p : List Nat → Bool} : ∀ {s : Nat}, pickF n p s = none ↔ ∀ t, t < s → p (bitsL n t) = false
  | 0 => by simp [pickF]
  | s + 1 => by
    unfold pickF
    constructor
    · intro h
      cases hp : pickF n p s with
      | none =>
        rw [hp] at h
        have h1 := pickF_none.1 hp
        intro t ht
        rcases Nat.lt_or_eq_of_le (Nat.le_of_lt_succ ht) with e | e
        · exact h1 t e
        · subst e
          cases hq : p (bitsL n t) with
          | false => rfl
          | true => rw [hq] at h; simp at h
      | some x =>
        rw [hp] at h
        cases hq : p (bitsL n s) && before (bitsL n s) x with
        | true => simp only [hq, if_pos] at h; cases h
        | false => simp only [hq, Bool.false_eq_true, if_false] at h; cases h
    · intro h
      have h1 : pickF n p s = none := pickF_none.2 fun t ht => h t (by omega)
      rw [h1, h s (by omega)]; rfl
theorem ahead_trans : ∀ {a b c : List Nat}, ahead a b = true → ahead b c = true → ahead a c = true
  | [], b, [], _, h2 => by cases b <;> simp [ahead] at h2
  | [], _, _ :: _, _, _ => rfl
  | a :: x, [], _, h1, _ => by simp [ahead] at h1
  | a :: x, b :: y, [], _, h2 => by simp [ahead] at h2
  | a :: x, b :: y, c :: z, h1, h2 => by
    unfold ahead at h1 h2 ⊢
    by_cases e1 : a = b
    · subst e1
      rw [if_pos rfl] at h1
      by_cases e2 : a = c
      · subst e2
        rw [if_pos rfl] at h2 ⊢
        exact ahead_trans h1 h2
      · rw [if_neg e2] at h2 ⊢; exact h2
    · rw [if_neg e1, decide_eq_true_eq] at h1
      by_cases e2 : b = c
      · subst e2
        rw [if_neg e1]; exact decide_eq_true h1
      · rw [if_neg e2, decide_eq_true_eq] at h2
        rw [if_neg (by omega)]
        exact decide_eq_true (by omega)
theorem before_tr {a b c : List Nat} (h1 : before a b = true) (h2 : before b c = true) : before a c = true := by
  unfold before at h1 h2 ⊢
  by_cases e1 : a.length = b.length
  · rw [if_pos e1] at h1
    by_cases e2 : b.length = c.length
    · rw [if_pos e2] at h2
      rw [if_pos (by omega)]
      exact ahead_trans h1 h2
    · rw [if_neg e2, decide_eq_true_eq] at h2
      rw [if_neg (by omega)]
      exact decide_eq_true (by omega)
  · rw [if_neg e1, decide_eq_true_eq] at h1
    by_cases e2 : b.length = c.length
    · rw [if_neg (by omega)]
      exact decide_eq_true (by omega)
    · rw [if_neg e2, decide_eq_true_eq] at h2
      rw [if_neg (by omega)]
      exact decide_eq_true (by omega)
/-- what is in all lists of a kind, found by trying all sets below s; none if there are none -/
def bothF (n : Nat) (p : List Nat → Bool) : Nat → Option (List Nat)
  | 0 => none
  | s + 1 => if p (bitsL n s) then some (match bothF n p s with | none => (bitsL n s).filter fun x => (bitsL n s).contains x | some b => b.filter fun x => (bitsL n s).contains x) else bothF n p s
theorem bothF_none {n : Nat} {p : List Nat → Bool} : ∀ {s : Nat}, bothF n p s = none ↔ ∀ t, t < s → p (bitsL n t) = false
  | 0 => by simp [bothF]
  | s + 1 => by
    unfold bothF
    constructor
    · intro h t ht
      cases hq : p (bitsL n s) with
      | true => rw [hq] at h; simp at h
      | false =>
        rw [hq] at h
        simp only [Bool.false_eq_true, if_false] at h
        rcases Nat.lt_or_eq_of_le (Nat.le_of_lt_succ ht) with e | e
        · exact bothF_none.1 h t e
        · subst e; exact hq
    · intro h
      rw [h s (by omega)]
      simp only [Bool.false_eq_true, if_false]
      exact bothF_none.2 fun t ht => h t (by omega)
end Go.Proofs.Pow

namespace Go.Proofs.Pow

def skip (k j : Nat) : Nat := if j < k then j else j + 1
/-- p has some of m's weavers: its j is m's f j -/
structure Some (p m : PM) (f : Nat → Nat) : Prop where
  shafts : p.shafts = m.shafts
  lt : ∀ j, j < p.wvs.length → f j < m.wvs.length
  same : ∀ j, j < p.wvs.length → p.wv j = m.wv (f j)
  inj : ∀ a b, a < p.wvs.length → b < p.wvs.length → f a = f b → a = b
def PM.drop (m : PM) (k : Nat) : PM := { m with wvs := m.wvs.eraseIdx k }
def PM.only (m : PM) (k : Nat) : PM := { m with wvs := [m.wv k] }
end Go.Proofs.Pow

namespace Go.Proofs.Pet
open Go Go.RowKit
open Go.Proofs.Pow (PM Sh Wv)

/-- a shaft's two cells -/
def ShCells (w : World) (b o : Nat) (x : Sh) : Prop := w.cell? ⟨b, o, none⟩ = some (.int .i64 x.up) ∧ w.cell? ⟨b, o + 1, none⟩ = some (.int .i64 x.price)
def ShsAt (w : World) (A : Option Addr) (xs : List Sh) : Prop := ∀ k, k < xs.length → ∃ b o, A = some ⟨b, o, none⟩ ∧ ShCells w b (o + k * 2) (xs[k]?.getD default)
def ShVal (_w : World) (v : Value) (x : Sh) : Prop := v = .agg #[.int .i64 x.up, .int .i64 x.price]
theorem ShCells.ext {w w' : World} {b o : Nat} {x : Sh} (h : ShCells w b o x) (he : Ext w w') : ShCells w' b o x := ⟨he.cell h.1, he.cell h.2⟩
theorem ShsAt.ext {w w' : World} {A : Option Addr} {xs : List Sh} (h : ShsAt w A xs) (he : Ext w w') : ShsAt w' A xs := fun k hk => let ⟨b, o, e, hc⟩ := h k hk; ⟨b, o, e, hc.ext he⟩
/-- a weaver's two cells -/
def WvCells (w : World) (b o : Nat) (x : Wv) : Prop :=
  ∃ A c, (x.hours.length ≤ c ∧ c ≤ maxLen) ∧ w.cell? ⟨b, o, none⟩ = some (.int .i64 x.shaft) ∧ w.cell? ⟨b, o + 1, none⟩ = some (.slice A x.hours.length c) ∧ IntsAt w A x.hours
def WvsAt (w : World) (A : Option Addr) (xs : List Wv) : Prop := ∀ k, k < xs.length → ∃ b o, A = some ⟨b, o, none⟩ ∧ WvCells w b (o + k * 2) (xs[k]?.getD default)
def WvVal (w : World) (v : Value) (x : Wv) : Prop := ∃ A c, (x.hours.length ≤ c ∧ c ≤ maxLen) ∧ v = .agg #[.int .i64 x.shaft, .slice A x.hours.length c] ∧ IntsAt w A x.hours
theorem WvVal.ext {w w' : World} {v : Value} {x : Wv} (h : WvVal w v x) (he : Ext w w') : WvVal w' v x := by
  obtain ⟨A, c, h1, h2, h3⟩ := h
  exact ⟨A, c, h1, h2, h3.ext he⟩
theorem WvCells.ext {w w' : World} {b o : Nat} {x : Wv} (h : WvCells w b o x) (he : Ext w w') : WvCells w' b o x := by
  obtain ⟨A, c, h0, h1, h2, h3⟩ := h
  exact ⟨A, c, h0, he.cell h1, he.cell h2, h3.ext he⟩
theorem WvsAt.ext {w w' : World} {A : Option Addr} {xs : List Wv} (h : WvsAt w A xs) (he : Ext w w') : WvsAt w' A xs := fun k hk => let ⟨b, o, e, hc⟩ := h k hk; ⟨b, o, e, hc.ext he⟩
/-- a mill as a value -/
def PMVal (w : World) (v : Value) (m : PM) : Prop :=
  ∃ A1 c1 A2 c2, v = .agg #[.slice A1 m.shafts.length c1, .slice A2 m.wvs.length c2] ∧ m.shafts.length ≤ c1 ∧ c1 ≤ maxLen ∧ m.wvs.length ≤ c2 ∧ c2 ≤ maxLen ∧ ShsAt w A1 m.shafts ∧ WvsAt w A2 m.wvs
theorem PMVal.ext {w w' : World} {v : Value} {m : PM} (h : PMVal w v m) (he : Ext w w') : PMVal w' v m := by
  obtain ⟨A1, c1, A2, c2, h1, h2, h3, h4, h5, h6, h7⟩ := h
  exact ⟨A1, c1, A2, c2, h1, h2, h3, h4, h5, h6.ext he, h7.ext he⟩
/-- the error of a mill -/
def checkP (m : PM) : Int :=
  if inB m.shafts.length 1 9 = false ∨ 6 < m.wvs.length then 2
  else if (m.shafts.all fun s => inB s.price 0 60) = false then 3
  else if (m.wvs.all fun w => w.hours.all fun h => inB h 0 23) = false then 3
  else if ((List.range m.shafts.length).all fun i => inB (m.sh i).up (-1) ((i : Int) - 1)) = false then 1
  else if (m.wvs.all fun w => inB w.shaft 0 (m.shafts.length - 1)) = false then 1
  else if (m.wvs.all fun w => risingB w.hours) = false then 4 else 0
theorem inB_iff {n lo hi : Int} : inB n lo hi = true ↔ lo ≤ n ∧ n ≤ hi := by
  unfold inB
  rw [Bool.and_eq_true, decide_eq_true_eq, decide_eq_true_eq]
theorem rising_pair {xs : List Int} : risingB xs = true ↔ xs.Pairwise (· < ·) := by
  rw [risingB_iff]
  unfold risingTo
  constructor
  · intro h
    rw [List.pairwise_iff_getElem]
    have key : ∀ d i, i + d + 1 < xs.length → xs[i]?.getD 0 < xs[i + d + 1]?.getD 0 := by
      intro d
      induction d with
      | zero => intro i hi; exact h (i + 1) (by omega) hi
      | succ d ih =>
        intro i hi
        have h1 := ih i (by omega)
        have h2 := h (i + d + 1 + 1) (by omega) (by omega)
        simp only [Nat.add_sub_cancel] at h2
        have e : i + (d + 1) + 1 = i + d + 1 + 1 := by omega
        rw [e]
        omega
    intro i j hi hj hij
    have := key (j - i - 1) i (by omega)
    rw [show i + (j - i - 1) + 1 = j by omega, List.getElem?_eq_getElem hi, List.getElem?_eq_getElem hj] at this
    exact this
  · intro h i h1 h2
    have := List.pairwise_iff_getElem.1 h (i - 1) i (by omega) h2 (by omega)
    rw [List.getElem?_eq_getElem h2, List.getElem?_eq_getElem (show i - 1 < xs.length by omega)]
    exact this
theorem checkP_iff (m : PM) : checkP m = 0 ↔ Pow.POk m := by
  have hsh : ∀ s, s < m.shafts.length → m.sh s ∈ m.shafts := fun s hs => by unfold PM.sh; rw [List.getElem?_eq_getElem hs]; exact List.getElem_mem hs
  have hwv : ∀ k, k < m.wvs.length → m.wv k ∈ m.wvs := fun k hk => by unfold PM.wv; rw [List.getElem?_eq_getElem hk]; exact List.getElem_mem hk
  have msh : ∀ x, x ∈ m.shafts → ∃ s, s < m.shafts.length ∧ m.sh s = x := fun x hx => by
    obtain ⟨s, hs, rfl⟩ := List.mem_iff_getElem.1 hx
    exact ⟨s, hs, by unfold PM.sh; rw [List.getElem?_eq_getElem hs]; rfl⟩
  have mwv : ∀ x, x ∈ m.wvs → ∃ k, k < m.wvs.length ∧ m.wv k = x := fun x hx => by
    obtain ⟨s, hs, rfl⟩ := List.mem_iff_getElem.1 hx
    exact ⟨s, hs, by unfold PM.wv; rw [List.getElem?_eq_getElem hs]; rfl⟩
  unfold checkP
  constructor
  · intro h
    split at h; · cases h
    rename_i a1
    split at h; · cases h
    rename_i a2
    split at h; · cases h
    rename_i a3
    split at h; · cases h
    rename_i a4
    split at h; · cases h
    rename_i a5
    split at h; · cases h
    rename_i a6
    rw [not_or, Bool.not_eq_false, inB_iff] at a1
    rw [Bool.not_eq_false, List.all_eq_true] at a2 a3 a4 a5 a6
    refine ⟨by omega, by omega, fun s hs => inB_iff.1 (a2 _ (hsh s hs)), fun k hk x hx => inB_iff.1 (List.all_eq_true.1 (a3 _ (hwv k hk)) x hx), fun s hs => ?_, fun k hk => ?_, fun k hk => rising_pair.1 (a6 _ (hwv k hk))⟩
    · have := inB_iff.1 (a4 s (List.mem_range.2 hs)); omega
    · have := inB_iff.1 (a5 _ (hwv k hk)); omega
  · intro h
    have a2 : (m.shafts.all fun s => inB s.price 0 60) = true := List.all_eq_true.2 fun x hx => by
      obtain ⟨s, hs, rfl⟩ := msh x hx
      exact inB_iff.2 (h.price s hs)
    have a3 : (m.wvs.all fun w => w.hours.all fun h => inB h 0 23) = true := List.all_eq_true.2 fun x hx => by
      obtain ⟨k, hk, rfl⟩ := mwv x hx
      exact List.all_eq_true.2 fun y hy => inB_iff.2 (h.hour k hk y hy)
    have a4 : ((List.range m.shafts.length).all fun i => inB (m.sh i).up (-1) ((i : Int) - 1)) = true := List.all_eq_true.2 fun s hs => inB_iff.2 (by have := h.up s (List.mem_range.1 hs); omega)
    have a5 : (m.wvs.all fun w => inB w.shaft 0 (m.shafts.length - 1)) = true := List.all_eq_true.2 fun x hx => by
      obtain ⟨k, hk, rfl⟩ := mwv x hx
      exact inB_iff.2 (by have := h.at_ k hk; omega)
    have a6 : (m.wvs.all fun w => risingB w.hours) = true := List.all_eq_true.2 fun x hx => by
      obtain ⟨k, hk, rfl⟩ := mwv x hx
      exact rising_pair.2 (h.rise k hk)
    rw [if_neg, if_neg (by rw [a2]; simp), if_neg (by rw [a3]; simp), if_neg (by rw [a4]; simp), if_neg (by rw [a5]; simp), if_neg (by rw [a6]; simp)]
    rw [not_or, Bool.not_eq_false, inB_iff]
    have := h.sz; have := h.few
    omega
end Go.Proofs.Pet

namespace Go.Proofs.Pet
open Go Go.RowKit
open Go.Proofs.Pow (PM Sh Wv)

theorem everyI1P (g : Nat) (fs lb : Array Value) (eg : Enters Try.prog g) (B : Nat) (x : Int) (q : Bool) (w : World) (hp : Tells Try.prog w g fs lb IntVal x q) (hB : w.cell? ⟨B, 0, none⟩ = some (.func (.func g) fs lb)) :
    Tells Try.prog w 70 #[] #[.pointer (some ⟨B, 0, none⟩)] IntVal x (!q) := by
  intro W v hW hv
  have hB' := hW.cell hB
  obtain rfl : v = .int .i64 x := hv
  have hW' : Ext W W := Ext.refl W
  have Hp := Lib.hid hp
  clear hp hB
  have eg' := eg
  unfold Enters at eg'
  have hB2 := hW'.cell hB'
  show Calls Try.prog 70 #[_, .pointer (some ⟨B, 0, none⟩)] W _
  go_enter Try.func70, Try.ntmps70
  cases q with
  | true =>
    go_wp2_with fail
    refine (Hp.out _ _ (hW.trans hW') rfl).mono ?_
    rintro e w' ⟨rfl, he⟩
    go_wp2
    go_ret
    exact ⟨rfl, hW'.trans he⟩
  | false =>
    go_wp2_with fail
    refine (Hp.out _ _ (hW.trans hW') rfl).mono ?_
    rintro e w' ⟨rfl, he⟩
    go_wp2
    go_ret
    exact ⟨rfl, hW'.trans he⟩


theorem everyIP (g : Nat) (fs lb : Array Value) (eg : Enters Try.prog g) (p : Int → Bool) (A : Option Addr) (c : Nat) (xs : List Int) (w : World) (hb : xs.length ≤ maxLen)
    (hx : IntsAt w A xs) (hp : ∀ x ∈ xs, Tells Try.prog w g fs lb IntVal x (p x)) :
    Calls Try.prog 33 #[.slice A xs.length c, .func (.func g) fs lb] w fun e w' => e = .returned (.bool (xs.all p)) ∧ Ext w w' := by
  have hmf : ∀ (fn : Fn) (first cap : Array Value) (w : World), (Instr.makeFunc fn first cap).run Try.prog w = .ok (.func fn first cap) w := fun _ _ _ _ => rfl
  have hq0 : xs.all p = !(xs.any fun x => !p x) := by rw [List.not_any_eq_all_not]; simp
  obtain ⟨q, hq⟩ : ∃ q, xs.any (fun x => !p x) = q := ⟨_, rfl⟩
  rw [hq0, hq]
  have hE : Ext w (w.alloc (.cells #[.func (.func g) fs lb] 71)) := Ext.alloc _ _
  have h := containsFuncI 70 #[] #[.pointer (some ⟨w.heap.size, 0, none⟩)] (enters_of Try.func70 (by kernel_rfl) rfl) (fun x => !p x) A c xs _ hb (hx.ext hE) (fun x hxm => everyI1P g fs lb eg w.heap.size x (p x) _ ((hp x hxm).ext hE) (cell_new_l w _ _).1)
  rw [hq] at h
  have H := Lib.hid h; clear h hx hp hq hq0
  go_enter Try.func33, Try.ntmps33
  go_wp2_with fail
  refine H.out.mono ?_
  rintro e w' ⟨rfl, he⟩
  cases q with
  | true =>
    go_wp2
    go_ret
    exact ⟨rfl, hE.trans he⟩
  | false =>
    go_wp2
    go_ret
    exact ⟨rfl, hE.trans he⟩



theorem in_anyP (n lo hi : Int) (q : Bool) (hq : inB n lo hi = q) (w : World) :
    Calls Try.prog 37 #[.int .i64 n, .int .i64 lo, .int .i64 hi] w fun e w' => e = .returned (.bool q) ∧ w = w' := by
  subst hq
  unfold inB
  by_cases h1 : lo ≤ n
  · by_cases h2 : n ≤ hi
    · go_enter Try.func37, Try.ntmps37
      go_wp2
      go_ret
      exact ⟨by simp [h1, h2], rfl⟩
    · have hd : decide (n ≤ hi) = false := by simp; omega
      go_enter Try.func37, Try.ntmps37
      go_wp2
      go_ret
      exact ⟨by simp, rfl⟩
  · have hd : decide (lo ≤ n) = false := by simp; omega
    go_enter Try.func37, Try.ntmps37
    go_wp2
    go_ret
    exact ⟨by simp, rfl⟩


set_option maxHeartbeats 400000 in
theorem rising_anyP (A : Option Addr) (c : Nat) (xs : List Int) (q : Bool) (hq : risingB xs = q) (w : World) (hl : xs.length ≤ maxLen) (hx : IntsAt w A xs) :
    Calls Try.prog 46 #[.slice A xs.length c] w fun e w' => e = .returned (.bool q) ∧ Ext w w' := by
  unfold maxLen at hl
  have Hq : Hid (q = true ↔ risingTo xs xs.length) := by unfold Hid; rw [← hq]; exact risingB_iff xs
  clear hq
  go_enter Try.func46, Try.ntmps46
  go_wp2
  go_loopw [3] (fun i wr => ∃ k : Nat, 1 ≤ k ∧ (k ≤ xs.length ∨ k = 1) ∧ i = .int .i64 k ∧ Hid (risingTo xs k) ∧ Ext w wr) (fun i _ => xs.length + 1 - (intOf i).toNat)
  case atStart => exact ⟨1, by omega, by omega, rfl, by intro i h1 h2; omega, Ext.refl _⟩
  case round =>
    obtain ⟨k, hk1, hk2, rfl, hr, he⟩ := hrel
    by_cases hlt : k < xs.length
    · obtain ⟨b, o, rfl, c1⟩ := hx.ext he k hlt
      obtain ⟨b', o', e', c2⟩ := hx.ext he (k-1) (by omega)
      simp only [Option.some.injEq, Addr.mk.injEq, and_true] at e'
      obtain ⟨rfl, rfl⟩ := e'
      have e1 : ((k : Int) - 1).toNat = k - 1 := by omega
      have b1 : (0:Int) ≤ (k : Int) - 1 := by omega
      have b2 : (k : Int) - 1 < xs.length := by omega
      have hk2' := Lib.hid hk2; clear hk2
      generalize hga : xs[k]?.getD 0 = x at *
      generalize hgb : xs[k-1]?.getD 0 = y at *
      have Hga := Lib.hid hga; clear hga
      have Hgb := Lib.hid hgb; clear hgb
      by_cases hle : x ≤ y
      · go_wp2_with fail
        go_quiet (fail)
        go_wp2
        go_ret
        refine ⟨?_, he.trans (Ext.drewN _ _)⟩
        have : ¬ risingTo xs xs.length := fun h => by
          have := h k hk1 hlt
          rw [Hga.out, Hgb.out] at this
          omega
        cases q with
        | true => exact absurd (Hq.out.1 rfl) this
        | false => rfl
      · have hd : decide (x ≤ y) = false := by simpa using hle
        have Hle := Lib.hid hle; clear hle
        go_wp2_with fail
        go_quiet (fail)
        go_wp2
        go_roundw
        case rel =>
          refine ⟨k + 1, by omega, by omega, by go_num, fun i h1 h2 => ?_, he.trans (Ext.drewN _ _)⟩
          by_cases ei : i = k
          · subst ei; rw [Hga.out, Hgb.out]; have := Hle.out; omega
          · exact hr.out i h1 (by omega)
        case measure => simp [intOf]; omega
    · go_wp2
      go_ret
      refine ⟨?_, he⟩
      have : risingTo xs xs.length := by
        rcases hk2 with h | h
        · have : k = xs.length := by omega
          rw [← this]; exact hr.out
        · intro i h1 h2; omega
      rw [Hq.out.2 this]; rfl
set_option maxRecDepth 20000 in
theorem twice_anyP (A : Option Addr) (c : Nat) (l : List Int) (q : Bool) (hq : twiceB l = q) (w : World) (hl : l.length ≤ maxLen) (hlc : l.length ≤ c) (hx : IntsAt w A l) :
    Calls Try.prog 35 #[.slice A l.length c] w fun e w' => e = .returned (.bool q) ∧ w = w' := by
  unfold maxLen at hl
  have Hq0 := Lib.hid hq; clear hq
  go_enter Try.func35, Try.ntmps35
  go_wp2_with fail
  go_loopw [7] (fun i wr => ∃ k : Nat, k ≤ l.length ∧ i = .int .i64 k ∧ w = wr ∧ Hid (∀ j, j < k → (l.take j).contains (l[j]?.getD 0) = false)) (fun i _ => l.length - (intOf i).toNat)
  case atStart => exact ⟨0, by omega, rfl, rfl, fun j hj => absurd hj (by omega)⟩
  case round =>
    obtain ⟨k, hk, rfl, rfl, hm⟩ := hrel
    by_cases hlt : k < l.length
    · obtain ⟨b, o, rfl, q1⟩ := hx k hlt
      obtain ⟨q', hq'⟩ : ∃ q, (l.take k).contains (l[k]?.getD 0) = q := ⟨_, rfl⟩
      have hlk : (l.take k).length = k := by rw [List.length_take]; omega
      have Ho := Lib.hid (contains_any (l[k]?.getD 0) (some ⟨b, o, none⟩) c k (l.take k) hlk q' hq' w (by unfold maxLen; omega) (hx.take k))
      have Hq := Lib.hid hq'; clear hq' hlk
      have htw : Hid (q' = true → q = true) := fun h => by rw [← Hq0.out]; exact twiceB_true hlt (by rw [← h]; exact Hq.out)
      generalize hgx : l[k]?.getD 0 = y at *
      have Hgx := Lib.hid hgx; clear hgx
      go_wp2_with fail
      refine Ho.out.mono ?_
      rintro e w' ⟨rfl, rfl⟩
      cases q' with
      | true =>
        have hr := htw.out rfl
        subst hr
        go_wp2_with fail
        go_ret
        exact ⟨rfl, rfl⟩
      | false =>
        go_wp2_with fail
        go_roundw
        case rel =>
          refine ⟨k + 1, by omega, by go_num, by trivial, fun j hj => ?_⟩
          by_cases ej : j = k
          · subst ej; rw [Hgx.out]; exact Hq.out
          · exact hm.out j (by omega)
        case measure => simp [intOf]; omega
    · have hr : q = false := by rw [← Hq0.out]; exact twiceB_false fun j hj => hm.out j (by omega)
      subst hr
      go_wp2_with fail
      go_ret
      exact ⟨rfl, rfl⟩
set_option maxHeartbeats 400000 in
theorem indexFuncW (g : Nat) (fs lb : Array Value) (eg : Enters Try.prog g) (p : Wv → Bool) (A : Option Addr) (c : Nat) (xs : List Wv) (w : World) (hb : xs.length ≤ maxLen)
    (hx : WvsAt w A xs) (hp : ∀ x ∈ xs, Tells Try.prog w g fs lb WvVal x (p x)) :
    Calls Try.prog 95 #[.slice A xs.length c, .func (.func g) fs lb] w fun e w' => (∃ i : Int, (0 ≤ i ↔ xs.any p = true) ∧ e = .returned (.int .i64 i)) ∧ Ext w w' := by
  unfold maxLen at hb
  go_enter Try.func95, Try.ntmps95
  go_wp2
  go_loopw [5, 8] (fun _ i wr => ∃ k : Nat, k ≤ xs.length ∧ i = .int .i64 k ∧ Hid (∀ j, j < k → p (xs[j]?.getD default) = false) ∧ Ext w wr) (fun _ i _ => xs.length - (intOf i).toNat)
  case atStart => exact ⟨0, by omega, rfl, fun j hj => absurd hj (by omega), Ext.refl _⟩
  case round =>
    obtain ⟨k, hk, rfl, hm, he⟩ := hrel
    by_cases hlt : k < xs.length
    · obtain ⟨b, o, rfl, A, ca, hca, h1, h2, h5⟩ := hx.ext he k hlt
      have hmem0 : (xs[k]?.getD default) ∈ xs := by simp [hlt]
      have hmem := Lib.hid hmem0
      generalize hgx : xs[k]?.getD default = x at *
      have Hgx := Lib.hid hgx; clear hgx
      have hc := hp x hmem0 wr _ he ⟨A, ca, hca, rfl, h5⟩
      clear hmem0
      obtain ⟨q, hq⟩ : ∃ q, p x = q := ⟨_, rfl⟩
      rw [hq] at hc
      have Hc := Lib.hid hc; clear hc
      have Hq := Lib.hid hq; clear hq
      have eg' := eg
      unfold Enters at eg'
      cases q with
      | true =>
        go_wp2_with fail
        refine Hc.out.mono ?_
        rintro e w' ⟨rfl, he'⟩
        go_wp2
        go_ret
        have ha : xs.any p = true := List.any_eq_true.2 ⟨x, hmem.out, Hq.out⟩
        exact ⟨⟨_, ⟨fun _ => ha, fun _ => by omega⟩, rfl⟩, he.trans he'⟩
      | false =>
        go_wp2_with fail
        refine Hc.out.mono ?_
        rintro e w' ⟨rfl, he'⟩
        go_wp2
        go_roundw
        case rel =>
          refine ⟨k + 1, by omega, by go_num, fun j hj => ?_, he.trans he'⟩
          by_cases ej : j = k
          · subst ej; rw [Hgx.out]; exact Hq.out
          · exact hm.out j (by omega)
        case measure => simp [intOf]; omega
    · go_wp2
      go_ret
      have hn : xs.any p = false := by
        rw [List.any_eq_false]
        intro y hy hpy
        obtain ⟨j, hj, rfl⟩ := List.mem_iff_getElem.1 hy
        have := hm.out j (by omega)
        simp [hj, hpy] at this
      exact ⟨⟨-1, ⟨fun h => absurd h (by omega), fun h => by rw [hn] at h; cases h⟩, rfl⟩, he⟩


theorem containsFuncW (g : Nat) (fs lb : Array Value) (eg : Enters Try.prog g) (p : Wv → Bool) (A : Option Addr) (c : Nat) (xs : List Wv) (w : World) (hb : xs.length ≤ maxLen)
    (hx : WvsAt w A xs) (hp : ∀ x ∈ xs, Tells Try.prog w g fs lb WvVal x (p x)) :
    Calls Try.prog 75 #[.slice A xs.length c, .func (.func g) fs lb] w fun e w' => e = .returned (.bool (xs.any p)) ∧ Ext w w' := by
  have h := indexFuncW g fs lb eg p A c xs w hb hx hp
  clear hx hp
  obtain ⟨q, hq⟩ : ∃ q, xs.any p = q := ⟨_, rfl⟩
  rw [hq] at h ⊢
  have H := Lib.hid h; clear h hq
  go_enter Try.func75, Try.ntmps75
  go_wp2_with fail
  refine H.out.mono ?_
  rintro e w' ⟨⟨i, hi, rfl⟩, he⟩
  cases q with
  | true =>
    have h0 : 0 ≤ i := hi.2 rfl
    clear hi
    go_wp2
    go_ret
    exact ⟨rfl, he⟩
  | false =>
    have h0 : decide (0 ≤ i) = false := by
      rw [decide_eq_false_iff_not]
      exact fun h => absurd (hi.1 h) (by simp)
    clear hi
    go_wp2
    go_ret
    exact ⟨rfl, he⟩


theorem everyW1 (g : Nat) (fs lb : Array Value) (eg : Enters Try.prog g) (B : Nat) (x : Wv) (q : Bool) (w : World) (hp : Tells Try.prog w g fs lb WvVal x q) (hB : w.cell? ⟨B, 0, none⟩ = some (.func (.func g) fs lb)) :
    Tells Try.prog w 76 #[] #[.pointer (some ⟨B, 0, none⟩)] WvVal x (!q) := by
  intro W v hW hv
  have hB' := hW.cell hB
  obtain ⟨A, ca, hca, rfl, h5⟩ := hv
  have hW' := Ext.alloc W (.cells #[.int .i64 x.shaft, .slice A x.hours.length ca] 43)
  have Hp := Lib.hid hp
  clear hp hB
  have eg' := eg
  unfold Enters at eg'
  have hB2 := hW'.cell hB'
  show Calls Try.prog 76 #[_, .pointer (some ⟨B, 0, none⟩)] W _
  go_enter Try.func76, Try.ntmps76
  cases q with
  | true =>
    go_wp2_with fail
    refine (Hp.out _ _ (hW.trans hW') ⟨A, ca, hca, rfl, h5.ext hW'⟩).mono ?_
    rintro e w' ⟨rfl, he⟩
    go_wp2
    go_ret
    exact ⟨rfl, hW'.trans he⟩
  | false =>
    go_wp2_with fail
    refine (Hp.out _ _ (hW.trans hW') ⟨A, ca, hca, rfl, h5.ext hW'⟩).mono ?_
    rintro e w' ⟨rfl, he⟩
    go_wp2
    go_ret
    exact ⟨rfl, hW'.trans he⟩


theorem everyW (g : Nat) (fs lb : Array Value) (eg : Enters Try.prog g) (p : Wv → Bool) (A : Option Addr) (c : Nat) (xs : List Wv) (w : World) (hb : xs.length ≤ maxLen)
    (hx : WvsAt w A xs) (hp : ∀ x ∈ xs, Tells Try.prog w g fs lb WvVal x (p x)) :
    Calls Try.prog 40 #[.slice A xs.length c, .func (.func g) fs lb] w fun e w' => e = .returned (.bool (xs.all p)) ∧ Ext w w' := by
  have hmf : ∀ (fn : Fn) (first cap : Array Value) (w : World), (Instr.makeFunc fn first cap).run Try.prog w = .ok (.func fn first cap) w := fun _ _ _ _ => rfl
  have hq0 : xs.all p = !(xs.any fun x => !p x) := by rw [List.not_any_eq_all_not]; simp
  obtain ⟨q, hq⟩ : ∃ q, xs.any (fun x => !p x) = q := ⟨_, rfl⟩
  rw [hq0, hq]
  have hE : Ext w (w.alloc (.cells #[.func (.func g) fs lb] 109)) := Ext.alloc _ _
  have h := containsFuncW 76 #[] #[.pointer (some ⟨w.heap.size, 0, none⟩)] (enters_of Try.func76 (by kernel_rfl) rfl) (fun x => !p x) A c xs _ hb (hx.ext hE) (fun x hxm => everyW1 g fs lb eg w.heap.size x (p x) _ ((hp x hxm).ext hE) (cell_new_l w _ _).1)
  rw [hq] at h
  have H := Lib.hid h; clear h hx hp hq hq0
  go_enter Try.func40, Try.ntmps40
  go_wp2_with fail
  refine H.out.mono ?_
  rintro e w' ⟨rfl, he⟩
  cases q with
  | true =>
    go_wp2
    go_ret
    exact ⟨rfl, hE.trans he⟩
  | false =>
    go_wp2
    go_ret
    exact ⟨rfl, hE.trans he⟩


set_option maxHeartbeats 400000 in
theorem indexFuncS (g : Nat) (fs lb : Array Value) (eg : Enters Try.prog g) (p : Sh → Bool) (A : Option Addr) (c : Nat) (xs : List Sh) (w : World) (hb : xs.length ≤ maxLen)
    (hx : ShsAt w A xs) (hp : ∀ x ∈ xs, Tells Try.prog w g fs lb ShVal x (p x)) :
    Calls Try.prog 94 #[.slice A xs.length c, .func (.func g) fs lb] w fun e w' => (∃ i : Int, (0 ≤ i ↔ xs.any p = true) ∧ e = .returned (.int .i64 i)) ∧ Ext w w' := by
  unfold maxLen at hb
  go_enter Try.func94, Try.ntmps94
  go_wp2
  go_loopw [5, 8] (fun _ i wr => ∃ k : Nat, k ≤ xs.length ∧ i = .int .i64 k ∧ Hid (∀ j, j < k → p (xs[j]?.getD default) = false) ∧ Ext w wr) (fun _ i _ => xs.length - (intOf i).toNat)
  case atStart => exact ⟨0, by omega, rfl, fun j hj => absurd hj (by omega), Ext.refl _⟩
  case round =>
    obtain ⟨k, hk, rfl, hm, he⟩ := hrel
    by_cases hlt : k < xs.length
    · obtain ⟨b, o, rfl, h1, h2⟩ := hx.ext he k hlt
      have hmem0 : (xs[k]?.getD default) ∈ xs := by simp [hlt]
      have hmem := Lib.hid hmem0
      generalize hgx : xs[k]?.getD default = x at *
      have Hgx := Lib.hid hgx; clear hgx
      have hc := hp x hmem0 wr _ he rfl
      clear hmem0
      obtain ⟨q, hq⟩ : ∃ q, p x = q := ⟨_, rfl⟩
      rw [hq] at hc
      have Hc := Lib.hid hc; clear hc
      have Hq := Lib.hid hq; clear hq
      have eg' := eg
      unfold Enters at eg'
      cases q with
      | true =>
        go_wp2_with fail
        refine Hc.out.mono ?_
        rintro e w' ⟨rfl, he'⟩
        go_wp2
        go_ret
        have ha : xs.any p = true := List.any_eq_true.2 ⟨x, hmem.out, Hq.out⟩
        exact ⟨⟨_, ⟨fun _ => ha, fun _ => by omega⟩, rfl⟩, he.trans he'⟩
      | false =>
        go_wp2_with fail
        refine Hc.out.mono ?_
        rintro e w' ⟨rfl, he'⟩
        go_wp2
        go_roundw
        case rel =>
          refine ⟨k + 1, by omega, by go_num, fun j hj => ?_, he.trans he'⟩
          by_cases ej : j = k
          · subst ej; rw [Hgx.out]; exact Hq.out
          · exact hm.out j (by omega)
        case measure => simp [intOf]; omega
    · go_wp2
      go_ret
      have hn : xs.any p = false := by
        rw [List.any_eq_false]
        intro y hy hpy
        obtain ⟨j, hj, rfl⟩ := List.mem_iff_getElem.1 hy
        have := hm.out j (by omega)
        simp [hj, hpy] at this
      exact ⟨⟨-1, ⟨fun h => absurd h (by omega), fun h => by rw [hn] at h; cases h⟩, rfl⟩, he⟩


theorem containsFuncS (g : Nat) (fs lb : Array Value) (eg : Enters Try.prog g) (p : Sh → Bool) (A : Option Addr) (c : Nat) (xs : List Sh) (w : World) (hb : xs.length ≤ maxLen)
    (hx : ShsAt w A xs) (hp : ∀ x ∈ xs, Tells Try.prog w g fs lb ShVal x (p x)) :
    Calls Try.prog 73 #[.slice A xs.length c, .func (.func g) fs lb] w fun e w' => e = .returned (.bool (xs.any p)) ∧ Ext w w' := by
  have h := indexFuncS g fs lb eg p A c xs w hb hx hp
  clear hx hp
  obtain ⟨q, hq⟩ : ∃ q, xs.any p = q := ⟨_, rfl⟩
  rw [hq] at h ⊢
  have H := Lib.hid h; clear h hq
  go_enter Try.func73, Try.ntmps73
  go_wp2_with fail
  refine H.out.mono ?_
  rintro e w' ⟨⟨i, hi, rfl⟩, he⟩
  cases q with
  | true =>
    have h0 : 0 ≤ i := hi.2 rfl
    clear hi
    go_wp2
    go_ret
    exact ⟨rfl, he⟩
  | false =>
    have h0 : decide (0 ≤ i) = false := by
      rw [decide_eq_false_iff_not]
      exact fun h => absurd (hi.1 h) (by simp)
    clear hi
    go_wp2
    go_ret
    exact ⟨rfl, he⟩


theorem everyS1 (g : Nat) (fs lb : Array Value) (eg : Enters Try.prog g) (B : Nat) (x : Sh) (q : Bool) (w : World) (hp : Tells Try.prog w g fs lb ShVal x q) (hB : w.cell? ⟨B, 0, none⟩ = some (.func (.func g) fs lb)) :
    Tells Try.prog w 74 #[] #[.pointer (some ⟨B, 0, none⟩)] ShVal x (!q) := by
  intro W v hW hv
  have hB' := hW.cell hB
  obtain rfl := hv
  have hW' := Ext.alloc W (.cells #[.int .i64 x.up, .int .i64 x.price] 73)
  have Hp := Lib.hid hp
  clear hp hB
  have eg' := eg
  unfold Enters at eg'
  have hB2 := hW'.cell hB'
  show Calls Try.prog 74 #[_, .pointer (some ⟨B, 0, none⟩)] W _
  go_enter Try.func74, Try.ntmps74
  cases q with
  | true =>
    go_wp2_with fail
    refine (Hp.out _ _ (hW.trans hW') rfl).mono ?_
    rintro e w' ⟨rfl, he⟩
    go_wp2
    go_ret
    exact ⟨rfl, hW'.trans he⟩
  | false =>
    go_wp2_with fail
    refine (Hp.out _ _ (hW.trans hW') rfl).mono ?_
    rintro e w' ⟨rfl, he⟩
    go_wp2
    go_ret
    exact ⟨rfl, hW'.trans he⟩


theorem everyS (g : Nat) (fs lb : Array Value) (eg : Enters Try.prog g) (p : Sh → Bool) (A : Option Addr) (c : Nat) (xs : List Sh) (w : World) (hb : xs.length ≤ maxLen)
    (hx : ShsAt w A xs) (hp : ∀ x ∈ xs, Tells Try.prog w g fs lb ShVal x (p x)) :
    Calls Try.prog 38 #[.slice A xs.length c, .func (.func g) fs lb] w fun e w' => e = .returned (.bool (xs.all p)) ∧ Ext w w' := by
  have hmf : ∀ (fn : Fn) (first cap : Array Value) (w : World), (Instr.makeFunc fn first cap).run Try.prog w = .ok (.func fn first cap) w := fun _ _ _ _ => rfl
  have hq0 : xs.all p = !(xs.any fun x => !p x) := by rw [List.not_any_eq_all_not]; simp
  obtain ⟨q, hq⟩ : ∃ q, xs.any (fun x => !p x) = q := ⟨_, rfl⟩
  rw [hq0, hq]
  have hE : Ext w (w.alloc (.cells #[.func (.func g) fs lb] 107)) := Ext.alloc _ _
  have h := containsFuncS 74 #[] #[.pointer (some ⟨w.heap.size, 0, none⟩)] (enters_of Try.func74 (by kernel_rfl) rfl) (fun x => !p x) A c xs _ hb (hx.ext hE) (fun x hxm => everyS1 g fs lb eg w.heap.size x (p x) _ ((hp x hxm).ext hE) (cell_new_l w _ _).1)
  rw [hq] at h
  have H := Lib.hid h; clear h hx hp hq hq0
  go_enter Try.func38, Try.ntmps38
  go_wp2_with fail
  refine H.out.mono ?_
  rintro e w' ⟨rfl, he⟩
  cases q with
  | true =>
    go_wp2
    go_ret
    exact ⟨rfl, hE.trans he⟩
  | false =>
    go_wp2
    go_ret
    exact ⟨rfl, hE.trans he⟩


end Go.Proofs.Pet

namespace Go.Proofs.Pet
open Go Go.RowKit
open Go.Proofs.Pow (PM Sh Wv)

section
variable {w w' : World}
instance (priority := low) {A : Prop} : Lift A w w' A := ⟨fun _ h => h⟩
instance {w0 : World} : Lift (Ext w0 w) w w' (Ext w0 w') := ⟨fun he h => h.trans he⟩
instance {p : Addr} {v : Value} : Lift (w.cell? p = some v) w w' (w'.cell? p = some v) := ⟨fun he h => he.cell h⟩
instance {A B A' B' : Prop} [Lift A w w' A'] [Lift B w w' B'] : Lift (A ∧ B) w w' (A' ∧ B') := ⟨fun he h => ⟨Lift.lift he h.1, Lift.lift he h.2⟩⟩
instance {A A' : Prop} [Lift A w w' A'] : Lift (Hid A) w w' (Hid A') := ⟨fun he h => Lib.hid (Lift.lift he h.out)⟩
instance {α : Sort _} {A B : α → Prop} [∀ x, Lift (A x) w w' (B x)] : Lift (∃ x, A x) w w' (∃ x, B x) := ⟨fun he ⟨x, h⟩ => ⟨x, Lift.lift he h⟩⟩
instance {α : Sort _} {A B : α → Prop} [∀ x, Lift (A x) w w' (B x)] : Lift (∀ x, A x) w w' (∀ x, B x) := ⟨fun he h x => Lift.lift he (h x)⟩
instance {g : Nat} {t : TypeId} {cs : Array Value} : Lift (Blk w g t cs) w w' (Blk w' g t cs) := ⟨fun he h => h.ext he⟩
instance {A : Option Addr} {xs : List Int} : Lift (IntsAt w A xs) w w' (IntsAt w' A xs) := ⟨fun he h => h.ext he⟩
instance {b : Nat} {e : TypeId} {v : Value} {xs : List Int} : Lift (OwnI w b e v xs) w w' (OwnI w' b e v xs) := ⟨fun he h => h.ext he⟩
instance {b : Nat} {v : Value} {xs : List (List Int)} : Lift (OwnR w b v xs) w w' (OwnR w' b v xs) := ⟨fun he h => h.ext he⟩
instance {v : Value} {xs : List Int} : Lift (SlI w v xs) w w' (SlI w' v xs) := ⟨fun he h => h.ext he⟩
instance {b N : Nat} {f : Nat → Int} : Lift (Row w b N f) w w' (Row w' b N f) := ⟨fun he h => h.ext he⟩
instance {b : Nat} {e : TypeId} {s : Nat} {v : Value} {n : Nat} {xs : List Value} : Lift (w.ownsRow b e s v n xs) w w' (w'.ownsRow b e s v n xs) := ⟨fun he h => ownsRow_ext2 h he⟩
instance {A : Option Addr} {xs : List Sh} : Lift (ShsAt w A xs) w w' (ShsAt w' A xs) := ⟨fun he h => h.ext he⟩
instance {A : Option Addr} {xs : List Wv} : Lift (WvsAt w A xs) w w' (WvsAt w' A xs) := ⟨fun he h => h.ext he⟩
instance {v : Value} {x : Wv} : Lift (WvVal w v x) w w' (WvVal w' v x) := ⟨fun he h => h.ext he⟩
instance {v : Value} {m : PM} : Lift (PMVal w v m) w w' (PMVal w' v m) := ⟨fun he h => h.ext he⟩
end
end Go.Proofs.Pet

namespace Go.Proofs.Pow

/-- all groups of the numbers below n -/
def groupsF : Nat → List (List Nat)
  | 0 => [[]]
  | k + 1 => groupsF k ++ (groupsF k).map (· ++ [k])
theorem up_snoc {n : Nat} {l : List Nat} (h : Up n 0 l) : Up (n + 1) 0 (l ++ [n]) := by
  refine ⟨?_, fun x hx => ⟨Nat.zero_le _, ?_⟩⟩
  · rw [List.pairwise_append]
    exact ⟨h.1, List.pairwise_singleton _ _, fun a ha b hb => by rw [List.mem_singleton] at hb; subst hb; exact (h.2 a ha).2⟩
  · rcases List.mem_append.1 hx with h1 | h1
    · have := (h.2 x h1).2; omega
    · rw [List.mem_singleton] at h1; omega
/-- a group has more parts than sixty times its cost -/
def moreB (m : PM) (sh : List Int) (l : List Nat) : Bool := decide (60 * costF m (fun k => l.contains k) < (l.map fun k => sh[k]?.getD 0).sum)
def betterF (m : PM) (sh : List Int) : Option (List Nat) := firstF m.wvs.length (moreB m sh)
end Go.Proofs.Pow

namespace Go.Proofs.Pow

/-- each shaft is driven by the one before it -/
def ChainOk (m : PM) : Prop := ∀ s, s < m.shafts.length → (m.sh s).up = (s : Int) - 1
theorem ChainOk.up {m : PM} (h : ChainOk m) : UpOk m := fun s hs => by rw [h s hs]; omega
/-- the most hours of the looms that a shaft drives -/
def mostF (m : PM) (s : Nat) : Nat := m.wvs.foldl (fun a w => if (s : Int) ≤ w.shaft then max a w.hours.length else a) 0
end Go.Proofs.Pow

namespace Go.Proofs.Pow

/-- group g (numbers): weaver k marks (s, h) -/
def usesI (m : PM) (s h : Nat) (k : Int) : Bool := (m.line (m.wv k.toNat).shaft).contains (s : Int) && (m.wv k.toNat).hours.contains (h : Int)
def mkG (m : PM) (g : List Int) (s h : Nat) : Bool := g.any (usesI m s h)
/-- within the round of k: the hours hs are done, in the hour cur the shafts ls -/
def mk3 (m : PM) (g : List Int) (k : Int) (hs : List Int) (cur : Int) (ls : List Int) (s h : Nat) : Bool :=
  mkG m g s h || (hs.contains (h : Int) && (m.line (m.wv k.toNat).shaft).contains (s : Int)) || (decide ((h : Int) = cur) && ls.contains (s : Int))
def InG (m : PM) (g : List Int) : Prop := ∀ k, k ∈ g → 0 ≤ k ∧ k < m.wvs.length
theorem mkG_hit {m : PM} {g : List Int} (hg : InG m g) (s h : Nat) : mkG m g s h = hitQ m.wvs.length (usesB m s h) fun k => g.contains (k : Int) := by
  rw [Bool.eq_iff_iff, hitQ_iff]
  unfold mkG
  rw [List.any_eq_true]
  constructor
  · rintro ⟨k, hk, hu⟩
    obtain ⟨h0, h1⟩ := hg k hk
    obtain ⟨n, rfl⟩ := Int.eq_ofNat_of_zero_le h0
    exact ⟨n, by omega, hu, List.contains_iff_mem.2 hk⟩
  · rintro ⟨k, hk, hu, hc⟩
    exact ⟨k, List.contains_iff_mem.1 hc, hu⟩
theorem cost_mkG {m : PM} {g : List Int} (hg : InG m g) : sumM m (mkG m g) = costF m fun k => g.contains (k : Int) := by
  rw [costF_sumM]
  exact sumM_congr fun s h _ _ => mkG_hit hg s h
theorem mkG_nil (m : PM) : mkG m [] = fun _ _ => false := rfl
theorem mkG_snoc (m : PM) (g : List Int) (k : Int) : mkG m (g ++ [k]) = fun s h => mkG m g s h || ((m.wv k.toNat).hours.contains (h : Int) && (m.line (m.wv k.toNat).shaft).contains (s : Int)) := by
  funext s h
  unfold mkG
  rw [List.any_append]
  simp [usesI, Bool.and_comm]
theorem mk3_start (m : PM) (g : List Int) (k : Int) : mk3 m g k [] 0 [] = mkG m g := by
  funext s h; simp [mk3]
theorem mk3_cur (m : PM) (g : List Int) (k : Int) (hs : List Int) (c c' : Int) : mk3 m g k hs c [] = mk3 m g k hs c' [] := by
  funext s h; simp [mk3]
theorem mk3_hour (m : PM) (g : List Int) (k : Int) (hs : List Int) (c c' : Int) : mk3 m g k (hs ++ [c]) c' [] = mk3 m g k hs c (m.line (m.wv k.toNat).shaft) := by
  funext s h
  unfold mk3
  rw [Bool.eq_iff_iff]
  simp
  constructor
  · rintro (h | ⟨h1 | h1, h2⟩)
    · exact .inl (.inl h)
    · exact .inl (.inr ⟨h1, h2⟩)
    · exact .inr ⟨h1, h2⟩
  · rintro ((h | ⟨h1, h2⟩) | ⟨h1, h2⟩)
    · exact .inl h
    · exact .inr ⟨.inl h1, h2⟩
    · exact .inr ⟨.inr h1, h2⟩
theorem mk3_end (m : PM) (g : List Int) (k : Int) (c : Int) : mk3 m g k (m.wv k.toNat).hours c [] = mkG m (g ++ [k]) := by
  rw [mkG_snoc]
  funext s h; simp [mk3]
/-- a spot comes: it is marked already, or it is marked now and its price is added -/
theorem mk3_old {m : PM} {g : List Int} {k : Int} {hs : List Int} {c : Nat} {ls : List Int} {x : Nat} (h : mk3 m g k hs c ls x c = true) : mk3 m g k hs c (ls ++ [(x : Int)]) = mk3 m g k hs c ls := by
  funext s t
  by_cases e : s = x ∧ t = c
  · obtain ⟨rfl, rfl⟩ := e
    rw [h]
    unfold mk3 at h ⊢
    rw [Bool.or_eq_true] at h ⊢
    rcases h with h | h
    · exact .inl h
    · refine .inr ?_
      rw [Bool.and_eq_true] at h ⊢
      exact ⟨h.1, by simp⟩
  · unfold mk3
    congr 1
    rw [Bool.eq_iff_iff]
    simp
    intro h1 h2
    exact absurd ⟨by omega, by omega⟩ e
theorem mk3_new (m : PM) (g : List Int) (k : Int) (hs : List Int) (c : Nat) (ls : List Int) (x : Nat) (s t : Nat) :
    mk3 m g k hs c (ls ++ [(x : Int)]) s t = (mk3 m g k hs c ls s t || (decide (s = x) && decide (t = c))) := by
  unfold mk3
  rw [Bool.eq_iff_iff]
  simp
  constructor
  · rintro (h | ⟨h1, h2 | h2⟩)
    · exact .inl (.inl h)
    · exact .inl (.inr ⟨h1, h2⟩)
    · exact .inr ⟨by omega, by omega⟩
  · rintro ((h | ⟨h1, h2⟩) | ⟨h1, h2⟩)
    · exact .inl h
    · exact .inr ⟨h1, .inl h2⟩
    · exact .inr ⟨by omega, .inr (by omega)⟩
theorem sum_new {m : PM} {g : List Int} {k : Int} {hs : List Int} {c : Nat} {ls : List Int} {x : Nat} (hx : x < m.shafts.length) (hc : c < 24) (h : mk3 m g k hs c ls x c = false) :
    sumM m (mk3 m g k hs c (ls ++ [(x : Int)])) = sumM m (mk3 m g k hs c ls) + (m.sh x).price := sumM_mark hx hc h fun s t => mk3_new m g k hs c ls x s t
/-- bounds of sums -/
theorem sumM_bounds {m : PM} (hm : POk m) (mk : Nat → Nat → Bool) : 0 ≤ sumM m mk ∧ sumM m mk ≤ 12960 := by
  have key : ∀ l : List (Nat × Nat), (∀ x, x ∈ l → x.1 < m.shafts.length) → 0 ≤ (l.map fun x => if mk x.1 x.2 then (m.sh x.1).price else 0).sum ∧ (l.map fun x => if mk x.1 x.2 then (m.sh x.1).price else 0).sum ≤ 60 * (l.length : Int) := by
    intro l
    induction l with
    | nil => intro _; simp
    | cons a l ih =>
      intro h
      have h1 := ih fun x hx => h x (List.mem_cons_of_mem _ hx)
      have h2 := hm.price a.1 (h a List.mem_cons_self)
      simp only [List.map_cons, List.sum_cons, List.length_cons]
      split <;> omega
  have hl : (spotL m.shafts.length).length = m.shafts.length * 24 := by
    generalize m.shafts.length = S
    induction S with
    | zero => rfl
    | succ S ih => rw [spotL_succ, List.length_append, ih]; simp; omega
  have := key (spotL m.shafts.length) fun x hx => (mem_spotL.1 hx).1
  rw [hl] at this
  have h9 := hm.sz
  unfold sumM
  omega
theorem cost_bounds {m : PM} (hm : POk m) (p : Nat → Bool) : 0 ≤ costF m p ∧ costF m p ≤ 12960 := by
  rw [costF_sumM]; exact sumM_bounds hm _
end Go.Proofs.Pow

namespace Go.Proofs.Pow

/-! The search, as nested rounds run it. -/
/-- lists of r more numbers from a on, behind l -/
def goR (n : Nat) (p : List Nat → Bool) (r : Nat) (l : List Nat) (a : Nat) : Option (List Nat) := ((cmb n r a).map (l ++ ·)).find? p
/-- .. those whose next number is below b alone -/
def goT (n : Nat) (p : List Nat → Bool) (r : Nat) (l : List Nat) (a b : Nat) : Option (List Nat) := (((List.range' a (b - a)).flatMap fun k => (cmb n r (k + 1)).map (k :: ·)).map (l ++ ·)).find? p
theorem goT_step (n : Nat) (p : List Nat → Bool) (r : Nat) (l : List Nat) {a b : Nat} (h : a ≤ b) : goT n p r l a (b + 1) = (goT n p r l a b).or (goR n p r (l ++ [b]) (b + 1)) := by
  unfold goT goR
  rw [show b + 1 - a = (b - a) + 1 by omega, List.range'_concat, List.flatMap_append, List.map_append, List.find?_append, show a + 1 * (b - a) = b by omega]
  congr 1
  simp only [List.flatMap_cons, List.flatMap_nil, List.append_nil, List.map_map]
  congr 2
  funext x
  simp
/-- lists of fewer than c numbers -/
def lenF (n : Nat) (p : List Nat → Bool) (c : Nat) : Option (List Nat) := ((List.range c).flatMap fun r => cmb n r 0).find? p
theorem lenF_succ (n : Nat) (p : List Nat → Bool) (c : Nat) : lenF n p (c + 1) = (lenF n p c).or (goR n p c [] 0) := by
  unfold lenF goR
  rw [List.range_succ, List.flatMap_append, List.find?_append]
  congr 1
  simp
/-! Shares on their way. -/
def shr (m : PM) (k : Nat) (x : Nat × Nat) : Int := if usesB m x.1 x.2 k then 60 * (m.sh x.1).price / (cntU m.wvs.length (usesB m x.1 x.2) : Int) else 0
def shareTo (m : PM) (L : List (Nat × Nat)) (k : Nat) : Int := (L.map (shr m k)).sum
def spotT (s h : Nat) : List (Nat × Nat) := spotL s ++ (List.range h).map fun t => (s, t)
theorem shr_bounds {m : PM} (hm : POk m) (k : Nat) {x : Nat × Nat} (hx : x.1 < m.shafts.length) : 0 ≤ shr m k x ∧ shr m k x ≤ 3600 := by
  unfold shr
  have hp := hm.price x.1 hx
  split
  · refine ⟨Int.ediv_nonneg (by omega) (by omega), ?_⟩
    refine Int.le_trans (Int.ediv_le_self _ (by omega)) (by omega)
  · omega
/-! The first least of some numbers that are there. -/
def leastF (f : Nat → Option Int) : Nat → Option (Nat × Int)
  | 0 => none
  | h + 1 => match f h, leastF f h with
    | some x, some b => if x < b.2 then some (h, x) else some b
    | some x, none => some (h, x)
    | none, b => b
theorem leastF_none {f : Nat → Option Int} : ∀ {n : Nat}, leastF f n = none ↔ ∀ h, h < n → f h = none
  | 0 => ⟨fun _ h hh => by omega, fun _ => rfl⟩
  | n + 1 => by
    have ih := leastF_none (f := f) (n := n)
    unfold leastF
    constructor
    · intro h
      cases e : f n with
      | some x =>
        rw [e] at h
        cases e2 : leastF f n with
        | none => rw [e2] at h; cases h
        | some b => rw [e2] at h; simp only at h; split at h <;> cases h
      | none =>
        rw [e] at h
        intro k hk
        by_cases e3 : k = n
        · rw [e3, e]
        · exact ih.1 h k (by omega)
    · intro h
      rw [h n (by omega)]
      exact ih.2 fun k hk => h k (by omega)
end Go.Proofs.Pow

namespace Go.Proofs.Pow

def sortL (xs : List Int) : List Int := xs.mergeSort fun x y => decide (x ≤ y)
/-- weaver k uses power in the hour h, too -/
def useP (m : PM) (k : Nat) (h : Int) : PM := { m with wvs := (List.range m.wvs.length).map fun i => if i = k then { shaft := (m.wv i).shaft, hours := sortL ((m.wv i).hours ++ [h]) } else m.wv i }
def extraF (m : PM) (k h : Nat) : Int := costF (useP m k (h : Int)) (fun _ => true) - costF m fun _ => true
def offerF (m : PM) (k h : Nat) : Option Int := if (m.wv k).hours.contains (h : Int) then none else some (extraF m k h)
def cheapF (m : PM) (k : Nat) : Option (Nat × Int) := leastF (offerF m k) 24
/-- what each adds in an order of coming -/
def addsF (m : PM) (l : List Nat) : List Int := (List.range m.wvs.length).map fun k => addF m l (l.findIdx fun x => decide (x = k))
theorem findIdx_at {l : List Nat} (hn : l.Nodup) {i : Nat} (hi : i < l.length) : l.findIdx (fun x => decide (x = l[i])) = i := by
  rw [List.findIdx_eq hi]
  refine ⟨by simp, fun j hj => ?_⟩
  rw [decide_eq_false_iff_not]
  intro e
  have := List.pairwise_iff_getElem.1 (List.nodup_iff_pairwise_ne.1 hn) j i (by omega) hi hj
  exact this e
theorem addsF_at {m : PM} {l : List Nat} (hn : l.Nodup) {i : Nat} (hi : i < l.length) (hk : l[i] < m.wvs.length) : (addsF m l)[l[i]]?.getD 0 = addF m l i := by
  unfold addsF
  rw [List.getElem?_map, List.getElem?_range hk]
  simp only [Option.map_some, Option.getD_some]
  rw [findIdx_at hn hi]
end Go.Proofs.Pow

namespace Go.Proofs.Pow

/-- how many of a group use power of shaft s in the hour h -/
def useI (m : PM) (g : List Int) (s h : Nat) : Nat := (g.filter fun k => m.drv s k.toNat && (m.wv k.toNat).hours.contains (h : Int)).length
def allI (n : Nat) : List Int := (List.range n).map fun k : Nat => (k : Int)
end Go.Proofs.Pow

namespace Go.Proofs.Pow
def threeM : PM := ⟨[⟨-1, 6⟩, ⟨0, 4⟩, ⟨0, 3⟩], [⟨1, [0, 1]⟩, ⟨1, [1, 2]⟩, ⟨2, [1]⟩]⟩
def sightF (l : List Int) (k : Nat) : Int := l[k]?.getD 0
/-- what one hour more costs, by the line -/
def extraL (m : PM) (k h : Nat) : Int := ((m.line (m.wv k).shaft).map fun x => if runsB m x.toNat h then 0 else (m.sh x.toNat).price).sum
end Go.Proofs.Pow

namespace Go.Proofs.Pet
open Go Go.RowKit
open Go.Proofs.Pow (PM Sh Wv POk)

def deskC (v1 v2 : Value) (f : Nat → Nat → Bool) : Array Value := (v1 :: v2 :: (List.range 54).map fun j => Value.bool (f (j / 6) (j % 6))).toArray
theorem deskC_size (v1 v2 : Value) (f : Nat → Nat → Bool) : (deskC v1 v2 f).size = 56 := by simp [deskC]
theorem deskC_cell (v1 v2 : Value) (f : Nat → Nat → Bool) {s k : Nat} (hs : s < 9) (hk : k < 6) : (deskC v1 v2 f)[2 + s * 6 + k]? = some (.bool (f s k)) := by
  unfold deskC
  have h1 : s * 6 + k < 54 := by omega
  have h2 : (s * 6 + k) / 6 = s := by omega
  have h3 : (s * 6 + k) % 6 = k := by omega
  rw [List.getElem?_toArray, show 2 + s * 6 + k = (s * 6 + k) + 1 + 1 by omega, List.getElem?_cons_succ, List.getElem?_cons_succ, List.getElem?_map, List.getElem?_range h1, Option.map_some, h2, h3]
theorem deskC_congr {v1 v2 : Value} {f g : Nat → Nat → Bool} (h : ∀ s k, s < 9 → k < 6 → f s k = g s k) : deskC v1 v2 f = deskC v1 v2 g := by
  unfold deskC
  congr 3
  refine List.map_congr_left fun j hj => ?_
  rw [List.mem_range] at hj
  rw [h (j / 6) (j % 6) (by omega) (by omega)]
theorem deskC_set (v1 v2 : Value) (f : Nat → Nat → Bool) {s k : Nat} (hs : s < 9) (hk : k < 6) (b : Bool) : (deskC v1 v2 f).setIfInBounds (2 + s * 6 + k) (.bool b) = deskC v1 v2 (fun x y => if x = s ∧ y = k then b else f x y) := by
  apply Array.ext_getElem?
  intro i
  rw [Array.getElem?_setIfInBounds, deskC_size]
  by_cases hi : 2 + s * 6 + k = i
  · subst hi
    rw [if_pos rfl, if_pos (by omega), deskC_cell _ _ _ hs hk, if_pos ⟨rfl, rfl⟩]
  · rw [if_neg hi]
    unfold deskC
    simp only [List.getElem?_toArray]
    match i with
    | 0 => rfl
    | 1 => rfl
    | i + 2 =>
      simp only [List.getElem?_cons_succ, List.getElem?_map]
      by_cases h54 : i < 54
      · rw [List.getElem?_range h54]
        simp only [Option.map_some]
        rw [if_neg (by omega)]
      · rw [List.getElem?_eq_none (by simp; omega)]; rfl
def drvC (m : PM) (s k : Nat) : Bool := decide (k < m.wvs.length) && m.drv s k
def DeskAt (w : World) (D : Nat) (m : PM) : Prop :=
  ∃ A1 c1 A2 c2, Blk w D 99 (deskC (.slice A1 m.shafts.length c1) (.slice A2 m.wvs.length c2) (drvC m)) ∧ m.shafts.length ≤ c1 ∧ c1 ≤ maxLen ∧ m.wvs.length ≤ c2 ∧ c2 ≤ maxLen ∧ ShsAt w A1 m.shafts ∧ WvsAt w A2 m.wvs
section
variable {w w' : World} {D : Nat} {m : PM}
theorem DeskAt.ext (h : DeskAt w D m) (he : Ext w w') : DeskAt w' D m := by
  obtain ⟨A1, c1, A2, c2, h1, h2, h3, h4, h5, h6, h7⟩ := h
  exact ⟨A1, c1, A2, c2, h1.ext he, h2, h3, h4, h5, h6.ext he, h7.ext he⟩
instance : Lift (DeskAt w D m) w w' (DeskAt w' D m) := ⟨fun he h => h.ext he⟩
theorem DeskAt.slices (h : DeskAt w D m) : ∃ A1 c1 A2 c2, w.cell? ⟨D, 0, none⟩ = some (.slice A1 m.shafts.length c1) ∧ w.cell? ⟨D, 1, none⟩ = some (.slice A2 m.wvs.length c2) ∧ PMVal w (.agg #[.slice A1 m.shafts.length c1, .slice A2 m.wvs.length c2]) m ∧ ShsAt w A1 m.shafts ∧ WvsAt w A2 m.wvs := by
  obtain ⟨A1, c1, A2, c2, h1, h2, h3, h4, h5, h6, h7⟩ := h
  exact ⟨A1, c1, A2, c2, h1.cell 0, h1.cell 1, ⟨A1, c1, A2, c2, rfl, h2, h3, h4, h5, h6, h7⟩, h6, h7⟩
theorem DeskAt.lt (h : DeskAt w D m) : D < w.heap.size := by
  obtain ⟨A1, c1, A2, c2, h1, _⟩ := h
  exact h1.lt
end
/-- a shaft of a line -/
theorem line_lt {m : PM} (hm : POk m) {k : Nat} (hk : k < m.wvs.length) {x : Int} (hx : x ∈ m.line (m.wv k).shaft) : 0 ≤ x ∧ x < m.shafts.length := by
  obtain ⟨h1, h2⟩ := hm.at_ k hk
  obtain ⟨s, hs⟩ : ∃ s : Nat, (m.wv k).shaft = s := ⟨_, (Int.toNat_of_nonneg h1).symm⟩
  rw [hs] at hx h2
  have := Pow.line_mem m hm.up s (by omega) x hx
  omega
end Go.Proofs.Pet
