/-
  The search for the first run, in plain Lean: what it finds is the first run of the reference's list that is best.
  The plan: which loom gets what, and that it keeps with the fewest changes. No program is named here.
-/
import Derived.Test.YtlekonngbmkdbaaJ02
namespace Go.Proofs.Pet
open Go Go.RowKit

/-! Runs, the last order first: what they cost, when they end, and that the table of costs has the least of them. -/
def lastPat (m : Mill) (l : Nat) : List Nat → Int
  | [] => m.laced[l]?.getD 0
  | x :: _ => m.pat x
def chR (m : Mill) (l : Nat) : List Nat → Int
  | [] => 0
  | k :: r => chR m l r + chg (lastPat m l r) (m.pat k)
def Mill.dys (m : Mill) (k : Nat) : Int := (m.orders[k]?.getD default).days
def Mill.byy (m : Mill) (k : Nat) : Int := (m.orders[k]?.getD default).by_
def dyR (m : Mill) (l : Nat) : List Nat → Int
  | [] => 0
  | k :: r => dyR m l r + m.change * chg (lastPat m l r) (m.pat k) + m.dys k
def tmR (m : Mill) (l : Nat) : List Nat → Bool
  | [] => true
  | k :: r => tmR m l r && decide (dyR m l (k :: r) ≤ m.byy k)
def sdR (m : Mill) : List Nat → Int
  | [] => 0
  | k :: r => sdR m r + m.dys k
theorem dyR_eq (m : Mill) (l : Nat) : ∀ r, dyR m l r = sdR m r + m.change * chR m l r
  | [] => by simp [dyR, sdR, chR]
  | k :: r => by
    rw [dyR, sdR, chR, dyR_eq m l r, Int.mul_add]; omega
theorem chR_bd (m : Mill) (l : Nat) : ∀ r, 0 ≤ chR m l r ∧ chR m l r ≤ r.length
  | [] => by simp [chR]
  | k :: r => by
    have := chR_bd m l r
    have h := chg_bd (lastPat m l r) (m.pat k)
    rw [chR, List.length_cons]; omega

/-- a list has just the numbers of a set, each once -/
def IsSet (s : Nat) (r : List Nat) : Prop := r.Nodup ∧ ∀ j, j ∈ r ↔ s.testBit j = true
theorem testBit_rem (s k j : Nat) : (sdiff s (2 ^ k)).testBit j = (s.testBit j && !decide (k = j)) := by
  rw [testBit_sdiff, Nat.testBit_two_pow]
theorem IsSet.nil_iff {s : Nat} : IsSet s [] ↔ s = 0 := by
  constructor
  · rintro ⟨_, h⟩
    apply Nat.eq_of_testBit_eq
    intro i
    have := h i
    simp at this
    simp [this]
  · rintro rfl
    exact ⟨List.nodup_nil, fun j => by simp⟩
theorem IsSet.cons_iff {s k : Nat} {r : List Nat} : IsSet s (k :: r) ↔ s.testBit k = true ∧ IsSet (sdiff s (2 ^ k)) r := by
  constructor
  · rintro ⟨h1, h2⟩
    rw [List.nodup_cons] at h1
    refine ⟨(h2 k).1 (by simp), h1.2, fun j => ?_⟩
    rw [testBit_rem]
    have h3 := h2 j
    rw [List.mem_cons] at h3
    constructor
    · intro h4
      have hne : k ≠ j := by rintro rfl; exact h1.1 h4
      simp [h3.1 (.inr h4), hne]
    · intro h4
      rw [Bool.and_eq_true] at h4
      have hne : k ≠ j := by simpa using h4.2
      rcases h3.2 h4.1 with h5 | h5
      · exact absurd h5.symm hne
      · exact h5
  · rintro ⟨h0, h1, h2⟩
    refine ⟨List.nodup_cons.2 ⟨fun h => ?_, h1⟩, fun j => ?_⟩
    · have := (h2 k).1 h
      rw [testBit_rem] at this
      simp at this
    · rw [List.mem_cons, h2 j, testBit_rem]
      by_cases e : k = j
      · subst e; simp [h0]
      · simp only [e, decide_false, Bool.not_false, Bool.and_true]
        constructor
        · rintro (h | h)
          · exact absurd h.symm e
          · exact h
        · exact .inr
theorem daysOf_rem (m : Mill) (s k : Nat) (h : s.testBit k = true) : ∀ n, daysOf m n s = daysOf m n (sdiff s (2 ^ k)) + if k < n then m.dys k else 0
  | 0 => by simp [daysOf]
  | n + 1 => by
    rw [daysOf, daysOf, daysOf_rem m s k h n, testBit_rem]
    by_cases e : k = n
    · subst e
      rw [if_neg (show ¬ k < k by omega), if_pos (show k < k + 1 by omega), h]
      simp [Mill.dys]
    · simp only [e, decide_false, Bool.not_false, Bool.and_true]
      by_cases e2 : k < n
      · rw [if_pos e2, if_pos (show k < n + 1 by omega)]; omega
      · rw [if_neg e2, if_neg (show ¬ k < n + 1 by omega)]; omega
theorem daysOf_zero (m : Mill) : ∀ n, daysOf m n 0 = 0
  | 0 => rfl
  | n + 1 => by rw [daysOf, daysOf_zero m n]; simp
theorem daysOf_set (m : Mill) (n : Nat) : ∀ (r : List Nat) (s : Nat), IsSet s r → (∀ j, j ∈ r → j < n) → daysOf m n s = sdR m r
  | [], s, h, _ => by rw [IsSet.nil_iff.1 h, daysOf_zero]; rfl
  | k :: r, s, h, hb => by
    rw [IsSet.cons_iff] at h
    rw [daysOf_rem m s k h.1, daysOf_set m n r _ h.2 (fun j hj => hb j (by simp [hj])), if_pos (hb k (by simp)), sdR]

theorem fold_least (p : Nat → Prop) [DecidablePred p] (c : Nat → Int) : ∀ (l : List Nat) (a : Int),
    l.foldl (fun n x => if p x then n else min n (c x)) a ≤ a ∧ (∀ x, x ∈ l → ¬ p x → l.foldl (fun n x => if p x then n else min n (c x)) a ≤ c x) ∧
      (l.foldl (fun n x => if p x then n else min n (c x)) a = a ∨ ∃ x, x ∈ l ∧ ¬ p x ∧ l.foldl (fun n x => if p x then n else min n (c x)) a = c x)
  | [], a => by simp
  | y :: l, a => by
    have ih := fold_least p c l (if p y then a else min a (c y))
    rw [List.foldl_cons]
    generalize l.foldl (fun n x => if p x then n else min n (c x)) (if p y then a else min a (c y)) = F at *
    obtain ⟨h1, h2, h3⟩ := ih
    by_cases hy : p y
    · rw [if_pos hy] at h1 h3
      refine ⟨h1, fun x hx hp => ?_, ?_⟩
      · rcases List.mem_cons.1 hx with rfl | hx
        · exact absurd hy hp
        · exact h2 x hx hp
      · rcases h3 with h3 | ⟨x, hx, h4⟩
        · exact .inl h3
        · exact .inr ⟨x, by simp [hx], h4⟩
    · rw [if_neg hy] at h1 h3
      refine ⟨by omega, fun x hx hp => ?_, ?_⟩
      · rcases List.mem_cons.1 hx with rfl | hx
        · omega
        · exact h2 x hx hp
      · rcases h3 with h3 | ⟨x, hx, h4⟩
        · by_cases hm : a ≤ c y
          · exact .inl (by omega)
          · exact .inr ⟨y, by simp, hy, by omega⟩
        · exact .inr ⟨x, by simp [hx], h4⟩
theorem stepL_least (m : Mill) (num : Nat → Nat → Int) (rest order : Nat) (l : List Nat) :
    (∀ x, x ∈ l → num rest x ≠ 99 → stepL m num rest order l ≤ num rest x + chg (m.pat x) (m.pat order)) ∧
      (stepL m num rest order l = 99 ∨ ∃ x, x ∈ l ∧ num rest x ≠ 99 ∧ stepL m num rest order l = num rest x + chg (m.pat x) (m.pat order)) := by
  have h := fold_least (fun x => num rest x = 99) (fun x => num rest x + chg (m.pat x) (m.pat order)) l 99
  exact ⟨h.2.1, h.2.2⟩
theorem check_change {m : Mill} (hch : checkE m = 0) : 0 ≤ m.change := (check_orders hch).2.1

theorem cost_le (m : Mill) (l : Nat) (hc : 0 ≤ m.change) : ∀ (r : List Nat) (k s : Nat), IsSet s (k :: r) → s < 9223372036854775808 → (∀ j, j ∈ k :: r → j < m.orders.length) → (∀ j, j ∈ k :: r → m.weaves l j = true) →
    tmR m l (k :: r) = true → costC m l s k ≤ chR m l (k :: r)
  | r, k, s, hs, h63, hb, hw, ht => by
    have hs' := IsSet.cons_iff.1 hs
    have hlt := sdiff_lt h63 hs'.1
    have hbd := costC_bd m l s k
    rw [costC_in m l s k h63 hs'.1] at hbd ⊢
    have hN : stepN m (costC m l) l (sdiff s (2 ^ k)) k ≤ chR m l (k :: r) := by
      unfold stepN
      match r, hs', hb, hw, ht with
      | [], hs', hb, hw, ht =>
        rw [if_pos (IsSet.nil_iff.1 hs'.2)]
        simp [chR, lastPat]
      | x :: r, hs', hb, hw, ht =>
        rw [if_neg (by intro e; rw [e] at hs'; have := (IsSet.cons_iff.1 hs'.2).1; simp at this)]
        rw [tmR, Bool.and_eq_true] at ht
        have ih := cost_le m l hc r x (sdiff s (2 ^ k)) hs'.2 (by omega) (fun j hj => hb j (List.mem_cons_of_mem _ hj)) (fun j hj => hw j (List.mem_cons_of_mem _ hj)) ht.1
        have h1 := stepL_least m (costC m l) (sdiff s (2 ^ k)) k (bits m.orders.length (sdiff s (2 ^ k)))
        have h2 := stepL_bd m (costC m l) (sdiff s (2 ^ k)) k (fun x => costC_bd m l _ x) (bits m.orders.length (sdiff s (2 ^ k)))
        have h3 : x ∈ bits m.orders.length (sdiff s (2 ^ k)) := mem_bits.2 ⟨hb x (by simp), (IsSet.cons_iff.1 hs'.2).1⟩
        have h4 := chg_bd (m.pat x) (m.pat k)
        rw [chR]
        simp only [lastPat]
        by_cases e : costC m l (sdiff s (2 ^ k)) x = 99
        · omega
        · have := h1.1 x h3 e
          omega
    rw [tmR, Bool.and_eq_true, decide_eq_true_eq] at ht
    have hd := ht.2
    rw [dyR_eq, ← daysOf_set m m.orders.length (k :: r) s hs hb] at hd
    have hm : m.change * stepN m (costC m l) l (sdiff s (2 ^ k)) k ≤ m.change * chR m l (k :: r) := Int.mul_le_mul_of_nonneg_left hN hc
    unfold stepS at hbd ⊢
    rw [if_neg (by rw [hw k (by simp)]; simp)] at hbd ⊢
    dsimp only at hbd ⊢
    by_cases h9 : 99 ≤ stepN m (costC m l) l (sdiff s (2 ^ k)) k
    · rw [if_pos h9]; omega
    · rw [if_neg h9, if_neg]
      · exact hN
      · unfold Mill.byy at hd; omega
  termination_by r => r.length

theorem cost_has (m : Mill) (l : Nat) : ∀ (s k : Nat), s < 2 ^ m.orders.length → m.orders.length ≤ 7 → costC m l s k < 99 →
    ∃ r, IsSet s (k :: r) ∧ (∀ j, j ∈ k :: r → m.weaves l j = true) ∧ tmR m l (k :: r) = true ∧ chR m l (k :: r) = costC m l s k := by
  intro s
  induction s using Nat.strongRecOn with
  | _ s ih =>
    intro k hs h7 hlt
    have h128 : s < 128 := by
      have h1 : 2 ^ m.orders.length ≤ 2 ^ 7 := Nat.pow_le_pow_right (by omega) h7
      have h2 : (2 : Nat) ^ 7 = 128 := by decide
      omega
    cases hb : s.testBit k with
    | false => rw [costC_out m l s k hb] at hlt; omega
    | true =>
      have hsl := sdiff_lt (show s < 9223372036854775808 by omega) hb
      have hkn : k < m.orders.length := by
        have h1 := pow_le_of_testBit hb
        exact (Nat.pow_lt_pow_iff_right (by omega : 1 < 2)).1 (by omega)
      rw [costC_in m l s k (by omega) hb] at hlt ⊢
      unfold stepS at hlt ⊢
      by_cases hw : m.weaves l k = false
      · rw [if_pos hw] at hlt; omega
      rw [if_neg hw] at hlt ⊢
      dsimp only at hlt ⊢
      by_cases h9 : 99 ≤ stepN m (costC m l) l (sdiff s (2 ^ k)) k
      · rw [if_pos h9] at hlt; omega
      rw [if_neg h9] at hlt ⊢
      by_cases hd : (m.orders[k]?.getD default).by_ < daysOf m m.orders.length s + m.change * stepN m (costC m l) l (sdiff s (2 ^ k)) k
      · rw [if_pos hd] at hlt; omega
      rw [if_neg hd] at hlt ⊢
      have hwk : m.weaves l k = true := by simpa using hw
      have fin : ∀ r, IsSet (sdiff s (2 ^ k)) r → (∀ j, j ∈ r → m.weaves l j = true) → tmR m l r = true → chR m l (k :: r) = stepN m (costC m l) l (sdiff s (2 ^ k)) k →
          ∃ r, IsSet s (k :: r) ∧ (∀ j, j ∈ k :: r → m.weaves l j = true) ∧ tmR m l (k :: r) = true ∧ chR m l (k :: r) = stepN m (costC m l) l (sdiff s (2 ^ k)) k := by
        intro r h1 h2 h3 h4
        have hset : IsSet s (k :: r) := IsSet.cons_iff.2 ⟨hb, h1⟩
        refine ⟨r, hset, fun j hj => ?_, ?_, h4⟩
        · rcases List.mem_cons.1 hj with rfl | hj
          · exact hwk
          · exact h2 j hj
        · rw [tmR, h3, Bool.true_and, decide_eq_true_eq, dyR_eq, h4, ← daysOf_set m m.orders.length (k :: r) s hset]
          · unfold Mill.byy; omega
          · intro j hj
            have h5 := pow_le_of_testBit ((hset.2 j).1 hj)
            exact (Nat.pow_lt_pow_iff_right (by omega : 1 < 2)).1 (by omega)
      by_cases h0 : sdiff s (2 ^ k) = 0
      · refine fin [] (IsSet.nil_iff.2 h0) (by simp) rfl ?_
        unfold stepN
        rw [if_pos h0]
        simp [chR, lastPat]
      · have hN : stepN m (costC m l) l (sdiff s (2 ^ k)) k = stepL m (costC m l) (sdiff s (2 ^ k)) k (bits m.orders.length (sdiff s (2 ^ k))) := by unfold stepN; rw [if_neg h0]
        have h1 := stepL_least m (costC m l) (sdiff s (2 ^ k)) k (bits m.orders.length (sdiff s (2 ^ k)))
        rw [← hN] at h1
        rcases h1.2 with h2 | ⟨x, hx, h3, h4⟩
        · omega
        · have hbd := costC_bd m l (sdiff s (2 ^ k)) x
          obtain ⟨r, g1, g2, g3, g4⟩ := ih _ hsl x (by omega) h7 (by omega)
          refine fin (x :: r) g1 g2 g3 ?_
          rw [chR, g4, h4]
          rfl

theorem fold_min : ∀ (l : List Int) (a : Int), l.foldl min a ≤ a ∧ (∀ x, x ∈ l → l.foldl min a ≤ x) ∧ (l.foldl min a = a ∨ l.foldl min a ∈ l)
  | [], a => by simp
  | y :: l, a => by
    obtain ⟨h1, h2, h3⟩ := fold_min l (min a y)
    rw [List.foldl_cons]
    generalize l.foldl min (min a y) = F at *
    refine ⟨by omega, fun x hx => ?_, ?_⟩
    · rcases List.mem_cons.1 hx with rfl | hx
      · omega
      · exact h2 x hx
    · rcases h3 with h3 | h3
      · by_cases e : a ≤ y
        · exact .inl (by omega)
        · exact .inr (by rw [h3, show min a y = y by omega]; simp)
      · exact .inr (by simp [h3])
/-- the fewest changes of a loom for a set of orders; 99 if there is no run in time -/
def numC (m : Mill) (l s : Nat) : Int := if s = 0 then 0 else ((List.range 7).map (costC m l s)).foldl min 99
theorem numC_bd (m : Mill) (l s : Nat) : 0 ≤ numC m l s ∧ numC m l s ≤ 99 := by
  unfold numC
  split
  · omega
  · have h := fold_min ((List.range 7).map (costC m l s)) 99
    refine ⟨?_, h.1⟩
    rcases h.2.2 with h2 | h2
    · omega
    · obtain ⟨k, _, hk⟩ := List.mem_map.1 h2
      have := costC_bd m l s k
      omega
theorem numC_le (m : Mill) (l s : Nat) (hc : 0 ≤ m.change) (hs : s < 2 ^ m.orders.length) (h7 : m.orders.length ≤ 7) (r : List Nat) (hr : IsSet s r) (hw : ∀ j, j ∈ r → m.weaves l j = true) (ht : tmR m l r = true) : numC m l s ≤ chR m l r := by
  have h128 : s < 128 := by
    have h1 : 2 ^ m.orders.length ≤ 2 ^ 7 := Nat.pow_le_pow_right (by omega) h7
    have h2 : (2 : Nat) ^ 7 = 128 := by decide
    omega
  unfold numC
  match r, hr, hw, ht with
  | [], hr, hw, ht => rw [if_pos (IsSet.nil_iff.1 hr)]; simp [chR]
  | k :: r, hr, hw, ht =>
    have hb : ∀ j, j ∈ k :: r → j < m.orders.length := by
      intro j hj
      have h5 := pow_le_of_testBit ((hr.2 j).1 hj)
      exact (Nat.pow_lt_pow_iff_right (by omega : 1 < 2)).1 (by omega)
    rw [if_neg (by rintro rfl; have := (IsSet.cons_iff.1 hr).1; simp at this)]
    have h1 := cost_le m l hc r k s hr (by omega) hb hw ht
    have h2 := (fold_min ((List.range 7).map (costC m l s)) 99).2.1 (costC m l s k) (List.mem_map.2 ⟨k, List.mem_range.2 (by have := hb k (by simp); omega), rfl⟩)
    omega
theorem numC_has (m : Mill) (l s : Nat) (hs : s < 2 ^ m.orders.length) (h7 : m.orders.length ≤ 7) (h : numC m l s < 99) :
    ∃ r, IsSet s r ∧ (∀ j, j ∈ r → m.weaves l j = true) ∧ tmR m l r = true ∧ chR m l r = numC m l s := by
  unfold numC at h ⊢
  by_cases h0 : s = 0
  · rw [if_pos h0] at *
    exact ⟨[], IsSet.nil_iff.2 h0, by simp, rfl, rfl⟩
  · rw [if_neg h0] at *
    rcases (fold_min ((List.range 7).map (costC m l s)) 99).2.2 with h2 | h2
    · omega
    · obtain ⟨k, _, hk⟩ := List.mem_map.1 h2
      rw [← hk] at h ⊢
      obtain ⟨r, g⟩ := cost_has m l s k hs h7 h
      exact ⟨_, g⟩
end Go.Proofs.Pet

namespace Go.Proofs.Pet
open Go Go.RowKit

/-! Ways to share orders among looms: the least of them, by sets from loom to loom and by trying all. -/
/-- v is the least of what there is, less than 0 if there is nothing -/
def Least (P : Int → Prop) (v : Int) : Prop := (∀ T, P T → 0 ≤ v ∧ v ≤ T) ∧ (0 ≤ v → P v) ∧ -1 ≤ v
theorem Least.congr {P Q : Int → Prop} {v : Int} (h : Least P v) (e : ∀ T, P T ↔ Q T) : Least Q v :=
  ⟨fun T hT => h.1 T ((e T).2 hT), fun h0 => (e v).1 (h.2.1 h0), h.2.2⟩
theorem Least.unique {P : Int → Prop} {v v' : Int} (h : Least P v) (h' : Least P v') : v = v' := by
  obtain ⟨h1, h2, h3⟩ := h
  obtain ⟨g1, g2, g3⟩ := h'
  by_cases e : 0 ≤ v
  · have a := g1 v (h2 e)
    have b := h1 v' (g2 a.1)
    omega
  · by_cases e' : 0 ≤ v'
    · have := h1 v' (g2 e'); omega
    · omega
def bestOf (l : List Int) : Int := l.foldl (fun b v => if 0 ≤ v ∧ (b < 0 ∨ v < b) then v else b) (-1)
theorem bestOf_snoc (l : List Int) (v : Int) : bestOf (l ++ [v]) = if 0 ≤ v ∧ (bestOf l < 0 ∨ v < bestOf l) then v else bestOf l := by
  unfold bestOf; rw [List.foldl_append]; rfl
theorem bestOf_least (l : List Int) : Least (fun T => 0 ≤ T ∧ T ∈ l) (bestOf l) := by
  suffices ∀ n, Least (fun T => 0 ≤ T ∧ T ∈ l.take n) (bestOf (l.take n)) from by simpa using this l.length
  intro n
  induction n with
  | zero => exact ⟨fun T h => by simp at h, fun h => by simp [bestOf] at h, by simp [bestOf]⟩
  | succ n ih =>
    by_cases hn : n < l.length
    · rw [List.take_succ_eq_append_getElem hn, bestOf_snoc]
      generalize bestOf (l.take n) = b at *
      generalize l.take n = p at *
      generalize l[n] = v at *
      obtain ⟨h1, h2, h3⟩ := ih
      split
      · rename_i h
        refine ⟨fun T hT => ?_, fun _ => by simp [h.1], by omega⟩
        dsimp only at hT h1 h2
        rw [List.mem_append, List.mem_singleton] at hT
        rcases hT.2 with h4 | rfl
        · have := h1 T ⟨hT.1, h4⟩; omega
        · omega
      · rename_i h
        refine ⟨fun T hT => ?_, fun h0 => ⟨h0, List.mem_append.2 (.inl (h2 h0).2)⟩, h3⟩
        dsimp only at hT h1 h2
        rw [List.mem_append, List.mem_singleton] at hT
        rcases hT.2 with h4 | rfl
        · exact h1 T ⟨hT.1, h4⟩
        · omega
    · rw [List.take_of_length_le (by omega)] at ih ⊢
      exact ih

def tot (t : Nat → Nat → Int) (own : Nat → Nat) : Nat → Int
  | 0 => 0
  | n + 1 => tot t own n + t n (own n)
/-- the sum of what looms have, less than 0 if one cannot be -/
def sumT (t : Nat → Nat → Int) (own : Nat → Nat) : Nat → Int
  | 0 => 0
  | n + 1 => if sumT t own n < 0 then -1 else if t n (own n) < 0 then -1 else sumT t own n + t n (own n)
theorem sumT_least (t : Nat → Nat → Int) (own : Nat → Nat) : ∀ n, Least (fun T => (∀ i, i < n → 0 ≤ t i (own i)) ∧ T = tot t own n) (sumT t own n) ∧ (0 ≤ sumT t own n → sumT t own n = tot t own n ∧ ∀ i, i < n → 0 ≤ t i (own i))
  | 0 => by
    refine ⟨⟨fun T h => ?_, fun _ => ⟨fun i h => by omega, rfl⟩, by simp [sumT]⟩, fun _ => ⟨rfl, fun i h => by omega⟩⟩
    have := h.2
    simp only [tot] at this
    simp [sumT, this]
  | n + 1 => by
    obtain ⟨⟨h1, h2, h3⟩, h4⟩ := sumT_least t own n
    have key : (0 ≤ sumT t own (n + 1) → sumT t own (n + 1) = tot t own (n + 1) ∧ ∀ i, i < n + 1 → 0 ≤ t i (own i)) := by
      intro h
      unfold sumT at h ⊢
      split at h
      · omega
      split at h
      · omega
      rename_i g1 g2
      rw [if_neg g1, if_neg g2, tot]
      obtain ⟨g3, g4⟩ := h4 (by omega)
      refine ⟨by omega, fun i hi => ?_⟩
      by_cases e : i = n
      · subst e; omega
      · exact g4 i (by omega)
    refine ⟨⟨fun T hT => ?_, fun h => ⟨(key h).2, (key h).1⟩, ?_⟩, key⟩
    · have g := h1 (tot t own n) ⟨fun i hi => hT.1 i (by omega), rfl⟩
      have g2 := hT.1 n (by omega)
      have g3 := h4 g.1
      have g5 := hT.2
      rw [tot] at g5
      unfold sumT
      rw [if_neg (by omega), if_neg (by omega)]
      omega
    · unfold sumT
      split
      · omega
      split <;> omega

def bump (own : Nat → Nat) (i k : Nat) : Nat → Nat := fun j => if j = i then own j + 2 ^ k else own j
/-- the fewest if the looms have some sets, and get further orders -/
def shareF (t : Nat → Nat → Int) (n : Nat) : List Nat → (Nat → Nat) → Int
  | [], own => sumT t own n
  | k :: ks, own => bestOf ((List.range n).map fun i => shareF t n ks (bump own i k))
def maskOf (φ : Nat → Nat) : List Nat → Nat → Nat
  | [], _ => 0
  | k :: ks, i => (if φ k = i then 2 ^ k else 0) + maskOf φ ks i
/-- a way to share -/
def Way (t : Nat → Nat → Int) (n : Nat) (ks : List Nat) (own : Nat → Nat) (T : Int) : Prop :=
  ∃ φ : Nat → Nat, (∀ k, k ∈ ks → φ k < n) ∧ (∀ i, i < n → 0 ≤ t i (own i + maskOf φ ks i)) ∧ T = tot t (fun i => own i + maskOf φ ks i) n
theorem tot_congr (t : Nat → Nat → Int) (own own' : Nat → Nat) : ∀ n, (∀ i, i < n → own i = own' i) → tot t own n = tot t own' n
  | 0, _ => rfl
  | n + 1, h => by rw [tot, tot, tot_congr t own own' n (fun i hi => h i (by omega)), h n (by omega)]
theorem maskOf_congr (φ φ' : Nat → Nat) : ∀ ks i, (∀ k, k ∈ ks → φ k = φ' k) → maskOf φ ks i = maskOf φ' ks i
  | [], _, _ => rfl
  | k :: ks, i, h => by rw [maskOf, maskOf, maskOf_congr φ φ' ks i (fun j hj => h j (by simp [hj])), h k (by simp)]
theorem Way.cons_iff (t : Nat → Nat → Int) (n k : Nat) (ks : List Nat) (hk : k ∉ ks) (own : Nat → Nat) (T : Int) : Way t n (k :: ks) own T ↔ ∃ i, i < n ∧ Way t n ks (bump own i k) T := by
  have e : ∀ (φ : Nat → Nat) (i : Nat), bump own (φ k) k i + maskOf φ ks i = own i + maskOf φ (k :: ks) i := by
    intro φ i
    rw [maskOf, bump]
    by_cases e : i = φ k
    · rw [if_pos e, if_pos e.symm]; omega
    · rw [if_neg e, if_neg (fun h => e h.symm)]; omega
  constructor
  · rintro ⟨φ, h1, h2, h3⟩
    refine ⟨φ k, h1 k (by simp), φ, fun j hj => h1 j (by simp [hj]), fun i hi => ?_, ?_⟩
    · rw [e]; exact h2 i hi
    · rw [h3]; exact tot_congr t _ _ n fun i _ => (e φ i).symm
  · rintro ⟨i, hi, φ, h1, h2, h3⟩
    have hφ : ∀ j, j ∈ ks → φ j = (fun j => if j = k then i else φ j) j := by
      intro j hj
      have : j ≠ k := by rintro rfl; exact hk hj
      simp [this]
    have e2 : ∀ j, bump own i k j + maskOf φ ks j = own j + maskOf (fun j => if j = k then i else φ j) (k :: ks) j := by
      intro j
      have h := e (fun j => if j = k then i else φ j) j
      simp only [if_true] at h
      rw [← h, maskOf_congr _ _ ks j hφ]
    refine ⟨fun j => if j = k then i else φ j, fun j hj => ?_, fun j hj => ?_, ?_⟩
    · rcases List.mem_cons.1 hj with rfl | hj
      · simpa using hi
      · rw [← hφ j hj]; exact h1 j hj
    · rw [← e2]; exact h2 j hj
    · rw [h3]; exact tot_congr t _ _ n fun j _ => e2 j
theorem shareF_least (t : Nat → Nat → Int) (n : Nat) : ∀ (ks : List Nat) (own : Nat → Nat), ks.Nodup → Least (Way t n ks own) (shareF t n ks own)
  | [], own, _ => by
    refine (sumT_least t own n).1.congr fun T => ?_
    constructor
    · rintro ⟨h1, h2⟩
      exact ⟨fun _ => 0, by simp, by simpa [maskOf] using h1, by simpa [maskOf] using h2⟩
    · rintro ⟨φ, h1, h2, h3⟩
      exact ⟨by simpa [maskOf] using h2, by simpa [maskOf] using h3⟩
  | k :: ks, own, hd => by
    rw [List.nodup_cons] at hd
    have ih := fun own => shareF_least t n ks own hd.2
    unfold shareF
    obtain ⟨b1, b2, b3⟩ := bestOf_least ((List.range n).map fun i => shareF t n ks (bump own i k))
    refine ⟨fun T hT => ?_, fun h0 => ?_, b3⟩
    · rw [Way.cons_iff t n k ks hd.1] at hT
      obtain ⟨i, hi, hT⟩ := hT
      have h1 := (ih (bump own i k)).1 T hT
      have h2 := b1 _ ⟨h1.1, List.mem_map.2 ⟨i, List.mem_range.2 hi, rfl⟩⟩
      omega
    · obtain ⟨_, h2⟩ := b2 h0
      obtain ⟨i, hi, h3⟩ := List.mem_map.1 h2
      rw [Way.cons_iff t n k ks hd.1]
      refine ⟨i, List.mem_range.1 hi, ?_⟩
      rw [← h3]
      refine (ih _).2.1 ?_
      rw [h3]; exact h0

theorem maskOf_testBit (φ : Nat → Nat) : ∀ (ks : List Nat) (i b : Nat), ks.Nodup → (∀ k, k ∈ ks → k < 60) → (maskOf φ ks i).testBit b = decide (b ∈ ks ∧ φ b = i)
  | [], i, b, _, _ => by simp [maskOf]
  | k :: ks, i, b, hd, hb => by
    rw [List.nodup_cons] at hd
    have ih := fun b => maskOf_testBit φ ks i b hd.2 (fun j hj => hb j (by simp [hj]))
    rw [maskOf]
    by_cases e : φ k = i
    · have hx : maskOf φ ks i < 2 ^ 60 := by
        apply Nat.lt_pow_two_of_testBit
        intro j hj
        rw [ih j, decide_eq_false_iff_not]
        rintro ⟨h, _⟩
        have := hb j (by simp [h]); omega
      have hk : (2 : Nat) ^ k < 2 ^ 60 := (Nat.pow_lt_pow_iff_right (by omega)).2 (hb k (by simp))
      have h60 : (2 : Nat) ^ 60 = 1152921504606846976 := by decide
      have hz : 2 ^ k &&& maskOf φ ks i = 0 := by
        apply Nat.eq_of_testBit_eq
        intro j
        rw [Nat.testBit_and, Nat.testBit_two_pow, ih j, Nat.zero_testBit]
        by_cases e2 : k = j
        · subst e2; simp [hd.1]
        · simp [e2]
      rw [if_pos e, add_or (by omega) (by omega) hz, Nat.testBit_or, Nat.testBit_two_pow, ih b]
      by_cases e2 : k = b
      · subst e2; simp [e]
      · have : ¬ b = k := fun h => e2 h.symm
        simp [e2, this]
    · rw [if_neg e, Nat.zero_add, ih b]
      by_cases e2 : b = k
      · subst e2; simp [e, hd.1]
      · simp [e2]

/-- sets for looms that together are a set, and have nothing in common -/
def Part (num : Nat → Nat → Int) (L all : Nat) (T : Int) : Prop :=
  ∃ f : Nat → Nat, (∀ i, i < L → num i (f i) < 99) ∧ T = tot num f L ∧ (∀ b, all.testBit b = true ↔ ∃ i, i < L ∧ (f i).testBit b = true) ∧ ∀ i j b, i < L → j < L → (f i).testBit b = true → (f j).testBit b = true → i = j
theorem pickA_least (num rest : Nat → Int) (all : Nat) : ∀ c,
    (∀ d, d < c → (all - d) &&& all = all - d → num (all - d) < 99 → rest (sdiff all (all - d)) < 297 → (pickA num rest all c).1 ≤ num (all - d) + rest (sdiff all (all - d))) ∧
      (pickA num rest all c = (297, 0) ∨ ∃ d, d < c ∧ (all - d) &&& all = all - d ∧ num (all - d) < 99 ∧ rest (sdiff all (all - d)) < 297 ∧ pickA num rest all c = (num (all - d) + rest (sdiff all (all - d)), all - d) ∧ (pickA num rest all c).1 < 297) ∧ (pickA num rest all c).1 ≤ 297
  | 0 => ⟨fun d h => by omega, .inl rfl, by simp [pickA]⟩
  | c + 1 => by
    obtain ⟨h1, h2, h3⟩ := pickA_least num rest all c
    unfold pickA
    dsimp only
    generalize pickA num rest all c = p at *
    by_cases ho : (all - c) &&& all = all - c
    · rw [if_pos ho]
      by_cases hg : num (all - c) < 99 ∧ rest (sdiff all (all - c)) < 297 ∧ num (all - c) + rest (sdiff all (all - c)) < p.1
      · rw [if_pos hg]
        refine ⟨fun d hd g1 g2 g3 => ?_, .inr ⟨c, by omega, ho, hg.1, hg.2.1, rfl, by dsimp only; omega⟩, by dsimp only; omega⟩
        by_cases e : d = c
        · subst e; dsimp only; omega
        · have := h1 d (by omega) g1 g2 g3
          dsimp only; omega
      · rw [if_neg hg]
        refine ⟨fun d hd g1 g2 g3 => ?_, ?_, h3⟩
        · by_cases e : d = c
          · subst e
            have : ¬ (num (all - d) + rest (sdiff all (all - d)) < p.1) := fun h => hg ⟨g2, g3, h⟩
            omega
          · exact h1 d (by omega) g1 g2 g3
        · rcases h2 with h2 | ⟨d, hd, h2⟩
          · exact .inl h2
          · exact .inr ⟨d, by omega, h2⟩
    · rw [if_neg ho]
      refine ⟨fun d hd g1 g2 g3 => ?_, ?_, h3⟩
      · by_cases e : d = c
        · subst e; exact absurd g1 ho
        · exact h1 d (by omega) g1 g2 g3
      · rcases h2 with h2 | ⟨d, hd, h2⟩
        · exact .inl h2
        · exact .inr ⟨d, by omega, h2⟩
theorem sub_testBit {own all : Nat} : own &&& all = own ↔ ∀ b, own.testBit b = true → all.testBit b = true := by
  constructor
  · intro h b hb
    rw [← h, Nat.testBit_and, Bool.and_eq_true] at hb
    exact hb.2
  · intro h
    apply Nat.eq_of_testBit_eq
    intro b
    rw [Nat.testBit_and]
    cases hb : own.testBit b
    · rfl
    · rw [h b hb]; rfl
theorem tot_bd (num : Nat → Nat → Int) (f : Nat → Nat) : ∀ L, (∀ i, i < L → num i (f i) < 99) → tot num f L ≤ 98 * L
  | 0, _ => by simp [tot]
  | L + 1, h => by have := tot_bd num f L (fun i hi => h i (by omega)); have := h L (by omega); rw [tot]; omega
theorem Part.zero_iff {num : Nat → Nat → Int} {all : Nat} {T : Int} : Part num 0 all T ↔ all = 0 ∧ T = 0 := by
  constructor
  · rintro ⟨f, _, h2, h3, _⟩
    refine ⟨?_, h2⟩
    apply Nat.eq_of_testBit_eq
    intro b
    rw [Nat.zero_testBit]
    cases hb : all.testBit b
    · rfl
    · obtain ⟨i, hi, _⟩ := (h3 b).1 hb
      omega
  · rintro ⟨rfl, rfl⟩
    exact ⟨fun _ => 0, fun i h => by omega, rfl, fun b => by simp, fun i j b h => by omega⟩
theorem Part.succ_iff {num : Nat → Nat → Int} {L all : Nat} {T : Int} : Part num (L + 1) all T ↔ ∃ own T', own &&& all = own ∧ num L own < 99 ∧ Part num L (sdiff all own) T' ∧ T = T' + num L own := by
  constructor
  · rintro ⟨f, h1, h2, h3, h4⟩
    refine ⟨f L, tot num f L, sub_testBit.2 fun b hb => (h3 b).2 ⟨L, by omega, hb⟩, h1 L (by omega), ⟨f, fun i hi => h1 i (by omega), rfl, fun b => ?_, fun i j b hi hj => h4 i j b (by omega) (by omega)⟩, h2⟩
    rw [testBit_sdiff, Bool.and_eq_true, h3 b]
    constructor
    · rintro ⟨⟨i, hi, hb⟩, hn⟩
      refine ⟨i, ?_, hb⟩
      by_cases e : i = L
      · subst e; simp [hb] at hn
      · omega
    · rintro ⟨i, hi, hb⟩
      refine ⟨⟨i, by omega, hb⟩, ?_⟩
      cases hL : (f L).testBit b
      · rfl
      · have := h4 i L b (by omega) (by omega) hb hL
        omega
  · rintro ⟨own, T', ho, hn, ⟨f, h1, h2, h3, h4⟩, rfl⟩
    have e : ∀ i, i < L → (fun i => if i = L then own else f i) i = f i := fun i hi => by simp [show i ≠ L by omega]
    have hsub : ∀ i b, i < L → (f i).testBit b = true → own.testBit b = false := by
      intro i b hi hb
      have := (h3 b).2 ⟨i, hi, hb⟩
      rw [testBit_sdiff, Bool.and_eq_true] at this
      simpa using this.2
    refine ⟨fun i => if i = L then own else f i, fun i hi => ?_, ?_, fun b => ?_, fun i j b hi hj hb1 hb2 => ?_⟩
    · by_cases e2 : i = L
      · subst e2; simpa using hn
      · simp only [e2, if_false]; exact h1 i (by omega)
    · rw [tot, tot_congr num _ f L e, ← h2]; simp
    · constructor
      · intro hb
        cases hw : own.testBit b
        · have h5 : (sdiff all own).testBit b = true := by rw [testBit_sdiff, hb, hw]; rfl
          obtain ⟨i, hi, h6⟩ := (h3 b).1 h5
          exact ⟨i, by omega, by rw [e i hi]; exact h6⟩
        · exact ⟨L, by omega, by simpa using hw⟩
      · rintro ⟨i, hi, hb⟩
        by_cases e2 : i = L
        · subst e2
          exact sub_testBit.1 ho b (by simpa using hb)
        · simp only [e2, if_false] at hb
          have h5 := (h3 b).2 ⟨i, by omega, hb⟩
          rw [testBit_sdiff, Bool.and_eq_true] at h5
          exact h5.1
    · by_cases e1 : i = L
      · by_cases e2 : j = L
        · omega
        · simp only [e1, if_true] at hb1
          simp only [e2, if_false] at hb2
          rw [hsub j b (by omega) hb2] at hb1
          exact absurd hb1 (by simp)
      · by_cases e2 : j = L
        · simp only [e2, if_true] at hb2
          simp only [e1, if_false] at hb1
          rw [hsub i b (by omega) hb1] at hb2
          exact absurd hb2 (by simp)
        · simp only [e1, if_false] at hb1
          simp only [e2, if_false] at hb2
          exact h4 i j b (by omega) (by omega) hb1 hb2
theorem sumF_least (num : Nat → Nat → Int) (h0 : ∀ l s, 0 ≤ num l s) : ∀ (L all : Nat), L ≤ 3 → (∀ T, Part num L all T → sumF num L all ≤ T) ∧ (sumF num L all < 297 → Part num L all (sumF num L all))
  | 0, all, _ => by
    unfold sumF
    refine ⟨fun T h => ?_, fun h => ?_⟩
    · rw [Part.zero_iff] at h
      rw [if_pos h.1]; omega
    · split at h
      · rename_i e
        rw [if_pos e]; exact Part.zero_iff.2 ⟨e, rfl⟩
      · omega
  | L + 1, all, hL => by
    have ih := fun s => sumF_least num h0 L s (by omega)
    unfold sumF
    obtain ⟨p1, p2, p3⟩ := pickA_least (num L) (sumF num L) all (all + 1)
    refine ⟨fun T h => ?_, fun h => ?_⟩
    · rw [Part.succ_iff] at h
      obtain ⟨own, T', ho, hn, hP, rfl⟩ := h
      have hle : own ≤ all := by rw [← ho]; exact Nat.and_le_right
      have h1 := (ih _).1 T' hP
      have h2 : T' < 297 := by
        obtain ⟨f, g1, g2, _⟩ := hP
        have := tot_bd num f L g1
        omega
      have h3 := p1 (all - own) (by omega)
      rw [show all - (all - own) = own by omega] at h3
      have := h3 ho hn (by omega)
      omega
    · rcases p2 with p2 | ⟨d, hd, q1, q2, q3, q4, q5⟩
      · rw [p2] at h; simp at h
      · rw [q4]
        exact Part.succ_iff.2 ⟨all - d, _, q1, q2, (ih _).2 q3, by dsimp only; omega⟩

theorem nodup_bits (n s : Nat) : (bits n s).Nodup := by
  unfold bits
  exact List.Pairwise.filter _ List.nodup_range
theorem way_part (num t : Nat → Nat → Int) (L n all : Nat) (hn : n ≤ 60) (ha : all < 2 ^ n) (ht : ∀ i s, i < L → s < 2 ^ n → t i s = if num i s < 99 then num i s else -1) (h0 : ∀ i s, 0 ≤ num i s) (T : Int) :
    Way t L (bits n all) (fun _ => 0) T ↔ Part num L all T := by
  have hlt : ∀ k, k ∈ bits n all → k < 60 := fun k hk => by have := (mem_bits.1 hk).1; omega
  have hbit : ∀ b, all.testBit b = true ↔ b ∈ bits n all := by
    intro b
    rw [mem_bits]
    constructor
    · intro h
      refine ⟨?_, h⟩
      have h5 := pow_le_of_testBit h
      exact (Nat.pow_lt_pow_iff_right (by omega : 1 < 2)).1 (by omega)
    · exact (·.2)
  have hsm : ∀ s, (∀ b, s.testBit b = true → all.testBit b = true) → s < 2 ^ n := by
    intro s h
    apply Nat.lt_pow_two_of_testBit
    intro i hi
    cases hb : s.testBit i
    · rfl
    · have h2 := (mem_bits.1 ((hbit i).1 (h i hb))).1
      omega
  have tt : ∀ f : Nat → Nat, (∀ i, i < L → f i < 2 ^ n) → (∀ i, i < L → num i (f i) < 99) → ∀ M, M ≤ L → tot t f M = tot num f M := by
    intro f g1 g2 M
    induction M with
    | zero => intro _; rfl
    | succ M ih =>
      intro hM
      rw [tot, tot, ih (by omega), ht M _ (by omega) (g1 M (by omega)), if_pos (g2 M (by omega))]
  constructor
  · rintro ⟨φ, h1, h2, h3⟩
    simp only [Nat.zero_add] at h2 h3
    have hm : ∀ i b, (maskOf φ (bits n all) i).testBit b = decide (b ∈ bits n all ∧ φ b = i) := fun i b => maskOf_testBit φ _ i b (nodup_bits n all) hlt
    have hs : ∀ i, maskOf φ (bits n all) i < 2 ^ n := fun i => hsm _ fun b hb => by rw [hm, decide_eq_true_eq] at hb; exact (hbit b).2 hb.1
    have hnum : ∀ i, i < L → num i (maskOf φ (bits n all) i) < 99 := by
      intro i hi
      have := h2 i hi
      rw [ht i _ hi (hs i)] at this
      split at this
      · assumption
      · omega
    refine ⟨maskOf φ (bits n all), hnum, ?_, fun b => ?_, fun i j b hi hj hb1 hb2 => ?_⟩
    · rw [h3]; exact tt _ (fun i _ => hs i) hnum L (Nat.le_refl _)
    · rw [hbit b]
      constructor
      · intro hb
        exact ⟨φ b, h1 b hb, by rw [hm, decide_eq_true_eq]; exact ⟨hb, rfl⟩⟩
      · rintro ⟨i, hi, hb⟩
        rw [hm, decide_eq_true_eq] at hb
        exact hb.1
    · rw [hm, decide_eq_true_eq] at hb1 hb2
      omega
  · rintro ⟨f, h1, h2, h3, h4⟩
    have hs : ∀ i, i < L → f i < 2 ^ n := fun i hi => hsm _ fun b hb => (h3 b).2 ⟨i, hi, hb⟩
    have hφ : ∀ b, ∃ i, b ∈ bits n all → i < L ∧ (f i).testBit b = true := by
      intro b
      by_cases hb : b ∈ bits n all
      · obtain ⟨i, h⟩ := (h3 b).1 ((hbit b).2 hb)
        exact ⟨i, fun _ => h⟩
      · exact ⟨0, fun h => absurd h hb⟩
    obtain ⟨φ, hφ⟩ : ∃ φ : Nat → Nat, ∀ b, b ∈ bits n all → φ b < L ∧ (f (φ b)).testBit b = true := ⟨fun b => Classical.choose (hφ b), fun b => Classical.choose_spec (hφ b)⟩
    have hm : ∀ i, i < L → maskOf φ (bits n all) i = f i := by
      intro i hi
      apply Nat.eq_of_testBit_eq
      intro b
      rw [maskOf_testBit φ _ i b (nodup_bits n all) hlt]
      cases hb : (f i).testBit b
      · rw [decide_eq_false_iff_not]
        rintro ⟨g1, g2⟩
        have := (hφ b g1).2
        rw [g2, hb] at this
        exact absurd this (by simp)
      · rw [decide_eq_true_eq]
        have hbb := (hbit b).1 ((h3 b).2 ⟨i, hi, hb⟩)
        exact ⟨hbb, h4 _ _ b (hφ b hbb).1 hi (hφ b hbb).2 hb⟩
    refine ⟨φ, fun k hk => (hφ k hk).1, fun i hi => ?_, ?_⟩
    · simp only [Nat.zero_add]
      rw [hm i hi, ht i _ hi (hs i hi), if_pos (h1 i hi)]
      exact h0 _ _
    · simp only [Nat.zero_add]
      rw [h2, tot_congr t _ f L hm, tt f hs h1 L (Nat.le_refl _)]
/-- both ways to share come to the same -/
theorem share_sum (num t : Nat → Nat → Int) (L n all : Nat) (hL : L ≤ 3) (hn : n ≤ 60) (ha : all < 2 ^ n) (ht : ∀ i s, i < L → s < 2 ^ n → t i s = if num i s < 99 then num i s else -1) (h0 : ∀ i s, 0 ≤ num i s) :
    shareF t L (bits n all) (fun _ => 0) = if sumF num L all < 297 then sumF num L all else -1 := by
  refine ((shareF_least t L (bits n all) (fun _ => 0) (nodup_bits n all)).congr (way_part num t L n all hn ha ht h0)).unique ?_
  obtain ⟨h1, h2⟩ := sumF_least num h0 L all hL
  have hb := sumF_bd num h0 L all
  have hT : ∀ T, Part num L all T → T < 297 := by
    rintro T ⟨f, g1, g2, _⟩
    have := tot_bd num f L g1
    omega
  split
  · rename_i h
    exact ⟨fun T hT => ⟨hb.1, h1 T hT⟩, fun _ => h2 h, by omega⟩
  · rename_i h
    exact ⟨fun T hP => absurd (Int.lt_of_le_of_lt (h1 T hP) (hT T hP)) h, fun h => by omega, by omega⟩
end Go.Proofs.Pet

namespace Go.Proofs.Pet
open Go Go.RowKit

/-! The reference's table: the least over all runs. -/
/-- all lists that have just the elements of a list -/
def rowsF : Nat → List Int → List (List Int)
  | 0, _ => [[]]
  | n + 1, l => (List.range l.length).flatMap fun i => (rowsF n (l.take i ++ l.drop (i + 1))).map fun r => (l[i]?.getD 0) :: r
theorem rowsF_mem : ∀ (n : Nat) (l : List Int), l.length = n → ∀ r, r ∈ rowsF n l ↔ r.Perm l
  | 0, l, h, r => by
    rw [List.eq_nil_of_length_eq_zero h]
    simp [rowsF]
  | n + 1, l, h, r => by
    have hlen : ∀ i, i < l.length → (l.take i ++ l.drop (i + 1)).length = n := by
      intro i hi
      rw [List.length_append, List.length_take, List.length_drop]; omega
    have hp : ∀ i (hi : i < l.length), l.Perm (l[i] :: (l.take i ++ l.drop (i + 1))) := by
      intro i hi
      have h1 : l = l.take i ++ l[i] :: l.drop (i + 1) := by
        rw [← List.drop_eq_getElem_cons hi, List.take_append_drop]
      exact (List.Perm.of_eq h1).trans List.perm_middle
    unfold rowsF
    rw [List.mem_flatMap]
    constructor
    · rintro ⟨i, hi, hr⟩
      rw [List.mem_range] at hi
      obtain ⟨r', hr', rfl⟩ := List.mem_map.1 hr
      rw [rowsF_mem n _ (hlen i hi)] at hr'
      have e : l[i]?.getD 0 = l[i] := by simp [hi]
      rw [e]
      exact (List.Perm.cons _ hr').trans (hp i hi).symm
    · intro hr
      match r, hr with
      | [], hr => exact absurd hr.length_eq (by simp; omega)
      | a :: r, hr =>
        have ha : a ∈ l := hr.subset (by simp)
        obtain ⟨i, hi, rfl⟩ := List.mem_iff_getElem.1 ha
        refine ⟨i, List.mem_range.2 hi, List.mem_map.2 ⟨r, ?_, by simp [hi]⟩⟩
        rw [rowsF_mem n _ (hlen i hi)]
        exact (hr.trans (hp i hi)).cons_inv
def rvI (xs : List Int) : List Nat := (xs.map Int.toNat).reverse
def bestI (m : Mill) (l : Nat) (r : List (List Int)) : List Int × Int :=
  r.foldl (fun p x => if tmR m l (rvI x) = true ∧ (p.2 < 0 ∨ chR m l (rvI x) < p.2) then (x, chR m l (rvI x)) else p) ([], -1)
theorem bestI_snoc (m : Mill) (l : Nat) (r : List (List Int)) (x : List Int) :
    bestI m l (r ++ [x]) = if tmR m l (rvI x) = true ∧ ((bestI m l r).2 < 0 ∨ chR m l (rvI x) < (bestI m l r).2) then (x, chR m l (rvI x)) else bestI m l r := by
  unfold bestI; rw [List.foldl_append]; rfl
theorem bestI_least (m : Mill) (l : Nat) (r : List (List Int)) : Least (fun T => ∃ x, x ∈ r ∧ tmR m l (rvI x) = true ∧ T = chR m l (rvI x)) (bestI m l r).2 := by
  suffices ∀ n, Least (fun T => ∃ x, x ∈ r.take n ∧ tmR m l (rvI x) = true ∧ T = chR m l (rvI x)) (bestI m l (r.take n)).2 from by simpa using this r.length
  intro n
  induction n with
  | zero => exact ⟨fun T h => by simp at h, fun h => by simp [bestI] at h, by simp [bestI]⟩
  | succ n ih =>
    by_cases hn : n < r.length
    · rw [List.take_succ_eq_append_getElem hn, bestI_snoc]
      generalize bestI m l (r.take n) = b at *
      generalize r.take n = p at *
      generalize r[n] = v at *
      obtain ⟨h1, h2, h3⟩ := ih
      have hc := chR_bd m l (rvI v)
      split
      · rename_i h
        refine ⟨?_, fun _ => ⟨v, by simp, h.1, rfl⟩, by dsimp only; omega⟩
        rintro T ⟨x, hx, g1, rfl⟩
        rw [List.mem_append, List.mem_singleton] at hx
        rcases hx with hx | rfl
        · have := h1 _ ⟨x, hx, g1, rfl⟩
          dsimp only; omega
        · dsimp only; omega
      · rename_i h
        refine ⟨?_, fun h0 => ?_, h3⟩
        · rintro T ⟨x, hx, g1, rfl⟩
          rw [List.mem_append, List.mem_singleton] at hx
          rcases hx with hx | rfl
          · exact h1 _ ⟨x, hx, g1, rfl⟩
          · by_cases e : b.2 < 0
            · exact absurd ⟨g1, .inl e⟩ h
            · by_cases e2 : chR m l (rvI x) < b.2
              · exact absurd ⟨g1, .inr e2⟩ h
              · omega
        · obtain ⟨x, hx, g⟩ := h2 h0
          exact ⟨x, List.mem_append.2 (.inl hx), g⟩
    · rw [List.take_of_length_le (by omega)] at ih ⊢
      exact ih
def intsOf (l : List Nat) : List Int := l.map Int.ofNat
theorem toNat_intsOf (l : List Nat) : (intsOf l).map Int.toNat = l := by
  unfold intsOf; rw [List.map_map]
  exact List.map_id'' (fun _ => rfl) l
/-- the table of the reference; less than 0 if it cannot be -/
def tabR (m : Mill) (l s : Nat) : Int :=
  if ((bits m.orders.length s).all fun k => m.weaves l k) = true then (bestI m l (rowsF (bits m.orders.length s).length (intsOf (bits m.orders.length s)))).2 else -1
theorem isSet_perm {n s : Nat} (hs : s < 2 ^ n) (r : List Nat) : IsSet s r ↔ r.Perm (bits n s) := by
  have hb : ∀ j, j ∈ bits n s ↔ s.testBit j = true := by
    intro j
    rw [mem_bits]
    constructor
    · exact (·.2)
    · intro h
      refine ⟨?_, h⟩
      have h5 := pow_le_of_testBit h
      exact (Nat.pow_lt_pow_iff_right (by omega : 1 < 2)).1 (by omega)
  constructor
  · rintro ⟨h1, h2⟩
    rw [List.perm_ext_iff_of_nodup h1 (nodup_bits n s)]
    exact fun a => (h2 a).trans (hb a).symm
  · intro h
    exact ⟨h.nodup_iff.2 (nodup_bits n s), fun j => (h.mem_iff).trans (hb j)⟩
def RunOf (m : Mill) (l s : Nat) (T : Int) : Prop := ∃ r, IsSet s r ∧ (∀ j, j ∈ r → m.weaves l j = true) ∧ tmR m l r = true ∧ T = chR m l r
theorem bits_len (n s : Nat) : (bits n s).length ≤ n := by
  have := List.length_filter_le (fun i => s.testBit i) (List.range n)
  unfold bits
  rw [List.length_range] at this
  exact this
theorem numC_least (m : Mill) (hc : 0 ≤ m.change) (h7 : m.orders.length ≤ 7) (l s : Nat) (hs : s < 2 ^ m.orders.length) : Least (RunOf m l s) (if numC m l s < 99 then numC m l s else -1) := by
  have hT : ∀ T, RunOf m l s T → numC m l s ≤ T ∧ T < 99 := by
    rintro T ⟨r, h1, h2, h3, rfl⟩
    refine ⟨numC_le m l s hc hs h7 r h1 h2 h3, ?_⟩
    have h4 := (chR_bd m l r).2
    have h5 := ((isSet_perm hs r).1 h1).length_eq
    have h6 := bits_len m.orders.length s
    omega
  have hb := numC_bd m l s
  split
  · rename_i h
    obtain ⟨r, h1, h2, h3, h4⟩ := numC_has m l s hs h7 h
    exact ⟨fun T g => ⟨hb.1, (hT T g).1⟩, fun _ => ⟨r, h1, h2, h3, h4.symm⟩, by omega⟩
  · rename_i h
    exact ⟨fun T g => by have := hT T g; omega, fun h => by omega, by omega⟩
theorem rvI_intsOf (r : List Nat) : rvI (intsOf r.reverse) = r := by
  unfold rvI; rw [toNat_intsOf, List.reverse_reverse]
theorem tabR_least (m : Mill) (l s : Nat) (hs : s < 2 ^ m.orders.length) : Least (RunOf m l s) (tabR m l s) := by
  unfold tabR
  split
  · rename_i h
    refine (bestI_least m l _).congr fun T => ?_
    have hlen : (intsOf (bits m.orders.length s)).length = (bits m.orders.length s).length := by unfold intsOf; simp
    constructor
    · rintro ⟨x, hx, h1, rfl⟩
      rw [rowsF_mem _ _ hlen] at hx
      have hp : (rvI x).Perm (bits m.orders.length s) := by
        have := hx.map Int.toNat
        rw [toNat_intsOf] at this
        exact (List.reverse_perm _).trans this
      refine ⟨rvI x, (isSet_perm hs _).2 hp, fun j hj => ?_, h1, rfl⟩
      exact List.all_eq_true.1 h j (hp.mem_iff.1 hj)
    · rintro ⟨r, h1, h2, h3, rfl⟩
      refine ⟨intsOf r.reverse, ?_, by rw [rvI_intsOf]; exact h3, by rw [rvI_intsOf]⟩
      rw [rowsF_mem _ _ hlen]
      exact ((List.reverse_perm r).trans ((isSet_perm hs r).1 h1)).map _
  · rename_i h
    refine ⟨?_, fun h => by omega, by omega⟩
    rintro T ⟨r, h1, h2, h3, rfl⟩
    exfalso
    apply h
    rw [List.all_eq_true]
    intro k hk
    exact h2 k (((isSet_perm hs r).1 h1).mem_iff.2 hk)
theorem tabR_num (m : Mill) (hc : 0 ≤ m.change) (h7 : m.orders.length ≤ 7) (l s : Nat) (hs : s < 2 ^ m.orders.length) : tabR m l s = if numC m l s < 99 then numC m l s else -1 :=
  (tabR_least m l s hs).unique (numC_least m hc h7 l s hs)
/-- the fewest changes of all looms, by the reference -/
def fewR (m : Mill) (s : Nat) : Int := shareF (tabR m) m.laced.length (bits m.orders.length s) (fun _ => 0)
theorem fewR_sum (m : Mill) (hch : checkE m = 0) (s : Nat) (hs : s < 2 ^ m.orders.length) : fewR m s = if sumF (numC m) m.laced.length s < 297 then sumF (numC m) m.laced.length s else -1 := by
  obtain ⟨l1, l2, l3⟩ := check_len hch
  exact share_sum (numC m) (tabR m) m.laced.length m.orders.length s (by omega) (by omega) hs (fun i s' _ h => tabR_num m (check_change hch) (by omega) i s' h) (fun i s => (numC_bd m i s).1)
/-! The order of lists. -/
def aheadB : List Int → List Int → Bool
  | [], [] => false
  | [], _ :: _ => true
  | _ :: _, [] => false
  | a :: xs, b :: ys => if a = b then aheadB xs ys else decide (a < b)
def beforeB (a b : List Int) : Bool := if a.length = b.length then aheadB a b else decide (a.length < b.length)
theorem aheadB_trans : ∀ a b c : List Int, aheadB a b = true → aheadB b c = true → aheadB a c = true
  | [], [], c, h, _ => by simp [aheadB] at h
  | [], _ :: _, [], _, h => by simp [aheadB] at h
  | [], _ :: _, _ :: _, _, _ => rfl
  | _ :: _, [], _, h, _ => by simp [aheadB] at h
  | _ :: _, _ :: _, [], _, h => by simp [aheadB] at h
  | a :: xs, b :: ys, c :: zs, h1, h2 => by
    unfold aheadB at h1 h2 ⊢
    by_cases e1 : a = b
    · by_cases e2 : b = c
      · subst e1; subst e2
        simp only [if_true] at h1 h2 ⊢
        exact aheadB_trans xs ys zs h1 h2
      · subst e1
        rw [if_neg e2] at h2 ⊢
        exact h2
    · rw [if_neg e1, decide_eq_true_eq] at h1
      by_cases e2 : b = c
      · subst e2
        rw [if_neg e1, decide_eq_true_eq]; exact h1
      · rw [if_neg e2, decide_eq_true_eq] at h2
        rw [if_neg (by omega), decide_eq_true_eq]; omega
theorem beforeB_trans (a b c : List Int) (h1 : beforeB a b = true) (h2 : beforeB b c = true) : beforeB a c = true := by
  unfold beforeB at h1 h2 ⊢
  by_cases e1 : a.length = b.length
  · rw [if_pos e1] at h1
    by_cases e2 : b.length = c.length
    · rw [if_pos e2] at h2
      rw [if_pos (by omega)]
      exact aheadB_trans a b c h1 h2
    · rw [if_neg e2, decide_eq_true_eq] at h2
      rw [if_neg (by omega), decide_eq_true_eq]; omega
  · rw [if_neg e1, decide_eq_true_eq] at h1
    by_cases e2 : b.length = c.length
    · rw [if_neg (by omega), decide_eq_true_eq]; omega
    · rw [if_neg e2, decide_eq_true_eq] at h2
      rw [if_neg (by omega), decide_eq_true_eq]; omega
theorem beforeB_irr (a : List Int) : beforeB a a = false := by
  unfold beforeB
  rw [if_pos rfl]
  induction a with
  | nil => rfl
  | cons x a ih => unfold aheadB; simpa using ih
/-- the first of some lists, each with whether it counts -/
def pickB (c : List (Bool × List Int)) : Option (List Int) :=
  c.foldl (fun o x => if x.1 = true ∧ (∀ b, o = some b → beforeB x.2 b = true) then some x.2 else o) none
theorem pickB_snoc (c : List (Bool × List Int)) (x : Bool × List Int) : pickB (c ++ [x]) = if x.1 = true ∧ (∀ b, pickB c = some b → beforeB x.2 b = true) then some x.2 else pickB c := by
  unfold pickB; rw [List.foldl_append]; rfl
theorem pickB_least (c : List (Bool × List Int)) : match pickB c with
    | none => ∀ x, x ∈ c → x.1 = false
    | some b => (true, b) ∈ c ∧ ∀ x, x ∈ c → x.1 = true → beforeB x.2 b = false := by
  suffices ∀ n, match pickB (c.take n) with
    | none => ∀ x, x ∈ c.take n → x.1 = false
    | some b => (true, b) ∈ c.take n ∧ ∀ x, x ∈ c.take n → x.1 = true → beforeB x.2 b = false from by simpa using this c.length
  intro n
  induction n with
  | zero => simp [pickB]
  | succ n ih =>
    by_cases hn : n < c.length
    · rw [List.take_succ_eq_append_getElem hn, pickB_snoc]
      generalize pickB (c.take n) = o at *
      generalize c.take n = p at *
      generalize c[n] = v at *
      obtain ⟨q, l⟩ := v
      match o, ih with
      | none, ih =>
        cases q with
        | true =>
          rw [if_pos ⟨rfl, by simp⟩]
          refine ⟨by simp, fun x hx h => ?_⟩
          rw [List.mem_append, List.mem_singleton] at hx
          rcases hx with hx | rfl
          · rw [ih x hx] at h; exact absurd h (by simp)
          · exact beforeB_irr _
        | false =>
          rw [if_neg (by simp)]
          intro x hx
          rw [List.mem_append, List.mem_singleton] at hx
          rcases hx with hx | rfl
          · exact ih x hx
          · rfl
      | some b, ih =>
        by_cases h : q = true ∧ beforeB l b = true
        · rw [if_pos ⟨h.1, fun b' e => by injection e with e; rw [← e]; exact h.2⟩]
          obtain ⟨h1, h2⟩ := h
          subst h1
          refine ⟨by simp, fun x hx g => ?_⟩
          rw [List.mem_append, List.mem_singleton] at hx
          rcases hx with hx | rfl
          · have := ih.2 x hx g
            cases hb : beforeB x.2 l
            · rfl
            · rw [beforeB_trans _ _ _ hb h2] at this
              exact absurd this (by simp)
          · exact beforeB_irr _
        · rw [if_neg (by rintro ⟨g1, g2⟩; exact h ⟨g1, g2 b rfl⟩)]
          refine ⟨List.mem_append.2 (.inl ih.1), fun x hx g => ?_⟩
          rw [List.mem_append, List.mem_singleton] at hx
          rcases hx with hx | rfl
          · exact ih.2 x hx g
          · cases hb : beforeB l b
            · rfl
            · exact absurd ⟨g, hb⟩ h
    · rw [List.take_of_length_le (by omega)] at ih ⊢
      exact ih
/-- the first order that cannot be -/
def firstS (m : Mill) : Option Nat := (List.range m.orders.length).find? fun k => decide (297 ≤ sumF (numC m) m.laced.length (2 ^ (k + 1) - 1))
/-- the orders to be put off: tried from no order up -/
def lateS (m : Mill) : Option (List Int) :=
  pickB ((List.range (2 ^ m.orders.length)).map fun off => (decide (sumF (numC m) m.laced.length (sdiff (2 ^ m.orders.length - 1) off) < 297), intsOf (bits m.orders.length off)))
/-- the orders to be put off: tried from all orders down -/
def lateR (m : Mill) : Option (List Int) :=
  pickB ((List.range (2 ^ m.orders.length)).map fun s => (decide (0 ≤ fewR m s), intsOf (bits m.orders.length (2 ^ m.orders.length - 1 - s))))
end Go.Proofs.Pet

namespace Go.Proofs.Pet
open Go Go.RowKit

/-- whether a run has too many changes, or its last order is late -/
def badM (m : Mill) (l : Nat) (ch : Int) (ks : List Nat) : Bool :=
  decide (ch < chR m l ks.reverse) || (match ks.reverse with | [] => false | k :: _ => decide (m.byy k < dyR m l ks.reverse))
/-- the first run that goes on from one, of the orders that are left, in time and with so many changes -/
def moreF (m : Mill) (l : Nat) (ch : Int) : Nat → List Nat → Nat → Option (List Nat)
  | 0, ks, s => if badM m l ch ks then none else if s = 0 then some ks else none
  | f + 1, ks, s => if badM m l ch ks then none else if s = 0 then some ks else
      (bits m.orders.length s).findSome? fun k => moreF m l ch f (ks ++ [k]) (sdiff s (2 ^ k))
theorem moreF_bad {m : Mill} {l : Nat} {ch : Int} {ks : List Nat} (h : badM m l ch ks = true) (f s : Nat) : moreF m l ch f ks s = none := by
  cases f <;> simp [moreF, h]
theorem moreF_zero {m : Mill} {l : Nat} {ch : Int} {ks : List Nat} (h : badM m l ch ks = false) (f : Nat) : moreF m l ch f ks 0 = some ks := by
  cases f <;> simp [moreF, h]
theorem moreF_succ {m : Mill} {l : Nat} {ch : Int} {ks : List Nat} (h : badM m l ch ks = false) (f s : Nat) (hs : s ≠ 0) :
    moreF m l ch (f + 1) ks s = (bits m.orders.length s).findSome? fun k => moreF m l ch f (ks ++ [k]) (sdiff s (2 ^ k)) := by
  simp [moreF, h, hs]
theorem bits_rem {s k : Nat} (hk : s.testBit k = true) : ∀ n, k < n → (bits n (sdiff s (2 ^ k))).length + 1 = (bits n s).length
  | 0, h => by omega
  | n + 1, h => by
    rw [bits_succ, bits_succ, testBit_rem]
    by_cases e : k = n
    · subst e
      have : bits k (sdiff s (2 ^ k)) = bits k s := by
        unfold bits
        refine List.filter_congr fun j hj => ?_
        have := List.mem_range.1 hj
        rw [testBit_rem, show decide (k = j) = false by simp; omega]; simp
      rw [this]
      simp [hk]
    · have ih := bits_rem hk n (by omega)
      have : decide (k = n) = false := by simpa using e
      rw [this]
      by_cases h2 : s.testBit n = true <;> simp [h2] <;> omega
theorem bits_none {s n : Nat} (hs : s < 2 ^ n) (h : (bits n s).length = 0) : s = 0 := by
  refine Nat.eq_of_testBit_eq fun j => ?_
  rw [Nat.zero_testBit]
  by_cases hj : j < n
  · cases hb : s.testBit j with
    | false => rfl
    | true =>
      have hm : j ∈ bits n s := by unfold bits; exact List.mem_filter.2 ⟨List.mem_range.2 hj, hb⟩
      rw [List.length_eq_zero_iff.1 h] at hm
      cases hm
  · exact Nat.testBit_lt_two_pow (Nat.lt_of_lt_of_le hs (Nat.pow_le_pow_right (by omega) (by omega)))
theorem rvI_intsOf' (ks : List Nat) : rvI (ints ks) = ks.reverse := by
  have := rvI_intsOf ks.reverse
  rw [List.reverse_reverse] at this
  exact this

/-! In time, and not too many changes: whatever a run begins with is so too. -/
def goodM (m : Mill) (l : Nat) (ch : Int) (ks : List Nat) : Bool := tmR m l ks.reverse && decide (chR m l ks.reverse ≤ ch)
theorem goodM_snoc {m : Mill} {l : Nat} {ch : Int} {ks : List Nat} {k : Nat} (h : goodM m l ch (ks ++ [k]) = true) : goodM m l ch ks = true := by
  unfold goodM at *
  rw [List.reverse_append, List.reverse_singleton, List.singleton_append, tmR, chR] at h
  simp only [Bool.and_eq_true, decide_eq_true_eq] at *
  have := chg_bd (lastPat m l ks.reverse) (m.pat k)
  exact ⟨h.1.1, by omega⟩
theorem goodM_app {m : Mill} {l : Nat} {ch : Int} {ks : List Nat} : ∀ (r : List Nat), goodM m l ch (ks ++ r.reverse) = true → goodM m l ch ks = true
  | [], h => by simpa using h
  | k :: r, h => by
    rw [List.reverse_cons, ← List.append_assoc] at h
    exact goodM_app r (goodM_snoc h)
theorem badM_good {m : Mill} {l : Nat} {ch : Int} {ks : List Nat} (h : tmR m l ks.dropLast.reverse = true) : badM m l ch ks = !goodM m l ch ks := by
  unfold badM goodM
  rcases List.eq_nil_or_concat ks with rfl | ⟨r, k, rfl⟩
  · change (decide (ch < chR m l []) || false) = !(true && decide (chR m l [] ≤ ch))
    rw [Bool.or_false, Bool.true_and]
    by_cases e : ch < chR m l []
    · rw [decide_eq_true e, decide_eq_false (by omega)]; rfl
    · rw [decide_eq_false e, decide_eq_true (by omega)]; rfl
  · rw [List.concat_eq_append, List.dropLast_concat] at h
    rw [List.concat_eq_append, List.reverse_append, List.reverse_singleton, List.singleton_append]
    dsimp only
    rw [tmR, h, Bool.eq_iff_iff]
    simp
    omega
theorem goodM_tm {m : Mill} {l : Nat} {ch : Int} {ks : List Nat} (h : goodM m l ch ks = true) : tmR m l ks.reverse = true := by
  unfold goodM at h
  exact (Bool.and_eq_true _ _ ▸ h).1

theorem filter_ne_nodup {l : List Nat} (hd : l.Nodup) {i : Nat} (hi : i < l.length) : l.take i ++ l.drop (i + 1) = l.filter (fun j => !decide (l[i] = j)) := by
  induction l generalizing i with
  | nil => cases hi
  | cons a l ih =>
    rw [List.nodup_cons] at hd
    cases i with
    | zero =>
      simp only [List.take_zero, List.nil_append, List.drop_succ_cons, List.drop_zero, List.getElem_cons_zero, List.filter_cons, decide_true, Bool.not_true, Bool.false_eq_true, if_false]
      refine (List.filter_eq_self.2 fun j hj => ?_).symm
      have : a ≠ j := fun e => hd.1 (e ▸ hj)
      simp [this]
    | succ i =>
      have hi' : i < l.length := by simpa using hi
      have hne : l[i] ≠ a := fun e => hd.1 (e ▸ List.getElem_mem hi')
      simp only [List.take_succ_cons, List.drop_succ_cons, List.cons_append, List.getElem_cons_succ, List.filter_cons, hne, decide_false, Bool.not_false, if_true]
      rw [ih hd.2 hi']
theorem bits_sdiff (n s k : Nat) : bits n (sdiff s (2 ^ k)) = (bits n s).filter (fun j => !decide (k = j)) := by
  unfold bits
  rw [List.filter_filter]
  refine List.filter_congr fun j _ => ?_
  rw [testBit_rem, Bool.and_comm]
theorem range_findSome {α : Type} (f : Nat → Option α) : ∀ (l : List Nat), l.findSome? f = (List.range l.length).findSome? fun i => f (l[i]?.getD 0)
  | [] => rfl
  | a :: l => by
    rw [List.length_cons, List.range_succ_eq_map, List.findSome?_cons, List.findSome?_cons, List.findSome?_map, range_findSome f l]
    simp only [List.getElem?_cons_zero, Option.getD_some]
    cases f a with
    | some b => rfl
    | none =>
      dsimp only
      congr 1
theorem moreF_find (m : Mill) (l : Nat) (ch : Int) : ∀ (f : Nat) (ks : List Nat) (s : Nat), (bits m.orders.length s).length ≤ f → s < 2 ^ m.orders.length → tmR m l ks.dropLast.reverse = true →
    moreF m l ch f ks s = ((rowsF (bits m.orders.length s).length (ints (bits m.orders.length s))).find? fun r => goodM m l ch (ks ++ r.map Int.toNat)).map fun r => ks ++ r.map Int.toNat := by
  intro f
  induction f with
  | zero =>
    intro ks s hf hs ht
    have h0 := bits_none hs (by omega)
    subst h0
    have hb : bits m.orders.length 0 = [] := List.length_eq_zero_iff.1 (by omega)
    rw [hb]
    have hg := badM_good (ch := ch) ht
    unfold moreF
    rw [hg]
    simp only [List.length_nil, rowsF, List.find?_cons, List.map_nil, List.append_nil, List.find?_nil]
    cases goodM m l ch ks <;> simp
  | succ f ih =>
    intro ks s hf hs ht
    have hg := badM_good (ch := ch) ht
    by_cases hB : badM m l ch ks = true
    · rw [moreF_bad hB]
      have hgf : goodM m l ch ks = false := by rw [hg] at hB; simpa using hB
      have : ((rowsF (bits m.orders.length s).length (ints (bits m.orders.length s))).find? fun r => goodM m l ch (ks ++ r.map Int.toNat)) = none := by
        rw [List.find?_eq_none]
        intro r _ h
        have := goodM_app (ks := ks) (r.map Int.toNat).reverse (by rw [List.reverse_reverse]; exact h)
        rw [this] at hgf; cases hgf
      rw [this]; rfl
    · have hB' : badM m l ch ks = false := by simpa using hB
      have hgt : goodM m l ch ks = true := by rw [hg] at hB'; simpa using hB'
      by_cases h0 : s = 0
      · subst h0
        rw [moreF_zero hB']
        have hb : bits m.orders.length 0 = [] := by unfold bits; simp
        rw [hb]
        simp [rowsF, hgt]
      · rw [moreF_succ hB' f s h0, range_findSome]
        obtain ⟨n, hn⟩ : ∃ n, (bits m.orders.length s).length = n + 1 := by
          refine ⟨(bits m.orders.length s).length - 1, ?_⟩
          have : (bits m.orders.length s).length ≠ 0 := fun e => h0 (bits_none hs e)
          omega
        have hnd := nodup_bits m.orders.length s
        rw [hn, rowsF, List.find?_flatMap]
        have hil : (ints (bits m.orders.length s)).length = n + 1 := by unfold ints; rw [List.length_map, hn]
        rw [hil]
        have key : ∀ i, i ∈ List.range (n + 1) → moreF m l ch f (ks ++ [(bits m.orders.length s)[i]?.getD 0]) (sdiff s (2 ^ ((bits m.orders.length s)[i]?.getD 0))) =
            ((((rowsF n ((ints (bits m.orders.length s)).take i ++ (ints (bits m.orders.length s)).drop (i + 1))).map fun r => ((ints (bits m.orders.length s))[i]?.getD 0) :: r).find? fun r => goodM m l ch (ks ++ r.map Int.toNat))).map fun r => ks ++ r.map Int.toNat := by
          intro i hi
          have hi := List.mem_range.1 hi
          have hib : i < (bits m.orders.length s).length := by omega
          have hbi : (bits m.orders.length s)[i]?.getD 0 = (bits m.orders.length s)[i] := by simp [hib]
          have hmem := List.getElem_mem hib
          obtain ⟨hk1, hk2⟩ := mem_bits.1 hmem
          have hin : (ints (bits m.orders.length s))[i]?.getD 0 = (((bits m.orders.length s)[i] : Nat) : Int) := by unfold ints; simp [hib]
          rw [hbi, hin]
          have hrest : (ints (bits m.orders.length s)).take i ++ (ints (bits m.orders.length s)).drop (i + 1) = ints (bits m.orders.length (sdiff s (2 ^ (bits m.orders.length s)[i]))) := by
            rw [bits_sdiff, ← filter_ne_nodup hnd hib]
            unfold ints
            rw [List.map_append, List.map_take, List.map_drop]
          rw [hrest]
          have hlen : (bits m.orders.length (sdiff s (2 ^ (bits m.orders.length s)[i]))).length = n := by
            have := bits_rem hk2 m.orders.length hk1; omega
          generalize (bits m.orders.length s)[i] = k at *
          have hsd : sdiff s (2 ^ k) < 2 ^ m.orders.length := Nat.lt_of_le_of_lt (sdiff_le _ _) hs
          rw [ih (ks ++ [k]) (sdiff s (2 ^ k)) (by omega) hsd (by rw [List.dropLast_concat]; exact goodM_tm hgt), hlen, List.find?_map, Option.map_map]
          have e1 : (fun r : List Int => goodM m l ch (ks ++ [k] ++ r.map Int.toNat)) = (fun r : List Int => goodM m l ch (ks ++ r.map Int.toNat)) ∘ fun r => ((k : Nat) : Int) :: r := by
            funext r; simp
          have e2 : (fun r : List Int => ks ++ [k] ++ r.map Int.toNat) = (fun r : List Int => ks ++ r.map Int.toNat) ∘ fun r => ((k : Nat) : Int) :: r := by
            funext r; simp
          rw [e1, e2]
        have e3 : ∀ (L : List Nat) (g h : Nat → Option (List Nat)), (∀ i, i ∈ L → g i = h i) → L.findSome? g = L.findSome? h := by
          intro L g h hgh
          induction L with
          | nil => rfl
          | cons a L ihL => rw [List.findSome?_cons, List.findSome?_cons, hgh a (by simp), ihL fun i hi => hgh i (by simp [hi])]
        rw [e3 _ _ _ key]
        generalize List.range (n + 1) = L
        clear key e3
        induction L with
        | nil => rfl
        | cons a L ihL =>
          rw [List.findSome?_cons, List.findSome?_cons, ihL]
          generalize (((rowsF n ((ints (bits m.orders.length s)).take a ++ (ints (bits m.orders.length s)).drop (a + 1))).map fun r => ((ints (bits m.orders.length s))[a]?.getD 0) :: r).find? fun r => goodM m l ch (ks ++ r.map Int.toNat)) = o
          cases o <;> rfl
end Go.Proofs.Pet

namespace Go.Proofs.Pet
open Go Go.RowKit

theorem get_sum (num : Nat → Nat → Int) (l all : Nat) (h : sumF num (l + 1) all < 297) :
    getF num l all &&& all = getF num l all ∧ num l (getF num l all) < 99 ∧ sumF num l (sdiff all (getF num l all)) < 297 ∧ sumF num (l + 1) all = num l (getF num l all) + sumF num l (sdiff all (getF num l all)) := by
  have h1 := (pickA_least (num l) (sumF num l) all (all + 1)).2.1
  unfold sumF at h
  rcases h1 with h1 | ⟨d, _, h2, h3, h4, h5, _⟩
  · rw [h1] at h; simp at h
  · have e : getF num l all = all - d := by unfold getF; rw [h5]
    rw [e]
    refine ⟨h2, h3, h4, ?_⟩
    rw [sumF, h5]
/-- the run of a loom for a set -/
def runOf (m : Mill) (l s : Nat) : List Nat := (moreF m l (numC m l s) 7 [] s).getD []
def planB (m : Mill) : Nat → Nat → List (List Int)
  | 0, _ => []
  | l + 1, left => planB m l (sdiff left (getF (numC m) l left)) ++ [ints (runOf m l (getF (numC m) l left))]
theorem planB_len (m : Mill) : ∀ l left, (planB m l left).length = l
  | 0, _ => rfl
  | l + 1, left => by rw [planB, List.length_append, planB_len m l]; rfl
theorem runOf_ok (m : Mill) (hch : checkE m = 0) (l s : Nat) (hs : s < 2 ^ m.orders.length) (h : numC m l s < 99) :
    moreF m l (numC m l s) 7 [] s = some (runOf m l s) ∧ (runOf m l s).Perm (bits m.orders.length s) ∧ (∀ j, j ∈ runOf m l s → m.weaves l j = true) ∧ tmR m l (runOf m l s).reverse = true ∧ chR m l (runOf m l s).reverse = numC m l s := by
  obtain ⟨l1, l2, l3⟩ := check_len hch
  obtain ⟨r0, g1, g2, g3, g4⟩ := numC_has m l s hs l3 h
  have hbl := bits_len m.orders.length s
  have hf := moreF_find m l (numC m l s) 7 [] s (by omega) hs rfl
  have hlen : (ints (bits m.orders.length s)).length = (bits m.orders.length s).length := by unfold ints; simp
  have hmem : ints r0.reverse ∈ rowsF (bits m.orders.length s).length (ints (bits m.orders.length s)) := by
    rw [rowsF_mem _ _ hlen]
    unfold ints
    exact ((List.reverse_perm r0).trans ((isSet_perm hs r0).1 g1)).map _
  have hgood : goodM m l (numC m l s) ((ints r0.reverse).map Int.toNat) = true := by
    have e : (ints r0.reverse).map Int.toNat = r0.reverse := toNat_intsOf _
    rw [e]
    unfold goodM
    rw [List.reverse_reverse, g3, g4]; simp
  cases hfi : ((rowsF (bits m.orders.length s).length (ints (bits m.orders.length s))).find? fun r => goodM m l (numC m l s) ([] ++ r.map Int.toNat)) with
  | none =>
    rw [List.find?_eq_none] at hfi
    exact absurd hgood (by simpa using hfi _ hmem)
  | some x =>
    rw [hfi] at hf
    simp only [Option.map_some, List.nil_append] at hf
    have hx1 := List.mem_of_find?_eq_some hfi
    have hx2 := List.find?_some hfi
    simp only [List.nil_append] at hx2
    have er : runOf m l s = x.map Int.toNat := by unfold runOf; rw [hf]; rfl
    rw [rowsF_mem _ _ hlen] at hx1
    have hperm : (x.map Int.toNat).Perm (bits m.orders.length s) := by
      have := hx1.map Int.toNat
      rwa [show (ints (bits m.orders.length s)).map Int.toNat = bits m.orders.length s from toNat_intsOf _] at this
    have hw : ∀ j, j ∈ x.map Int.toNat → m.weaves l j = true := fun j hj => by
      refine g2 j ?_
      rw [g1.2 j]
      exact (mem_bits.1 (hperm.subset hj)).2
    unfold goodM at hx2
    simp only [Bool.and_eq_true, decide_eq_true_eq] at hx2
    have hle := numC_le m l s (check_change hch) hs l3 (x.map Int.toNat).reverse ((isSet_perm hs _).2 ((List.reverse_perm _).trans hperm)) (fun j hj => hw j (by simpa using hj)) hx2.1
    rw [er]
    exact ⟨hf, hperm, hw, hx2.1, by omega⟩
theorem bits_part {n left own : Nat} (ho : own &&& left = own) : (bits n (sdiff left own) ++ bits n own).Perm (bits n left) := by
  have h := sub_testBit.1 ho
  induction n with
  | zero => simp [bits]
  | succ n ih =>
    rw [bits_succ, bits_succ, bits_succ, testBit_sdiff]
    cases e1 : left.testBit n with
    | false =>
      have e2 : own.testBit n = false := by
        cases e : own.testBit n with
        | false => rfl
        | true => rw [h n e] at e1; cases e1
      simpa [e2] using ih
    | true =>
      cases e2 : own.testBit n with
      | false =>
        simp only [Bool.not_false, Bool.and_self, if_true, Bool.false_eq_true, if_false]
        rw [List.append_assoc]
        refine (List.Perm.append_left _ List.perm_append_comm).trans ?_
        rw [← List.append_assoc]
        exact ih.append_right _
      | true =>
        simp only [Bool.not_true, Bool.and_false, Bool.false_eq_true, if_false, if_true]
        rw [← List.append_assoc]
        exact ih.append_right _
/-- what a plan's rows are -/
structure PlanOk (m : Mill) (l left : Nat) (rows : List (List Int)) : Prop where
  len : rows.length = l
  row : ∀ i, i < l → ∃ s, s < 2 ^ m.orders.length ∧ (rows[i]?.getD []).Perm (ints (bits m.orders.length s)) ∧ (∀ x, x ∈ rows[i]?.getD [] → weavesI m i x = true) ∧ tmR m i (rvI (rows[i]?.getD [])) = true ∧ chR m i (rvI (rows[i]?.getD [])) = numC m i s
  all : rows.flatten.Perm (ints (bits m.orders.length left))
theorem planB_ok (m : Mill) (hch : checkE m = 0) : ∀ (l left : Nat), left < 2 ^ m.orders.length → sumF (numC m) l left < 297 → PlanOk m l left (planB m l left) ∧ ((List.range l).map fun i => chR m i (rvI ((planB m l left)[i]?.getD []))).sum = sumF (numC m) l left
  | 0, left, hl, h => by
    have h0 : left = 0 := by
      unfold sumF at h
      by_cases e : left = 0
      · exact e
      · rw [if_neg e] at h; omega
    subst h0
    exact ⟨⟨rfl, fun i hi => absurd hi (by omega), by simp [planB, bits, ints]⟩, by simp [sumF]⟩
  | l + 1, left, hl, h => by
    obtain ⟨g1, g2, g3, g4⟩ := get_sum (numC m) l left h
    have hsd : sdiff left (getF (numC m) l left) < 2 ^ m.orders.length := Nat.lt_of_le_of_lt (sdiff_le _ _) hl
    obtain ⟨ih, ihs⟩ := planB_ok m hch l _ hsd g3
    rw [planB]
    generalize getF (numC m) l left = own at *
    have hown : own < 2 ^ m.orders.length := by
      have : own &&& left ≤ left := Nat.and_le_right
      omega
    obtain ⟨r1, r2, r3, r4, r5⟩ := runOf_ok m hch l own hown g2
    have hpl := planB_len m l (sdiff left own)
    have hrow : ∀ i, i < l → (planB m l (sdiff left own) ++ [ints (runOf m l own)])[i]?.getD [] = (planB m l (sdiff left own))[i]?.getD [] := fun i hi => by
      rw [List.getElem?_append_left (by omega)]
    have hlast : (planB m l (sdiff left own) ++ [ints (runOf m l own)])[l]?.getD [] = ints (runOf m l own) := by
      rw [List.getElem?_append_right (by omega), hpl]; simp
    refine ⟨⟨by rw [List.length_append, hpl]; rfl, fun i hi => ?_, ?_⟩, ?_⟩
    · by_cases e : i < l
      · rw [hrow i e]; exact ih.row i e
      · obtain rfl : i = l := by omega
        rw [hlast, rvI_intsOf']
        refine ⟨own, hown, ?_, fun x hx => ?_, r4, r5⟩
        · unfold ints; exact r2.map _
        · unfold ints at hx
          obtain ⟨y, hy, rfl⟩ := List.mem_map.1 hx
          exact r3 y hy
    · rw [List.flatten_append, List.flatten_singleton]
      refine (List.Perm.append ih.all ((by unfold ints; exact r2.map _ : (ints (runOf m l own)).Perm (ints (bits m.orders.length own))))).trans ?_
      unfold ints
      rw [← List.map_append]
      exact (bits_part g1).map _
    · rw [List.range_succ, List.map_append, List.sum_append, g4]
      have : ((List.range l).map fun i => chR m i (rvI ((planB m l (sdiff left own) ++ [ints (runOf m l own)])[i]?.getD []))) = (List.range l).map fun i => chR m i (rvI ((planB m l (sdiff left own))[i]?.getD [])) := by
        refine List.map_congr_left fun i hi => ?_
        rw [hrow i (List.mem_range.1 hi)]
      rw [this, ihs, List.map_singleton, hlast, rvI_intsOf', r5]
      simp [Int.add_comm]
end Go.Proofs.Pet
