/-
  Crowds, in plain Lean: if there is one, no plan keeps; the first one that is found is the first. No program is named here.
-/
import Derived.Test.YtknokjnplbdmeaaGreatV2
import Derived.Test.YtknokjnplbdmeaaGreatQ4
namespace Go.Proofs.Pet
open Go

theorem sum_zero {α : Type} : ∀ l : List α, (l.map fun _ => (0 : Int)).sum = 0
  | [] => rfl
  | _ :: l => by simp [sum_zero l]
theorem sum_perm {l l' : List Int} (h : l.Perm l') : l.sum = l'.sum := by
  induction h with
  | nil => rfl
  | cons x _ ih => simp [ih]
  | swap x y l => simp only [List.sum_cons]; omega
  | trans _ _ h1 h2 => exact h1.trans h2
theorem dyR_sum {m : Mill} (hch : checkE m = 0) (l : Nat) : ∀ r : List Nat, (r.map m.dys).sum ≤ dyR m l r
  | [] => by simp [dyR]
  | k :: r => by
    have h1 := dyR_sum hch l r
    have h2 := check_change hch
    have h3 := chg_bd (lastPat m l r) (m.pat k)
    have h4 : 0 ≤ m.change * chg (lastPat m l r) (m.pat k) := Int.mul_nonneg h2 h3.1
    simp only [List.map_cons, List.sum_cons, dyR]
    omega
/-- the days of the orders of a run that a test takes -/
def daysT (m : Mill) (t : Nat → Bool) (r : List Nat) : Int := (r.map fun k => if t k = true then m.dys k else 0).sum
theorem dys_nonneg {m : Mill} (hch : checkE m = 0) (k : Nat) : 0 ≤ m.dys k := by
  unfold Mill.dys
  by_cases h : k < m.orders.length
  · have := (check_orders hch).1 _ (List.getElem_mem h)
    simp only [List.getElem?_eq_getElem h, Option.getD_some]
    omega
  · rw [List.getElem?_eq_none (by omega)]; exact Int.le_refl _
theorem daysT_le {m : Mill} (hch : checkE m = 0) (t : Nat → Bool) : ∀ r, daysT m t r ≤ (r.map m.dys).sum
  | [] => by simp [daysT]
  | k :: r => by
    have h1 := daysT_le hch t r
    have h2 := dys_nonneg hch k
    unfold daysT at h1 ⊢
    simp only [List.map_cons, List.sum_cons]
    split <;> omega
theorem daysT_run {m : Mill} (hch : checkE m = 0) (l : Nat) (t : Nat → Bool) (b : Int) (hb : 0 ≤ b) (ht : ∀ k, t k = true → m.byy k ≤ b) : ∀ r, tmR m l r = true → daysT m t r ≤ b
  | [], _ => by simpa [daysT] using hb
  | k :: r, h => by
    simp only [tmR, Bool.and_eq_true, decide_eq_true_eq] at h
    by_cases hk : t k = true
    · have h1 := daysT_le hch t (k :: r)
      have h2 := dyR_sum hch l (k :: r)
      have h3 := ht k hk
      omega
    · have h1 := daysT_run hch l t b hb ht r h.1
      unfold daysT at h1 ⊢
      simp only [List.map_cons, List.sum_cons, if_neg hk]
      omega
theorem daysT_reverse (m : Mill) (t : Nat → Bool) (r : List Nat) : daysT m t r.reverse = daysT m t r := by
  unfold daysT
  exact sum_perm ((List.reverse_perm r).map _)
theorem overF_sum (m : Mill) (looms : List Int) (b : Int) : ∀ n, overF m looms b n = -b * looms.length + daysT m (fun k => aloneB (m.orders[k]?.getD default) looms b) (List.range n)
  | 0 => by simp [overF, daysT]
  | n + 1 => by
    rw [overF, overF_sum m looms b n]
    unfold daysT
    rw [List.range_succ, List.map_append, List.sum_append]
    simp only [List.map_cons, List.map_nil, List.sum_cons, List.sum_nil, Mill.dys]
    omega
theorem daysT_flat (m : Mill) (t : Nat → Bool) : ∀ rows : List (List Int), daysT m t (rows.flatten.map Int.toNat) = (rows.map fun r => daysT m t (r.map Int.toNat)).sum
  | [] => rfl
  | r :: rows => by
    have h := daysT_flat m t rows
    unfold daysT at h ⊢
    simp only [List.flatten_cons, List.map_append, List.sum_append, List.map_cons, List.sum_cons] at h ⊢
    omega
theorem sum_le_count (f : Nat → Int) (q : Nat → Bool) (b : Int) : ∀ l : List Nat, (∀ i, i ∈ l → q i = true → f i ≤ b) → (∀ i, i ∈ l → q i = false → f i ≤ 0) → (l.map f).sum ≤ b * (l.filter q).length
  | [], _, _ => by simp
  | i :: l, h1, h2 => by
    have ih := sum_le_count f q b l (fun j hj => h1 j (by simp [hj])) (fun j hj => h2 j (by simp [hj]))
    simp only [List.map_cons, List.sum_cons, List.filter_cons]
    by_cases hq : q i = true
    · have := h1 i (by simp) hq
      rw [if_pos hq, List.length_cons]
      have e : b * ((l.filter q).length + 1 : Nat) = b * (l.filter q).length + b := by rw [Int.natCast_add]; rw [Int.mul_add]; simp
      omega
    · have hq' : q i = false := by simpa using hq
      have := h2 i (by simp) hq'
      rw [if_neg hq]
      omega
theorem ints_mem {l : List Nat} {x : Int} : x ∈ ints l ↔ ∃ k, k ∈ l ∧ (k : Int) = x := by unfold ints; exact List.mem_map
theorem map_rows (rows : List (List Int)) (f : List Int → Int) : (rows.map f).sum = ((List.range rows.length).map fun i => f (rows[i]?.getD [])).sum := by
  congr 1
  apply List.ext_getElem
  · simp
  · intro i h1 h2
    simp only [List.length_map] at h1
    simp [h1]
/-- if orders take more days than looms have that only they can weave, no plan keeps -/
theorem crowd_none {m : Mill} (hch : checkE m = 0) (s : Nat) (b : Int) (hb : 0 ≤ b) (h : 0 < overF m (ints (bits 8 s)) b m.orders.length) : planF m = none := by
  cases hp : planF m with
  | none => rfl
  | some rows =>
    exfalso
    have ok := plan_law hch hp
    obtain ⟨l1, l2, l3⟩ := check_len hch
    let t : Nat → Bool := fun k => aloneB (m.orders[k]?.getD default) (ints (bits 8 s)) b
    rw [overF_sum] at h
    have hperm : (rows.flatten.map Int.toNat).Perm (List.range m.orders.length) := by
      have := ok.perm.map Int.toNat
      unfold ints at this
      rw [List.map_map] at this
      have e : List.map (Int.toNat ∘ fun k : Nat => (k : Int)) (List.range m.orders.length) = List.range m.orders.length := by
        rw [List.map_congr_left (g := id) (fun x _ => by simp)]; simp
      rwa [e] at this
    have e1 : daysT m t (List.range m.orders.length) = daysT m t (rows.flatten.map Int.toNat) := by
      unfold daysT; exact sum_perm (hperm.symm.map _)
    have h' : 0 < -b * ((ints (bits 8 s)).length : Int) + daysT m t (rows.flatten.map Int.toNat) := by rw [← e1]; exact h
    rw [daysT_flat, map_rows] at h'
    have hkey := sum_le_count (fun i => daysT m t ((rows[i]?.getD []).map Int.toNat)) (fun i => s.testBit i) b (List.range rows.length) (fun i hi _ => ?_) (fun i hi hq => ?_)
    · have hlen : ((List.range rows.length).filter fun i => s.testBit i).length ≤ (ints (bits 8 s)).length := by
        have hsub : (List.range rows.length).filter (fun i => s.testBit i) = bits rows.length s := rfl
        rw [hsub]
        have e : (ints (bits 8 s)).length = (bits 8 s).length := by simp [ints]
        rw [e, ok.len]
        obtain ⟨r, hr⟩ := bits_split (s := s) (k := m.laced.length) (n := 8) (by omega)
        rw [hr]; simp
      have h5 : b * ((List.range rows.length).filter fun i => s.testBit i).length ≤ b * (ints (bits 8 s)).length := Int.mul_le_mul_of_nonneg_left (by omega) hb
      have h6 : -b * ((ints (bits 8 s)).length : Int) = -(b * (ints (bits 8 s)).length) := by rw [Int.neg_mul]
      omega
    · have htm := ok.tm i (List.mem_range.1 hi)
      have := daysT_run hch i t b hb (fun k hk => by
        have hk : aloneB (m.orders[k]?.getD default) (ints (bits 8 s)) b = true := hk
        unfold aloneB at hk
        simp only [Bool.and_eq_true, decide_eq_true_eq] at hk
        exact hk.1) _ htm
      unfold rvI at this
      rwa [daysT_reverse] at this
    · have hi' := List.mem_range.1 hi
      have hz : ∀ x, x ∈ rows[i]?.getD [] → t x.toNat = false := fun x hx => by
        have hw := (plE_ok ok.pl).2.2.2
        unfold weavesAll at hw
        have h1 := List.all_eq_true.1 hw i (by rw [List.mem_range]; exact hi')
        have h2 := List.all_eq_true.1 h1 x hx
        unfold weavesI at h2
        show aloneB _ _ _ = false
        unfold aloneB
        rw [Bool.and_eq_false_iff]
        right
        rw [← Bool.not_eq_true]
        intro hall
        have h3 := List.all_eq_true.1 hall (i : Int) (by simpa using h2)
        have h4 : (i : Int) ∈ ints (bits 8 s) := by simpa using h3
        obtain ⟨k, hk, hki⟩ := ints_mem.1 h4
        have : k = i := by omega
        subst this
        rw [(mem_bits.1 hk).2] at hq
        cases hq
      have : daysT m t ((rows[i]?.getD []).map Int.toNat) = 0 := by
        unfold daysT
        rw [List.map_map]
        have : (rows[i]?.getD []).map ((fun k => if t k = true then m.dys k else 0) ∘ Int.toNat) = (rows[i]?.getD []).map fun _ => (0 : Int) := by
          apply List.map_congr_left
          intro x hx
          show (if t x.toNat = true then _ else _) = _
          rw [hz x hx]; rfl
        rw [this]
        exact sum_zero _
      omega
/-- the first crowd of a day -/
theorem crIn_first (m : Mill) (b : Int) : ∀ N, (crIn m b N = 0 → ∀ s, 1 ≤ s → s ≤ N → overF m (ints (bits 8 s)) b m.orders.length ≤ 0) ∧
    (crIn m b N ≠ 0 → 0 < overF m (ints (bits 8 (crIn m b N))) b m.orders.length ∧ ∀ s, 1 ≤ s → s ≤ N → 0 < overF m (ints (bits 8 s)) b m.orders.length → aheadB (ints (bits 8 s)) (ints (bits 8 (crIn m b N))) = false)
  | 0 => ⟨fun _ s h1 h2 => by omega, fun h => absurd rfl h⟩
  | N + 1 => by
    obtain ⟨h1, h2⟩ := crIn_first m b N
    have irr : ∀ a : List Int, aheadB a a = false := fun a => by
      induction a with
      | nil => rfl
      | cons x a ih => simp [aheadB, ih]
    by_cases hc : 0 < overF m (ints (bits 8 (N + 1))) b m.orders.length ∧ (crIn m b N = 0 ∨ aheadB (ints (bits 8 (N + 1))) (ints (bits 8 (crIn m b N))) = true)
    · have e : crIn m b (N + 1) = N + 1 := by rw [crIn, if_pos hc]
      rw [e]
      refine ⟨fun h => by omega, fun _ => ⟨hc.1, fun s g1 g2 g3 => ?_⟩⟩
      rcases Nat.lt_or_ge N s with hs | hs
      · have : s = N + 1 := by omega
        subst this; exact irr _
      · rcases hc.2 with h0 | h0
        · have := h1 h0 s g1 hs; omega
        · by_cases hz : crIn m b N = 0
          · have := h1 hz s g1 hs; omega
          · have g4 := (h2 hz).2 s g1 hs g3
            cases ha : aheadB (ints (bits 8 s)) (ints (bits 8 (N + 1))) with
            | false => rfl
            | true => rw [aheadB_trans _ _ _ ha h0] at g4; cases g4
    · have e : crIn m b (N + 1) = crIn m b N := by rw [crIn, if_neg hc]
      rw [e]
      have hN : crIn m b N = 0 → overF m (ints (bits 8 (N + 1))) b m.orders.length ≤ 0 := fun h0 => by
        by_cases g : 0 < overF m (ints (bits 8 (N + 1))) b m.orders.length
        · exact absurd ⟨g, .inl h0⟩ hc
        · omega
      refine ⟨fun h0 s g1 g2 => ?_, fun h0 => ⟨(h2 h0).1, fun s g1 g2 g3 => ?_⟩⟩
      · rcases Nat.lt_or_ge N s with hs | hs
        · have : s = N + 1 := by omega
          subst this; exact hN h0
        · exact h1 h0 s g1 hs
      · rcases Nat.lt_or_ge N s with hs | hs
        · have : s = N + 1 := by omega
          subst this
          cases ha : aheadB (ints (bits 8 (N + 1))) (ints (bits 8 (crIn m b N))) with
          | false => rfl
          | true => exact absurd ⟨g3, .inr ha⟩ hc
        · exact (h2 h0).2 s g1 hs g3
/-- the first crowd of all days -/
theorem crBy_first (m : Mill) (N : Nat) : ∀ k, (crBy m N k = (0, 0) → ∀ b : Nat, 1 ≤ b → b ≤ k → crIn m (b : Int) N = 0) ∧
    (crBy m N k ≠ (0, 0) → 1 ≤ (crBy m N k).1 ∧ (crBy m N k).1 ≤ k ∧ (crBy m N k).2 ≠ 0 ∧ (crBy m N k).2 = crIn m ((crBy m N k).1 : Int) N ∧ ∀ b : Nat, 1 ≤ b → b < (crBy m N k).1 → crIn m (b : Int) N = 0)
  | 0 => ⟨fun _ b h1 h2 => by omega, fun h => absurd rfl h⟩
  | k + 1 => by
    obtain ⟨h1, h2⟩ := crBy_first m N k
    by_cases h0 : crBy m N k = (0, 0)
    · by_cases hz : crIn m ((k + 1 : Nat) : Int) N = 0
      · have e : crBy m N (k + 1) = (0, 0) := by rw [crBy, if_pos h0, if_pos hz]
        refine ⟨fun _ b g1 g2 => ?_, fun h => absurd e h⟩
        rcases Nat.lt_or_ge k b with hb | hb
        · have : b = k + 1 := by omega
          subst this; exact hz
        · exact h1 h0 b g1 hb
      · have e : crBy m N (k + 1) = (k + 1, crIn m ((k + 1 : Nat) : Int) N) := by rw [crBy, if_pos h0, if_neg hz]
        rw [e]
        exact ⟨fun h => by simp at h, fun _ => ⟨by omega, Nat.le_refl _, hz, rfl, fun b g1 g2 => h1 h0 b g1 (by simp only at g2; omega)⟩⟩
    · have e : crBy m N (k + 1) = crBy m N k := by rw [crBy, if_neg h0]
      rw [e]
      obtain ⟨g1, g2, g3⟩ := h2 h0
      exact ⟨fun h => absurd h h0, fun _ => ⟨g1, by omega, g3⟩⟩
theorem rising_snoc {l : List Int} {x : Int} (h : risingB l = true) (hx : ∀ y, y ∈ l → y < x) : risingB (l ++ [x]) = true := by
  rw [risingB_iff] at h ⊢
  intro i h1 h2
  rw [List.length_append, List.length_singleton] at h2
  rcases Nat.lt_or_ge i l.length with g | g
  · rw [List.getElem?_append_left (by omega), List.getElem?_append_left g]
    exact h i h1 g
  · have : i = l.length := by omega
    subst this
    rw [List.getElem?_append_left (by omega), List.getElem?_append_right (Nat.le_refl _), Nat.sub_self]
    have hlt : l.length - 1 < l.length := by omega
    rw [List.getElem?_eq_getElem hlt]
    exact hx _ (List.getElem_mem hlt)
theorem rising_bits (s : Nat) : ∀ n, risingB (ints (bits n s)) = true
  | 0 => rfl
  | n + 1 => by
    rw [bits_succ]
    split
    · rw [ints_append]
      refine rising_snoc (rising_bits s n) fun y hy => ?_
      obtain ⟨k, hk, rfl⟩ := ints_mem.1 hy
      have := (mem_bits.1 hk).1
      show (k : Int) < (n : Int)
      omega
    · exact rising_bits s n
theorem bits_same {j s : Nat} (h : s < 2 ^ j) : bits (j + 1) s = bits j s := by
  rw [bits_succ, Nat.testBit_lt_two_pow h]; rfl
theorem bits_add {j s : Nat} (h : s < 2 ^ j) : bits (j + 1) (s + 2 ^ j) = bits j s ++ [j] := by
  rw [bits_succ]
  have h1 : (s + 2 ^ j).testBit j = true := by rw [Nat.add_comm, Nat.testBit_two_pow_add_eq, Nat.testBit_lt_two_pow h]; rfl
  rw [if_pos h1]
  congr 1
  unfold bits
  apply List.filter_congr
  intro k hk
  have := List.mem_range.1 hk
  rw [Nat.add_comm, Nat.testBit_two_pow_add_gt this]
theorem bits_eight {L s : Nat} (hL : L ≤ 3) (hs : s < 2 ^ L) : bits 8 s = bits L s := by
  have := bits_more hs (8 - L)
  rwa [show L + (8 - L) = 8 by omega] at this
theorem crowdC_ok {m : Mill} (hch : checkE m = 0) {s : Nat} (h1 : 1 ≤ s) (h2 : s < 2 ^ m.laced.length) {b : Int} (hb : 1 ≤ b ∧ b ≤ 99) : crowdC m (ints (bits 8 s)) b = 0 := by
  obtain ⟨l1, l2, l3⟩ := check_len hch
  unfold crowdC
  rw [if_neg, if_neg, if_neg]
  · unfold inB; simp; omega
  · rw [not_or]
    refine ⟨fun h => ?_, by rw [rising_bits]; simp⟩
    have h' : (bits 8 s).length = 0 := by simpa [ints] using h
    have := bits_none (n := 8) (s := s) (by have : 2 ^ m.laced.length ≤ 2 ^ 8 := Nat.pow_le_pow_right (by omega) (by omega); omega) h'
    omega
  · rw [Bool.not_eq_false, List.all_eq_true]
    intro x hx
    obtain ⟨k, hk, rfl⟩ := ints_mem.1 hx
    rw [bits_eight l2 h2] at hk
    have := (mem_bits.1 hk).1
    unfold inB; simp; omega
theorem overE_any {m : Mill} (hch : checkE m = 0) {s : Nat} (h1 : 1 ≤ s) (h2 : s < 2 ^ m.laced.length) {b : Int} (hb : 1 ≤ b ∧ b ≤ 99) :
    overE m (ints (bits 8 s)) b = if overF m (ints (bits 8 s)) b m.orders.length < 1 then (0, 6) else (overF m (ints (bits 8 s)) b m.orders.length, 0) := by
  unfold overE
  rw [if_neg (by rw [hch]; simp), if_neg (by rw [crowdC_ok hch h1 h2 hb]; simp)]
/-- what Crowded's answer says -/
theorem crowE_some {m : Mill} (hch : checkE m = 0) {y z : Nat} (h : crowE m = (y, z)) (hy : y ≠ 0) : (1 ≤ y ∧ y ≤ 99) ∧ (1 ≤ z ∧ z < 2 ^ m.laced.length) ∧ 0 < overF m (ints (bits 8 z)) y m.orders.length ∧ planF m = none := by
  unfold crowE at h
  rw [if_pos hch] at h
  have hne : crBy m (2 ^ m.laced.length - 1) 99 ≠ (0, 0) := fun e => by rw [h] at e; simp at e; omega
  obtain ⟨g1, g2, g3, g4, _⟩ := (crBy_first m (2 ^ m.laced.length - 1) 99).2 hne
  rw [h] at g1 g2 g3 g4
  simp only at g1 g2 g3 g4
  have hle := crIn_le m (y : Int) (2 ^ m.laced.length - 1)
  have h5 := ((crIn_first m (y : Int) (2 ^ m.laced.length - 1)).2 (by rw [← g4]; exact g3)).1
  rw [← g4] at h5 hle
  have := Nat.two_pow_pos m.laced.length
  exact ⟨⟨g1, g2⟩, ⟨by omega, by omega⟩, h5, crowd_none hch z y (by omega) h5⟩
theorem crowE_first {m : Mill} (hch : checkE m = 0) {y z : Nat} (h : crowE m = (y, z)) {s b : Nat} (h1 : 1 ≤ s) (h2 : s < 2 ^ m.laced.length) (hb : 1 ≤ b ∧ b ≤ 99) (ho : 0 < overF m (ints (bits 8 s)) b m.orders.length) :
    y ≠ 0 ∧ y ≤ b ∧ (y = b → aheadB (ints (bits 8 s)) (ints (bits 8 z)) = false) := by
  unfold crowE at h
  rw [if_pos hch] at h
  have hin : crIn m (b : Int) (2 ^ m.laced.length - 1) ≠ 0 := fun e => by
    have := (crIn_first m (b : Int) (2 ^ m.laced.length - 1)).1 e s h1 (by omega)
    omega
  have hne : crBy m (2 ^ m.laced.length - 1) 99 ≠ (0, 0) := fun e => hin ((crBy_first m _ 99).1 e b hb.1 hb.2)
  obtain ⟨g1, g2, g3, g4, g5⟩ := (crBy_first m (2 ^ m.laced.length - 1) 99).2 hne
  rw [h] at g1 g2 g3 g4 g5
  simp only at g1 g2 g3 g4 g5
  refine ⟨by omega, ?_, fun e => ?_⟩
  · rcases Nat.lt_or_ge b y with hlt | hge
    · exact absurd (g5 b hb.1 hlt) hin
    · exact hge
  · subst e
    have := ((crIn_first m (y : Int) (2 ^ m.laced.length - 1)).2 hin).2 s h1 (by omega) ho
    rwa [← g4] at this
/-- what an order of a mill of L looms must be -/
structure OrdOk (L : Nat) (o : Ord) : Prop where
  pat : 0 ≤ o.pattern ∧ o.pattern ≤ 9
  dys : 1 ≤ o.days ∧ o.days ≤ 20
  byy : 1 ≤ o.by_ ∧ o.by_ ≤ 99
  ne : o.on ≠ []
  on : ∀ x, x ∈ o.on → 0 ≤ x ∧ x < L
  up : risingB o.on = true
structure MillOk (m : Mill) : Prop where
  looms : 1 ≤ m.laced.length ∧ m.laced.length ≤ 3
  few : m.orders.length ≤ 7
  laced : ∀ x, x ∈ m.laced → -1 ≤ x ∧ x ≤ 9
  change : 0 ≤ m.change ∧ m.change ≤ 5
  ords : ∀ o, o ∈ m.orders → OrdOk m.laced.length o
theorem check_iff (m : Mill) : checkE m = 0 ↔ MillOk m := by
  constructor
  · intro h
    have h0 := check_len h
    obtain ⟨h1, h2⟩ := check_orders h
    unfold checkE at h
    split at h
    · cases h
    split at h
    · cases h
    · rename_i g2
      split at h
      · cases h
      split at h
      · cases h
      · rename_i g4
        split at h
        · cases h
        · rename_i g5
          split at h
          · cases h
          · rename_i g6
            simp only [not_or, Bool.not_eq_false, List.all_eq_true] at g2 g4 g5 g6
            refine ⟨⟨h0.1, h0.2.1⟩, h0.2.2, fun x hx => ?_, h2, fun o ho => ⟨(h1 o ho).1, (h1 o ho).2.1, (h1 o ho).2.2, ?_, fun x hx => ?_, g6 o ho⟩⟩
            · have := g2.1 x hx
              unfold inB at this; simp at this; omega
            · have := g4 o ho
              intro e; rw [e] at this; simp at this
            · have := g5 o ho x hx
              unfold inB at this; simp at this; omega
  · intro ⟨h1, h2, h3, h4, h5⟩
    unfold checkE
    rw [if_neg, if_neg, if_neg, if_neg, if_neg, if_neg]
    · rw [Bool.not_eq_false, List.all_eq_true]; exact fun o ho => (h5 o ho).up
    · rw [Bool.not_eq_false, List.all_eq_true]
      intro o ho
      rw [List.all_eq_true]
      intro x hx
      have := (h5 o ho).on x hx
      unfold inB; simp; omega
    · rw [Bool.not_eq_false, List.all_eq_true]
      intro o ho
      have := (h5 o ho).ne
      simpa using List.length_pos_iff.2 this
    · rw [Bool.not_eq_false, List.all_eq_true]
      intro o ho
      obtain ⟨g1, g2, g3, _⟩ := h5 o ho
      unfold inB; simp; omega
    · rw [not_or, Bool.not_eq_false, Bool.not_eq_false, List.all_eq_true]
      refine ⟨fun x hx => ?_, ?_⟩
      · have := h3 x hx; unfold inB; simp; omega
      · unfold inB; simp; omega
    · rw [not_or, Bool.not_eq_false]
      refine ⟨?_, by omega⟩
      unfold inB; simp; omega
end Go.Proofs.Pet
