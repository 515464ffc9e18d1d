/-
  Chains of cards, their ribbons, and numbers by which they are named. No program is named here.
-/
import Derived.IntWalk
namespace Go.Proofs.Pet

/-- what a chain that is taken round weaves at a throw -/
def liftC (c : List Int) (t : Nat) : Int := c[t % c.length]?.getD 0
/-- the first throw at which two ribbons differ -/
def difT (a b : List Int) : Option Nat := (List.range (a.length + b.length)).find? fun t => decide (liftC a t ≠ liftC b t)
/-- a chain of one to three cards -/
def ChainOk (c : List Int) : Prop := 1 ≤ c.length ∧ c.length ≤ 3
theorem difT_none {a b : List Int} : difT a b = none ↔ ∀ t, t < a.length + b.length → liftC a t = liftC b t := by
  unfold difT
  rw [List.find?_eq_none]
  simp
theorem liftC_six {c : List Int} (h : ChainOk c) (t : Nat) : liftC c t = liftC c (t % 6) := by
  unfold liftC
  congr 2
  obtain ⟨h1, h2⟩ := h
  obtain h3 | h3 | h3 : c.length = 1 ∨ c.length = 2 ∨ c.length = 3 := by omega
  all_goals rw [h3]; omega
theorem chain_cases {c : List Int} (h : ChainOk c) : (∃ x, c = [x]) ∨ (∃ x y, c = [x, y]) ∨ ∃ x y z, c = [x, y, z] := by
  obtain ⟨h1, h2⟩ := h
  match c, h1, h2 with
  | [x], _, _ => exact .inl ⟨x, rfl⟩
  | [x, y], _, _ => exact .inr (.inl ⟨x, y, rfl⟩)
  | [x, y, z], _, _ => exact .inr (.inr ⟨x, y, z, rfl⟩)
  | _ :: _ :: _ :: _ :: _, _, h => simp at h
/-- the same for both rounds together: the same for ever -/
theorem difT_same {a b : List Int} (ha : ChainOk a) (hb : ChainOk b) : difT a b = none ↔ ∀ t, liftC a t = liftC b t := by
  rw [difT_none]
  refine ⟨fun h t => ?_, fun h t _ => h t⟩
  rw [liftC_six ha, liftC_six hb]
  have ht : t % 6 < 6 := Nat.mod_lt _ (by omega)
  revert ht
  generalize t % 6 = s
  intro hs
  have h0 := h 0; have h1 := h 1; have h2 := h 2; have h3 := h 3; have h4 := h 4; have h5 := h 5
  obtain rfl | rfl | rfl | rfl | rfl | rfl : s = 0 ∨ s = 1 ∨ s = 2 ∨ s = 3 ∨ s = 4 ∨ s = 5 := by omega
  all_goals
    rcases chain_cases ha with ⟨x, rfl⟩ | ⟨x, y, rfl⟩ | ⟨x, y, z, rfl⟩
    all_goals
      rcases chain_cases hb with ⟨u, rfl⟩ | ⟨u, v, rfl⟩ | ⟨u, v, w, rfl⟩
      all_goals
        simp [liftC] at h0 h1 h2 h3 h4 h5 ⊢
        try omega
/-- the number of chain i once those from j on have been looked at -/
def numU (cs : List (List Int)) (i j : Nat) : Nat := ((List.range' j (i - j)).find? fun k => (difT (cs[i]?.getD []) (cs[k]?.getD [])).isNone).getD i
def numB (cs : List (List Int)) (i : Nat) : Nat := numU cs i 0
theorem numU_self (cs : List (List Int)) (i : Nat) : numU cs i i = i := by unfold numU; simp
theorem numU_succ (cs : List (List Int)) {i j : Nat} (h : j < i) : numU cs i j = if difT (cs[i]?.getD []) (cs[j]?.getD []) = none then j else numU cs i (j + 1) := by
  unfold numU
  have e : i - j = (i - (j + 1)) + 1 := by omega
  rw [e, List.range'_succ, List.find?_cons]
  by_cases hd : difT (cs[i]?.getD []) (cs[j]?.getD []) = none
  · rw [if_pos hd, hd]; simp
  · rw [if_neg hd]
    have : (difT (cs[i]?.getD []) (cs[j]?.getD [])).isNone = false := by
      cases h : difT (cs[i]?.getD []) (cs[j]?.getD []) with
      | none => exact absurd h hd
      | some _ => rfl
    rw [this]
theorem numU_le (cs : List (List Int)) (i j : Nat) (hj : j ≤ i) : numU cs i j ≤ i := by
  unfold numU
  cases h : (List.range' j (i - j)).find? fun k => (difT (cs[i]?.getD []) (cs[k]?.getD [])).isNone with
  | none => simp
  | some k =>
    have := List.mem_of_find?_eq_some h
    rw [List.mem_range'_1] at this
    simp; omega
section
variable {cs : List (List Int)} (hc : ∀ c, c ∈ cs → ChainOk c)
include hc
theorem chain_at {i : Nat} (hi : i < cs.length) : ChainOk (cs[i]?.getD []) := by
  rw [List.getElem?_eq_getElem hi]
  exact hc _ (List.getElem_mem hi)
theorem numB_same {i : Nat} (hi : i < cs.length) : ∀ t, liftC (cs[i]?.getD []) t = liftC (cs[numB cs i]?.getD []) t := by
  unfold numB numU
  cases h : (List.range' 0 (i - 0)).find? fun k => (difT (cs[i]?.getD []) (cs[k]?.getD [])).isNone with
  | none => intro t; simp
  | some k =>
    have hm := List.mem_of_find?_eq_some h
    rw [List.mem_range'_1] at hm
    have hp := List.find?_some h
    have hk : k < cs.length := by omega
    exact (difT_same (chain_at hc hi) (chain_at hc hk)).1 (by simpa using hp)
theorem numB_least {i k : Nat} (hi : i < cs.length) (hk : k ≤ i) (h : ∀ t, liftC (cs[i]?.getD []) t = liftC (cs[k]?.getD []) t) : numB cs i ≤ k := by
  rcases Nat.lt_or_ge k i with hlt | hge
  · unfold numB numU
    cases h' : (List.range' 0 (i - 0)).find? fun k => (difT (cs[i]?.getD []) (cs[k]?.getD [])).isNone with
    | none =>
      rw [List.find?_eq_none] at h'
      have := h' k (by rw [List.mem_range'_1]; omega)
      rw [(difT_same (chain_at hc hi) (chain_at hc (by omega))).2 h] at this
      simp at this
    | some j =>
      obtain ⟨_, pre, post, e, hno⟩ := List.find?_eq_some_iff_append.1 h'
      have hm : k ∈ List.range' 0 (i - 0) := by rw [List.mem_range'_1]; omega
      rw [e, List.mem_append] at hm
      rcases hm with hm | hm
      · have := hno k hm
        rw [(difT_same (chain_at hc hi) (chain_at hc (by omega))).2 h] at this
        simp at this
      · have hs : (List.range' 0 (i - 0)).Pairwise (· < ·) := List.pairwise_lt_range'
        rw [e, List.pairwise_append] at hs
        rcases List.mem_cons.1 hm with rfl | hm
        · exact Nat.le_refl _
        · have := (List.pairwise_cons.1 hs.2.1).1 k hm
          exact Nat.le_of_lt this
  · have := numU_le cs i 0 (by omega)
    unfold numB; omega
/-- chains have the same number just if their ribbons are the same -/
theorem numB_iff {x y : Nat} (hx : x < cs.length) (hy : y < cs.length) : numB cs x = numB cs y ↔ difT (cs[x]?.getD []) (cs[y]?.getD []) = none := by
  rw [difT_same (chain_at hc hx) (chain_at hc hy)]
  constructor
  · intro h t
    rw [numB_same hc hx t, h, numB_same hc hy t]
  · intro h
    have hx' := numU_le cs x 0 (by omega); have hy' := numU_le cs y 0 (by omega)
    have ex := numB_same hc hx; have ey := numB_same hc hy
    have k1 : numB cs x ≤ x := hx'
    have k2 : numB cs y ≤ y := hy'
    rcases Nat.le_total x y with hxy | hxy
    · have h1 : numB cs y ≤ numB cs x := numB_least hc hy (by omega) fun t => by rw [← h t]; exact ex t
      have h2 : numB cs x ≤ numB cs y := numB_least hc hx (by omega) fun t => by rw [h t]; exact ey t
      omega
    · have h1 : numB cs x ≤ numB cs y := numB_least hc hx (by omega) fun t => by rw [h t]; exact ey t
      have h2 : numB cs y ≤ numB cs x := numB_least hc hy (by omega) fun t => by rw [← h t]; exact ex t
      omega
end
theorem numB_zero (cs : List (List Int)) : numB cs 0 = 0 := by unfold numB numU; simp
/-- how often the ribbon is another one than that before it -/
def wantC (cs : List (List Int)) : Nat → List Nat → Int
  | _, [] => 0
  | l, c :: r => (if difT (cs[l]?.getD []) (cs[c]?.getD []) = none then 0 else 1) + wantC cs c r
theorem wantC_bd (cs : List (List Int)) : ∀ (r : List Nat) (l : Nat), 0 ≤ wantC cs l r ∧ wantC cs l r ≤ r.length
  | [], _ => ⟨Int.le_refl _, Int.le_refl _⟩
  | c :: r, l => by
    have := wantC_bd cs r c
    unfold wantC
    rw [List.length_cons]
    split <;> omega
theorem wantC_snoc (cs : List (List Int)) : ∀ (r : List Nat) (l c : Nat), wantC cs l (r ++ [c]) = wantC cs l r + if difT (cs[(r.getLast?).getD l]?.getD []) (cs[c]?.getD []) = none then 0 else 1
  | [], l, c => by
    rw [List.nil_append, wantC, wantC]
    show _ = 0 + (if difT (cs[l]?.getD []) (cs[c]?.getD []) = none then 0 else 1)
    rw [wantC]; omega
  | a :: r, l, c => by
    rw [List.cons_append, wantC, wantC, wantC_snoc cs r a c]
    have e : ((a :: r).getLast?).getD l = (r.getLast?).getD a := by
      cases r with
      | nil => rfl
      | cons b r => simp [List.getLast?_cons]
    rw [e]; omega
end Go.Proofs.Pet
