/-
  A table that bounds, as it lies in memory.
  LoomBounded: what is asked of a table that is changed.
  Tables of the call's own.
  LoomBounded: the form of a table of the call's own, whatever its numbers are.
  LoomBounded: a table of the call's own has the form of one.
  LoomBounded: rows that stay; the table that is made has the form of one; a closure.
-/
import Derived.Test.YtfglamdbnclcaaaGreatZG
import Derived.Test.YtfglamdbnclcaaaGreatT2
import Derived.Test.YtfglamdbnclcaaaGreatV2
import Derived.Test.YtfglamdbnclcaaaGreatZ2
import Derived.Test.YtfglamdbnclcaaaGreatV1
import Derived.Test.YtfglamdbnclcaaaGreatP18
import Derived.Test.YtfglamdbnclcaaaGreatUB
namespace Go.Proofs.Pet
open Go

theorem TabOk.bounds {m : Mill} {T : List (List (List Int))} (h : TabOk m T) (hb : boundsQ m (tabF T) = true) : BoundsT m (tabF T) :=
  ⟨h.bd, fun l s k h1 h2 h3 => boundsQ_iff.1 hb l s k h1 h2 (by
    rcases Nat.lt_or_ge k m.orders.length with g | g
    · exact g
    · rw [Nat.testBit_lt_two_pow (Nat.lt_of_lt_of_le h2 (Nat.pow_le_pow_right (by omega) g))] at h3; cases h3) h3⟩
end Go.Proofs.Pet

namespace Go.Proofs.Pet
open Go

theorem bounded_law {m : Mill} (hok : MillOk m) {T : List (List (List Int))} (h : tabE m T = 0) :
    ∃ q n g, boundE m T = (q, 0) ∧ leastE m T = (n, g) ∧
      ((q = false ∧ g = 8) ∨ (q = true ∧ BoundsT m (tabF T) ∧ (g = 0 ∨ g = 6) ∧ ∀ rows, planF m = some rows → g = 0 ∧ n ≤ chgF m rows rows.length)) := by
  have hch := (check_iff m).2 hok
  have hT := tabE_ok h
  have hfl : 2 ^ m.orders.length - 1 < 2 ^ m.orders.length := by have := Nat.two_pow_pos m.orders.length; omega
  cases hq : boundsQ m (tabF T) with
  | false =>
    refine ⟨false, 0, 8, ?_, ?_, .inl ⟨rfl, rfl⟩⟩
    · unfold boundE; rw [h, hq]; rfl
    · unfold leastE; rw [if_pos h, if_neg (by rw [hq]; simp)]
  | true =>
    have hB := hT.bounds hq
    have hb : boundE m T = (true, 0) := by unfold boundE; rw [h, hq]; rfl
    have hl : leastE m T = if 297 ≤ sumF (numT m.orders.length (tabF T)) m.laced.length (2 ^ m.orders.length - 1) then (0, 6) else (sumF (numT m.orders.length (tabF T)) m.laced.length (2 ^ m.orders.length - 1), 0) := by
      unfold leastE; rw [if_pos h, if_pos hq]
    have hp : ∀ rows, planF m = some rows → sumF (numC m) m.laced.length (2 ^ m.orders.length - 1) < 297 ∧ chgF m rows rows.length = sumF (numC m) m.laced.length (2 ^ m.orders.length - 1) := fun rows hr => by
      have h1 : sumF (numC m) m.laced.length (2 ^ m.orders.length - 1) < 297 := by
        unfold planF at hr
        split at hr
        · assumption
        · cases hr
      refine ⟨h1, ?_⟩
      rw [(plan_law hch hr).sum, fewR_sum m hch _ hfl, if_pos h1]
    by_cases h9 : 297 ≤ sumF (numT m.orders.length (tabF T)) m.laced.length (2 ^ m.orders.length - 1)
    · rw [if_pos h9] at hl
      refine ⟨true, 0, 6, hb, hl, .inr ⟨rfl, hB, .inr rfl, fun rows hr => ?_⟩⟩
      obtain ⟨h1, h2⟩ := hp rows hr
      have := hB.least hok hfl h1
      omega
    · rw [if_neg h9] at hl
      refine ⟨true, _, 0, hb, hl, .inr ⟨rfl, hB, .inl rfl, fun rows hr => ⟨rfl, ?_⟩⟩⟩
      obtain ⟨h1, h2⟩ := hp rows hr
      have := hB.least hok hfl h1
      omega
/-- a table in which one number is changed is good as before -/
theorem TabOk.tabE {m : Mill} {T : List (List (List Int))} (h : TabOk m T) : tabE m T = 0 := by
  unfold Go.Proofs.Pet.tabE
  rw [if_pos h.ok, if_pos h.len, if_pos, if_pos]
  · unfold rangedB
    simp only [List.all_eq_true]
    intro l hl k hk n hn
    obtain ⟨i, hi, rfl⟩ := List.getElem_of_mem hl
    obtain ⟨j, hj, rfl⟩ := List.getElem_of_mem hk
    obtain ⟨x, hx, rfl⟩ := List.getElem_of_mem hn
    have := h.bd i j x
    unfold tabF at this
    simp only [List.getElem?_eq_getElem hi, List.getElem?_eq_getElem hj, List.getElem?_eq_getElem hx, Option.getD_some] at this
    unfold inB
    simp [this.1, this.2]
  · unfold sizedB
    simp only [List.all_eq_true, Bool.and_eq_true, decide_eq_true_eq]
    intro l hl
    obtain ⟨i, hi, rfl⟩ := List.getElem_of_mem hl
    have h1 := h.rows i (by rw [← h.len]; exact hi)
    rw [List.getElem?_eq_getElem hi, Option.getD_some] at h1
    refine ⟨h1, fun k hk => ?_⟩
    obtain ⟨j, hj, rfl⟩ := List.getElem_of_mem hk
    have h2 := h.nums i j (by rw [← h.len]; exact hi) (by rw [← h1]; exact hj)
    rw [List.getElem?_eq_getElem hi, Option.getD_some, List.getElem?_eq_getElem hj, Option.getD_some] at h2
    exact h2
end Go.Proofs.Pet

namespace Go.Proofs.Pet
open Go Go.RowKit Go.Maps Go.Shelf

/-- a table of the call's own -/
def OwnT (w : World) (base : Nat) (v : Value) (T : List (List (List Int))) : Prop :=
  ∃ vs, w.ownsRow base 29 1 v T.length vs ∧ vs.length = T.length ∧ ∀ i, i < T.length → OwnR w base (vs[i]?.getD undef) (T[i]?.getD [])
theorem OwnT.nil (w : World) (base : Nat) : OwnT w base (.slice none 0 0) [] := ⟨[], World.ownsRow_nil w base _ 1, rfl, fun i h => absurd h (by simp)⟩
theorem OwnI.grownOf {w w' : World} {base base' size n : Nat} {e : TypeId} {u v : Value} {xs : List Int} {vs : List Value} (h : OwnI w base 3 u xs) (hne : e ≠ 3) (hg : w.grownBy w' v.ownBlock) (hv : w.ownsRow base' e size v n vs) : OwnI w' base 3 u xs := by
  obtain ⟨h1, h2⟩ := h
  refine ⟨h1, ?_⟩
  rcases h2 with h2 | ⟨g, cap, cur, rfl, hg1, hb, r⟩
  · exact .inl h2
  · refine .inr ⟨g, cap, cur, rfl, hg1, ?_, r⟩
    rw [← hb]
    refine hg.block g (Array.getElem?_eq_some_iff.1 hb).1 fun e' => ?_
    exact ownsRow_ne_blk hv (show Blk w g 3 cur from hb) (fun h => hne h.symm) e'
theorem OwnR.grownTT {w w' : World} {base base' n : Nat} {u v : Value} {X : List (List Int)} {vs : List Value} (h : OwnR w base u X) (hg : w.grownBy w' v.ownBlock) (hv : w.ownsRow base' 29 1 v n vs) : OwnR w' base u X := by
  obtain ⟨us, ⟨h1, h2⟩, h3, h4⟩ := h
  refine ⟨us, ⟨h1, ?_⟩, h3, fun i hi => (h4 i hi).grownOf (by decide) hg hv⟩
  rcases h2 with h2 | ⟨g, cap, cur, rfl, hg1, hb, r⟩
  · exact .inl h2
  · refine .inr ⟨g, cap, cur, rfl, hg1, ?_, r⟩
    rw [← hb]
    refine hg.block g (Array.getElem?_eq_some_iff.1 hb).1 fun e' => ?_
    exact ownsRow_ne_blk hv (show Blk w g 22 cur from hb) (by decide) e'
theorem OwnT.push {w1 w' : World} {base n : Nat} {v v' u : Value} {T : List (List (List Int))} {X : List (List Int)} {vs : List Value} (hn : T.length = n) (hv : w1.ownsRow base 29 1 v n vs) (hl : vs.length = n)
    (he : ∀ i, i < n → OwnR w1 base (vs[i]?.getD undef) (T[i]?.getD [])) (hu : OwnR w1 base u X) (hown : w'.ownsRow base 29 1 v' (n + 1) (vs ++ [u])) (hg : w1.grownBy w' v.ownBlock) : OwnT w' base v' (T ++ [X]) := by
  subst hn
  refine ⟨vs ++ [u], by simpa using hown, by simp [hl], fun i hi => ?_⟩
  rw [List.length_append, List.length_singleton] at hi
  by_cases e : i < T.length
  · rw [List.getElem?_append_left (by omega), List.getElem?_append_left e]
    exact (he i e).grownTT hg hv
  · have : i = T.length := by omega
    subst this
    rw [List.getElem?_append_right (by omega), List.getElem?_append_right (by omega), hl]
    simp only [Nat.sub_self, List.getElem?_cons_zero, Option.getD_some]
    exact hu.grownTT hg hv
section
variable {w w' : World}
instance {v : Value} {T : List (List (List Int))} : Lift (TabI w v T) w w' (TabI w' v T) := ⟨fun he h => h.ext he⟩
end
end Go.Proofs.Pet

namespace Go.Proofs.Pet
open Go Go.RowKit Go.Maps Go.Shelf

/-- blocks from a base on keep what they hold, but that a number 0..99 may become another such -/
def KeepT (base : Nat) (W W' : World) : Prop := ∀ b t cs, base ≤ b → Blk W b t cs → ∃ cs', Blk W' b t cs' ∧ ∀ (j : Nat) u, cs[j]? = some u →
  ∃ u', cs'[j]? = some u' ∧ (t ≠ 3 → u' = u) ∧ ∀ x, u = .int .i64 x → 0 ≤ x → x ≤ 99 → ∃ x', u' = .int .i64 x' ∧ 0 ≤ x' ∧ x' ≤ 99
theorem KeepT.apart {base Q : Nat} {W W' : World} (hQ : Q < base) (ha : Apart Q W W') : KeepT base W W' := fun _ _ cs hb h =>
  ⟨cs, h.apart (by omega) ha, fun _ u hu => ⟨u, hu, fun _ => rfl, fun x e h1 h2 => ⟨x, e, h1, h2⟩⟩⟩
theorem KeepT.set_ {base g i : Nat} {W : World} {gs : Array Value} (hg : Blk W g 3 gs) {y : Int} (h1 : 0 ≤ y) (h2 : y ≤ 99) : KeepT base W (W.setCell ⟨g, i, none⟩ (.int .i64 y)) := fun b t cs _ h => by
  by_cases e : b = g
  · subst e
    unfold Blk at hg h
    rw [hg] at h
    simp only [Option.some.injEq, Obj.cells.injEq] at h
    have hg' : Blk W b 3 gs := hg
    obtain ⟨rfl, rfl, _⟩ := h
    refine ⟨_, hg'.set_ i (.int .i64 y), fun j u hu => ?_⟩
    rw [Array.getElem?_setIfInBounds]
    by_cases ej : i = j
    · subst ej
      have hlt : i < gs.size := by
        rcases Nat.lt_or_ge i gs.size with h | h
        · exact h
        · rw [Array.getElem?_eq_none h] at hu; cases hu
      rw [if_pos rfl, if_pos hlt]
      exact ⟨_, rfl, fun h => absurd rfl h, fun _ _ _ _ => ⟨y, rfl, h1, h2⟩⟩
    · rw [if_neg ej]
      exact ⟨u, hu, fun _ => rfl, fun x e h1 h2 => ⟨x, e, h1, h2⟩⟩
  · exact ⟨cs, h.far (p := ⟨g, i, none⟩) e _, fun _ u hu => ⟨u, hu, fun _ => rfl, fun x e h1 h2 => ⟨x, e, h1, h2⟩⟩⟩
/-- a row of n numbers 0..99 -/
def ShapeRow (W : World) (base n : Nat) (v : Value) : Prop :=
  ∃ A c, v = .slice A n c ∧ n ≤ c ∧ c ≤ maxLen ∧ ∀ k, k < n → ∃ b o cs x, A = some ⟨b, o, none⟩ ∧ base ≤ b ∧ Blk W b 3 cs ∧ cs[o + k]? = some (.int .i64 x) ∧ 0 ≤ x ∧ x ≤ 99
def ShapeRows (W : World) (base N n : Nat) (v : Value) : Prop :=
  ∃ A c, v = .slice A N c ∧ N ≤ c ∧ c ≤ maxLen ∧ ∀ s, s < N → ∃ b o cs u, A = some ⟨b, o, none⟩ ∧ base ≤ b ∧ Blk W b 22 cs ∧ cs[o + s]? = some u ∧ ShapeRow W base n u
def ShapeTab (W : World) (base L N n : Nat) (v : Value) : Prop :=
  ∃ A c, v = .slice A L c ∧ L ≤ c ∧ c ≤ maxLen ∧ ∀ l, l < L → ∃ b o cs u, A = some ⟨b, o, none⟩ ∧ base ≤ b ∧ Blk W b 29 cs ∧ cs[o + l]? = some u ∧ ShapeRows W base N n u
theorem ShapeRow.keep {W W' : World} {base n : Nat} {v : Value} (h : ShapeRow W base n v) (hk : KeepT base W W') : ShapeRow W' base n v := by
  obtain ⟨A, c, h1, h2, h3, h4⟩ := h
  refine ⟨A, c, h1, h2, h3, fun k hkn => ?_⟩
  obtain ⟨b, o, cs, x, g1, g2, g3, g4, g5, g6⟩ := h4 k hkn
  obtain ⟨cs', k1, k2⟩ := hk b _ cs g2 g3
  obtain ⟨u', a1, _, a3⟩ := k2 _ _ g4
  obtain ⟨x', rfl, e1, e2⟩ := a3 x rfl g5 g6
  exact ⟨b, o, cs', x', g1, g2, k1, a1, e1, e2⟩
theorem ShapeRows.keep {W W' : World} {base N n : Nat} {v : Value} (h : ShapeRows W base N n v) (hk : KeepT base W W') : ShapeRows W' base N n v := by
  obtain ⟨A, c, h1, h2, h3, h4⟩ := h
  refine ⟨A, c, h1, h2, h3, fun k hkn => ?_⟩
  obtain ⟨b, o, cs, x, g1, g2, g3, g4, g5⟩ := h4 k hkn
  obtain ⟨cs', k1, k2⟩ := hk b _ cs g2 g3
  obtain ⟨u', a1, a2, _⟩ := k2 _ _ g4
  obtain rfl := a2 (by decide)
  exact ⟨b, o, cs', u', g1, g2, k1, a1, g5.keep hk⟩
theorem ShapeTab.keep {W W' : World} {base L N n : Nat} {v : Value} (h : ShapeTab W base L N n v) (hk : KeepT base W W') : ShapeTab W' base L N n v := by
  obtain ⟨A, c, h1, h2, h3, h4⟩ := h
  refine ⟨A, c, h1, h2, h3, fun k hkn => ?_⟩
  obtain ⟨b, o, cs, x, g1, g2, g3, g4, g5⟩ := h4 k hkn
  obtain ⟨cs', k1, k2⟩ := hk b _ cs g2 g3
  obtain ⟨u', a1, a2, _⟩ := k2 _ _ g4
  obtain rfl := a2 (by decide)
  exact ⟨b, o, cs', u', g1, g2, k1, a1, g5.keep hk⟩
theorem list_of {α : Type} (z : α) (P : Nat → α → Prop) : ∀ N, (∀ s, s < N → ∃ a, P s a) → ∃ l : List α, l.length = N ∧ ∀ s, s < N → P s (l[s]?.getD z)
  | 0, _ => ⟨[], rfl, fun s hs => absurd hs (by omega)⟩
  | N + 1, h => by
    obtain ⟨l, hl, hp⟩ := list_of z P N fun s hs => h s (by omega)
    obtain ⟨a, ha⟩ := h N (by omega)
    refine ⟨l ++ [a], by simp [hl], fun s hs => ?_⟩
    rcases Nat.lt_or_eq_of_le (Nat.le_of_lt_succ hs) with e | rfl
    · rw [List.getElem?_append_left (by omega)]; exact hp s e
    · rw [← hl, List.getElem?_append_right (Nat.le_refl _)]; simp; rw [hl]; exact ha
/-- blocks from a base on are as they were -/
def KeepB (base : Nat) (W W' : World) : Prop := ∀ b t cs, base ≤ b → Blk W b t cs → Blk W' b t cs
theorem KeepB.refl (base : Nat) (W : World) : KeepB base W W := fun _ _ _ _ h => h
theorem KeepB.ext {base : Nat} {W W' : World} (he : Ext W W') : KeepB base W W' := fun _ _ _ _ h => h.ext he
theorem KeepB.apart {base Q : Nat} {W W' : World} (hQ : Q < base) (ha : Apart Q W W') : KeepB base W W' := fun _ _ _ hb h => h.apart (by omega) ha
theorem KeepB.trans {base : Nat} {W W' W'' : World} (h : KeepB base W W') (h' : KeepB base W' W'') : KeepB base W W'' := fun b t cs hb hk => h' b t cs hb (h b t cs hb hk)
theorem ShapeRow.sl {W : World} {base n : Nat} {v : Value} (h : ShapeRow W base n v) : ∃ xs : List Int, xs.length = n ∧ (∀ W', KeepB base W W' → SlI W' v xs) ∧ ∀ k, k < n → 0 ≤ xs[k]?.getD 0 ∧ xs[k]?.getD 0 ≤ 99 := by
  obtain ⟨A, c, rfl, h2, h3, h4⟩ := h
  obtain ⟨xs, hl, hp⟩ := list_of (0 : Int) (fun k x => ∃ b o, A = some ⟨b, o, none⟩ ∧ (∀ W', KeepB base W W' → W'.cell? ⟨b, o + k, none⟩ = some (.int .i64 x)) ∧ 0 ≤ x ∧ x ≤ 99) n fun k hk => by
    obtain ⟨b, o, cs, x, g1, g2, g3, g4, g5, g6⟩ := h4 k hk
    exact ⟨x, b, o, g1, fun W' hW => by rw [(hW b _ cs g2 g3).cell]; exact g4, g5, g6⟩
  subst hl
  exact ⟨xs, rfl, fun W' hW => ⟨A, c, rfl, h2, h3, fun k hk => by obtain ⟨b, o, e, g, _⟩ := hp k hk; exact ⟨b, o, e, g W' hW⟩⟩, fun k hk => by obtain ⟨_, _, _, _, g1, g2⟩ := hp k hk; exact ⟨g1, g2⟩⟩
theorem ShapeRows.rows {W : World} {base N n : Nat} {v : Value} (h : ShapeRows W base N n v) : ∃ xss : List (List Int), xss.length = N ∧ (∀ W', KeepB base W W' → RowsI W' v xss) ∧ ∀ s, s < N → (xss[s]?.getD []).length = n ∧ ∀ k, k < n → 0 ≤ (xss[s]?.getD [])[k]?.getD 0 ∧ (xss[s]?.getD [])[k]?.getD 0 ≤ 99 := by
  obtain ⟨A, c, rfl, h2, h3, h4⟩ := h
  obtain ⟨xs, hl, hp⟩ := list_of ([] : List Int) (fun s x => ∃ b o u, A = some ⟨b, o, none⟩ ∧ (∀ W', KeepB base W W' → W'.cell? ⟨b, o + s, none⟩ = some u ∧ SlI W' u x) ∧ x.length = n ∧ ∀ k, k < n → 0 ≤ x[k]?.getD 0 ∧ x[k]?.getD 0 ≤ 99) N fun s hs => by
    obtain ⟨b, o, cs, u, g1, g2, g3, g4, g5⟩ := h4 s hs
    obtain ⟨x, e1, e2, e3⟩ := g5.sl
    exact ⟨x, b, o, u, g1, fun W' hW => ⟨by rw [(hW b _ cs g2 g3).cell]; exact g4, e2 W' hW⟩, e1, e3⟩
  subst hl
  exact ⟨xs, rfl, fun W' hW => RowsI.at_.2 ⟨A, c, rfl, h2, h3, fun k hk => by obtain ⟨b, o, u, e, g, _⟩ := hp k hk; exact ⟨b, o, u, e, (g W' hW).1, (g W' hW).2⟩⟩, fun k hk => by obtain ⟨_, _, _, _, _, g1, g2⟩ := hp k hk; exact ⟨g1, g2⟩⟩
theorem ShapeTab.tab {W : World} {base : Nat} {v : Value} {m : Mill} (hch : checkE m = 0) (h : ShapeTab W base m.laced.length (2 ^ m.orders.length) m.orders.length v) : ∃ T, (∀ W', KeepB base W W' → TabI W' v T) ∧ TabOk m T := by
  obtain ⟨A, c, rfl, h2, h3, h4⟩ := h
  obtain ⟨T, hl, hp⟩ := list_of ([] : List (List Int)) (fun l x => ∃ b o u, A = some ⟨b, o, none⟩ ∧ (∀ W', KeepB base W W' → W'.cell? ⟨b, o + l, none⟩ = some u ∧ RowsI W' u x) ∧ x.length = 2 ^ m.orders.length ∧ ∀ s, s < 2 ^ m.orders.length → (x[s]?.getD []).length = m.orders.length ∧ ∀ k, k < m.orders.length → 0 ≤ (x[s]?.getD [])[k]?.getD 0 ∧ (x[s]?.getD [])[k]?.getD 0 ≤ 99) m.laced.length fun s hs => by
    obtain ⟨b, o, cs, u, g1, g2, g3, g4, g5⟩ := h4 s hs
    obtain ⟨x, e1, e2, e3⟩ := g5.rows
    exact ⟨x, b, o, u, g1, fun W' hW => ⟨by rw [(hW b _ cs g2 g3).cell]; exact g4, e2 W' hW⟩, e1, e3⟩
  refine ⟨T, fun W' hW => ⟨A, c, by rw [hl], by rw [hl]; exact h2, h3, fun k hk => by obtain ⟨b, o, u, e, g, _⟩ := hp k (by omega); exact ⟨b, o, u, e, (g W' hW).1, (g W' hW).2⟩⟩, hch, hl, fun l h => ?_, fun l s h1 h2 => ?_, fun l s k => ?_⟩
  · obtain ⟨_, _, _, _, _, g1, _⟩ := hp l h; exact g1
  · obtain ⟨_, _, _, _, _, _, g2⟩ := hp l h1; exact (g2 s h2).1
  · unfold tabF
    by_cases h1 : l < m.laced.length
    · obtain ⟨_, _, _, _, _, g1, g2⟩ := hp l h1
      by_cases h2 : s < 2 ^ m.orders.length
      · by_cases h3 : k < m.orders.length
        · exact (g2 s h2).2 k h3
        · rw [List.getElem?_eq_none (l := (T[l]?.getD [])[s]?.getD []) (by rw [(g2 s h2).1]; omega)]; simp
      · rw [List.getElem?_eq_none (l := T[l]?.getD []) (by rw [g1]; omega)]; simp
    · rw [List.getElem?_eq_none (l := T) (by omega)]; simp
end Go.Proofs.Pet

namespace Go.Proofs.Pet
open Go Go.RowKit Go.Maps Go.Shelf

theorem ownsRow_blk {w : World} {base n : Nat} {e : TypeId} {v : Value} {vs : List Value} (h : w.ownsRow base e 1 v n vs) :
    ∃ A c, v = .slice A n c ∧ n ≤ c ∧ c ≤ maxLen ∧ ∀ k, k < n → ∃ b cs, A = some ⟨b, 0, none⟩ ∧ base ≤ b ∧ Blk w b e cs ∧ cs[0 + k]? = some (vs[k]?.getD undef) := by
  obtain ⟨h1, h2⟩ := h
  rcases h2 with ⟨rfl, h0⟩ | ⟨g, cap, cur, rfl, hg, hb, hn, hm, hs, hc⟩
  · subst h0
    exact ⟨none, 0, rfl, Nat.le_refl _, Nat.zero_le _, fun k hk => absurd hk (by omega)⟩
  · refine ⟨_, cap, rfl, hn, hm, fun k hk => ⟨g, cur, rfl, hg, hb, ?_⟩⟩
    rw [Nat.zero_add, ← hc, Nat.mul_one, List.getElem?_take, if_pos hk]
    have hlt : k < cur.size := by omega
    simp [hlt]
theorem OwnI.shape {w : World} {base n : Nat} {v : Value} {xs : List Int} (h : OwnI w base 3 v xs) (hl : xs.length = n) (hb : ∀ k, k < n → 0 ≤ xs[k]?.getD 0 ∧ xs[k]?.getD 0 ≤ 99) : ShapeRow w base n v := by
  obtain ⟨A, c, h1, h2, h3, h4⟩ := ownsRow_blk h
  rw [hl] at h1 h2 h4
  refine ⟨A, c, h1, h2, h3, fun k hk => ?_⟩
  obtain ⟨b, cs, g1, g2, g3, g4⟩ := h4 k hk
  refine ⟨b, 0, cs, xs[k]?.getD 0, g1, g2, g3, ?_, hb k hk⟩
  rw [g4, List.getElem?_map, List.getElem?_eq_getElem (by omega)]
  rfl
theorem OwnR.shape {w : World} {base N n : Nat} {v : Value} {xss : List (List Int)} (h : OwnR w base v xss) (hl : xss.length = N) (hn : ∀ s, s < N → (xss[s]?.getD []).length = n) (hb : ∀ s k, s < N → k < n → 0 ≤ (xss[s]?.getD [])[k]?.getD 0 ∧ (xss[s]?.getD [])[k]?.getD 0 ≤ 99) : ShapeRows w base N n v := by
  obtain ⟨vs, h0, h5, h6⟩ := h
  obtain ⟨A, c, h1, h2, h3, h4⟩ := ownsRow_blk h0
  rw [hl] at h1 h2 h4
  refine ⟨A, c, h1, h2, h3, fun k hk => ?_⟩
  obtain ⟨b, cs, g1, g2, g3, g4⟩ := h4 k hk
  exact ⟨b, 0, cs, _, g1, g2, g3, g4, (h6 k (by omega)).shape (hn k hk) fun j hj => hb k j hk hj⟩
theorem OwnT.shape {w : World} {base : Nat} {v : Value} {m : Mill} {T : List (List (List Int))} (h : OwnT w base v T) (hT : TabOk m T) : ShapeTab w base m.laced.length (2 ^ m.orders.length) m.orders.length v := by
  obtain ⟨vs, h0, h5, h6⟩ := h
  obtain ⟨A, c, h1, h2, h3, h4⟩ := ownsRow_blk h0
  rw [hT.len] at h1 h2 h4
  refine ⟨A, c, h1, h2, h3, fun k hk => ?_⟩
  obtain ⟨b, cs, g1, g2, g3, g4⟩ := h4 k hk
  exact ⟨b, 0, cs, _, g1, g2, g3, g4, (h6 k (by have := hT.len; omega)).shape (hT.rows k hk) (fun s hs => hT.nums k s hk hs) fun s j hs hj => hT.bd k s j⟩
end Go.Proofs.Pet

namespace Go.Proofs.Pet
open Go Go.RowKit Go.Maps Go.Shelf

theorem ownsRow_keepB {w w' : World} {base size n : Nat} {e : TypeId} {v : Value} {xs : List Value} (h : w.ownsRow base e size v n xs) (hk : KeepB base w w') : w'.ownsRow base e size v n xs := by
  obtain ⟨h1, h2⟩ := h
  refine ⟨h1, ?_⟩
  rcases h2 with h2 | ⟨g, cap, cur, rfl, hg, hb, r⟩
  · exact .inl h2
  · exact .inr ⟨g, cap, cur, rfl, hg, hk g e cur hg hb, r⟩
theorem OwnR.keepB {w w' : World} {base : Nat} {v : Value} {xss : List (List Int)} (h : OwnR w base v xss) (hk : KeepB base w w') : OwnR w' base v xss := by
  obtain ⟨vs, h1, h2, h3⟩ := h
  exact ⟨vs, ownsRow_keepB h1 hk, h2, fun i hi => ownsRow_keepB (h3 i hi) hk⟩
/-- the table that is made -/
def tabC (m : Mill) : List (List (List Int)) := (List.range m.laced.length).map fun i => rowsC m i (2 ^ m.orders.length)
theorem tabC_len (m : Mill) : (tabC m).length = m.laced.length := by unfold tabC; simp
theorem tabC_get {m : Mill} {i : Nat} (hi : i < m.laced.length) : (tabC m)[i]?.getD [] = rowsC m i (2 ^ m.orders.length) := by
  unfold tabC; rw [List.getElem?_map, List.getElem?_range hi]; rfl
theorem rowsC_at {m : Mill} {i N s : Nat} (hs : s < N) : (rowsC m i N)[s]?.getD [] = lst (costC m i s) m.orders.length := by
  unfold rowsC; rw [List.getElem?_map, List.getElem?_range hs]; rfl
theorem tabC_ok {m : Mill} (hch : checkE m = 0) : TabOk m (tabC m) := by
  refine ⟨hch, tabC_len m, fun l h => ?_, fun l s h1 h2 => ?_, fun l s k => ?_⟩
  · rw [tabC_get h, rowsC_len]
  · rw [tabC_get h1, rowsC_at h2, lst_len]
  · unfold tabF
    by_cases h1 : l < m.laced.length
    · rw [tabC_get h1]
      by_cases h2 : s < 2 ^ m.orders.length
      · rw [rowsC_at h2]
        by_cases h3 : k < m.orders.length
        · rw [lst_get _ h3]; exact costC_bd m l s k
        · rw [List.getElem?_eq_none (l := lst _ _) (by rw [lst_len]; omega)]; simp
      · rw [List.getElem?_eq_none (l := rowsC _ _ _) (by rw [rowsC_len]; omega)]; simp
    · rw [List.getElem?_eq_none (l := tabC m) (by rw [tabC_len]; omega)]; simp
theorem bd1 (w : World) (M n : Nat) (a b : Value) (A : Option Addr) (c : Nat) (hM : Blk w M 25 #[a, b, .slice A n c]) (x : List Int) : Tells Tryz.prog w 24 #[] #[.pointer (some ⟨M, 0, none⟩)] SlI x (decide (x.length ≠ n)) := by
  intro W v hW hv
  obtain ⟨A', c', rfl, h2, h3, h4⟩ := hv
  obtain ⟨k0, k1, k2⟩ := (hM.ext hW).c3
  obtain ⟨q, hq⟩ : ∃ q, decide (x.length ≠ n) = q := ⟨_, rfl⟩
  have hq2 : ((x.length : Int) != (n : Int)) = q := by rw [← hq, bne, ieq]; simp
  rw [hq]
  clear h4 hM hW
  show Calls Tryz.prog 24 #[_, .pointer (some ⟨M, 0, none⟩)] W _
  go_enter Tryz.func24, Tryz.ntmps24
  go_wp2_with fail
  go_ret
  exact ⟨rfl, Ext.refl _⟩
theorem min_max (x : Int) : 0 ≤ min 99 (max 0 x) ∧ min 99 (max 0 x) ≤ 99 := by omega
end Go.Proofs.Pet
