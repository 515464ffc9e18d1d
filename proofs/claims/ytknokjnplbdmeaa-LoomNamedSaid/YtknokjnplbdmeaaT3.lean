/-
  A mill whose looms, orders and patterns are named otherwise. No program is named here.
-/
import Derived.Test.YtknokjnplbdmeaaR2
namespace Go.Proofs.Pet
open Go

/-- each number below n once -/
def Shuffle (n : Nat) (f : Nat → Nat) : Prop := ((List.range n).map f).Perm (List.range n)
theorem Shuffle.lt {n : Nat} {f : Nat → Nat} (h : Shuffle n f) {j : Nat} (hj : j < n) : f j < n :=
  List.mem_range.1 (h.mem_iff.1 (List.mem_map.2 ⟨j, List.mem_range.2 hj, rfl⟩))
theorem Shuffle.inj {n : Nat} {f : Nat → Nat} (h : Shuffle n f) {i j : Nat} (hi : i < n) (hj : j < n) (e : f i = f j) : i = j := by
  have hn : ((List.range n).map f).Nodup := h.symm.nodup_iff.1 List.nodup_range
  rw [List.nodup_iff_pairwise_ne, List.pairwise_map, List.pairwise_iff_getElem] at hn
  simp only [List.getElem_range, List.length_range] at hn
  rcases Nat.lt_trichotomy i j with h1 | h1 | h1
  · exact absurd e (hn i j hi hj h1)
  · exact h1
  · exact absurd e.symm (hn j i hj hi h1)
theorem Shuffle.onto {n : Nat} {f : Nat → Nat} (h : Shuffle n f) {k : Nat} (hk : k < n) : ∃ j, j < n ∧ f j = k := by
  obtain ⟨j, hj, e⟩ := List.mem_map.1 (h.mem_iff.2 (List.mem_range.2 hk))
  exact ⟨j, List.mem_range.1 hj, e⟩
theorem Shuffle.inv {n : Nat} {f : Nat → Nat} (h : Shuffle n f) : ∃ g, Shuffle n g ∧ (∀ j, j < n → g (f j) = j) ∧ ∀ k, k < n → f (g k) = k := by
  obtain ⟨g, h1⟩ : ∃ g : Nat → Nat, ∀ j, j < n → g (f j) = j := by
    refine ⟨fun k => if hk : ∃ j, j < n ∧ f j = k then hk.choose else 0, fun j hj => ?_⟩
    have hk : ∃ i, i < n ∧ f i = f j := ⟨j, hj, rfl⟩
    simp only [dif_pos hk]
    exact h.inj hk.choose_spec.1 hj hk.choose_spec.2
  refine ⟨g, ?_, h1, fun k hk => ?_⟩
  · have h2 := h.map g
    have e : (List.range n).map (g ∘ f) = List.range n := by
      conv => rhs; rw [← List.map_id (List.range n)]
      exact List.map_congr_left fun j hj => h1 j (List.mem_range.1 hj)
    rw [List.map_map, e] at h2
    exact h2.symm
  · obtain ⟨j, hj, rfl⟩ := h.onto hk
    rw [h1 j hj]
/-- u is m with other names: loom k is called lo k, order j is called f j -/
structure Ren (m u : Mill) (lo f : Nat → Nat) : Prop where
  looms : u.laced.length = m.laced.length
  len : u.orders.length = m.orders.length
  change : u.change = m.change
  los : Shuffle m.laced.length lo
  fs : Shuffle m.orders.length f
  p1 : ∀ i j, i < m.orders.length → j < m.orders.length → (u.pat (f i) = u.pat (f j) ↔ m.pat i = m.pat j)
  p2 : ∀ k j, k < m.laced.length → j < m.orders.length → (u.laced[lo k]?.getD 0 = u.pat (f j) ↔ m.laced[k]?.getD 0 = m.pat j)
  dys : ∀ j, j < m.orders.length → u.dys (f j) = m.dys j
  byy : ∀ j, j < m.orders.length → u.byy (f j) = m.byy j
  wv : ∀ k j, k < m.laced.length → j < m.orders.length → u.weaves (lo k) (f j) = m.weaves k j
theorem Ren.symm {m u : Mill} {lo f : Nat → Nat} (h : Ren m u lo f) : ∃ lo' f', Ren u m lo' f' ∧ (∀ k, k < m.laced.length → lo (lo' k) = k) ∧ ∀ k, k < m.laced.length → lo' (lo k) = k := by
  obtain ⟨g, g1, g2, g3⟩ := h.los.inv
  obtain ⟨e, e1, e2, e3⟩ := h.fs.inv
  refine ⟨g, e, ⟨h.looms.symm, h.len.symm, h.change.symm, by rw [h.looms]; exact g1, by rw [h.len]; exact e1, fun i j hi hj => ?_, fun k j hk hj => ?_, fun j hj => ?_, fun j hj => ?_, fun k j hk hj => ?_⟩, g3, g2⟩
  · rw [h.len] at hi hj
    have := h.p1 (e i) (e j) (e1.lt hi) (e1.lt hj)
    rw [e3 i hi, e3 j hj] at this
    exact this.symm
  · rw [h.looms] at hk; rw [h.len] at hj
    have := h.p2 (g k) (e j) (g1.lt hk) (e1.lt hj)
    rw [g3 k hk, e3 j hj] at this
    exact this.symm
  · rw [h.len] at hj
    have := h.dys (e j) (e1.lt hj)
    rw [e3 j hj] at this
    exact this.symm
  · rw [h.len] at hj
    have := h.byy (e j) (e1.lt hj)
    rw [e3 j hj] at this
    exact this.symm
  · rw [h.looms] at hk; rw [h.len] at hj
    have := h.wv (g k) (e j) (g1.lt hk) (e1.lt hj)
    rw [g3 k hk, e3 j hj] at this
    exact this.symm
theorem chg_iff {a b c d : Int} (h : a = b ↔ c = d) : chg a b = chg c d := by
  unfold chg
  by_cases e : a = b
  · rw [if_pos e, if_pos (h.1 e)]
  · rw [if_neg e, if_neg (fun g => e (h.2 g))]
theorem Ren.ch {m u : Mill} {lo f : Nat → Nat} (h : Ren m u lo f) {k : Nat} (hk : k < m.laced.length) : ∀ r, (∀ j, j ∈ r → j < m.orders.length) → chR u (lo k) (r.map f) = chR m k r
  | [], _ => rfl
  | j :: r, hr => by
    have hr' : ∀ j, j ∈ r → j < m.orders.length := fun j hj => hr j (by simp [hj])
    have hj := hr j (by simp)
    rw [List.map_cons, chR, chR, h.ch hk r hr']
    congr 1
    apply chg_iff
    cases r with
    | nil => exact h.p2 k j hk hj
    | cons i r => exact h.p1 i j (hr' i (by simp)) hj
theorem Ren.sd {m u : Mill} {lo f : Nat → Nat} (h : Ren m u lo f) : ∀ r, (∀ j, j ∈ r → j < m.orders.length) → sdR u (r.map f) = sdR m r
  | [], _ => rfl
  | j :: r, hr => by rw [List.map_cons, sdR, sdR, h.sd r (fun j hj => hr j (by simp [hj])), h.dys j (hr j (by simp))]
theorem Ren.dy {m u : Mill} {lo f : Nat → Nat} (h : Ren m u lo f) {k : Nat} (hk : k < m.laced.length) (r : List Nat) (hr : ∀ j, j ∈ r → j < m.orders.length) : dyR u (lo k) (r.map f) = dyR m k r := by
  rw [dyR_eq, dyR_eq, h.sd r hr, h.ch hk r hr, h.change]
theorem Ren.tm {m u : Mill} {lo f : Nat → Nat} (h : Ren m u lo f) {k : Nat} (hk : k < m.laced.length) : ∀ r, (∀ j, j ∈ r → j < m.orders.length) → tmR u (lo k) (r.map f) = tmR m k r
  | [], _ => rfl
  | j :: r, hr => by
    have hd := h.dy hk (j :: r) hr
    rw [List.map_cons] at hd ⊢
    rw [tmR, tmR, h.tm hk r (fun j hj => hr j (by simp [hj])), hd, h.byy j (hr j (by simp))]
theorem Ren.morph {m u : Mill} {lo f : Nat → Nat} (h : Ren m u lo f) : ∃ g, Morph m u g f := by
  obtain ⟨g, g1, g2, g3⟩ := h.los.inv
  refine ⟨g, h.looms, g1, fun a b ha hb e => h.fs.inj ha hb e, fun a ha => by rw [h.len]; exact h.fs.lt ha, fun i hi j hj hw => ?_, fun i hi r hr => ?_, fun i hi r hr ht => ?_⟩
  · have := h.wv (g i) j (g1.lt hi) hj
    rw [g3 i hi] at this
    rw [this]; exact hw
  · have := h.ch (g1.lt hi) r hr
    rwa [g3 i hi] at this
  · have := h.tm (g1.lt hi) r hr
    rw [g3 i hi] at this
    rw [this]; exact ht
theorem Ren.le {m u : Mill} {lo f : Nat → Nat} (h : Ren m u lo f) (hm : checkE m = 0) (hu : checkE u = 0) : (lateL u).length ≤ (lateL m).length ∧ (Feas m 0 → Feas u 0 ∧ fewR u (2 ^ u.orders.length - 1) ≤ fewR m (2 ^ m.orders.length - 1)) := by
  obtain ⟨g, M⟩ := h.morph
  have hs : ∀ k, k < u.orders.length → ∃ j, j < m.orders.length ∧ f j = k := fun k hk => h.fs.onto (by rw [← h.len]; exact hk)
  exact ⟨morph_late hm hu M hs, fun hF => morph_few hm hu M hs hF⟩
/-- as many orders late, and as few changes -/
theorem Ren.law {m u : Mill} {lo f : Nat → Nat} (h : Ren m u lo f) (hm : checkE m = 0) (hu : checkE u = 0) : (lateL u).length = (lateL m).length ∧ (planF u = none ↔ planF m = none) ∧ (planF m ≠ none → fewR u (2 ^ u.orders.length - 1) = fewR m (2 ^ m.orders.length - 1)) := by
  obtain ⟨lo', f', h', _⟩ := h.symm
  have h1 := h.le hm hu
  have h2 := h'.le hu hm
  refine ⟨Nat.le_antisymm h1.1 h2.1, ?_, fun g => ?_⟩
  · rw [planF_feas hm, planF_feas hu]
    exact ⟨fun g hF => g (h1.2 hF).1, fun g hF => g (h2.2 hF).1⟩
  have hF : Feas m 0 := Classical.not_not.1 fun hn => g ((planF_feas hm).2 hn)
  exact Int.le_antisymm (h1.2 hF).2 (h2.2 (h1.2 hF).1).2
end Go.Proofs.Pet
