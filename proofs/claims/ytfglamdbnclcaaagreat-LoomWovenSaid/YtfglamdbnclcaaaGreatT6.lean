/-
  A mill whose orders are some of another one's: its plans are those of the other one that have just these orders. No program is named here.
  What LoomLate says of a mill without some orders. No program is named here.
-/
import Derived.Test.YtfglamdbnclcaaaGreatR2
import Derived.Test.YtfglamdbnclcaaaGreatT5
namespace Go.Proofs.Pet
open Go

theorem nodup_of_map {f : Nat → Nat} {l : List Nat} (h : (l.map f).Nodup) : l.Nodup := by
  rw [List.nodup_iff_pairwise_ne, List.pairwise_map] at h
  exact List.nodup_iff_pairwise_ne.2 (h.imp fun hne e => hne (by rw [e]))
/-- order j of p is order f j of m -/
structure Emb (p m : Mill) (f : Nat → Nat) : Prop where
  laced : p.laced = m.laced
  change : p.change = m.change
  lt : ∀ j, j < p.orders.length → f j < m.orders.length
  same : ∀ j, j < p.orders.length → (m.orders[f j]?.getD default) = (p.orders[j]?.getD default)
  inj : ∀ a b, a < p.orders.length → b < p.orders.length → f a = f b → a = b
theorem Emb.last {p m : Mill} {f : Nat → Nat} (h : Emb p m f) (l : Nat) : ∀ r, (∀ j, j ∈ r → j < p.orders.length) → lastPat m l (r.map f) = lastPat p l r
  | [], _ => by simp [lastPat, h.laced]
  | k :: _, hr => by
    show m.pat (f k) = p.pat k
    unfold Mill.pat; rw [h.same k (hr k (by simp))]
theorem Emb.ch {p m : Mill} {f : Nat → Nat} (h : Emb p m f) (l : Nat) : ∀ r, (∀ j, j ∈ r → j < p.orders.length) → chR m l (r.map f) = chR p l r
  | [], _ => rfl
  | k :: r, hr => by
    have hr' : ∀ j, j ∈ r → j < p.orders.length := fun j hj => hr j (by simp [hj])
    have e : m.pat (f k) = p.pat k := by unfold Mill.pat; rw [h.same k (hr k (by simp))]
    rw [List.map_cons, chR, chR, h.ch l r hr', h.last l r hr', e]
theorem Emb.sd {p m : Mill} {f : Nat → Nat} (h : Emb p m f) : ∀ r, (∀ j, j ∈ r → j < p.orders.length) → sdR m (r.map f) = sdR p r
  | [], _ => rfl
  | k :: r, hr => by
    have e : m.dys (f k) = p.dys k := by unfold Mill.dys; rw [h.same k (hr k (by simp))]
    rw [List.map_cons, sdR, sdR, h.sd r (fun j hj => hr j (by simp [hj])), e]
theorem Emb.dy {p m : Mill} {f : Nat → Nat} (h : Emb p m f) (l : Nat) (r : List Nat) (hr : ∀ j, j ∈ r → j < p.orders.length) : dyR m l (r.map f) = dyR p l r := by
  rw [dyR_eq, dyR_eq, h.sd r hr, h.ch l r hr, h.change]
theorem Emb.tm {p m : Mill} {f : Nat → Nat} (h : Emb p m f) (l : Nat) : ∀ r, (∀ j, j ∈ r → j < p.orders.length) → tmR m l (r.map f) = tmR p l r
  | [], _ => rfl
  | k :: r, hr => by
    have hd := h.dy l (k :: r) hr
    rw [List.map_cons] at hd ⊢
    have e : m.byy (f k) = p.byy k := by unfold Mill.byy; rw [h.same k (hr k (by simp))]
    rw [tmR, tmR, h.tm l r (fun j hj => hr j (by simp [hj])), hd, e]
theorem Emb.wv {p m : Mill} {f : Nat → Nat} (h : Emb p m f) (l j : Nat) (hj : j < p.orders.length) : m.weaves l (f j) = p.weaves l j := by
  unfold Mill.weaves; rw [h.same j hj]
theorem Emb.morph {p m : Mill} {f : Nat → Nat} (h : Emb p m f) : Morph p m id f :=
  ⟨by rw [h.laced], by simp, h.inj, h.lt, fun i _ j hj hw => by rw [h.wv i j hj]; exact hw, fun i _ r hr => h.ch i r hr, fun i _ r hr ht => by rw [h.tm i r hr]; exact ht⟩
/-- a plan of p is one of m -/
theorem Emb.up {p m : Mill} {f : Nat → Nat} (h : Emb p m f) {S : Nat → Prop} {R : Nat → List Nat} (hR : PlanOf p S R) : PlanOf m (fun k => ∃ j, S j ∧ f j = k) (fun i => (R i).map f) ∧ totC m (fun i => (R i).map f) m.laced.length = totC p R p.laced.length :=
  hR.map h.morph
/-- a plan of m that has p's orders alone is one of p -/
theorem Emb.down {p m : Mill} {f : Nat → Nat} (h : Emb p m f) {T : Nat → Prop} {R : Nat → List Nat} (hR : PlanOf m T R) (hT : ∀ k, T k → ∃ j, j < p.orders.length ∧ f j = k) :
    ∃ R', PlanOf p (fun j => j < p.orders.length ∧ T (f j)) R' ∧ totC p R' p.laced.length = totC m R m.laced.length := by
  have hg : ∃ g : Nat → Nat, ∀ j, j < p.orders.length → g (f j) = j := by
    refine ⟨fun k => if hk : ∃ j, j < p.orders.length ∧ f j = k then hk.choose else 0, fun j hj => ?_⟩
    have hk : ∃ i, i < p.orders.length ∧ f i = f j := ⟨j, hj, rfl⟩
    simp only [dif_pos hk]
    exact h.inj _ _ hk.choose_spec.1 hj hk.choose_spec.2
  obtain ⟨g, hg⟩ := hg
  have hL : p.laced.length = m.laced.length := by rw [h.laced]
  have hmem : ∀ i, i < m.laced.length → ∀ k, k ∈ R i → g k < p.orders.length ∧ f (g k) = k := fun i hi k hk => by
    obtain ⟨j, hj, rfl⟩ := hT k ((hR.all k).2 ⟨i, hi, hk⟩)
    rw [hg j hj]; exact ⟨hj, rfl⟩
  have hmap : ∀ i, i < m.laced.length → ((R i).map g).map f = R i := fun i hi => by
    rw [List.map_map]
    conv => rhs; rw [← List.map_id (R i)]
    exact List.map_congr_left fun k hk => (hmem i hi k hk).2
  have hlt : ∀ i, i < m.laced.length → ∀ j, j ∈ (R i).map g → j < p.orders.length := fun i hi j hj => by
    obtain ⟨k, hk, rfl⟩ := List.mem_map.1 hj
    exact (hmem i hi k hk).1
  refine ⟨fun i => (R i).map g, ⟨fun i hi => ?_, fun i hi j hj => ?_, fun i hi => ?_, fun j => ?_, fun i i' j hi hi' g1 g2 => ?_⟩, ?_⟩
  · rw [hL] at hi
    have := hR.nodup i hi
    rw [← hmap i hi] at this
    exact nodup_of_map this
  · rw [hL] at hi
    have h1 := hlt i hi j hj
    obtain ⟨k, hk, rfl⟩ := List.mem_map.1 hj
    refine ⟨h1, ?_⟩
    rw [← h.wv i (g k) h1, (hmem i hi k hk).2]
    exact (hR.mem i hi k hk).2
  · rw [hL] at hi
    rw [← h.tm i _ (hlt i hi), hmap i hi]
    exact hR.tm i hi
  · constructor
    · rintro ⟨hj, ht⟩
      obtain ⟨i, hi, hk⟩ := (hR.all (f j)).1 ht
      exact ⟨i, by rw [hL]; exact hi, List.mem_map.2 ⟨f j, hk, hg j hj⟩⟩
    · rintro ⟨i, hi, hj⟩
      rw [hL] at hi
      refine ⟨hlt i hi j hj, ?_⟩
      obtain ⟨k, hk, rfl⟩ := List.mem_map.1 hj
      rw [(hmem i hi k hk).2]
      exact (hR.all k).2 ⟨i, hi, hk⟩
  · rw [hL] at hi hi'
    obtain ⟨k, hk, rfl⟩ := List.mem_map.1 g1
    obtain ⟨k', hk', e⟩ := List.mem_map.1 g2
    have : k' = k := by rw [← (hmem i' hi' k' hk').2, e, (hmem i hi k hk).2]
    subst this
    exact hR.once i i' k' hi hi' hk hk'
  · rw [hL]
    have : ∀ n, n ≤ m.laced.length → totC p (fun i => (R i).map g) n = totC m R n := fun n => by
      induction n with
      | zero => intro _; rfl
      | succ n ih =>
        intro hn
        rw [totC, totC, ih (by omega), ← h.ch n _ (hlt n (by omega)), hmap n (by omega)]
    exact this _ (Nat.le_refl _)
/-- which orders of m can be woven together, said by a mill that has just these -/
theorem Emb.feas {p m : Mill} {f : Nat → Nat} (h : Emb p m f) {off : Nat} (ho : ∀ k, k < m.orders.length → (off.testBit k = false ↔ ∃ j, j < p.orders.length ∧ f j = k)) : Feas p 0 ↔ Feas m off := by
  constructor
  · rintro ⟨R, hR⟩
    have h1 := (h.up hR).1
    refine ⟨_, h1.nodup, h1.mem, h1.tm, fun k => ?_, h1.once⟩
    rw [← h1.all k]
    constructor
    · rintro ⟨hk, hb⟩
      obtain ⟨j, hj, rfl⟩ := (ho k hk).1 hb
      exact ⟨j, ⟨hj, by simp⟩, rfl⟩
    · rintro ⟨j, ⟨hj, _⟩, rfl⟩
      exact ⟨h.lt j hj, (ho _ (h.lt j hj)).2 ⟨j, hj, rfl⟩⟩
  · rintro ⟨R, hR⟩
    obtain ⟨R', h1, _⟩ := h.down hR (fun k hk => (ho k hk.1).1 hk.2)
    refine ⟨R', h1.nodup, h1.mem, h1.tm, fun j => ?_, h1.once⟩
    rw [← h1.all j]
    constructor
    · rintro ⟨hj, _⟩
      exact ⟨hj, h.lt j hj, (ho _ (h.lt j hj)).2 ⟨j, hj, rfl⟩⟩
    · rintro ⟨hj, _⟩
      exact ⟨hj, by simp⟩
/-- a mill with fewer orders needs no more changes -/
theorem Emb.few {p m : Mill} {f : Nat → Nat} (h : Emb p m f) (hok : MillOk m) (hp : checkE p = 0) (hm : checkE m = 0) (hF : Feas m 0) : Feas p 0 ∧ fewR p (2 ^ p.orders.length - 1) ≤ fewR m (2 ^ m.orders.length - 1) := by
  obtain ⟨R, hR, ht⟩ := few_feas hm hF
  obtain ⟨h1, h2⟩ := hR.filter hok (fun k => decide (∃ j, j < p.orders.length ∧ f j = k))
  obtain ⟨R', h3, h4⟩ := h.down h1 (fun k hk => by simpa using hk.2)
  have h5 : PlanOf p (fun j => j < p.orders.length) R' := ⟨h3.nodup, h3.mem, h3.tm, fun j => by
    rw [← h3.all j]
    exact ⟨fun hj => ⟨hj, h.lt j hj, by simp only [decide_eq_true_eq]; exact ⟨j, hj, rfl⟩⟩, fun hj => hj.1⟩, h3.once⟩
  have h6 := few_le hp h5
  refine ⟨⟨R', h3.nodup, h3.mem, h3.tm, fun j => ?_, h3.once⟩, by omega⟩
  rw [← h5.all j]; simp
/-- a mill with one order more -/
def Mill.more (m : Mill) (o : Ord) : Mill := ⟨m.laced, m.change, m.orders ++ [o]⟩
end Go.Proofs.Pet

namespace Go.Proofs.Pet
open Go Go.RowKit Go.Maps Go.Shelf

end Go.Proofs.Pet
