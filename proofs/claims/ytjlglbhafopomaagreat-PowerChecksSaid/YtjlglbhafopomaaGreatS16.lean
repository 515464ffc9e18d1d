/-
  Shares, groups and all orders of coming: plain laws as the statements ask them.
-/
import Derived.Test.YtjlglbhafopomaaGreatSM
namespace Go.Proofs.Pow
theorem cost_list (m : PM) (g : List Nat) : costF m (fun k => decide (k ∈ g)) = costF m fun k => g.contains k :=
  costQ_congr fun k _ => by rw [Bool.eq_iff_iff, decide_eq_true_eq, List.contains_iff_mem]
theorem filter_up {n : Nat} {x : List Nat} (hx : Up n 0 x) : (List.range n).filter (fun k => x.contains k) = x := sorted_ext (List.pairwise_lt_range.filter _) hx.1 fun y => by
  rw [List.mem_filter, List.mem_range, List.contains_iff_mem]
  exact ⟨fun h => h.2, fun h => ⟨(hx.2 y h).2, h⟩⟩
theorem up_full {n : Nat} {x : List Nat} (hx : Up n 0 x) (hl : x.length = n) : x = List.range n := by
  refine sorted_ext hx.1 List.pairwise_lt_range fun y => ⟨fun h => List.mem_range.2 (hx.2 y h).2, fun h => ?_⟩
  by_cases hy : y ∈ x
  · exact hy
  · have h1 : x.length ≤ ((List.range n).filter fun k => decide (k ≠ y)).length := nodup_le (List.nodup_iff_pairwise_ne.2 (hx.1.imp fun h => by omega)) fun z hz => by
      rw [List.mem_filter, List.mem_range, decide_eq_true_eq]
      exact ⟨(hx.2 z hz).2, fun e => hy (e ▸ hz)⟩
    have h2 := len_without (l := List.range n) List.nodup_range h
    rw [List.length_range] at h2
    omega
/-- what the shares of a group come to -/
theorem fair_group {m : PM} (hm : POk m) {g : List Nat} (hg : g ∈ groupsF m.wvs.length) : (g.map (shareP m)).sum ≤ 60 * costF m (fun k => g.contains k) ∧ (g.length = m.wvs.length → (g.map (shareP m)).sum = 60 * costF m fun k => g.contains k) := by
  have hu := (mem_groupsF _ _).1 hg
  have h1 := hm.group fun k => g.contains k
  rw [filter_up hu] at h1
  refine ⟨h1, fun hl => ?_⟩
  have e := up_full hu hl
  have h2 := hm.total
  have h3 : costF m (fun k => g.contains k) = costF m fun _ => true := costQ_congr fun k hk => by rw [List.contains_iff_mem, e]; exact List.mem_range.2 hk
  rw [h3, ← h2, e]
theorem addsF_get {m : PM} {l : List Nat} (hl : l.Perm (List.range m.wvs.length)) {k : Nat} (hk : k < m.wvs.length) : (addsF m l)[k]?.getD 0 = addIn (costH m.wvs.length (spots m)) k 0 l := by
  have hn : l.Nodup := hl.symm.nodup List.nodup_range
  have hkl : k ∈ l := hl.mem_iff.2 (List.mem_range.2 hk)
  obtain ⟨i, hi, rfl⟩ := List.getElem_of_mem hkl
  rw [addsF_at hn hi hk, addF_addIn hn hi]
theorem addsF_bd {m : PM} (hm : POk m) {l : List Nat} (hl : l.Perm (List.range m.wvs.length)) {k : Nat} (hk : k < m.wvs.length) : 0 ≤ (addsF m l)[k]?.getD 0 ∧ (addsF m l)[k]?.getD 0 ≤ 12960 := by
  have hn : l.Nodup := hl.symm.nodup List.nodup_range
  have hkl : k ∈ l := hl.mem_iff.2 (List.mem_range.2 hk)
  obtain ⟨i, hi, rfl⟩ := List.getElem_of_mem hkl
  rw [addsF_at hn hi hk]
  refine ⟨addF_nonneg hm hi hk, ?_⟩
  have h1 := (cost_bounds hm (befB l (i + 1))).2
  have h2 := (cost_bounds hm (befB l i)).1
  unfold addF
  omega
/-- what is added in the orders of a list -/
def sumA (m : PM) (L : List (List Nat)) (k : Nat) : Int := (L.map fun l => (addsF m l)[k]?.getD 0).sum
theorem sumA_snoc (m : PM) (L : List (List Nat)) (l : List Nat) (k : Nat) : sumA m (L ++ [l]) k = sumA m L k + (addsF m l)[k]?.getD 0 := by simp [sumA]
theorem sumA_bd {m : PM} (hm : POk m) {k : Nat} (hk : k < m.wvs.length) : ∀ {L : List (List Nat)}, (∀ l, l ∈ L → l.Perm (List.range m.wvs.length)) → 0 ≤ sumA m L k ∧ sumA m L k ≤ 12960 * (L.length : Int)
  | [], _ => by constructor <;> simp [sumA]
  | a :: L, h => by
    have ih := sumA_bd hm hk (L := L) fun l hl => h l (List.mem_cons_of_mem _ hl)
    have ha := addsF_bd hm (h a List.mem_cons_self) hk
    have e : sumA m (a :: L) k = (addsF m a)[k]?.getD 0 + sumA m L k := by simp [sumA]
    rw [e, List.length_cons]
    omega
theorem fair_sums {m : PM} (hm : POk m) {k : Nat} (hk : k < m.wvs.length) : 60 * sumA m (permsF m.wvs.length) k = shareP m k * ((permsF m.wvs.length).length : Int) := by
  rw [← hm.average hk]
  unfold sumA
  congr 2
  exact List.map_congr_left fun l hl => addsF_get (permsF_perm _ _ hl) hk
theorem fac_five {n : Nat} (h : n ≤ 5) : fac n ≤ 120 := by
  have : ∀ k : Fin 6, fac k ≤ 120 := by decide
  exact this ⟨n, by omega⟩
theorem share_le {m : PM} (hm : POk m) {k : Nat} (hk : k < m.wvs.length) : 0 ≤ shareP m k ∧ shareP m k ≤ 777600 := by
  have h1 := hm.own hk
  have h2 := (cost_bounds hm (fun i => decide (i = k))).2
  exact ⟨hm.nonneg k, by omega⟩
/-- a group that is better off alone, among all groups -/
theorem better_groups {m : PM} {sh : List Int} (g : List Nat) (hg : g ∈ groupsF m.wvs.length) (h : moreB m sh g = true) {n : Nat} {p : List Nat → Bool} (hn : n = m.wvs.length) (hp : p = moreB m sh) :
    ∃ l, firstF n p = some l ∧ l.length ≤ g.length ∧ (g.length = l.length → ahead g l = false) := by
  subst hn hp
  obtain ⟨l, h1, h2⟩ := better_law.2 g hg h
  refine ⟨l, h1, ?_, fun e => ?_⟩
  · unfold before at h2
    by_cases e : g.length = l.length
    · omega
    · rw [if_neg e, decide_eq_false_iff_not] at h2; omega
  · unfold before at h2
    rwa [if_pos e] at h2
theorem better_met {m : PM} {sh : List Int} : (groupsF m.wvs.length).any (fun g => moreB m sh g && decide (g = (firstF m.wvs.length (moreB m sh)).getD [])) = (firstF m.wvs.length (moreB m sh)).isSome := by
  cases h : firstF m.wvs.length (moreB m sh) with
  | none =>
    rw [Option.isSome_none, ← Bool.not_eq_true, List.any_eq_true]
    rintro ⟨g, hg, h1⟩
    rw [Bool.and_eq_true] at h1
    obtain ⟨l, h2, -⟩ := better_law.2 g hg h1.1
    have : betterF m sh = none := h
    rw [this] at h2; cases h2
  | some l =>
    rw [Option.isSome_some, List.any_eq_true]
    obtain ⟨h1, h2⟩ := better_law.1 l h
    exact ⟨l, h2, by rw [h1]; simp⟩
end Go.Proofs.Pow
