/-
  One loom: the first best run of some orders, and the other runs of them. No program is named here.
-/
import Derived.Test.YtknokjnplbdmeaaGreatQ1
import Derived.Test.YtknokjnplbdmeaaGreatR2
namespace Go.Proofs.Pet
open Go

/-- the lists of rowsF come in lexicographic order -/
theorem rowsF_order : ∀ (n : Nat) (l : List Int), l.length = n → l.Pairwise (· < ·) → (rowsF n l).Pairwise fun a b => aheadB b a = false
  | 0, _, _, _ => by unfold rowsF; exact List.pairwise_singleton _ _
  | n + 1, l, h, hs => by
    unfold rowsF
    rw [List.pairwise_flatMap]
    have hs' := hs
    rw [List.pairwise_iff_getElem] at hs'
    refine ⟨fun i hi => ?_, ?_⟩
    · have hi := List.mem_range.1 hi
      rw [List.pairwise_map]
      have hsub : (l.take i ++ l.drop (i + 1)).Sublist l := by
        have h1 : l = l.take i ++ l.drop i := (List.take_append_drop i l).symm
        conv => rhs; rw [h1]
        exact (List.Sublist.refl _).append (by rw [← List.drop_drop]; exact List.drop_sublist _ _)
      refine (rowsF_order n _ ?_ (hs.sublist hsub)).imp fun {a b} hab => ?_
      · rw [List.length_append, List.length_take, List.length_drop]; omega
      · unfold aheadB; rw [if_pos rfl]; exact hab
    · refine List.pairwise_lt_range.imp_of_mem fun {i j} hi hj hij => ?_
      have hi := List.mem_range.1 hi; have hj := List.mem_range.1 hj
      intro a ha b hb
      obtain ⟨a', _, rfl⟩ := List.mem_map.1 ha
      obtain ⟨b', _, rfl⟩ := List.mem_map.1 hb
      have := hs' i j hi hj hij
      simp only [List.getElem?_eq_getElem hi, List.getElem?_eq_getElem hj, Option.getD_some]
      unfold aheadB
      rw [if_neg (by omega)]
      simp; omega
theorem find_first {n : Nat} {l : List Int} (h : l.length = n) (hs : l.Pairwise (· < ·)) {p : List Int → Bool} {r r' : List Int} (hf : (rowsF n l).find? p = some r) (hm : r'.Perm l) (hp : p r' = true) : aheadB r' r = false := by
  have ho := rowsF_order n l h hs
  have hmem := (rowsF_mem n l h r').2 hm
  obtain ⟨_, pre, post, e, hno⟩ := List.find?_eq_some_iff_append.1 hf
  rw [e] at ho hmem
  rcases List.mem_append.1 hmem with h1 | h1
  · have := hno r' h1
    rw [hp] at this; cases this
  · rcases List.mem_cons.1 h1 with h2 | h2
    · subst h2
      have : ∀ x : List Int, aheadB x x = false := fun x => by
        induction x with
        | nil => rfl
        | cons a x ih => unfold aheadB; rw [if_pos rfl]; exact ih
      exact this _
    · rw [List.pairwise_append] at ho
      exact (List.pairwise_cons.1 ho.2.1).1 r' h2
/-- orders of a mill, none of them twice -/
structure Some1 (m : Mill) (xs : List Int) : Prop where
  rng : ∀ x, x ∈ xs → 0 ≤ x ∧ x < m.orders.length
  nodup : xs.Nodup
theorem Some1.perm {m : Mill} {xs ys : List Int} (h : Some1 m xs) (hp : ys.Perm xs) : Some1 m ys := ⟨fun x hx => h.rng x (hp.mem_iff.1 hx), hp.symm.nodup_iff.1 h.nodup⟩
theorem Some1.lt {m : Mill} {xs : List Int} (h : Some1 m xs) : setF xs < 2 ^ m.orders.length := by
  have := setF_lt xs h.rng xs.length
  rwa [List.take_length] at this
theorem rvI_nodup {m : Mill} {xs : List Int} (h : Some1 m xs) : (rvI xs).Nodup := by
  unfold rvI
  rw [(List.reverse_perm _).nodup_iff, List.nodup_iff_pairwise_ne, List.pairwise_map]
  exact (List.nodup_iff_pairwise_ne.1 h.nodup).imp_of_mem fun {a b} ha hb hab e => by
    have := h.rng a ha; have := h.rng b hb; omega
theorem Some1.isSet {m : Mill} {xs ys : List Int} (h : Some1 m xs) (hp : ys.Perm xs) : IsSet (setF xs) (rvI ys) := by
  refine ⟨rvI_nodup (h.perm hp), fun j => ?_⟩
  rw [setF_testBit _ (fun x hx => (h.rng x hx).1), List.contains_iff_mem]
  unfold rvI
  rw [List.mem_reverse, List.mem_map]
  constructor
  · rintro ⟨x, hx, rfl⟩
    have := h.rng x (hp.mem_iff.1 hx)
    rw [Int.toNat_of_nonneg this.1]; exact hp.mem_iff.1 hx
  · intro hj
    exact ⟨_, hp.mem_iff.2 hj, by simp⟩
theorem Some1.weaves {m : Mill} (hok : MillOk m) (h1 : m.laced.length = 1) {xs : List Int} (h : Some1 m xs) : ∀ x, x ∈ xs → weavesI m 0 x = true := fun x hx => by
  have := h.rng x hx
  have h2 := one_weaves hok h1 x.toNat (by omega)
  rwa [Int.toNat_of_nonneg this.1] at h2
theorem Some1.wv {m : Mill} (hok : MillOk m) (h1 : m.laced.length = 1) {xs : List Int} (h : Some1 m xs) : ∀ j, j ∈ rvI xs → m.weaves 0 j = true := fun j hj => by
  unfold rvI at hj
  rw [List.mem_reverse, List.mem_map] at hj
  obtain ⟨x, hx, rfl⟩ := hj
  have := h.weaves hok h1 x hx
  unfold weavesI at this
  unfold Mill.weaves
  simpa using this
theorem Some1.isOk {m : Mill} (hok : MillOk m) (h1 : m.laced.length = 1) {xs : List Int} (h : Some1 m xs) : okW m 0 xs = tmR m 0 (rvI xs) := by
  rw [Bool.eq_iff_iff, okW_iff]
  exact ⟨fun g => g.2.2.2, fun g => ⟨h.rng, h.nodup, h.weaves hok h1, g⟩⟩
theorem Some1.run {m : Mill} (hok : MillOk m) (h1 : m.laced.length = 1) {xs : List Int} (h : Some1 m xs) : runE m 0 xs = 0 := by
  have hch := (check_iff m).2 hok
  unfold runE
  rw [if_pos hch]
  unfold runningE
  have hl0 : listedE m xs = 0 := by
    unfold listedE
    rw [if_neg, if_neg]
    · rw [twice_of_nodup h.nodup]; simp
    · rw [Bool.not_eq_false, List.all_eq_true]
      intro x hx
      have := h.rng x hx
      unfold inB; simp; omega
  rw [if_neg, if_neg (by rw [hl0]; simp), if_neg]
  · rw [Bool.not_eq_false, List.all_eq_true]
    exact h.weaves hok h1
  · rw [h1]; decide
theorem Some1.cost {m : Mill} (hok : MillOk m) (h1 : m.laced.length = 1) {xs : List Int} (h : Some1 m xs) : costE m 0 xs = if numC m 0 (setF xs) = 99 then (0, 6) else (numC m 0 (setF xs), 0) := by
  unfold costE
  rw [if_neg (by rw [h.run hok h1]; simp)]
  rfl
/-- what a best run is -/
structure BestOf (m : Mill) (xs : List Int) (n : Int) (b : List Int) : Prop where
  perm : b.Perm xs
  tm : okW m 0 b = true
  ch : chR m 0 (rvI b) = n
  first : ∀ ys, ys.Perm xs → okW m 0 ys = true → chR m 0 (rvI ys) = n → aheadB ys b = false
theorem ints_toNat {xs : List Int} (h : ∀ x, x ∈ xs → 0 ≤ x) : ints (xs.map Int.toNat) = xs := by
  unfold ints
  rw [List.map_map]
  conv => rhs; rw [← List.map_id xs]
  exact List.map_congr_left fun x hx => by have := h x hx; simp only [Function.comp_apply, id_eq]; omega
theorem toNat_ints (l : List Nat) : (ints l).map Int.toNat = l := toNat_intsOf l
theorem ints_sorted (n s : Nat) : (ints (bits n s)).Pairwise (· < ·) := by
  unfold ints bits
  rw [List.pairwise_map]
  exact (List.pairwise_lt_range.filter _).imp fun h => by omega
theorem Some1.perm_bits {m : Mill} {xs ys : List Int} (h : Some1 m xs) (hp : ys.Perm xs) : ys.Perm (ints (bits m.orders.length (setF xs))) := by
  have h1 := (isSet_perm h.lt _).1 (h.isSet hp)
  have h2 : (ys.map Int.toNat).Perm (bits m.orders.length (setF xs)) := by
    unfold rvI at h1
    exact (List.reverse_perm _).symm.trans h1
  have h3 := h2.map (fun k : Nat => (k : Int))
  have h4 : (ys.map Int.toNat).map (fun k : Nat => (k : Int)) = ys := ints_toNat fun x hx => ((h.perm hp).rng x hx).1
  rw [h4] at h3
  exact h3
theorem Some1.best {m : Mill} (hok : MillOk m) (h1 : m.laced.length = 1) {xs : List Int} (h : Some1 m xs) (h99 : numC m 0 (setF xs) ≠ 99) : BestOf m xs (numC m 0 (setF xs)) (bestL m 0 xs) := by
  have hch := (check_iff m).2 hok
  have hlt := h.lt
  have hb := (numC_bd m 0 (setF xs)).2
  obtain ⟨g1, g2, g3, g4, g5⟩ := runOf_ok m hch 0 (setF xs) hlt (by omega)
  have hc := h.cost hok h1
  rw [if_neg h99] at hc
  have e : bestL m 0 xs = ints (runOf m 0 (setF xs)) := by
    unfold bestL
    rw [hc, if_pos rfl]; rfl
  rw [e]
  have hrv : rvI (ints (runOf m 0 (setF xs))) = (runOf m 0 (setF xs)).reverse := rvI_intsOf' _
  have hp : (ints (runOf m 0 (setF xs))).Perm xs := (g2.map (fun k : Nat => (k : Int))).trans (h.perm_bits (List.Perm.refl _)).symm
  refine ⟨hp, ?_, by rw [hrv]; exact g5, fun ys hy ht hn => ?_⟩
  · rw [(h.perm hp).isOk hok h1, hrv]; exact g4
  · have hbl := bits_len m.orders.length (setF xs)
    have h7 := hok.few
    have hf := moreF_find m 0 (numC m 0 (setF xs)) 7 [] (setF xs) (by omega) hlt rfl
    rw [g1] at hf
    cases hfi : ((rowsF (bits m.orders.length (setF xs)).length (ints (bits m.orders.length (setF xs)))).find? fun r => goodM m 0 (numC m 0 (setF xs)) ([] ++ r.map Int.toNat)) with
    | none => rw [hfi] at hf; cases hf
    | some x =>
      rw [hfi] at hf
      simp only [Option.map_some, List.nil_append, Option.some.injEq] at hf
      have hlen : (ints (bits m.orders.length (setF xs))).length = (bits m.orders.length (setF xs)).length := by unfold ints; simp
      have hx := (rowsF_mem _ _ hlen x).1 (List.mem_of_find?_eq_some hfi)
      have hx0 : ints (x.map Int.toNat) = x := ints_toNat fun y hy => by
        obtain ⟨k, _, e⟩ := ints_mem.1 (hx.mem_iff.1 hy)
        omega
      rw [hf, hx0]
      refine find_first hlen (ints_sorted _ _) hfi (h.perm_bits hy) ?_
      unfold goodM
      rw [(h.perm hy).isOk hok h1] at ht
      unfold rvI at ht hn
      rw [List.nil_append, ht, hn]; simp
theorem Some1.le {m : Mill} (hok : MillOk m) (h1 : m.laced.length = 1) {xs ys : List Int} (h : Some1 m xs) (hp : ys.Perm xs) (ht : okW m 0 ys = true) : numC m 0 (setF xs) ≤ chR m 0 (rvI ys) ∧ numC m 0 (setF xs) ≠ 99 := by
  have hch := (check_iff m).2 hok
  rw [(h.perm hp).isOk hok h1] at ht
  have h2 := numC_le m 0 _ (check_change hch) h.lt hok.few _ (h.isSet hp) ((h.perm hp).wv hok h1) ht
  refine ⟨h2, ?_⟩
  have h3 := (chR_bd m 0 (rvI ys)).2
  have h4 := ((isSet_perm h.lt _).1 (h.isSet hp)).length_eq
  have h5 := bits_len m.orders.length (setF xs)
  have := hok.few
  omega
/-- a run in time, and one order struck -/
theorem struck_ok {m : Mill} (hok : MillOk m) (h1 : m.laced.length = 1) {xs : List Int} (h : Some1 m xs) (ht : okW m 0 xs = true) {i : Nat} (hi : i < xs.length) : okW m 0 (xs.take i ++ xs.drop (i + 1)) = true ∧ chR m 0 (rvI (xs.take i ++ xs.drop (i + 1))) ≤ chR m 0 (rvI xs) := by
  have hsub : (xs.take i ++ xs.drop (i + 1)).Sublist xs := by
    conv => rhs; rw [← List.take_append_drop i xs]
    exact (List.Sublist.refl _).append (by rw [← List.drop_drop]; exact List.drop_sublist _ _)
  have hs : Some1 m (xs.take i ++ xs.drop (i + 1)) := ⟨fun x hx => h.rng x (hsub.subset hx), h.nodup.sublist hsub⟩
  have hn : (xs.map Int.toNat).Nodup := by have := rvI_nodup h; unfold rvI at this; rwa [(List.reverse_perm _).nodup_iff] at this
  have hi' : i < (xs.map Int.toNat).length := by simpa using hi
  have e1 := filter_ne_nodup hn hi'
  have e2 : rvI (xs.take i ++ xs.drop (i + 1)) = (rvI xs).filter (fun j => !decide ((xs.map Int.toNat)[i] = j)) := by
    unfold rvI
    rw [List.filter_reverse, ← e1, List.map_append, List.map_take, List.map_drop]
  rw [h.isOk hok h1] at ht
  rw [hs.isOk hok h1, e2]
  have hd : ∀ j, j ∈ rvI xs → 0 ≤ m.dys j := fun j hj => by
    have hj2 : j < m.orders.length := by
      unfold rvI at hj
      rw [List.mem_reverse, List.mem_map] at hj
      obtain ⟨x, hx, rfl⟩ := hj
      have := h.rng x hx; omega
    have := (hok.ords (m.orders[j]?.getD default) (by simp [hj2])).dys
    unfold Mill.dys; omega
  refine ⟨tmR_filter hok.change.1 0 _ _ hd ht, ?_⟩
  have h2 := chR_filter m 0 (fun j => !decide ((xs.map Int.toNat)[i] = j)) (rvI xs)
  have h3 := (chg_bd (lastPat m 0 ((rvI xs).filter (fun j => !decide ((xs.map Int.toNat)[i] = j)))) (lastPat m 0 (rvI xs))).1
  omega
end Go.Proofs.Pet
