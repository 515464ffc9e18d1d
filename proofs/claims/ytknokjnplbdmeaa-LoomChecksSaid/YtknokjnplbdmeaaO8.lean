/-
  The library's sorts, at slices of ints in rows of the call's own.
-/
import Derived.Test.YtknokjnplbdmeaaLy
import Derived.Test.YtknokjnplbdmeaaO1
import Derived.Sort.OwnSortedInts
namespace Go.Proofs.Pet
open Go Go.RowKit Go.Maps Go.Shelf Go.Sort

theorem sortI (base : Nat) (v : Value) (xs : List Int) (w : World) (h : OwnI w base 3 v xs) (hl : xs.length ≤ 100000) :
    Calls Try.prog 63 #[v] w fun e w' => e = .returned (.tuple #[]) ∧ OwnI w' base 3 v (xs.mergeSort fun x y => decide (x ≤ y)) ∧ w.grownBy w' v.ownBlock := by
  rcases h.2 with ⟨rfl, h0⟩ | ⟨g, cap, cur, rfl, hg, hb, hn, hm, hs, hc⟩
  · have hx : xs = [] := List.length_eq_zero_iff.1 h0
    subst hx
    refine (Try.slices_Sort_int_none none 0 w).mono fun e w' ⟨h1, h2⟩ => ?_
    subst h2
    exact ⟨h1, by simpa using OwnI.nil w' base 3, ⟨rfl, rfl, rfl, Nat.le_refl _, fun _ _ _ => rfl⟩⟩
  · have hc' : cur.toList.take xs.length = xs.map (Value.int .i64) := by rwa [Nat.mul_one] at hc
    refine (Try.slices_Sort_int g 0 cap xs w (holds_of_blockI hb hc') (Array.getElem?_eq_some_iff.1 hb).1 (by omega)).mono fun e w' ⟨h1, n, os, h2⟩ => ?_
    subst h2
    refine ⟨h1, ?_, grownBy_sortedI _⟩
    have hlen : (xs.mergeSort fun x y => decide (x ≤ y)).length = xs.length := by simp
    unfold OwnI
    rw [hlen]
    exact ownsRow_sortedI hlen hg hb hn hm hs
theorem compactI (base : Nat) (v : Value) (xs : List Int) (w : World) (h : OwnI w base 3 v xs) (hl : xs.length ≤ 100000) :
    Calls Try.prog 123 #[v] w fun e w' => ∃ v', e = .returned v' ∧ OwnI w' base 3 v' (Lib.compact xs) ∧ v'.ownBlock = v.ownBlock ∧ w.grownBy w' v.ownBlock := by
  rcases h.2 with ⟨rfl, h0⟩ | ⟨g, cap, cur, rfl, hg, hb, hn, hm, hs, hc⟩
  · have hx : xs = [] := List.length_eq_zero_iff.1 h0
    subst hx
    refine (Try.slices_Compact_int_empty none 0 w).mono fun e w' ⟨h1, h2⟩ => ?_
    subst h2
    exact ⟨_, h1, OwnI.nil _ _ _, rfl, ⟨rfl, rfl, rfl, Nat.le_refl _, fun _ _ _ => rfl⟩⟩
  · have hc' : cur.toList.take xs.length = xs.map (Value.int .i64) := by rwa [Nat.mul_one] at hc
    refine (Try.slices_Compact_int g 0 cap xs w (holds_of_blockI hb hc') (by omega) hn).mono fun e w' ⟨h1, q, h2⟩ => ?_
    subst h2
    have hle := Lib.compact_length_le xs
    obtain ⟨ts, hts⟩ : ∃ ts, Lib.compact xs ++ List.replicate (xs.length - (Lib.compact xs).length) 0 = ts := ⟨_, rfl⟩
    have hlen : ts.length = xs.length := by rw [← hts, List.length_append, List.length_replicate]; omega
    have ho : (grow (putRow (Value.int .i64) (Sort.ahead w q) g 0 ts.toArray) #[]).ownsRow base 3 1 (.slice (some ⟨g, 0, none⟩) xs.length cap) xs.length (ts.map (Value.int .i64)) := ownsRow_sortedI hlen hg hb hn hm hs
    rw [hts]
    rw [grow_empty] at ho
    refine ⟨_, h1, ?_, rfl, by have := grownBy_sortedI (w := w) (g := g) (n := q) (os := #[]) ts.toArray; rwa [grow_empty] at this⟩
    rcases ho.2 with ⟨h3, _⟩ | ⟨g', cap', cur', h3, k1, k2, k3, k4, k5, k6⟩
    · cases h3
    · simp only [Value.slice.injEq, Option.some.injEq, Addr.mk.injEq, and_true, true_and] at h3
      obtain ⟨rfl, rfl⟩ := h3
      refine ⟨by simp, .inr ⟨g, cap, cur', rfl, k1, k2, by omega, k4, k5, ?_⟩⟩
      rw [Nat.mul_one] at k6 ⊢
      have : cur'.toList.take (Lib.compact xs).length = (cur'.toList.take xs.length).take (Lib.compact xs).length := by rw [List.take_take, Nat.min_eq_left hle]
      rw [this, k6, ← hts, List.map_append, List.take_append_of_le_length (by simp), List.take_of_length_le (by simp)]
/-- the values of some numbers below n -/
def vals {n : Nat} (xs : List (Fin n)) : List Int := xs.map fun k => (k.val : Int)
theorem putRow_fin {n : Nat} (w : World) (blk : Nat) (d : Array (Fin (n + 1))) :
    putRow (fun k : Fin (n + 1) => Value.int .i64 (k.val : Int)) w blk 0 d = putRow (Value.int .i64) w blk 0 (vals d.toList).toArray := by
  unfold putRow
  congr 1
  funext c
  unfold putCells
  congr 1
  funext k x
  have hs : (vals d.toList).toArray.size = d.size := by simp [vals]
  rw [hs]
  by_cases hk : 0 ≤ k ∧ k < 0 + d.size
  · rw [if_pos hk, if_pos hk]
    have h1 : k - 0 < d.size := by omega
    have h2 : k - 0 < (vals d.toList).toArray.size := by rw [hs]; exact h1
    rw [getElem!_pos d (k - 0) h1, getElem!_pos (vals d.toList).toArray (k - 0) h2]
    simp [vals]
  · rw [if_neg hk, if_neg hk]
theorem stable0 (cf : Value) (p : Option Addr) (c : Nat) (w : World) : Calls Try.prog 59 #[.slice p 0 c, cf] w fun e w' => e = .returned (.tuple #[]) ∧ w = w' := by
  have h3 : Calls Try.prog 152 #[.slice p 0 c, .int .i64 0, .int .i64 0, cf] w fun e w' => e = .returned (.tuple #[]) ∧ w = w' := by
    go_enter Try.func152, Try.ntmps152
    go_wp2_with fail
    refine wp_loop_once ?_
    go_wp2_with fail
    go_end0
    exact ⟨rfl, rfl⟩
  have h2 : Calls Try.prog 119 #[.slice p 0 c, .int .i64 0, cf] w fun e w' => e = .returned (.tuple #[]) ∧ w = w' := by
    go_enter Try.func119, Try.ntmps119
    go_wp2_with fail
    refine wp_loop_once ?_
    go_wp2_with fail
    refine h3.mono ?_
    rintro e w' ⟨rfl, rfl⟩
    go_wp2_with fail
    refine wp_loop_once ?_
    go_wp2_with fail
    go_end0
    exact ⟨rfl, rfl⟩
  go_enter Try.func59, Try.ntmps59
  go_wp2_with fail
  refine h2.mono ?_
  rintro e w' ⟨rfl, rfl⟩
  go_wp2_with fail
  go_end0
  exact ⟨rfl, rfl⟩
/-- the orders below n, sorted by a number of each -/
theorem stableI {n : Nat} (hn : n < 15) (by_ : Nat → Int) (g : Nat) (cb : Array Value) (eg : Enters Try.prog g) (base : Nat) (v : Value) (xs : List (Fin (n + 1))) (hx : xs.length = n + 1) (w : World) (h : OwnI w base 3 v (vals xs))
    (hcmp : ∀ W : World, w.grownBy W v.ownBlock → ∀ x y : Fin (n + 1), Calls Try.prog g (#[.int .i64 (x.val : Int), .int .i64 (y.val : Int)] ++ cb) W fun e W' => e = .returned (.int .i64 (by_ x.val - by_ y.val)) ∧ ∃ q, W' = W.drewN q) :
    Calls Try.prog 59 #[v, .func (.func g) #[] cb] w fun e w' => e = .returned (.tuple #[]) ∧ ∃ ys : List (Fin (n + 1)), ys.Perm xs ∧ ys.Pairwise (fun a b => by_ a.val ≤ by_ b.val) ∧ OwnI w' base 3 v (vals ys) ∧ w.grownBy w' v.ownBlock := by
  have hlen : (vals xs).length = n + 1 := by simp [vals, hx]
  rcases h.2 with ⟨rfl, h0⟩ | ⟨blk, cap, cur, rfl, hg, hb, hnn, hm, hs, hc⟩
  · omega
  · have hc' : cur.toList.take (vals xs).length = (vals xs).map (Value.int .i64) := by rwa [Nat.mul_one] at hc
    have hH := holds_of_blockI hb hc'
    have hH' : Holds (fun k : Fin (n + 1) => Value.int .i64 (k.val : Int)) w blk 0 xs.toArray := by
      intro j hj
      have hj' : j < (vals xs).toArray.size := by simpa [vals] using hj
      obtain ⟨h1, h2⟩ := hH j hj'
      refine ⟨?_, h2⟩
      rw [h1, getElem!_pos (vals xs).toArray j hj', getElem!_pos xs.toArray j hj]
      simp [vals]
    have hcr : CmpReads Try.prog g cb (fun k : Fin (n + 1) => Value.int .i64 (k.val : Int)) (fun x y => by_ x.val - by_ y.val) blk 0 xs.toArray.size w := by
      intro m os dk _ x y
      refine hcmp _ ?_ x y
      unfold sortWorld
      rw [putRow_fin]
      exact grownBy_sortedI (w := w) (g := blk) (n := m) (os := os) (vals dk.toList).toArray
    have hins := Lib.hid (Try.insertionSortCmpFunc_one (fun k : Fin (n + 1) => Value.int .i64 (k.val : Int)) (fun _ => rfl) (fun x y => by_ x.val - by_ y.val) g cb blk 0 cap 0 xs.toArray.size xs.toArray w eg hcr hH' (Nat.zero_le _) (Nat.le_refl _) (by simp [hx]; omega))
    have hsz : xs.toArray.size = n + 1 := by simp [hx]
    rw [hsz] at hins
    rw [hlen]
    have hpost := Lib.hid (insertionSort_holds (lt := ltOf fun x y : Fin (n + 1) => by_ x.val - by_ y.val) ⟨fun x => by simp [ltOf], fun x y z h1 h2 => by simp only [ltOf, decide_eq_true_eq] at *; omega, fun x y z h1 h2 => by simp only [ltOf, decide_eq_false_iff_not] at *; omega⟩ xs.toArray 0 (n + 1) (Nat.zero_le _) (by omega))
    clear hH hH' hcr hc hc' hsz
    have h2 : Calls Try.prog 119 #[.slice (some ⟨blk, 0, none⟩) (n + 1) cap, .int .i64 ((n + 1 : Nat) : Int), .func (.func g) #[] cb] w fun e w' => e = .returned (.tuple #[]) ∧ ∃ k, w' = (putRow (fun k : Fin (n + 1) => Value.int .i64 (k.val : Int)) w blk 0 (Sort.insertionSort (ltOf fun x y : Fin (n + 1) => by_ x.val - by_ y.val) xs.toArray 0 (n + 1))).drewN k := by
      generalize putRow (fun k : Fin (n + 1) => Value.int .i64 (k.val : Int)) w blk 0 (Sort.insertionSort (ltOf fun x y : Fin (n + 1) => by_ x.val - by_ y.val) xs.toArray 0 (n + 1)) = W1 at *
      clear hpost
      obtain ⟨N, hN⟩ : ∃ N, n + 1 = N := ⟨_, rfl⟩
      rw [hN] at hins ⊢
      have hN2 : N < 20 := by omega
      clear hN hlen hx hb hnn hm hs hcmp h
      go_enter Try.func119, Try.ntmps119
      go_wp2_with fail
      refine wp_loop_once ?_
      go_wp2_with fail
      refine hins.out.mono ?_
      rintro e w' ⟨rfl, k, rfl⟩
      go_wp2_with fail
      refine wp_loop_once ?_
      go_wp2_with fail
      go_end0
      exact ⟨rfl, k, rfl⟩
    obtain ⟨⟨hp1, _, hp2⟩, hso⟩ := hpost.out
    obtain ⟨d', hd'⟩ : ∃ d', Sort.insertionSort (ltOf fun x y : Fin (n + 1) => by_ x.val - by_ y.val) xs.toArray 0 (n + 1) = d' := ⟨_, rfl⟩
    rw [hd'] at hp1 hp2 hso h2
    have hsz : d'.size = n + 1 := by rw [hp1]; simp [hx]
    have hperm : d'.toList.Perm xs := by
      have e1 : (d'.extract 0 (n + 1)).toList = d'.toList := by
        rw [Array.toList_extract, List.extract_eq_take_drop, List.drop_zero, List.take_of_length_le (by simp [hsz])]
      have e2 : (xs.toArray.extract 0 (n + 1)).toList = xs := by
        rw [Array.toList_extract, List.extract_eq_take_drop, List.drop_zero, List.take_of_length_le (by simp [hx])]
      rwa [e1, e2] at hp2
    have hpw : d'.toList.Pairwise fun a b => by_ a.val ≤ by_ b.val := by
      rw [List.pairwise_iff_getElem]
      intro i j hi hj hij
      have hi' : i < d'.size := by simpa using hi
      have hj' : j < d'.size := by simpa using hj
      have := hso i j (Nat.zero_le _) hij (by omega)
      rw [getElem!_pos d' j hj', getElem!_pos d' i hi'] at this
      simp only [ltOf, decide_eq_false_iff_not] at this
      simp only [Array.getElem_toList]
      omega
    have hts : (vals d'.toList).length = (vals xs).length := by simp [vals, hsz, hx]
    have Hfin : ∀ k, OwnI ((putRow (fun k : Fin (n + 1) => Value.int .i64 (k.val : Int)) w blk 0 d').drewN k) base 3 (.slice (some ⟨blk, 0, none⟩) (n + 1) cap) (vals d'.toList) ∧ w.grownBy ((putRow (fun k : Fin (n + 1) => Value.int .i64 (k.val : Int)) w blk 0 d').drewN k) (some blk) := by
      intro k
      have e : (putRow (fun k : Fin (n + 1) => Value.int .i64 (k.val : Int)) w blk 0 d').drewN k = grow (putRow (Value.int .i64) (Sort.ahead w k) blk 0 (vals d'.toList).toArray) #[] := by
        rw [grow_empty, ← putRow_fin]; rfl
      rw [e]
      refine ⟨?_, grownBy_sortedI _⟩
      have := ownsRow_sortedI (w := w) (n := k) (os := #[]) hts hg hb hnn hm hs
      unfold OwnI
      rw [hts]
      rwa [hlen] at this ⊢
    have H2 := Lib.hid h2; have HF := Lib.hid Hfin; have Hp := Lib.hid hperm; have Hw := Lib.hid hpw
    clear h2 Hfin hperm hpw hcmp hp1 hp2 hso hts hpost hins hd' hlen hx hb hnn hm hs h
    have ecast : ((n + 1 : Nat) : Int) = (n : Int) + 1 := by omega
    have h2 := H2.out
    rw [ecast] at h2
    have H2' := Lib.hid h2
    have HF' := HF
    clear H2 h2 HF ecast hsz
    generalize putRow (fun k : Fin (n + 1) => Value.int .i64 (k.val : Int)) w blk 0 d' = W1 at *
    go_enter Try.func59, Try.ntmps59
    go_wp2_with fail
    refine H2'.out.mono ?_
    rintro e w' ⟨rfl, k, rfl⟩
    go_wp2_with fail
    go_end0
    exact ⟨rfl, d'.toList, Hp.out, Hw.out, (HF'.out k).1, (HF'.out k).2⟩
end Go.Proofs.Pet
