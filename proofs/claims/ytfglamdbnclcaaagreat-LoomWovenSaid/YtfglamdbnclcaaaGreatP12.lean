/-
  Contracts of functions, each proved once.
-/
import Derived.Test.YtfglamdbnclcaaaGreatP11
namespace Go.Proofs.Pet
open Go Go.RowKit Go.Maps Go.Shelf

theorem nodup_not_take {xs : List Int} (h : xs.Nodup) {k : Nat} (hk : k < xs.length) : (xs.take k).contains (xs[k]?.getD 0) = false := by
  cases hc : (xs.take k).contains (xs[k]?.getD 0)
  · rfl
  · exfalso
    have hm : xs[k]?.getD 0 ∈ xs.take k := by simpa using hc
    obtain ⟨j, hj, he⟩ := List.mem_iff_getElem.1 hm
    rw [List.length_take] at hj
    rw [List.getElem_take] at he
    have h2 := List.pairwise_iff_getElem.1 h j k (by omega) hk (by omega)
    apply h2
    rw [he]; simp [hk]
theorem nodup_ints {l : List Nat} (h : l.Nodup) : (ints l).Nodup := by
  unfold ints
  rw [List.Nodup, List.pairwise_map]
  exact h.imp fun hne e => hne (by omega)
theorem lt_of_bit {n s k : Nat} (hs : s < 2 ^ n) (h : s.testBit k = true) : k < n := by
  have h5 := pow_le_of_testBit h
  exact (Nat.pow_lt_pow_iff_right (by omega : 1 < 2)).1 (by omega)
theorem bits_more {n s : Nat} (hs : s < 2 ^ n) : ∀ d, bits (n + d) s = bits n s
  | 0 => rfl
  | d + 1 => by
    rw [show n + (d + 1) = n + d + 1 by omega, bits_succ, if_neg, bits_more hs d]
    intro h
    have := lt_of_bit hs h
    omega
/-- the row of a loom, of all sets below a number -/
def tabL (m : Mill) (l s : Nat) : List Int := (List.range s).map (tabR m l)
def tabAll (m : Mill) (N l : Nat) : List (List Int) := (List.range l).map fun i => tabL m i N
end Go.Proofs.Pet

namespace Go.Proofs.Pet
open Go Go.RowKit Go.Maps Go.Shelf

/-- nothing has turned that was there, aside from a block -/
structure Apart (b : Nat) (w W : World) : Prop where
  os : W.os = w.os
  tape : W.tape = w.tape
  output : W.output = w.output
  size : w.heap.size ≤ W.heap.size
  block : ∀ k, k < w.heap.size → k ≠ b → W.heap[k]? = w.heap[k]?
theorem Apart.refl (b : Nat) (w : World) : Apart b w w := ⟨rfl, rfl, rfl, Nat.le_refl _, fun _ _ _ => rfl⟩
theorem Apart.of_ext {b : Nat} {w W : World} (h : Ext w W) : Apart b w W := ⟨h.os, h.tape, h.output, h.size, fun k hk _ => Below.block h k hk⟩
theorem Apart.trans {b : Nat} {w W V : World} (h : Apart b w W) (k : Apart b W V) : Apart b w V :=
  ⟨k.os.trans h.os, k.tape.trans h.tape, k.output.trans h.output, Nat.le_trans h.size k.size, fun j hj hne => (k.block j (Nat.lt_of_lt_of_le hj h.size) hne).trans (h.block j hj hne)⟩
theorem Apart.set_ {b : Nat} {w W : World} (h : Apart b w W) (i : Nat) (v : Value) : Apart b w (W.setCell ⟨b, i, none⟩ v) := by
  have e := Below.setCell (B := b) (Below.refl b W) (p := ⟨b, i, none⟩) (by exact Nat.le_refl _) v
  refine ⟨e.os.trans h.os, e.tape.trans h.tape, e.output.trans h.output, by rw [World.size_setCell]; exact h.size, fun k hk hne => ?_⟩
  rw [Below.heap_setCell W ⟨b, i, none⟩ v k hne]
  exact h.block k hk hne
theorem Apart.ext_of {b : Nat} {w0 w W : World} (h0 : Ext w0 w) (hb : w0.heap.size ≤ b) (h : Apart b w W) : Ext w0 W :=
  ⟨h.os.trans h0.os, h.tape.trans h0.tape, h.output.trans h0.output, Nat.le_trans h0.size h.size, fun k hk => (h.block k (Nat.lt_of_lt_of_le hk h0.size) (by omega)).trans (Below.block h0 k hk)⟩
def sumP : List Nat → Nat
  | [] => 0
  | k :: ks => 2 ^ k + sumP ks
theorem sumT_bd (t : Nat → Nat → Int) (own : Nat → Nat) (ht : ∀ i s, t i s ≤ 1000) : ∀ n, -1 ≤ sumT t own n ∧ sumT t own n ≤ 1000 * n
  | 0 => by simp [sumT]
  | n + 1 => by
    have := sumT_bd t own ht n
    have h := ht n (own n)
    unfold sumT
    split
    · omega
    split <;> omega
theorem bestOf_bd {M : Int} (hM : 0 ≤ M) (l : List Int) (h : ∀ x, x ∈ l → x ≤ M) : -1 ≤ bestOf l ∧ bestOf l ≤ M := by
  obtain ⟨h1, h2, h3⟩ := bestOf_least l
  refine ⟨h3, ?_⟩
  by_cases e : 0 ≤ bestOf l
  · exact h _ (h2 e).2
  · omega
def tabOf (t : Nat → Nat → Int) (N L : Nat) : List (List Int) := (List.range L).map fun i => (List.range N).map (t i)
def shR (mv tv lv ov : Value) (ks : List Nat) (b : Nat) (w : World) (sv : Int) : Nat → Value → World → Prop
  | 0 => fun v _ => v = mv
  | 1 => fun v _ => v = tv
  | 2 => fun v _ => v = lv
  | 3 => fun v _ => ∃ A' c', v = .slice A' ks.length c' ∧ ks.length ≤ c' ∧ c' ≤ maxLen ∧ ∀ W, Apart b w W → IntsAt W A' (ints ks)
  | 4 => fun v _ => v = ov
  | 5 => fun v _ => v = .int .i64 sv
  | _ => fun _ _ => True
end Go.Proofs.Pet

namespace Go.Proofs.Pet
open Go Go.RowKit Go.Maps Go.Shelf

theorem OwnI.apart {w W : World} {base b : Nat} {e : TypeId} {v : Value} {xs : List Int} (h : OwnI w base e v xs) (hne : v.ownBlock ≠ some b) (ha : Apart b w W) : OwnI W base e v xs := by
  obtain ⟨h1, h2⟩ := h
  refine ⟨h1, ?_⟩
  rcases h2 with h2 | ⟨g, cap, cur, rfl, hg1, hb, r⟩
  · exact .inl h2
  · refine .inr ⟨g, cap, cur, rfl, hg1, ?_, r⟩
    rw [← hb]
    exact ha.block g (Array.getElem?_eq_some_iff.1 hb).1 (fun e => hne (by rw [e]; rfl))
def fewS (S N s L M : Nat) (mv tv : Value) (A1 : Option Addr) (c1 Lb n : Nat) (r : Int) : Nat → Value → World → Prop
  | 0 => fun v _ => v = .slice (some ⟨S, 0, none⟩) N N
  | 1 => fun v _ => v = .int .i64 s
  | 2 => fun v _ => v = mv
  | 3 => fun v _ => v = tv
  | 4 => fun v _ => v = mv
  | 5 => fun v _ => v = .int .i64 s
  | 6 => fun v W => OwnI W Lb 3 v (ints (bits n s))
  | 7 => fun v _ => v = .pointer (some ⟨M, 0, none⟩)
  | 8 => fun v _ => v = .slice A1 L c1
  | 9 => fun v _ => v = .int .i64 L
  | 10 => fun v W => ∃ b, v = .slice (some ⟨b, 0, none⟩) L L ∧ Lb ≤ b ∧ Row W b L (fun _ => 0)
  | 11 => fun v _ => v = .int .i64 r
  | _ => fun _ _ => True
def fewAp (i : Nat) (u : Value) (j : Nat) (v : Value) : Prop := (i = 6 ∧ j = 10) ∨ (i = 10 ∧ j = 6) → ∀ g, u.ownBlock = some g → v.ownBlock ≠ some g

end Go.Proofs.Pet

namespace Go.Proofs.Pet
open Go Go.RowKit Go.Maps Go.Shelf

theorem aheadB_drop {a b : List Int} {k : Nat} (ha : k < a.length) (hb : k < b.length) : aheadB (a.drop k) (b.drop k) = if a[k]?.getD 0 = b[k]?.getD 0 then aheadB (a.drop (k + 1)) (b.drop (k + 1)) else decide (a[k]?.getD 0 < b[k]?.getD 0) := by
  rw [List.drop_eq_getElem_cons ha, List.drop_eq_getElem_cons hb, aheadB]
  simp [ha, hb]
theorem aheadB_end {a b : List Int} {k : Nat} (ha : k ≤ a.length) (hb : k ≤ b.length) (h : ¬ (k < a.length ∧ k < b.length)) : aheadB (a.drop k) (b.drop k) = decide (a.length < b.length) := by
  by_cases e : k < a.length
  · have e2 : b.length ≤ k := by omega
    rw [List.drop_eq_getElem_cons e, List.drop_of_length_le e2, aheadB]
    simp; omega
  · rw [List.drop_of_length_le (by omega : a.length ≤ k)]
    by_cases e2 : k < b.length
    · rw [List.drop_eq_getElem_cons e2, aheadB]
      simp; omega
    · rw [List.drop_of_length_le (by omega), aheadB]
      simp; omega
def lateItem (m : Mill) (s : Nat) : Bool × List Int := (decide (0 ≤ fewR m s), intsOf (bits m.orders.length (2 ^ m.orders.length - 1 - s)))
theorem range_map_succ {α : Type} (f : Nat → α) (k : Nat) : (List.range (k + 1)).map f = (List.range k).map f ++ [f k] := by
  rw [List.range_succ, List.map_append]; rfl
end Go.Proofs.Pet
