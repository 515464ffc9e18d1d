/-
  A spool of numbers: what it gives lies in the bounds that were asked.
-/
import Derived.Test.YtjlglbhafopomaaGreatPAM
import Derived.Test.YtjlglbhafopomaaGreatB0
namespace Go.Proofs.Pet
set_option linter.unusedSimpArgs false
open Go Go.RowKit Go.Maps Go.Shelf

/-- bytes that can be read, all of them ahead of the block b -/
def BytesAt (w : World) (b : Nat) (A : Option Addr) (n : Nat) : Prop :=
  ∀ j, j < n → ∃ b' o u, A = some ⟨b', o, none⟩ ∧ b' < b ∧ w.cell? ⟨b', o + j, none⟩ = some (.int .u8 u)
/-- a spool, of which at most k numbers have been wound off -/
def SpoolAt (w : World) (b k : Nat) : Prop :=
  ∃ A n c st, ∃ at_ : Nat, Blk w b 132 #[.slice A n c, .int .i64 (at_ : Int), .int .u64 st] ∧ n ≤ c ∧ c ≤ maxLen ∧ at_ ≤ k ∧ BytesAt w b A n
theorem BytesAt.ext {w w' : World} {b n : Nat} {A : Option Addr} (h : BytesAt w b A n) (he : Ext w w') : BytesAt w' b A n := fun j hj => by
  obtain ⟨b', o, u, h1, h2, h3⟩ := h j hj
  exact ⟨b', o, u, h1, h2, he.cell h3⟩
theorem BytesAt.apart {w w' : World} {b n : Nat} {A : Option Addr} (h : BytesAt w b A n) (he : Apart b w w') : BytesAt w' b A n := fun j hj => by
  obtain ⟨b', o, u, h1, h2, h3⟩ := h j hj
  refine ⟨b', o, u, h1, h2, ?_⟩
  have hlt := cell_lt h3
  unfold World.cell? at h3 ⊢
  rw [he.block b' hlt (Nat.ne_of_lt h2)]
  exact h3
theorem SpoolAt.ext {w w' : World} {b k : Nat} (h : SpoolAt w b k) (he : Ext w w') : SpoolAt w' b k := by
  obtain ⟨A, n, c, st, a, h1, h2, h3, h4, h5⟩ := h
  exact ⟨A, n, c, st, a, h1.ext he, h2, h3, h4, h5.ext he⟩
theorem SpoolAt.mono {w : World} {b k k' : Nat} (h : SpoolAt w b k) (hk : k ≤ k') : SpoolAt w b k' := by
  obtain ⟨A, n, c, st, a, h1, h2, h3, h4, h5⟩ := h
  exact ⟨A, n, c, st, a, h1, h2, h3, by omega, h5⟩
instance {w w' : World} {b k : Nat} : Lift (SpoolAt w b k) w w' (SpoolAt w' b k) := ⟨fun he h => h.ext he⟩
theorem SpoolAt.lt {w : World} {b k : Nat} (h : SpoolAt w b k) : b < w.heap.size := by
  obtain ⟨A, n, c, st, a, h1, _⟩ := h
  exact h1.lt
theorem mask_bd (x : Int) : 0 ≤ Go.bits .and .i64 x 65535 ∧ Go.bits .and .i64 x 65535 ≤ 65535 := by
  have h16 : (BitVec.ofInt 64 65535).toNat = 2 ^ 16 - 1 := by decide
  have key : (BitVec.ofInt 64 x &&& BitVec.ofInt 64 65535).toNat = (x % ((2 ^ 64 : Nat) : Int)).toNat % 2 ^ 16 := by
    rw [BitVec.toNat_and, BitVec.toNat_ofInt, h16, Nat.and_two_pow_sub_one_eq_mod]
  have e : Go.bits .and .i64 x 65535 = IntKind.i64.wrap ((BitVec.ofInt 64 x &&& BitVec.ofInt 64 65535).toNat : Nat) := rfl
  rw [e, key, IntKind.wrap_i64]
  omega
/-- a number of a spool in its bounds, and the spool goes on -/
def Turned (b k : Nat) (lo hi : Int) (w : World) (e : Ending) (w' : World) : Prop :=
  ∃ r : Int, e = .returned (.int .i64 r) ∧ lo ≤ r ∧ r ≤ hi ∧ SpoolAt w' b (k + 1) ∧ Apart b w w'
set_option maxRecDepth 20000 in
set_option maxHeartbeats 4000000 in
theorem turn_any (b k : Nat) (hk : k ≤ 1000000) (w : World) (hs : SpoolAt w b k) :
    Calls Tryz.prog 95 #[.pointer (some ⟨b, 0, none⟩)] w (Turned b k 0 65535 w) := by
  obtain ⟨A, n, c, st, a, hb, h2, h3, h4, h5⟩ := hs
  obtain ⟨k0, k1, k2⟩ := hb.c3
  have f1 := hb.frozen 1; have f2 := hb.frozen 2
  unfold maxLen at h3
  have H5 := Lib.hid h5; clear h5
  have Hb := Lib.hid hb; clear hb
  by_cases hn : 0 < n
  · have hm : a % n < n := Nat.mod_lt _ hn
    obtain ⟨b', o, u, rfl, hne, hu⟩ := H5.out (a % n) hm
    have hmod : (a : Int).tmod n = ((a % n : Nat) : Int) := by rw [Int.tmod_eq_emod_of_nonneg (by omega)]; rfl
    have hn0 : ((n : Int) == 0) = false := by simp; omega
    go_enter Tryz.func95, Tryz.ntmps95
    go_wp2_with fail
    refine wp_region_chain 25 [] [] (by kernel_rfl) (by kernel_rfl) (by kernel_rfl) ?_
    simp only [List.take, List.drop, fill, Act.put, List.setIfInBounds_toArray, List.set_cons_zero, List.set_cons_succ, Nat.reduceAdd]
    repeat (first
      | refine Floats.mut rfl ?_
      | (apply Floats.float rfl
         · intro x W he hd K Q hK
           try (have he := he (by decide); have k0 := he.cell k0; have k1 := he.cell k1; have k2 := he.cell k2; have hu := he.cell hu)
           try simp only [edges, DepsE, List.filter_cons, List.filter_nil, Region.binds, if_true, and_true, true_and, upd, Nat.reduceEqDiff, if_false] at hd
           try simp only [hd] at hK ⊢
           have HK := Lib.hid hK; clear hK
           go_wp2_with fail
           exact HK.out))
    refine Floats.done fun W he hG => ?_
    have hbW := Hb.out.ext he
    obtain ⟨k0, k1, k2⟩ := hbW.c3
    have f1 := hbW.frozen 1; have f2 := hbW.frozen 2
    refine Chain.nil ?_
    simp only [upd, Nat.reduceEqDiff, if_false, if_true]
    go_wp2_with fail
    have hb1 := (hbW.set_ 2 (.int .u64 (IntKind.u64.wrap (st + IntKind.u64.wrap (IntKind.u64.wrap u * 977))))).set_ 1 (.int .i64 ((a : Int) + 1))
    have hbX : Blk ((W.setCell ⟨b, 2, none⟩ (.int .u64 (IntKind.u64.wrap (st + IntKind.u64.wrap (IntKind.u64.wrap u * 977))))).setCell ⟨b, 1, none⟩ (.int .i64 ((a : Int) + 1))) b 132 #[.slice (some ⟨b', o, none⟩) n c, .int .i64 ((a : Int) + 1), .int .u64 (IntKind.u64.wrap (st + IntKind.u64.wrap (IntKind.u64.wrap u * 977)))] := hb1
    have haX : Apart b w ((W.setCell ⟨b, 2, none⟩ (.int .u64 (IntKind.u64.wrap (st + IntKind.u64.wrap (IntKind.u64.wrap u * 977))))).setCell ⟨b, 1, none⟩ (.int .i64 ((a : Int) + 1))) := ((Apart.of_ext he).set_ 2 _).set_ 1 _
    have ha1 : ((a : Int) + 1) = ((a + 1 : Nat) : Int) := by omega
    rw [ha1] at hbX haX ⊢
    generalize (W.setCell ⟨b, 2, none⟩ (.int .u64 (IntKind.u64.wrap (st + IntKind.u64.wrap (IntKind.u64.wrap u * 977))))).setCell ⟨b, 1, none⟩ (.int .i64 ((a + 1 : Nat) : Int)) = W4 at *
    generalize IntKind.u64.wrap (st + IntKind.u64.wrap (IntKind.u64.wrap u * 977)) = st4 at *
    obtain ⟨a1, ha2⟩ : ∃ a1, a + 1 = a1 := ⟨_, rfl⟩
    rw [ha2] at hbX ⊢
    have ha3 : a1 ≤ k + 1 := by omega
    clear ha1 ha2 he hG hbW k0 k1 k2 f1 f2 hb1 hu
    clear hn0 hmod
    obtain ⟨k0, k1, k2⟩ := hbX.c3
    have f2 := hbX.frozen 2
    have HbX := Lib.hid hbX; clear hbX
    by_cases hgt : n < a1
    · go_wp2_with fail
      refine wp_region_chain 10 [] [] (by kernel_rfl) (by kernel_rfl) (by kernel_rfl) ?_
      simp only [List.take, List.drop, fill, Act.put, List.setIfInBounds_toArray, List.set_cons_zero, List.set_cons_succ, Nat.reduceAdd]
      repeat (first
        | refine Floats.mut rfl ?_
        | (apply Floats.float rfl
           · intro x W he hd K Q hK
             try (have he := he (by decide); have k0 := he.cell k0; have k1 := he.cell k1)
             try simp only [edges, DepsE, List.filter_cons, List.filter_nil, Region.binds, if_true, and_true, true_and, upd, Nat.reduceEqDiff, if_false] at hd
             try simp only [hd] at hK ⊢
             have HK := Lib.hid hK; clear hK
             go_wp2_with fail
             exact HK.out))
      refine Floats.done fun W he hG => ?_
      obtain ⟨k0, k1, k2⟩ := (HbX.out.ext he).c3
      have f2 := (HbX.out.ext he).frozen 2
      have hb6 := (HbX.out.ext he).set_ 2 (.int .u64 (IntKind.u64.wrap (IntKind.u64.wrap (st4 * 1103515245) + 12345)))
      have ha6 := (haX.trans (Apart.of_ext he)).set_ 2 (.int .u64 (IntKind.u64.wrap (IntKind.u64.wrap (st4 * 1103515245) + 12345)))
      have HB6 := Lib.hid hb6; clear hb6
      refine Chain.nil ?_
      simp only [upd, Nat.reduceEqDiff, if_false, if_true]
      go_wp2_with fail
      clear k0 k1 k2 f2 he hG
      obtain ⟨k0, k1, k2⟩ := HB6.out.c3
      refine wp_region_chain 13 [] [] (by kernel_rfl) (by kernel_rfl) (by kernel_rfl) ?_
      simp only [List.take, List.drop, fill, Act.put, List.setIfInBounds_toArray, List.set_cons_zero, List.set_cons_succ, Nat.reduceAdd]
      repeat (first
        | refine Floats.mut rfl ?_
        | (apply Floats.float rfl
           · intro x W he hd K Q hK
             try (have he := he (by decide); have k0 := he.cell k0; have k1 := he.cell k1; have k2 := he.cell k2)
             try simp only [edges, DepsE, List.filter_cons, List.filter_nil, Region.binds, if_true, and_true, true_and, upd, Nat.reduceEqDiff, if_false] at hd
             try simp only [hd] at hK ⊢
             have HK := Lib.hid hK; clear hK
             go_wp2_with fail
             exact HK.out))
      refine Floats.done fun W he hG => ?_
      have hb9 := HB6.out.ext he
      have ha9 := ha6.trans (Apart.of_ext he)
      refine Chain.nil ?_
      simp only [upd, Nat.reduceEqDiff, if_false, if_true]
      go_wp2_with fail
      go_ret
      exact ⟨_, rfl, (mask_bd _).1, (mask_bd _).2, ⟨_, n, c, _, a1, hb9, h2, by unfold maxLen; omega, ha3, H5.out.apart ha9⟩, ha9⟩
    · go_wp2_with fail
      refine wp_region_chain 10 [] [] (by kernel_rfl) (by kernel_rfl) (by kernel_rfl) ?_
      simp only [List.take, List.drop, fill, Act.put, List.setIfInBounds_toArray, List.set_cons_zero, List.set_cons_succ, Nat.reduceAdd]
      repeat (first
        | refine Floats.mut rfl ?_
        | (apply Floats.float rfl
           · intro x W he hd K Q hK
             try (have he := he (by decide); have k0 := he.cell k0; have k1 := he.cell k1)
             try simp only [edges, DepsE, List.filter_cons, List.filter_nil, Region.binds, if_true, and_true, true_and, upd, Nat.reduceEqDiff, if_false] at hd
             try simp only [hd] at hK ⊢
             have HK := Lib.hid hK; clear hK
             go_wp2_with fail
             exact HK.out))
      refine Floats.done fun W he hG => ?_
      have hb6 := HbX.out.ext he
      have ha6 := haX.trans (Apart.of_ext he)
      have HB6 := Lib.hid hb6; clear hb6
      refine Chain.nil ?_
      simp only [upd, Nat.reduceEqDiff, if_false, if_true]
      go_wp2_with fail
      clear k0 k1 k2 f2 he hG
      obtain ⟨k0, k1, k2⟩ := HB6.out.c3
      refine wp_region_chain 13 [] [] (by kernel_rfl) (by kernel_rfl) (by kernel_rfl) ?_
      simp only [List.take, List.drop, fill, Act.put, List.setIfInBounds_toArray, List.set_cons_zero, List.set_cons_succ, Nat.reduceAdd]
      repeat (first
        | refine Floats.mut rfl ?_
        | (apply Floats.float rfl
           · intro x W he hd K Q hK
             try (have he := he (by decide); have k0 := he.cell k0; have k1 := he.cell k1; have k2 := he.cell k2)
             try simp only [edges, DepsE, List.filter_cons, List.filter_nil, Region.binds, if_true, and_true, true_and, upd, Nat.reduceEqDiff, if_false] at hd
             try simp only [hd] at hK ⊢
             have HK := Lib.hid hK; clear hK
             go_wp2_with fail
             exact HK.out))
      refine Floats.done fun W he hG => ?_
      have hb9 := HB6.out.ext he
      have ha9 := ha6.trans (Apart.of_ext he)
      refine Chain.nil ?_
      simp only [upd, Nat.reduceEqDiff, if_false, if_true]
      go_wp2_with fail
      go_ret
      exact ⟨_, rfl, (mask_bd _).1, (mask_bd _).2, ⟨_, n, c, _, a1, hb9, h2, by unfold maxLen; omega, ha3, H5.out.apart ha9⟩, ha9⟩
  · have hn0 : n = 0 := by omega
    subst hn0
    go_enter Tryz.func95, Tryz.ntmps95
    go_wp2_with fail
    have hbX := Hb.out.set_ 1 (.int .i64 ((a : Int) + 1))
    have haX : Apart b w (w.setCell ⟨b, 1, none⟩ (.int .i64 ((a : Int) + 1))) := (Apart.refl b w).set_ 1 _
    have hbX : Blk (w.setCell ⟨b, 1, none⟩ (.int .i64 ((a : Int) + 1))) b 132 #[.slice A 0 c, .int .i64 ((a : Int) + 1), .int .u64 st] := hbX
    have ha1 : ((a : Int) + 1) = ((a + 1 : Nat) : Int) := by omega
    rw [ha1] at hbX haX ⊢
    generalize w.setCell ⟨b, 1, none⟩ (.int .i64 ((a + 1 : Nat) : Int)) = W4 at *
    obtain ⟨a1, ha2⟩ : ∃ a1, a + 1 = a1 := ⟨_, rfl⟩
    rw [ha2] at hbX ⊢
    have ha3 : a1 ≤ k + 1 := by omega
    clear ha1 ha2 k0 k1 k2 f1 f2
    obtain ⟨k0, k1, k2⟩ := hbX.c3
    have f2 := hbX.frozen 2
    have HbX := Lib.hid hbX; clear hbX
    by_cases hgt : 0 < a1
    · go_wp2_with fail
      refine wp_region_chain 10 [] [] (by kernel_rfl) (by kernel_rfl) (by kernel_rfl) ?_
      simp only [List.take, List.drop, fill, Act.put, List.setIfInBounds_toArray, List.set_cons_zero, List.set_cons_succ, Nat.reduceAdd]
      repeat (first
        | refine Floats.mut rfl ?_
        | (apply Floats.float rfl
           · intro x W he hd K Q hK
             try (have he := he (by decide); have k0 := he.cell k0; have k1 := he.cell k1)
             try simp only [edges, DepsE, List.filter_cons, List.filter_nil, Region.binds, if_true, and_true, true_and, upd, Nat.reduceEqDiff, if_false] at hd
             try simp only [hd] at hK ⊢
             have HK := Lib.hid hK; clear hK
             go_wp2_with fail
             exact HK.out))
      refine Floats.done fun W he hG => ?_
      obtain ⟨k0, k1, k2⟩ := (HbX.out.ext he).c3
      have f2 := (HbX.out.ext he).frozen 2
      have hb6 := (HbX.out.ext he).set_ 2 (.int .u64 (IntKind.u64.wrap (IntKind.u64.wrap (st * 1103515245) + 12345)))
      have ha6 := (haX.trans (Apart.of_ext he)).set_ 2 (.int .u64 (IntKind.u64.wrap (IntKind.u64.wrap (st * 1103515245) + 12345)))
      have HB6 := Lib.hid hb6; clear hb6
      refine Chain.nil ?_
      simp only [upd, Nat.reduceEqDiff, if_false, if_true]
      go_wp2_with fail
      clear k0 k1 k2 f2 he hG
      obtain ⟨k0, k1, k2⟩ := HB6.out.c3
      refine wp_region_chain 13 [] [] (by kernel_rfl) (by kernel_rfl) (by kernel_rfl) ?_
      simp only [List.take, List.drop, fill, Act.put, List.setIfInBounds_toArray, List.set_cons_zero, List.set_cons_succ, Nat.reduceAdd]
      repeat (first
        | refine Floats.mut rfl ?_
        | (apply Floats.float rfl
           · intro x W he hd K Q hK
             try (have he := he (by decide); have k0 := he.cell k0; have k1 := he.cell k1; have k2 := he.cell k2)
             try simp only [edges, DepsE, List.filter_cons, List.filter_nil, Region.binds, if_true, and_true, true_and, upd, Nat.reduceEqDiff, if_false] at hd
             try simp only [hd] at hK ⊢
             have HK := Lib.hid hK; clear hK
             go_wp2_with fail
             exact HK.out))
      refine Floats.done fun W he hG => ?_
      have hb9 := HB6.out.ext he
      have ha9 := ha6.trans (Apart.of_ext he)
      refine Chain.nil ?_
      simp only [upd, Nat.reduceEqDiff, if_false, if_true]
      go_wp2_with fail
      go_ret
      exact ⟨_, rfl, (mask_bd _).1, (mask_bd _).2, ⟨_, 0, c, _, a1, hb9, h2, by unfold maxLen; omega, ha3, H5.out.apart ha9⟩, ha9⟩
    · go_wp2_with fail
      refine wp_region_chain 10 [] [] (by kernel_rfl) (by kernel_rfl) (by kernel_rfl) ?_
      simp only [List.take, List.drop, fill, Act.put, List.setIfInBounds_toArray, List.set_cons_zero, List.set_cons_succ, Nat.reduceAdd]
      repeat (first
        | refine Floats.mut rfl ?_
        | (apply Floats.float rfl
           · intro x W he hd K Q hK
             try (have he := he (by decide); have k0 := he.cell k0; have k1 := he.cell k1)
             try simp only [edges, DepsE, List.filter_cons, List.filter_nil, Region.binds, if_true, and_true, true_and, upd, Nat.reduceEqDiff, if_false] at hd
             try simp only [hd] at hK ⊢
             have HK := Lib.hid hK; clear hK
             go_wp2_with fail
             exact HK.out))
      refine Floats.done fun W he hG => ?_
      have hb6 := HbX.out.ext he
      have ha6 := haX.trans (Apart.of_ext he)
      have HB6 := Lib.hid hb6; clear hb6
      refine Chain.nil ?_
      simp only [upd, Nat.reduceEqDiff, if_false, if_true]
      go_wp2_with fail
      clear k0 k1 k2 f2 he hG
      obtain ⟨k0, k1, k2⟩ := HB6.out.c3
      refine wp_region_chain 13 [] [] (by kernel_rfl) (by kernel_rfl) (by kernel_rfl) ?_
      simp only [List.take, List.drop, fill, Act.put, List.setIfInBounds_toArray, List.set_cons_zero, List.set_cons_succ, Nat.reduceAdd]
      repeat (first
        | refine Floats.mut rfl ?_
        | (apply Floats.float rfl
           · intro x W he hd K Q hK
             try (have he := he (by decide); have k0 := he.cell k0; have k1 := he.cell k1; have k2 := he.cell k2)
             try simp only [edges, DepsE, List.filter_cons, List.filter_nil, Region.binds, if_true, and_true, true_and, upd, Nat.reduceEqDiff, if_false] at hd
             try simp only [hd] at hK ⊢
             have HK := Lib.hid hK; clear hK
             go_wp2_with fail
             exact HK.out))
      refine Floats.done fun W he hG => ?_
      have hb9 := HB6.out.ext he
      have ha9 := ha6.trans (Apart.of_ext he)
      refine Chain.nil ?_
      simp only [upd, Nat.reduceEqDiff, if_false, if_true]
      go_wp2_with fail
      go_ret
      exact ⟨_, rfl, (mask_bd _).1, (mask_bd _).2, ⟨_, 0, c, _, a1, hb9, h2, by unfold maxLen; omega, ha3, H5.out.apart ha9⟩, ha9⟩
theorem tmod_bd {x d : Int} (hx : 0 ≤ x) (hd : 0 < d) : 0 ≤ x.tmod d ∧ x.tmod d < d := ⟨Int.tmod_nonneg _ hx, Int.tmod_lt_of_pos _ hd⟩
theorem upto_any (b k : Nat) (hk : k ≤ 1000000) (n : Int) (hn : -1000000 ≤ n ∧ n ≤ 1000000) (hi : Int) (hhi : max 0 n = hi) (w : World) (hs : SpoolAt w b k) :
    Calls Tryz.prog 22 #[.pointer (some ⟨b, 0, none⟩), .int .i64 n] w (Turned b k 0 hi w) := by
  have ht := Lib.hid (turn_any b k hk w hs)
  have Hhi := Lib.hid hhi; clear hhi
  go_enter Tryz.func22, Tryz.ntmps22
  go_wp2_with fail
  refine ht.out.mono ?_
  rintro e w1 ⟨r, rfl, h1, h2, h3, h4⟩
  clear ht
  go_wp2_with fail
  all_goals
    go_ret
    refine ⟨_, rfl, ?_, ?_, h3, h4⟩
  all_goals have := Hhi.out
  all_goals first
    | exact Int.le_refl _
    | omega
    | exact Int.emod_nonneg _ (by omega)
    | (have h9 := Int.emod_lt_of_pos r (show 0 < n + 1 by omega); omega)
    | (have h9 := Int.emod_lt_of_pos r (show 0 < max 1 (n + 1) by omega); omega)
theorem from_any (b k : Nat) (hk : k ≤ 1000000) (lo hi : Int) (hn : -1000 ≤ lo ∧ lo ≤ 1000 ∧ -1000 ≤ hi ∧ hi ≤ 1000) (h' : Int) (hh : max lo hi = h') (w : World) (hs : SpoolAt w b k) :
    Calls Tryz.prog 92 #[.pointer (some ⟨b, 0, none⟩), .int .i64 lo, .int .i64 hi] w (Turned b k lo h' w) := by
  have ht := Lib.hid (upto_any b k hk (hi - lo) (by omega) _ rfl w hs)
  have Hh := Lib.hid hh; clear hh
  go_enter Tryz.func92, Tryz.ntmps92
  go_wp2_with fail
  refine ht.out.mono ?_
  rintro e w1 ⟨r, rfl, h1, h2, h3, h4⟩
  clear ht
  have h2' : r ≤ 2000 := by omega
  have H2 := Lib.hid h2; clear h2
  go_wp2_with fail
  go_ret
  have := Hh.out; have := H2.out
  exact ⟨_, rfl, by omega, by omega, h3, h4⟩
/-- a yes or no of a spool -/
def TurnedB (b k : Nat) (w : World) (e : Ending) (w' : World) : Prop :=
  ∃ q : Bool, e = .returned (.bool q) ∧ SpoolAt w' b (k + 1) ∧ Apart b w w'
theorem once_any (b k : Nat) (hk : k ≤ 1000000) (n : Int) (hn : -1000 ≤ n ∧ n ≤ 1000) (w : World) (hs : SpoolAt w b k) :
    Calls Tryz.prog 21 #[.pointer (some ⟨b, 0, none⟩), .int .i64 n] w (TurnedB b k w) := by
  have ht := Lib.hid (upto_any b k hk (n - 1) (by omega) _ rfl w hs)
  go_enter Tryz.func21, Tryz.ntmps21
  go_wp2_with fail
  refine ht.out.mono ?_
  rintro e w1 ⟨r, rfl, h1, h2, h3, h4⟩
  clear ht
  have H2 := Lib.hid h2; clear h2
  go_wp2_with fail
  go_ret
  exact ⟨_, rfl, h3, h4⟩
/-- bytes that can be read -/
def BytesIn (w : World) (v : Value) : Prop := ∃ A n c, v = .slice A n c ∧ n ≤ c ∧ c ≤ maxLen ∧ ∀ j, j < n → ∃ b' o u, A = some ⟨b', o, none⟩ ∧ w.cell? ⟨b', o + j, none⟩ = some (.int .u8 u)
theorem BytesIn.ext {w w' : World} {v : Value} (h : BytesIn w v) (he : Ext w w') : BytesIn w' v := by
  obtain ⟨A, n, c, h1, h2, h3, h4⟩ := h
  exact ⟨A, n, c, h1, h2, h3, fun j hj => by obtain ⟨b', o, u, g1, g2⟩ := h4 j hj; exact ⟨b', o, u, g1, he.cell g2⟩⟩
instance {w w' : World} {v : Value} : Lift (BytesIn w v) w w' (BytesIn w' v) := ⟨fun he h => h.ext he⟩
theorem wound_any (v : Value) (w : World) (hv : BytesIn w v) :
    Calls Tryz.prog 18 #[v] w fun e w' => e = .returned (.pointer (some ⟨w.heap.size, 0, none⟩)) ∧ SpoolAt w' w.heap.size 0 ∧ Ext w w' := by
  obtain ⟨A, n, c, rfl, h2, h3, h4⟩ := hv
  have H4 := Lib.hid h4; clear h4
  go_enter Tryz.func18, Tryz.ntmps18
  go_wp2_with fail
  go_ret
  refine ⟨rfl, ⟨A, n, c, _, 0, Blk.new w 132 _, h2, h3, Nat.le_refl _, fun j hj => ?_⟩, Ext.alloc _ _⟩
  obtain ⟨b', o, u, e1, e2⟩ := H4.out j hj
  have hlt := cell_lt e2
  exact ⟨b', o, u, e1, hlt, (Ext.alloc w _).cell e2⟩
/-- an order of the numbers below n -/
def PermOf (n : Nat) (l : List Int) : Prop := l.Perm (ints (List.range n))
theorem swap_perm {X Y : List Int} (i a : Int) : (X ++ i :: (Y ++ [a])).Perm (X ++ a :: (Y ++ [i])) := by
  refine List.Perm.append_left X ?_
  have h1 : (i :: (Y ++ [a])).Perm (i :: a :: Y) := (List.perm_append_singleton a Y).cons i
  have h2 : (a :: (Y ++ [i])).Perm (a :: i :: Y) := (List.perm_append_singleton i Y).cons a
  exact h1.trans ((List.Perm.swap a i Y).trans h2.symm)
theorem lst_swap (f : Nat → Int) {i j : Nat} (hj : j ≤ i) : (lst (fun x => if x = j then (i : Int) else if x = i then f j else f x) (i + 1)).Perm (lst f i ++ [(i : Int)]) := by
  rcases Nat.lt_or_eq_of_le hj with hlt | rfl
  · have hr : List.range i = List.range j ++ j :: List.range' (j + 1) (i - j - 1) := by
      rw [List.range_eq_range', List.range_eq_range']
      have h1 : i = j + (1 + (i - j - 1)) := by omega
      rw [h1, ← List.range'_append_1, ← List.range'_append_1]
      simp
    rw [lst_succ]
    unfold lst
    rw [hr]
    simp only [List.map_append, List.map_cons]
    have e1 : List.map (fun x => if x = j then (i : Int) else if x = i then f j else f x) (List.range j) = List.map f (List.range j) := by
      apply List.map_congr_left
      intro x hx
      have := List.mem_range.1 hx
      rw [if_neg (by omega), if_neg (by omega)]
    have e2 : List.map (fun x => if x = j then (i : Int) else if x = i then f j else f x) (List.range' (j + 1) (i - j - 1)) = List.map f (List.range' (j + 1) (i - j - 1)) := by
      apply List.map_congr_left
      intro x hx
      have := List.mem_range'_1.1 hx
      rw [if_neg (by omega), if_neg (by omega)]
    rw [e1, e2]
    simp only [if_true, if_neg (show i ≠ j by omega)]
    simp only [List.append_assoc, List.cons_append]
    exact swap_perm _ _
  · rw [lst_succ, if_pos rfl]
    have e : lst (fun x => if x = j then (j : Int) else if x = j then f j else f x) j = lst f j := by
      unfold lst
      apply List.map_congr_left
      intro x hx
      have := List.mem_range.1 hx
      rw [if_neg (by omega), if_neg (by omega)]
    rw [e]
theorem Row.apart {w W : World} {b N g : Nat} {f : Nat → Int} (h : Row w g N f) (hne : g ≠ b) (ha : Apart b w W) : Row W g N f := by
  obtain ⟨cs, h1, h2, h3⟩ := h
  exact ⟨cs, h1.apart hne ha, h2, h3⟩
theorem SpoolAt.apart {w W : World} {b k g : Nat} (h : SpoolAt w b k) (hg : b < g) (ha : Apart g w W) : SpoolAt W b k := by
  obtain ⟨A, n, c, st, a, h1, h2, h3, h4, h5⟩ := h
  refine ⟨A, n, c, st, a, h1.apart (Nat.ne_of_lt hg) ha, h2, h3, h4, fun j hj => ?_⟩
  obtain ⟨b', o, u, rfl, g2, g3⟩ := h5 j hj
  refine ⟨b', o, u, rfl, g2, ?_⟩
  have hlt := cell_lt g3
  unfold World.cell? at g3 ⊢
  rw [ha.block b' hlt (by show b' ≠ g; omega)]
  exact g3
set_option maxRecDepth 20000 in
set_option maxHeartbeats 4000000 in
theorem orderS_any (b k : Nat) (hk : k ≤ 1000) (n : Nat) (hn : n ≤ 1000) (w : World) (hs : SpoolAt w b k) :
    Calls Tryz.prog 86 #[.pointer (some ⟨b, 0, none⟩), .int .i64 n] w fun e w' => ∃ S f, e = .returned (.slice (some ⟨S, 0, none⟩) n n) ∧ w.heap.size ≤ S ∧ Row w' S n f ∧ PermOf n (lst f n) ∧ SpoolAt w' b (k + n) ∧ Apart b w w' := by
  obtain ⟨ti, hi, hz0, hz1, hz2⟩ := info_parts info_int
  have hmk : ∀ W : World, (Instr.makeSlice 31 (.int .i64 (n : Int)) (.int .i64 (n : Int))).run Tryz.prog W = .ok (.slice (some ⟨W.heap.size, 0, none⟩) n n) (W.alloc (.cells (madeCells #[.int .i64 0] n) 3)) := by
    intro W
    have := run_make (P := Tryz.prog) W 31 3 ti _ Tryz.underlying31 hi hz0 .i64 .i64 n n (by omega) (by omega) (by rw [hz2]; omega) (by omega)
    simpa [hz1, Value.cells] using this
  have hS := Row.made (Blk.new w 3 (madeCells #[.int .i64 0] n))
  have hlt := hs.lt
  have hX := Ext.alloc w (.cells (madeCells #[.int .i64 0] n) 3)
  have hs' := hs.ext hX
  have hz : ∀ f : Nat → Int, PermOf 0 (lst f 0) := fun f => List.Perm.refl _
  have Hz := Lib.hid hz; clear hz
  rcases Nat.eq_zero_or_pos n with rfl | hpos
  · have hmk0 : ∀ W : World, (Instr.makeSlice 31 (.int .i64 0) (.int .i64 0)).run Tryz.prog W = .ok (.slice (some ⟨W.heap.size, 0, none⟩) 0 0) (W.alloc (.cells (madeCells #[.int .i64 0] 0) 3)) := hmk
    clear hmk
    go_enter Tryz.func86, Tryz.ntmps86
    go_wp2_with fail
    refine wp_loop_once ?_
    go_wp2_with fail
    go_ret
    exact ⟨_, _, rfl, Nat.le_refl _, hS, Hz.out _, hs', Apart.of_ext hX⟩
  · go_enter Tryz.func86, Tryz.ntmps86
    go_wp2_with fail
    obtain ⟨S, hS'⟩ : ∃ S, w.heap.size = S := ⟨_, rfl⟩
    rw [hS'] at hS hlt ⊢
    have haX := Apart.of_ext (b := b) hX
    clear hmk hX
    generalize w.alloc _ = W0 at *
    go_loopw [13] (fun iv wr => ∃ i : Nat, ∃ f, i ≤ n ∧ iv = .int .i64 i ∧ Hid (Row wr S n f) ∧ Hid (PermOf i (lst f i)) ∧ SpoolAt wr b (k + i) ∧ Apart b w wr) (fun iv _ => n - (intOf iv).toNat)
    case atStart => exact ⟨0, _, by omega, rfl, Lib.hid hS, Hz.out _, hs', haX⟩
    case round =>
      clear hS hs' haX
      obtain ⟨i, f, hi', rfl, hr, hp, hsp, hap⟩ := hrel
      by_cases hlt2 : i < n
      · have ht := Lib.hid (upto_any b (k + i) (by omega) (i : Int) (by omega) _ rfl wr hsp)
        go_wp2_with fail
        refine ht.out.mono ?_
        rintro e w2 ⟨r, rfl, h1, h2, h3, h4⟩
        clear ht
        obtain ⟨j, rfl⟩ : ∃ j : Nat, r = (j : Int) := ⟨r.toNat, by omega⟩
        have hj : j ≤ i := by omega
        have hr2 := hr.out.apart (by show S ≠ b; omega) h4
        have c1 := hr2.cell (j := j) (by omega)
        obtain ⟨fj, hfj⟩ : ∃ x, f j = x := ⟨_, rfl⟩
        rw [hfj] at c1
        have hfr := hr2.frozen j; have hfr2 := hr2.frozen i
        have hr3 := hr2.set_ (j := i) hlt2 fj
        have hr4 := hr3.set_ (j := j) (by omega) (i : Int)
        have ci := hr2.cell hlt2
        obtain ⟨x3, hx3⟩ : ∃ x, (w2.setCell ⟨S, i, none⟩ (.int .i64 fj)).cell? ⟨S, j, none⟩ = some x := ⟨_, hr3.cell (by omega)⟩
        have fr3 := hr3.frozen j
        have ha4 := (hap.trans h4)
        have h3' := (h3.apart (by omega : b < S) ((Apart.refl S w2).set_ i (.int .i64 fj))).apart (by omega : b < S) ((Apart.refl S _).set_ j (.int .i64 (i : Int)))
        have Hfj := Lib.hid hfj; have Hr4 := Lib.hid hr4; have Hh2 := Lib.hid h2
        clear hfj hr3 hr4 h2 hr2
        go_wp2_with fail
        go_roundw
        case rel =>
          refine ⟨i + 1, _, by omega, by go_num, Hr4, ?_, h3', (ha4.above (p := ⟨S, i, none⟩) (by show w.heap.size ≤ S; omega) _).above (p := ⟨S, j, none⟩) (by show w.heap.size ≤ S; omega) _⟩
          have := hp.out
          unfold Hid PermOf at this ⊢
          have e := (lst_swap f hj).trans ((this.append_right [(i : Int)]))
          rw [List.range_succ, ints_append]
          rw [Hfj.out] at e
          exact e
        case measure => simp [intOf]; omega
      · obtain rfl : i = n := by omega
        go_wp2_with fail
        go_ret
        exact ⟨S, f, rfl, by omega, hr.out, hp.out, hsp, hap⟩
end Go.Proofs.Pet
