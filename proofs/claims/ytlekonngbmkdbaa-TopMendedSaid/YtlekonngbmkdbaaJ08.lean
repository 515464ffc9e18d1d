/- Joined texts: O0, QA, OA, O1, TL2. -/
import Derived.Test.YtlekonngbmkdbaaJ07
import Derived.Test.YtlekonngbmkdbaaJ06
import Derived.Deep.DeepCutAuto
namespace Go.Proofs.Pet
set_option linter.unusedSimpArgs false
open Go Go.RowKit Go.Maps Go.Shelf

/-- bytes that can be read, all of them ahead of the block b -/
def BytesAt (w : World) (b : Nat) (A : Option Addr) (n : Nat) : Prop :=
  ∀ j, j < n → ∃ b' o u, A = some ⟨b', o, none⟩ ∧ b' < b ∧ w.cell? ⟨b', o + j, none⟩ = some (.int .u8 u)
/-- a spool, of which at most k numbers have been wound off -/
def SpoolAt (w : World) (b k : Nat) : Prop :=
  ∃ A n c st, ∃ at_ : Nat, Blk w b 86 #[.slice A n c, .int .i64 (at_ : Int), .int .u64 st] ∧ n ≤ c ∧ c ≤ maxLen ∧ at_ ≤ k ∧ BytesAt w b A n
theorem BytesAt.ext {w w' : World} {b n : Nat} {A : Option Addr} (h : BytesAt w b A n) (he : Ext w w') : BytesAt w' b A n := fun j hj => by
  obtain ⟨b', o, u, h1, h2, h3⟩ := h j hj
  exact ⟨b', o, u, h1, h2, he.cell h3⟩
theorem BytesAt.apart {w w' : World} {b n : Nat} {A : Option Addr} (h : BytesAt w b A n) (he : Apart b w w') : BytesAt w' b A n := fun j hj => by
  obtain ⟨b', o, u, h1, h2, h3⟩ := h j hj
  refine ⟨b', o, u, h1, h2, ?_⟩
  have hlt := cell_lt h3
  unfold World.cell? at h3 ⊢
  rw [he.block b' hlt (Nat.ne_of_lt h2)]
  exact h3
theorem SpoolAt.ext {w w' : World} {b k : Nat} (h : SpoolAt w b k) (he : Ext w w') : SpoolAt w' b k := by
  obtain ⟨A, n, c, st, a, h1, h2, h3, h4, h5⟩ := h
  exact ⟨A, n, c, st, a, h1.ext he, h2, h3, h4, h5.ext he⟩
theorem SpoolAt.mono {w : World} {b k k' : Nat} (h : SpoolAt w b k) (hk : k ≤ k') : SpoolAt w b k' := by
  obtain ⟨A, n, c, st, a, h1, h2, h3, h4, h5⟩ := h
  exact ⟨A, n, c, st, a, h1, h2, h3, by omega, h5⟩
instance {w w' : World} {b k : Nat} : Lift (SpoolAt w b k) w w' (SpoolAt w' b k) := ⟨fun he h => h.ext he⟩
theorem SpoolAt.lt {w : World} {b k : Nat} (h : SpoolAt w b k) : b < w.heap.size := by
  obtain ⟨A, n, c, st, a, h1, _⟩ := h
  exact h1.lt
theorem mask_bd (x : Int) : 0 ≤ Go.bits .and .i64 x 65535 ∧ Go.bits .and .i64 x 65535 ≤ 65535 := by
  have h16 : (BitVec.ofInt 64 65535).toNat = 2 ^ 16 - 1 := by decide
  have key : (BitVec.ofInt 64 x &&& BitVec.ofInt 64 65535).toNat = (x % ((2 ^ 64 : Nat) : Int)).toNat % 2 ^ 16 := by
    rw [BitVec.toNat_and, BitVec.toNat_ofInt, h16, Nat.and_two_pow_sub_one_eq_mod]
  have e : Go.bits .and .i64 x 65535 = IntKind.i64.wrap ((BitVec.ofInt 64 x &&& BitVec.ofInt 64 65535).toNat : Nat) := rfl
  rw [e, key, IntKind.wrap_i64]
  omega
/-- a number of a spool in its bounds, and the spool goes on -/
def Turned (b k : Nat) (lo hi : Int) (w : World) (e : Ending) (w' : World) : Prop :=
  ∃ r : Int, e = .returned (.int .i64 r) ∧ lo ≤ r ∧ r ≤ hi ∧ SpoolAt w' b (k + 1) ∧ Apart b w w'
set_option maxRecDepth 20000 in
set_option maxHeartbeats 4000000 in
theorem turn_any (b k : Nat) (hk : k ≤ 1000000) (w : World) (hs : SpoolAt w b k) :
    Calls Try.prog 56 #[.pointer (some ⟨b, 0, none⟩)] w (Turned b k 0 65535 w) := by
  obtain ⟨A, n, c, st, a, hb, h2, h3, h4, h5⟩ := hs
  obtain ⟨k0, k1, k2⟩ := hb.c3
  have f1 := hb.frozen 1; have f2 := hb.frozen 2
  unfold maxLen at h3
  have H5 := Lib.hid h5; clear h5
  have Hb := Lib.hid hb; clear hb
  by_cases hn : 0 < n
  · have hm : a % n < n := Nat.mod_lt _ hn
    obtain ⟨b', o, u, rfl, hne, hu⟩ := H5.out (a % n) hm
    have hmod : (a : Int).tmod n = ((a % n : Nat) : Int) := by rw [Int.tmod_eq_emod_of_nonneg (by omega)]; rfl
    have hn0 : ((n : Int) == 0) = false := by simp; omega
    go_enter Try.func56, Try.ntmps56
    go_wp2_with fail
    refine wp_region_chain 25 [] [] (by kernel_rfl) (by kernel_rfl) (by kernel_rfl) ?_
    simp only [List.take, List.drop, fill, Act.put, List.setIfInBounds_toArray, List.set_cons_zero, List.set_cons_succ, Nat.reduceAdd]
    repeat (first
      | refine Floats.mut rfl ?_
      | (apply Floats.float rfl
         · intro x W he hd K Q hK
           try (have he := he (by decide); have k0 := he.cell k0; have k1 := he.cell k1; have k2 := he.cell k2; have hu := he.cell hu)
           try simp only [edges, DepsE, List.filter_cons, List.filter_nil, Region.binds, if_true, and_true, true_and, upd, Nat.reduceEqDiff, if_false] at hd
           try simp only [hd] at hK ⊢
           have HK := Lib.hid hK; clear hK
           go_wp2_with fail
           exact HK.out))
    refine Floats.done fun W he hG => ?_
    have hbW := Hb.out.ext he
    obtain ⟨k0, k1, k2⟩ := hbW.c3
    have f1 := hbW.frozen 1; have f2 := hbW.frozen 2
    refine Chain.nil ?_
    simp only [upd, Nat.reduceEqDiff, if_false, if_true]
    go_wp2_with fail
    have hb1 := (hbW.set_ 2 (.int .u64 (IntKind.u64.wrap (st + IntKind.u64.wrap (IntKind.u64.wrap u * 977))))).set_ 1 (.int .i64 ((a : Int) + 1))
    have hbX : Blk ((W.setCell ⟨b, 2, none⟩ (.int .u64 (IntKind.u64.wrap (st + IntKind.u64.wrap (IntKind.u64.wrap u * 977))))).setCell ⟨b, 1, none⟩ (.int .i64 ((a : Int) + 1))) b 86 #[.slice (some ⟨b', o, none⟩) n c, .int .i64 ((a : Int) + 1), .int .u64 (IntKind.u64.wrap (st + IntKind.u64.wrap (IntKind.u64.wrap u * 977)))] := hb1
    have haX : Apart b w ((W.setCell ⟨b, 2, none⟩ (.int .u64 (IntKind.u64.wrap (st + IntKind.u64.wrap (IntKind.u64.wrap u * 977))))).setCell ⟨b, 1, none⟩ (.int .i64 ((a : Int) + 1))) := ((Apart.of_ext he).set_ 2 _).set_ 1 _
    have ha1 : ((a : Int) + 1) = ((a + 1 : Nat) : Int) := by omega
    rw [ha1] at hbX haX ⊢
    generalize (W.setCell ⟨b, 2, none⟩ (.int .u64 (IntKind.u64.wrap (st + IntKind.u64.wrap (IntKind.u64.wrap u * 977))))).setCell ⟨b, 1, none⟩ (.int .i64 ((a + 1 : Nat) : Int)) = W4 at *
    generalize IntKind.u64.wrap (st + IntKind.u64.wrap (IntKind.u64.wrap u * 977)) = st4 at *
    obtain ⟨a1, ha2⟩ : ∃ a1, a + 1 = a1 := ⟨_, rfl⟩
    rw [ha2] at hbX ⊢
    have ha3 : a1 ≤ k + 1 := by omega
    clear ha1 ha2 he hG hbW k0 k1 k2 f1 f2 hb1 hu
    clear hn0 hmod
    obtain ⟨k0, k1, k2⟩ := hbX.c3
    have f2 := hbX.frozen 2
    have HbX := Lib.hid hbX; clear hbX
    by_cases hgt : n < a1
    · go_wp2_with fail
      refine wp_region_chain 10 [] [] (by kernel_rfl) (by kernel_rfl) (by kernel_rfl) ?_
      simp only [List.take, List.drop, fill, Act.put, List.setIfInBounds_toArray, List.set_cons_zero, List.set_cons_succ, Nat.reduceAdd]
      repeat (first
        | refine Floats.mut rfl ?_
        | (apply Floats.float rfl
           · intro x W he hd K Q hK
             try (have he := he (by decide); have k0 := he.cell k0; have k1 := he.cell k1)
             try simp only [edges, DepsE, List.filter_cons, List.filter_nil, Region.binds, if_true, and_true, true_and, upd, Nat.reduceEqDiff, if_false] at hd
             try simp only [hd] at hK ⊢
             have HK := Lib.hid hK; clear hK
             go_wp2_with fail
             exact HK.out))
      refine Floats.done fun W he hG => ?_
      obtain ⟨k0, k1, k2⟩ := (HbX.out.ext he).c3
      have f2 := (HbX.out.ext he).frozen 2
      have hb6 := (HbX.out.ext he).set_ 2 (.int .u64 (IntKind.u64.wrap (IntKind.u64.wrap (st4 * 1103515245) + 12345)))
      have ha6 := (haX.trans (Apart.of_ext he)).set_ 2 (.int .u64 (IntKind.u64.wrap (IntKind.u64.wrap (st4 * 1103515245) + 12345)))
      have HB6 := Lib.hid hb6; clear hb6
      refine Chain.nil ?_
      simp only [upd, Nat.reduceEqDiff, if_false, if_true]
      go_wp2_with fail
      clear k0 k1 k2 f2 he hG
      obtain ⟨k0, k1, k2⟩ := HB6.out.c3
      refine wp_region_chain 13 [] [] (by kernel_rfl) (by kernel_rfl) (by kernel_rfl) ?_
      simp only [List.take, List.drop, fill, Act.put, List.setIfInBounds_toArray, List.set_cons_zero, List.set_cons_succ, Nat.reduceAdd]
      repeat (first
        | refine Floats.mut rfl ?_
        | (apply Floats.float rfl
           · intro x W he hd K Q hK
             try (have he := he (by decide); have k0 := he.cell k0; have k1 := he.cell k1; have k2 := he.cell k2)
             try simp only [edges, DepsE, List.filter_cons, List.filter_nil, Region.binds, if_true, and_true, true_and, upd, Nat.reduceEqDiff, if_false] at hd
             try simp only [hd] at hK ⊢
             have HK := Lib.hid hK; clear hK
             go_wp2_with fail
             exact HK.out))
      refine Floats.done fun W he hG => ?_
      have hb9 := HB6.out.ext he
      have ha9 := ha6.trans (Apart.of_ext he)
      refine Chain.nil ?_
      simp only [upd, Nat.reduceEqDiff, if_false, if_true]
      go_wp2_with fail
      go_ret
      exact ⟨_, rfl, (mask_bd _).1, (mask_bd _).2, ⟨_, n, c, _, a1, hb9, h2, by unfold maxLen; omega, ha3, H5.out.apart ha9⟩, ha9⟩
    · go_wp2_with fail
      refine wp_region_chain 10 [] [] (by kernel_rfl) (by kernel_rfl) (by kernel_rfl) ?_
      simp only [List.take, List.drop, fill, Act.put, List.setIfInBounds_toArray, List.set_cons_zero, List.set_cons_succ, Nat.reduceAdd]
      repeat (first
        | refine Floats.mut rfl ?_
        | (apply Floats.float rfl
           · intro x W he hd K Q hK
             try (have he := he (by decide); have k0 := he.cell k0; have k1 := he.cell k1)
             try simp only [edges, DepsE, List.filter_cons, List.filter_nil, Region.binds, if_true, and_true, true_and, upd, Nat.reduceEqDiff, if_false] at hd
             try simp only [hd] at hK ⊢
             have HK := Lib.hid hK; clear hK
             go_wp2_with fail
             exact HK.out))
      refine Floats.done fun W he hG => ?_
      have hb6 := HbX.out.ext he
      have ha6 := haX.trans (Apart.of_ext he)
      have HB6 := Lib.hid hb6; clear hb6
      refine Chain.nil ?_
      simp only [upd, Nat.reduceEqDiff, if_false, if_true]
      go_wp2_with fail
      clear k0 k1 k2 f2 he hG
      obtain ⟨k0, k1, k2⟩ := HB6.out.c3
      refine wp_region_chain 13 [] [] (by kernel_rfl) (by kernel_rfl) (by kernel_rfl) ?_
      simp only [List.take, List.drop, fill, Act.put, List.setIfInBounds_toArray, List.set_cons_zero, List.set_cons_succ, Nat.reduceAdd]
      repeat (first
        | refine Floats.mut rfl ?_
        | (apply Floats.float rfl
           · intro x W he hd K Q hK
             try (have he := he (by decide); have k0 := he.cell k0; have k1 := he.cell k1; have k2 := he.cell k2)
             try simp only [edges, DepsE, List.filter_cons, List.filter_nil, Region.binds, if_true, and_true, true_and, upd, Nat.reduceEqDiff, if_false] at hd
             try simp only [hd] at hK ⊢
             have HK := Lib.hid hK; clear hK
             go_wp2_with fail
             exact HK.out))
      refine Floats.done fun W he hG => ?_
      have hb9 := HB6.out.ext he
      have ha9 := ha6.trans (Apart.of_ext he)
      refine Chain.nil ?_
      simp only [upd, Nat.reduceEqDiff, if_false, if_true]
      go_wp2_with fail
      go_ret
      exact ⟨_, rfl, (mask_bd _).1, (mask_bd _).2, ⟨_, n, c, _, a1, hb9, h2, by unfold maxLen; omega, ha3, H5.out.apart ha9⟩, ha9⟩
  · have hn0 : n = 0 := by omega
    subst hn0
    go_enter Try.func56, Try.ntmps56
    go_wp2_with fail
    have hbX := Hb.out.set_ 1 (.int .i64 ((a : Int) + 1))
    have haX : Apart b w (w.setCell ⟨b, 1, none⟩ (.int .i64 ((a : Int) + 1))) := (Apart.refl b w).set_ 1 _
    have hbX : Blk (w.setCell ⟨b, 1, none⟩ (.int .i64 ((a : Int) + 1))) b 86 #[.slice A 0 c, .int .i64 ((a : Int) + 1), .int .u64 st] := hbX
    have ha1 : ((a : Int) + 1) = ((a + 1 : Nat) : Int) := by omega
    rw [ha1] at hbX haX ⊢
    generalize w.setCell ⟨b, 1, none⟩ (.int .i64 ((a + 1 : Nat) : Int)) = W4 at *
    obtain ⟨a1, ha2⟩ : ∃ a1, a + 1 = a1 := ⟨_, rfl⟩
    rw [ha2] at hbX ⊢
    have ha3 : a1 ≤ k + 1 := by omega
    clear ha1 ha2 k0 k1 k2 f1 f2
    obtain ⟨k0, k1, k2⟩ := hbX.c3
    have f2 := hbX.frozen 2
    have HbX := Lib.hid hbX; clear hbX
    by_cases hgt : 0 < a1
    · go_wp2_with fail
      refine wp_region_chain 10 [] [] (by kernel_rfl) (by kernel_rfl) (by kernel_rfl) ?_
      simp only [List.take, List.drop, fill, Act.put, List.setIfInBounds_toArray, List.set_cons_zero, List.set_cons_succ, Nat.reduceAdd]
      repeat (first
        | refine Floats.mut rfl ?_
        | (apply Floats.float rfl
           · intro x W he hd K Q hK
             try (have he := he (by decide); have k0 := he.cell k0; have k1 := he.cell k1)
             try simp only [edges, DepsE, List.filter_cons, List.filter_nil, Region.binds, if_true, and_true, true_and, upd, Nat.reduceEqDiff, if_false] at hd
             try simp only [hd] at hK ⊢
             have HK := Lib.hid hK; clear hK
             go_wp2_with fail
             exact HK.out))
      refine Floats.done fun W he hG => ?_
      obtain ⟨k0, k1, k2⟩ := (HbX.out.ext he).c3
      have f2 := (HbX.out.ext he).frozen 2
      have hb6 := (HbX.out.ext he).set_ 2 (.int .u64 (IntKind.u64.wrap (IntKind.u64.wrap (st * 1103515245) + 12345)))
      have ha6 := (haX.trans (Apart.of_ext he)).set_ 2 (.int .u64 (IntKind.u64.wrap (IntKind.u64.wrap (st * 1103515245) + 12345)))
      have HB6 := Lib.hid hb6; clear hb6
      refine Chain.nil ?_
      simp only [upd, Nat.reduceEqDiff, if_false, if_true]
      go_wp2_with fail
      clear k0 k1 k2 f2 he hG
      obtain ⟨k0, k1, k2⟩ := HB6.out.c3
      refine wp_region_chain 13 [] [] (by kernel_rfl) (by kernel_rfl) (by kernel_rfl) ?_
      simp only [List.take, List.drop, fill, Act.put, List.setIfInBounds_toArray, List.set_cons_zero, List.set_cons_succ, Nat.reduceAdd]
      repeat (first
        | refine Floats.mut rfl ?_
        | (apply Floats.float rfl
           · intro x W he hd K Q hK
             try (have he := he (by decide); have k0 := he.cell k0; have k1 := he.cell k1; have k2 := he.cell k2)
             try simp only [edges, DepsE, List.filter_cons, List.filter_nil, Region.binds, if_true, and_true, true_and, upd, Nat.reduceEqDiff, if_false] at hd
             try simp only [hd] at hK ⊢
             have HK := Lib.hid hK; clear hK
             go_wp2_with fail
             exact HK.out))
      refine Floats.done fun W he hG => ?_
      have hb9 := HB6.out.ext he
      have ha9 := ha6.trans (Apart.of_ext he)
      refine Chain.nil ?_
      simp only [upd, Nat.reduceEqDiff, if_false, if_true]
      go_wp2_with fail
      go_ret
      exact ⟨_, rfl, (mask_bd _).1, (mask_bd _).2, ⟨_, 0, c, _, a1, hb9, h2, by unfold maxLen; omega, ha3, H5.out.apart ha9⟩, ha9⟩
    · go_wp2_with fail
      refine wp_region_chain 10 [] [] (by kernel_rfl) (by kernel_rfl) (by kernel_rfl) ?_
      simp only [List.take, List.drop, fill, Act.put, List.setIfInBounds_toArray, List.set_cons_zero, List.set_cons_succ, Nat.reduceAdd]
      repeat (first
        | refine Floats.mut rfl ?_
        | (apply Floats.float rfl
           · intro x W he hd K Q hK
             try (have he := he (by decide); have k0 := he.cell k0; have k1 := he.cell k1)
             try simp only [edges, DepsE, List.filter_cons, List.filter_nil, Region.binds, if_true, and_true, true_and, upd, Nat.reduceEqDiff, if_false] at hd
             try simp only [hd] at hK ⊢
             have HK := Lib.hid hK; clear hK
             go_wp2_with fail
             exact HK.out))
      refine Floats.done fun W he hG => ?_
      have hb6 := HbX.out.ext he
      have ha6 := haX.trans (Apart.of_ext he)
      have HB6 := Lib.hid hb6; clear hb6
      refine Chain.nil ?_
      simp only [upd, Nat.reduceEqDiff, if_false, if_true]
      go_wp2_with fail
      clear k0 k1 k2 f2 he hG
      obtain ⟨k0, k1, k2⟩ := HB6.out.c3
      refine wp_region_chain 13 [] [] (by kernel_rfl) (by kernel_rfl) (by kernel_rfl) ?_
      simp only [List.take, List.drop, fill, Act.put, List.setIfInBounds_toArray, List.set_cons_zero, List.set_cons_succ, Nat.reduceAdd]
      repeat (first
        | refine Floats.mut rfl ?_
        | (apply Floats.float rfl
           · intro x W he hd K Q hK
             try (have he := he (by decide); have k0 := he.cell k0; have k1 := he.cell k1; have k2 := he.cell k2)
             try simp only [edges, DepsE, List.filter_cons, List.filter_nil, Region.binds, if_true, and_true, true_and, upd, Nat.reduceEqDiff, if_false] at hd
             try simp only [hd] at hK ⊢
             have HK := Lib.hid hK; clear hK
             go_wp2_with fail
             exact HK.out))
      refine Floats.done fun W he hG => ?_
      have hb9 := HB6.out.ext he
      have ha9 := ha6.trans (Apart.of_ext he)
      refine Chain.nil ?_
      simp only [upd, Nat.reduceEqDiff, if_false, if_true]
      go_wp2_with fail
      go_ret
      exact ⟨_, rfl, (mask_bd _).1, (mask_bd _).2, ⟨_, 0, c, _, a1, hb9, h2, by unfold maxLen; omega, ha3, H5.out.apart ha9⟩, ha9⟩
theorem upto_any (b k : Nat) (hk : k ≤ 1000000) (n : Int) (hn : -1000000 ≤ n ∧ n ≤ 1000000) (hi : Int) (hhi : max 0 n = hi) (w : World) (hs : SpoolAt w b k) :
    Calls Try.prog 23 #[.pointer (some ⟨b, 0, none⟩), .int .i64 n] w (Turned b k 0 hi w) := by
  have ht := Lib.hid (turn_any b k hk w hs)
  have Hhi := Lib.hid hhi; clear hhi
  go_enter Try.func23, Try.ntmps23
  go_wp2_with fail
  refine ht.out.mono ?_
  rintro e w1 ⟨r, rfl, h1, h2, h3, h4⟩
  clear ht
  go_wp2_with fail
  all_goals
    go_ret
    refine ⟨_, rfl, ?_, ?_, h3, h4⟩
  all_goals have := Hhi.out
  all_goals first
    | exact Int.le_refl _
    | omega
    | exact Int.emod_nonneg _ (by omega)
    | (have h9 := Int.emod_lt_of_pos r (show 0 < n + 1 by omega); omega)
    | (have h9 := Int.emod_lt_of_pos r (show 0 < max 1 (n + 1) by omega); omega)
theorem from_any (b k : Nat) (hk : k ≤ 1000000) (lo hi : Int) (hn : -1000 ≤ lo ∧ lo ≤ 1000 ∧ -1000 ≤ hi ∧ hi ≤ 1000) (h' : Int) (hh : max lo hi = h') (w : World) (hs : SpoolAt w b k) :
    Calls Try.prog 16 #[.pointer (some ⟨b, 0, none⟩), .int .i64 lo, .int .i64 hi] w (Turned b k lo h' w) := by
  have ht := Lib.hid (upto_any b k hk (hi - lo) (by omega) _ rfl w hs)
  have Hh := Lib.hid hh; clear hh
  go_enter Try.func16, Try.ntmps16
  go_wp2_with fail
  refine ht.out.mono ?_
  rintro e w1 ⟨r, rfl, h1, h2, h3, h4⟩
  clear ht
  have h2' : r ≤ 2000 := by omega
  have H2 := Lib.hid h2; clear h2
  go_wp2_with fail
  go_ret
  have := Hh.out; have := H2.out
  exact ⟨_, rfl, by omega, by omega, h3, h4⟩
/-- a yes or no of a spool -/
def TurnedB (b k : Nat) (w : World) (e : Ending) (w' : World) : Prop :=
  ∃ q : Bool, e = .returned (.bool q) ∧ SpoolAt w' b (k + 1) ∧ Apart b w w'
theorem once_any (b k : Nat) (hk : k ≤ 1000000) (n : Int) (hn : -1000 ≤ n ∧ n ≤ 1000) (w : World) (hs : SpoolAt w b k) :
    Calls Try.prog 26 #[.pointer (some ⟨b, 0, none⟩), .int .i64 n] w (TurnedB b k w) := by
  have ht := Lib.hid (upto_any b k hk (n - 1) (by omega) _ rfl w hs)
  go_enter Try.func26, Try.ntmps26
  go_wp2_with fail
  refine ht.out.mono ?_
  rintro e w1 ⟨r, rfl, h1, h2, h3, h4⟩
  clear ht
  have H2 := Lib.hid h2; clear h2
  go_wp2_with fail
  go_ret
  exact ⟨_, rfl, h3, h4⟩
/-- bytes that can be read -/
def BytesIn (w : World) (v : Value) : Prop := ∃ A n c, v = .slice A n c ∧ n ≤ c ∧ c ≤ maxLen ∧ ∀ j, j < n → ∃ b' o u, A = some ⟨b', o, none⟩ ∧ w.cell? ⟨b', o + j, none⟩ = some (.int .u8 u)
theorem BytesIn.ext {w w' : World} {v : Value} (h : BytesIn w v) (he : Ext w w') : BytesIn w' v := by
  obtain ⟨A, n, c, h1, h2, h3, h4⟩ := h
  exact ⟨A, n, c, h1, h2, h3, fun j hj => by obtain ⟨b', o, u, g1, g2⟩ := h4 j hj; exact ⟨b', o, u, g1, he.cell g2⟩⟩
instance {w w' : World} {v : Value} : Lift (BytesIn w v) w w' (BytesIn w' v) := ⟨fun he h => h.ext he⟩
theorem wound_any (v : Value) (w : World) (hv : BytesIn w v) :
    Calls Try.prog 6 #[v] w fun e w' => e = .returned (.pointer (some ⟨w.heap.size, 0, none⟩)) ∧ SpoolAt w' w.heap.size 0 ∧ Ext w w' := by
  obtain ⟨A, n, c, rfl, h2, h3, h4⟩ := hv
  have H4 := Lib.hid h4; clear h4
  go_enter Try.func6, Try.ntmps6
  go_wp2_with fail
  go_ret
  refine ⟨rfl, ⟨A, n, c, _, 0, Blk.new w 86 _, h2, h3, Nat.le_refl _, fun j hj => ?_⟩, Ext.alloc _ _⟩
  obtain ⟨b', o, u, e1, e2⟩ := H4.out j hj
  have hlt := cell_lt e2
  exact ⟨b', o, u, e1, hlt, (Ext.alloc w _).cell e2⟩
/-- an order of the numbers below n -/
def PermOf (n : Nat) (l : List Int) : Prop := l.Perm (ints (List.range n))
theorem swap_perm {X Y : List Int} (i a : Int) : (X ++ i :: (Y ++ [a])).Perm (X ++ a :: (Y ++ [i])) := by
  refine List.Perm.append_left X ?_
  have h1 : (i :: (Y ++ [a])).Perm (i :: a :: Y) := (List.perm_append_singleton a Y).cons i
  have h2 : (a :: (Y ++ [i])).Perm (a :: i :: Y) := (List.perm_append_singleton i Y).cons a
  exact h1.trans ((List.Perm.swap a i Y).trans h2.symm)
theorem lst_swap (f : Nat → Int) {i j : Nat} (hj : j ≤ i) : (lst (fun x => if x = j then (i : Int) else if x = i then f j else f x) (i + 1)).Perm (lst f i ++ [(i : Int)]) := by
  rcases Nat.lt_or_eq_of_le hj with hlt | rfl
  · have hr : List.range i = List.range j ++ j :: List.range' (j + 1) (i - j - 1) := by
      rw [List.range_eq_range', List.range_eq_range']
      have h1 : i = j + (1 + (i - j - 1)) := by omega
      rw [h1, ← List.range'_append_1, ← List.range'_append_1]
      simp
    rw [lst_succ]
    unfold lst
    rw [hr]
    simp only [List.map_append, List.map_cons]
    have e1 : List.map (fun x => if x = j then (i : Int) else if x = i then f j else f x) (List.range j) = List.map f (List.range j) := by
      apply List.map_congr_left
      intro x hx
      have := List.mem_range.1 hx
      rw [if_neg (by omega), if_neg (by omega)]
    have e2 : List.map (fun x => if x = j then (i : Int) else if x = i then f j else f x) (List.range' (j + 1) (i - j - 1)) = List.map f (List.range' (j + 1) (i - j - 1)) := by
      apply List.map_congr_left
      intro x hx
      have := List.mem_range'_1.1 hx
      rw [if_neg (by omega), if_neg (by omega)]
    rw [e1, e2]
    simp only [if_true, if_neg (show i ≠ j by omega)]
    simp only [List.append_assoc, List.cons_append]
    exact swap_perm _ _
  · rw [lst_succ, if_pos rfl]
    have e : lst (fun x => if x = j then (j : Int) else if x = j then f j else f x) j = lst f j := by
      unfold lst
      apply List.map_congr_left
      intro x hx
      have := List.mem_range.1 hx
      rw [if_neg (by omega), if_neg (by omega)]
    rw [e]
theorem Row.apart {w W : World} {b N g : Nat} {f : Nat → Int} (h : Row w g N f) (hne : g ≠ b) (ha : Apart b w W) : Row W g N f := by
  obtain ⟨cs, h1, h2, h3⟩ := h
  exact ⟨cs, h1.apart hne ha, h2, h3⟩
theorem SpoolAt.apart {w W : World} {b k g : Nat} (h : SpoolAt w b k) (hg : b < g) (ha : Apart g w W) : SpoolAt W b k := by
  obtain ⟨A, n, c, st, a, h1, h2, h3, h4, h5⟩ := h
  refine ⟨A, n, c, st, a, h1.apart (Nat.ne_of_lt hg) ha, h2, h3, h4, fun j hj => ?_⟩
  obtain ⟨b', o, u, rfl, g2, g3⟩ := h5 j hj
  refine ⟨b', o, u, rfl, g2, ?_⟩
  have hlt := cell_lt g3
  unfold World.cell? at g3 ⊢
  rw [ha.block b' hlt (by show b' ≠ g; omega)]
  exact g3
set_option maxRecDepth 20000 in
set_option maxHeartbeats 4000000 in
theorem orderS_any (b k : Nat) (hk : k ≤ 1000) (n : Nat) (hn : n ≤ 1000) (w : World) (hs : SpoolAt w b k) :
    Calls Try.prog 15 #[.pointer (some ⟨b, 0, none⟩), .int .i64 n] w fun e w' => ∃ S f, e = .returned (.slice (some ⟨S, 0, none⟩) n n) ∧ w.heap.size ≤ S ∧ Row w' S n f ∧ PermOf n (lst f n) ∧ SpoolAt w' b (k + n) ∧ Apart b w w' := by
  obtain ⟨ti, hi, hz0, hz1, hz2⟩ := info_parts info_int
  have hmk : ∀ W : World, (Instr.makeSlice 28 (.int .i64 (n : Int)) (.int .i64 (n : Int))).run Try.prog W = .ok (.slice (some ⟨W.heap.size, 0, none⟩) n n) (W.alloc (.cells (madeCells #[.int .i64 0] n) 3)) := by
    intro W
    have := run_make (P := Try.prog) W 28 3 ti _ Try.underlying28 hi hz0 .i64 .i64 n n (by omega) (by omega) (by rw [hz2]; omega) (by omega)
    simpa [hz1, Value.cells] using this
  have hS := Row.made (Blk.new w 3 (madeCells #[.int .i64 0] n))
  have hlt := hs.lt
  have hX := Ext.alloc w (.cells (madeCells #[.int .i64 0] n) 3)
  have hs' := hs.ext hX
  have hz : ∀ f : Nat → Int, PermOf 0 (lst f 0) := fun f => List.Perm.refl _
  have Hz := Lib.hid hz; clear hz
  rcases Nat.eq_zero_or_pos n with rfl | hpos
  · have hmk0 : ∀ W : World, (Instr.makeSlice 28 (.int .i64 0) (.int .i64 0)).run Try.prog W = .ok (.slice (some ⟨W.heap.size, 0, none⟩) 0 0) (W.alloc (.cells (madeCells #[.int .i64 0] 0) 3)) := hmk
    clear hmk
    go_enter Try.func15, Try.ntmps15
    go_wp2_with fail
    refine wp_loop_once ?_
    go_wp2_with fail
    go_ret
    exact ⟨_, _, rfl, Nat.le_refl _, hS, Hz.out _, hs', Apart.of_ext hX⟩
  · go_enter Try.func15, Try.ntmps15
    go_wp2_with fail
    obtain ⟨S, hS'⟩ : ∃ S, w.heap.size = S := ⟨_, rfl⟩
    rw [hS'] at hS hlt ⊢
    have haX := Apart.of_ext (b := b) hX
    clear hmk hX
    generalize w.alloc _ = W0 at *
    go_loopw [13] (fun iv wr => ∃ i : Nat, ∃ f, i ≤ n ∧ iv = .int .i64 i ∧ Hid (Row wr S n f) ∧ Hid (PermOf i (lst f i)) ∧ SpoolAt wr b (k + i) ∧ Apart b w wr) (fun iv _ => n - (intOf iv).toNat)
    case atStart => exact ⟨0, _, by omega, rfl, Lib.hid hS, Hz.out _, hs', haX⟩
    case round =>
      clear hS hs' haX
      obtain ⟨i, f, hi', rfl, hr, hp, hsp, hap⟩ := hrel
      by_cases hlt2 : i < n
      · have ht := Lib.hid (upto_any b (k + i) (by omega) (i : Int) (by omega) _ rfl wr hsp)
        go_wp2_with fail
        refine ht.out.mono ?_
        rintro e w2 ⟨r, rfl, h1, h2, h3, h4⟩
        clear ht
        obtain ⟨j, rfl⟩ : ∃ j : Nat, r = (j : Int) := ⟨r.toNat, by omega⟩
        have hj : j ≤ i := by omega
        have hr2 := hr.out.apart (by show S ≠ b; omega) h4
        have c1 := hr2.cell (j := j) (by omega)
        obtain ⟨fj, hfj⟩ : ∃ x, f j = x := ⟨_, rfl⟩
        rw [hfj] at c1
        have hfr := hr2.frozen j; have hfr2 := hr2.frozen i
        have hr3 := hr2.set_ (j := i) hlt2 fj
        have hr4 := hr3.set_ (j := j) (by omega) (i : Int)
        have ci := hr2.cell hlt2
        obtain ⟨x3, hx3⟩ : ∃ x, (w2.setCell ⟨S, i, none⟩ (.int .i64 fj)).cell? ⟨S, j, none⟩ = some x := ⟨_, hr3.cell (by omega)⟩
        have fr3 := hr3.frozen j
        have ha4 := (hap.trans h4)
        have h3' := (h3.apart (by omega : b < S) ((Apart.refl S w2).set_ i (.int .i64 fj))).apart (by omega : b < S) ((Apart.refl S _).set_ j (.int .i64 (i : Int)))
        have Hfj := Lib.hid hfj; have Hr4 := Lib.hid hr4; have Hh2 := Lib.hid h2
        clear hfj hr3 hr4 h2 hr2
        go_wp2_with fail
        go_roundw
        case rel =>
          refine ⟨i + 1, _, by omega, by go_num, Hr4, ?_, h3', (ha4.above (p := ⟨S, i, none⟩) (by show w.heap.size ≤ S; omega) _).above (p := ⟨S, j, none⟩) (by show w.heap.size ≤ S; omega) _⟩
          have := hp.out
          unfold Hid PermOf at this ⊢
          have e := (lst_swap f hj).trans ((this.append_right [(i : Int)]))
          rw [List.range_succ, ints_append]
          rw [Hfj.out] at e
          exact e
        case measure => simp [intOf]; omega
      · obtain rfl : i = n := by omega
        go_wp2_with fail
        go_ret
        exact ⟨S, f, rfl, by omega, hr.out, hp.out, hsp, hap⟩
end Go.Proofs.Pet

namespace Go.Proofs.Pet
open Go Go.RowKit Go.Maps Go.Shelf

theorem all_take_snoc (xs : List Int) (p : Int → Bool) {k : Nat} (hk : k < xs.length) : (xs.take (k + 1)).all p = ((xs.take k).all p && p (xs[k]?.getD 0)) := by
  rw [List.take_succ_eq_append_getElem hk, List.all_append]
  simp [hk]
end Go.Proofs.Pet

namespace Go.Proofs.Pet
open Go Go.RowKit Go.Maps Go.Shelf

/-- the errors of looms and a day -/
def crowdC (m : Mill) (looms : List Int) (b : Int) : Int :=
  if (looms.all fun k => inB k 0 (m.laced.length - 1)) = false then 1 else if looms.length = 0 ∨ risingB looms = false then 4 else if inB b 1 99 = false then 3 else 0
/-- what Over answers -/
def overE (m : Mill) (looms : List Int) (b : Int) : Int × Int :=
  if checkE m ≠ 0 then (0, checkE m) else if crowdC m looms b ≠ 0 then (0, crowdC m looms b) else if overF m looms b m.orders.length < 1 then (0, 6) else (overF m looms b m.orders.length, 0)
/-- what Crowded answers, whatever the mill -/
def crowE (m : Mill) : Nat × Nat := if checkE m = 0 then crBy m (2 ^ m.laced.length - 1) 99 else (0, 0)
end Go.Proofs.Pet

namespace Go.Proofs.Pet
open Go

theorem sum_perm {l l' : List Int} (h : l.Perm l') : l.sum = l'.sum := by
  induction h with
  | nil => rfl
  | cons x _ ih => simp [ih]
  | swap x y l => simp only [List.sum_cons]; omega
  | trans _ _ h1 h2 => exact h1.trans h2
theorem dyR_sum {m : Mill} (hch : checkE m = 0) (l : Nat) : ∀ r : List Nat, (r.map m.dys).sum ≤ dyR m l r
  | [] => by simp [dyR]
  | k :: r => by
    have h1 := dyR_sum hch l r
    have h2 := check_change hch
    have h3 := chg_bd (lastPat m l r) (m.pat k)
    have h4 : 0 ≤ m.change * chg (lastPat m l r) (m.pat k) := Int.mul_nonneg h2 h3.1
    simp only [List.map_cons, List.sum_cons, dyR]
    omega
/-- the days of the orders of a run that a test takes -/
def daysT (m : Mill) (t : Nat → Bool) (r : List Nat) : Int := (r.map fun k => if t k = true then m.dys k else 0).sum
theorem dys_nonneg {m : Mill} (hch : checkE m = 0) (k : Nat) : 0 ≤ m.dys k := by
  unfold Mill.dys
  by_cases h : k < m.orders.length
  · have := (check_orders hch).1 _ (List.getElem_mem h)
    simp only [List.getElem?_eq_getElem h, Option.getD_some]
    omega
  · rw [List.getElem?_eq_none (by omega)]; exact Int.le_refl _
theorem daysT_le {m : Mill} (hch : checkE m = 0) (t : Nat → Bool) : ∀ r, daysT m t r ≤ (r.map m.dys).sum
  | [] => by simp [daysT]
  | k :: r => by
    have h1 := daysT_le hch t r
    have h2 := dys_nonneg hch k
    unfold daysT at h1 ⊢
    simp only [List.map_cons, List.sum_cons]
    split <;> omega
theorem ints_mem {l : List Nat} {x : Int} : x ∈ ints l ↔ ∃ k, k ∈ l ∧ (k : Int) = x := by unfold ints; exact List.mem_map
theorem rising_snoc {l : List Int} {x : Int} (h : risingB l = true) (hx : ∀ y, y ∈ l → y < x) : risingB (l ++ [x]) = true := by
  rw [risingB_iff] at h ⊢
  intro i h1 h2
  rw [List.length_append, List.length_singleton] at h2
  rcases Nat.lt_or_ge i l.length with g | g
  · rw [List.getElem?_append_left (by omega), List.getElem?_append_left g]
    exact h i h1 g
  · have : i = l.length := by omega
    subst this
    rw [List.getElem?_append_left (by omega), List.getElem?_append_right (Nat.le_refl _), Nat.sub_self]
    have hlt : l.length - 1 < l.length := by omega
    rw [List.getElem?_eq_getElem hlt]
    exact hx _ (List.getElem_mem hlt)
/-- what an order of a mill of L looms must be -/
structure OrdOk (L : Nat) (o : Ord) : Prop where
  pat : 0 ≤ o.pattern ∧ o.pattern ≤ 9
  dys : 1 ≤ o.days ∧ o.days ≤ 20
  byy : 1 ≤ o.by_ ∧ o.by_ ≤ 99
  ne : o.on ≠ []
  on : ∀ x, x ∈ o.on → 0 ≤ x ∧ x < L
  up : risingB o.on = true
structure MillOk (m : Mill) : Prop where
  looms : 1 ≤ m.laced.length ∧ m.laced.length ≤ 3
  few : m.orders.length ≤ 7
  laced : ∀ x, x ∈ m.laced → -1 ≤ x ∧ x ≤ 9
  change : 0 ≤ m.change ∧ m.change ≤ 5
  ords : ∀ o, o ∈ m.orders → OrdOk m.laced.length o
theorem check_iff (m : Mill) : checkE m = 0 ↔ MillOk m := by
  constructor
  · intro h
    have h0 := check_len h
    obtain ⟨h1, h2⟩ := check_orders h
    unfold checkE at h
    split at h
    · cases h
    split at h
    · cases h
    · rename_i g2
      split at h
      · cases h
      split at h
      · cases h
      · rename_i g4
        split at h
        · cases h
        · rename_i g5
          split at h
          · cases h
          · rename_i g6
            simp only [not_or, Bool.not_eq_false, List.all_eq_true] at g2 g4 g5 g6
            refine ⟨⟨h0.1, h0.2.1⟩, h0.2.2, fun x hx => ?_, h2, fun o ho => ⟨(h1 o ho).1, (h1 o ho).2.1, (h1 o ho).2.2, ?_, fun x hx => ?_, g6 o ho⟩⟩
            · have := g2.1 x hx
              unfold inB at this; simp at this; omega
            · have := g4 o ho
              intro e; rw [e] at this; simp at this
            · have := g5 o ho x hx
              unfold inB at this; simp at this; omega
  · intro ⟨h1, h2, h3, h4, h5⟩
    unfold checkE
    rw [if_neg, if_neg, if_neg, if_neg, if_neg, if_neg]
    · rw [Bool.not_eq_false, List.all_eq_true]; exact fun o ho => (h5 o ho).up
    · rw [Bool.not_eq_false, List.all_eq_true]
      intro o ho
      rw [List.all_eq_true]
      intro x hx
      have := (h5 o ho).on x hx
      unfold inB; simp; omega
    · rw [Bool.not_eq_false, List.all_eq_true]
      intro o ho
      have := (h5 o ho).ne
      simpa using List.length_pos_iff.2 this
    · rw [Bool.not_eq_false, List.all_eq_true]
      intro o ho
      obtain ⟨g1, g2, g3, _⟩ := h5 o ho
      unfold inB; simp; omega
    · rw [not_or, Bool.not_eq_false, Bool.not_eq_false, List.all_eq_true]
      refine ⟨fun x hx => ?_, ?_⟩
      · have := h3 x hx; unfold inB; simp; omega
      · unfold inB; simp; omega
    · rw [not_or, Bool.not_eq_false]
      refine ⟨?_, by omega⟩
      unfold inB; simp; omega
end Go.Proofs.Pet

namespace Go.Proofs.Pet
open Go

def okW (m : Mill) (n : Nat) (xs : List Int) : Bool := (xs.all fun k => inB k 0 (m.orders.length - 1)) && !twiceB xs && (xs.all fun k => weavesI m n k) && tmR m n (rvI xs)
theorem twiceB_iff (xs : List Int) : twiceB xs = false ↔ xs.Nodup := ⟨nodup_of_twice, twice_of_nodup⟩
theorem twiceB_snoc (xs : List Int) (x : Int) : twiceB (xs ++ [x]) = (twiceB xs || xs.contains x) := by
  rw [Bool.eq_iff_iff, ← Bool.not_eq_false, ← Bool.not_eq_false, Bool.or_eq_false_iff, twiceB_iff, twiceB_iff, List.nodup_append]
  simp only [List.nodup_cons, List.not_mem_nil, not_false_eq_true, List.nodup_nil, and_self, true_and, List.mem_singleton]
  constructor
  · intro h1 h2
    apply h1
    refine ⟨h2.1, fun a ha b hb => ?_⟩
    subst hb
    intro e
    subst e
    have := h2.2
    rw [List.contains_iff_mem.2 ha] at this
    cases this
  · intro h1 h2
    apply h1
    refine ⟨h2.1, ?_⟩
    rw [← Bool.not_eq_true, List.contains_iff_mem]
    intro hm
    exact h2.2 x hm x rfl rfl
theorem okW_succ (m : Mill) (n : Nat) {xs : List Int} {i : Nat} (hi : i < xs.length) : okW m n (xs.take (i + 1)) =
    (okW m n (xs.take i) && inB (xs[i]?.getD 0) 0 (m.orders.length - 1) && !(xs.take i).contains (xs[i]?.getD 0) && weavesI m n (xs[i]?.getD 0) && decide (dyR m n (rvI (xs.take (i + 1))) ≤ m.byy (xs[i]?.getD 0).toNat)) := by
  have ht : xs.take (i + 1) = xs.take i ++ [xs[i]?.getD 0] := by rw [List.take_succ_eq_append_getElem hi]; simp [hi]
  unfold okW
  rw [all_take_snoc xs _ hi, all_take_snoc xs _ hi]
  have h3 : twiceB (xs.take (i + 1)) = (twiceB (xs.take i) || (xs.take i).contains (xs[i]?.getD 0)) := by rw [ht, twiceB_snoc]
  have h4 : tmR m n (rvI (xs.take (i + 1))) = (tmR m n (rvI (xs.take i)) && decide (dyR m n (rvI (xs.take (i + 1))) ≤ m.byy (xs[i]?.getD 0).toNat)) := by rw [rvI_take hi]; rfl
  rw [h3, h4]
  cases (xs.take i).all (fun k => inB k 0 (m.orders.length - 1)) <;> cases inB (xs[i]?.getD 0) 0 (m.orders.length - 1) <;> cases twiceB (xs.take i) <;> cases (xs.take i).contains (xs[i]?.getD 0) <;> cases (xs.take i).all (fun k => weavesI m n k) <;> cases weavesI m n (xs[i]?.getD 0) <;> cases tmR m n (rvI (xs.take i)) <;> rfl
end Go.Proofs.Pet

namespace Go.Proofs.Pet
open Go Go.RowKit Go.Maps Go.Shelf

/-- orders as values, their lists of looms in rows of the call's own -/
def OrdOwn (w : World) (base : Nat) : List Value → List Ord → Prop
  | [], [] => True
  | p :: d :: b :: s :: cs, x :: xs => p = .int .i64 x.pattern ∧ d = .int .i64 x.days ∧ b = .int .i64 x.by_ ∧ OwnI w base 3 s x.on ∧ OrdOwn w base cs xs
  | _, _ => False
theorem OrdOwn.list {w : World} {base : Nat} : ∀ {cs : List Value} {xs : List Ord}, OrdOwn w base cs xs → OrdList w cs xs
  | [], [], _ => trivial
  | p :: d :: b :: s :: cs, x :: xs, ⟨h1, h2, h3, h4, h5⟩ => by
    obtain ⟨A, c, e, g1, g2, g3, _⟩ := h4.open_
    exact ⟨h1, h2, h3, ⟨A, c, ⟨g1, g2⟩, e, g3⟩, h5.list⟩
theorem OrdOwn.map {w w' : World} {base base' : Nat} (f : ∀ u xs, OwnI w base 3 u xs → OwnI w' base' 3 u xs) : ∀ {cs : List Value} {xs : List Ord}, OrdOwn w base cs xs → OrdOwn w' base' cs xs
  | [], [], _ => trivial
  | _p :: _d :: _b :: _s :: _cs, _x :: _xs, ⟨h1, h2, h3, h4, h5⟩ => ⟨h1, h2, h3, f _ _ h4, h5.map f⟩
theorem OrdOwn.append {w : World} {base : Nat} : ∀ {cs : List Value} {xs : List Ord} {ds : List Value} {ys : List Ord}, OrdOwn w base cs xs → OrdOwn w base ds ys → OrdOwn w base (cs ++ ds) (xs ++ ys)
  | [], [], _, _, _, h => h
  | _p :: _d :: _b :: _s :: _cs, _x :: _xs, _ds, _ys, ⟨h1, h2, h3, h4, h5⟩, h => ⟨h1, h2, h3, h4, h5.append h⟩
def OwnOB (w : World) (base : Nat) (v : Value) (xs : List Ord) : Prop :=
  ∃ cs, w.ownsRow base 107 4 v xs.length cs ∧ OrdOwn w base cs xs
theorem OwnOB.nil (w : World) (base : Nat) : OwnOB w base (.slice none 0 0) [] := ⟨[], World.ownsRow_nil _ _ _ _, trivial⟩
theorem OwnOB.ext {w w' : World} {base : Nat} {v : Value} {xs : List Ord} (h : OwnOB w base v xs) (he : Ext w w') : OwnOB w' base v xs := by
  obtain ⟨cs, h1, h2⟩ := h
  exact ⟨cs, ownsRow_ext2 h1 he, h2.map fun _ _ g => g.ext he⟩
instance {w w' : World} {b : Nat} {v : Value} {xs : List Ord} : Lift (OwnOB w b v xs) w w' (OwnOB w' b v xs) := ⟨fun he h => h.ext he⟩
theorem OwnI.apartB {w W : World} {base b : Nat} {e : TypeId} {v : Value} {xs : List Int} (h : OwnI w base e v xs) (hb : b < base) (ha : Apart b w W) : OwnI W base e v xs :=
  h.apart (fun e => by have := (h.own_lt b e).1; omega) ha
theorem ownsRow_own {w : World} {base size n : Nat} {e : TypeId} {v : Value} {xs : List Value} (h : w.ownsRow base e size v n xs) (j : Nat) (hj : v.ownBlock = some j) : base ≤ j ∧ j < w.heap.size := by
  rcases h.2 with ⟨rfl, _⟩ | ⟨g, cap, cur, rfl, hg, hb, _⟩
  · cases hj
  · have : g = j := Option.some.inj hj
    subst this
    exact ⟨hg, (Array.getElem?_eq_some_iff.1 hb).1⟩
theorem OwnOB.apart {w W : World} {base b : Nat} {v : Value} {xs : List Ord} (h : OwnOB w base v xs) (hb : b < base) (ha : Apart b w W) : OwnOB W base v xs := by
  obtain ⟨cs, h1, h2⟩ := h
  exact ⟨cs, ownsRow_apart h1 (fun e => by have := (ownsRow_own h1 b e).1; omega) ha, h2.map fun _ _ g => g.apartB hb ha⟩
/-- a store into a block of another type -/
theorem OwnI.far {w : World} {base g : Nat} {t : TypeId} {cs : Array Value} {u : Value} {xs : List Int} (h : OwnI w base 3 u xs) (hb : Blk w g t cs) (hne : t ≠ 3) (i : Nat) (v : Value) : OwnI (w.setCell ⟨g, i, none⟩ v) base 3 u xs :=
  h.apart (fun e => h.ne_blk hb hne e.symm) ((Apart.refl g w).set_ i v)
theorem OwnOB.far {w : World} {base g : Nat} {t : TypeId} {cs : Array Value} {u : Value} {xs : List Ord} (h : OwnOB w base u xs) (hb : Blk w g t cs) (h1 : t ≠ 3) (h2 : t ≠ 107 ∨ g < base) (i : Nat) (v : Value) : OwnOB (w.setCell ⟨g, i, none⟩ v) base u xs := by
  obtain ⟨cs', g1, g2⟩ := h
  refine ⟨cs', ownsRow_apart g1 (fun e => ?_) ((Apart.refl g w).set_ i v), g2.map fun _ _ g => g.far hb h1 i v⟩
  rcases h2 with h2 | h2
  · exact ownsRow_ne_blk g1 hb h2 e.symm
  · have := (ownsRow_own g1 g e).1; omega
/-- a row of another type grows -/
theorem OwnI.grownT {w w' : World} {base base' size n : Nat} {e : TypeId} {u v : Value} {xs : List Int} {vs : List Value} (h : OwnI w base 3 u xs) (hne : e ≠ 3) (hg : w.grownBy w' v.ownBlock) (hv : w.ownsRow base' e size v n vs) : OwnI w' base 3 u xs := by
  obtain ⟨h1, h2⟩ := h
  refine ⟨h1, ?_⟩
  rcases h2 with h2 | ⟨g, cap, cur, rfl, hg1, hb, r⟩
  · exact .inl h2
  · refine .inr ⟨g, cap, cur, rfl, hg1, ?_, r⟩
    rw [← hb]
    refine hg.block g (Array.getElem?_eq_some_iff.1 hb).1 fun e' => ?_
    exact ownsRow_ne_blk hv (show Blk w g 3 cur from hb) (fun h => hne h.symm) e'
/-- an order more -/
theorem OwnOB.push {w w' : World} {base : Nat} {v v' s : Value} {cs : List Value} {xs : List Ord} {x : Ord} (h1 : w.ownsRow base 107 4 v xs.length cs) (h2 : OrdOwn w base cs xs) (hs : OwnI w base 3 s x.on)
    (hown : w'.ownsRow base 107 4 v' (xs.length + 1) (cs ++ [.int .i64 x.pattern, .int .i64 x.days, .int .i64 x.by_, s])) (hg : w.grownBy w' v.ownBlock) : OwnOB w' base v' (xs ++ [x]) := by
  refine ⟨_, by rw [List.length_append]; exact hown, ?_⟩
  exact OrdOwn.map (fun _ _ g => g.grownT (by decide) hg h1) (h2.append ⟨rfl, rfl, rfl, hs, trivial⟩)
theorem OwnOB.ords {w : World} {base : Nat} {v : Value} {xs : List Ord} (h : OwnOB w base v xs) : ∃ A c, v = .slice A xs.length c ∧ xs.length ≤ c ∧ c ≤ maxLen ∧ OrdsAt w A xs := by
  obtain ⟨cs, h1, h2⟩ := h
  obtain ⟨A, c, e, g1, g2, g3, _⟩ := OwnO.open_ (⟨cs, h1, h2.list⟩ : OwnO w base 107 v xs)
  exact ⟨A, c, e, g1, g2, g3⟩
end Go.Proofs.Pet

namespace Go.Proofs.Mended
theorem atN_list (l : List Nat) : (List.range l.length).map (fun p => (atN l p : Int)) = l.map fun k : Nat => (k : Int) := by
  refine List.ext_getElem (by simp) fun i h1 h2 => ?_
  rw [List.getElem_map, List.getElem_range, List.getElem_map]
  rw [List.length_map] at h2
  unfold atN
  rw [List.getElem?_eq_getElem h2]; rfl
theorem riseF_place {l r : List Nat} {left lf : Nat} (e : left = lf + 1) {last : Option (Nat × Nat)} {a : Nat × Nat} (h : placeF left last 0 l r = some a) : riseF l r left last = a :: riseF l r lf (some a) := by
  subst e
  rw [riseF, h]
theorem riseF_none {l r : List Nat} {left lf : Nat} (e : left = lf + 1) {last : Option (Nat × Nat)} (h : placeF left last 0 l r = none) : riseF l r left last = riseF l r lf last := by
  subst e
  rw [riseF, h]
end Go.Proofs.Mended
namespace Go.Proofs.Pet
open Go Go.RowKit Go.Maps Go.Shelf
open Go.Proofs.Mended (atN risesF riseF riseL placeF fitB)

theorem Row.nats {w : World} {S : Nat} {l : List Nat} {n : Nat} (hn : l.length = n) (h : Row w S n (fun p => (atN l p : Int))) : IntsAt w (some ⟨S, 0, none⟩) (Go.Proofs.Pet.ints l) := by
  have := h.ints
  rw [← hn, Mended.atN_list] at this
  exact this
theorem SlI.nat {w : World} {A : Option Addr} {n c : Nat} {l : List Nat} (h : SlI w (.slice A n c) (Go.Proofs.Pet.ints l)) {k : Nat} (hk : k < l.length) : ∃ b o, A = some ⟨b, o, none⟩ ∧ w.cell? ⟨b, o + k, none⟩ = some (.int .i64 (atN l k : Int)) := by
  obtain ⟨A', c', e, _, _, h3⟩ := h
  injection e with e1 _ _
  subst e1
  exact h3.atN hk
set_option maxRecDepth 20000 in
set_option maxHeartbeats 2000000 in
theorem rise_any (A : Option Addr) (c : Nat) (l : List Nat) (hl : l.length ≤ 7) (w : World) (hx : IntsAt w A (ints l)) :
    Calls Try.prog 40 #[.slice A l.length c] w fun e w' => ∃ v, e = .returned v ∧ OwnI w' w.heap.size 3 v (ints ((riseL l).map (·.1))) ∧ Ext w w' := by
  obtain ⟨ti, hi, hz0, hz1, hz2⟩ := info_parts info_int
  have hri := Lib.hid (rises_any A c l hl w hx)
  have Hx := Lib.hid hx
  clear hx
  go_enter Try.func40, Try.ntmps40
  go_wp2_with fail
  refine hri.out.mono ?_
  rintro e w1 ⟨S, rfl, hR, hS, he1⟩
  have hI := hR.nats (Mended.risesF_len l)
  obtain ⟨mx, hmx⟩ : ∃ mx, Mended.maxF (risesF l) = mx := ⟨_, rfl⟩
  have hml : mx ≤ l.length := by rw [← hmx]; exact Mended.maxF_le l
  have hg := Lib.hid (greatestL_any (some ⟨S, 0, none⟩) l.length l.length (risesF l) (Mended.risesF_len l) mx (by rw [← Mended.maxF_max]; exact hmx) w1 (by rw [Mended.risesF_len]; omega) hI)
  have HR := Lib.hid hR
  have Hst : Hid (riseF l (risesF l) mx none = riseL l) := by unfold Hid; rw [← hmx]; rfl
  clear hri hR hI hmx
  go_wp2_with fail
  refine hg.out.mono ?_
  rintro e w2 ⟨rfl, rfl⟩
  go_wp2_with fail
  go_loopw [4, 5] (fun o lv wr => ∃ left : Nat, ∃ acc : List (Nat × Nat), ∃ ps : List Nat, ∃ n A2 c2, lv = .int .i64 (left : Int) ∧ o = .slice A2 n c2 ∧ left + n ≤ 7 ∧ Hid (ps.length = n) ∧ Hid (ps = acc.map (·.1)) ∧ Hid (OwnI wr w1.heap.size 3 (.slice A2 n c2) (ints ps)) ∧ Hid (Ext w1 wr) ∧ Hid (acc ++ riseF l (risesF l) left acc.getLast? = riseL l)) (fun _ lv _ => (intOf lv).toNat)
  case atStart => exact ⟨mx, [], [], 0, none, 0, rfl, rfl, by omega, Lib.hid rfl, Lib.hid rfl, Lib.hid (OwnI.nil _ _ _), Lib.hid (Ext.refl _), Lib.hid Hst.out⟩
  case round =>
    obtain ⟨left, acc, ps, n, A2, c2, rfl, rfl, hle, hpn, hps, hO, hE, hacc⟩ := hrel
    rcases Nat.eq_zero_or_pos left with rfl | hpos
    · have hfin : (riseL l).map (·.1) = ps := by
        rw [← hacc.out, hps.out]
        show (acc ++ []).map _ = _
        rw [List.append_nil]
      go_wp2_with fail
      go_ret
      exact ⟨_, rfl, by rw [hfin]; exact hO.out.mono he1.size, he1.trans hE.out⟩
    · obtain ⟨lf, hlf⟩ : ∃ lf, left = lf + 1 := ⟨left - 1, by omega⟩
      have Hlf := Lib.hid hlf
      clear hlf
      have Hin : Hid (∀ a, a ∈ acc → a.1 < l.length ∧ a.2 = atN l a.1) := fun a ha => Mended.riseL_mem (by rw [← hacc.out]; exact List.mem_append_left _ ha)
      obtain ⟨wo, rfl⟩ : ∃ z, z = wr := ⟨_, rfl⟩
      go_wp2_with fail
      go_loopw [4, 18] (fun o iv wr => ∃ p : Nat, p ≤ l.length ∧ iv = .int .i64 (p : Int) ∧ o = .slice A2 n c2 ∧ Hid (placeF left acc.getLast? p (l.drop p) ((risesF l).drop p) = placeF left acc.getLast? 0 l (risesF l)) ∧ Hid (Ext wo wr)) (fun _ iv _ => l.length - (intOf iv).toNat)
      case atStart => exact ⟨0, Nat.zero_le _, rfl, rfl, Lib.hid rfl, Lib.hid (Ext.refl _)⟩
      case round =>
        obtain ⟨p, hp, rfl, rfl, hpl, heI⟩ := hrel
        by_cases hlt : p < l.length
        · have hst := Lib.hid (Mended.placeF_step (Mended.risesF_len l) (left := left) (last := acc.getLast?) hlt)
          have hEw := Lib.hid (hE.out.trans heI.out)
          have cn := (HR.out.ext hEw.out).cell hlt
          have Hx' := Lib.hid (Hx.out.ext (he1.trans hEw.out))
          obtain ⟨b, o, e1, cp⟩ := Hx'.out.atN hlt
          subst e1
          -- what is done when the place is the next one, and when it is not
          have hno : Hid (fitB l (risesF l) left acc.getLast? p = false → placeF left acc.getLast? (p + 1) (l.drop (p + 1)) ((risesF l).drop (p + 1)) = placeF left acc.getLast? 0 l (risesF l)) := fun h => by
            rw [← hpl.out, hst.out, if_neg (by rw [h]; decide)]
          have hyes : Hid (fitB l (risesF l) left acc.getLast? p = true → (acc ++ [(p, atN l p)]) ++ riseF l (risesF l) lf (acc ++ [(p, atN l p)]).getLast? = riseL l) := fun h => by
            have h1 : placeF left acc.getLast? 0 l (risesF l) = some (p, atN l p) := by rw [← hpl.out, hst.out, if_pos h]
            have h2 := hacc.out
            rw [Mended.riseF_place Hlf.out h1] at h2
            rw [List.getLast?_concat, List.append_assoc]
            exact h2
          have hpush : Hid (∀ v' w', w'.ownsRow w1.heap.size 3 1 v' (n + 1) ((ints ps).map (Value.int .i64) ++ [.int .i64 (p : Int)]) → OwnI w' w1.heap.size 3 v' (ints (ps ++ [p]))) := fun v' w' h => by
            unfold OwnI ints
            rw [List.length_map, List.length_append, List.map_append, List.map_append, hpn.out]
            exact h
          have hpn2 : Hid ((ps ++ [p]).length = n + 1) := by unfold Hid; rw [List.length_append, hpn.out]; rfl
          have hpsn : Hid (ps ++ [p] = (acc ++ [(p, atN l p)]).map (·.1)) := by unfold Hid; rw [List.map_append, ← hps.out]; rfl
          have HO2 := Lib.hid (hO.out.ext heI.out)
          -- the append, at the world that is drawn
          have happ : Hid (∀ wd, Ext wr wd → (wd.alloc (.cells #[.int .i64 (p : Int)] 3)).ownsRow w1.heap.size 3 1 (.slice A2 n c2) n ((ints ps).map (Value.int .i64)) ∧ w1.heap.size ≤ (wd.alloc (.cells #[.int .i64 (p : Int)] 3)).heap.size ∧ ∀ w', (wd.alloc (.cells #[.int .i64 (p : Int)] 3)).grownBy w' (Value.slice A2 n c2).ownBlock → Ext w1 w') := fun wd hd => by
            have hX := Ext.alloc wd (.cells #[.int .i64 (p : Int)] 3)
            have h1 := HO2.out.ext (hd.trans hX)
            unfold OwnI at h1
            rw [lenI, hpn.out] at h1
            exact ⟨h1, (hEw.out.trans (hd.trans hX)).size, fun w' hg => ext_grown (hEw.out.trans hd) hg fun k hk => (HO2.out.own_lt k hk).1⟩
          clear hO
          by_cases hn : atN (risesF l) p = left
          · rw [hn] at cn
            have Hn := Lib.hid hn
            have hd0 : ((left : Int) == (left : Int)) = true := by simp
            clear hn hst
            cases n with
            | zero =>
              -- <<N
              have hac : acc = [] := by
                have h1 := hpn.out
                rw [hps.out, List.length_map] at h1
                exact List.length_eq_zero_iff.1 h1
              subst hac
              have hfit : fitB l (risesF l) left ([] : List (Nat × Nat)).getLast? p = true := by
                unfold fitB
                rw [Hn.out]; simp
              have hy := Lib.hid (hyes.out hfit)
              clear hfit
              go_wp2_with fail
              go_quiet (fail)
              have hdr := Ext.drewN wr nq
              obtain ⟨o1, o2, o3⟩ := happ.out _ hdr
              have O3 := Lib.hid o3
              clear hdr o3
              generalize wr.drewN nq = wd at *
              have hsrc := Src.one wd (.int .i64 (p : Int)) 3
              go_wp2_with (at_builtin; refine wpList_app rfl _ _ 28 rfl w1.heap.size 3 ti (.int .i64 0) 1 8 Try.underlying28 hi hz0 hz1 hz2 rfl (by decide) (.slice A2 0 c2) 0 _ rfl o1 (some ⟨wd.heap.size, 0, none⟩) 1 1 [.int .i64 (p : Int)] rfl rfl hsrc ?c2 ?c3 ?c4 ?c5 ?_; (case c2 => (intro u hu; rw [List.mem_singleton] at hu; subst hu; rfl)); (case c3 => (unfold maxLen; simp)); (case c4 => omega); (case c5 => omega); intro v' w11 hown hg hblk; have hEn := O3.out w11 hg; have hOn := hpush.out v' w11 hown; obtain ⟨A9, c9, rfl⟩ := ownsRow_slice hown; have HEn := Lib.hid hEn; have HOn := Lib.hid hOn; clear hEn hOn hsrc o1 hown)
              go_roundw
              case rel => exact ⟨lf, [] ++ [(p, atN l p)], ps ++ [p], _, _, _, by have := Hlf.out; show Value.int .i64 _ = _; congr 1; omega, rfl, by have := Hlf.out; omega, hpn2, hpsn, HOn, HEn, hy⟩
              case measure => first | (simp [intOf]; done) | (simp [intOf]; omega)
              -- >>
            | succ m =>
              -- <<S
              obtain ⟨acc', a, hac⟩ : ∃ acc' a, acc = acc' ++ [a] := by
                rcases List.eq_nil_or_concat acc with h | ⟨x, y, h⟩
                · have h1 := hpn.out
                  rw [hps.out, h] at h1
                  cases h1
                · exact ⟨x, y, by rw [h, List.concat_eq_append]⟩
              obtain ⟨q, y⟩ := a
              subst hac
              have hlast : (acc' ++ [(q, y)]).getLast? = some (q, y) := List.getLast?_concat ..
              obtain ⟨hq, hy0⟩ := Hin.out (q, y) (by simp)
              have hq' : q < l.length := hq
              have hy' : atN l q = y := hy0.symm
              have hm := hpn.out
              have hpq : atN ps m = q := by
                have h1 : ps = acc'.map (·.1) ++ [q] := by rw [hps.out, List.map_append]; rfl
                have h2 : m = (acc'.map (·.1)).length := by
                  have := congrArg List.length h1
                  rw [hm, List.length_append, List.length_singleton] at this
                  omega
                unfold Mended.atN
                rw [h1, List.getElem?_append_right (by omega), h2, Nat.sub_self]; rfl
              obtain ⟨b3, o3, e3, cq⟩ := HO2.out.sl.nat (k := m) (by omega)
              rw [hpq] at cq
              obtain ⟨b4, o4, e4, cy⟩ := Hx'.out.atN hq'
              injection e4 with e4
              injection e4 with e41 e42
              subst e41; subst e42
              rw [hy'] at cy
              subst e3
              have hfe : fitB l (risesF l) left (acc' ++ [(q, y)]).getLast? p = (decide (q < p) && decide (y < atN l p)) := by
                unfold fitB
                rw [Hn.out, hlast]
                simp
              have Hfe := Lib.hid hfe
              obtain ⟨x, hxe⟩ : ∃ x, atN l p = x := ⟨_, rfl⟩
              have Happ2 := happ
              rw [hxe] at cp
              have Hxe := Lib.hid hxe
              have hm7 : m ≤ 6 := by omega
              have i1 : ((m : Int) + 1 - 1).toNat = m := by omega
              have i2 : (0 : Int) ≤ (m : Int) + 1 - 1 := by omega
              have i3 : (m : Int) + 1 - 1 < (m : Int) + 1 := by omega
              have i4 : ((m : Int) + 1 == 0) = false := by rw [beq_eq_false_iff_ne]; omega
              have i5 : (((m + 1 : Nat) : Int) == 0) = false := by rw [beq_eq_false_iff_ne]; omega
              clear hfe hy' hy0 hlast hpq hq hq' hxe hm
              by_cases hqp : q < p
              · have hd1 : decide ((q : Int) < (p : Int)) = true := by simp; omega
                by_cases hyx : y < x
                · have hd2 : decide ((y : Int) < (x : Int)) = true := by simp; omega
                  have hy := Lib.hid (hyes.out (by rw [Hfe.out, Hxe.out, decide_eq_true hqp, decide_eq_true hyx]; rfl))
                  go_wp2_with fail
                  go_quiet (fail)
                  have hdr := Ext.drewN wr nq
                  obtain ⟨o1, o2, o3⟩ := Happ2.out _ hdr
                  have O3 := Lib.hid o3
                  clear hdr o3
                  generalize wr.drewN nq = wd at *
                  have hsrc := Src.one wd (.int .i64 (p : Int)) 3
                  go_wp2_with (at_builtin; refine wpList_app rfl _ _ 28 rfl w1.heap.size 3 ti (.int .i64 0) 1 8 Try.underlying28 hi hz0 hz1 hz2 rfl (by decide) (.slice (some ⟨b3, o3, none⟩) (m + 1) c2) (m + 1) _ rfl o1 (some ⟨wd.heap.size, 0, none⟩) 1 1 [.int .i64 (p : Int)] rfl rfl hsrc ?c2 ?c3 ?c4 ?c5 ?_; (case c2 => (intro u hu; rw [List.mem_singleton] at hu; subst hu; rfl)); (case c3 => (unfold maxLen; omega)); (case c4 => omega); (case c5 => omega); intro v' w11 hown hg hblk; have hEn := O3.out w11 hg; have hOn := hpush.out v' w11 hown; obtain ⟨A9, c9, rfl⟩ := ownsRow_slice hown; have HEn := Lib.hid hEn; have HOn := Lib.hid hOn; clear hEn hOn hsrc o1 hown)
                  go_roundw
                  case rel => exact ⟨lf, (acc' ++ [(q, y)]) ++ [(p, atN l p)], ps ++ [p], _, _, _, by have := Hlf.out; show Value.int .i64 _ = _; congr 1; omega, rfl, by have := Hlf.out; omega, hpn2, hpsn, HOn, HEn, hy⟩
                  case measure => first | (simp [intOf]; done) | (simp [intOf]; omega)
                · have hd2 : decide ((y : Int) < (x : Int)) = false := by simp; omega
                  have hy := Lib.hid (hno.out (by rw [Hfe.out, Hxe.out, decide_eq_false hyx]; simp))
                  go_wp2_with fail
                  go_quiet (fail)
                  go_wp2_with fail
                  go_roundw
                  case rel => exact ⟨p + 1, by omega, by go_num, rfl, hy, Lib.hid (heI.out.trans (Ext.drewN _ _))⟩
                  case measure => simp [intOf]; omega
              · have hd1 : decide ((q : Int) < (p : Int)) = false := by simp; omega
                have hy := Lib.hid (hno.out (by rw [Hfe.out, decide_eq_false hqp]; rfl))
                go_wp2_with fail
                go_quiet (fail)
                go_wp2_with fail
                go_roundw
                case rel => exact ⟨p + 1, by omega, by go_num, rfl, hy, Lib.hid (heI.out.trans (Ext.drewN _ _))⟩
                case measure => simp [intOf]; omega
              -- >>
          · -- <<F
            have hd : ((atN (risesF l) p : Int) == (left : Int)) = false := by
              rw [beq_eq_false_iff_ne]; omega
            have hfit : fitB l (risesF l) left acc.getLast? p = false := by
              unfold fitB
              rw [decide_eq_false hn]; rfl
            have hy := Lib.hid (hno.out hfit)
            obtain ⟨rn, hrn⟩ : ∃ rn, atN (risesF l) p = rn := ⟨_, rfl⟩
            rw [hrn] at cn hd
            clear hfit hn hrn
            go_wp2_with fail
            go_quiet (fail)
            go_wp2_with fail
            go_roundw
            case rel => exact ⟨p + 1, by omega, by go_num, rfl, hy, Lib.hid (heI.out.trans (Ext.drewN _ _))⟩
            case measure => simp [intOf]; omega
            -- >>
        · -- <<E
          obtain rfl : p = l.length := by omega
          have hno : placeF left acc.getLast? 0 l (risesF l) = none := by
            rw [← hpl.out]
            exact Mended.placeF_end
          have hy : acc ++ riseF l (risesF l) lf acc.getLast? = riseL l := by
            rw [← Mended.riseF_none Hlf.out hno]; exact hacc.out
          have Hy := Lib.hid hy
          clear hno hy
          go_wp2_with fail
          go_roundw
          case rel => exact ⟨lf, acc, ps, _, _, _, by have := Hlf.out; show Value.int .i64 _ = _; congr 1; omega, rfl, by have := Hlf.out; omega, hpn, hps, Lib.hid (hO.out.ext heI.out), Lib.hid (hE.out.trans heI.out), Hy⟩
          case measure => first | (simp [intOf]; done) | (simp [intOf]; omega)
          -- >>
end Go.Proofs.Pet
