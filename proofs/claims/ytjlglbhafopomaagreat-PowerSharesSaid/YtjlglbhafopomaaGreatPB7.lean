/-
  The first one of the shortest lists that have what is wished, walked: power's first.
-/
import Derived.Test.YtjlglbhafopomaaGreatPB6
import Derived.Test.YtjlglbhafopomaaGreatB0
import Derived.WalkMore
namespace Go.Proofs.Pet
set_option linter.unusedSimpArgs false
open Go Go.RowKit Go.Maps Go.Shelf
open Go.Proofs.Pow (PM Sh Wv POk Up goR goT)

theorem goT_mono {n : Nat} {p : List Nat → Bool} {r : Nat} {l x : List Nat} {a b : Nat} (hab : a ≤ b) : ∀ d, b + d ≤ n → goT n p r l a b = some x → goT n p r l a (b + d) = some x
  | 0, _, h => h
  | d + 1, hd, h => by
    rw [show b + (d + 1) = (b + d) + 1 by omega, Pow.goT_step n p r l (by omega), goT_mono hab d (by omega) h]
    rfl
theorem ints_length (l : List Nat) : (ints l).length = l.length := by simp [ints]
theorem Src.blk {W : World} {b : Nat} {t : TypeId} {v : Value} (hb : Blk W b t #[v]) : Src W (some ⟨b, 0, none⟩) [v] := .inr ⟨_, rfl, fun j u hj => by
  have e : (⟨b, 0, none⟩ : Addr).add j = ⟨b, j, none⟩ := by rw [addr_add]; simp
  rw [e, hb.cell]
  simpa using hj⟩
theorem SlI.ints {w : World} {A : Option Addr} {n c : Nat} {xs : List Int} (h : SlI w (.slice A n c) xs) : IntsAt w A xs := by
  obtain ⟨A', c', e, _, _, h4⟩ := h
  cases e
  exact h4
/-- the boxes that the search leans on: limit, wish, what is found, how many, the search itself -/
def FBox (W : World) (b mb n many : Nat) (hv : Value) : Prop :=
  Blk W b 3 #[.int .i64 (n : Int)] ∧ Blk W (b + 1) 141 #[hv] ∧ (∃ A k c, Blk W (b + 2) 31 #[.slice A k c]) ∧ Blk W mb 3 #[.int .i64 (many : Int)] ∧
    Blk W (mb + 1) 47 #[.func (.func 165) #[] #[.pointer (some ⟨mb, 0, none⟩), .pointer (some ⟨b + 2, 0, none⟩), .pointer (some ⟨b + 1, 0, none⟩), .pointer (some ⟨b, 0, none⟩), .pointer (some ⟨mb + 1, 0, none⟩)]]
theorem FBox.ext {W W' : World} {b mb n many : Nat} {hv : Value} (h : FBox W b mb n many hv) (he : Ext W W') : FBox W' b mb n many hv := by
  obtain ⟨h1, h2, ⟨A, k, c, h3⟩, h4, h5⟩ := h
  exact ⟨h1.ext he, h2.ext he, ⟨A, k, c, h3.ext he⟩, h4.ext he, h5.ext he⟩
theorem FBox.set_ {W : World} {b mb n many : Nat} {hv : Value} (h : FBox W b mb n many hv) (hb : b + 2 < mb) (A : Option Addr) (k c : Nat) : FBox (W.setCell ⟨b + 2, 0, none⟩ (.slice A k c)) b mb n many hv ∧ (W.setCell ⟨b + 2, 0, none⟩ (.slice A k c)).cell? ⟨b + 2, 0, none⟩ = some (.slice A k c) := by
  obtain ⟨h1, h2, ⟨A', k', c', h3⟩, h4, h5⟩ := h
  have h6 : Blk (W.setCell ⟨b + 2, 0, none⟩ (.slice A k c)) (b + 2) 31 #[.slice A k c] := by simpa using h3.set_ 0 (.slice A k c)
  exact ⟨⟨h1.far (by show b ≠ b + 2; omega) _, h2.far (by show b + 1 ≠ b + 2; omega) _, ⟨A, k, c, h6⟩, h4.far (by show mb ≠ b + 2; omega) _, h5.far (by show mb + 1 ≠ b + 2; omega) _⟩, h6.c1⟩
/-- what a call of the search does -/
def MoreAt (n : Nat) (p : List Nat → Bool) (b mb many : Nat) (hv : Value) (r : Nat) (l : List Nat) (a : Nat) (W : World) (e : Ending) (W' : World) : Prop :=
  e = .returned (.bool (goR n p r l a).isSome) ∧ Apart (b + 2) W W' ∧ FBox W' b mb n many hv ∧ ∀ x, goR n p r l a = some x → ∃ u, W'.cell? ⟨b + 2, 0, none⟩ = some u ∧ OwnI W' (b + 3) 3 u (ints x)

set_option maxRecDepth 20000 in
set_option maxHeartbeats 1000000 in
theorem more_any (n many g b mb : Nat) (fs lb : Array Value) (p : List Nat → Bool) (hn : n ≤ 9) (hmn : many ≤ n) (hb : b + 2 < mb) (w0 : World) (hw0 : w0.heap.size ≤ b) (eg : Enters Tryz.prog g)
    (hp : ∀ l, Up n 0 l → Tells Tryz.prog w0 g fs lb (fun W v l => SlI W v (ints l)) l (p l)) : ∀ (r : Nat) (l : List Nat) (a : Nat) (W : World) (v : Value), l.length + r = many → Up n 0 l → (∀ x ∈ l, x < a) → a ≤ n →
      FBox W b mb n many (.func (.func g) fs lb) → Ext w0 W → OwnI W (b + 3) 3 v (ints l) →
      Calls Tryz.prog 165 #[v, .int .i64 (a : Int), .pointer (some ⟨mb, 0, none⟩), .pointer (some ⟨b + 2, 0, none⟩), .pointer (some ⟨b + 1, 0, none⟩), .pointer (some ⟨b, 0, none⟩), .pointer (some ⟨mb + 1, 0, none⟩)] W (MoreAt n p b mb many (.func (.func g) fs lb) r l a W) := by
  intro r
  induction r with
  | zero =>
    intro l a W v hlr hup _ ha hF he hO
    obtain ⟨f1, f2, ⟨A3, k3, c3, f3⟩, f4, f5⟩ := id hF
    obtain ⟨A, c, rfl, r1, r2, r3, r4, r5⟩ := hO.open_
    have HF := Lib.hid hF; have HO := Lib.hid hO
    have hset := hF.set_ hb A (ints l).length c
    have hap := (Apart.refl (b + 2) W).set_ 0 (.slice A (ints l).length c)
    have hO1 := hO.apartB (by omega) hap
    have he1 := hap.ext_of he (by omega)
    have hcall := Lib.hid (hp l hup _ _ he1 hO1.sl)
    have Hset := Lib.hid hset
    have hq : goR n p 0 l a = if p l then some l else none := Pow.goR_zero n p l a
    have Hq := Lib.hid hq
    have g1 := f3.frozen 0
    have e0 := f4.c1; have e1 := f3.c1
    have e2 := (f2.far (p := ⟨b + 2, 0, none⟩) (by show b + 1 ≠ b + 2; omega) (.slice A (ints l).length c)).c1
    have hlm : ((ints l).length : Int) = (many : Int) := by rw [ints_length]; omega
    have hlen : (((ints l).length : Int) == (many : Int)) = true := by simpa using hlm
    have eg' := eg
    unfold Enters at eg'
    clear hset f1 f2 f3 f4 f5 r3 r4 r5 hO hF hq hlm
    go_enter Tryz.func165, Tryz.ntmps165
    go_wp2_with fail
    refine hcall.out.mono ?_
    rintro e w2 ⟨rfl, he2⟩
    go_wp2_with fail
    go_ret
    refine ⟨?_, hap.trans (Apart.of_ext he2), Hset.out.1.ext he2, fun x hx => ⟨_, he2.cell Hset.out.2, ?_⟩⟩
    · rw [Hq.out]; cases p l <;> rfl
    · rw [Hq.out] at hx
      cases hpl : p l with
      | false => rw [hpl] at hx; cases hx
      | true =>
        rw [hpl] at hx
        cases hx
        exact hO1.ext he2
  | succ r ih =>
    intro l a W v hlr hup hla ha hF he hO
    obtain ⟨ti, hi, hz0, hz1, hz2⟩ := info_parts info_int
    have eg' : Enters Tryz.prog 165 := enters_of Tryz.func165 (by kernel_rfl) rfl
    unfold Enters at eg'
    have Hih := Lib.hid ih; have HO := Lib.hid hO; have HE := Lib.hid he; have Hup := Lib.hid hup; have Hla := Lib.hid hla
    have Hq := Lib.hid (Pow.goR_succ n p r l a)
    obtain ⟨A, c, rfl, r1, r2, r3, r4, r5⟩ := hO.open_
    have hlen : (((ints l).length : Int) == (many : Int)) = false := by
      have : ¬ ((ints l).length : Int) = (many : Int) := by rw [ints_length]; omega
      simpa using this
    have hl9 : (ints l).length ≤ 9 := by rw [ints_length]; omega
    have f4 := hF.2.2.2.1.c1
    clear ih r3 r4 r5 hO he hup hla hp
    go_enter Tryz.func165, Tryz.ntmps165
    go_wp2_with fail
    clear f4
    go_loopw [10] (fun i wr => ∃ k : Nat, a ≤ k ∧ k ≤ n ∧ i = .int .i64 (k : Int) ∧ Hid (goT n p r l a k = none) ∧ FBox wr b mb n many (.func (.func g) fs lb) ∧ Apart (b + 2) W wr) (fun i _ => n - (intOf i).toNat)
    case atStart => exact ⟨a, Nat.le_refl _, ha, rfl, Pow.goT_start n p r l a, hF, Apart.refl _ _⟩
    case round =>
      clear hF
      obtain ⟨k, hak, hkn, rfl, hno, hF, hap⟩ := hrel
      have f1 := hF.1.c1
      by_cases hlt : k < n
      · have f5 := hF.2.2.2.2.c1
        have hOr := HO.out.apartB (by omega) hap
        have HF := Lib.hid hF
        have hcl := Lib.hid fun W1 (hW1 : Ext wr W1) => cloneI A c (ints l) W1 (by omega) (hOr.ext hW1).sl.ints
        have hszF : mb + 1 < wr.heap.size := hF.2.2.2.2.lt
        clear hF
        go_upto_region 7 with fail
        refine wp_region_tree 8 [(2, true), (4, true), (5, true)] [] (by kernel_rfl) (by kernel_rfl) (by kernel_rfl) (ds := [0, 1, 3, 6, 7]) (by kernel_rfl) ?_
        simp only [List.take, List.drop, fill, Act.put, List.setIfInBounds_toArray, List.set_cons_zero, List.set_cons_succ, Nat.reduceAdd]
        repeat (first
          | (apply Unlock.float rfl
             · intro x W he hd K Qr hK
               try (have he := he (by decide); have f5 := he.cell f5)
               try simp only [edges, DepsE, List.filter_cons, List.filter_nil, Region.binds, if_true, and_true, true_and, upd, Nat.reduceEqDiff, if_false] at hd
               try simp only [hd] at hK ⊢
               have HK := Lib.hid hK; clear hK
               go_wp2_with fail
               exact HK.out))
        refine Unlock.nil ?_
        intro W he hG
        refine Tree.cut (f' := 1) (rem' := [(5, true)]) (fun y y' W6 => ∃ (cv : Value) (vb vc : Nat), y' = upd (upd y 2 cv) 4 (.slice (some ⟨vb, 0, none⟩) 1 vc) ∧ Ext wr W6 ∧ OwnI W6 wr.heap.size 3 cv (ints l) ∧ Blk W6 vb 3 #[.int .i64 (k : Int)]) ?_ ?_
        · rintro y' W6 ⟨cv, vb, vc, rfl, he6, hO6, hb6⟩
          clear hG he
          refine Tree.next (ks := [(5, true)]) (by kernel_rfl) ?_
          refine TSteps.cons _ rfl ?_ trivial
          intro x hd K Qr hK
          try simp only [edges, DepsE, List.filter_cons, List.filter_nil, Region.binds, if_true, and_true, true_and, upd, Nat.reduceEqDiff, if_false] at hd
          try simp only [hd] at hK ⊢
          clear hd
          have HK := Lib.hid hK; clear hK
          have hsrc := Src.blk hb6
          have hsz6 := he6.size
          have Hw : Hid (∀ v' w', w'.ownsRow wr.heap.size 3 1 v' ((ints l).length + 1) ((ints l).map (Value.int .i64) ++ [.int .i64 (k : Int)]) → W6.grownBy w' cv.ownBlock → OwnI w' (b + 3) 3 v' (ints (l ++ [k])) ∧ Ext wr w') := by
            intro v' w' hown hg
            refine ⟨?_, Below.grown he6 hg he6.size fun j hj => (hO6.own_lt j hj).1⟩
            have : OwnI w' wr.heap.size 3 v' (ints (l ++ [k])) := by unfold OwnI; rw [ints_append, List.length_append, List.map_append]; exact hown
            exact this.mono (by omega)
          obtain ⟨A6, c6, rfl, -, -, -, -, -⟩ := hO6.open_
          go_wp2_with (at_builtin; refine wpList_app rfl _ _ 31 rfl wr.heap.size 3 ti (.int .i64 0) 1 8 Tryz.underlying31 hi hz0 hz1 hz2 rfl (by decide) (.slice A6 (ints l).length c6) (ints l).length _ rfl hO6 (some ⟨vb, 0, none⟩) 1 vc [.int .i64 (k : Int)] rfl rfl hsrc ?c2 ?c3 ?c4 ?c5 ?_; (case c2 => (intro u hu; rw [List.mem_singleton] at hu; subst hu; rfl)); (case c3 => (unfold maxLen; omega)); (case c4 => omega); (case c5 => omega); intro v' w7 hown hg hblk; have HO7 := Lib.hid (Hw.out v' w7 hown hg); clear hown hg hblk)
          refine HK.out _ _ (fun _ => HO7.out.2) ?_
          clear HK
          refine Unlock.of (ds := []) (by kernel_rfl) ?_
          repeat (first
            | (apply Unlock.float rfl
               · intro x W he hd K Qr hK
                 try (have he := he (by decide))
                 try simp only [edges, DepsE, List.filter_cons, List.filter_nil, Region.binds, if_true, and_true, true_and, upd, Nat.reduceEqDiff, if_false] at hd
                 try simp only [hd] at hK ⊢
                 have HK := Lib.hid hK; clear hK
                 go_wp2_with fail
                 exact HK.out))
          refine Unlock.nil ?_
          refine Tree.nil (by kernel_rfl) ?_
          simp only [upd, Nat.reduceEqDiff, if_false, if_true]
          have hap7 := hap.trans (Apart.of_ext HO7.out.2)
          have hup' : Up n 0 (l ++ [k]) := ⟨List.pairwise_append.2 ⟨Hup.out.1, List.pairwise_singleton _ _, fun x hx y hy => by rw [List.mem_singleton] at hy; subst hy; have := Hla.out x hx; omega⟩, fun x hx => by
            rcases List.mem_append.1 hx with h | h
            · exact Hup.out.2 x h
            · rw [List.mem_singleton] at h; subst h; omega⟩
          have hcall := Lib.hid (Hih.out (l ++ [k]) (k + 1) w7 v' (by rw [List.length_append, List.length_singleton]; omega) hup' (fun x hx => by
            rcases List.mem_append.1 hx with h | h
            · have := Hla.out x h; omega
            · rw [List.mem_singleton] at h; omega) (by omega) (HF.out.ext HO7.out.2) (hap7.ext_of HE.out (by omega)) HO7.out.1)
          have hk1 : ((k + 1 : Nat) : Int) = (k : Int) + 1 := by omega
          rw [hk1] at hcall
          have Hst := Lib.hid (Pow.goT_step n p r l hak)
          obtain ⟨q, hq⟩ : ∃ q, (goR n p r (l ++ [k]) (k + 1)).isSome = q := ⟨_, rfl⟩
          have Hq2 := Lib.hid hq
          unfold MoreAt at hcall
          rw [hq] at hcall
          obtain ⟨A7, c7, rfl, -, -, -, -, -⟩ := HO7.out.1.open_
          clear hq hk1
          go_wp2_with fail
          refine hcall.out.mono ?_
          rintro e w8 ⟨rfl, ha8, hF8, hx8⟩
          cases q with
          | true =>
            go_wp2_with fail
            go_ret
            obtain ⟨x, hx⟩ : ∃ x, goR n p r (l ++ [k]) (k + 1) = some x := Option.isSome_iff_exists.1 Hq2.out
            have h1 : goT n p r l a n = some x := by
              have := goT_mono (show a ≤ k + 1 by omega) (n - (k + 1)) (by omega) (show goT n p r l a (k + 1) = some x by rw [Hst.out, hno.out, hx]; rfl)
              rwa [show k + 1 + (n - (k + 1)) = n by omega] at this
            refine ⟨by rw [Hq.out, h1]; rfl, hap7.trans ha8, hF8, fun y hy => ?_⟩
            rw [Hq.out, h1] at hy
            cases hy
            exact hx8 x hx
          | false =>
            go_wp2_with fail
            go_roundw
            case rel =>
              refine ⟨k + 1, by omega, by omega, by go_num, ?_, hF8, hap7.trans ha8⟩
              unfold Hid
              rw [Hst.out, hno.out]
              exact Option.isNone_iff_eq_none.1 (by have := Hq2.out; cases h : goR n p r (l ++ [k]) (k + 1) <;> simp_all)
            case measure => simp [intOf]; omega
        · intro hcut
          have Hcut := Lib.hid hcut
          clear hcut hG
          refine Tree.next (ks := [(2, true), (4, true)]) (by kernel_rfl) ?_
          refine TSteps.cons _ rfl ?_ (TSteps.cons _ rfl ?_ trivial)
          · intro x hd K Qr hK
            try simp only [edges, DepsE, List.filter_cons, List.filter_nil, Region.binds, if_true, and_true, true_and, upd, Nat.reduceEqDiff, if_false] at hd
            try simp only [hd] at hK ⊢
            clear hd
            have HK := Lib.hid hK; clear hK
            go_wp2_with fail
            refine (hcl.out W he).mono ?_
            rintro e W5 ⟨cv, rfl, hO5, he5⟩
            have heA := he.trans he5
            have hszA := he.size
            go_wp2_with fail
            refine HK.out _ _ (fun _ => heA) ?_
            refine Unlock.of (ds := []) (by kernel_rfl) ?_
            repeat (first
              | (apply Unlock.float rfl
                 · intro x W he hd K Qr hK
                   try (have he := he (by decide))
                   try simp only [edges, DepsE, List.filter_cons, List.filter_nil, Region.binds, if_true, and_true, true_and, upd, Nat.reduceEqDiff, if_false] at hd
                   try simp only [hd] at hK ⊢
                   have HK := Lib.hid hK; clear hK
                   go_wp2_with fail
                   exact HK.out))
            refine Unlock.nil ?_
            clear HK
            refine Tree.next (ks := [(4, true)]) (by kernel_rfl) ?_
            refine TSteps.cons _ rfl ?_ trivial
            intro x hd K Qr hK
            try simp only [edges, DepsE, List.filter_cons, List.filter_nil, Region.binds, if_true, and_true, true_and, upd, Nat.reduceEqDiff, if_false] at hd
            try simp only [hd] at hK ⊢
            clear hd
            have HK := Lib.hid hK; clear hK
            go_wp2_with fail
            have hX5 := Ext.alloc W5 (.cells #[.int .i64 (k : Int)] 3)
            refine HK.out _ _ (fun _ => heA.trans hX5) ?_
            refine Unlock.of (ds := []) (by kernel_rfl) ?_
            repeat (first
              | (apply Unlock.float rfl
                 · intro x W he hd K Qr hK
                   try (have he := he (by decide))
                   try simp only [edges, DepsE, List.filter_cons, List.filter_nil, Region.binds, if_true, and_true, true_and, upd, Nat.reduceEqDiff, if_false] at hd
                   try simp only [hd] at hK ⊢
                   have HK := Lib.hid hK; clear hK
                   go_wp2_with fail
                   exact HK.out))
            refine Unlock.nil ?_
            exact Tree.eq (by kernel_rfl) (Hcut.out _ _ ⟨cv, _, _, rfl, heA.trans hX5, (hO5.mono (by omega)).ext hX5, Blk.new _ _ _⟩)
          · intro x hd K Qr hK
            try simp only [edges, DepsE, List.filter_cons, List.filter_nil, Region.binds, if_true, and_true, true_and, upd, Nat.reduceEqDiff, if_false] at hd
            try simp only [hd] at hK ⊢
            clear hd
            have HK := Lib.hid hK; clear hK
            go_wp2_with fail
            have hX5 := Ext.alloc W (.cells #[.int .i64 (k : Int)] 3)
            have hvb := Blk.new W 3 #[.int .i64 (k : Int)]
            have heA := he.trans hX5
            refine HK.out _ _ (fun _ => heA) ?_
            refine Unlock.of (ds := []) (by kernel_rfl) ?_
            repeat (first
              | (apply Unlock.float rfl
                 · intro x W he hd K Qr hK
                   try (have he := he (by decide))
                   try simp only [edges, DepsE, List.filter_cons, List.filter_nil, Region.binds, if_true, and_true, true_and, upd, Nat.reduceEqDiff, if_false] at hd
                   try simp only [hd] at hK ⊢
                   have HK := Lib.hid hK; clear hK
                   go_wp2_with fail
                   exact HK.out))
            refine Unlock.nil ?_
            obtain ⟨vb, hvbe⟩ : ∃ vb, W.heap.size = vb := ⟨_, rfl⟩
            rw [hvbe] at hvb ⊢
            generalize W.alloc _ = W4 at *
            clear HK hX5 hvbe
            refine Tree.next (ks := [(2, true)]) (by kernel_rfl) ?_
            refine TSteps.cons _ rfl ?_ trivial
            intro x hd K Qr hK
            try simp only [edges, DepsE, List.filter_cons, List.filter_nil, Region.binds, if_true, and_true, true_and, upd, Nat.reduceEqDiff, if_false] at hd
            try simp only [hd] at hK ⊢
            clear hd
            have HK := Lib.hid hK; clear hK
            go_wp2_with fail
            refine (hcl.out W4 heA).mono ?_
            rintro e W5 ⟨cv, rfl, hO5, he5⟩
            have hszA := heA.size
            go_wp2_with fail
            refine HK.out _ _ (fun _ => heA.trans he5) ?_
            refine Unlock.of (ds := []) (by kernel_rfl) ?_
            repeat (first
              | (apply Unlock.float rfl
                 · intro x W he hd K Qr hK
                   try (have he := he (by decide))
                   try simp only [edges, DepsE, List.filter_cons, List.filter_nil, Region.binds, if_true, and_true, true_and, upd, Nat.reduceEqDiff, if_false] at hd
                   try simp only [hd] at hK ⊢
                   have HK := Lib.hid hK; clear hK
                   go_wp2_with fail
                   exact HK.out))
            refine Unlock.nil ?_
            exact Tree.eq (by kernel_rfl) (Hcut.out _ _ ⟨cv, vb, _, upd_comm (by decide), heA.trans he5, hO5.mono (by omega), hvb.ext he5⟩)
      · obtain rfl : k = n := by omega
        have hd : decide ((k : Int) < (k : Int)) = false := by simp
        go_wp2_with fail
        go_ret
        refine ⟨?_, hap, hF, fun x hx => ?_⟩
        · rw [Hq.out, hno.out]; rfl
        · rw [Hq.out, hno.out] at hx; cases hx
theorem lenF_mono {n : Nat} {p : List Nat → Bool} {x : List Nat} {c : Nat} (h : Pow.lenF n p c = some x) : ∀ d, Pow.lenF n p (c + d) = some x
  | 0 => h
  | d + 1 => by
    rw [show c + (d + 1) = (c + d) + 1 by omega, Pow.lenF_succ, lenF_mono h d]
    rfl
/-- what the search gives back -/
def Finds (n : Nat) (p : List Nat → Bool) (w : World) (e : Ending) (w' : World) : Prop :=
  ∃ A k c, e = .returned (.tuple #[.slice A k c, .bool (Pow.firstF n p).isSome]) ∧ Ext w w' ∧ ∀ x, Pow.firstF n p = some x → OwnI w' w.heap.size 3 (.slice A k c) (ints x)
set_option maxRecDepth 20000 in
set_option maxHeartbeats 1000000 in
theorem first_any (n g : Nat) (fs lb : Array Value) (p : List Nat → Bool) (hn : n ≤ 9) (w : World) (eg : Enters Tryz.prog g)
    (hp : ∀ l, Up n 0 l → Tells Tryz.prog w g fs lb (fun W v l => SlI W v (ints l)) l (p l)) :
    Calls Tryz.prog 97 #[.int .i64 (n : Int), .agg #[.func (.func g) fs lb]] w (Finds n p w) := by
  have hmf : ∀ (fn : Fn) (first cap : Array Value) (w : World), (Instr.makeFunc fn first cap).run Tryz.prog w = .ok (.func fn first cap) w := fun _ _ _ _ => rfl
  have Hp := Lib.hid hp; clear hp
  have eg' : Enters Tryz.prog 165 := enters_of Tryz.func165 (by kernel_rfl) rfl
  unfold Enters at eg'
  obtain ⟨L, hL⟩ : ∃ L, w.heap.size = L := ⟨_, rfl⟩
  go_enter Tryz.func97, Tryz.ntmps97
  go_wp2_with fail
  go_step3
  go_wp2
  go_step3
  have hX : Ext w (((w.alloc (.cells #[.int .i64 (n : Int)] 3)).alloc (.cells #[.func (.func g) fs lb] 141)).alloc (.cells #[.slice none 0 0] 31)) := ((Ext.alloc _ _).trans (Ext.alloc _ _)).trans (Ext.alloc _ _)
  have b0 := ((Blk.new w 3 #[.int .i64 (n : Int)]).alloc (.cells #[.func (.func g) fs lb] 141)).alloc (.cells #[.slice none 0 0] 31)
  have b1 := (Blk.new (w.alloc (.cells #[.int .i64 (n : Int)] 3)) 141 #[.func (.func g) fs lb]).alloc (.cells #[.slice none 0 0] 31)
  have b2 := Blk.new ((w.alloc (.cells #[.int .i64 (n : Int)] 3)).alloc (.cells #[.func (.func g) fs lb] 141)) 31 #[.slice none 0 0]
  simp only [World.size_alloc, hL] at b0 b1 b2
  have e0 := b0.c1
  go_wp2_with fail
  clear e0
  generalize ((w.alloc _).alloc _).alloc _ = W0 at *
  have HL := Lib.hid hL
  go_loopw [7, 12] (fun q i wr => ∃ c : Nat, c ≤ n + 1 ∧ q = .bool false ∧ i = .int .i64 (c : Int) ∧ Hid (Pow.lenF n p c = none) ∧ Ext w wr ∧ Blk wr L 3 #[.int .i64 (n : Int)] ∧ Blk wr (L + 1) 141 #[.func (.func g) fs lb] ∧ ∃ A k c, Blk wr (L + 1 + 1) 31 #[.slice A k c]) (fun _ i _ => n + 1 - (intOf i).toNat)
  case atStart => exact ⟨0, by omega, rfl, rfl, Pow.lenF_zero n p, hX, b0, b1, _, _, _, b2⟩
  case round =>
    clear hX b0 b1 b2
    obtain ⟨c, hc, rfl, rfl, hno, he, b0, b1, A, k, cp, b2⟩ := hrel
    by_cases hlt : c < n + 1
    · have f0 := b0.c1
      go_wp2_with fail
      have hX : Ext wr ((wr.alloc (.cells #[.int .i64 (c : Int)] 3)).alloc (.cells #[.func (.func 165) #[] #[.pointer (some ⟨wr.heap.size, 0, none⟩), .pointer (some ⟨L + 2, 0, none⟩), .pointer (some ⟨L + 1, 0, none⟩), .pointer (some ⟨L, 0, none⟩), .pointer (some ⟨wr.heap.size + 1, 0, none⟩)]] 47)) := (Ext.alloc _ _).trans (Ext.alloc _ _)
      have b3 := (Blk.new wr 3 #[.int .i64 (c : Int)]).alloc (.cells #[.func (.func 165) #[] #[.pointer (some ⟨wr.heap.size, 0, none⟩), .pointer (some ⟨L + 2, 0, none⟩), .pointer (some ⟨L + 1, 0, none⟩), .pointer (some ⟨L, 0, none⟩), .pointer (some ⟨wr.heap.size + 1, 0, none⟩)]] 47)
      have b4 := Blk.new (wr.alloc (.cells #[.int .i64 (c : Int)] 3)) 47 #[.func (.func 165) #[] #[.pointer (some ⟨wr.heap.size, 0, none⟩), .pointer (some ⟨L + 2, 0, none⟩), .pointer (some ⟨L + 1, 0, none⟩), .pointer (some ⟨L, 0, none⟩), .pointer (some ⟨wr.heap.size + 1, 0, none⟩)]]
      rw [World.size_alloc] at b4
      have hLw : L + 2 < wr.heap.size := b2.lt
      have hFB : FBox _ L wr.heap.size n c (.func (.func g) fs lb) := ⟨b0.ext hX, b1.ext hX, ⟨_, _, _, b2.ext hX⟩, b3, b4⟩
      have hcall := more_any n c g L wr.heap.size fs lb p hn (by omega) hLw w (by omega) eg Hp.out c [] 0 _ (.slice none 0 0) (by simp) ⟨List.Pairwise.nil, fun x hx => by cases hx⟩ (fun x hx => by cases hx) (Nat.zero_le _) hFB (he.trans hX) (OwnI.nil _ _ _)
      have Hsu := Lib.hid (Pow.lenF_succ n p c)
      obtain ⟨q, hq⟩ : ∃ q, (goR n p c [] 0).isSome = q := ⟨_, rfl⟩
      have Hq := Lib.hid hq
      unfold MoreAt at hcall
      rw [hq] at hcall
      have hd : decide ((c : Int) < (n : Int) + 1) = true := by simp; omega
      have HX := Lib.hid (he.trans hX)
      clear hFB b3 b4 b0 b1 b2 f0 hq hX
      refine hcall.mono ?_
      rintro e w8 ⟨rfl, ha8, ⟨f1, f2, ⟨A8, k8, c8, f3⟩, f4, f5⟩, hx8⟩
      have he8 := ha8.ext_of HX.out (by omega)
      cases q with
      | true =>
        obtain ⟨x, hx⟩ : ∃ x, goR n p c [] 0 = some x := Option.isSome_iff_exists.1 Hq.out
        obtain ⟨u, hu, hO⟩ := hx8 x hx
        have hF : Pow.firstF n p = some x := by
          rw [← Pow.lenF_first]
          have := lenF_mono (show Pow.lenF n p (c + 1) = some x by rw [Hsu.out, hno.out, hx]; rfl) (n - c)
          rwa [show c + 1 + (n - c) = n + 1 by omega] at this
        obtain ⟨A9, c9, rfl, -, -, -, -, -⟩ := hO.open_
        have e2 : w8.cell? ⟨L + 1 + 1, 0, none⟩ = _ := hu
        clear f1 f2 f3 f4 f5 hu
        go_wp2_with fail
        rw [Exit.noGoto_ret]
        go_ret2
        exact ⟨A9, _, c9, by rw [hF]; rfl, he8, fun y hy => by rw [hF] at hy; cases hy; exact hO.mono (by omega)⟩
      | false =>
        have hne : goR n p c [] 0 = none := by
          have := Hq.out
          cases h : goR n p c [] 0 <;> simp_all
        go_wp2_with fail
        go_roundw
        case rel => exact ⟨c + 1, by omega, rfl, by go_num, by unfold Hid; rw [Hsu.out, hno.out, hne]; rfl, he8, f1, f2, A8, k8, c8, f3⟩
        case measure => simp [intOf]; omega
    · obtain rfl : c = n + 1 := by omega
      have e2 := b2.c1
      have hd : decide (((n + 1 : Nat) : Int) < (n : Int) + 1) = false := by simp
      go_wp2_with fail
      rw [Exit.noGoto_ret]
      go_ret2
      have hF : Pow.firstF n p = none := by rw [← Pow.lenF_first]; exact hno.out
      exact ⟨A, k, cp, by rw [hF]; rfl, he, fun x hx => by rw [hF] at hx; cases hx⟩
end Go.Proofs.Pet
