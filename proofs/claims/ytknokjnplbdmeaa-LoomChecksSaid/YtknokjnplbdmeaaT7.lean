/-
  LoomLate, walked.
-/
import Derived.Test.YtknokjnplbdmeaaT6
import Derived.Test.YtknokjnplbdmeaaR1
import Derived.Test.YtknokjnplbdmeaaLy
import Derived.Deep.DeepCutAuto
namespace Go.Proofs.Pet
set_option linter.unusedSimpArgs false
open Go Go.RowKit Go.Maps Go.Shelf

theorem less_any (x y : Int) (w : World) : Calls Try.prog 124 #[.int .i64 x, .int .i64 y] w fun e w' => e = .returned (.bool (decide (x < y))) ∧ w = w' :=
  (Try.cmp_Less_int2 x y w).mono fun _ _ ⟨h1, h2⟩ => ⟨h1, h2.symm⟩
set_option maxRecDepth 20000 in
set_option maxHeartbeats 1000000 in
theorem isSorted_any (A : Option Addr) (c : Nat) (xs : List Int) (hs : xs.Pairwise (· ≤ ·)) (w : World) (hl : xs.length ≤ 1000) (hx : IntsAt w A xs) :
    Calls Try.prog 66 #[.slice A xs.length c] w fun e w' => e = .returned (.bool true) ∧ Ext w w' := by
  have Hs : Hid (∀ k, k + 1 < xs.length → ¬ (xs[k + 1]?.getD 0 < xs[k]?.getD 0)) := fun k hk => by
    rw [List.pairwise_iff_getElem] at hs
    have := hs k (k + 1) (by omega) hk (by omega)
    simp only [List.getElem?_eq_getElem hk, List.getElem?_eq_getElem (show k < xs.length by omega), Option.getD_some]
    omega
  have Hx := Lib.hid hx
  clear hs hx
  go_enter Try.func66, Try.ntmps66
  go_wp2_with fail
  go_loopw [3] (fun iv wr => ∃ i : Int, i < xs.length ∧ -1 ≤ i ∧ iv = .int .i64 i ∧ Ext w wr) (fun iv _ => (intOf iv + 1).toNat)
  case atStart => exact ⟨_, by omega, by omega, rfl, Ext.refl _⟩
  case round =>
    obtain ⟨i, h1, h2, rfl, he⟩ := hrel
    by_cases hlt : 0 < i
    · obtain ⟨k, rfl⟩ : ∃ k : Nat, i = (k : Int) + 1 := ⟨(i - 1).toNat, by omega⟩
      obtain ⟨b, o, rfl, q1⟩ := Hx.out k (by omega)
      obtain ⟨b', o', e, q2⟩ := Hx.out (k + 1) (by omega)
      simp only [Option.some.injEq, Addr.mk.injEq, and_true] at e
      obtain ⟨rfl, rfl⟩ := e
      have hno := Hs.out k (by omega)
      have q1 := he.cell q1; have q2 := he.cell q2
      generalize xs[k]?.getD 0 = x at *
      generalize xs[k + 1]?.getD 0 = y at *
      have hd : decide (y < x) = false := by simpa using hno
      have hk1 : ((k : Int) + 1 - 1) = k := by omega
      clear hno
      have hle := Lib.hid (less_any y x)
      have heo := Lib.hid he
      clear he
      go_wp2_with fail
      refine wp_region_chain 9 [] [] (by kernel_rfl) (by kernel_rfl) (by kernel_rfl) ?_
      simp only [List.take, List.drop, fill, Act.put, List.setIfInBounds_toArray, List.set_cons_zero, List.set_cons_succ, Nat.reduceAdd]
      repeat (first
        | refine Floats.mut rfl ?_
        | (apply Floats.float rfl
           · intro x W he hd K Q hK
             try (have he := he (by decide); have q1 := he.cell q1; have q2 := he.cell q2)
             try simp only [edges, DepsE, List.filter_cons, List.filter_nil, Region.binds, if_true, and_true, true_and, upd, Nat.reduceEqDiff, if_false] at hd
             try simp only [hd] at hK ⊢
             have HK := Lib.hid hK; clear hK
             go_wp2_with fail
             exact HK.out))
      refine Floats.done fun W he hG => ?_
      refine Chain.nil ?_
      simp only [upd, Nat.reduceEqDiff, if_false, if_true]
      have hE := heo.out.trans he
      clear he hG q1 q2
      go_wp2_with fail
      refine (hle.out W).mono ?_
      rintro e w' ⟨rfl, rfl⟩
      clear hle
      go_wp2_with fail
      go_roundw
      case rel => exact ⟨k, by omega, by omega, by go_num, hE⟩
      case measure => simp [intOf]; omega
    · have hd : decide (0 < i) = false := decide_eq_false hlt
      go_wp2_with fail
      go_ret
      exact ⟨rfl, he⟩
theorem SpoolAt.typ {w : World} {b k : Nat} (h : SpoolAt w b k) : ∃ cs, Blk w b 147 cs := by
  obtain ⟨A, n, c, st, a, h1, _⟩ := h
  exact ⟨_, h1⟩
theorem MillVal.ofOB {w : World} {base : Nat} {a b : Value} {m : Mill} (hl : OwnI w base 3 a m.laced) (hs : OwnOB w base b m.orders) : MillVal w (.agg #[a, .int .i64 m.change, b]) m := by
  obtain ⟨A1, c1, rfl, g1, g2, g3, _⟩ := hl.open_
  obtain ⟨A2, c2, rfl, h1, h2, h3⟩ := hs.ords
  exact ⟨A1, c1, A2, c2, rfl, g1, g2, h1, h2, g3, h3⟩
theorem before_cases {a b : List Int} : (b.length < a.length ∨ (a.length = b.length ∧ aheadB a b = false)) ∨ beforeB a b = true := by
  unfold beforeB
  rcases Nat.lt_trichotomy a.length b.length with h | h | h
  · right; rw [if_neg (by omega)]; simpa using h
  · cases e : aheadB a b with
    | false => exact .inl (.inr ⟨h, rfl⟩)
    | true => right; rw [if_pos h]
  · exact .inl (.inl h)
set_option maxRecDepth 100000 in
set_option maxHeartbeats 4000000 in
theorem loomLate_any (v v2 : Value) (w : World) (hv : BytesIn w v) (hv2 : BytesIn w v2) :
    Calls Try.prog 14 #[v, v2] w fun e w' => e = .returned (.bool true) ∧ Ext w w' := by
  obtain ⟨ti, hi, hz0, hz1, hz2⟩ := info_parts info_int
  have hwo := Lib.hid (wound_any v w hv)
  have Hv := Lib.hid hv; clear hv
  have Hv2 := Lib.hid hv2; clear hv2
  go_enter Try.func14, Try.ntmps14
  go_wp2_with fail
  refine hwo.out.mono ?_
  rintro e w1 ⟨rfl, hs1, he1⟩
  clear hwo
  have hma := Lib.hid (madeS_any w.heap.size 0 (by omega) 3 7 (by omega) (by omega) w1 hs1)
  go_wp2_with fail
  refine hma.out.mono ?_
  rintro e w2 ⟨mv, m, rfl, hm, hok, hlm, hom, _, hap⟩
  have hE := Apart.ext_of he1 (Nat.le_refl _) hap
  clear hma hs1 he1 hap hlm hom
  have hwo := Lib.hid (wound_any v2 w2 (Hv2.out.ext hE))
  go_wp2_with fail
  refine hwo.out.mono ?_
  rintro e w3 ⟨rfl, hs3, he3⟩
  clear hwo
  obtain ⟨Q, hQ⟩ : ∃ Q, w2.heap.size = Q := ⟨_, rfl⟩
  rw [hQ] at hs3 ⊢
  have hMg : w2.heap.size ≤ Q := by omega
  clear hQ
  have Hm := Lib.hid (hm.ext he3)
  have Hm0 := Lib.hid hm
  obtain ⟨A1, c1, A2, c2, rfl, q1, q2, q3, q4, _, _⟩ := hm
  have hM := Blk.new w3 25 #[.slice A1 m.laced.length c1, .int .i64 m.change, .slice A2 m.orders.length c2]
  have hX := Ext.alloc w3 (.cells #[.slice A1 m.laced.length c1, .int .i64 m.change, .slice A2 m.orders.length c2] 25)
  have hE2 := he3.trans hX
  have hs4 := hs3.ext hX
  have hmv := Lib.hid (Hm.out.ext hX)
  have hch := (check_iff m).2 hok
  have l3 := hok.few
  have Hok := Lib.hid hok; have Hch := Lib.hid hch
  clear Hm hs3 he3 hch hok q1 q2 q3 q4
  obtain ⟨k0, k1, k2⟩ := hM.c3
  have hlt := Lib.hid (late_own _ m Hch.out _ hmv.out)
  go_wp2_with fail
  obtain ⟨M, hMe⟩ : ∃ M, w3.heap.size = M := ⟨_, rfl⟩
  rw [hMe] at hM ⊢
  generalize w3.alloc _ = W4 at *
  clear hMe hX k0 k1 k2
  refine hlt.out.mono ?_
  rintro e w5 ⟨rx, rfl, hrx, he5⟩
  have hrx := hrx.mono hE2.size
  have hrx : OwnI w5 w2.heap.size 3 rx (lateL m) := hrx
  obtain ⟨Ax, cx, rfl, x1, x2, x3, _, _⟩ := hrx.open_
  obtain ⟨off, o1, o2, o3, o4, o5⟩ := late_law Hok.out
  have hsrt : (lateL m).Pairwise (· ≤ ·) := by rw [o2]; exact bits_sorted _ _
  have hlist : listedE m (lateL m) = 0 := by rw [o2]; exact bits_listed _ _
  have O3 := Lib.hid o3; have O5 := Lib.hid o5; have O4 := Lib.hid o4
  have hll : (lateL m).length ≤ 7 := by omega
  have hM := hM.ext he5; have hs5 := hs4.ext he5; have hmv := Lib.hid (hmv.out.ext he5); have hE2 := hE2.trans he5
  have Hrx := Lib.hid hrx; have X3 := Lib.hid x3
  have hso := Lib.hid (isSorted_any Ax cx (lateL m) hsrt w5 (by omega) x3)
  have Hlist := Lib.hid hlist
  clear hlt he5 hs4 hrx x3 o1 o2 o3 o4 o5 hsrt hlist
  go_wp2_with fail
  refine hso.out.mono ?_
  rintro e w6 ⟨rfl, he6⟩
  have hM := hM.ext he6; have hs6 := hs5.ext he6; have hmv := Lib.hid (hmv.out.ext he6); have hE2 := hE2.trans he6
  have Hrx := Lib.hid (Hrx.out.ext he6); have X3 := Lib.hid (X3.out.ext he6)
  clear hso he6 hs5
  have hwi := Lib.hid (without_ok _ m Hok.out Ax cx (lateL m) Hlist.out w6 hmv.out x1 x2 X3.out)
  obtain ⟨k0, k1, k2⟩ := hM.c3
  go_wp2_with fail
  refine hwi.out.mono ?_
  rintro e w7 ⟨ua, ub, rfl, hua, hub, he7⟩
  have huv := Lib.hid (MillVal.ofOB (m := m.without (lateL m)) hua hub)
  obtain ⟨Aa, ca, rfl, _, _, _, _, _⟩ := hua.open_
  obtain ⟨Ab, cb, rfl, _, _, _⟩ := hub.ords
  have hM := hM.ext he7; have hs7 := hs6.ext he7; have hmv := Lib.hid (hmv.out.ext he7); have hE2 := hE2.trans he7
  have Hrx := Lib.hid (Hrx.out.ext he7)
  clear hwi he7 hs6 k0 k1 k2 hua hub X3
  obtain ⟨u, hu⟩ : ∃ u, m.without (lateL m) = u := ⟨_, rfl⟩
  obtain ⟨UL, hUL⟩ : ∃ UL, (withoutL m (lateL m) m.orders.length).length = UL := ⟨_, rfl⟩
  have hul : u.orders.length = UL := by rw [← hu]; exact hUL
  have hull : u.laced.length = m.laced.length := by rw [← hu]; rfl
  have hulc : u.change = m.change := by rw [← hu]; rfl
  have hUn : UL + (lateL m).length = m.orders.length := by rw [← hul, ← hu]; exact O4.out
  have huok := Lib.hid ((check_iff u).2 (by rw [← hu]; exact without_mok Hok.out _))
  have hup : Hid (planF u ≠ none) := by rw [← hu]; exact O3.out
  have huv : Hid (MillVal w7 (.agg #[.slice Aa m.laced.length ca, .int .i64 m.change, .slice Ab UL cb]) u) := by
    rw [← hu, ← hUL]; exact huv.out
  rw [hUL]
  have hU := Blk.new w7 25 #[.slice Aa m.laced.length ca, .int .i64 m.change, .slice Ab UL cb]
  have hX := Ext.alloc w7 (.cells #[.slice Aa m.laced.length ca, .int .i64 m.change, .slice Ab UL cb] 25)
  have hM := hM.ext hX; have hs8 := hs7.ext hX; have hmv := Lib.hid (hmv.out.ext hX); have hE2 := hE2.trans hX
  have Hrx := Lib.hid (Hrx.out.ext hX)
  have huv := Lib.hid (huv.out.ext hX)
  have hpu := Lib.hid (plan_ok _ u huok.out _ huv.out)
  have Hul := Lib.hid hul; have Hull := Lib.hid hull
  clear hu hUL hs7 O3 O4 hul hull hulc
  obtain ⟨k0, k1, k2⟩ := hU.c3
  go_wp2_with fail
  obtain ⟨U, hUe⟩ : ∃ U, w7.heap.size = U := ⟨_, rfl⟩
  rw [hUe] at hU ⊢
  generalize w7.alloc _ = W8 at *
  clear hUe hX k0 k1 k2
  refine hpu.out.mono ?_
  rintro e w9 (⟨hun, rfl, he9⟩ | ⟨rows, rv, hus, rfl, hrows, he9⟩)
  · exact absurd hun hup.out
  have hpo := Lib.hid (plan_law huok.out hus)
  have hrows := Lib.hid hrows
  have hM := hM.ext he9; have hs9 := hs8.ext he9; have hmv := Lib.hid (hmv.out.ext he9); have hE2 := hE2.trans he9
  have Hrx := Lib.hid (Hrx.out.ext he9)
  have huv := Lib.hid (huv.out.ext he9); have hU := hU.ext he9
  have hkp := Lib.hid (kept_any _ rv u huok.out rows (by rw [hpo.out.all, Hul.out]; omega) (by rw [hpo.out.len]; have := (check_len huok.out).2.1; omega) true true (by have := hpo.out.kept; unfold keptQ at this; exact (Bool.and_eq_true _ _ ▸ this).1) hpo.out.kept w9 huv.out hrows.out)
  have hck : ((UL : Int) != (m.orders.length : Int) - ((lateL m).length : Int)) = false := by simp; omega
  clear hpu he9 hs8 hus hup
  obtain ⟨k0, k1, k2⟩ := hM.c3
  obtain ⟨u0, u1, u2⟩ := hU.c3
  go_wp2_with fail
  refine hkp.out.mono ?_
  rintro e w10 ⟨rfl, he10⟩
  have hM := hM.ext he10; have hs10 := hs9.ext he10; have hE2 := hE2.trans he10; have hmv := Lib.hid (hmv.out.ext he10)
  have Hrx := Lib.hid (Hrx.out.ext he10)
  clear hkp he10 hs9 k0 k1 k2 u0 u1 u2 huv hU hrows hpo hck Hul Hull huok hUn
  have hMQ : M ≠ Q := by
    obtain ⟨cs, hcs⟩ := hs10.typ
    exact Blk.ne_ hM hcs (by decide)
  have hap0 := Lib.hid hs10
  obtain ⟨LL, hLL⟩ : ∃ LL, lateL m = LL := ⟨_, rfl⟩
  have HO5 : Hid (∀ s, s < 2 ^ m.orders.length → beforeB (intsOf (bits m.orders.length s)) LL = true → planF (m.without (intsOf (bits m.orders.length s))) = none) := by rw [← hLL]; exact O5.out
  rw [hLL] at Hrx hll
  simp only [hLL]
  clear hLL O5
  go_wp2_with fail
  go_loopw [14, 15, 16, 17, 18, 19, 74] (fun _ _ _ _ _ _ iv wr => ∃ i : Nat, i ≤ 8 ∧ iv = .int .i64 i ∧ Apart Q w10 wr ∧ SpoolAt wr Q (7 * i)) (fun _ _ _ _ _ _ iv _ => 8 - (intOf iv).toNat)
  case atStart => exact ⟨0, by omega, rfl, Apart.refl _ _, hs10⟩
  case round =>
    clear hs10
    obtain ⟨i, hi8, rfl, hap, hsp⟩ := hrel
    by_cases hlt8 : i < 8
    · obtain ⟨wo, rfl⟩ : ∃ wo : World, wo = wr := ⟨_, rfl⟩
      have hMo := hM.apart hMQ hap
      have hd8 : decide ((i : Int) < 8) = true := decide_eq_true (by omega)
      obtain ⟨k0, k1, k2⟩ := hMo.c3
      go_wp2_with fail
      go_loopw [14, 15, 79] (fun lv _ jv wr => ∃ (l : Value) (j s : Nat), l = lv ∧ j ≤ m.orders.length ∧ jv = .int .i64 j ∧ Hid (s < 2 ^ j) ∧ Apart Q wo wr ∧ SpoolAt wr Q (7 * i + j) ∧ Hid (OwnI wr wo.heap.size 3 l (intsOf (bits j s)))) (fun _ _ jv _ => m.orders.length - (intOf jv).toNat)
      case atStart => exact ⟨_, 0, 0, rfl, by omega, rfl, by unfold Hid; omega, Apart.refl _ _, hsp, OwnI.nil _ _ _⟩
      case round =>
        have hQlt := hsp.lt
        clear hsp
        obtain ⟨l, j, s, rfl, hj, rfl, hsj, hapj, hspj, hl⟩ := hrel
        have hszj := hapj.size
        by_cases hltj : j < m.orders.length
        · have hon := Lib.hid (once_any Q (7 * i + j) (by omega) 2 (by omega) wr hspj)
          go_wp2_with fail
          refine hon.out.mono ?_
          rintro e w12 ⟨q, rfl, hs12, hap12⟩
          have hl12 : Hid (OwnI w12 wo.heap.size 3 l (intsOf (bits j s))) := by
            obtain ⟨cs, hcs⟩ := hspj.typ
            exact hl.out.apart (fun e => hl.out.ne_blk hcs (by decide) e.symm) hap12
          have hapj2 := hapj.trans hap12
          clear hon hl hap12 hspj hapj
          cases q with
          | false =>
            go_wp2_with fail
            go_roundw
            case rel => exact ⟨l, j + 1, s, rfl, by omega, by go_num, by have := hsj.out; unfold Hid; rw [Nat.pow_succ]; omega, hapj2, by rw [← Nat.add_assoc]; exact hs12, by rw [bits_keep hsj.out]; exact hl12⟩
            case measure => simp [intOf]; omega
          | true =>
            obtain ⟨A5, c5, rfl, r1, r2, r3, r4, r5⟩ := hl12.out.open_
            have hX5 := Ext.alloc w12 (.cells #[.int .i64 j] 3)
            have hlX := hl12.out.ext hX5
            have hsrc := Src.one w12 (.int .i64 j) 3
            have hbl := bits_len j s
            have hil : (intsOf (bits j s)).length = (bits j s).length := by simp [intsOf]
            obtain ⟨L, hL⟩ : ∃ L, (intsOf (bits j s)).length = L := ⟨_, rfl⟩
            have hszw := (hapj2.trans (Apart.of_ext hX5)).size
            have hApp : ∀ v' w14, w14.ownsRow wo.heap.size 3 1 v' (L + 1) ((intsOf (bits j s)).map (Value.int .i64) ++ [.int .i64 (j : Int)]) → (w12.alloc (.cells #[.int .i64 j] 3)).grownBy w14 (Value.slice A5 L c5).ownBlock →
                Apart Q wo w14 ∧ SpoolAt w14 Q (7 * i + j + 1) ∧ Hid (OwnI w14 wo.heap.size 3 v' (intsOf (bits (j + 1) (2 ^ j + s)))) := by
              intro v' w14 hown hg
              rw [← hL] at hg hown
              have hge := fun g hg' => (hl12.out.own_lt g hg').1
              refine ⟨(hapj2.trans (Apart.of_ext hX5)).grown hg (fun g hg' => hge g hg'), (hs12.ext hX5).grown hg (fun g hg' => by have := hge g hg'; omega), ?_⟩
              · rw [bits_plus hsj.out]
                unfold Hid OwnI
                have e : intsOf (bits j s ++ [j]) = intsOf (bits j s) ++ [(j : Int)] := by unfold intsOf; simp
                rw [e, List.length_append, List.map_append]
                exact hown
            have HApp := Lib.hid hApp
            have hrow : (w12.alloc (.cells #[.int .i64 j] 3)).ownsRow wo.heap.size 3 1 (.slice A5 L c5) L ((intsOf (bits j s)).map (Value.int .i64)) := by
              have := hlX
              unfold OwnI at this
              rwa [hL] at this
            rw [hL] at hil
            rw [hL]
            have hLb : L ≤ 7 := by omega
            clear hil hbl
            clear hApp r3 r4 r5 hl12 hL hlX
            go_wp2_with (at_builtin; refine wpList_app rfl _ _ 22 rfl wo.heap.size 3 ti (.int .i64 0) 1 8 Try.underlying22 hi hz0 hz1 hz2 rfl (by decide) (.slice A5 L c5) L _ rfl hrow (some ⟨w12.heap.size, 0, none⟩) 1 1 [.int .i64 j] rfl rfl hsrc ?c2 ?c3 ?c4 ?c5 ?_; (case c2 => (intro u hu; rw [List.mem_singleton] at hu; subst hu; rfl)); (case c3 => (unfold maxLen; omega)); (case c4 => omega); (case c5 => omega); intro v' w14 hown hg hblk; obtain ⟨n1, n2, n3⟩ := HApp.out v' w14 hown hg; clear hsrc)
            go_roundw
            case rel => exact ⟨_, j + 1, 2 ^ j + s, rfl, by omega, by go_num, by have := hsj.out; unfold Hid; rw [Nat.pow_succ]; omega, n1, by rw [← Nat.add_assoc]; exact n2, n3⟩
            case measure => simp [intOf]; omega
        · have hje : j = m.orders.length := by omega
          subst hje
          obtain ⟨ol, hol⟩ : ∃ ol, intsOf (bits m.orders.length s) = ol := ⟨_, rfl⟩
          have hbl := bits_len m.orders.length s
          have hil : (intsOf (bits m.orders.length s)).length = (bits m.orders.length s).length := by simp [intsOf]
          have hlo := bits_listed m s
          have hlaw := HO5.out s hsj.out
          have hl0 := hl.out
          rw [hol] at hlo hlaw hl0 hil
          have hoL : ol.length ≤ 7 := by omega
          have hapf := hap.trans hapj
          have hEj := Apart.ext_of hE2 hMg hapf
          have hmvj := Lib.hid (Hm0.out.ext hEj)
          have hspf : SpoolAt wr Q (7 * (i + 1)) := hspj.mono (by omega)
          have hrxj : OwnI wr w2.heap.size 3 (.slice Ax LL.length cx) LL := by
            obtain ⟨cs, hcs⟩ := hspf.typ
            refine Hrx.out.apart (fun e => ?_) hapf
            have h1 := hap0.out
            obtain ⟨cs, hcs⟩ := h1.typ
            exact Hrx.out.ne_blk hcs (by decide) e.symm
          obtain ⟨AL, cL, rfl, p1, p2, p3, _, _⟩ := hl0.open_
          obtain ⟨Ax', cx', ex, _, _, x3, _, _⟩ := hrxj.open_
          simp only [Value.slice.injEq, true_and] at ex
          obtain ⟨rfl, rfl⟩ := ex
          obtain ⟨q, hq⟩ : ∃ q, aheadB ol LL = q := ⟨_, rfl⟩
          have hcm := Lib.hid (compare_any AL Ax cL cx ol LL q hq wr (by unfold maxLen; omega) p3 x3)
          have hwi := Lib.hid (without_ok _ m Hok.out AL cL ol hlo wr hmvj.out p1 p2 p3)
          have hMj := hM.apart hMQ hapf
          have Hlaw := Lib.hid hlaw
          have hcs := before_cases (a := ol) (b := LL)
          have Hq := Lib.hid hq
          clear hil hbl hlo hlaw hl0 hl hrxj x3 p3 hq hol hspj hapj
          obtain ⟨k0, k1, k2⟩ := hMj.c3
          rcases hcs with (h1 | ⟨h1, h2⟩) | h1
          · go_wp2_with fail
            go_roundw
            case rel => exact ⟨i + 1, by omega, by go_num, hapf, hspf⟩
            case measure => simp [intOf]; omega
          · have hd1 : decide (LL.length < ol.length) = false := decide_eq_false (by omega)
            have hd1' : decide ((LL.length : Int) < (ol.length : Int)) = false := decide_eq_false (by omega)
            have hd2 : ((ol.length : Int) == (LL.length : Int)) = true := by rw [beq_iff_eq]; omega
            have hqf : q = false := by rw [← Hq.out, h2]
            subst hqf
            clear h1 h2
            go_wp2_with fail
            refine hcm.out.mono ?_
            rintro e w12 ⟨r, rfl, hr, rfl⟩
            have hr0 : 0 ≤ r := by have := of_decide_eq_false hr; omega
            clear hr hcm
            go_wp2_with fail
            go_roundw
            case rel => exact ⟨i + 1, by omega, by go_num, hapf, hspf⟩
            case measure => simp [intOf]; omega
          · have hnone := Hlaw.out h1
            have hh : (ol.length = LL.length ∧ q = true) ∨ ol.length < LL.length := by
              unfold beforeB at h1
              by_cases e : ol.length = LL.length
              · rw [if_pos e, Hq.out] at h1
                exact .inl ⟨e, h1⟩
              · rw [if_neg e] at h1
                exact .inr (by simpa using h1)
            have hd1 : decide (LL.length < ol.length) = false := decide_eq_false (by rcases hh with h | h <;> omega)
            have hd1' : decide ((LL.length : Int) < (ol.length : Int)) = false := decide_eq_false (by rcases hh with h | h <;> omega)
            have Hnone := Lib.hid hnone
            clear hnone h1 Hlaw
            rcases hh with ⟨h1, rfl⟩ | h1
            case' inl =>
              have hd2 : ((ol.length : Int) == (LL.length : Int)) = true := by rw [beq_iff_eq]; omega
              clear h1
              go_wp2_with fail
              refine hcm.out.mono ?_
              rintro e w12 ⟨r, rfl, hr, rfl⟩
              have hr0 : r < 0 := of_decide_eq_true hr
              have hd3 : decide (0 ≤ r) = false := decide_eq_false (by omega)
              clear hr
              go_wp2_with fail
            case' inr =>
              have hd2 : ((ol.length : Int) == (LL.length : Int)) = false := by rw [beq_eq_false_iff_ne]; omega
              clear h1
              go_wp2_with fail
            all_goals
              refine hwi.out.mono ?_
              rintro e w13 ⟨va, vb, rfl, hva, hvb, he13⟩
              have hvv := Lib.hid (MillVal.ofOB (m := m.without ol) hva hvb)
              obtain ⟨Ba, ba, rfl, _, _, _, _, _⟩ := hva.open_
              obtain ⟨Bb, bb, rfl, _, _, _⟩ := hvb.ords
              have hch2 := Lib.hid ((check_iff _).2 (without_mok Hok.out ol))
              have hvv : Hid (MillVal w13 (.agg #[.slice Ba m.laced.length ba, .int .i64 m.change, .slice Bb (withoutL m ol m.orders.length).length bb]) (m.without ol)) := hvv
              obtain ⟨VL, hVL⟩ : ∃ VL, (withoutL m ol m.orders.length).length = VL := ⟨_, rfl⟩
              obtain ⟨vm, hvm⟩ : ∃ vm, m.without ol = vm := ⟨_, rfl⟩
              rw [hVL] at hvv ⊢
              rw [hvm] at hvv hch2 Hnone
              have hXv := Ext.alloc w13 (.cells #[.slice Ba m.laced.length ba, .int .i64 m.change, .slice Bb VL bb] 25)
              have hVb := Blk.new w13 25 #[.slice Ba m.laced.length ba, .int .i64 m.change, .slice Bb VL bb]
              have hpv := Lib.hid (plan_ok _ vm hch2.out _ (hvv.out.ext hXv))
              have heV := he13.trans hXv
              clear hva hvb hwi hcm hVL hvm hXv he13
              clear k0 k1 k2
              obtain ⟨k0, k1, k2⟩ := hVb.c3
              go_wp2_with fail
              generalize w13.alloc _ = W14 at *
              clear k0 k1 k2
              refine hpv.out.mono ?_
              rintro e w15 (⟨_, rfl, he15⟩ | ⟨rows2, rv2, hus, _, _, _⟩)
              · have hapz := hapf.trans (Apart.of_ext (heV.trans he15))
                have hspz := hspf.ext (heV.trans he15)
                clear hpv
                go_wp2_with fail
                go_roundw
                case rel => exact ⟨i + 1, by omega, by go_num, hapz, hspz⟩
                case measure => simp [intOf]; omega
              · rw [Hnone.out] at hus; cases hus
    · obtain rfl : i = 8 := by omega
      go_wp2_with fail
      refine (awake_any wr).mono ?_
      rintro e w12 ⟨rfl, he12⟩
      go_wp2_with fail
      go_ret
      exact ⟨rfl, hE.trans ((Apart.ext_of hE2 hMg hap).trans he12)⟩
end Go.Proofs.Pet
