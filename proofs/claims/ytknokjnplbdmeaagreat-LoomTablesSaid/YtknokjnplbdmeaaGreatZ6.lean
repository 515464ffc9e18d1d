/-
  The reference's Tabled and Bounds, walked.
  The reference's Bounds, walked.
-/
import Derived.Test.YtknokjnplbdmeaaGreatZ2
import Derived.Test.YtknokjnplbdmeaaGreatZ3
namespace Go.Proofs.Pet
set_option linter.unusedSimpArgs false
open Go Go.RowKit Go.Maps Go.Shelf

theorem all_getD {α : Type} {l : List (List α)} {p : List α → Bool} : l.all p = true ↔ ∀ i, i < l.length → p (l[i]?.getD []) = true := by
  rw [List.all_eq_true]
  constructor
  · exact fun h i hi => h _ (getD_memL hi)
  · intro h x hx
    obtain ⟨i, hi, rfl⟩ := List.mem_iff_getElem.1 hx
    have := h i hi
    rwa [List.getElem?_eq_getElem hi] at this
theorem all_getI {l : List Int} {p : Int → Bool} : l.all p = true ↔ ∀ i, i < l.length → p (l[i]?.getD 0) = true := by
  rw [List.all_eq_true]
  constructor
  · intro h i hi
    rw [List.getElem?_eq_getElem hi]
    exact h _ (List.getElem_mem hi)
  · intro h x hx
    obtain ⟨i, hi, rfl⟩ := List.mem_iff_getElem.1 hx
    have := h i hi
    rwa [List.getElem?_eq_getElem hi] at this
theorem sizedB_iff {m : Mill} {T : List (List (List Int))} : sizedB m T = true ↔ ∀ i, i < T.length → (T[i]?.getD []).length = 2 ^ m.orders.length ∧ ∀ j, j < (T[i]?.getD []).length → ((T[i]?.getD [])[j]?.getD []).length = m.orders.length := by
  unfold sizedB
  rw [all_getD]
  simp only [Bool.and_eq_true, decide_eq_true_eq, all_getD]
theorem rangedB_iff {T : List (List (List Int))} : rangedB T = true ↔ ∀ i, i < T.length → ∀ j, j < (T[i]?.getD []).length → ∀ k, k < ((T[i]?.getD [])[j]?.getD []).length → inB (tabF T i j k) 0 99 = true := by
  unfold rangedB
  rw [all_getD]
  simp only [all_getD, all_getI]
  exact Iff.rfl
set_option maxRecDepth 20000 in
set_option maxHeartbeats 2000000 in
theorem tabled5_any (v tv : Value) (m : Mill) (hch : checkE m = 0) (T : List (List (List Int))) (r : Int) (hr : tabE m T = r) (w : World) (hv : MillVal w v m) (ht : TabI w tv T) :
    Calls Tryz.prog 14 #[v, tv] w fun e w' => e = .returned (.int .i64 r) ∧ Ext w w' := by
  have Hv := Lib.hid hv
  obtain ⟨A1, c1, A2, c2, rfl, h2, h3, h4, h5, h6, h7⟩ := hv
  obtain ⟨At, ct, rfl, t2, t3, t4⟩ := ht
  obtain ⟨l1, l2, l3⟩ := check_len hch
  have hE := Ext.alloc w (.cells #[.slice A1 m.laced.length c1, .int .i64 m.change, .slice A2 m.orders.length c2] 35)
  have hM := Blk.new w 35 #[.slice A1 m.laced.length c1, .int .i64 m.change, .slice A2 m.orders.length c2]
  have Hr : Hid ((if T.length = m.laced.length then (if sizedB m T = true then (if rangedB T = true then 0 else 3) else 2) else 2) = r) := by unfold Hid; rw [← hr]; unfold tabE; rw [if_pos hch]
  have Ht := Lib.hid t4
  unfold maxLen at t3
  clear h6 h7 t4 hr h3 h5
  obtain ⟨N, hN⟩ : ∃ N, N = 2 ^ m.orders.length := ⟨_, rfl⟩
  have hNb : N ≤ 128 := by
    have h1 : 2 ^ m.orders.length ≤ 2 ^ 7 := Nat.pow_le_pow_right (by omega) l3
    have h2 : (2 : Nat) ^ 7 = 128 := by decide
    omega
  have HN := Lib.hid hN; clear hN
  obtain ⟨k0, k1, k2⟩ := hM.c3
  by_cases hl : T.length = m.laced.length
  · have hd : ((T.length : Int) != (m.laced.length : Int)) = false := by rw [ine]; simpa using hl
    have hR1 : Hid ((if sizedB m T = true then (if rangedB T = true then (0 : Int) else 3) else 2) = r) := by have := Hr.out; rw [if_pos hl] at this; exact this
    have HL := Lib.hid hl
    clear Hr hl
    go_enter Tryz.func14, Tryz.ntmps14
    go_wp2_with fail
    clear k0 k1 k2 hd
    have hMw : Hid (∀ W, Ext w W → MillVal W (.agg #[.slice A1 m.laced.length c1, .int .i64 m.change, .slice A2 m.orders.length c2]) m) := fun W hW => Hv.out.ext hW
    generalize w.alloc _ = W0 at *
    obtain ⟨b0, hb0⟩ : ∃ b, w.heap.size = b := ⟨_, rfl⟩
    rw [hb0] at hM ⊢
    clear hb0
    go_loopw [5] (fun lv wr => ∃ l : Nat, l ≤ T.length ∧ lv = .int .i64 l ∧ Ext W0 wr ∧ Hid (∀ i, i < l → (T[i]?.getD []).length = 2 ^ m.orders.length ∧ ∀ j, j < (T[i]?.getD []).length → ((T[i]?.getD [])[j]?.getD []).length = m.orders.length)) (fun lv _ => T.length - (intOf lv).toNat)
    case atStart => exact ⟨0, by omega, rfl, Ext.refl _, fun i h => absurd h (by omega)⟩
    case round =>
      obtain ⟨l, hl, rfl, he, hup⟩ := hrel
      by_cases hlt : l < T.length
      · obtain ⟨b, o, u, rfl, g1, A', c', rfl, g2, g3, g4⟩ := (TabsAt.ext Ht.out (hE.trans he)) l hlt
        have G4 := Lib.hid g4
        unfold maxLen at g3
        obtain ⟨k0, k1, k2⟩ := (hM.ext he).c3
        have hse := Lib.hid (fun W (hW : Ext wr W) => sets5_any _ m (by omega) N HN.out W (hMw.out W (hE.trans (he.trans hW))))
        obtain ⟨R, hR⟩ : ∃ R, T[l]?.getD [] = R := ⟨_, rfl⟩
        rw [hR] at g1 g2 G4
        have HRR := Lib.hid hR; clear hR g4
        go_wp2_with fail
        have he0 := he
        clear he
        refine wp_region_chain 7 [(6, true)] [] (by kernel_rfl) (by kernel_rfl) (by kernel_rfl) ?_
        simp only [List.take, List.drop, fill, Act.put, List.setIfInBounds_toArray, List.set_cons_zero, List.set_cons_succ, Nat.reduceAdd]
        repeat (first
          | refine Floats.mut rfl ?_
          | (apply Floats.float rfl
             · intro x W he hd K Q hK
               try (have he := he (by decide); have k0 := he.cell k0; have k1 := he.cell k1; have k2 := he.cell k2; have g1 := he.cell g1)
               try simp only [edges, DepsE, List.filter_cons, List.filter_nil, Region.binds, if_true, and_true, true_and, upd, Nat.reduceEqDiff, if_false] at hd
               try simp only [hd] at hK ⊢
               have HK := Lib.hid hK; clear hK
               go_wp2_with fail
               exact HK.out))
        refine Floats.done fun W he hG => ?_
        have heW := he
        refine Chain.cons _ rfl ?_
        intro x hd K Q hK
        try simp only [edges, DepsE, List.filter_cons, List.filter_nil, Region.binds, if_true, and_true, true_and, upd, Nat.reduceEqDiff, if_false] at hd
        try simp only [hd] at hK ⊢
        clear hd
        have HK := Lib.hid hK; clear hK
        go_wp2_with fail
        refine (hse.out W heW).mono ?_
        rintro e w1 ⟨rfl, he1⟩
        have heX := he0.trans (heW.trans he1)
        go_wp2_with fail
        refine HK.out _ _ (fun _ => heW.trans he1) ?_
        clear HK
        refine Chain.nil ?_
        simp only [upd, Nat.reduceEqDiff, if_false, if_true]
        clear k0 k1 k2 g1 heW he1 hse he he0
        by_cases hRN : R.length = N
        · have hd : (R.length != N) = false := by simpa using hRN
          have hd2 : ((R.length : Int) != (N : Int)) = false := by rw [ine]; simpa using hRN
          have HRN := Lib.hid hRN
          clear hRN
          go_wp2_with fail
          clear hd hd2
          go_loopw [6] (fun sv wr => ∃ s : Nat, s ≤ R.length ∧ sv = .int .i64 s ∧ Ext W0 wr ∧ Hid (∀ j, j < s → (R[j]?.getD []).length = m.orders.length)) (fun sv _ => R.length - (intOf sv).toNat)
          case atStart => exact ⟨0, by omega, rfl, heX, fun j h => absurd h (by omega)⟩
          case round =>
            clear heX
            obtain ⟨s, hs, rfl, he, hup2⟩ := hrel
            obtain ⟨b', o', u', e', g1', A'', c'', g2', g3', g4', g5'⟩ := (TabsAt.ext Ht.out (hE.trans he)) l hlt
            injection e' with e'
            injection e' with e1' e2'
            subst e1'; subst e2'
            rw [HRR.out] at g2' g5'
            subst g2'
            obtain ⟨k0, k1, k2⟩ := (hM.ext he).c3
            by_cases hlts : s < R.length
            · obtain ⟨b2, o2, u2, rfl, f1, A3, c3, rfl, f2, f3, f4⟩ := g5' s hlts
              obtain ⟨K, hK⟩ : ∃ K, R[s]?.getD [] = K := ⟨_, rfl⟩
              rw [hK] at f1
              have HK0 := Lib.hid hK
              clear hK f2 f3 f4 g5'
              by_cases hKn : K.length = m.orders.length
              · have hd2 : ((K.length : Int) != (m.orders.length : Int)) = false := by rw [ine]; simpa using hKn
                have HKn := Lib.hid hKn
                clear hKn
                go_wp2_with fail
                go_quiet (fail)
                go_wp2_with fail
                go_roundw
                case rel =>
                  refine ⟨s + 1, by omega, by go_num, he.trans (Ext.drewN _ _), fun j hj => ?_⟩
                  by_cases e : j = s
                  · subst e; rw [HK0.out]; exact HKn.out
                  · exact hup2.out j (by omega)
                case measure => simp [intOf]; omega
              · have hd2 : ((K.length : Int) != (m.orders.length : Int)) = true := by rw [ine]; simpa using hKn
                have hq : sizedB m T = false := by
                  rw [← Bool.not_eq_true, sizedB_iff]
                  intro h
                  have := (h l hlt).2 s (by rw [HRR.out]; exact hlts)
                  rw [HRR.out, HK0.out] at this
                  exact hKn this
                have hR2 : (2 : Int) = r := by have := hR1.out; rw [hq] at this; simpa using this
                subst hR2
                clear hKn hq
                go_wp2_with fail
                go_quiet (fail)
                go_wp2_with fail
                go_ret
                exact ⟨rfl, hE.trans (he.trans (Ext.drewN _ _))⟩
            · obtain rfl : s = R.length := by omega
              clear g5'
              go_wp2_with fail
              go_roundw
              case rel =>
                refine ⟨l + 1, by omega, by go_num, he, fun i hi => ?_⟩
                by_cases e : i = l
                · subst e; rw [HRR.out, HRN.out, HN.out]; exact ⟨rfl, fun j hj => hup2.out j (by rw [HRN.out, HN.out]; exact hj)⟩
                · exact hup.out i (by omega)
              case measure => simp [intOf]; omega
        · have hd : (R.length != N) = true := by simpa using hRN
          have hd2 : ((R.length : Int) != (N : Int)) = true := by rw [ine]; simpa using hRN
          have hq : sizedB m T = false := by
            rw [← Bool.not_eq_true, sizedB_iff]
            intro h
            have := (h l hlt).1
            rw [HRR.out, ← HN.out] at this
            exact hRN this
          have hR2 : (2 : Int) = r := by have := hR1.out; rw [hq] at this; simpa using this
          subst hR2
          clear hRN hq
          go_wp2_with fail
          go_ret
          exact ⟨rfl, hE.trans heX⟩
      · obtain rfl : l = T.length := by omega
        have hsz : Hid (sizedB m T = true) := sizedB_iff.2 hup.out
        have hR2 : Hid ((if rangedB T = true then (0 : Int) else 3) = r) := by have := hR1.out; rw [hsz.out] at this; unfold Hid; simpa using this
        clear hup hR1
        go_wp2_with fail
        obtain ⟨W1, hW1⟩ : ∃ W1, W1 = wr := ⟨_, rfl⟩
        rw [← hW1] at he ⊢
        clear hW1
        have heX := hE.trans he
        go_loopw [7] (fun lv wr => ∃ l : Nat, l ≤ T.length ∧ lv = .int .i64 l ∧ Ext w wr ∧ Hid (∀ i, i < l → ∀ j, j < (T[i]?.getD []).length → ∀ k, k < ((T[i]?.getD [])[j]?.getD []).length → inB (tabF T i j k) 0 99 = true)) (fun lv _ => T.length - (intOf lv).toNat)
        case atStart => exact ⟨0, by omega, rfl, heX, fun i h => absurd h (by omega)⟩
        case round =>
          clear he heX
          obtain ⟨l, hl, rfl, he, hup⟩ := hrel
          by_cases hlt : l < T.length
          · obtain ⟨W2, hW2⟩ : ∃ W2, W2 = wr := ⟨_, rfl⟩
            rw [← hW2] at he ⊢
            clear hW2
            obtain ⟨R, hR⟩ : ∃ R, T[l]?.getD [] = R := ⟨_, rfl⟩
            have HRR := Lib.hid hR; clear hR
            go_wp2_with fail
            have he2 := he
            go_loopw [8] (fun sv wr => ∃ s : Nat, s ≤ R.length ∧ sv = .int .i64 s ∧ Ext w wr ∧ Hid (∀ j, j < s → ∀ k, k < (R[j]?.getD []).length → inB (tabF T l j k) 0 99 = true)) (fun sv _ => R.length - (intOf sv).toNat)
            case atStart => exact ⟨0, by omega, rfl, he2, fun j h => absurd h (by omega)⟩
            case round =>
              clear he2
              obtain ⟨s, hs, rfl, he, hup2⟩ := hrel
              obtain ⟨b', o', u', rfl, g1', A'', c'', g2', g3', g4', g5'⟩ := (TabsAt.ext Ht.out he) l hlt
              rw [HRR.out] at g2' g5' g3'
              subst g2'
              unfold maxLen at g4'
              have G5 := Lib.hid g5'
              clear g5'
              by_cases hlts : s < R.length
              · obtain ⟨K, hK⟩ : ∃ K, R[s]?.getD [] = K := ⟨_, rfl⟩
                have HK0 := Lib.hid hK
                clear hK
                have hKl : Hid (K.length ≤ maxLen) := by
                  obtain ⟨b2, o2, u2, _, f1, A3, c3, _, f2, f3, f4⟩ := G5.out s hlts
                  rw [HK0.out] at f2
                  exact Nat.le_trans f2 f3
                have hKl2 := hKl.out
                unfold maxLen at hKl2
                obtain ⟨W3, hW3⟩ : ∃ W3, W3 = wr := ⟨_, rfl⟩
                rw [← hW3] at he g1' G5 ⊢
                clear hW3
                go_wp2_with fail
                have he3 := he
                go_loopw [9] (fun kv wr => ∃ k : Nat, k ≤ K.length ∧ kv = .int .i64 k ∧ Ext W3 wr ∧ Hid (∀ i, i < k → inB (tabF T l s i) 0 99 = true)) (fun kv _ => K.length - (intOf kv).toNat)
                case atStart => exact ⟨0, by omega, rfl, Ext.refl _, fun j h => absurd h (by omega)⟩
                case round =>
                  obtain ⟨k, hk, rfl, heK, hup3⟩ := hrel
                  obtain ⟨b2, o2, u2, e2, f1, A3, c3, rfl, f2, f3, f4⟩ := G5.out s hlts
                  rw [HK0.out] at f1 f4
                  subst e2
                  have g1 := heK.cell g1'
                  have f1' := heK.cell f1
                  clear f1
                  by_cases hltk : k < K.length
                  · obtain ⟨b3, o3, rfl, x1⟩ := f4 k hltk
                    have x1' := heK.cell x1
                    obtain ⟨x, hx⟩ : ∃ x, K[k]?.getD 0 = x := ⟨_, rfl⟩
                    rw [hx] at x1'
                    have hxt : Hid (tabF T l s k = x) := by unfold Hid tabF; rw [HRR.out, HK0.out, hx]
                    obtain ⟨q, hq⟩ : ∃ q, (!inB x 0 99) = q := ⟨_, rfl⟩
                    have hof := Lib.hid (off_any x 0 99 q hq)
                    have Hq := Lib.hid hq
                    clear hq f4 hx x1
                    go_wp2_with fail
                    refine (hof.out _).mono ?_
                    rintro e w' ⟨rfl, rfl⟩
                    cases q with
                    | true =>
                      have hr : rangedB T = false := by
                        rw [← Bool.not_eq_true, rangedB_iff]
                        intro h
                        have := h l hlt s (by rw [HRR.out]; exact hlts) k (by rw [HRR.out, HK0.out]; exact hltk)
                        rw [hxt.out] at this
                        have h2 := Hq.out
                        rw [this] at h2
                        cases h2
                      have h3 : (3 : Int) = r := by have := hR2.out; rw [hr] at this; simpa using this
                      subst h3
                      clear hr
                      go_wp2_with fail
                      go_ret
                      exact ⟨rfl, he.trans heK⟩
                    | false =>
                      go_wp2_with fail
                      go_roundw
                      case rel =>
                        refine ⟨k + 1, by omega, by go_num, heK, fun i hi => ?_⟩
                        by_cases e : i = k
                        · subst e; rw [hxt.out]; have := Hq.out; simpa using this
                        · exact hup3.out i (by omega)
                      case measure => simp [intOf]; omega
                  · obtain rfl : k = K.length := by omega
                    clear f4
                    go_wp2_with fail
                    go_roundw
                    case rel =>
                      refine ⟨s + 1, by omega, by go_num, he.trans heK, fun j hj => ?_⟩
                      by_cases e : j = s
                      · subst e; rw [HK0.out]; exact hup3.out
                      · exact hup2.out j (by omega)
                    case measure => simp [intOf]; omega
              · obtain rfl : s = R.length := by omega
                go_wp2_with fail
                go_roundw
                case rel =>
                  refine ⟨l + 1, by omega, by go_num, he, fun i hi => ?_⟩
                  by_cases e : i = l
                  · subst e; rw [HRR.out]; exact hup2.out
                  · exact hup.out i (by omega)
                case measure => simp [intOf]; omega
          · obtain rfl : l = T.length := by omega
            have hr : rangedB T = true := rangedB_iff.2 hup.out
            have h3 : (0 : Int) = r := by have := hR2.out; rw [hr] at this; simpa using this
            subst h3
            clear hr hup
            go_wp2_with fail
            go_ret
            exact ⟨rfl, he⟩
  · have hd : ((T.length : Int) != (m.laced.length : Int)) = true := by rw [ine]; simpa using hl
    have hR1 : (2 : Int) = r := by have := Hr.out; rw [if_neg hl] at this; exact this
    subst hR1
    clear hl Hr
    go_enter Tryz.func14, Tryz.ntmps14
    go_wp2_with fail
    go_ret
    exact ⟨rfl, hE⟩
end Go.Proofs.Pet

namespace Go.Proofs.Pet
set_option linter.unusedSimpArgs false
open Go Go.RowKit Go.Maps Go.Shelf

theorem TabI.rowIn {w : World} {tv : Value} {m : Mill} {T : List (List (List Int))} (h : TabI w tv T) (hT : TabOk m T) {l s : Nat} (hl : l < m.laced.length) (hs : s < 2 ^ m.orders.length) (hn : 0 < m.orders.length) : RowIn w tv l s m.orders.length (tabF T l s) := by
  obtain ⟨A, c, rfl, h2, h3, h4⟩ := h
  obtain ⟨b, o, u, rfl, g1, A1, c1, rfl, g2, g3, g4⟩ := h4 l (by rw [hT.len]; exact hl)
  obtain ⟨b1, o1, u1, rfl, f1, A2, c2, rfl, f2, f3, f4⟩ := g4 s (by rw [hT.rows l hl]; exact hs)
  obtain ⟨b2, o2, rfl, e1⟩ := f4 0 (by rw [hT.nums l s hl hs]; exact hn)
  rw [hT.rows l hl] at g1
  rw [hT.nums l s hl hs] at f1
  refine ⟨b, o, _, c, b1, o1, _, c1, b2, o2, _, c2, rfl, by rw [hT.len]; exact hl, g1, hs, f1, Nat.le_refl _, fun x hx => ?_⟩
  obtain ⟨b3, o3, e2, e3⟩ := f4 x (by rw [hT.nums l s hl hs]; exact hx)
  cases e2
  exact e3
def preB (m : Mill) (T : List (List (List Int))) (l s i : Nat) : Prop := ∀ y, y ∈ (bits m.orders.length s).take i → tabF T l s y ≤ stepS m (tabF T l) l s y
set_option maxRecDepth 20000 in
set_option maxHeartbeats 2000000 in
theorem bounds5_any (v tv : Value) (m : Mill) (T : List (List (List Int))) (hT : TabOk m T) (q : Bool) (hq : boundsQ m (tabF T) = q) (w : World) (hv : MillVal w v m) (ht : TabI w tv T) :
    Calls Tryz.prog 15 #[v, tv] w fun e w' => e = .returned (.bool q) ∧ Ext w w' := by
  have Hv := Lib.hid hv
  have Ht := Lib.hid ht
  have HT := Lib.hid hT
  obtain ⟨A1, c1, A2, c2, rfl, h2, h3, h4, h5, h6, h7⟩ := hv
  obtain ⟨At, ct, rfl, t2, t3, t4⟩ := ht
  obtain ⟨l1, l2, l3⟩ := check_len hT.ok
  have hTl := hT.len
  rw [hTl] at Ht ⊢
  have hE := Ext.alloc w (.cells #[.slice A1 m.laced.length c1, .int .i64 m.change, .slice A2 m.orders.length c2] 35)
  have hM := Blk.new w 35 #[.slice A1 m.laced.length c1, .int .i64 m.change, .slice A2 m.orders.length c2]
  have Hq := Lib.hid hq
  clear h6 h7 t2 t3 t4 hq h3 h5 hT hTl
  obtain ⟨N, hN⟩ : ∃ N, 2 ^ m.orders.length = N := ⟨_, rfl⟩
  have hNb : N ≤ 128 := by
    have h1 : 2 ^ m.orders.length ≤ 2 ^ 7 := Nat.pow_le_pow_right (by omega) l3
    have h2 : (2 : Nat) ^ 7 = 128 := by decide
    omega
  have HN := Lib.hid hN; clear hN
  go_enter Tryz.func15, Tryz.ntmps15
  go_wp2_with fail
  have hMw : Hid (∀ W, Ext w W → MillVal W (.agg #[.slice A1 m.laced.length c1, .int .i64 m.change, .slice A2 m.orders.length c2]) m) := fun W hW => Hv.out.ext hW
  generalize w.alloc _ = W0 at *
  obtain ⟨b0, hb0⟩ : ∃ b, w.heap.size = b := ⟨_, rfl⟩
  rw [hb0] at hM ⊢
  clear hb0
  go_loopw [5] (fun lv wr => ∃ l : Nat, l ≤ m.laced.length ∧ lv = .int .i64 l ∧ Ext W0 wr ∧ Hid (bUp m T l 0)) (fun lv _ => m.laced.length - (intOf lv).toNat)
  case atStart => exact ⟨0, by omega, rfl, Ext.refl _, fun l s k h => absurd h (by omega)⟩
  case round =>
    obtain ⟨l, hl, rfl, he, hup⟩ := hrel
    by_cases hlt : l < m.laced.length
    · obtain ⟨W1, hW1⟩ : ∃ W1, W1 = wr := ⟨_, rfl⟩
      rw [← hW1] at he ⊢
      clear hW1
      go_wp2_with fail
      have he1 := he
      go_loopw [6] (fun sv wr => ∃ s : Nat, s ≤ N ∧ sv = .int .i64 s ∧ Ext W0 wr ∧ Hid (bUp m T l s)) (fun sv _ => N - (intOf sv).toNat)
      case atStart => exact ⟨0, by omega, rfl, he1, hup.out⟩
      case round =>
        clear he1 he hup
        obtain ⟨s, hs, rfl, he, hup⟩ := hrel
        obtain ⟨tA, tc, te, _, _, tt⟩ := Ht.out.ext (hE.trans he)
        injection te with te1 te2 te3
        subst te1; subst te3
        obtain ⟨b, o, u, rfl, g1, A', c', rfl, g2, g3, g4⟩ := tt l (by rw [← te2]; exact hlt)
        rw [HT.out.rows l hlt, HN.out] at g1
        rw [HT.out.rows l hlt, HN.out] at g2
        unfold maxLen at g3
        clear tt te2 g4
        by_cases hlts : s < N
        · have hs2 : s < 2 ^ m.orders.length := HN.out ▸ hlts
          have hbl := bits_length_le m.orders.length s
          have hil : (ints (bits m.orders.length s)).length = (bits m.orders.length s).length := by unfold ints; simp
          obtain ⟨k0, k1, k2⟩ := (hM.ext he).c3
          have hli := Lib.hid (list5_any _ m s (by omega) (by omega) wr (hMw.out wr (hE.trans he)))
          go_wp2_with fail
          refine hli.out.mono ?_
          rintro e w2 ⟨rv, rfl, hrv, he2⟩
          have heX := he.trans he2
          obtain ⟨Ar, cr, rfl, r1, r2, r3, r4, r5⟩ := hrv.open_
          rw [hil] at r1 ⊢
          have Hr3 := Lib.hid r3
          clear r3 r4 r5 hrv he2 he k0 k1 k2 hli hil g1
          unfold maxLen at r2
          go_wp2_with fail
          go_loopw [8] (fun iv wr => ∃ i : Nat, i ≤ (bits m.orders.length s).length ∧ iv = .int .i64 i ∧ Ext w2 wr ∧ Hid (preB m T l s i)) (fun iv _ => (bits m.orders.length s).length - (intOf iv).toNat)
          case atStart => exact ⟨0, by omega, rfl, Ext.refl _, fun y hy => by simp at hy⟩
          case round =>
            obtain ⟨i, hi, rfl, he, hup3⟩ := hrel
            by_cases hlti : i < (bits m.orders.length s).length
            · obtain ⟨k, hk⟩ : ∃ k, (bits m.orders.length s)[i] = k := ⟨_, rfl⟩
              have hkm : k ∈ bits m.orders.length s := hk ▸ List.getElem_mem hlti
              obtain ⟨hkn, hkb⟩ := mem_bits.1 hkm
              obtain ⟨bl, ol, rfl, x0⟩ := (IntsAt.ext Hr3.out he) i (by unfold ints; simpa using hlti)
              have ek : (ints (bits m.orders.length s))[i]?.getD 0 = (k : Int) := by unfold ints; simp [hlti, hk]
              rw [ek] at x0
              have heW := heX.trans he
              obtain ⟨tb, tq, tc0, tb1, to1, tc1, tb2, to2, tc2, te, g1, g2', g3'⟩ := (Ht.out.ext (hE.trans heW)).get HT.out hlt hs2 hkn
              injection te with te1 _ te3
              injection te1 with te1
              injection te1 with te4 te5
              subst te4; subst te5; subst te3
              obtain ⟨k0, k1, k2⟩ := (hM.ext heW).c3
              obtain ⟨r, hr⟩ : ∃ r, stepS m (tabF T l) l s k = r := ⟨_, rfl⟩
              obtain ⟨t, ht⟩ : ∃ t, tabF T l s k = t := ⟨_, rfl⟩
              rw [ht] at g3'
              rw [HN.out] at g1
              have hcall := Lib.hid (fun W (hW : Ext wr W) => step5_any _ _ m HT.out.ok l s k hlt hkn hs2 hkb (tabF T l) (fun x => HT.out.bd l _ x) W (hMw.out W (hE.trans (heW.trans hW))) ((Ht.out.ext (hE.trans (heW.trans hW))).rowIn HT.out hlt (Nat.lt_of_le_of_lt (sdiff_le _ _) hs2) (by omega)))
              rw [hr] at hcall
              have hps : Hid ((bits m.orders.length s).take (i + 1) = (bits m.orders.length s).take i ++ [k]) := by unfold Hid; rw [List.take_succ_eq_append_getElem hlti, hk]
              have Hr := Lib.hid hr; have Htt := Lib.hid ht; have Hkb := Lib.hid hkb; have Hkm := Lib.hid hkm
              have he0 := he
              clear hr ht hk ek he hkb hkm
              go_wp2_with fail
              refine wp_region_chain 22 [(21, true)] [] (by kernel_rfl) (by kernel_rfl) (by kernel_rfl) ?_
              simp only [List.take, List.drop, fill, Act.put, List.setIfInBounds_toArray, List.set_cons_zero, List.set_cons_succ, Nat.reduceAdd]
              repeat (first
                | refine Floats.mut rfl ?_
                | (apply Floats.float rfl
                   · intro x W he hd K Q hK
                     try (have he := he (by decide); have k0 := he.cell k0; have k1 := he.cell k1; have k2 := he.cell k2; have g1 := he.cell g1; have g2' := he.cell g2'; have g3' := he.cell g3'; have x0 := he.cell x0)
                     try simp only [edges, DepsE, List.filter_cons, List.filter_nil, Region.binds, if_true, and_true, true_and, upd, Nat.reduceEqDiff, if_false] at hd
                     try simp only [hd] at hK ⊢
                     have HK := Lib.hid hK; clear hK
                     go_wp2_with fail
                     exact HK.out))
              refine Floats.done fun W he hG => ?_
              have heR := he
              clear he
              refine Chain.cons _ rfl ?_
              intro x hd K Q hK
              try simp only [edges, DepsE, List.filter_cons, List.filter_nil, Region.binds, if_true, and_true, true_and, upd, Nat.reduceEqDiff, if_false] at hd
              try simp only [hd] at hK ⊢
              clear hd
              have HK := Lib.hid hK; clear hK
              go_wp2_with fail
              refine (hcall.out W heR).mono ?_
              rintro e w3 ⟨rfl, he3⟩
              have heY := he0.trans (heR.trans he3)
              go_wp2_with fail
              refine HK.out _ _ (fun _ => heR.trans he3) ?_
              clear HK
              refine Chain.nil ?_
              simp only [upd, Nat.reduceEqDiff, if_false, if_true]
              clear k0 k1 k2 g1 g2' g3' x0 heR he3 hcall he0 heW
              by_cases hrt : r < t
              · have hqf : Hid (q = false) := by
                  unfold Hid
                  rw [← Hq.out, ← Bool.not_eq_true, boundsQ_iff]
                  intro h
                  have := h l s k hlt hs2 hkn Hkb.out
                  rw [Hr.out, Htt.out] at this
                  omega
                go_wp2_with fail
                go_ret
                exact ⟨by rw [hqf.out]; rfl, hE.trans (heX.trans heY)⟩
              · have hd : decide (r < t) = false := by simpa using hrt
                have Hrt := Lib.hid hrt
                clear hrt
                go_wp2_with fail
                go_roundw
                case rel =>
                  refine ⟨i + 1, by omega, by go_num, heY, fun y hy => ?_⟩
                  rw [hps.out] at hy
                  rcases List.mem_append.1 hy with h | h
                  · exact hup3.out y h
                  · rw [List.mem_singleton] at h
                    subst h
                    rw [Hr.out, Htt.out]
                    have := Hrt.out; omega
                case measure => simp [intOf]; omega
            · obtain rfl : i = (bits m.orders.length s).length := by omega
              have hup5 : Hid (bUp m T l (s + 1)) := fun l' s' k h h1 h2 => by
                by_cases e : l' = l ∧ s' = s
                · obtain ⟨rfl, rfl⟩ := e
                  exact hup3.out k (by rw [List.take_length]; exact mem_bits.2 ⟨h1, h2⟩)
                · exact hup.out l' s' k (by omega) h1 h2
              go_wp2_with fail
              go_roundw
              case rel => exact ⟨s + 1, by omega, by go_num, heX.trans he, hup5⟩
              case measure => simp [intOf]; omega
        · obtain rfl : s = N := by omega
          have hup5 : Hid (bUp m T (l + 1) 0) := fun l' s' k h h1 h2 => hup.out l' s' k (by rw [HN.out] at h ⊢; omega) h1 h2
          go_wp2_with fail
          go_roundw
          case rel => exact ⟨l + 1, by omega, by go_num, he, hup5⟩
          case measure => simp [intOf]; omega
    · obtain rfl : l = m.laced.length := by omega
      have hqt : Hid (q = true) := by
        unfold Hid
        rw [← Hq.out, boundsQ_iff]
        exact fun l s k h1 h2 h3 h4 => hup.out l s k (.inl ⟨h1, h2⟩) h3 h4
      go_wp2_with fail
      go_ret
      exact ⟨by rw [hqt.out]; rfl, hE.trans he⟩
end Go.Proofs.Pet
