/-
  law7's same, walked.
-/
import Derived.Test.YtjlglbhafopomaaGreatPE7
namespace Go.Proofs.Pet
set_option linter.unusedSimpArgs false
open Go Go.RowKit Go.Maps Go.Shelf
open Go.Proofs.Pow (PM Sh Wv POk Up)

deriving instance DecidableEq for Go.Proofs.Pow.PM
theorem pm_ne {a b : PM} (h : a.shafts ≠ b.shafts ∨ a.wvs ≠ b.wvs) : decide (a = b) = false := by
  rw [decide_eq_false_iff_not]
  rintro rfl
  simp at h
theorem pm_eq {a b : PM} (h1 : a.shafts = b.shafts) (h2 : a.wvs.length = b.wvs.length) (h3 : ∀ k, k < a.wvs.length → a.wv k = b.wv k) : decide (a = b) = true := by
  rw [decide_eq_true_eq]
  obtain ⟨s, x⟩ := a
  obtain ⟨s', y⟩ := b
  have h1' : s = s' := h1
  subst h1'
  congr 1
  refine List.ext_getElem h2 fun j g1 g2 => ?_
  have := h3 j g1
  unfold PM.wv at this
  simpa [g1, g2] using this
set_option maxRecDepth 20000 in
set_option maxHeartbeats 4000000 in
theorem same7_any (va vb : Value) (a b : PM) (q : Bool) (hq : decide (a = b) = q) (w : World) (ha : PMVal w va a) (hb : PMVal w vb b) :
    Calls Tryz.prog 45 #[va, vb] w fun e w' => e = .returned (.bool q) ∧ Ext w w' := by
  have Hq := Lib.hid hq; clear hq
  obtain ⟨A1, c1, A2, c2, rfl, g2, g3, g4, g5, h6, h7⟩ := ha
  obtain ⟨B1, d1, B2, d2, rfl, k2, k3, k4, k5, l6, l7⟩ := hb
  have hE : Ext w ((w.alloc (.cells #[.slice A1 a.shafts.length c1, .slice A2 a.wvs.length c2] 26)).alloc (.cells #[.slice B1 b.shafts.length d1, .slice B2 b.wvs.length d2] 26)) := (Ext.alloc _ _).trans (Ext.alloc _ _)
  have hM := (Blk.new w 26 #[.slice A1 a.shafts.length c1, .slice A2 a.wvs.length c2]).alloc (.cells #[.slice B1 b.shafts.length d1, .slice B2 b.wvs.length d2] 26)
  have hN := Blk.new (w.alloc (.cells #[.slice A1 a.shafts.length c1, .slice A2 a.wvs.length c2] 26)) 26 #[.slice B1 b.shafts.length d1, .slice B2 b.wvs.length d2]
  rw [World.size_alloc] at hN
  obtain ⟨q1, hq1⟩ : ∃ q1, decide (a.shafts = b.shafts) = q1 := ⟨_, rfl⟩
  have He := Lib.hid (eqShP A1 B1 c1 d1 a.shafts b.shafts q1 hq1 _ (Nat.le_trans g2 g3) (Nat.le_trans k2 k3) (h6.ext hE) (l6.ext hE))
  have H7 := Lib.hid (h7.ext hE); have L7 := Lib.hid (l7.ext hE)
  have Hq1 := Lib.hid hq1
  obtain ⟨e0, e1⟩ := hM.c2
  obtain ⟨f0, f1⟩ := hN.c2
  have HM := Lib.hid hM; have HN := Lib.hid hN
  unfold maxLen at g5 k5
  clear h6 h7 l6 l7 hq1 hM hN g2 g3 k2 k3
  go_enter Tryz.func45, Tryz.ntmps45
  go_wp2_with fail
  generalize (w.alloc _).alloc _ = w1 at *
  refine He.out.mono ?_
  rintro e w2 ⟨rfl, he2⟩
  have e1' := he2.cell e1
  have f1' := he2.cell f1
  clear He e0 e1 f0 f1
  cases q1 with
  | false =>
    obtain rfl : q = false := by rw [← Hq.out]; exact pm_ne (.inl (of_decide_eq_false Hq1.out))
    go_wp2
    go_ret
    exact ⟨rfl, hE.trans he2⟩
  | true =>
  by_cases hlen : a.wvs.length = b.wvs.length
  · have hl1 : ((a.wvs.length : Int) != (b.wvs.length : Int)) = false := by rw [hlen]; simp
    have Hlen := Lib.hid hlen
    have hla : a.wvs.length ≤ b.wvs.length := by omega
    clear hlen
    go_wp2_with fail
    clear e1' f1'
    go_loopw [25] (fun i wr => ∃ k : Nat, k ≤ a.wvs.length ∧ i = .int .i64 k ∧ Ext w1 wr ∧ Hid (∀ j, j < k → a.wv j = b.wv j)) (fun i _ => a.wvs.length - (intOf i).toNat)
    case atStart => exact ⟨0, by omega, rfl, he2, fun j hj => absurd hj (by omega)⟩
    case round =>
      clear he2
      obtain ⟨k, hk, rfl, he, hm⟩ := hrel
      by_cases hlt : k < a.wvs.length
      · have hX0 : ∀ o : Obj, Ext w1 (wr.alloc o) := fun o => he.trans (Ext.alloc wr o)
        obtain ⟨b2, o2, rfl, A3, c3, hc3, j1, j2, j3⟩ := H7.out.ext he k hlt
        rw [show a.wvs[k]?.getD default = a.wv k from rfl] at hc3 j1 j2 j3
        obtain ⟨b4, o4, rfl, A5, c5, hc5, m1, m2, m3⟩ := L7.out.ext he k (by omega)
        rw [show b.wvs[k]?.getD default = b.wv k from rfl] at hc5 m1 m2 m3
        obtain ⟨x, hx⟩ : ∃ x, a.wv k = x := ⟨_, rfl⟩
        obtain ⟨y, hy⟩ : ∃ y, b.wv k = y := ⟨_, rfl⟩
        rw [hx] at hc3 j1 j2 j3
        rw [hy] at hc5 m1 m2 m3
        have Hx := Lib.hid hx; have Hy := Lib.hid hy
        obtain ⟨xs, xh⟩ := x
        obtain ⟨ys, yh⟩ := y
        simp only at hc3 j1 j2 j3 hc5 m1 m2 m3
        clear hx hy
        have hB := Blk.new wr 82 #[.int .i64 xs, .slice A3 xh.length c3]
        have hX := Ext.alloc wr (.cells #[.int .i64 xs, .slice A3 xh.length c3] 82)
        obtain ⟨q0, q1⟩ := hB.c2
        obtain ⟨q2, hq2⟩ : ∃ q2, decide (xh = yh) = q2 := ⟨_, rfl⟩
        have He2 := Lib.hid (fun W (hW : Ext (wr.alloc (.cells #[.int .i64 xs, .slice A3 xh.length c3] 82)) W) => eqI A3 A5 c3 c5 xh yh q2 hq2 W (Nat.le_trans hc3.1 hc3.2) (j3.ext (hX.trans hW)) (m3.ext (hX.trans hW)))
        have Hq2 := Lib.hid hq2
        have n1 := hX.cell m1
        have n2 := hX.cell m2
        obtain ⟨f0, f1⟩ := (HN.out.ext (he.trans hX)).c2
        have HX := Lib.hid (he.trans hX)
        clear hq2 j3 m3 m1 m2 hc3 hc5 hB
        go_upto_region 6 with fail
        clear j1 j2 hX hX0
        generalize wr.alloc _ = R at *
        have hew := he
        clear he
        by_cases hs : xs = ys
        · have hd : (xs != ys) = false := by simp [hs]
          have Hs := Lib.hid hs
          clear hs
          refine wp_region_tree 20 [(18, true)] [] (by kernel_rfl) (by kernel_rfl) (by kernel_rfl) (ds := [0, 1, 2, 3, 4, 5, 6, 7, 8, 9, 10, 11, 12, 13, 14, 15, 16, 17]) (by kernel_rfl) ?_
          simp only [List.take, List.drop, fill, Act.put, List.setIfInBounds_toArray, List.set_cons_zero, List.set_cons_succ, Nat.reduceAdd]
          repeat (first
            | (apply Unlock.float rfl
               · intro x W he hd K Qr hK
                 try (have he := he (by decide); have q0 := he.cell q0; have q1 := he.cell q1; have n1 := he.cell n1; have n2 := he.cell n2; have f0 := he.cell f0; have f1 := he.cell f1)
                 try simp only [edges, DepsE, List.filter_cons, List.filter_nil, Region.binds, if_true, and_true, true_and, upd, Nat.reduceEqDiff, if_false] at hd
                 try simp only [hd] at hK ⊢
                 have HK := Lib.hid hK; clear hK
                 go_wp2_with fail
                 exact HK.out))
          refine Unlock.nil ?_
          intro W he hG
          refine Tree.next (ks := [(18, true)]) (by kernel_rfl) ?_
          refine TSteps.cons _ rfl ?_ trivial
          intro x hd K Qr hK
          try simp only [edges, DepsE, List.filter_cons, List.filter_nil, Region.binds, if_true, and_true, true_and, upd, Nat.reduceEqDiff, if_false] at hd
          try simp only [hd] at hK ⊢
          clear hd
          have HK := Lib.hid hK; clear hK
          go_wp2_with fail
          refine (He2.out W he).mono ?_
          rintro e w5 ⟨rfl, he5⟩
          have heA := he.trans he5
          go_wp2_with fail
          refine HK.out _ _ (fun _ => heA) ?_
          clear HK He2
          refine Unlock.of (ds := [19]) (by kernel_rfl) ?_
          repeat (first
            | (apply Unlock.float rfl
               · intro x W he hd K Qr hK
                 try (have he := he (by decide); skip)
                 try simp only [edges, DepsE, List.filter_cons, List.filter_nil, Region.binds, if_true, and_true, true_and, upd, Nat.reduceEqDiff, if_false] at hd
                 try simp only [hd] at hK ⊢
                 have HK := Lib.hid hK; clear hK
                 go_wp2_with fail
                 exact HK.out))
          refine Unlock.nil ?_
          cases q2 with
          | true =>
            refine Tree.nil (by kernel_rfl) ?_
            simp only [upd, Nat.reduceEqDiff, if_false, if_true]
            go_wp2_with fail
            go_roundw
            case rel =>
              refine ⟨k + 1, by omega, by go_num, HX.out.trans heA, fun j hj => ?_⟩
              by_cases ej : j = k
              · subst ej
                rw [Hx.out, Hy.out, Hs.out, of_decide_eq_true Hq2.out]
              · exact hm.out j (by omega)
            case measure => simp [intOf]; omega
          | false =>
            obtain rfl : q = false := by
              rw [← Hq.out]
              refine pm_ne (.inr fun e => of_decide_eq_false Hq2.out ?_)
              have h1 := Hx.out
              have h2 := Hy.out
              unfold PM.wv at h1 h2
              rw [e, h2] at h1
              injection h1 with p1 p2
              exact p2.symm
            refine Tree.nil (by kernel_rfl) ?_
            simp only [upd, Nat.reduceEqDiff, if_false, if_true]
            go_wp2_with fail
            go_ret
            exact ⟨rfl, hE.trans (HX.out.trans heA)⟩
        · have hd : (xs != ys) = true := by simpa using hs
          obtain rfl : q = false := by
            rw [← Hq.out]
            refine pm_ne (.inr fun e => hs ?_)
            have h1 := Hx.out
            have h2 := Hy.out
            unfold PM.wv at h1 h2
            rw [e, h2] at h1
            injection h1 with p1 p2
            exact p1.symm
          clear hs
          refine wp_region_chain 20 [] [] (by kernel_rfl) (by kernel_rfl) (by kernel_rfl) ?_
          simp only [List.take, List.drop, fill, Act.put, List.setIfInBounds_toArray, List.set_cons_zero, List.set_cons_succ, Nat.reduceAdd]
          repeat (first
            | refine Floats.mut rfl ?_
            | (apply Floats.float rfl
               · intro x W he hd K Q hK
                 try (have he := he (by decide); have q0 := he.cell q0; have n1 := he.cell n1; have f1 := he.cell f1)
                 try simp only [edges, DepsE, List.filter_cons, List.filter_nil, Region.binds, if_true, and_true, true_and, upd, Nat.reduceEqDiff, if_false] at hd
                 try simp only [hd] at hK ⊢
                 have HK := Lib.hid hK; clear hK
                 go_wp2_with fail
                 exact HK.out))
          refine Floats.done fun W he hG => ?_
          refine Chain.nil ?_
          simp only [upd, Nat.reduceEqDiff, if_false, if_true]
          go_wp2_with fail
          go_ret
          exact ⟨rfl, hE.trans (HX.out.trans he)⟩
      · obtain rfl : k = a.wvs.length := by omega
        obtain rfl : q = true := by rw [← Hq.out]; exact pm_eq (of_decide_eq_true Hq1.out) Hlen.out fun j hj => hm.out j hj
        go_wp2_with fail
        go_ret
        exact ⟨rfl, hE.trans he⟩
  · have hl1 : ((a.wvs.length : Int) != (b.wvs.length : Int)) = true := by simp; omega
    obtain rfl : q = false := by rw [← Hq.out]; exact pm_ne (.inr fun e => hlen (by rw [e]))
    clear hlen
    go_wp2_with fail
    go_ret
    exact ⟨rfl, hE.trans he2⟩
end Go.Proofs.Pet
