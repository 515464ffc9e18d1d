/-
  LoomBounded, walked.
-/
import Derived.Test.YtfglamdbnclcaaaGreatZE9
import Derived.Test.YtfglamdbnclcaaaGreatZK
import Derived.Test.YtfglamdbnclcaaaGreatR1
import Derived.Test.YtfglamdbnclcaaaGreatO7
import Derived.Deep.DeepCutAuto
namespace Go.Proofs.Pet
set_option linter.unusedSimpArgs false
open Go Go.RowKit Go.Maps Go.Shelf

theorem ShapeTab.at {W : World} {base bx ox cx L N n l : Nat} (h : ShapeTab W base L N n (.slice (some ⟨bx, ox, none⟩) L cx)) (hl : l < L) (hN : 0 < N) :
    ∃ b o c cs, base ≤ bx ∧ Blk W bx 29 cs ∧ cs[ox + l]? = some (.slice (some ⟨b, o, none⟩) N c) ∧ N ≤ c ∧ c ≤ maxLen ∧ ShapeRows W base N n (.slice (some ⟨b, o, none⟩) N c) := by
  obtain ⟨A, c, h1, h2, h3, h4⟩ := h
  obtain ⟨b, o, cs, u, g1, g2, g3, g4, g5⟩ := h4 l hl
  cases h1
  cases g1
  have g5' := g5
  obtain ⟨A', c', rfl, e2, e3, e4⟩ := g5
  obtain ⟨b', o', _, _, rfl, _⟩ := e4 0 hN
  exact ⟨b', o', c', cs, g2, g3, g4, e2, e3, g5'⟩
theorem ShapeRows.at {W : World} {base b o c N n s : Nat} (h : ShapeRows W base N n (.slice (some ⟨b, o, none⟩) N c)) (hs : s < N) :
    ∃ A c' cs, base ≤ b ∧ Blk W b 22 cs ∧ cs[o + s]? = some (.slice A n c') ∧ n ≤ c' ∧ c' ≤ maxLen ∧ ShapeRow W base n (.slice A n c') := by
  obtain ⟨A, c, h1, h2, h3, h4⟩ := h
  obtain ⟨b, o, cs, u, g1, g2, g3, g4, g5⟩ := h4 s hs
  cases h1
  cases g1
  have g5' := g5
  obtain ⟨A', c', rfl, e2, e3, e4⟩ := g5
  exact ⟨A', c', cs, g2, g3, g4, e2, e3, g5'⟩
theorem ShapeRow.at {W : World} {base n k c : Nat} {A : Option Addr} (h : ShapeRow W base n (.slice A n c)) (hk : k < n) :
    ∃ b o cs x, A = some ⟨b, o, none⟩ ∧ base ≤ b ∧ Blk W b 3 cs ∧ cs[o + k]? = some (.int .i64 x) ∧ 0 ≤ x ∧ x ≤ 99 := by
  obtain ⟨A', c', h1, h2, h3, h4⟩ := h
  cases h1
  exact h4 k hk
set_option maxRecDepth 100000 in
set_option maxHeartbeats 8000000 in
theorem loomBounded_any (v v2 : Value) (w : World) (hv : BytesIn w v) (hv2 : BytesIn w v2) :
    Calls Tryz.prog 4 #[v, v2] w fun e w' => e = .returned (.bool true) ∧ Ext w w' := by
  have hmf : ∀ (fn : Fn) (first cap : Array Value) (w : World), (Instr.makeFunc fn first cap).run Tryz.prog w = .ok (.func fn first cap) w := fun _ _ _ _ => rfl
  obtain ⟨ti3, hi3, hx0, hx1, hx2⟩ := info_parts info_slII
  have hwo := Lib.hid (wound_any v w hv)
  have Hv2 := Lib.hid hv2; clear hv hv2
  go_enter Tryz.func4, Tryz.ntmps4
  go_wp2_with fail
  refine hwo.out.mono ?_
  rintro e w1 ⟨rfl, hs1, he1⟩
  clear hwo
  have hma := Lib.hid (madeS_any w.heap.size 0 (by omega) 2 5 (by omega) (by omega) w1 hs1)
  go_wp2_with fail
  refine hma.out.mono ?_
  rintro e w2 ⟨mv, m, rfl, hm, hok, hlm, hom, -, hap⟩
  have hE2 := Apart.ext_of he1 (Nat.le_refl _) hap
  clear hma hs1 he1 hap
  have l3 : m.orders.length ≤ 5 := by omega
  have l2 : m.laced.length ≤ 2 := by omega
  clear hlm hom
  have Hm := Lib.hid hm
  obtain ⟨A1, c1, A2, c2, rfl, q1, q2, q3, q4, -, -⟩ := hm
  have hwo := Lib.hid (wound_any v2 w2 (Hv2.out.ext hE2))
  have l1 := hok.looms
  have Hch := Lib.hid ((check_iff m).2 hok)
  have Hok := Lib.hid hok
  clear hok Hv2 q1 q2 q3 q4
  go_wp2_with fail
  refine hwo.out.mono ?_
  rintro e w3 ⟨rfl, hs3, he3⟩
  clear hwo
  obtain ⟨Q, hQ⟩ : ∃ Q, w2.heap.size = Q := ⟨_, rfl⟩
  have hQw := hE2.size
  rw [hQ] at hs3 hQw ⊢
  have hQ2 : w2.heap.size ≤ Q := by omega
  have hM := Blk.new w3 25 #[.slice A1 m.laced.length c1, .int .i64 m.change, .slice A2 m.orders.length c2]
  have hX := Ext.alloc w3 (.cells #[.slice A1 m.laced.length c1, .int .i64 m.change, .slice A2 m.orders.length c2] 25)
  have hs4 := hs3.ext hX
  have hE24 := he3.trans hX
  have hmd := Lib.hid (made_any _ m Hch.out _ (Hm.out.ext hE24))
  have hQ3 := hs3.lt
  clear hs3 he3 hX hQ
  go_wp2_with fail
  obtain ⟨M, hMe⟩ : ∃ M, w3.heap.size = M := ⟨_, rfl⟩
  rw [hMe] at hM hQ3 ⊢
  generalize w3.alloc _ = W4 at *
  clear hMe
  refine hmd.out.mono ?_
  rintro e w5 ⟨S, rfl, hT, he5⟩
  have hQ4 := hs4.lt
  have hs5 := hs4.ext he5
  have HM : Hid (∀ W, Apart Q w5 W → Blk W M 25 #[.slice A1 m.laced.length c1, .int .i64 m.change, .slice A2 m.orders.length c2]) := fun W ha => (hM.ext he5).apart (by omega) ha
  have HE2 : Hid (∀ W, Apart Q w5 W → Ext w2 W) := fun W ha => Apart.ext_of (hE24.trans he5) hQ2 ha
  have HmV : Hid (∀ W, Apart Q w5 W → MillVal W (.agg #[.slice A1 m.laced.length c1, .int .i64 m.change, .slice A2 m.orders.length c2]) m) := fun W ha => Hm.out.ext (HE2.out W ha)
  have HE : Hid (∀ W, Apart Q w5 W → Ext w W) := fun W ha => hE2.trans (HE2.out W ha)
  have HT : Hid (∀ W, Apart Q w5 W → TabIn W W4.heap.size S m.laced.length (fun i => rowsC m i (2 ^ m.orders.length))) := fun W ha => by
    obtain ⟨cs, e1, e2, e3, e4⟩ := hT
    obtain ⟨sp, s1⟩ : ∃ cs, Blk w5 Q 138 cs := by obtain ⟨_, _, _, _, _, h, _⟩ := hs5; exact ⟨_, h⟩
    have hne : S ≠ Q := e1.ne_ s1 (by decide)
    exact ⟨cs, e1.apart hne ha, e2, fun i hi => by obtain ⟨u, g1, g2⟩ := e3 i hi; exact ⟨u, g1, g2.keepB (KeepB.apart (by omega) ha)⟩, e4⟩
  clear hmd hM hT hs4 hE24 he5 hE2
  obtain ⟨k0, k1, k2⟩ := (HM.out w5 (Apart.refl _ _)).c3
  have hpl := Lib.hid (plan_ok _ m Hch.out w5 (HmV.out w5 (Apart.refl _ _)))
  go_wp2_with fail
  refine hpl.out.mono ?_
  intro e w6 h6
  obtain ⟨rows, pr, em, rfl, hrows, hpe, he6⟩ : ∃ rows pr em, e = .returned (.tuple #[pr, .int .i64 em]) ∧ RowsI w6 pr rows ∧ ((planF m = none ∧ em = 6 ∧ rows = []) ∨ (planF m = some rows ∧ em = 0)) ∧ Ext w5 w6 := by
    rcases h6 with ⟨h1, h2, h3⟩ | ⟨rows, r, h1, h2, h3, h4⟩
    · exact ⟨[], _, 6, h2, ⟨none, 0, rfl, Nat.le_refl _, Nat.zero_le _, fun i hi => absurd hi (by simp)⟩, .inl ⟨h1, rfl, rfl⟩, h3⟩
    · exact ⟨rows, r, 0, h2, h3, .inr ⟨h1, rfl⟩, h4⟩
  clear h6 hpl k0 k1 k2
  have hbd : rows.flatten.length ≤ 100 ∧ rows.length ≤ 1000 := by
    rcases hpe with ⟨_, _, rfl⟩ | ⟨h, _⟩
    · simp
    · have h9 := plan_law Hch.out h
      rw [h9.all, h9.len]; omega
  obtain ⟨q0, h0⟩ : ∃ q0, keptB m rows = q0 := ⟨_, rfl⟩
  obtain ⟨q1, h1⟩ : ∃ q1, keptQ m rows = q1 := ⟨_, rfl⟩
  obtain ⟨nv, hnv⟩ : ∃ nv, (if q0 = true then chgF m rows rows.length else 0) = nv := ⟨_, rfl⟩
  have hkp := kept_any _ pr m Hch.out rows hbd.1 hbd.2 q0 q1 h0 h1 w6 (HmV.out w6 (Apart.of_ext he6)) hrows
  rw [hnv] at hkp
  have Hkp := Lib.hid hkp
  have Hp : Hid ((em = 0 ∧ ∃ rows', planF m = some rows' ∧ nv = chgF m rows' rows'.length) ∨ (em = 6 ∧ planF m = none)) := by
    rcases hpe with ⟨h2, h3, _⟩ | ⟨h2, h3⟩
    · exact .inr ⟨h3, h2⟩
    · refine .inl ⟨h3, rows, h2, ?_⟩
      have h4 := (plan_law Hch.out h2).kept
      unfold keptQ at h4
      rw [← hnv, if_pos (h0 ▸ (Bool.and_eq_true_iff.1 h4).1)]
  clear hkp hnv hbd h0 h1 hpe hrows
  obtain ⟨k0, k1, k2⟩ := (HM.out w6 (Apart.of_ext he6)).c3
  go_wp2_with fail
  refine Hkp.out.mono ?_
  rintro e w7 ⟨rfl, he7⟩
  have hA7 : Apart Q w5 w7 := Apart.of_ext (he6.trans he7)
  have hs7 := hs5.ext (he6.trans he7)
  clear Hkp he6 he7 hs5 k0 k1 k2
  obtain ⟨N, hN⟩ : ∃ N, 2 ^ m.orders.length = N := ⟨_, rfl⟩
  have hN1 : 1 ≤ N := by have := Nat.two_pow_pos m.orders.length; omega
  have hN2 : N ≤ 32 := by
    have h1 : 2 ^ m.orders.length ≤ 2 ^ 5 := Nat.pow_le_pow_right (by omega) l3
    have h2 : (2 : Nat) ^ 5 = 32 := by decide
    omega
  have Hpow : Hid (wrap64 (2 ^ m.orders.length) = (N : Int)) := by unfold Hid; rw [← hN]; exact wrap64_pow' _ (by omega)
  have HN := Lib.hid hN
  clear hN
  go_wp2_with fail
  go_loopw [60] (fun iv wr => ∃ r : Nat, r ≤ 4 ∧ iv = .int .i64 r ∧ SpoolAt wr Q (40 * r) ∧ Apart Q w5 wr) (fun iv _ => 4 - (intOf iv).toNat)
  case atStart => exact ⟨0, by omega, rfl, hs7, hA7⟩
  case round =>
    obtain ⟨r, hr, rfl, hsp, hap⟩ := hrel
    by_cases hlt : r < 4
    · have hr4 : decide ((r : Int) < 4) = true := by rw [decide_eq_true_eq]; omega
      obtain ⟨wo, hwo⟩ : ∃ wo, wo = wr := ⟨_, rfl⟩
      rw [← hwo] at hsp hap ⊢
      clear hwo hs7 hA7
      go_wp2_with fail
      go_loopw [13, 15, 64] (fun mv _ iv wr => ∃ i : Nat, i ≤ m.laced.length ∧ iv = .int .i64 i ∧ Ext wo wr ∧ Hid (OwnT wr wo.heap.size mv ((tabC m).take i))) (fun _ _ iv _ => m.laced.length - (intOf iv).toNat)
      case atStart => exact ⟨0, by omega, rfl, Ext.refl _, OwnT.nil _ _⟩
      case round =>
        obtain ⟨i, hi, rfl, he, hown⟩ := hrel
        by_cases hlt2 : i < m.laced.length
        · -- <<A
          obtain ⟨W2, hW2⟩ : ∃ W2, W2 = wr := ⟨_, rfl⟩
          rw [← hW2] at he hown ⊢
          clear hW2
          have hapW := hap.trans (Apart.of_ext he)
          obtain ⟨u, g1, _, g3⟩ := (HT.out W2 hapW).at hlt2
          have hru := g3.rows
          obtain ⟨Au, cu, rfl, g4, g5, _⟩ := g3.open_
          have Hti : Hid ((tabC m).take (i + 1) = (tabC m).take i ++ [rowsC m i (2 ^ m.orders.length)]) := by
            unfold Hid
            rw [List.take_succ_eq_append_getElem (by rw [tabC_len]; exact hlt2)]
            have := tabC_get hlt2
            rw [List.getElem?_eq_getElem (by rw [tabC_len]; exact hlt2), Option.getD_some] at this
            rw [this]
          obtain ⟨R, hR⟩ : ∃ R, rowsC m i (2 ^ m.orders.length) = R := ⟨_, rfl⟩
          have hRr : Hid (∀ j, j < R.length → (R[j]?.getD []).length = m.orders.length) := fun j hj => by
            rw [← hR, rowsC_len] at hj
            rw [← hR, rowsC_at hj, lst_len]
          have hRl : R.length = N := by rw [← hR, rowsC_len, HN.out]
          have hR32 : R.length ≤ 32 := by rw [hRl]; exact hN2
          rw [hR] at g1 g4 g3 hru
          rw [hR] at Hti
          have hrat : RowsAt W2 Au R := by
            obtain ⟨_, _, e1, _, _, e2⟩ := hru
            cases e1
            exact e2
          have hany : (R.any fun k => decide (k.length ≠ m.orders.length)) = false := by
            rw [List.any_eq_false]
            intro y hy
            obtain ⟨j, hj, rfl⟩ := List.mem_iff_getElem.1 hy
            have := hRr.out j hj
            rw [List.getElem?_eq_getElem hj, Option.getD_some] at this
            simp [this]
          have hcf := containsFuncR 24 #[] #[.pointer (some ⟨M, 0, none⟩)] (enters_of Tryz.func24 (by kernel_rfl) rfl) (fun k => decide (k.length ≠ m.orders.length)) Au cu R W2 (Nat.le_trans hR32 (by decide)) hrat (fun x _ => bd1 W2 M _ _ _ _ _ (HM.out W2 hapW) x)
          rw [hany] at hcf
          have hdr := Lib.hid (fun W he => dupRows_any (.slice Au R.length cu) R (Nat.le_trans hR32 (by decide)) (fun j hj => by rw [hRr.out j hj]; exact Nat.le_trans l3 (by decide)) W (hru.ext he))
          rw [hRl] at g1 hcf hdr g4
          have Hcf := Lib.hid hcf
          unfold maxLen at g5
          clear hR32
          obtain ⟨vs, o1, o2, o3⟩ := hown.out
          have htl : ((tabC m).take i).length = i := by rw [List.length_take, tabC_len]; omega
          rw [htl] at o1 o2 o3
          obtain ⟨Ao, co, rfl⟩ := ownsRow_slice o1
          have O1 := Lib.hid o1; have O2 := Lib.hid o2; have O3 := Lib.hid o3; have Htl := Lib.hid htl
          obtain ⟨k0, k1, k2⟩ := (HM.out W2 hapW).c3
          clear o1 o2 o3 htl hown hR hRr hany hcf hrat hru g3
          have hdn : ((N : Int) != wrap64 (2 ^ m.orders.length)) = false := by rw [Hpow.out]; simp
          go_wp2_with fail
          clear hdn
          refine Hcf.out.mono ?_
          rintro e W3 ⟨rfl, he3⟩
          go_wp2_with fail
          refine (hdr.out W3 he3).mono ?_
          rintro e w3 ⟨rv, rfl, hrv, he4⟩
          obtain ⟨Ar, cr, rfl, r1, r2, r3, r4⟩ := hrv.open_
          have Hrv := Lib.hid hrv
          have hsz3 := (he.trans he3).size
          replace he3 := he3.trans he4
          clear r3 r4 hrv hdr Hcf he4 k0 k1 k2 g1
          rw [hRl] at r1 ⊢
          have hX := Ext.alloc w3 (.cells #[.slice Ar N cr] 29)
          have hrow := ownsRow_ext2 O1.out (he3.trans hX)
          have hsz := (he.trans he3).size
          have hsrc := Src.one w3 (.slice Ar N cr) 29
          have hge : ∀ j, (Value.slice Ao i co).ownBlock = some j → wo.heap.size ≤ j := fun j hj => (own_ge2 hrow j hj).1
          have Hge := Lib.hid hge
          clear hge
          go_wp2_with (at_builtin; refine wpList_app rfl _ _ 33 rfl wo.heap.size 29 ti3 (.slice none 0 0) 1 24 Tryz.underlying33 hi3 hx0 hx1 hx2 rfl (by decide) _ _ _ rfl hrow (some ⟨w3.heap.size, 0, none⟩) 1 1 [.slice Ar N cr] rfl rfl hsrc ?c2 ?c3 ?c4 ?c5 ?_; (case c2 => (intro u hu; rw [List.mem_singleton] at hu; subst hu; rfl)); (case c3 => (unfold maxLen; omega)); (case c4 => omega); (case c5 => (simp; omega)); intro v' w4 hown' hg hblk)
          go_roundw
          case rel =>
            refine ⟨i + 1, by omega, by go_num, ext_grown (he.trans he3) hg Hge.out, ?_⟩
            unfold Hid
            rw [Hti.out]
            refine OwnT.push Htl.out hrow O2.out (fun j hj => (O3.out j hj).ext (he3.trans hX)) ?_ hown' hg
            have h9 := (Hrv.out.ext hX).mono hsz3
            rw [hRl] at h9
            exact h9
          case measure => simp [intOf]; omega
          -- >>
        · obtain rfl : i = m.laced.length := by omega
          obtain ⟨W2, hW2⟩ : ∃ W2, W2 = wr := ⟨_, rfl⟩
          rw [← hW2] at he hown ⊢
          clear hW2
          have hown' := hown.out
          rw [List.take_of_length_le (by rw [tabC_len]; exact Nat.le_refl _)] at hown'
          have hsh := hown'.shape (tabC_ok Hch.out)
          rw [HN.out] at hsh
          have hsh' := hsh
          obtain ⟨Ax, cx, rfl, x2, x3, x4⟩ := hsh
          obtain ⟨bx, ox, _, _, rfl, x5, _⟩ := x4 0 (by omega)
          have hQx : Q < wo.heap.size := hsp.lt
          have hap2 := hap.trans (Apart.of_ext he)
          have hsp2 := hsp.ext he
          obtain ⟨base, hbase⟩ : ∃ base, wo.heap.size = base := ⟨_, rfl⟩
          have hw5 := hap.size
          rw [hbase] at hsh' x5 hQx hw5
          have hST := Lib.hid hsh'
          clear hown hown' x4 hsh' hbase hsp hap he
          unfold maxLen at x3
          have hup := Lib.hid (upto_any Q _ (by omega) 5 (by omega) 5 (by omega) W2 hsp2)
          go_wp2_with fail
          refine hup.out.mono ?_
          rintro e W3 ⟨r5, rfl, hr1, hr2, hs3, ha3⟩
          obtain ⟨rn, rfl⟩ : ∃ rn : Nat, r5 = (rn : Int) := ⟨r5.toNat, by omega⟩
          have hrn : rn ≤ 5 := by omega
          replace hST := Lib.hid (hST.out.keep (KeepT.apart (base := base) (by omega) ha3))
          replace hap2 := hap2.trans ha3
          clear hup hsp2 ha3 hr1 hr2
          go_wp2_with fail
          go_loopw [16, 17, 88] (fun _ _ iv wr => ∃ j : Nat, j ≤ rn ∧ iv = .int .i64 j ∧ SpoolAt wr Q (40 * r + 1 + 4 * j) ∧ Apart Q w5 wr ∧ Hid (ShapeTab wr base m.laced.length N m.orders.length (.slice (some ⟨bx, ox, none⟩) m.laced.length cx))) (fun _ _ iv _ => rn - (intOf iv).toNat)
          case atStart => exact ⟨0, by omega, rfl, hs3, hap2, hST⟩
          case round =>
            clear hs3 hap2 hST
            obtain ⟨j, hj, rfl, hsp, hap, hST⟩ := hrel
            obtain ⟨W2, hW2⟩ : ∃ W2, W2 = wr := ⟨_, rfl⟩
            rw [← hW2] at hsp hap hST ⊢
            clear hW2
            by_cases hlj : j < rn
            · -- <<B
              have hnx : bx ≠ Q := by omega
              go_upto_region 19 with fail
              refine wp_region_treeG (Apart Q W2) (Apart.of_ext (Ext.drew _)) 17 [(5, true), (14, true)] [] (by kernel_rfl) (by kernel_rfl) (by kernel_rfl) (ds := [0, 1, 2, 3, 4, 8, 9, 10, 11, 12, 13]) (by kernel_rfl) ?_
              simp only [List.take, List.drop, fill, Act.put, List.setIfInBounds_toArray, List.set_cons_zero, List.set_cons_succ, Nat.reduceAdd]
              repeat (first
                | (apply Unlock.float rfl
                   · intro x W he hd K Qr hK
                     try (have he := he (by decide); obtain ⟨k0, k1, k2⟩ := (HM.out _ (hap.trans he)).c3)
                     try simp only [edges, DepsE, List.filter_cons, List.filter_nil, Region.binds, if_true, and_true, true_and, upd, Nat.reduceEqDiff, if_false] at hd
                     try simp only [hd] at hK ⊢
                     have HK := Lib.hid hK; clear hK
                     go_wp2_with fail
                     exact HK.out))
              refine Unlock.nil ?_
              intro W he hG
              have hspW := hsp.ext he
              refine Tree.next (ks := [(5, true)]) (by kernel_rfl) ?_
              refine TSteps.cons _ rfl ?_ trivial
              intro x hd K Qr hK
              try simp only [edges, DepsE, List.filter_cons, List.filter_nil, Region.binds, if_true, and_true, true_and, upd, Nat.reduceEqDiff, if_false] at hd
              try simp only [hd] at hK ⊢
              clear hd
              have HK := Lib.hid hK; clear hK
              have hup := Lib.hid (upto_any Q _ (by omega) ((m.laced.length : Int) - 1) (by omega) ((m.laced.length : Int) - 1) (by omega) W hspW)
              clear hspW he
              go_wp2_with fail
              refine hup.out.mono ?_
              rintro e W3 ⟨ra, rfl, hr1, hr2, hs3, ha3⟩
              obtain ⟨a, rfl⟩ : ∃ a : Nat, ra = (a : Int) := ⟨ra.toNat, by omega⟩
              have hal : a < m.laced.length := by omega
              replace ha3 := hG.trans ha3
              obtain ⟨ba, oa, ca, csa, f1, f2, f3, f4, f5, f6⟩ := hST.out.at hal (by omega)
              have hca : Hid (∀ W, Apart Q W2 W → W.cell? ⟨bx, ox + a, none⟩ = some (.slice (some ⟨ba, oa, none⟩) N ca)) := fun W ha => by rw [(f2.apart hnx ha).cell]; exact f3
              unfold maxLen at f5
              have F6 := Lib.hid f6
              clear hup hr1 hr2 f1 f2 f3 f6 hG
              go_wp2_with fail
              refine HK.out _ _ (fun _ => ha3) ?_
              clear HK
              refine Unlock.of (ds := [6, 7]) (by kernel_rfl) ?_
              repeat (first
                | (apply Unlock.float rfl
                   · intro x W he hd K Qr hK
                     try (have he := he (by decide); have hcW := hca.out _ he)
                     try simp only [edges, DepsE, List.filter_cons, List.filter_nil, Region.binds, if_true, and_true, true_and, upd, Nat.reduceEqDiff, if_false] at hd
                     try simp only [hd] at hK ⊢
                     have HK := Lib.hid hK; clear hK
                     go_wp2_with fail
                     exact HK.out))
              refine Unlock.nil ?_
              refine Tree.next (ks := [(14, true)]) (by kernel_rfl) ?_
              refine TSteps.cons _ rfl ?_ trivial
              intro x hd K Qr hK
              try simp only [edges, DepsE, List.filter_cons, List.filter_nil, Region.binds, if_true, and_true, true_and, upd, Nat.reduceEqDiff, if_false] at hd
              try simp only [hd] at hK ⊢
              clear hd
              have HK := Lib.hid hK; clear hK
              have hup := Lib.hid (upto_any Q _ (by omega) ((N : Int) - 1) (by omega) ((N : Int) - 1) (by omega) W3 hs3)
              have e103 : wrap64 (wrap64 (2 ^ m.orders.length) - 1) = (N : Int) - 1 := by rw [Hpow.out]; exact IntWalk.wrap64_in _ (by omega)
              simp only [e103] at HK ⊢
              clear e103
              go_wp2_with fail
              refine hup.out.mono ?_
              rintro e W4' ⟨rb, rfl, hr1, hr2, hs4, ha4⟩
              obtain ⟨b, rfl⟩ : ∃ b : Nat, rb = (b : Int) := ⟨rb.toNat, by omega⟩
              have hbl : b < N := by omega
              replace ha4 := ha3.trans ha4
              obtain ⟨Ab, cb, csb, g1, g2, g3, g4, g5, g6⟩ := F6.out.at hbl
              have hna : ba ≠ Q := by omega
              have hcb : Hid (∀ W, Apart Q W2 W → W.cell? ⟨ba, oa + b, none⟩ = some (.slice Ab m.orders.length cb)) := fun W ha => by rw [(g2.apart hna ha).cell]; exact g3
              unfold maxLen at g5
              have G6 := Lib.hid g6
              clear hup hr1 hr2 g1 g2 g3 g6 hs3 ha3 hsp
              go_wp2_with fail
              refine HK.out _ _ (fun _ => ha4) ?_
              clear HK
              refine Unlock.of (ds := [15, 16]) (by kernel_rfl) ?_
              repeat (first
                | (apply Unlock.float rfl
                   · intro x W he hd K Qr hK
                     try (have he := he (by decide); have hcW := hcb.out _ he)
                     try simp only [edges, DepsE, List.filter_cons, List.filter_nil, Region.binds, if_true, and_true, true_and, upd, Nat.reduceEqDiff, if_false] at hd
                     try simp only [hd] at hK ⊢
                     have HK := Lib.hid hK; clear hK
                     go_wp2_with fail
                     exact HK.out))
              refine Unlock.nil ?_
              refine Tree.nil (by kernel_rfl) ?_
              simp only [upd, Nat.reduceEqDiff, if_false, if_true]
              have hap4 := hap.trans ha4
              have hST4 := Lib.hid (hST.out.keep (KeepT.apart hQx ha4))
              have hrow := G6.out.keep (KeepT.apart hQx ha4)
              clear hca hcb F6 G6 hST ha4 hap f4 f5
              by_cases hn0 : 0 < m.orders.length
              · have hHrow := Lib.hid hrow
                have hup := Lib.hid (upto_any Q _ (by omega) ((m.orders.length : Int) - 1) (by omega) ((m.orders.length : Int) - 1) (by omega) W4' hs4)
                obtain ⟨bc, oc, _, _, rfl, e1, _⟩ := hrow.at hn0
                have hnc : bc ≠ Q := by omega
                go_wp2_with fail
                refine hup.out.mono ?_
                rintro e W5 ⟨rc, rfl, hr1, hr2, hs5, ha5⟩
                obtain ⟨c, rfl⟩ : ∃ c : Nat, rc = (c : Int) := ⟨rc.toNat, by omega⟩
                have hcl : c < m.orders.length := by omega
                obtain ⟨bc', oc', csc, xn, e0, _, e2, e3, e4, e5⟩ := (hHrow.out.keep (KeepT.apart hQx ha5)).at hcl
                cases e0
                have hST5 := Lib.hid (hST4.out.keep (KeepT.apart hQx ha5))
                have hap5 := hap4.trans ha5
                have hcc : Hid (∀ W, Apart Q W5 W → W.cell? ⟨bc, oc + c, none⟩ = some (.int .i64 xn)) := fun W ha => by rw [(e2.apart hnc ha).cell]; exact e3
                have E2 := Lib.hid e2
                clear hup hr1 hr2 hST4 hap4 ha5 hHrow hs4 e2 e3
                go_wp2_with fail
                go_upto_region 22 with fail
                refine wp_region_treeG (Apart Q W5) (Apart.of_ext (Ext.drew _)) 9 [(5, true)] [] (by kernel_rfl) (by kernel_rfl) (by kernel_rfl) (ds := [0, 1, 2, 3, 4]) (by kernel_rfl) ?_
                simp only [List.take, List.drop, fill, Act.put, List.setIfInBounds_toArray, List.set_cons_zero, List.set_cons_succ, Nat.reduceAdd]
                repeat (first
                  | (apply Unlock.float rfl
                     · intro x W he hd K Qr hK
                       try (have he := he (by decide); have hcW := hcc.out _ he)
                       try simp only [edges, DepsE, List.filter_cons, List.filter_nil, Region.binds, if_true, and_true, true_and, upd, Nat.reduceEqDiff, if_false] at hd
                       try simp only [hd] at hK ⊢
                       have HK := Lib.hid hK; clear hK
                       go_wp2_with fail
                       exact HK.out))
                refine Unlock.nil ?_
                intro W he hG
                have hspW := hs5.ext he
                refine Tree.next (ks := [(5, true)]) (by kernel_rfl) ?_
                refine TSteps.cons _ rfl ?_ trivial
                intro x hd K Qr hK
                try simp only [edges, DepsE, List.filter_cons, List.filter_nil, Region.binds, if_true, and_true, true_and, upd, Nat.reduceEqDiff, if_false] at hd
                try simp only [hd] at hK ⊢
                clear hd
                have HK := Lib.hid hK; clear hK
                have hfr := Lib.hid (from_any Q _ (by omega) (-2) 1 (by omega) 1 (by omega) W hspW)
                clear hspW he
                go_wp2_with fail
                refine hfr.out.mono ?_
                rintro e W6 ⟨ry, rfl, hr1, hr2, hs6, ha6⟩
                replace ha6 := hG.trans ha6
                clear hfr hs5 hG
                go_wp2_with fail
                refine HK.out _ _ (fun _ => ha6) ?_
                clear HK
                refine Unlock.of (ds := [6, 7, 8]) (by kernel_rfl) ?_
                repeat (first
                  | (apply Unlock.float rfl
                     · intro x W he hd K Qr hK
                       try (have he := he (by decide))
                       try simp only [edges, DepsE, List.filter_cons, List.filter_nil, Region.binds, if_true, and_true, true_and, upd, Nat.reduceEqDiff, if_false] at hd
                       try simp only [hd] at hK ⊢
                       have HK := Lib.hid hK; clear hK
                       go_wp2_with fail
                       exact HK.out))
                refine Unlock.nil ?_
                refine Tree.nil (by kernel_rfl) ?_
                simp only [upd, Nat.reduceEqDiff, if_false, if_true]
                have hb6 := E2.out.apart hnc ha6
                have hf6 := hb6.frozen (oc + c)
                have hc6 := hcc.out W6 ha6
                have hmm := min_max (xn + ry)
                go_wp2_with fail
                go_roundw
                case rel =>
                  refine ⟨j + 1, by omega, by go_num, ?_, ?_, ?_⟩
                  · exact (hs6.apart (g := bc) (by omega) ((Apart.refl _ _).set_ _ _)).mono (by omega)
                  · exact (hap5.trans ha6).above (by show _ ≤ bc; omega) _
                  · exact (hST5.out.keep (KeepT.apart hQx ha6)).keep (KeepT.set_ hb6 hmm.1 hmm.2)
                case measure => simp [intOf]; omega
              · have hn0' : m.orders.length = 0 := by omega
                clear hn0
                go_wp2_with fail
                go_roundw
                case rel => exact ⟨j + 1, by omega, by go_num, hs4.mono (by omega), hap4, hST4⟩
                case measure => simp [intOf]; omega
              -- >>
            · -- <<C
              obtain rfl : j = rn := by omega
              have hST' := hST.out
              rw [← HN.out] at hST'
              obtain ⟨T, hTI, hTok⟩ := hST'.tab Hch.out
              obtain ⟨q, n', g, hb, hl, hcase⟩ := bounded_law Hok.out hTok.tabE
              have hlen : T.length = m.laced.length := hTok.len
              have hbt := Lib.hid (boundsTop_any _ _ m T q 0 hb W2 (HmV.out W2 hap) (hTI W2 (KeepB.refl _ _)))
              have hlt := Lib.hid (fun W he => leastTop_any _ _ m T n' g hl W (HmV.out W (hap.trans (Apart.of_ext he))) (hTI W (KeepB.ext he)))
              have HTI := Lib.hid hTI; have HTok := Lib.hid hTok
              have Hcase := Lib.hid hcase
              clear hTI hTok hcase hST' hST hb hl hlen
              obtain ⟨k0, k1, k2⟩ := (HM.out W2 hap).c3
              go_wp2_with fail
              refine hbt.out.mono ?_
              rintro e w8 ⟨rfl, he8⟩
              clear hbt k0 k1 k2
              obtain ⟨k0, k1, k2⟩ := (HM.out w8 (hap.trans (Apart.of_ext he8))).c3
              go_wp2_with fail
              refine (hlt.out w8 he8).mono ?_
              rintro e w9 ⟨rfl, he9⟩
              replace he9 := he8.trans he9
              have hap9 := hap.trans (Apart.of_ext he9)
              have hs9 := hsp.ext he9
              clear he8 hlt k0 k1 k2 hap hsp
              rcases Hcase.out with ⟨rfl, rfl⟩ | ⟨rfl, hB, hg, hpl⟩
              · clear Hcase
                go_wp2_with fail
                go_roundw
                case rel => exact ⟨r + 1, by omega, by go_num, hs9.mono (by omega), hap9⟩
                case measure => simp [intOf]; omega
              · have HB := Lib.hid hB
                have hways : (em = 0 ∧ g = 0 ∧ n' ≤ nv) ∨ (em = 6 ∧ (g = 0 ∨ g = 6)) := by
                  rcases Hp.out with ⟨h1, rows', h2, h3⟩ | ⟨h1, h2⟩
                  · obtain ⟨h4, h5⟩ := hpl rows' h2
                    exact .inl ⟨h1, h4, by omega⟩
                  · exact .inr ⟨h1, hg⟩
                clear hB hg hpl Hcase
                go_upto_region 26 with fail
                go_cut [175] (fun s wx => s = .bool false ∧ w9 = wx)
                case first =>
                  rcases hways with ⟨rfl, rfl, hle⟩ | ⟨rfl, rfl | rfl⟩
                  · have hd : decide (nv < n') = false := by rw [decide_eq_false_iff_not]; omega
                    clear hle
                    go_wp2_with fail
                    go_meet
                    exact ⟨rfl, rfl⟩
                  · go_wp2_with fail
                    go_meet
                    exact ⟨rfl, rfl⟩
                  · go_wp2_with fail
                    go_meet
                    exact ⟨rfl, rfl⟩
                case rest =>
                  obtain ⟨rfl, rfl⟩ := hcut
                  -- <<D
                  have hgv := Lib.hid (given5_any Q _ (by omega) _ m Hok.out w2 w9 Hm.out (HE2.out w9 hap9) hQ2 hs9)
                  obtain ⟨k0, k1, k2⟩ := (HM.out w9 hap9).c3
                  go_wp2_with fail
                  refine hgv.out.mono ?_
                  rintro e w10 ⟨gr, X, rfl, hgr, hgk, hs10, ha10⟩
                  have hap10 := hap9.trans ha10
                  obtain ⟨Ag, cg, rfl, y2, y3, y4⟩ := hgr
                  rw [List.length_map, List.length_range] at y2 y4 ⊢
                  have Y4 := Lib.hid y4; have Hgk := Lib.hid hgk
                  have HTI10 : Hid (∀ W, Ext w10 W → TabI W (.slice (some ⟨bx, ox, none⟩) m.laced.length cx) T) := fun W he => HTI.out W ((KeepB.ext he9).trans ((KeepB.apart hQx ha10).trans (KeepB.ext he)))
                  have Hs10 := Lib.hid hs10
                  unfold maxLen at y3
                  clear hgv k0 k1 k2 y4 hgk HTI he9 hap9 hs9 ha10 hs10
                  go_wp2_with fail
                  go_loopw [22, 23, 24, 25, 26, 28, 182] (fun _ _ _ _ _ _ iv wr => ∃ l : Nat, l ≤ m.laced.length ∧ iv = .int .i64 l ∧ Ext w10 wr) (fun _ _ _ _ _ _ iv _ => m.laced.length - (intOf iv).toNat)
                  case atStart => exact ⟨0, by omega, rfl, Ext.refl _⟩
                  case round =>
                    obtain ⟨l, hl, rfl, he⟩ := hrel
                    obtain ⟨W2', hW2⟩ : ∃ W2, W2 = wr := ⟨_, rfl⟩
                    rw [← hW2] at he ⊢
                    clear hW2
                    by_cases hll : l < m.laced.length
                    · have hl4 : decide ((l : Int) < (m.laced.length : Int)) = true := by rw [decide_eq_true_eq]; omega
                      obtain ⟨bg, og, u, rfl, z1, z2⟩ := Y4.out l hll
                      have z1 := he.cell z1
                      have z2 := z2.ext he
                      rw [List.getElem?_map, List.getElem?_range hll, Option.map_some, Option.getD_some] at z2
                      have hgl : (X l).length ≤ m.orders.length ∧ ∀ x, x ∈ X l → 0 ≤ x ∧ x < m.orders.length := ⟨by have := Hgk.out.len hll; simpa [ints] using this, fun x hx => Hgk.out.rng l x hx⟩
                      obtain ⟨xs, hxs⟩ : ∃ xs, X l = xs := ⟨_, rfl⟩
                      rw [hxs] at z2 hgl
                      obtain ⟨A', c', rfl, z3, z4, z5⟩ := z2
                      obtain ⟨g1, g2⟩ := hgl
                      have G2 := Lib.hid g2
                      obtain ⟨qw, hqw⟩ : ∃ q, okW m l xs = q := ⟨_, rfl⟩
                      obtain ⟨ch, hch⟩ : ∃ ch, (if qw = true then chR m l (rvI xs) else 0) = ch := ⟨_, rfl⟩
                      have hwv := woven_any _ m Hch.out l hll A' c' xs z3 z4 (by omega) qw hqw W2' (HmV.out W2' (hap10.trans (Apart.of_ext he))) z5
                      rw [hch] at hwv
                      have Hwv := Lib.hid hwv
                      have Hx := Lib.hid z5
                      have hlt32 : Hid (∀ k, setF (xs.take k) < N) := fun k => by rw [← HN.out]; exact setF_lt xs (fun x hx => G2.out x hx) k
                      have Hrun : Hid (qw = true → ∀ hne : xs ≠ [], tabF T l (setF xs) (xs.getLast hne).toNat ≤ ch) := fun h hne => by
                        rw [← hch, if_pos h]
                        exact HB.out.run Hok.out hll (hqw.trans h) hne
                      unfold maxLen at z4
                      obtain ⟨k0, k1, k2⟩ := (HM.out W2' (hap10.trans (Apart.of_ext he))).c3
                      clear hwv z5 g2 hqw hch hxs
                      go_wp2_with fail
                      refine Hwv.out.mono ?_
                      rintro e w11 ⟨rfl, he11⟩
                      replace he := he.trans he11
                      have Hx11 := Lib.hid (Hx.out.ext he11)
                      clear Hwv k0 k1 k2 he11 Hx z1
                      go_wp2_with fail
                      go_loopw [26, 28, 196] (fun sv _ iv wr => ∃ (k t : Nat), k ≤ xs.length ∧ iv = .int .i64 k ∧ sv = .int .i64 t ∧ t < N ∧ Hid (setF (xs.take k) = t) ∧ w11 = wr) (fun _ _ iv _ => xs.length - (intOf iv).toNat)
                      case atStart => exact ⟨0, 0, by omega, rfl, rfl, by omega, rfl, rfl⟩
                      case round =>
                        obtain ⟨k, t, hk, rfl, rfl, ht, hst, rfl⟩ := hrel
                        by_cases hlk : k < xs.length
                        · obtain ⟨b, o, rfl, q1⟩ := Hx11.out k hlk
                          have hxk := G2.out (xs[k]?.getD 0) (by simp [hlk])
                          obtain ⟨Y, hY⟩ : ∃ Y : Nat, xs[k]?.getD 0 = (Y : Int) := ⟨(xs[k]?.getD 0).toNat, by omega⟩
                          have hn2 : Hid (setF (xs.take (k + 1)) = t ||| 2 ^ Y) := by
                            unfold Hid
                            rw [List.take_succ_eq_append_getElem hlk, setF_snoc, hst.out]
                            have : xs[k] = (Y : Int) := by simpa [hlk] using hY
                            rw [this]; rfl
                          have ht2 : t ||| 2 ^ Y < N := by rw [← hn2.out]; exact hlt32.out (k + 1)
                          rw [hY] at q1 hxk
                          clear hY
                          have hp : 2 ^ Y ≤ 64 := by
                            have h1 : 2 ^ Y ≤ 2 ^ 6 := Nat.pow_le_pow_right (by omega) (by omega)
                            have h2 : (2 : Nat) ^ 6 = 64 := by decide
                            omega
                          have hpo : (2 : Int) ^ Y = ((2 ^ Y : Nat) : Int) := by simp
                          have hor := or64 t (2 ^ Y) (by omega) (by omega)
                          obtain ⟨P, hP⟩ : ∃ P, 2 ^ Y = P := ⟨_, rfl⟩
                          rw [hP] at hpo hor hp ht2
                          simp only [hP] at hn2
                          clear hP
                          generalize t ||| P = t' at *
                          go_wp2_with fail
                          go_roundw
                          case rel => exact ⟨k + 1, t', by omega, by go_num, rfl, ht2, hn2, by trivial⟩
                          case measure => simp [intOf]; omega
                        · obtain rfl : k = xs.length := by omega
                          have hst' : Hid (setF xs = t) := by have := hst.out; rwa [List.take_of_length_le (Nat.le_refl _)] at this
                          clear hst
                          cases qw with
                          | false =>
                            go_wp2_with fail
                            go_quiet (fail)
                            go_wp2_with fail
                            go_roundw
                            case rel => exact ⟨l + 1, by omega, by go_num, he.trans (Ext.drewN _ _)⟩
                            case measure => simp [intOf]; omega
                          | true =>
                            by_cases hx0 : 0 < xs.length
                            · have hne : xs ≠ [] := fun h => by rw [h] at hx0; simp at hx0
                              have hrun := Hrun.out rfl hne
                              obtain ⟨y, hy⟩ : ∃ y, xs.length = y + 1 := ⟨xs.length - 1, by omega⟩
                              obtain ⟨bo, oo, rfl, q1⟩ := Hx11.out y (by omega)
                              have hlast : xs.getLast hne = xs[y]?.getD 0 := by
                                rw [List.getLast_eq_getElem, List.getElem?_eq_getElem (by omega), Option.getD_some]
                                simp only [hy, Nat.add_sub_cancel]
                              have hxk := G2.out (xs[y]?.getD 0) (by simp [show y < xs.length by omega])
                              obtain ⟨Y, hY⟩ : ∃ Y : Nat, xs[y]?.getD 0 = (Y : Int) := ⟨(xs[y]?.getD 0).toNat, by omega⟩
                              rw [hlast, hY, hst'.out] at hrun
                              rw [hY] at q1 hxk
                              have hYl : Y < m.orders.length := by omega
                              have hyx : y < xs.length := by omega
                              obtain ⟨Tl, hTl⟩ : ∃ Tl, T[l]?.getD [] = Tl := ⟨_, rfl⟩
                              obtain ⟨Tk, hTk⟩ : ∃ Tk, Tl[t]?.getD [] = Tk := ⟨_, rfl⟩
                              have hTll : Tl.length = N := by rw [← hTl, HTok.out.rows l hll, HN.out]
                              have hTkl : Tk.length = m.orders.length := by rw [← hTk, ← hTl]; exact HTok.out.nums l t hll (by rw [HN.out]; exact ht)
                              have hz : tabF T l t Y = Tk[Y]?.getD 0 := by rw [← hTk, ← hTl]; rfl
                              obtain ⟨_, _, e1, _, _, e2⟩ := HTI10.out w11 he
                              simp only [Value.slice.injEq] at e1
                              obtain ⟨rfl, e1, -⟩ := e1
                              obtain ⟨_, _, u1, e3, e4, e5⟩ := e2 l (by omega)
                              cases e3
                              rw [hTl] at e5
                              obtain ⟨A3, c3, rfl, e6, e7, e8⟩ := e5
                              rw [hTll] at e4 e6 e8
                              obtain ⟨b3, o3, u3, rfl, f1, f2⟩ := e8 t ht
                              rw [hTk] at f2
                              obtain ⟨A4, c4, rfl, f3, f4, f5⟩ := f2
                              rw [hTkl] at f1 f3
                              obtain ⟨b4, o4, rfl, f6⟩ := f5 Y (by rw [hTkl]; exact hYl)
                              rw [Int.toNat_natCast, hz] at hrun
                              obtain ⟨z, hzz⟩ : ∃ z, Tk[Y]?.getD 0 = z := ⟨_, rfl⟩
                              rw [hzz] at hrun f6
                              have hd : decide (ch < z) = false := by rw [decide_eq_false_iff_not]; omega
                              unfold maxLen at e7 f4
                              clear hzz hz hTk hTkl hTll hTl e1 e2 e8 f5 hlast hrun hne hY hyx
                              generalize hxl : xs.length = xl at *
                              subst hy
                              clear hxl
                              skip
                              go_wp2_with fail
                              skip; skip
                              go_quiet (fail)
                              skip; skip; skip
                              go_wp2_with fail
                              go_roundw
                              case rel => exact ⟨l + 1, by omega, by go_num, he.trans (Ext.drewN _ _)⟩
                              case measure => simp [intOf]; omega
                            · have hx0' : xs.length = 0 := by omega
                              clear hx0
                              go_wp2_with fail
                              go_quiet (fail)
                              go_wp2_with fail
                              go_roundw
                              case rel => exact ⟨l + 1, by omega, by go_num, he.trans (Ext.drewN _ _)⟩
                              case measure => simp [intOf]; omega
                    · obtain rfl : l = m.laced.length := by omega
                      go_wp2_with fail
                      go_roundw
                      case rel => exact ⟨r + 1, by omega, by go_num, (Hs10.out.ext he).mono (by omega), hap10.trans (Apart.of_ext he)⟩
                      case measure => simp [intOf]; omega
                  -- >>
              -- >>
    · obtain rfl : r = 4 := by omega
      go_wp2_with fail
      refine (awake_any wr).mono ?_
      rintro e w8 ⟨rfl, he8⟩
      go_wp2_with fail
      go_ret
      exact ⟨rfl, (HE.out wr hap).trans he8⟩
end Go.Proofs.Pet
