/-
  LoomLater, walked.
-/
import Derived.Test.YtknokjnplbdmeaaR1
import Derived.Test.YtknokjnplbdmeaaR4
import Derived.Test.YtknokjnplbdmeaaR5
import Derived.Test.YtknokjnplbdmeaaO3
import Derived.Test.YtknokjnplbdmeaaP21
import Derived.Deep.DeepCutAuto
namespace Go.Proofs.Pet
set_option linter.unusedSimpArgs false
open Go Go.RowKit Go.Maps Go.Shelf

set_option maxRecDepth 100000 in
set_option maxHeartbeats 4000000 in
theorem loomLater_any (v : Value) (which later on : Int) (w : World) (hv : BytesIn w v) (hwh : 0 ≤ which ∧ which < 256) (hla : 0 ≤ later ∧ later < 256) (hon : 0 ≤ on ∧ on < 256) :
    Calls Try.prog 12 #[v, .int .u8 which, .int .u8 later, .int .u8 on] w fun e w' => e = .returned (.bool true) ∧ Ext w w' := by
  obtain ⟨ti, hi, hz0, hz1, hz2⟩ := info_parts info_int
  have hwo := Lib.hid (wound_any v w hv)
  have Hv := Lib.hid hv; clear hv
  obtain ⟨wh, rfl⟩ : ∃ wh : Nat, which = wh := ⟨which.toNat, by omega⟩
  obtain ⟨la, rfl⟩ : ∃ la : Nat, later = la := ⟨later.toNat, by omega⟩
  obtain ⟨nn, rfl⟩ : ∃ nn : Nat, on = nn := ⟨on.toNat, by omega⟩
  go_enter Try.func12, Try.ntmps12
  go_wp2_with fail
  refine hwo.out.mono ?_
  rintro e w1 ⟨rfl, hs1, he1⟩
  clear hwo
  have hma := Lib.hid (madeS_any w.heap.size 0 (by omega) 3 7 (by omega) (by omega) w1 hs1)
  go_wp2_with fail
  refine hma.out.mono ?_
  rintro e w2 ⟨mv, m, rfl, hm, hok, hlm, hom, _, hap⟩
  have hE := Apart.ext_of he1 (Nat.le_refl _) hap
  have hch := (check_iff m).2 hok
  clear hma hs1 he1 hap hlm hom
  obtain ⟨l1, l2, l3⟩ := check_len hch
  have Hm := Lib.hid hm
  obtain ⟨A1, c1, A2, c2, rfl, q1, q2, q3, q4, _, _⟩ := hm
  have hM := Blk.new w2 25 #[.slice A1 m.laced.length c1, .int .i64 m.change, .slice A2 m.orders.length c2]
  have hX := Ext.alloc w2 (.cells #[.slice A1 m.laced.length c1, .int .i64 m.change, .slice A2 m.orders.length c2] 25)
  have how := Lib.hid (own_sep _ m _ (Hm.out.ext hX) hok.great)
  have Hch := Lib.hid hch; have Hok := Lib.hid hok
  clear hch hok
  obtain ⟨k0, k1, k2⟩ := hM.c3
  go_wp2_with fail
  obtain ⟨M, hMe⟩ : ∃ M, w2.heap.size = M := ⟨_, rfl⟩
  rw [hMe] at hM ⊢
  have hE := hE.trans hX
  have Hm := Lib.hid (Hm.out.ext hX)
  generalize w2.alloc _ = W2 at *
  clear hMe hX k0 k1 k2 q1 q2 q3 q4
  refine how.out.mono ?_
  rintro e w3 ⟨a, b, rfl, hl, hsep, he3⟩
  clear how
  obtain ⟨Aa, ca, rfl, a1, a2, a3, a4, a5⟩ := hl.open_
  obtain ⟨Ab, cb, rfl, b1, b2, b3⟩ := hsep.ords
  have hal : ∀ g, (Value.slice Aa m.laced.length ca).ownBlock = some g → g < w3.heap.size := fun g hg => (hl.own_lt g hg).2
  clear a3 a4 a5 b3
  have hX := Ext.alloc w3 (.cells #[.slice Aa m.laced.length ca, .int .i64 m.change, .slice Ab m.orders.length cb] 25)
  have hU := Blk.new w3 25 #[.slice Aa m.laced.length ca, .int .i64 m.change, .slice Ab m.orders.length cb]
  have hUg : W2.heap.size ≤ w3.heap.size := he3.size
  have hM3 := (hM.ext he3).ext hX
  have Hm3 := Lib.hid ((Hm.out.ext he3).ext hX)
  have Hl := Lib.hid (hl.ext hX); have Hs := Lib.hid (hsep.ext hX)
  have Hal := Lib.hid (fun g hg => Nat.lt_of_lt_of_le (hal g hg) hX.size)
  obtain ⟨U, hUe⟩ : ∃ U, w3.heap.size = U := ⟨_, rfl⟩
  have hE3 := he3.trans hX
  obtain ⟨k0, k1, k2⟩ := hM3.c3
  clear hl hsep hal
  go_upto_if 33 with fail
  rw [hUe] at hU hUg
  clear hUe hX he3
  generalize w3.alloc _ = W3 at *
  go_cut [] (fun wx => ∃ u, Hid (Eased m u ∧ MillOk u ∧ u.laced = m.laced ∧ u.change = m.change ∧ u.orders.length = m.orders.length) ∧ Ext W2 wx ∧ Blk wx U 25 #[.slice Aa m.laced.length ca, .int .i64 m.change, .slice Ab m.orders.length cb] ∧ Hid (OwnI wx W2.heap.size 3 (.slice Aa m.laced.length ca) u.laced ∧ OwnSep wx W2.heap.size (.slice Aa m.laced.length ca) (.slice Ab m.orders.length cb) u.orders))
  case first =>
    by_cases hn : 0 < m.orders.length
    · obtain ⟨gB, cB, cur, f, eB, hS⟩ := Hs.out.at_ hn
      simp only [Value.slice.injEq, true_and] at eB
      obtain ⟨rfl, rfl⟩ := eB
      have hS := Lib.hid hS
      have hkk : wh % m.orders.length < m.orders.length := Nat.mod_lt _ hn
      obtain ⟨kk, hkE⟩ : ∃ kk, wh % m.orders.length = kk := ⟨_, rfl⟩
      rw [hkE] at hkk
      have hmod : ((wh : Int)).tmod (m.orders.length : Int) = (kk : Int) := by rw [← hkE, Int.tmod_eq_emod_of_nonneg (by omega)]; rfl
      have hn0 : ((m.orders.length : Int) == 0) = false := beq_eq_false_iff_ne.2 (by omega)
      clear hkE
      obtain ⟨u0, u1, u2⟩ := hU.c3
      go_upto_region 4 with fail
      refine wp_region_chain 9 [] [] (by kernel_rfl) (by kernel_rfl) (by kernel_rfl) ?_
      simp only [List.take, List.drop, fill, Act.put, List.setIfInBounds_toArray, List.set_cons_zero, List.set_cons_succ, Nat.reduceAdd]
      repeat (first
        | refine Floats.mut rfl ?_
        | (apply Floats.float rfl
           · intro x W he hd K Q hK
             try (have he := he (by decide); have k2 := he.cell k2; have u2 := he.cell u2)
             try simp only [edges, DepsE, List.filter_cons, List.filter_nil, Region.binds, if_true, and_true, true_and, upd, Nat.reduceEqDiff, if_false] at hd
             try simp only [hd] at hK ⊢
             have HK := Lib.hid hK; clear hK
             go_wp2_with fail
             exact HK.out))
      refine Floats.done fun W he hG => ?_
      refine Chain.nil ?_
      simp only [upd, Nat.reduceEqDiff, if_false, if_true]
      have hS4 := Lib.hid (hS.out.ext he)
      have hU4 := hU.ext he; have hM4 := hM3.ext he
      have hE4 := hE3.trans he
      have hl4 := Lib.hid (Hl.out.ext he)
      have hm4 := Lib.hid (Hm3.out.ext he)
      have hal4 := Lib.hid (fun g hg => Nat.lt_of_lt_of_le (Hal.out g hg) he.size)
      clear hS Hs hU hM3 hE3 Hl Hm3 Hal hG k0 k1 k2 u0 u1 u2 hmod hn0 he
      obtain ⟨x1, x2, x3, x4⟩ := hS4.out.cells kk hkk
      have z2 := (hS4.out.blk.cell _).trans x3
      have z4 := (hS4.out.blk.cell _).trans (x4 hkk)
      have fz2 := hS4.out.blk.frozen (kk * 4 + 2)
      have fz3 := hS4.out.blk.frozen (kk * 4 + 3)
      obtain ⟨Af, cf, ef, y1, y2, _, _, _⟩ := (hS4.out.lists.own kk hkk).open_
      rw [ef] at z4
      have hoo := Lib.hid (Hok.out.ords (m.orders[kk]?.getD default) (by simp [hkk]))
      have Ef := Lib.hid ef
      obtain ⟨bv, hbv⟩ : ∃ bv, (m.orders[kk]?.getD default).by_ = bv := ⟨_, rfl⟩
      have hbb : 1 ≤ bv ∧ bv ≤ 99 := by rw [← hbv]; exact hoo.out.byy
      rw [hbv] at z2
      have Hbv := Lib.hid hbv
      clear x1 x2 x3 x4 hbv ef
      go_upto_region 6 with fail
      obtain ⟨yv, hyv⟩ : ∃ yv, min 99 (bv + (la : Int) % 9) = yv := ⟨_, rfl⟩
      have hyb : bv ≤ yv ∧ yv ≤ 99 := by rw [← hyv]; omega
      have hS5 := Lib.hid (hS4.out.setBy hkk yv)
      have hU5 := hU4.far (cs := _) (Blk.ne_ hU4 hS4.out.blk (by decide)) (p := ⟨gB, kk * 4 + 2, none⟩) (.int .i64 yv)
      have hg5 : W2.heap.size ≤ gB := hS4.out.ge
      have hE5 : Ext W2 (W.setCell ⟨gB, kk * 4 + 2, none⟩ (.int .i64 yv)) := Below.setCell hE4 hg5 _
      have hl5 := Lib.hid (hl4.out.far hS4.out.blk (by decide) (kk * 4 + 2) (.int .i64 yv))
      have hal5 : Hid (∀ g, (Value.slice Aa m.laced.length ca).ownBlock = some g → g < (W.setCell ⟨gB, kk * 4 + 2, none⟩ (.int .i64 yv)).heap.size) := fun g hg => by simpa [World.setCell] using hal4.out g hg
      have hm5 := Lib.hid (Hm.out.ext hE5)
      have hM5 := hM.ext hE5
      rw [hyv]
      have hlen5 : (m.orders.set kk ⟨(m.orders[kk]?.getD default).pattern, (m.orders[kk]?.getD default).days, yv, (m.orders[kk]?.getD default).on⟩).length = m.orders.length := List.length_set ..
      obtain ⟨u5, hu5⟩ : ∃ u5, m.put kk ⟨(m.orders[kk]?.getD default).pattern, (m.orders[kk]?.getD default).days, yv, (m.orders[kk]?.getD default).on⟩ = u5 := ⟨_, rfl⟩
      have hea : Eased m u5 := by rw [← hu5]; exact (Eased.refl Hch.out).put hkk rfl rfl (by rw [Hbv.out]; exact hyb.1) (fun x hx => hx)
      have hoo5 : OrdOk m.laced.length ⟨(m.orders[kk]?.getD default).pattern, (m.orders[kk]?.getD default).days, yv, (m.orders[kk]?.getD default).on⟩ := ⟨hoo.out.pat, hoo.out.dys, ⟨by show 1 ≤ yv; omega, hyb.2⟩, hoo.out.ne, hoo.out.on, hoo.out.up⟩
      have hok5 : MillOk u5 := by rw [← hu5]; exact Hok.out.put hoo5
      have hg5' : (u5.orders[kk]?.getD default) = ⟨(m.orders[kk]?.getD default).pattern, (m.orders[kk]?.getD default).days, yv, (m.orders[kk]?.getD default).on⟩ := by rw [← hu5]; exact (set_get _ _ _ _ hkk).trans (if_pos rfl)
      have hla5 : u5.laced = m.laced ∧ u5.change = m.change := by rw [← hu5]; exact ⟨rfl, rfl⟩
      have hos5 : m.orders.set kk ⟨(m.orders[kk]?.getD default).pattern, (m.orders[kk]?.getD default).days, yv, (m.orders[kk]?.getD default).on⟩ = u5.orders := by rw [← hu5]; rfl
      rw [hos5] at hS5 hlen5
      obtain ⟨o0, ho0⟩ : ∃ o0, m.orders[kk]?.getD default = o0 := ⟨_, rfl⟩
      rw [ho0] at hoo5 hg5' y1 Hbv z4
      have hoo0 := Lib.hid (ho0 ▸ hoo.out)
      obtain ⟨cur5, hcur5⟩ : ∃ c5, cur.setIfInBounds (kk * 4 + 2) (.int .i64 yv) = c5 := ⟨_, rfl⟩
      rw [hcur5] at hS5
      have Hg5 := Lib.hid hg5'; have Hea := Lib.hid hea; have Hok5 := Lib.hid hok5; have Hla5 := Lib.hid hla5; have Hlen5 := Lib.hid hlen5
      have Hyb := Lib.hid (show 1 ≤ yv ∧ yv ≤ 99 by omega)
      clear hos5 hu5 hea hok5 hla5 hlen5 hoo5 hcur5 hoo Hbv hg5'
      generalize W.setCell ⟨gB, kk * 4 + 2, none⟩ (.int .i64 yv) = W5 at *
      clear ho0 hS4 hU4 hM4 hE4 hl4 hm4 hal4 z2 z4 fz2 fz3 hyv hbb hyb Ef
      have hlt5 : kk < u5.orders.length := by rw [Hlen5.out]; exact hkk
      obtain ⟨x1, x2, x3, x4⟩ := hS5.out.cells kk hlt5
      have z4 := (hS5.out.blk.cell _).trans (x4 hlt5)
      have fz3 := hS5.out.blk.frozen (kk * 4 + 3)
      have how5 := hS5.out.lists.own kk hlt5
      rw [Hg5.out] at how5
      obtain ⟨Af, cf, ef, y1, y2, y3, y4, _⟩ := how5.open_
      have ef : f kk = .slice Af o0.on.length cf := ef
      have y1 : o0.on.length ≤ cf := y1
      have y3 : IntsAt W5 Af o0.on := y3
      rw [ef] at z4
      have hL0 : 0 < m.laced.length := by omega
      obtain ⟨kl, hkl⟩ : ∃ kl, nn % m.laced.length = kl := ⟨_, rfl⟩
      have hklt : kl < m.laced.length := by rw [← hkl]; exact Nat.mod_lt _ hL0
      have hmod : ((nn : Int)).tmod (m.laced.length : Int) = (kl : Int) := by rw [← hkl, Int.tmod_eq_emod_of_nonneg (by omega)]; rfl
      have hn0 : ((m.laced.length : Int) == 0) = false := beq_eq_false_iff_ne.2 (by omega)
      obtain ⟨qc, hqc⟩ : ∃ qc, o0.on.contains (kl : Int) = qc := ⟨_, rfl⟩
      have hct := Lib.hid (contains_any (kl : Int) Af cf _ o0.on rfl qc hqc W5 (by omega) y3)
      have how5 : Hid (OwnI W5 W2.heap.size 3 (f kk) o0.on) := how5
      have hof : o0.on.length ≤ 3 := by have := rising_len hoo0.out.up hoo0.out.on; omega
      have Hqc := Lib.hid hqc; have Ef := Lib.hid ef
      clear x1 x2 x3 x4 y3 y4 ef hkl hqc
      obtain ⟨k0, k1, k2⟩ := hM5.c3
      go_wp2_with fail
      refine hct.out.mono ?_
      rintro e w6 ⟨rfl, rfl⟩
      clear hct k0 k1 k2
      cases qc with
      | true =>
        go_wp2_with fail
        go_meet
        refine ⟨u5, ⟨Hea.out, Hok5.out, Hla5.out.1, Hla5.out.2, Hlen5.out⟩, hE5, hU5, ?_⟩
        have := hS5.out.sep
        rw [Hlen5.out] at this
        exact ⟨by rw [Hla5.out.1]; exact hl5.out, this⟩
      | false =>
        have hX6 := Ext.alloc W5 (.cells #[.int .i64 (kl : Int)] 3)
        have hsrc := Src.one W5 (.int .i64 (kl : Int)) 3
        have hS6 := Lib.hid (hS5.out.ext hX6)
        have hl6 := Lib.hid (hl5.out.ext hX6)
        have hE6 := hE5.trans hX6
        have hU6 := hU5.ext hX6
        have hal6 := Lib.hid (fun g hg => Nat.lt_of_lt_of_le (hal5.out g hg) hX6.size)
        have hrow : (W5.alloc (.cells #[.int .i64 (kl : Int)] 3)).ownsRow W2.heap.size 3 1 (.slice Af o0.on.length cf) o0.on.length (o0.on.map (Value.int .i64)) := by
          have := (how5.out.ext hX6)
          unfold OwnI at this
          rwa [Ef.out] at this
        have hsz6 := hE6.size
        have hgB6 := hS6.out.blk
        have hc6 := (hgB6.cell (kk * 4 + 3)).trans (show cur5[kk * 4 + 3]? = some (.slice Af o0.on.length cf) by rw [← Ef.out]; exact (hS6.out.cells kk hlt5).2.2.2 hlt5)
        have hApp : ∀ v' w7, w7.ownsRow W2.heap.size 3 1 v' (o0.on.length + 1) (o0.on.map (Value.int .i64) ++ [.int .i64 (kl : Int)]) → (W5.alloc (.cells #[.int .i64 (kl : Int)] 3)).grownBy w7 (Value.slice Af o0.on.length cf).ownBlock → (v'.ownBlock = (Value.slice Af o0.on.length cf).ownBlock ∨ v'.ownBlock = some (W5.alloc (.cells #[.int .i64 (kl : Int)] 3)).heap.size) →
            w7.cell? ⟨gB, kk * 4 + 3, none⟩ = some (.slice Af o0.on.length cf) ∧ w7.frozen? ⟨gB, kk * 4 + 3, none⟩ = false ∧
            SepAt (w7.setCell ⟨gB, kk * 4 + 3, none⟩ v') W2.heap.size (.slice Aa m.laced.length ca) gB cb (u5.orders.set kk ⟨o0.pattern, o0.days, yv, o0.on ++ [(kl : Int)]⟩) (cur5.setIfInBounds (kk * 4 + 3) v') (fun j => if j = kk then v' else f j) ∧
            OwnI (w7.setCell ⟨gB, kk * 4 + 3, none⟩ v') W2.heap.size 3 (.slice Aa m.laced.length ca) m.laced ∧ OwnI (w7.setCell ⟨gB, kk * 4 + 3, none⟩ v') W2.heap.size 3 v' (o0.on ++ [(kl : Int)]) ∧ Ext W2 (w7.setCell ⟨gB, kk * 4 + 3, none⟩ v') ∧
            Blk (w7.setCell ⟨gB, kk * 4 + 3, none⟩ v') U 25 #[.slice Aa m.laced.length ca, .int .i64 m.change, .slice (some ⟨gB, 0, none⟩) m.orders.length cb] := by
          intro v' w7 hown hg hblk
          rw [← Ef.out] at hg hblk
          have how7 : OwnI w7 W2.heap.size 3 v' (o0.on ++ [(kl : Int)]) := by
            unfold OwnI; rw [List.length_append, List.map_append]; exact hown
          obtain ⟨g1, _⟩ := hS6.out.grown hlt5 hg
          have h1 := hS6.out.setOn hlt5 hg how7 hal6.out hblk
          rw [Hg5.out] at h1
          have hge : ∀ j, (f kk).ownBlock = some j → W2.heap.size ≤ j := fun j hj => ((hS6.out.lists.own kk hlt5).own_lt j hj).1
          have hlne : ∀ g, (Value.slice Aa m.laced.length ca).ownBlock = some g → (f kk).ownBlock ≠ some g := fun g hg' => hS6.out.lists.lac kk g hlt5 hg'
          have hl7 := (hl6.out.grownI hg (hS6.out.lists.own kk hlt5) hlne).far g1 (by decide) (kk * 4 + 3) v'
          have hU7 : Blk w7 U 25 #[.slice Aa m.laced.length ca, .int .i64 m.change, .slice (some ⟨gB, 0, none⟩) m.orders.length cb] := by
            unfold Blk
            rw [← show (W5.alloc (.cells #[.int .i64 (kl : Int)] 3)).heap[U]? = _ from hU6]
            exact hg.block U hU6.lt fun e => OwnI.ne_blk (hS6.out.lists.own kk hlt5) hU6 (by decide) e
          refine ⟨?_, g1.frozen _, h1, hl7, how7.far g1 (by decide) _ _, Below.setCell (Below.grown hE6 hg hsz6 hge) hS6.out.ge _, hU7.far (Blk.ne_ hU7 g1 (by decide)) _⟩
          rw [← hc6, g1.cell, hgB6.cell]
        have HApp := Lib.hid hApp
        clear hApp hgB6 hc6
        go_wp2_with (at_builtin; refine wpList_app rfl _ _ 22 rfl W2.heap.size 3 ti (.int .i64 0) 1 8 Try.underlying22 hi hz0 hz1 hz2 rfl (by decide) (.slice Af o0.on.length cf) o0.on.length _ rfl hrow (some ⟨W5.heap.size, 0, none⟩) 1 1 [.int .i64 (kl : Int)] rfl rfl hsrc ?c2 ?c3 ?c4 ?c5 ?_; (case c2 => (intro u hu; rw [List.mem_singleton] at hu; subst hu; rfl)); (case c3 => (unfold maxLen; omega)); (case c4 => omega); (case c5 => omega); intro v' w7 hown hg hblk; have hN := HApp.out v' w7 hown hg hblk; obtain ⟨A9, c9, rfl⟩ := ownsRow_slice hown; obtain ⟨n1, n2, hN⟩ := hN; have HN := Lib.hid hN; clear hN hown hg hblk)
        generalize w7.setCell ⟨gB, kk * 4 + 3, none⟩ (.slice A9 (o0.on.length + 1) c9) = W7 at *
        obtain ⟨hS7, hl7, ho7, hE7, hU7⟩ := HN.out
        clear HN n1 n2 HApp
        have hso := Lib.hid (sortI W2.heap.size _ (o0.on ++ [(kl : Int)]) W7 ho7 (by rw [List.length_append]; show _ + 1 ≤ _; omega))
        have hlt7 : kk < (u5.orders.set kk ⟨o0.pattern, o0.days, yv, o0.on ++ [(kl : Int)]⟩).length := by rw [List.length_set]; exact hlt5
        have hS7 := Lib.hid hS7; have hl7 := Lib.hid hl7; have ho7 := Lib.hid ho7
        refine hso.out.mono ?_
        rintro e w8 ⟨rfl, hl8, hg8⟩
        clear hso
        have hS8 := hS7.out.inRow hlt7 (by simp only [if_true]; exact hg8) (by simp only [if_true]; exact hl8)
        rw [set_get _ _ _ _ hlt5, if_pos rfl, List.set_set] at hS8
        have hge : ∀ j, (Value.slice A9 (o0.on.length + 1) c9).ownBlock = some j → W2.heap.size ≤ j := fun j hj => (ho7.out.own_lt j hj).1
        have hlne : ∀ g, (Value.slice Aa m.laced.length ca).ownBlock = some g → (Value.slice A9 (o0.on.length + 1) c9).ownBlock ≠ some g := fun g hg' => by
          have := hS7.out.lists.lac kk g hlt7 hg'
          simp only [if_true] at this
          exact this
        have hl8' := Lib.hid (hl7.out.grownI hg8 ho7.out hlne)
        have hE8 := Below.grown hE7 hg8 hE7.size hge
        have hU8 : Blk w8 U 25 #[.slice Aa m.laced.length ca, .int .i64 m.change, .slice (some ⟨gB, 0, none⟩) m.orders.length cb] := by
          unfold Blk
          rw [← show W7.heap[U]? = _ from hU7]
          exact hg8.block U hU7.lt fun e => OwnI.ne_blk ho7.out hU7 (by decide) e
        have hnot : (kl : Int) ∉ o0.on := fun h => by
          have := Hqc.out
          rw [List.contains_iff_mem.2 h] at this
          cases this
        obtain ⟨os, hos⟩ : ∃ os, ((o0.on ++ [(kl : Int)]).mergeSort fun x y => decide (x ≤ y)) = os := ⟨_, rfl⟩
        have hperm : os.Perm (o0.on ++ [(kl : Int)]) := by rw [← hos]; exact List.mergeSort_perm _ _
        have hrise : risingB os = true := by
          rw [← hos]
          refine rising_sorted ?_
          rw [List.nodup_append]
          exact ⟨nodup_of_rising hoo0.out.up, by simp, fun a ha b hb e => hnot (by rw [List.mem_singleton] at hb; rw [← hb, ← e]; exact ha)⟩
        rw [hos] at hS8
        have hea : Eased m (u5.put kk ⟨o0.pattern, o0.days, yv, os⟩) := Hea.out.put hlt5 (by rw [Hg5.out]) (by rw [Hg5.out]) (by rw [Hg5.out]; exact Int.le_refl _) (fun x hx => by rw [Hg5.out] at hx; exact hperm.mem_iff.2 (List.mem_append_left _ hx))
        have hokk : MillOk (u5.put kk ⟨o0.pattern, o0.days, yv, os⟩) := Hok5.out.put ⟨hoo0.out.pat, hoo0.out.dys, Hyb.out, by intro e; have := hperm.length_eq; rw [show os = [] from e] at this; simp at this, fun x hx => by
          rcases List.mem_append.1 (hperm.mem_iff.1 hx) with h | h
          · rw [Hla5.out.1]; exact hoo0.out.on x h
          · rw [List.mem_singleton] at h; rw [Hla5.out.1]; omega, hrise⟩
        have hV8 := Lib.hid hS8.sep; have Hea8 := Lib.hid hea; have Hok8 := Lib.hid hokk
        clear hea hokk hperm hrise hos hS8 hl8 hg8
        go_wp2_with fail
        go_meet
        refine ⟨_, ⟨Hea8.out, Hok8.out, Hla5.out.1, Hla5.out.2, by show (u5.orders.set _ _).length = _; rw [List.length_set]; exact Hlen5.out⟩, hE8, hU8, ?_⟩
        have := hV8.out
        rw [List.length_set, Hlen5.out] at this
        exact ⟨by show OwnI _ _ _ _ u5.laced; rw [Hla5.out.1]; exact hl8'.out, this⟩
    · have h0 : m.orders.length = 0 := by omega
      have hd : decide ((0 : Int) < m.orders.length) = false := decide_eq_false (by omega)
      clear hn
      go_wp2_with fail
      go_meet
      exact ⟨m, ⟨Eased.refl Hch.out, Hok.out, rfl, rfl, rfl⟩, hE3, hU, Hl.out, Hs.out⟩
  case rest =>
    obtain ⟨u, hu, hEc, hUc, huv⟩ := hcut
    have hcb : 0 ≤ u.change ∧ u.change ≤ 5 := hu.out.2.1.change
    have huc : u.change = m.change := hu.out.2.2.2.1
    rw [← huc] at hUc
    have hUc' := hUg
    clear hE3 hU hUg hM3 Hm3 Hl Hs Hal k0 k1 k2 huc
    obtain ⟨k0, k1, k2⟩ := hUc.c3
    have f1 := hUc.frozen 1
    go_upto_if 85 with fail
    go_cut [] (fun wx => ∃ u2, Hid (Eased m u2 ∧ MillOk u2) ∧ Ext W2 wx ∧ Blk wx U 25 #[.slice Aa m.laced.length ca, .int .i64 u2.change, .slice Ab m.orders.length cb] ∧ Hid (OwnI wx W2.heap.size 3 (.slice Aa m.laced.length ca) u2.laced ∧ OwnSep wx W2.heap.size (.slice Aa m.laced.length ca) (.slice Ab m.orders.length cb) u2.orders))
    case first =>
      by_cases h2 : la % 2 = 0
      · have hd : ((la : Int) % 2 == 0) = true := by rw [beq_iff_eq]; omega
        clear h2
        go_wp2_with fail
        go_meet
        have hUm : U ≠ M ∧ W2.heap.size ≤ U := ⟨fun e => by have := hM.lt; omega, hUc'⟩
        obtain ⟨cv, hcv⟩ : ∃ cv, max 0 (u.change - 1) = cv := ⟨_, rfl⟩
        have hcv' : 0 ≤ cv ∧ cv ≤ u.change := by omega
        rw [hcv]
        have hE9 := Below.setCell hEc (p := ⟨U, 1, none⟩) hUm.2 (.int .i64 cv)
        refine ⟨⟨u.laced, cv, u.orders⟩, ⟨hu.out.1.faster hcv', hu.out.2.1.faster hcv'⟩, hE9, hUc.set_ 1 _, ?_⟩
        exact ⟨huv.out.1.far hUc (by decide) _ _, huv.out.2.far hUc (by decide) (by decide) _ _⟩
      · have hd : ((la : Int) % 2 == 0) = false := by rw [beq_eq_false_iff_ne]; omega
        clear h2
        go_wp2_with fail
        go_meet
        exact ⟨u, ⟨hu.out.1, hu.out.2.1⟩, hEc, hUc, huv⟩
    case rest =>
      obtain ⟨u2, hu2, hEc2, hUc2, huv2⟩ := hcut
      have hMc := hM.ext hEc2
      have hmv := Lib.hid (Hm.out.ext hEc2)
      have hlen : u2.orders.length = m.orders.length ∧ u2.laced = m.laced := ⟨hu2.out.1.len, hu2.out.1.laced⟩
      have huv : Hid (MillVal wc (.agg #[.slice Aa m.laced.length ca, .int .i64 u2.change, .slice Ab m.orders.length cb]) u2) := MillVal.ofSep huv2.out.1 huv2.out.2
      have hle := hu2.out.1.late Hch.out ((check_iff u2).2 hu2.out.2)
      have hpl := plan_late Hch.out
      have hpu := plan_late ((check_iff u2).2 hu2.out.2)
      obtain ⟨lx, hlx⟩ : ∃ lx, (lateL m).length = lx := ⟨_, rfl⟩
      obtain ⟨ly, hly⟩ : ∃ ly, (lateL u2).length = ly := ⟨_, rfl⟩
      rw [hlx] at hle hpl
      rw [hly] at hle hpu
      have Hlx := Lib.hid hlx; have Hly := Lib.hid hly; have Hpl := Lib.hid hpl; have Hpu := Lib.hid hpu
      have Huk := Lib.hid ((check_iff u2).2 hu2.out.2)
      have hpm := Lib.hid (plan_ok _ m Hch.out wc hmv.out)
      clear hEc hUc huv2 hUc' k0 k1 k2 f1 hu hcb hpl hpu hlx hly
      obtain ⟨k0, k1, k2⟩ := hMc.c3
      go_wp2_with fail
      refine hpm.out.mono ?_
      rintro e w4 (⟨hmn, rfl, he4⟩ | ⟨rows, rv, hms, rfl, hrows, he4⟩)
      · have hlx0 := Hpl.out.1 hmn
        clear hmn
        have hMc := hMc.ext he4; have hUc2 := hUc2.ext he4; have hmv := Lib.hid (hmv.out.ext he4); have huv := Lib.hid (huv.out.ext he4); have hEc2 := hEc2.trans he4
        clear hpm k0 k1 k2
        have hpu5 := Lib.hid (plan_ok _ u2 Huk.out w4 huv.out)
        obtain ⟨k0, k1, k2⟩ := hUc2.c3
        go_wp2_with fail
        refine hpu5.out.mono ?_
        rintro e w5 (⟨hun, rfl, he5⟩ | ⟨rows2, rv2, hus, rfl, hrows2, he5⟩)
        · have hly0 := Hpu.out.1 hun
          clear hun
          obtain ⟨hd1, hd2, hd3⟩ : decide ((lx : Int) < ly) = false ∧ ((lx : Int) == 0) = false ∧ ((ly : Int) == 0) = false := ⟨decide_eq_false (by omega), beq_eq_false_iff_ne.2 (by omega), beq_eq_false_iff_ne.2 (by omega)⟩
          have hMc := hMc.ext he5; have hUc2 := hUc2.ext he5; have hmv := Lib.hid (hmv.out.ext he5); have huv := Lib.hid (huv.out.ext he5); have hEc2 := hEc2.trans he5
          clear hpu5 k0 k1 k2 he5
          have hlt6 := Lib.hid (late_ok _ m Hch.out w5 hmv.out)
          obtain ⟨k0, k1, k2⟩ := hMc.c3
          go_wp2_with fail
          refine hlt6.out.mono ?_
          rintro e w6 ⟨rx, rfl, hrx, he6⟩
          obtain ⟨Ax, cx, ex, _, _, _⟩ := (show SlI w6 rx (lateL m) from hrx)
          rw [Hlx.out] at ex
          subst ex
          have hMc := hMc.ext he6; have hUc2 := hUc2.ext he6; have hmv := Lib.hid (hmv.out.ext he6); have huv := Lib.hid (huv.out.ext he6); have hEc2 := hEc2.trans he6
          clear hlt6 k0 k1 k2 hrx
          have hlt7 := Lib.hid (late_ok _ u2 Huk.out w6 huv.out)
          obtain ⟨k0, k1, k2⟩ := hUc2.c3
          go_wp2_with fail
          refine hlt7.out.mono ?_
          rintro e w7 ⟨ry, rfl, hry, he7⟩
          obtain ⟨Ay, cy, ey, _, _, _⟩ := (show SlI w7 ry (lateL u2) from hry)
          rw [Hly.out] at ey
          subst ey
          have hMc := hMc.ext he7; have hUc2 := hUc2.ext he7; have hmv := Lib.hid (hmv.out.ext he7); have huv := Lib.hid (huv.out.ext he7); have hEc2 := hEc2.trans he7
          clear hlt7 k0 k1 k2 hry
          go_wp2_with fail
          refine (awake_any w7).mono ?_
          rintro e w8 ⟨rfl, he8⟩
          go_wp2_with fail
          go_ret
          exact ⟨rfl, hE.trans (hEc2.trans he8)⟩
        · have hly0 : ly = 0 := by
            have h := Hpu.out
            rw [hus] at h
            simpa using h
          subst hly0
          obtain ⟨hd1, hd2⟩ : decide ((lx : Int) < 0) = false ∧ ((lx : Int) == 0) = false := ⟨decide_eq_false (by omega), beq_eq_false_iff_ne.2 (by omega)⟩
          clear hus hrows2
          have hMc := hMc.ext he5; have hUc2 := hUc2.ext he5; have hmv := Lib.hid (hmv.out.ext he5); have huv := Lib.hid (huv.out.ext he5); have hEc2 := hEc2.trans he5
          clear hpu5 k0 k1 k2 he5
          have hlt6 := Lib.hid (late_ok _ m Hch.out w5 hmv.out)
          obtain ⟨k0, k1, k2⟩ := hMc.c3
          go_wp2_with fail
          refine hlt6.out.mono ?_
          rintro e w6 ⟨rx, rfl, hrx, he6⟩
          obtain ⟨Ax, cx, ex, _, _, _⟩ := (show SlI w6 rx (lateL m) from hrx)
          rw [Hlx.out] at ex
          subst ex
          have hMc := hMc.ext he6; have hUc2 := hUc2.ext he6; have hmv := Lib.hid (hmv.out.ext he6); have huv := Lib.hid (huv.out.ext he6); have hEc2 := hEc2.trans he6
          clear hlt6 k0 k1 k2 hrx
          have hlt7 := Lib.hid (late_ok _ u2 Huk.out w6 huv.out)
          obtain ⟨k0, k1, k2⟩ := hUc2.c3
          go_wp2_with fail
          refine hlt7.out.mono ?_
          rintro e w7 ⟨ry, rfl, hry, he7⟩
          obtain ⟨Ay, cy, ey, _, _, _⟩ := (show SlI w7 ry (lateL u2) from hry)
          rw [Hly.out] at ey
          subst ey
          have hMc := hMc.ext he7; have hUc2 := hUc2.ext he7; have hmv := Lib.hid (hmv.out.ext he7); have huv := Lib.hid (huv.out.ext he7); have hEc2 := hEc2.trans he7
          clear hlt7 k0 k1 k2 hry
          go_wp2_with fail
          refine (awake_any w7).mono ?_
          rintro e w8 ⟨rfl, he8⟩
          go_wp2_with fail
          go_ret
          exact ⟨rfl, hE.trans (hEc2.trans he8)⟩
      · have hlx0 : lx = 0 := by
          have h := Hpl.out
          rw [hms] at h
          simpa using h
        subst hlx0
        have hly0 : ly = 0 := by omega
        subst hly0
        have hpo := Lib.hid (plan_law Hch.out hms)
        have hrows := Lib.hid hrows
        have hMc := hMc.ext he4; have hUc2 := hUc2.ext he4; have hmv := Lib.hid (hmv.out.ext he4); have huv := Lib.hid (huv.out.ext he4); have hEc2 := hEc2.trans he4
        clear hpm k0 k1 k2
        have hpu5 := Lib.hid (plan_ok _ u2 Huk.out w4 huv.out)
        obtain ⟨k0, k1, k2⟩ := hUc2.c3
        go_wp2_with fail
        refine hpu5.out.mono ?_
        rintro e w5 (⟨hun, rfl, he5⟩ | ⟨rows2, rv2, hus, rfl, hrows2, he5⟩)
        · exact absurd rfl (Hpu.out.1 hun)
        · have hpo2 := Lib.hid (plan_law Huk.out hus)
          have hrows2 := Lib.hid hrows2
          have hrows := Lib.hid (hrows.out.ext he5)
          have hfew := hu2.out.1.few Hch.out Huk.out (by rw [hms]; simp)
          have Hfew := Lib.hid hfew
          clear hus hms hfew
          have hMc := hMc.ext he5; have hUc2 := hUc2.ext he5; have hmv := Lib.hid (hmv.out.ext he5); have huv := Lib.hid (huv.out.ext he5); have hEc2 := hEc2.trans he5
          clear hpu5 k0 k1 k2 he5
          have hlt6 := Lib.hid (late_ok _ m Hch.out w5 hmv.out)
          obtain ⟨k0, k1, k2⟩ := hMc.c3
          go_wp2_with fail
          refine hlt6.out.mono ?_
          rintro e w6 ⟨rx, rfl, hrx, he6⟩
          obtain ⟨Ax, cx, ex, _, _, _⟩ := (show SlI w6 rx (lateL m) from hrx)
          rw [Hlx.out] at ex
          subst ex
          have hMc := hMc.ext he6; have hUc2 := hUc2.ext he6; have hmv := Lib.hid (hmv.out.ext he6); have huv := Lib.hid (huv.out.ext he6); have hEc2 := hEc2.trans he6
          clear hlt6 k0 k1 k2 hrx
          have hlt7 := Lib.hid (late_ok _ u2 Huk.out w6 huv.out)
          obtain ⟨k0, k1, k2⟩ := hUc2.c3
          go_wp2_with fail
          refine hlt7.out.mono ?_
          rintro e w7 ⟨ry, rfl, hry, he7⟩
          obtain ⟨Ay, cy, ey, _, _, _⟩ := (show SlI w7 ry (lateL u2) from hry)
          rw [Hly.out] at ey
          subst ey
          have hMc := hMc.ext he7; have hUc2 := hUc2.ext he7; have hmv := Lib.hid (hmv.out.ext he7); have huv := Lib.hid (huv.out.ext he7); have hEc2 := hEc2.trans he7
          clear hlt7 k0 k1 k2 hry
          have hr8 := hrows.out.ext (he6.trans he7)
          have hkp1 := Lib.hid (kept_any _ rv m Hch.out rows (by rw [hpo.out.all]; have := (check_len Hch.out).2.2; omega) (by rw [hpo.out.len]; have := (check_len Hch.out).2.1; omega) true true (by have := hpo.out.kept; unfold keptQ at this; exact (Bool.and_eq_true_iff.1 this).1) hpo.out.kept w7 hmv.out hr8)
          obtain ⟨k0, k1, k2⟩ := hMc.c3
          clear hr8
          go_wp2_with fail
          refine hkp1.out.mono ?_
          rintro e w8 ⟨rfl, he8⟩
          have hUc2 := hUc2.ext he8; have huv := Lib.hid (huv.out.ext he8); have hEc2 := hEc2.trans he8
          have hr9 := hrows2.out.ext (he6.trans (he7.trans he8))
          have hkp2 := Lib.hid (kept_any _ rv2 u2 Huk.out rows2 (by rw [hpo2.out.all]; have := (check_len Huk.out).2.2; omega) (by rw [hpo2.out.len]; have := (check_len Huk.out).2.1; omega) true true (by have := hpo2.out.kept; unfold keptQ at this; exact (Bool.and_eq_true_iff.1 this).1) hpo2.out.kept w8 huv.out hr9)
          clear hkp1 k0 k1 k2 hr9
          obtain ⟨k0, k1, k2⟩ := hUc2.c3
          go_wp2_with fail
          refine hkp2.out.mono ?_
          rintro e w9 ⟨rfl, he9⟩
          clear hkp2 k0 k1 k2
          simp only [if_true]
          obtain ⟨na, hna⟩ : ∃ na, chgF m rows rows.length = na := ⟨_, rfl⟩
          obtain ⟨nb, hnb⟩ : ∃ nb, chgF u2 rows2 rows2.length = nb := ⟨_, rfl⟩
          have hcmp : nb ≤ na := by
            rw [← hna, ← hnb, hpo.out.sum, hpo2.out.sum]; exact Hfew.out
          rw [hna, hnb]
          clear hna hnb
          go_wp2_with fail
          refine (awake_any w9).mono ?_
          rintro e w10 ⟨rfl, he10⟩
          go_wp2_with fail
          go_ret
          exact ⟨rfl, hE.trans (hEc2.trans (he9.trans he10))⟩
end Go.Proofs.Pet
