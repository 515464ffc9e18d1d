/-
  LoomRun, walked.
-/
import Derived.Test.YtknokjnplbdmeaaGreatZU
import Derived.Test.YtknokjnplbdmeaaGreatZB
namespace Go.Proofs.Pet
set_option linter.unusedSimpArgs false
open Go Go.RowKit Go.Maps Go.Shelf

theorem SpoolAt.typ {w : World} {b k : Nat} (h : SpoolAt w b k) : ∃ cs, Blk w b 155 cs := by
  obtain ⟨A, n, c, st, a, h1, _⟩ := h
  exact ⟨_, h1⟩
theorem IntsAt.apartO {w W : World} {A : Option Addr} {xs : List Int} {Q : Nat} (h : IntsAt w A xs) (hoff : ∀ ad, A = some ad → Q < ad.block) (ha : Apart Q w W) : IntsAt W A xs := by
  intro k hk
  obtain ⟨g, o, rfl, hc⟩ := h k hk
  have hgb := hoff _ rfl
  refine ⟨g, o, rfl, ?_⟩
  rw [← hc]
  have hlt : g < w.heap.size := cell_lt hc
  unfold World.cell?
  simp only [ha.block g hlt (by show g ≠ Q; have : Q < g := hgb; omega)]
theorem Row.lst {w : World} {b N : Nat} {f : Nat → Int} (h : Row w b N f) (r : Nat) : IntsAt w (some ⟨b, 0, none⟩) ((lst f N).take r) := h.ints.take r
/-- what of the world stays through the law -/
structure RunW (w2 : World) (Q M S n : Nat) (f : Nat → Int) (m : Mill) (mcs : Array Value) (W : World) : Prop where
  ext : Ext w2 W
  bm : Blk W M 25 mcs
  row : Row W S n f
theorem RunW.apart {w2 W W' : World} {Q M S n : Nat} {f : Nat → Int} {m : Mill} {mcs : Array Value} (h : RunW w2 Q M S n f m mcs W) (hq : w2.heap.size ≤ Q) (hM : M ≠ Q) (hS : S ≠ Q) (ha : Apart Q W W') : RunW w2 Q M S n f m mcs W' :=
  ⟨Apart.ext_of h.ext hq ha, h.bm.apart hM ha, h.row.apart hS ha⟩
theorem RunW.up {w2 W W' : World} {Q M S n : Nat} {f : Nat → Int} {m : Mill} {mcs : Array Value} (h : RunW w2 Q M S n f m mcs W) (he : Ext W W') : RunW w2 Q M S n f m mcs W' :=
  ⟨h.ext.trans he, h.bm.ext he, h.row.ext he⟩
theorem RunW.set_ {w2 W : World} {Q M S n R : Nat} {f : Nat → Int} {m : Mill} {mcs : Array Value} (h : RunW w2 Q M S n f m mcs W) (hR : w2.heap.size ≤ R) (hM : M < R) (hS : S < R) (j : Nat) (v : Value) : RunW w2 Q M S n f m mcs (W.setCell ⟨R, j, none⟩ v) :=
  ⟨Below.setCell h.ext (p := ⟨R, j, none⟩) hR v, h.bm.far (p := ⟨R, j, none⟩) (by show M ≠ R; omega) v, h.row.far (p := ⟨R, j, none⟩) (by show S ≠ R; omega) v⟩

set_option maxRecDepth 100000 in
set_option maxHeartbeats 8000000 in
theorem loomRun_any (v v2 : Value) (w : World) (hv : BytesIn w v) (hv2 : BytesIn w v2) :
    Calls Tryz.prog 5 #[v, v2] w fun e w' => e = .returned (.bool true) ∧ Ext w w' := by
  obtain ⟨ti, hi, hz0, hz1, hz2⟩ := info_parts info_int
  have hwo := Lib.hid (wound_any v w hv)
  have Hv := Lib.hid hv; clear hv
  have Hv2 := Lib.hid hv2; clear hv2
  go_enter Tryz.func5, Tryz.ntmps5
  go_wp2_with fail
  refine hwo.out.mono ?_
  rintro e w1 ⟨rfl, hs1, he1⟩
  clear hwo
  have hma := Lib.hid (madeS_any w.heap.size 0 (by omega) 1 7 (by omega) (by omega) w1 hs1)
  go_wp2_with fail
  refine hma.out.mono ?_
  rintro e w2 ⟨mv, m, rfl, hm, hok, hlm, hom, _, hap⟩
  have hE := Apart.ext_of he1 (Nat.le_refl _) hap
  clear hma hs1 he1 hap hom
  have hwo := Lib.hid (wound_any v2 w2 (Hv2.out.ext hE))
  go_wp2_with fail
  refine hwo.out.mono ?_
  rintro e w3 ⟨rfl, hs3, he3⟩
  clear hwo
  obtain ⟨Q, hQ⟩ : ∃ Q, w2.heap.size = Q := ⟨_, rfl⟩
  rw [hQ] at hs3 ⊢
  have hMg : w2.heap.size ≤ Q := by omega
  clear hQ
  have Hm0 := Lib.hid hm
  obtain ⟨A1, c1, A2, c2, rfl, q1, q2, q3, q4, _, h7⟩ := hm
  have H7 := Lib.hid h7; clear h7
  have hM := Blk.new w3 25 #[.slice A1 m.laced.length c1, .int .i64 m.change, .slice A2 m.orders.length c2]
  have hX := Ext.alloc w3 (.cells #[.slice A1 m.laced.length c1, .int .i64 m.change, .slice A2 m.orders.length c2] 25)
  have hE2 := he3.trans hX
  have hs4 := hs3.ext hX
  have hch := (check_iff m).2 hok
  have l3 := hok.few
  have hl1 : m.laced.length = 1 := by have := (check_len hch).1; omega
  have Hok := Lib.hid hok; have Hch := Lib.hid hch; have Hl1 := Lib.hid hl1
  clear hs3 he3 hch hok q1 q2 q3 q4 hlm hl1
  obtain ⟨M, hMe⟩ : ∃ M, w3.heap.size = M := ⟨_, rfl⟩
  rw [hMe] at hM
  obtain ⟨k0, k1, k2⟩ := hM.c3
  have hMQ : M ≠ Q := by
    obtain ⟨cs, hcs⟩ := hs4.typ
    exact Blk.ne_ hM hcs (by decide)
  obtain ⟨W4, hW4⟩ : ∃ W4, w3.alloc (.cells #[.slice A1 m.laced.length c1, .int .i64 m.change, .slice A2 m.orders.length c2] 25) = W4 := ⟨_, rfl⟩
  rw [hW4] at hM hX hE2 hs4 k0 k1 k2
  have hor := Lib.hid (orderS_any Q 0 (by omega) m.orders.length (by omega) W4 hs4)
  have Hlp := Lib.hid (check_len Hch.out)
  go_upto_region 2 with fail
  try rw [hW4]
  try rw [hMe]
  clear hX hW4 hMe
  go_wp2_with fail
  refine hor.out.mono ?_
  rintro e w5 ⟨S, f, rfl, hS, hrow, hperm, hs5, ha5⟩
  have hszQ := hs4.lt
  have hSQ : S ≠ Q := by omega
  have hR5 : RunW w2 Q M S m.orders.length f m #[.slice A1 m.laced.length c1, .int .i64 m.change, .slice A2 m.orders.length c2] w5 := ⟨Apart.ext_of hE2 hMg ha5, hM.apart hMQ ha5, hrow⟩
  clear hE2 hM k0 k1 k2 hor hs4 ha5 hrow hS hszQ
  rw [Nat.zero_add] at hs5
  have hup := Lib.hid (upto_any Q _ (by omega) (m.orders.length : Int) (by omega) (m.orders.length : Int) (by omega) w5 hs5)
  have Hperm := Lib.hid hperm; clear hperm
  go_wp2_with fail
  refine hup.out.mono ?_
  rintro e w6 ⟨r, rfl, hr1, hr2, hs6, ha6⟩
  obtain ⟨rn, rfl⟩ : ∃ rn : Nat, r = (rn : Int) := ⟨r.toNat, by omega⟩
  have hrn : rn ≤ m.orders.length := by omega
  have hR6 := hR5.apart hMg hMQ hSQ ha6
  clear hup hR5 hs5 ha6 hr1 hr2
  obtain ⟨xs, hxs⟩ : ∃ xs, (lst f m.orders.length).take rn = xs := ⟨_, rfl⟩
  have hxl : xs.length = rn := by rw [← hxs, List.length_take, lst_len]; omega
  have hsome : Some1 m xs := by rw [← hxs]; exact permOf_some Hperm.out rn
  obtain ⟨rc, e0, bs, hlaw⟩ := runLaw Hok.out Hl1.out hsome
  have hXS : Hid (∀ W, RunW w2 Q M S m.orders.length f m #[.slice A1 m.laced.length c1, .int .i64 m.change, .slice A2 m.orders.length c2] W → IntsAt W (some ⟨S, 0, none⟩) xs) := fun W h => by rw [← hxs]; exact h.row.lst rn
  have hV : Hid (∀ W, RunW w2 Q M S m.orders.length f m #[.slice A1 m.laced.length c1, .int .i64 m.change, .slice A2 m.orders.length c2] W → MillVal W (.agg #[.slice A1 m.laced.length c1, .int .i64 m.change, .slice A2 m.orders.length c2]) m) := fun W h => Hm0.out.ext h.ext
  have Hsome := Lib.hid hsome; have Hlaw := Lib.hid hlaw
  clear hxs hsome hlaw Hperm Hm0
  have hcost := Lib.hid (cost_any _ m 0 _ m.orders.length xs (rc, e0) Hlaw.out.pair w6 (hV.out w6 hR6) (by omega) (by unfold maxLen; omega) (hXS.out w6 hR6))
  rw [hxl] at hcost
  obtain ⟨k0, k1, k2⟩ := hR6.bm.c3
  go_wp2_with fail
  refine hcost.out.mono ?_
  rintro e w7 ⟨rfl, he7⟩
  have hR7 := hR6.up he7; have hs7 := hs6.ext he7
  clear hcost hR6 hs6 he7 k0 k1 k2
  have hbest := Lib.hid (bestTop_off _ m 0 _ m.orders.length xs rc e0 Hlaw.out.pair w7 (hV.out w7 hR7) (by omega) (by unfold maxLen; omega) (hXS.out w7 hR7))
  rw [hxl, Hlaw.out.best] at hbest
  obtain ⟨k0, k1, k2⟩ := hR7.bm.c3
  go_wp2_with fail
  refine hbest.out.mono ?_
  rintro e w8 ⟨bv, rfl, ⟨hbv, hoff⟩, he8⟩
  have hQ7 := hs7.lt
  have hR8 := hR7.up he8; have hs8 := hs7.ext he8
  clear hbest hR7 hs7 he8 k0 k1 k2
  obtain ⟨BA, bc, rfl, b2, b3, hBI⟩ := hbv
  have hBO : Hid (∀ ad, BA = some ad → Q < ad.block) := fun ad e => by
    have := hoff ad bs.length bc (by rw [e]); omega
  clear hoff hQ7
  have He0 : Hid (e0 = 0 ∨ e0 = 6) := by rcases Hlaw.out.cases_ with h | h; exact .inr h.1; exact .inl h.1
  go_upto_region 6 with fail
  go_cut [68] (fun s68 wx => s68 = .bool false ∧ w8 = wx)
  case first =>
    rcases He0.out with rfl | rfl <;> (go_wp2_with fail; go_meet; exact ⟨rfl, rfl⟩)
  case rest =>
  obtain ⟨rfl, rfl⟩ := hcut
  have HBI := Lib.hid hBI; clear hBI
  go_upto_if 70 with fail
  go_cut [] (fun wx => Ext w8 wx)
  case first =>
    -- <<first
    rcases Hlaw.out.cases_ with ⟨rfl, -, -⟩ | ⟨rfl, hB, hmin⟩
    · go_wp2_with fail
      go_meet
      exact Ext.refl _
    · have hbl : bs.length ≤ 7 := by have := hB.perm.length_eq; omega
      have hwv := Lib.hid (woven_any _ m Hch.out 0 (by have := Hl1.out; omega) BA bc bs b2 b3 (by omega) true hB.tm w8 (hV.out w8 hR8) HBI.out)
      rw [if_pos rfl, hB.ch] at hwv
      have Hsb := Lib.hid (Hsome.out.perm hB.perm)
      have HB := Lib.hid hB; clear hB hmin
      obtain ⟨k0, k1, k2⟩ := hR8.bm.c3
      go_wp2_with fail
      refine hwv.out.mono ?_
      rintro e w9 ⟨rfl, he9⟩
      have hR9 := hR8.up he9
      have HE := Lib.hid he9
      clear hwv he9 k0 k1 k2
      have hva := Lib.hid (values_any (some ⟨S, 0, none⟩) rn m.orders.length w9)
      go_wp2_with fail
      refine hva.out.mono ?_
      rintro e w10 ⟨rfl, hb10, he10⟩
      have hR10 := hR9.up he10
      have HE := Lib.hid (HE.out.trans he10)
      clear hva he10 hR9
      have hso := Lib.hid (sorted_of_any _ (some ⟨S, 0, none⟩) m.orders.length xs (by omega) w10 (by rw [hxl]; exact hb10) (hXS.out w10 hR10))
      clear hb10
      go_wp2_with fail
      refine hso.out.mono ?_
      rintro e w11 ⟨v1, rfl, hv1, he11⟩
      have hR11 := hR10.up he11
      have HE := Lib.hid (HE.out.trans he11)
      clear hso he11 hR10
      obtain ⟨sx, hsx⟩ : ∃ sx, (xs.mergeSort fun x y => decide (x ≤ y)) = sx := ⟨_, rfl⟩
      rw [hsx] at hv1
      have Hsx := Lib.hid hsx; clear hsx
      obtain ⟨V1, d1, rfl, _, _, i1, _, _⟩ := hv1.open_
      have I1 := Lib.hid i1
      clear hv1 i1
      have hva := Lib.hid (values_any BA bs.length bc w11)
      go_wp2_with fail
      refine hva.out.mono ?_
      rintro e w12 ⟨rfl, hb12, he12⟩
      have hR12 := hR11.up he12
      have HE := Lib.hid (HE.out.trans he12)
      have I1 := Lib.hid (I1.out.ext he12)
      clear hva he12 hR11
      have hso := Lib.hid (sorted_of_any _ BA bc bs (by omega) w12 hb12 (HBI.out.ext HE.out))
      clear hb12
      go_wp2_with fail
      refine hso.out.mono ?_
      rintro e w13 ⟨v2, rfl, hv2, he13⟩
      have hR13 := hR12.up he13
      have HE := Lib.hid (HE.out.trans he13)
      have I1 := Lib.hid (I1.out.ext he13)
      clear hso he13 hR12
      obtain ⟨sb, hsb⟩ : ∃ sb, (bs.mergeSort fun x y => decide (x ≤ y)) = sb := ⟨_, rfl⟩
      rw [hsb] at hv2
      have Hsb2 := Lib.hid hsb; clear hsb
      obtain ⟨V2, d2, rfl, _, _, i2, _, _⟩ := hv2.open_
      have heq := Lib.hid (equalI V1 V2 d1 d2 sx sb true (decide_eq_true (by rw [← Hsx.out, ← Hsb2.out]; exact sorted_perm HB.out.perm.symm)) w13 (by rw [← Hsx.out, List.length_mergeSort]; unfold maxLen; omega) I1.out i2)
      clear hv2 i2 I1
      go_wp2_with fail
      refine heq.out.mono ?_
      rintro e w14 ⟨rfl, he14⟩
      have hR14 := hR13.up he14
      have HE := Lib.hid (HE.out.trans he14)
      clear heq he14 hR13 hR8
      have hst := fun i hi => struck_ok Hok.out Hl1.out Hsb.out HB.out.tm (i := i) hi
      rw [HB.out.ch] at hst
      have Hst := Lib.hid hst; clear hst
      have hBI := Lib.hid (HBI.out.ext HE.out)
      -- <<fl
      go_wp2_with fail
      go_loopw [16, 17, 18, 98] (fun _ _ _ iv wr => ∃ i : Nat, i ≤ bs.length ∧ iv = .int .i64 i ∧ Ext w14 wr) (fun _ _ _ iv _ => bs.length - (intOf iv).toNat)
      case atStart => exact ⟨0, by omega, rfl, Ext.refl _⟩
      case round =>
        obtain ⟨i, hi', rfl, hez⟩ := hrel
        by_cases hlt : i < bs.length
        · have hdl : decide ((i : Int) < (bs.length : Int)) = true := decide_eq_true (by omega)
          have hRr := hR14.up hez
          have hbi := Lib.hid (hBI.out.ext hez)
          obtain ⟨k0, k1, k2⟩ := hRr.bm.c3
          go_upto_region 16 with fail
          refine wp_region_chainL 12 [(2, true), (6, true), (7, true)] [] [8, 9, 10, 11] (by kernel_rfl) (by kernel_rfl) (by kernel_rfl) ?_
          simp only [List.take, List.drop, fill, Act.put, List.setIfInBounds_toArray, List.set_cons_zero, List.set_cons_succ, Nat.reduceAdd]
          repeat (first
            | refine FloatsL.mut rfl ?_
            | (apply FloatsL.float rfl
               · intro x W he hd K Q hK
                 try (have he := he (by decide); have k0 := he.cell k0; have k1 := he.cell k1; have k2 := he.cell k2)
                 try simp only [edges, DepsE, List.filter_cons, List.filter_nil, Region.binds, if_true, and_true, true_and, upd, Nat.reduceEqDiff, if_false] at hd
                 try simp only [hd] at hK ⊢
                 have HK := Lib.hid hK; clear hK
                 go_wp2_with fail
                 exact HK.out))
          refine FloatsL.done fun W he hG => ?_
          have hRW := hRr.up he
          have hcl := Lib.hid (cloneI BA bc bs W (by omega) (hbi.out.ext he))
          clear hG k0 k1 k2
          refine ChainL.cons _ rfl ?_
          intro x hd K Q hK
          try simp only [edges, DepsE, List.filter_cons, List.filter_nil, Region.binds, if_true, and_true, true_and, upd, Nat.reduceEqDiff, if_false] at hd
          try simp only [hd] at hK ⊢
          clear hd
          have HK := Lib.hid hK; clear hK
          go_wp2_with fail
          refine hcl.out.mono ?_
          rintro e wA ⟨va, rfl, hva, heA⟩
          have heWA := he.trans heA
          go_wp2_with fail
          refine HK.out _ _ (fun _ => heWA) ?_
          clear HK hcl
          have hde := Lib.hid (deleteI W.heap.size va bs wA hva (by omega) i hlt)
          have hva := Lib.hid hva
          refine ChainL.cons _ rfl ?_
          intro x hd K Q hK
          try simp only [edges, DepsE, List.filter_cons, List.filter_nil, Region.binds, if_true, and_true, true_and, upd, Nat.reduceEqDiff, if_false] at hd
          try simp only [hd] at hK ⊢
          clear hd
          have HK := Lib.hid hK; clear hK
          go_wp2_with fail
          refine hde.out.mono ?_
          rintro e wB ⟨vb, rfl, hvb, hob, hgB⟩
          have hgb : ∀ j, va.ownBlock = some j → W.heap.size ≤ j := fun j hj => (hva.out.own_lt j hj).1
          have heB : Ext wr wB := Below.grown heWA hgB (by have := heWA.size; omega) (fun j hj => by have := hgb j hj; have := he.size; omega)
          go_wp2_with fail
          refine HK.out _ _ (fun _ => heB) ?_
          clear HK hde hgB hgb
          obtain ⟨VB, db, rfl, y1, y2, y3, _, _⟩ := hvb.open_
          have hRB := hRr.up heB
          have hwv := Lib.hid (woven_any _ m Hch.out 0 (by have := Hl1.out; omega) VB db (bs.take i ++ bs.drop (i + 1)) y1 y2 (by rw [List.length_append, List.length_take, List.length_drop]; omega) true (Hst.out i hlt).1 wB (hV.out wB hRB) y3)
          rw [if_pos rfl] at hwv
          have hle := (Hst.out i hlt).2
          obtain ⟨cz, hcz⟩ : ∃ cz, chR m 0 (rvI (bs.take i ++ bs.drop (i + 1))) = cz := ⟨_, rfl⟩
          rw [hcz] at hwv hle
          obtain ⟨zl, hzl⟩ : ∃ zl, (bs.take i ++ bs.drop (i + 1)).length = zl := ⟨_, rfl⟩
          rw [hzl] at hwv ⊢
          clear hcz hvb y1 y2 y3 hob hva heWA hzl
          refine ChainL.cons _ rfl ?_
          intro x hd K Q hK
          try simp only [edges, DepsE, List.filter_cons, List.filter_nil, Region.binds, if_true, and_true, true_and, upd, Nat.reduceEqDiff, if_false] at hd
          try simp only [hd] at hK ⊢
          clear hd
          have HK := Lib.hid hK; clear hK
          go_wp2_with fail
          refine hwv.out.mono ?_
          rintro e wC ⟨rfl, heC⟩
          have heCC := heB.trans heC
          go_wp2_with fail
          refine HK.out _ _ (fun _ => heCC) ?_
          clear HK hwv
          refine ChainL.nil ?_
          try simp only [List.take, List.drop, upd, Nat.reduceEqDiff, if_false, if_true]
          repeat (first
            | refine Lates.skip rfl ?_
            | (apply Lates.late rfl
               · intro x hd K Q hK
                 try simp only [edges, DepsE, List.filter_cons, List.filter_nil, Region.binds, if_true, and_true, true_and, upd, Nat.reduceEqDiff, if_false] at hd
                 try simp only [hd] at hK ⊢
                 have HK := Lib.hid hK; clear hK
                 go_wp2_with fail
                 exact HK.out))
          refine Lates.done ?_
          simp only [upd, Nat.reduceEqDiff, if_false, if_true]
          have hdc : decide (rc < cz) = false := decide_eq_false (by omega)
          clear he heA heC heB hRB hRW
          go_wp2_with fail
          go_roundw
          case rel => exact ⟨i + 1, by omega, by go_num, hez.trans heCC⟩
          case measure => simp [intOf]; omega
        · obtain rfl : i = bs.length := by omega
          go_wp2_with fail
          go_meet
          exact HE.out.trans hez
      -- >>
    -- >>
  case rest =>
  -- <<rest
  have hR9 := hR8.up hcut; have hs9 := hs8.ext hcut
  have hBI := Lib.hid (HBI.out.ext hcut)
  clear hR8 hs8 HBI hcut
  have hmk : ∀ W : World, (Instr.makeSlice 22 (.int .i64 (rn : Int)) (.int .i64 (rn : Int))).run Tryz.prog W = .ok (.slice (some ⟨W.heap.size, 0, none⟩) rn rn) (W.alloc (.cells (madeCells #[.int .i64 0] rn) 3)) := by
    intro W
    have := run_make (P := Tryz.prog) W 22 3 ti _ Tryz.underlying22 hi hz0 .i64 .i64 rn rn (by omega) (by omega) (by rw [hz2]; omega) (by omega)
    simpa [hz1, Value.cells] using this
  go_wp2_with fail
  go_loopw [19, 20, 21, 22, 23, 24, 25, 26, 27, 28, 29, 120] (fun _ _ _ _ _ _ _ _ _ _ _ iv wr => ∃ i : Nat, i ≤ 10 ∧ iv = .int .i64 i ∧ Apart Q wc wr ∧ SpoolAt wr Q (10 + 7 * i)) (fun _ _ _ _ _ _ _ _ _ _ _ iv _ => 10 - (intOf iv).toNat)
  case atStart => exact ⟨0, by omega, rfl, Apart.refl _ _, hs9.mono (by omega)⟩
  case round =>
    clear hs9
    obtain ⟨i, hi10, rfl, hap, hsp⟩ := hrel
    have hRr := hR9.apart hMg hMQ hSQ hap
    by_cases hlt : i < 10
    · have hd10 : decide ((i : Int) < 10) = true := decide_eq_true (by omega)
      have hX := Ext.alloc wr (.cells (madeCells #[.int .i64 0] rn) 3)
      have hrr := Row.made (Blk.new wr 3 (madeCells #[.int .i64 0] rn))
      have hRX := hRr.up hX
      have hsX := hsp.ext hX
      have hMR : M < wr.heap.size := hRr.bm.lt
      have hSR : S < wr.heap.size := hRr.row.lt
      have hQR : Q < wr.heap.size := hsp.lt
      have hwR : w2.heap.size ≤ wr.heap.size := hRr.ext.size
      have hwcR : wc.heap.size ≤ wr.heap.size := hap.size
      have haX := hap.trans (Apart.of_ext (b := Q) hX)
      go_upto_region 23 with fail
      obtain ⟨R, hR⟩ : ∃ R, wr.heap.size = R := ⟨_, rfl⟩
      rw [hR] at hrr hMR hSR hQR hwR hwcR ⊢
      clear hX
      generalize wr.alloc _ = WX at *
      have hor := Lib.hid (orderS_any Q _ (by omega) rn (by omega) WX hsX)
      have hXl : R < WX.heap.size := hrr.lt
      clear hR hsp hRr hap
      go_wp2_with fail
      refine hor.out.mono ?_
      rintro e w11 ⟨S2, f2, rfl, hS2, hrow2, hperm2, hs11, ha11⟩
      have hrr11 := hrr.apart (by omega : R ≠ Q) ha11
      have hR11 := hRX.apart hMg hMQ hSQ ha11
      have ha11 := haX.trans ha11
      have hS2R : S2 ≠ R := by omega
      have hyp : (pickI xs (lst f2 rn)).Perm xs := pickI_perm (by rw [hxl]; exact hperm2)
      have hrng : ∀ j, j < rn → ∃ p : Nat, f2 j = (p : Int) ∧ p < rn := fun j hj => by
        have h1 : f2 j ∈ lst f2 rn := by unfold lst; exact List.mem_map.2 ⟨j, List.mem_range.2 hj, rfl⟩
        obtain ⟨p, hp, e⟩ := ints_mem.1 (hperm2.mem_iff.1 h1)
        exact ⟨p, e.symm, List.mem_range.1 hp⟩
      have Hrng := Lib.hid hrng; have Hyp := Lib.hid hyp
      clear hor hrr hRX hsX haX hS2 hperm2 hrng hyp
      go_wp2_with fail
      go_loopw [20, 21, 130] (fun _ _ jv wx => ∃ (j : Nat) (g : Nat → Int), j ≤ rn ∧ jv = .int .i64 j ∧ RunW w2 Q M S m.orders.length f m #[.slice A1 m.laced.length c1, .int .i64 m.change, .slice A2 m.orders.length c2] wx ∧ SpoolAt wx Q (10 + 7 * i + rn) ∧ Apart Q wc wx ∧ Row wx S2 rn f2 ∧ Row wx R rn g ∧ Hid (∀ k, k < j → g k = xs[(f2 k).toNat]?.getD 0)) (fun _ _ jv _ => rn - (intOf jv).toNat)
      case atStart => exact ⟨0, _, by omega, rfl, hR11, hs11, ha11, hrow2, hrr11, fun k hk => by omega⟩
      case round =>
        clear hR11 hs11 ha11 hrow2 hrr11
        obtain ⟨j, g, hj, rfl, hRx, hsx, hax, hrow2, hrr, hg⟩ := hrel
        by_cases hltj : j < rn
        · -- <<inner
          have hdj : decide ((j : Int) < (rn : Int)) = true := decide_eq_true (by omega)
          obtain ⟨p, hfp, hp⟩ := Hrng.out j hltj
          obtain ⟨b', o', e, q1⟩ := hXS.out wr hRx p (by omega)
          simp only [Option.some.injEq, Addr.mk.injEq, and_true] at e
          obtain ⟨rfl, rfl⟩ := e
          obtain ⟨xp, hxp⟩ : ∃ xp, xs[p]?.getD 0 = xp := ⟨_, rfl⟩
          rw [hxp, Nat.zero_add] at q1
          have q2 := hrow2.cell hltj
          rw [hfp] at q2
          have q3 := hrr.cell hltj
          have q4 := hrr.frozen j
          have hrr' := hrr.set_ hltj xp
          have hRx' := hRx.set_ (R := R) (by omega) hMR hSR j (.int .i64 xp)
          have hsx' := hsx.apart (by omega : Q < R) ((Apart.refl R _).set_ j (.int .i64 xp))
          have hax' := hax.above (p := ⟨R, j, none⟩) (by show wc.heap.size ≤ R; omega) (.int .i64 xp)
          have hrow2' := hrow2.far (p := ⟨R, j, none⟩) (by show S2 ≠ R; omega) (.int .i64 xp)
          have hg' : Hid (∀ k, k < j + 1 → (fun j' => if j' = j then xp else g j') k = xs[(f2 k).toNat]?.getD 0) := by
            intro k hk
            by_cases e : k = j
            · subst e
              simp only [if_pos]
              rw [hfp, Int.toNat_natCast, hxp]
            · simp only [if_neg e]
              exact hg.out k (by omega)
          have Hrr := Lib.hid hrr'; have HRx := Lib.hid hRx'; have Hsx := Lib.hid hsx'; have Hax := Lib.hid hax'; have Hrow2 := Lib.hid hrow2'
          clear hrr' hRx' hsx' hax' hrow2' hrr hRx hsx hax hrow2 hfp hxp
          go_wp2_with fail
          go_roundw
          case rel => exact ⟨j + 1, _, by omega, by go_num, HRx.out, Hsx.out, Hax.out, Hrow2.out, Hrr.out, hg'⟩
          case measure => simp [intOf]; omega
          -- >>
        · obtain rfl : j = rn := by omega
          have hys : (List.range j).map g = pickI xs (lst f2 j) := by
            unfold pickI lst
            rw [List.map_map]
            exact List.map_congr_left fun k hk => hg.out k (List.mem_range.1 hk)
          have hRI := hrr.ints
          rw [hys] at hRI
          obtain ⟨ys, hye⟩ : ∃ ys, pickI xs (lst f2 j) = ys := ⟨_, rfl⟩
          have hyp := Hyp.out
          rw [hye] at hyp hRI
          have hyl : ys.length = j := by rw [hyp.length_eq, hxl]
          have Hys := Lib.hid (Hsome.out.perm hyp)
          clear hys hye Hyp hg hrow2 hrr Hrng hltj hj
          obtain ⟨q, hq⟩ : ∃ q, okW m 0 ys = q := ⟨_, rfl⟩
          obtain ⟨cy, hcy⟩ : ∃ cy, chR m 0 (rvI ys) = cy := ⟨_, rfl⟩
          have HRI := Lib.hid hRI; clear hRI
          have hwv := Lib.hid (woven_any _ m Hch.out 0 (by have := Hl1.out; omega) _ j ys (by omega) (by unfold maxLen; omega) (by omega) q hq wr (hV.out wr hRx) HRI.out)
          rw [hcy, hyl] at hwv
          obtain ⟨cw, hcw⟩ : ∃ cw, (if q = true then cy else 0) = cw := ⟨_, rfl⟩
          rw [hcw] at hwv
          have Hcw := Lib.hid hcw; clear hcw
          have Hyp := Lib.hid hyp; have Hq := Lib.hid hq; have Hcy := Lib.hid hcy
          clear hyp hq hcy
          obtain ⟨k0, k1, k2⟩ := hRx.bm.c3
          go_wp2_with fail
          refine hwv.out.mono ?_
          rintro e w13 ⟨rfl, he13⟩
          have hR13 := hRx.up he13; have hs13 := hsx.ext he13; have ha13 := hax.trans (Apart.of_ext he13)
          have HRI := Lib.hid (HRI.out.ext he13)
          clear hwv he13 hRx hsx hax k0 k1 k2
          have hrun := Lib.hid (runTop_any _ m 0 _ j ys 0 (Hys.out.run Hok.out Hl1.out) w13 (hV.out w13 hR13) (by omega) (by unfold maxLen; omega) (by omega) HRI.out)
          rw [if_pos rfl, if_pos rfl, Int.toNat_zero, Hcy.out, hyl] at hrun
          obtain ⟨k0, k1, k2⟩ := hR13.bm.c3
          go_wp2_with fail
          refine hrun.out.mono ?_
          rintro e w14 ⟨rv, rfl, hrv, he14⟩
          have hR14 := hR13.up he14; have hs14 := hs13.ext he14; have ha14 := ha13.trans (Apart.of_ext he14)
          have HRI := Lib.hid (HRI.out.ext he14)
          clear hrun he14 hR13 hs13 ha13 k0 k1 k2
          obtain ⟨EA, ec, rfl, _, _, hEI⟩ := hrv
          rw [endsF_len]
          have HEI := Lib.hid hEI; clear hEI
          have HBI := Lib.hid (hBI.out.apartO hBO.out ha14)
          go_upto_region 30 with fail
          go_cut [192] (fun s192 wx => s192 = .bool false ∧ w14 = wx)
          case first =>
            -- <<guards
            cases q with
            | false =>
              go_wp2_with fail
              go_meet
              exact ⟨rfl, rfl⟩
            | true =>
              rcases Hlaw.out.cases_ with ⟨_, _, h3⟩ | ⟨rfl, hB, hmin⟩
              · have := h3 ys Hyp.out
                rw [Hq.out] at this
                cases this
              · have hle := hmin ys Hyp.out Hq.out
                rw [Hcy.out] at hle
                have hcw : cy = cw := Hcw.out
                subst hcw
                have hdl : decide (cy < rc) = false := decide_eq_false (by omega)
                by_cases he : cy = rc
                · have hcmp := Lib.hid (compare_any _ BA j bc ys bs false (hB.first ys Hyp.out Hq.out (by rw [Hcy.out]; exact he)) w14 (by unfold maxLen; omega) HRI.out HBI.out)
                  rw [hyl] at hcmp
                  subst he
                  clear hB hmin hle
                  go_wp2_with fail
                  refine hcmp.out.mono ?_
                  rintro e wz ⟨r', rfl, hr', rfl⟩
                  go_wp2_with fail
                  go_meet
                  exact ⟨rfl, rfl⟩
                · have hbe : (cy == rc) = false := by simpa using he
                  clear hB hmin hle
                  go_wp2_with fail
                  go_meet
                  exact ⟨rfl, rfl⟩
            -- >>
          case rest =>
          obtain ⟨rfl, rfl⟩ := hcut
          go_wp2_with fail
          go_loopw [27, 28, 29, 195] (fun lv _ _ kv wx => ∃ k : Nat, k ≤ j ∧ kv = .int .i64 k ∧ lv = .bool (!tmR m 0 (rvI (ys.take k))) ∧ Ext w14 wx) (fun _ _ _ kv _ => j - (intOf kv).toNat)
          case atStart => exact ⟨0, by omega, rfl, rfl, Ext.refl _⟩
          case round =>
            obtain ⟨k, hk, rfl, rfl, hek⟩ := hrel
            by_cases hltk : k < j
            · -- <<late
              have hdk : decide ((k : Int) < (j : Int)) = true := decide_eq_true (by omega)
              have htk := rvI_take (xs := ys) (k := k) (by omega)
              obtain ⟨b1, o1, rfl, e1⟩ := HEI.out.ext hek k (by rw [endsF_len]; omega)
              have hee : (endsF m 0 ys j)[k]?.getD 0 = dyR m 0 (rvI (ys.take (k + 1))) := by
                unfold endsF
                simp [hltk]
              rw [hee] at e1
              obtain ⟨b2', o2', e, e2⟩ := HRI.out.ext hek k (by omega)
              simp only [Option.some.injEq, Addr.mk.injEq, and_true] at e
              obtain ⟨rfl, rfl⟩ := e
              have hmem : ys[k]?.getD 0 ∈ ys := by rw [List.getElem?_eq_getElem (by omega)]; exact List.getElem_mem _
              have hrg := Hys.out.rng _ hmem
              obtain ⟨y, hy⟩ : ∃ y : Nat, ys[k]?.getD 0 = (y : Int) := ⟨(ys[k]?.getD 0).toNat, by omega⟩
              rw [hy] at e2 hrg htk
              rw [Nat.zero_add] at e2
              rw [Int.toNat_natCast] at htk
              have hyn : y < m.orders.length := by omega
              have hRk := hR14.up hek
              obtain ⟨b3', o3, rfl, A', ca', hca', z1, z2, z3, z4, z5⟩ := H7.out.ext hRk.ext y hyn
              have hbyy : (m.orders[y]?.getD default).by_ = m.byy y := rfl
              rw [hbyy] at z3
              have htm : tmR m 0 (rvI (ys.take (k + 1))) = (tmR m 0 (rvI (ys.take k)) && decide (dyR m 0 (rvI (ys.take (k + 1))) ≤ m.byy y)) := by
                rw [htk]; rfl
              obtain ⟨dv, hdv⟩ : ∃ dv, dyR m 0 (rvI (ys.take (k + 1))) = dv := ⟨_, rfl⟩
              rw [hdv] at htm e1
              obtain ⟨t0, ht0⟩ : ∃ t0, tmR m 0 (rvI (ys.take k)) = t0 := ⟨_, rfl⟩
              rw [ht0] at htm
              obtain ⟨yb, hyb⟩ : ∃ yb, m.byy y = yb := ⟨_, rfl⟩
              rw [hyb] at htm z3
              obtain ⟨k0, k1, k2⟩ := hRk.bm.c3
              rw [ht0]
              have Htm := Lib.hid htm
              have Hek := Lib.hid hek
              clear htm htk hee hmem hdv ht0 hyb hbyy hca' z1 z2 z4 z5 hy hek
              have hj7 : j ≤ 7 := by omega
              have hyl2 : (y : Int) < (m.orders.length : Int) := hrg.2
              clear hMg hMQ hSQ hrn hMR hSR hQR hwR hwcR hXl hS2R hyl hs14 ha14 hR14 hRk hxl b2 b3 hmk hR9 hlt hd10 hrg hE hi hz0 hz1 hz2 hi10 hk
              cases t0 with
              | false =>
                simp only [Bool.not_false]
                clear e2 z3 k0 k1 k2 hyl2
                go_upto_region 36 with fail
                -- zz0
                go_quiet (fail)
                -- zz1
                go_wp2_with fail
                -- zz2
                go_roundw
                case rel => exact ⟨k + 1, by omega, by go_num, by rw [Htm.out]; rfl, Hek.out.trans (Ext.drewN _ _)⟩
                case measure => simp [intOf]; omega
              | true =>
                by_cases hby : yb < dv
                · have hdb : decide (yb < dv) = true := decide_eq_true hby
                  have hdc : decide (dv ≤ yb) = false := decide_eq_false (by omega)
                  clear hby
                  go_upto_region 36 with fail
                  go_quiet (fail)
                  go_wp2_with fail
                  go_roundw
                  case rel => exact ⟨k + 1, by omega, by go_num, by rw [Htm.out, hdc]; rfl, Hek.out.trans (Ext.drewN _ _)⟩
                  case measure => simp [intOf]; omega
                · have hdb : decide (yb < dv) = false := decide_eq_false hby
                  have hdc : decide (dv ≤ yb) = true := decide_eq_true (by omega)
                  clear hby
                  go_upto_region 36 with fail
                  go_quiet (fail)
                  go_wp2_with fail
                  go_roundw
                  case rel => exact ⟨k + 1, by omega, by go_num, by rw [Htm.out, hdc]; rfl, Hek.out.trans (Ext.drewN _ _)⟩
                  case measure => simp [intOf]; omega
              -- >>
            · -- <<end
              obtain rfl : k = j := by omega
              have ht : tmR m 0 (rvI (ys.take k)) = q := by
                rw [← hyl, List.take_length, ← Hys.out.isOk Hok.out Hl1.out]; exact Hq.out
              rw [ht]
              have hsf := hs14.ext hek
              have haf := ha14.trans (Apart.of_ext hek)
              clear ht
              cases q <;> (go_wp2_with fail; go_roundw; (case rel => exact ⟨i + 1, by omega, by go_num, haf, hsf.mono (by omega)⟩); (case measure => simp [intOf]; omega))
              -- >>
    · -- <<last
      obtain rfl : i = 10 := by omega
      have hd10 : decide (((10 : Nat) : Int) < 10) = false := by decide
      go_wp2_with fail
      refine (awake_any wr).mono ?_
      rintro e w12 ⟨rfl, he12⟩
      go_wp2_with fail
      go_ret
      exact ⟨rfl, hE.trans (hRr.ext.trans he12)⟩
      -- >>
  -- >>
end Go.Proofs.Pet
