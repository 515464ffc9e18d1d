/-
  Whether a table bounds, walked.
  The least of a table: what the giver gives; Bounds and Least, walked. loom.Least, walked.
-/
import Derived.Test.YtfglamdbnclcaaaGreatZ2
namespace Go.Proofs.Pet
set_option linter.unusedSimpArgs false
open Go Go.RowKit Go.Maps Go.Shelf
attribute [local go_sem] Oper.semAt_some

theorem TabI.get {w : World} {tv : Value} {m : Mill} {T : List (List (List Int))} (h : TabI w tv T) (hT : TabOk m T) {l s k : Nat} (hl : l < m.laced.length) (hs : s < 2 ^ m.orders.length) (hk : k < m.orders.length) :
    ∃ b o c b1 o1 c1 b2 o2 c2, tv = .slice (some ⟨b, o, none⟩) m.laced.length c ∧ w.cell? ⟨b, o + l, none⟩ = some (.slice (some ⟨b1, o1, none⟩) (2 ^ m.orders.length) c1) ∧ w.cell? ⟨b1, o1 + s, none⟩ = some (.slice (some ⟨b2, o2, none⟩) m.orders.length c2) ∧
      w.cell? ⟨b2, o2 + k, none⟩ = some (.int .i64 (tabF T l s k)) := by
  obtain ⟨A, c, rfl, h2, h3, h4⟩ := h
  obtain ⟨b, o, u, rfl, g1, A1, c1, rfl, g2, g3, g4⟩ := h4 l (by rw [hT.len]; exact hl)
  obtain ⟨b1, o1, u1, rfl, f1, A2, c2, rfl, f2, f3, f4⟩ := g4 s (by rw [hT.rows l hl]; exact hs)
  obtain ⟨b2, o2, rfl, e1⟩ := f4 k (by rw [hT.nums l s hl hs]; exact hk)
  rw [hT.rows l hl] at g1
  rw [hT.nums l s hl hs] at f1
  rw [hT.len]
  exact ⟨b, o, c, b1, o1, c1, b2, o2, c2, rfl, g1, f1, e1⟩
theorem bounds1_any (tb lm : Nat) (m : Mill) (T : List (List (List Int))) (hT : TabOk m T) (tv : Value) (l s k : Nat) (hl : l < m.laced.length) (hs : s < 2 ^ m.orders.length) (hk : k < m.orders.length) (w : World) (ht : TabI w tv T) (htb : Blk w tb 33 #[tv]) (hlm : Blk w lm 3 #[.int .i64 (l : Int)]) :
    Calls Tryz.prog 139 #[.int .i64 (s : Int), .int .i64 (k : Int), .pointer (some ⟨tb, 0, none⟩), .pointer (some ⟨lm, 0, none⟩)] w fun e w' => e = .returned (.int .i64 (tabF T l s k)) ∧ w = w' := by
  obtain ⟨l1, l2, l3⟩ := check_len hT.ok
  have hs128 : 2 ^ m.orders.length ≤ 128 := by
    have h1 : 2 ^ m.orders.length ≤ 2 ^ 7 := Nat.pow_le_pow_right (by omega) l3
    have h2 : (2 : Nat) ^ 7 = 128 := by decide
    omega
  obtain ⟨b, o, c, b1, o1, c1, b2, o2, c2, rfl, g1, g2, g3⟩ := ht.get hT hl hs hk
  have u0 := htb.c1
  have u1 := hlm.c1
  obtain ⟨x, hx⟩ : ∃ x, tabF T l s k = x := ⟨_, rfl⟩
  rw [hx] at g3 ⊢
  obtain ⟨N, hN⟩ : ∃ N, 2 ^ m.orders.length = N := ⟨_, rfl⟩
  rw [hN] at g1 hs hs128
  clear ht htb hlm hx hN hT
  generalize m.laced.length = L at *
  generalize m.orders.length = n at *
  go_enter Tryz.func139, Tryz.ntmps139
  go_wp2_with fail
  go_ret
  exact ⟨rfl, rfl⟩
/-- what has been looked at -/
def bUp (m : Mill) (T : List (List (List Int))) (i s : Nat) : Prop := ∀ l s' k, ((l < i ∧ s' < 2 ^ m.orders.length) ∨ (l = i ∧ s' < s)) → k < m.orders.length → s'.testBit k = true → tabF T l s' k ≤ stepS m (tabF T l) l s' k
def preUp (m : Mill) (T : List (List (List Int))) (i s : Nat) (pre : List (In s)) : Prop := ∀ y, y ∈ pre → tabF T i s y.1 ≤ stepS m (tabF T i) i s y.1
set_option maxRecDepth 20000 in
set_option maxHeartbeats 4000000 in
theorem bounds_any (D : Nat) (tv : Value) (m : Mill) (T : List (List (List Int))) (hT : TabOk m T) (q : Bool) (hq : boundsQ m (tabF T) = q) (w : World) (hD : Desk w D m) (ht : TabI w tv T) :
    Calls Tryz.prog 88 #[.pointer (some ⟨D, 0, none⟩), tv] w fun e w' => e = .returned (.bool q) ∧ Ext w w' := by
  have hch := hT.ok
  obtain ⟨l1, l2, l3⟩ := check_len hch
  have HD := Lib.hid hD
  have HT := Lib.hid hT
  have Ht := Lib.hid ht
  have Hq := Lib.hid hq; clear hq
  obtain ⟨A1, c1, A2, c2, M, cnt, hb, h2, h3, h4, h5, h6, h7, h8, h9⟩ := hD
  have Hv : Hid (MillVal w (.agg #[.slice A1 m.laced.length c1, .int .i64 m.change, .slice A2 m.orders.length c2]) m) := ⟨A1, c1, A2, c2, rfl, h2, h3, h4, h5, h6, h7⟩
  clear h6 h7 h9
  obtain ⟨At, ct, rfl, t2, t3, t4⟩ := ht
  rw [hT.len] at Ht ⊢
  clear t2 t3 t4 hT
  refine (callsIn_wide (n := 5)).1 ?_
  refine callsIn_of_wp_marks Tryz.func88 rfl trivial ?_ rfl
  simp only [Tryz.ntmps88, List.size_toArray, List.length_nil, Nat.reduceSub, Array.replicate_succ, Array.replicate_zero, List.push_toArray, List.append_toArray, List.nil_append, List.cons_append, List.length_cons, Nat.reduceAdd]
  refine wpIn_wide.2 ?_
  have b0 := ((Blk.new w 75 #[.pointer (some ⟨D, 0, none⟩)]).alloc (.cells #[.slice At m.laced.length ct] 33)).alloc (.cells #[.bool false] 4)
  have b1 := (Blk.new (w.alloc (.cells #[.pointer (some ⟨D, 0, none⟩)] 75)) 33 #[.slice At m.laced.length ct]).alloc (.cells #[.bool false] 4)
  have b2 := Blk.new ((w.alloc (.cells #[.pointer (some ⟨D, 0, none⟩)] 75)).alloc (.cells #[.slice At m.laced.length ct] 33)) 4 #[.bool false]
  have hE : Ext w (((w.alloc (.cells #[.pointer (some ⟨D, 0, none⟩)] 75)).alloc (.cells #[.slice At m.laced.length ct] 33)).alloc (.cells #[.bool false] 4)) := ((Ext.alloc _ _).trans (Ext.alloc _ _)).trans (Ext.alloc _ _)
  rw [World.size_alloc] at b1
  rw [World.size_alloc, World.size_alloc] at b2
  have e0 := b0.c1
  obtain ⟨k0, k1, k2, k3⟩ := (hb.ext hE).c4
  go_wp2_with fail
  clear e0 k0 k1 k2 k3
  generalize ((w.alloc _).alloc _).alloc _ = W at *
  refine wp_loop_ghost_k (fun gn a W => ∃ (u5 u6 u7 u8 u9 u10 u11 u12 u15 u16 u17 u18 u19 u20 u21 u22 u23 u24 u25 u26 u27 u28 u29 u30 u31 u32 u33 u34 u35 u36 u37 u38 u39 u40 u41 u42 u43 u44 u45 u46 u47 u48 u49 u50 u51 v14 : Value) (i : Nat) (ds : List Deferred), a = ⟨#[.pointer (some ⟨D, 0, none⟩), .slice At m.laced.length ct, .pointer (some ⟨w.heap.size, 0, none⟩), .pointer (some ⟨w.heap.size + 1, 0, none⟩), .pointer (some ⟨w.heap.size + 1 + 1, 0, none⟩), u5, u6, u7, u8, u9, u10, u11, u12, .int .i64 (m.laced.length : Int), v14, u15, u16, u17, u18, u19, u20, u21, u22, u23, u24, u25, u26, u27, u28, u29, u30, u31, u32, u33, u34, u35, u36, u37, u38, u39, u40, u41, u42, u43, u44, u45, u46, u47, u48, u49, u50, u51], ds⟩ ∧ v14 = .int .i64 (i : Int) ∧ i ≤ m.laced.length ∧ gn = m.laced.length - i ∧ Ext w W ∧
      (Blk W w.heap.size 75 #[.pointer (some ⟨D, 0, none⟩)] ∧ Blk W (w.heap.size + 1) 33 #[.slice At m.laced.length ct] ∧ Blk W (w.heap.size + 1 + 1) 4 #[.bool false]) ∧ Hid (bUp m T i 0) ∧ Marks W w.heap.size W.heap.size ds) m.laced.length ⟨_, _, _, _, _, _, _, _, _, _, _, _, _, _, _, _, _, _, _, _, _, _, _, _, _, _, _, _, _, _, _, _, _, _, _, _, _, _, _, _, _, _, _, _, _, _, 0, [], rfl, rfl, by omega, by omega, hE, ⟨b0, b1, b2⟩, fun l s k h => absurd h (by omega), Marks.nil _ _ _⟩ ?_
  rintro gn a W1 ⟨u5, u6, u7, u8, u9, u10, u11, u12, u15, u16, u17, u18, u19, u20, u21, u22, u23, u24, u25, u26, u27, u28, u29, u30, u31, u32, u33, u34, u35, u36, u37, u38, u39, u40, u41, u42, u43, u44, u45, u46, u47, u48, u49, u50, u51, v14, i, ds, rfl, rfl, hi, rfl, he1, ⟨b1, bt1, br1⟩, hup, hm1⟩ J K hJ hK
  clear b0 b2 hE
  by_cases hlt : i < m.laced.length
  · have hv1 := Hv.out.ext (he1.trans (Ext.alloc W1 (.cells #[.int .i64 (i : Int)] 3)))
    have Hv1 := Lib.hid hv1; clear hv1
    have bl := Blk.new W1 3 #[.int .i64 (i : Int)]
    have b2 := b1.alloc (.cells #[.int .i64 (i : Int)] 3)
    have bt2 := bt1.alloc (.cells #[.int .i64 (i : Int)] 3)
    have br2 := br1.alloc (.cells #[.int .i64 (i : Int)] 3)
    have hm2 := (hm1.ext (Ext.alloc W1 (.cells #[.int .i64 (i : Int)] 3))).mono (hi' := W1.heap.size + 1) (by omega)
    have he2 := he1.trans (Ext.alloc W1 (.cells #[.int .i64 (i : Int)] 3))
    have e0 := b2.c1
    obtain ⟨k0, k1, k2, k3⟩ := (hb.ext he2).c4
    go_wp2_with fail
    obtain ⟨N, hN⟩ : ∃ N, N = 2 ^ m.orders.length := ⟨_, rfl⟩
    refine (sets_any _ m (by omega) N hN _ Hv1.out).mono ?_
    rintro e W2 ⟨rfl, heA⟩
    have HN := Lib.hid hN; clear hN
    have he3 := he2.trans heA
    have b3 := b2.ext heA
    have bt3 := bt2.ext heA
    have br3 := br2.ext heA
    have bl3 := bl.ext heA
    have hm3 := (hm2.ext heA).mono (hi' := W2.heap.size) (by have := heA.size; rw [World.size_alloc] at this; omega)
    have hlm : w.heap.size + 1 + 1 < W1.heap.size := br1.lt
    clear he2 heA b2 bl hm2 hm1 b1 bt1 br1 bt2 br2 he1 k0 k1 k2 k3 e0 Hv1
    generalize W1.heap.size = lm at *
    go_wp2_with fail
    refine wp_loop_ghost_k (fun gn a W => ∃ (u6 u7 u8 u9 u10 u11 u12 u15 u16 u17 u18 u19 u20 u23 u24 u25 u26 u27 u28 u29 u30 u31 u32 u33 u34 u35 u36 u37 u38 u39 u40 u41 u42 u43 u44 u45 u46 u47 u48 u49 u50 u51 v22 : Value) (s : Nat) (ds : List Deferred), a = ⟨#[.pointer (some ⟨D, 0, none⟩), .slice At m.laced.length ct, .pointer (some ⟨w.heap.size, 0, none⟩), .pointer (some ⟨w.heap.size + 1, 0, none⟩), .pointer (some ⟨w.heap.size + 1 + 1, 0, none⟩), .pointer (some ⟨lm, 0, none⟩), u6, u7, u8, u9, u10, u11, u12, .int .i64 (m.laced.length : Int), .int .i64 (i : Int), u15, u16, u17, u18, u19, u20, .int .i64 (N : Int), v22, u23, u24, u25, u26, u27, u28, u29, u30, u31, u32, u33, u34, u35, u36, u37, u38, u39, u40, u41, u42, u43, u44, u45, u46, u47, u48, u49, u50, u51], ds⟩ ∧ v22 = .int .i64 (s : Int) ∧ s ≤ N ∧ gn = N - s ∧ Ext w W ∧
        (Blk W w.heap.size 75 #[.pointer (some ⟨D, 0, none⟩)] ∧ Blk W (w.heap.size + 1) 33 #[.slice At m.laced.length ct] ∧ Blk W (w.heap.size + 1 + 1) 4 #[.bool false]) ∧ Blk W lm 3 #[.int .i64 (i : Int)] ∧ Hid (bUp m T i s) ∧ Marks W w.heap.size W.heap.size ds) N ⟨_, _, _, _, _, _, _, _, _, _, _, _, _, _, _, _, _, _, _, _, _, _, _, _, _, _, _, _, _, _, _, _, _, _, _, _, _, _, _, _, _, _, _, 0, _, rfl, rfl, by omega, by omega, he3, ⟨b3, bt3, br3⟩, bl3, hup, hm3⟩ ?_
    rintro gn a W3 ⟨u6, u7, u8, u9, u10, u11, u12, u15, u16, u17, u18, u19, u20, u23, u24, u25, u26, u27, u28, u29, u30, u31, u32, u33, u34, u35, u36, u37, u38, u39, u40, u41, u42, u43, u44, u45, u46, u47, u48, u49, u50, u51, v22, s, ds, rfl, rfl, hs, rfl, he4, ⟨b4, bt4, br4⟩, bl4, hup4, hm4⟩ J2 K2 hJ2 hK2
    clear he3 b3 bt3 br3 bl3 hm3 hup
    by_cases hlts : s < N
    · have e0 := b4.c1
      obtain ⟨k0, k1, k2, k3⟩ := (hb.ext he4).c4
      have bs := Blk.new W3 3 #[.int .i64 (s : Int)]
      have hX := Ext.alloc W3 (.cells #[.int .i64 (s : Int)] 3)
      have b5 := b4.ext hX
      have bt5 := bt4.ext hX
      have br5 := br4.ext hX
      have bl5 := bl4.ext hX
      have hm5 := (hm4.ext hX).mono (hi' := W3.heap.size + 1) (by omega)
      have he5 := he4.trans hX
      have hlm3 := bl4.lt
      go_wp2_with fail
      clear e0 k0 k1 k2 k3 hX b4 bt4 br4 bl4 hm4 he4
      generalize W3.alloc _ = W4 at *
      generalize W3.heap.size = sm at *
      have hi3 : i < 3 := by omega
      have hs128 : s < 128 := by
        have h1 : 2 ^ m.orders.length ≤ 2 ^ 7 := Nat.pow_le_pow_right (by omega) l3
        have h2 : (2 : Nat) ^ 7 = 128 := by decide
        have h3 := HN.out
        omega
      have e0 := b5.c1
      have e2 := bs.c1
      obtain ⟨k0, k1, k2, k3⟩ := (hb.ext he5).c4
      go_still_tail 5, (by kernel_rfl)
      change wpList _ _ _ _ _ W4.drew
      go_wp2_with fail
      refine (lacking_any _ m s _ (Hv.out.ext (he5.trans (Ext.drew _)))).mono ?_
      rintro e W5 ⟨rfl, heB, ⟨a1, a2, a3, B1⟩, B2⟩
      have he7 := he5.trans ((Ext.drew W4).trans heB)
      have b7 := b5.ext ((Ext.drew W4).trans heB)
      have bt7 := bt5.ext ((Ext.drew W4).trans heB)
      have br7 := br5.ext ((Ext.drew W4).trans heB)
      have bl7 := bl5.ext ((Ext.drew W4).trans heB)
      have bs7 := bs.ext ((Ext.drew W4).trans heB)
      have hL1 : w.heap.size + 1 + 1 < W4.drew.heap.size := br5.lt
      have hL5 := B2.lt
      have hsmL : sm < W4.drew.heap.size := bs.lt
      have hm7 := (hm5.ext ((Ext.drew W4).trans heB)).mono (hi' := W5.heap.size) (by omega)
      clear he5 b5 bt5 br5 bl5 bs hm5 e0 e2 k0 k1 k2 k3 heB
      generalize W4.drew.heap.size = L at *
      go_wp2_with fail
      apply wp_lacking (show m.orders.length ≤ 20 by omega) (show s ≤ 1048576 by omega) B1 B2 rfl rfl
        (fun pre W => W5.heap.size ≤ W.heap.size ∧ Ext w W ∧ (Blk W w.heap.size 75 #[.pointer (some ⟨D, 0, none⟩)] ∧ Blk W (w.heap.size + 1) 33 #[.slice At m.laced.length ct] ∧ Blk W (w.heap.size + 1 + 1) 4 #[.bool false]) ∧
          Blk W lm 3 #[.int .i64 (i : Int)] ∧ Blk W sm 3 #[.int .i64 (s : Int)] ∧ Hid (preUp m T i s pre) ∧ Marks W w.heap.size W5.heap.size ds)
        (fun c pre W => c = .ret ∧ Ext w W ∧ Blk W (w.heap.size + 1 + 1) 4 #[.bool false] ∧ Hid (∃ y : In s, stepS m (tabF T i) i s y.1 < tabF T i s y.1) ∧ Marks W w.heap.size W5.heap.size ds)
        (fun pre W W' ⟨h0, h1, ⟨h2, h2', h2''⟩, h4, h5, h6, h7⟩ hl => ⟨Nat.le_trans h0 hl.size, h1.loops hl he7.size, ⟨h2.loops hl, h2'.loops hl, h2''.loops hl⟩, h4.loops hl, h5.loops hl, h6, h7.loops hl (Nat.le_refl _)⟩)
        (fun c pre W W' ⟨h0, h1, h2, h3, h4⟩ hl => ⟨h0, h1.loops hl he7.size, h2.loops hl, h3, h4.loops hl (Nat.le_refl _)⟩) ⟨Nat.le_refl _, he7, ⟨b7, bt7, br7⟩, bl7, bs7, (fun y hy => by cases hy), hm7⟩
      case hassign =>
        intro l x W K hK
        simp only [encK]
        gi_wp2
        exact hK
      case hbody =>
        intro l pre xe W ⟨i0, i1, ⟨i2, i2', i2''⟩, i4, i5, i6, i7⟩
        have hs2 : s < 2 ^ m.orders.length := HN.out ▸ hlts
        have hxn : xe.1 < m.orders.length := bitsS_mem_lt hs2 xe
        have hDW := HD.out.ext i1
        have hxb := xe.2
        obtain ⟨k, hk⟩ : ∃ k, xe.1 = k := ⟨_, rfl⟩
        rw [hk] at hxn hxb
        rw [hk]
        obtain ⟨r, hr⟩ : ∃ r, stepS m (tabF T i) i s k = r := ⟨_, rfl⟩
        have hcall : ∀ W', Ext W W' → Calls Tryz.prog 99 #[.pointer (some ⟨D, 0, none⟩), .int .i64 i, .int .i64 s, .int .i64 k, .func (.func 139) #[] #[.pointer (some ⟨w.heap.size + 1, 0, none⟩), .pointer (some ⟨lm, 0, none⟩)]] W' fun e w' => e = .returned (.int .i64 r) ∧ Ext W' w' := by
          intro W' hW'
          rw [← hr]
          refine step_any D m hch i s k hlt hxn hs2 hxb _ _ _ (fun x => HT.out.bd i _ x) (enters_of Tryz.func139 (by kernel_rfl) rfl) W' (hDW.ext hW') ?_
          intro W2 hW2 y hy hyb
          refine (bounds1_any (w.heap.size + 1) lm m T HT.out _ i (sdiff s (2 ^ k)) y hlt (Nat.lt_of_le_of_lt (sdiff_le _ _) hs2) hy W2 (Ht.out.ext (i1.trans (hW'.trans hW2))) (i2'.ext (hW'.trans hW2)) (i4.ext (hW'.trans hW2))).mono ?_
          rintro e w' ⟨rfl, rfl⟩
          exact ⟨rfl, Ext.refl _⟩
        have Hcall := Lib.hid hcall; clear hcall
        obtain ⟨tb, tq, tc, tb1, to1, tc1, tb2, to2, tc2, te, g1, g2, g3⟩ := (Ht.out.ext i1).get HT.out hlt hs2 hxn
        injection te with te1 _ te3
        subst te1; subst te3
        have hrb := Lib.hid (stepS_bd m (tabF T i) i s k (fun x => HT.out.bd i _ x))
        obtain ⟨t, ht⟩ : ∃ t, tabF T i s k = t := ⟨_, rfl⟩
        rw [ht] at g3
        rw [← HN.out] at g1
        have Hr := Lib.hid hr
        have Hpre := Lib.hid hk
        have Htt := Lib.hid ht
        clear hr hk ht hDW hrb
        have hmf : ∀ (fn : Fn) (first cap : Array Value) (w : World), (Instr.makeFunc fn first cap).run Tryz.prog w = .ok (.func fn first cap) w := fun _ _ _ _ => rfl
        have u0 := i2.c1
        have u1 := i2'.c1
        have u4 := i4.c1
        have u5 := i5.c1
        gi_wp2_with fail
        refine wpIn_region_chain 16 [(15, true)] [] (by kernel_rfl) (by kernel_rfl) (by kernel_rfl) ?_
        simp only [List.take, List.drop, fill, Act.put, List.setIfInBounds_toArray, List.set_cons_zero, List.set_cons_succ, Nat.reduceAdd]
        repeat (first
          | refine FloatsIn.mut rfl ?_
          | (apply FloatsIn.float rfl
             · intro x W he hd K Q hK
               try (have he := he (by decide); have u0 := he.cell u0; have u1 := he.cell u1; have u4 := he.cell u4; have u5 := he.cell u5; have g1 := he.cell g1; have g2 := he.cell g2; have g3 := he.cell g3)
               try simp only [edges, DepsE, List.filter_cons, List.filter_nil, Region.binds, if_true, and_true, true_and, upd, Nat.reduceEqDiff, if_false] at hd
               try simp only [hd] at hK ⊢
               have HK := Lib.hid hK; clear hK
               gi_wp2_with fail
               exact HK.out))
        refine FloatsIn.done fun W he hG => ?_
        refine ChainIn.cons _ rfl ?_
        intro x hd K Q hK
        try simp only [edges, DepsE, List.filter_cons, List.filter_nil, Region.binds, if_true, and_true, true_and, upd, Nat.reduceEqDiff, if_false] at hd
        try simp only [hd] at hK ⊢
        clear hd
        have HK := Lib.hid hK; clear hK
        gi_wp2_with fail
        refine ⟨trivial, CallsIn.inRound l (callsIn_wide.2 ((Hcall.out W he).mono ?_))⟩
        rintro e w' ⟨rfl, he'⟩
        gi_wp2_with fail
        refine HK.out _ _ (fun _ => he.trans he') ?_
        clear HK
        refine ChainIn.nil ?_
        simp only [upd, Nat.reduceEqDiff, if_false, if_true]
        have heX := he.trans he'
        have hszX := heX.size
        clear he he' u0 u1 u4 u5 g1 g2 g3
        by_cases hlate : r < t
        · have f2 := (i2''.ext heX).frozen 0
          have c2 := (i2''.ext heX).c1
          have Hl := Lib.hid hlate
          gi_wp2_with fail
          refine ⟨(keepsFrom_ext heX).trans ((KeepsOthers.setCell _ _ _).from _), rfl, Below.setCell (i1.trans heX) (by show _ ≤ w.heap.size + 1 + 1; omega) _, (i2''.ext heX).set_ 0 _, ⟨xe, ?_⟩, (i7.ext heX).set_ (p := ⟨w.heap.size + 1 + 1, 0, none⟩) (i2''.ext heX) _⟩
          rw [Hpre.out, Hr.out, Htt.out]; exact Hl.out
        · have hd : decide (r < t) = false := by simpa using hlate
          have Hl := Lib.hid hlate
          clear hlate
          gi_wp2_with fail
          refine ⟨keepsFrom_ext heX, ⟨Below.block heX _ (by omega), Below.block heX _ (by omega)⟩, by omega, i1.trans heX, ⟨i2.ext heX, i2'.ext heX, i2''.ext heX⟩, i4.ext heX, i5.ext heX, fun y hy => ?_, i7.ext heX⟩
          rcases List.mem_append.1 hy with h | h
          · exact i6.out y h
          · rw [List.mem_singleton] at h
            subst h
            rw [Hpre.out, Hr.out, Htt.out]
            have := Hl.out; omega
      case hstop =>
        rintro Dd c pre W hDd ⟨kk, hkk, rfl⟩ ⟨rfl, i1, i2, i3, i4⟩ hdef
        have hp := Lib.hid (i4.push (Nat.le_trans he7.size hDd) hDd hdef)
        have hs2 : s < 2 ^ m.orders.length := HN.out ▸ hlts
        have hqf : Hid (q = false) := by
          obtain ⟨y, hy⟩ := i3.out
          unfold Hid
          rw [← Hq.out, ← Bool.not_eq_true, boundsQ_iff]
          intro h
          have := h i s y.1 hlt hs2 (bitsS_mem_lt hs2 y) y.2
          omega
        clear i3 i4 hdef
        go_wp2_with fail
        refine leaves_marks2 (markOf Dd :: ds) W hp.out (fun W' hq => ⟨?_, by rw [hqf.out], hq.ext i1 (Nat.le_refl _)⟩)
        have v0 := (hq.blk i2).c1
        simp [results, Tryz.results88, go_sem, v0]
      case hdone =>
        intro Dd W hDd ⟨i0, i1, i2, i4, i5, i6, i7⟩ hdef
        have hp := i7.push (Nat.le_trans he7.size hDd) hDd hdef
        have hDlt := (Array.getElem?_eq_some_iff.1 hdef).1
        have hn7 : s < 2 ^ m.orders.length := HN.out ▸ hlts
        have hup5 : Hid (bUp m T i (s + 1)) := fun l s' k h h1 h2 => by
          by_cases e : l = i ∧ s' = s
          · obtain ⟨rfl, rfl⟩ := e
            have hm : k ∈ (bitsS s' m.orders.length).map (fun y : In s' => y.1) := by rw [bitsS_map]; exact mem_bits.2 ⟨h1, h2⟩
            obtain ⟨y, hy, rfl⟩ := List.mem_map.1 hm
            exact i6.out y hy
          · exact hup4.out l s' k (by omega) h1 h2
        clear hdef i6 i7
        go_wp2_with fail
        refine Handed.intro (N - (s + 1)) (by omega) (hJ2 _ _ _ ⟨_, _, _, _, _, _, _, _, _, _, _, _, _, _, _, _, _, _, _, _, _, _, _, _, _, _, _, _, _, _, _, _, _, _, _, _, _, _, _, _, _, _, _, s + 1, _, rfl, by go_num, by omega, rfl, i1, i2, i4, hup5, hp.mono (by omega)⟩)
    · obtain rfl : s = N := by omega
      go_wp2_with fail
      refine Handed.intro (m.laced.length - (i + 1)) (by omega) (hJ _ _ _ ⟨_, _, _, _, _, _, _, _, _, _, _, _, _, _, _, _, _, _, _, _, _, _, _, _, _, _, _, _, _, _, _, _, _, _, _, _, _, _, _, _, _, _, _, _, _, _, i + 1, ds, rfl, by go_num, by omega, rfl, he4, ⟨b4, bt4, br4⟩, ?_, hm4⟩)
      have := hup4.out
      rw [HN.out] at this
      exact fun l s' k h h1 h2 => this l s' k (by omega) h1 h2
  · obtain rfl : i = m.laced.length := by omega
    have z2 := br1.frozen 0
    have u2 := br1.c1
    have hqt : Hid (q = true) := by
      unfold Hid
      rw [← Hq.out, boundsQ_iff]
      exact fun l s k h1 h2 h3 h4 => hup.out l s k (.inl ⟨h1, h2⟩) h3 h4
    have hszw := he1.size
    have hb2 := br1.set_ 0 (.bool true)
    have hm2 := hm1.set_ (p := ⟨w.heap.size + 1 + 1, 0, none⟩) br1 (.bool true)
    have hex := Below.setCell he1 (p := ⟨w.heap.size + 1 + 1, 0, none⟩) (by show _ ≤ w.heap.size + 1 + 1; omega) (.bool true)
    have Hm2 := Lib.hid hm2; have Hb2 := Lib.hid hb2; have Hex := Lib.hid hex
    clear hup hb2 hm2 hex
    go_wp2_with fail
    refine leaves_marks2 ds _ Hm2.out (fun W' hq => ⟨?_, by rw [hqt.out], hq.ext Hex.out (Nat.le_refl _)⟩)
    have v0 := (hq.blk Hb2.out).c1
    simp [results, Tryz.results88, go_sem, v0]
end Go.Proofs.Pet

namespace Go.Proofs.Pet
set_option linter.unusedSimpArgs false
open Go Go.RowKit Go.Maps Go.Shelf
attribute [local go_sem] Oper.semAt_some

def accT (T : Nat → Nat → Nat → Int) (l s : Nat) (ks : List Nat) : Int := ks.foldl (fun a k => min a (T l s k)) 99
theorem accT_snoc (T : Nat → Nat → Nat → Int) (l s : Nat) (ks : List Nat) (k : Nat) : accT T l s (ks ++ [k]) = min (accT T l s ks) (T l s k) := by
  unfold accT; rw [List.foldl_append]; rfl
theorem accT_bd {T : Nat → Nat → Nat → Int} (h : ∀ l s k, 0 ≤ T l s k ∧ T l s k ≤ 99) (l s : Nat) (ks : List Nat) : 0 ≤ accT T l s ks ∧ accT T l s ks ≤ 99 := by
  unfold accT
  rw [foldl_min_map]
  obtain ⟨h1, h2, h3⟩ := fold_min (ks.map (T l s)) 99
  refine ⟨?_, h1⟩
  rcases h3 with h3 | h3
  · omega
  · obtain ⟨k, _, e⟩ := List.mem_map.1 h3
    have := h l s k; omega
set_option maxRecDepth 20000 in
set_option maxHeartbeats 4000000 in
theorem least1_any (dc tc D : Nat) (tv : Value) (m : Mill) (T : List (List (List Int))) (hT : TabOk m T) (i s : Nat) (hi : i < m.laced.length) (hs : s < 2 ^ m.orders.length) (w : World) (hD : Desk w D m) (ht : TabI w tv T)
    (hdc : Blk w dc 75 #[.pointer (some ⟨D, 0, none⟩)]) (htc : Blk w tc 33 #[tv]) :
    Calls Tryz.prog 89 #[.int .i64 (i : Int), .int .i64 (s : Int), .pointer (some ⟨dc, 0, none⟩), .pointer (some ⟨tc, 0, none⟩)] w fun e w' => e = .returned (.int .i64 (numT m.orders.length (tabF T) i s)) ∧ Ext w w' := by
  obtain ⟨l1, l2, l3⟩ := check_len hT.ok
  have HT := Lib.hid hT
  have Ht := Lib.hid ht
  obtain ⟨A1, c1, A2, c2, M, cnt, hb, h2, h3, h4, h5, h6, h7, h8, h9⟩ := hD
  have Hv : Hid (MillVal w (.agg #[.slice A1 m.laced.length c1, .int .i64 m.change, .slice A2 m.orders.length c2]) m) := ⟨A1, c1, A2, c2, rfl, h2, h3, h4, h5, h6, h7⟩
  clear h6 h7 h9 ht hT
  have hs128 : s < 128 := by
    have h1 : 2 ^ m.orders.length ≤ 2 ^ 7 := Nat.pow_le_pow_right (by omega) l3
    have h2 : (2 : Nat) ^ 7 = 128 := by decide
    omega
  refine (callsIn_wide (n := 5)).1 ?_
  refine callsIn_of_wp_marks Tryz.func89 rfl trivial ?_ rfl
  simp only [Tryz.ntmps89, List.size_toArray, List.length_nil, Nat.reduceSub, Array.replicate_succ, Array.replicate_zero, List.push_toArray, List.append_toArray, List.nil_append, List.cons_append, List.length_cons, Nat.reduceAdd]
  refine wpIn_wide.2 ?_
  have hE : Ext w (((w.alloc (.cells #[.int .i64 (i : Int)] 3)).alloc (.cells #[.int .i64 (s : Int)] 3)).alloc (.cells #[.int .i64 99] 3)) := ((Ext.alloc _ _).trans (Ext.alloc _ _)).trans (Ext.alloc _ _)
  have b0 := ((Blk.new w 3 #[.int .i64 (i : Int)]).alloc (.cells #[.int .i64 (s : Int)] 3)).alloc (.cells #[.int .i64 99] 3)
  have b1 := (Blk.new (w.alloc (.cells #[.int .i64 (i : Int)] 3)) 3 #[.int .i64 (s : Int)]).alloc (.cells #[.int .i64 99] 3)
  have b2 := Blk.new ((w.alloc (.cells #[.int .i64 (i : Int)] 3)).alloc (.cells #[.int .i64 (s : Int)] 3)) 3 #[.int .i64 99]
  rw [World.size_alloc] at b1
  rw [World.size_alloc, World.size_alloc] at b2
  go_wp2_with fail
  have hb1 := hb.ext hE
  have d1 := hdc.ext hE
  have t1 := htc.ext hE
  obtain ⟨g0, hg0⟩ : ∃ g, w.heap.size = g := ⟨_, rfl⟩
  rw [hg0] at b0 b1 b2 ⊢
  have hgz := hE.size
  rw [hg0] at hgz
  generalize ((w.alloc _).alloc _).alloc _ = W0 at *
  have e0 := d1.c1
  have e1 := b1.c1
  obtain ⟨k0, k1, k2, k3⟩ := hb1.c4
  go_still_tail 5, (by kernel_rfl)
  change wpList _ _ _ _ _ W0.drew
  go_wp2_with fail
  refine (lacking_any _ m s _ (Hv.out.ext (hE.trans (Ext.drew _)))).mono ?_
  rintro e W5 ⟨rfl, heB, ⟨a1, a2, a3, B1⟩, B2⟩
  have hX := (Ext.drew W0).trans heB
  have he7 := hE.trans hX
  have b07 := b0.ext hX
  have b17 := b1.ext hX
  have b27 := b2.ext hX
  have hL := b2.lt
  clear b0 b1 b2 d1 t1 hb1 k0 k1 k2 k3 e0 e1 heB hX hE
  have hL5 := B2.lt
  have hLW : W0.drew.heap.size = W0.heap.size := rfl
  rw [hLW] at B1 B2 ⊢
  generalize W0.heap.size = L at *
  go_wp2_with fail
  apply wp_lacking (show m.orders.length ≤ 20 by omega) (show s ≤ 1048576 by omega) B1 B2 rfl rfl
    (fun pre W => W5.heap.size ≤ W.heap.size ∧ Ext w W ∧ Blk W g0 3 #[.int .i64 (i : Int)] ∧ Blk W (g0 + 1) 3 #[.int .i64 (s : Int)] ∧ Blk W (g0 + 1 + 1) 3 #[.int .i64 (accT (tabF T) i s (pre.map fun y : In s => y.1))])
    (fun _ _ _ => False)
    (fun pre W W' ⟨h0, h1, h2, h3, h4⟩ hl => ⟨Nat.le_trans h0 hl.size, h1.loops hl he7.size, h2.loops hl, h3.loops hl, h4.loops hl⟩)
    (fun _ _ _ _ h _ => h) ⟨Nat.le_refl _, he7, b07, b17, b27⟩
  case hassign =>
    intro l x W K hK
    simp only [encK]
    gi_wp2
    exact hK
  case hbody =>
    intro l pre x W ⟨i0, i1, i2, i3, i4⟩
    have hxn : x.1 < m.orders.length := bitsS_mem_lt hs x
    obtain ⟨tb, tq, tc0, tb1, to1, tc1, tb2, to2, tc2, te, g1, g2, g3⟩ := (Ht.out.ext i1).get HT.out hi hs hxn
    have hab := accT_bd HT.out.bd i s (pre.map fun y : In s => y.1)
    have hsn := accT_snoc (tabF T) i s (pre.map fun y : In s => y.1) x.1
    have hxm : (pre ++ [x]).map (fun y : In s => y.1) = (pre.map fun y : In s => y.1) ++ [x.1] := by rw [List.map_append]; rfl
    rw [← hxm] at hsn
    obtain ⟨k, hk⟩ : ∃ k, x.1 = k := ⟨_, rfl⟩
    rw [hk] at hxn g3 hsn
    rw [hk]
    have htb := HT.out.bd i s k
    obtain ⟨t, ht⟩ : ∃ t, tabF T i s k = t := ⟨_, rfl⟩
    rw [ht] at g3 hsn htb
    obtain ⟨acc, hacc⟩ : ∃ acc, accT (tabF T) i s (pre.map fun y : In s => y.1) = acc := ⟨_, rfl⟩
    rw [hacc] at i4 hab hsn
    have u0 := i4.c1
    have u1 := (htc.ext i1).c1
    have u2 := i2.c1
    have u3 := i3.c1
    rw [te] at u1
    obtain ⟨N, hN⟩ : ∃ N, 2 ^ m.orders.length = N := ⟨_, rfl⟩
    rw [hN] at g1
    have hsN : s < N := by rw [← hN]; exact hs
    have hNb : N ≤ 128 := by
      have h1 : 2 ^ m.orders.length ≤ 2 ^ 7 := Nat.pow_le_pow_right (by omega) l3
      have h2 : (2 : Nat) ^ 7 = 128 := by decide
      omega
    have Hsn := Lib.hid hsn
    clear hk hacc ht hsn hxm te hN
    obtain ⟨z, hz⟩ : ∃ z, min acc t = z := ⟨_, rfl⟩
    have Hz := Lib.hid hz; clear hz
    gi_wp2_with fail
    refine wpIn_region_chain 13 [(11, true), (12, true)] [] (by kernel_rfl) (by kernel_rfl) (by kernel_rfl) ?_
    simp only [List.take, List.drop, fill, Act.put, List.setIfInBounds_toArray, List.set_cons_zero, List.set_cons_succ, Nat.reduceAdd]
    repeat (first
      | refine FloatsIn.mut rfl ?_
      | (apply FloatsIn.float rfl
         · intro x W he hd K Q hK
           try (have he := he (by decide); have u0 := he.cell u0; have u1 := he.cell u1; have u2 := he.cell u2; have u3 := he.cell u3; have g1 := he.cell g1; have g2 := he.cell g2; have g3 := he.cell g3)
           try simp only [edges, DepsE, List.filter_cons, List.filter_nil, Region.binds, if_true, and_true, true_and, upd, Nat.reduceEqDiff, if_false] at hd
           try simp only [hd] at hK ⊢
           have HK := Lib.hid hK; clear hK
           gi_wp2_with fail
           exact HK.out))
    refine FloatsIn.done fun W he hG => ?_
    refine ChainIn.cons _ rfl ?_
    intro x hd K Q hK
    try simp only [edges, DepsE, List.filter_cons, List.filter_nil, Region.binds, if_true, and_true, true_and, upd, Nat.reduceEqDiff, if_false] at hd
    try simp only [hd] at hK ⊢
    clear hd
    have HK := Lib.hid hK; clear hK
    have hX := Ext.alloc W (.cells #[.int .i64 t] 3)
    have hI1 : IntsAt (W.alloc (.cells #[.int .i64 t] 3)) (some ⟨W.heap.size, 0, none⟩) [t] := by
      intro k hk
      obtain rfl : k = 0 := by simpa using hk
      exact ⟨_, 0, rfl, (Blk.new W 3 #[.int .i64 t]).c1⟩
    have HI1 := Lib.hid hI1; clear hI1
    gi_wp2_with fail
    refine HK.out _ _ (fun _ => he.trans hX) ?_
    clear HK
    have he2 := he.trans hX
    clear he hX
    generalize W.alloc _ = W2 at *
    generalize W.heap.size = sb at *
    refine ChainIn.cons _ rfl ?_
    intro x hd K Q hK
    try simp only [edges, DepsE, List.filter_cons, List.filter_nil, Region.binds, if_true, and_true, true_and, upd, Nat.reduceEqDiff, if_false] at hd
    try simp only [hd] at hK ⊢
    clear hd
    have HK := Lib.hid hK; clear hK
    gi_wp2_with fail
    refine ⟨trivial, CallsIn.inRound l (callsIn_wide.2 ((least_any acc (some ⟨sb, 0, none⟩) 1 1 [t] rfl z (by simpa using Hz.out) W2 (by simp [maxLen]) HI1.out).mono ?_))⟩
    rintro e w' ⟨rfl, rfl⟩
    gi_wp2_with fail
    refine HK.out _ _ (fun _ => he2) ?_
    clear HK
    refine ChainIn.nil ?_
    simp only [upd, Nat.reduceEqDiff, if_false, if_true]
    have i4W := i4.ext he2
    have f4 := i4W.frozen 0
    have c4 := i4W.c1
    gi_wp2_with fail
    have hsz2 := he2.size
    have hL5' := i0
    refine ⟨(keepsFrom_ext he2).trans ((KeepsOthers.setCell _ _ _).from _), ⟨(Below.heap_setCell W2 _ _ L (by show L ≠ g0 + 1 + 1; omega)).trans (Below.block he2 _ (by omega)), (Below.heap_setCell W2 _ _ (L + 1) (by show L + 1 ≠ g0 + 1 + 1; omega)).trans (Below.block he2 _ (by omega))⟩, ?_, ?_, ?_, ?_, ?_⟩
    · rw [World.size_setCell]; omega
    · exact Below.setCell (i1.trans he2) (by show _ ≤ g0 + 1 + 1; omega) _
    · exact (i2.ext he2).far (by show g0 ≠ g0 + 1 + 1; omega) _
    · exact (i3.ext he2).far (by show g0 + 1 ≠ g0 + 1 + 1; omega) _
    · rw [Hsn.out, Hz.out]; exact i4W.set_ 0 _
  case hstop => intro _ _ _ _ _ _ h _; exact h.elim
  case hdone =>
    intro Dd W hDd ⟨i0, i1, i2, i3, i4⟩ hdef
    rw [bitsS_map] at i4
    have hp := (Marks.nil W W5.heap.size Dd).push hDd (Nat.le_refl _) hdef
    have hDlt := (Array.getElem?_eq_some_iff.1 hdef).1
    obtain ⟨acc, hacc⟩ : ∃ acc, accT (tabF T) i s (bits m.orders.length s) = acc := ⟨_, rfl⟩
    rw [hacc] at i4
    have hnum : Hid (numT m.orders.length (tabF T) i s = if s = 0 then 0 else acc) := by
      unfold Hid numT
      rw [← hacc]
      rfl
    have Hp := Lib.hid hp
    clear hacc hp hdef
    have u1 := i3.c1
    have u2 := i4.c1
    have f2 := i4.frozen 0
    have hsz5 := he7.size
    rcases Nat.eq_zero_or_pos s with h0 | h0
    · subst h0
      have hn0 : Hid (numT m.orders.length (tabF T) i 0 = 0) := by have := hnum.out; rw [if_pos rfl] at this; exact this
      have hm2 := Hp.out.set_ (p := ⟨g0 + 1 + 1, 0, none⟩) i4 (.int .i64 0)
      have i5 := i4.set_ 0 (.int .i64 0)
      have hex := Below.setCell i1 (p := ⟨g0 + 1 + 1, 0, none⟩) (by show _ ≤ g0 + 1 + 1; omega) (.int .i64 0)
      have Hm2 := Lib.hid hm2; have I5 := Lib.hid i5; have Hex := Lib.hid hex
      clear hm2 i5 hex hnum Hp
      go_wp2_with fail
      refine leaves_marks2 [markOf Dd] _ Hm2.out (fun W' hq => ⟨results_tmp rfl _ _ _, by rw [hn0.out]; rfl, hq.ext Hex.out (by omega)⟩)
    · have hd : ((s : Int) == 0) = false := by rw [beq_eq_false_iff_ne]; omega
      have hd2 : (s == 0) = false := by rw [beq_eq_false_iff_ne]; omega
      have hn0 : Hid (numT m.orders.length (tabF T) i s = acc) := by have := hnum.out; rw [if_neg (by omega)] at this; exact this
      have I1 := Lib.hid i1
      clear hnum h0 i1
      go_wp2_with fail
      refine leaves_marks2 [markOf Dd] _ Hp.out (fun W' hq => ⟨results_tmp rfl _ _ _, by rw [hn0.out]; rfl, hq.ext I1.out (by omega)⟩)
/-- what Bounds answers -/
theorem boundsTop_any (v tv : Value) (m : Mill) (T : List (List (List Int))) (q : Bool) (r : Int) (hr : boundE m T = (q, r)) (w : World) (hv : MillVal w v m) (ht : TabI w tv T) :
    Calls Tryz.prog 28 #[v, tv] w fun e w' => e = .returned (.tuple #[.bool q, .int .i64 r]) ∧ Ext w w' := by
  have Hv := Lib.hid hv
  obtain ⟨A1, c1, A2, c2, rfl, h2, h3, h4, h5, h6, h7⟩ := hv
  have hE := Ext.alloc w (.cells #[.slice A1 m.laced.length c1, .int .i64 m.change, .slice A2 m.orders.length c2] 25)
  have hM := Blk.new w 25 #[.slice A1 m.laced.length c1, .int .i64 m.change, .slice A2 m.orders.length c2]
  unfold boundE at hr
  simp only [Prod.mk.injEq] at hr
  obtain ⟨hq, hr⟩ := hr
  have htd := Lib.hid (tabled_any _ tv m T r hr _ (Hv.out.ext hE) (ht.ext hE))
  have Ht := Lib.hid ht
  clear h6 h7 ht
  obtain ⟨k0, k1, k2⟩ := hM.c3
  by_cases h0 : r = 0
  · subst h0
    have hT := Lib.hid (tabE_ok hr)
    have hq' : Hid (boundsQ m (tabF T) = q) := by unfold Hid; rw [← hq, hr]; simp
    clear hq hr
    go_enter Tryz.func28, Tryz.ntmps28
    go_wp2_with fail
    refine htd.out.mono ?_
    rintro e w1 ⟨⟨dv, rfl, hop⟩, he1⟩
    obtain ⟨D, rfl, hDw, hD⟩ := hop.ok
    have hbd := Lib.hid (bounds_any D tv m T hT.out q hq'.out w1 hD (Ht.out.ext (hE.trans he1)))
    clear hop hD k0 k1 k2 htd
    go_wp2_with fail
    refine hbd.out.mono ?_
    rintro e w2 ⟨rfl, he2⟩
    go_wp2_with fail
    go_ret2
    exact ⟨rfl, hE.trans (he1.trans he2)⟩
  · have hd : (r != 0) = true := by simpa using h0
    have hq' : q = false := by rw [← hq, hr]; simp [h0]
    subst hq'
    have H0 := Lib.hid h0
    clear hq hr h0
    go_enter Tryz.func28, Tryz.ntmps28
    go_wp2_with fail
    refine htd.out.mono ?_
    rintro e w1 ⟨⟨dv, rfl, hop⟩, he1⟩
    obtain rfl := hop.bad H0.out
    clear hop k0 k1 k2 htd
    go_wp2_with fail
    go_ret2
    exact ⟨rfl, hE.trans he1⟩
end Go.Proofs.Pet

namespace Go.Proofs.Pet
set_option linter.unusedSimpArgs false
open Go Go.RowKit Go.Maps Go.Shelf

theorem tabF_nonneg {m : Mill} {T : List (List (List Int))} (h : TabOk m T) : ∀ l s k, 0 ≤ tabF T l s k := fun l s k => (h.bd l s k).1
set_option maxRecDepth 20000 in
set_option maxHeartbeats 2000000 in
theorem leastTop_any (v tv : Value) (m : Mill) (T : List (List (List Int))) (n r : Int) (hr : leastE m T = (n, r)) (w : World) (hv : MillVal w v m) (ht : TabI w tv T) :
    Calls Tryz.prog 29 #[v, tv] w fun e w' => e = .returned (.tuple #[.int .i64 n, .int .i64 r]) ∧ Ext w w' := by
  have hmf : ∀ (fn : Fn) (first cap : Array Value) (w : World), (Instr.makeFunc fn first cap).run Tryz.prog w = .ok (.func fn first cap) w := fun _ _ _ _ => rfl
  have Hv := Lib.hid hv
  have Ht := Lib.hid ht
  obtain ⟨At, ct, rfl, t2, t3, t4⟩ := ht
  have ht := Ht.out
  clear t2 t3 t4
  obtain ⟨A1, c1, A2, c2, rfl, h2, h3, h4, h5, h6, h7⟩ := hv
  have hE := (Ext.alloc w (.cells #[.slice A1 m.laced.length c1, .int .i64 m.change, .slice A2 m.orders.length c2] 25)).trans (Ext.alloc _ (.cells #[.slice At T.length ct] 33))
  have hM := (Blk.new w 25 #[.slice A1 m.laced.length c1, .int .i64 m.change, .slice A2 m.orders.length c2]).alloc (.cells #[.slice At T.length ct] 33)
  have hTb := Blk.new (w.alloc (.cells #[.slice A1 m.laced.length c1, .int .i64 m.change, .slice A2 m.orders.length c2] 25)) 33 #[.slice At T.length ct]
  rw [World.size_alloc] at hTb
  obtain ⟨e0, he0⟩ : ∃ e0, tabE m T = e0 := ⟨_, rfl⟩
  have htd := Lib.hid (tabled_any _ (.slice At T.length ct) m T e0 he0 _ (Hv.out.ext hE) (ht.ext hE))
  clear h6 h7 ht
  obtain ⟨k0, k1, k2⟩ := hM.c3
  have u0 := hTb.c1
  by_cases h0 : e0 = 0
  · subst h0
    have hT := Lib.hid (tabE_ok he0)
    have hr' : (if boundsQ m (tabF T) = true then (if 297 ≤ sumF (numT m.orders.length (tabF T)) m.laced.length (2 ^ m.orders.length - 1) then ((0 : Int), (6 : Int)) else (sumF (numT m.orders.length (tabF T)) m.laced.length (2 ^ m.orders.length - 1), 0)) else (0, 8)) = (n, r) := by rw [← hr]; unfold leastE; rw [if_pos he0]
    have Hr := Lib.hid hr'
    clear hr hr' he0
    obtain ⟨l1, l2, l3⟩ := check_len hT.out.ok
    obtain ⟨q, hq⟩ : ∃ q, boundsQ m (tabF T) = q := ⟨_, rfl⟩
    simp only [hq] at Hr
    have Hq := Lib.hid hq; clear hq
    go_enter Tryz.func29, Tryz.ntmps29
    go_wp2_with fail
    refine htd.out.mono ?_
    rintro e w1 ⟨⟨dv, rfl, hop⟩, he1⟩
    obtain ⟨D, rfl, hDw, hD⟩ := hop.ok
    have hX := Ext.alloc w1 (.cells #[.pointer (some ⟨D, 0, none⟩)] 75)
    have hDc := Blk.new w1 75 #[.pointer (some ⟨D, 0, none⟩)]
    have hE2 := hE.trans (he1.trans hX)
    have hM2 := (hM.ext he1).ext hX
    have hT2 := (hTb.ext he1).ext hX
    have hD2 := hD.ext hX
    have hbd := Lib.hid (bounds_any D (.slice At T.length ct) m T hT.out q Hq.out _ hD2 (Ht.out.ext hE2))
    have Hd2 := Lib.hid hD2
    clear hop hD k0 k1 k2 u0 htd hM hTb hD2
    have u0 := hT2.c1
    go_wp2_with fail
    obtain ⟨dc, hdc⟩ : ∃ dc, w1.heap.size = dc := ⟨_, rfl⟩
    rw [hdc] at hDc ⊢
    clear hdc
    generalize w1.alloc _ = W2 at *
    obtain ⟨g0, hg0⟩ : ∃ g0, w.heap.size = g0 := ⟨_, rfl⟩
    rw [hg0] at hM2 hT2 ⊢
    clear hg0 hE
    refine hbd.out.mono ?_
    rintro e w3 ⟨rfl, he3⟩
    have hE3 := hE2.trans he3
    have hM3 := hM2.ext he3
    have hT3 := hT2.ext he3
    have hDc3 := hDc.ext he3
    clear u0 hbd
    cases q with
    | false =>
      have hr0 := Hr.out
      simp only [Bool.false_eq_true, if_false, Prod.mk.injEq] at hr0
      obtain ⟨rfl, rfl⟩ := hr0
      go_wp2_with fail
      go_ret2
      exact ⟨rfl, hE3⟩
    | true =>
      obtain ⟨N, hN⟩ : ∃ N, N = 2 ^ m.orders.length := ⟨_, rfl⟩
      have hNb : N ≤ 128 ∧ 1 ≤ N := by
        have h1 : 2 ^ m.orders.length ≤ 2 ^ 7 := Nat.pow_le_pow_right (by omega) l3
        have h2 : (2 : Nat) ^ 7 = 128 := by decide
        have h3 := Nat.two_pow_pos m.orders.length
        omega
      have hgv := Lib.hid (given_any D m hT.out.ok 89 #[] #[.pointer (some ⟨dc, 0, none⟩), .pointer (some ⟨g0 + 1, 0, none⟩)] (enters_of Tryz.func89 (by kernel_rfl) rfl) (numT m.orders.length (tabF T)) (fun l s => by have := numT_bd (n := m.orders.length) (tabF_nonneg hT.out) l s; omega) N hN w3 (Hd2.out.ext he3)
        (fun W hW l s hl hs => least1_any dc (g0 + 1) D (.slice At T.length ct) m T hT.out l s hl (hN ▸ hs) W (Hd2.out.ext (he3.trans hW)) (Ht.out.ext (hE3.trans hW)) (hDc3.ext hW) (hT3.ext hW)))
      obtain ⟨sm, hsm⟩ : ∃ sm, sumF (numT m.orders.length (tabF T)) m.laced.length (2 ^ m.orders.length - 1) = sm := ⟨_, rfl⟩
      have hr0 := Hr.out
      simp only [if_true, hsm] at hr0
      have Hr0 := Lib.hid hr0
      rw [← hN] at hsm
      have HN := Lib.hid hN; have Hsm := Lib.hid hsm
      have u0 := hDc3.c1
      clear hr0 Hr hN hsm
      go_wp2_with fail
      refine hgv.out.mono ?_
      rintro e w4 ⟨S, G, lim, rfl, hS, hG, he4⟩
      obtain ⟨b, q1, q2, q3⟩ := hS.at_ (i := m.laced.length) (by omega) (by omega)
      have q4 := q3.cell (j := N - 1) (by omega)
      rw [Hsm.out] at q4
      have hD4 := Hd2.out.ext (he3.trans he4)
      obtain ⟨B1, d1, B2, d2, MM, cnt, hb, g2, g3, g4, g5, g6, g7, _, _⟩ := hD4
      have hvD := Lib.hid (show MillVal w4 (.agg #[.slice B1 m.laced.length d1, .int .i64 m.change, .slice B2 m.orders.length d2]) m from ⟨B1, d1, B2, d2, rfl, g2, g3, g4, g5, g6, g7⟩)
      have hse := Lib.hid (fun W (hW : Ext w4 W) => sets_any _ m (by omega) N HN.out W (hvD.out.ext hW))
      have hM4 := hM3.ext he4
      have hDc4 := hDc3.ext he4
      have hE4 := hE3.trans he4
      obtain ⟨f0, f1, f2, f3⟩ := hb.c4
      obtain ⟨k0, k1, k2⟩ := hM4.c3
      clear u0 hgv hS hG g6 g7 hvD
      have u0 := hDc4.c1
      have hsb : Hid (0 ≤ sm) := by
        have h := (sumF_least (numT m.orders.length (tabF T)) (fun l s => (numT_bd (tabF_nonneg hT.out) l s).1) m.laced.length (2 ^ m.orders.length - 1) l2).2
        rw [← HN.out, Hsm.out] at h
        by_cases h7 : sm < 297
        · obtain ⟨f, _, e2, _⟩ := h h7
          rw [e2]
          exact tot_nonneg _ _ _ fun i _ => (numT_bd (tabF_nonneg hT.out) i (f i)).1
        · show (0 : Int) ≤ sm
          omega
      have hsb0 := hsb.out
      clear hsb
      go_wp2_with fail
      refine wp_region_chain 14 [(10, true), (11, true), (12, true), (13, true)] [] (by kernel_rfl) (by kernel_rfl) (by kernel_rfl) ?_
      simp only [List.take, List.drop, fill, Act.put, List.setIfInBounds_toArray, List.set_cons_zero, List.set_cons_succ, Nat.reduceAdd]
      repeat (first
        | refine Floats.mut rfl ?_
        | (apply Floats.float rfl
           · intro x W he hd K Q hK
             try (have he := he (by decide); have f0 := he.cell f0; have f1 := he.cell f1; have f2 := he.cell f2; have f3 := he.cell f3; have k0 := he.cell k0; have k1 := he.cell k1; have k2 := he.cell k2; have u0 := he.cell u0; have q1 := he.cell q1)
             try simp only [edges, DepsE, List.filter_cons, List.filter_nil, Region.binds, if_true, and_true, true_and, upd, Nat.reduceEqDiff, if_false] at hd
             try simp only [hd] at hK ⊢
             have HK := Lib.hid hK; clear hK
             go_wp2_with fail
             exact HK.out))
      refine Floats.done fun W he hG => ?_
      refine Chain.cons _ rfl ?_
      intro x hd K Q hK
      try simp only [edges, DepsE, List.filter_cons, List.filter_nil, Region.binds, if_true, and_true, true_and, upd, Nat.reduceEqDiff, if_false] at hd
      try simp only [hd] at hK ⊢
      clear hd
      have HK := Lib.hid hK; clear hK
      go_wp2_with fail
      refine (hse.out W he).mono ?_
      rintro e w5 ⟨rfl, he5⟩
      have he' := he.trans he5
      have q5 := he'.cell q4
      go_wp2_with fail
      refine HK.out _ _ (fun _ => he') ?_
      clear HK
      refine Chain.cons _ rfl ?_
      intro x hd K Q hK
      try simp only [edges, DepsE, List.filter_cons, List.filter_nil, Region.binds, if_true, and_true, true_and, upd, Nat.reduceEqDiff, if_false] at hd
      try simp only [hd] at hK ⊢
      clear hd
      have HK := Lib.hid hK; clear hK
      go_wp2_with fail
      refine HK.out _ _ (fun _ => he') ?_
      clear HK
      refine Chain.cons _ rfl ?_
      intro x hd K Q hK
      try simp only [edges, DepsE, List.filter_cons, List.filter_nil, Region.binds, if_true, and_true, true_and, upd, Nat.reduceEqDiff, if_false] at hd
      try simp only [hd] at hK ⊢
      clear hd
      have HK := Lib.hid hK; clear hK
      go_wp2_with fail
      refine HK.out _ _ (fun _ => he') ?_
      clear HK
      refine Chain.cons _ rfl ?_
      intro x hd K Q hK
      try simp only [edges, DepsE, List.filter_cons, List.filter_nil, Region.binds, if_true, and_true, true_and, upd, Nat.reduceEqDiff, if_false] at hd
      try simp only [hd] at hK ⊢
      clear hd
      have HK := Lib.hid hK; clear hK
      go_wp2_with fail
      refine HK.out _ _ (fun _ => he') ?_
      clear HK
      refine Chain.nil ?_
      simp only [upd, Nat.reduceEqDiff, if_false, if_true]
      clear f0 f1 f2 f3 k0 k1 k2 u0 q1 q4 q5
      by_cases h297 : 297 ≤ sm
      · have hr1 := Hr0.out
        rw [if_pos h297, Prod.mk.injEq] at hr1
        obtain ⟨rfl, rfl⟩ := hr1
        go_wp2_with fail
        go_ret2
        exact ⟨rfl, hE4.trans he'⟩
      · have hr1 := Hr0.out
        rw [if_neg h297, Prod.mk.injEq] at hr1
        obtain ⟨rfl, rfl⟩ := hr1
        have hd : decide (297 ≤ sm) = false := by simpa using h297
        go_wp2_with fail
        go_ret2
        exact ⟨rfl, hE4.trans he'⟩
  · have hd : (e0 != 0) = true := by simpa using h0
    have hr' : (0, e0) = (n, r) := by rw [← hr]; unfold leastE; rw [if_neg (by rw [he0]; exact h0), he0]
    rw [Prod.mk.injEq] at hr'
    obtain ⟨rfl, rfl⟩ := hr'
    have H0 := Lib.hid h0
    clear hr he0 h0
    go_enter Tryz.func29, Tryz.ntmps29
    go_wp2_with fail
    refine htd.out.mono ?_
    rintro e w1 ⟨⟨dv, rfl, hop⟩, he1⟩
    obtain rfl := hop.bad H0.out
    have hX := Ext.alloc w1 (.cells #[.pointer none] 75)
    clear hop k0 k1 k2 u0 htd
    go_wp2_with fail
    go_ret2
    exact ⟨rfl, hE.trans (he1.trans hX)⟩
end Go.Proofs.Pet
