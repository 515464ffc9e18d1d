/-
  Whether a table bounds, walked.
-/
import Derived.Test.YtknokjnplbdmeaaGreatZ2
namespace Go.Proofs.Pet
set_option linter.unusedSimpArgs false
open Go Go.RowKit Go.Maps Go.Shelf
attribute [local go_sem] Oper.semAt_some

theorem TabI.get {w : World} {tv : Value} {m : Mill} {T : List (List (List Int))} (h : TabI w tv T) (hT : TabOk m T) {l s k : Nat} (hl : l < m.laced.length) (hs : s < 2 ^ m.orders.length) (hk : k < m.orders.length) :
    ∃ b o c b1 o1 c1 b2 o2 c2, tv = .slice (some ⟨b, o, none⟩) m.laced.length c ∧ w.cell? ⟨b, o + l, none⟩ = some (.slice (some ⟨b1, o1, none⟩) (2 ^ m.orders.length) c1) ∧ w.cell? ⟨b1, o1 + s, none⟩ = some (.slice (some ⟨b2, o2, none⟩) m.orders.length c2) ∧
      w.cell? ⟨b2, o2 + k, none⟩ = some (.int .i64 (tabF T l s k)) := by
  obtain ⟨A, c, rfl, h2, h3, h4⟩ := h
  obtain ⟨b, o, u, rfl, g1, A1, c1, rfl, g2, g3, g4⟩ := h4 l (by rw [hT.len]; exact hl)
  obtain ⟨b1, o1, u1, rfl, f1, A2, c2, rfl, f2, f3, f4⟩ := g4 s (by rw [hT.rows l hl]; exact hs)
  obtain ⟨b2, o2, rfl, e1⟩ := f4 k (by rw [hT.nums l s hl hs]; exact hk)
  rw [hT.rows l hl] at g1
  rw [hT.nums l s hl hs] at f1
  rw [hT.len]
  exact ⟨b, o, c, b1, o1, c1, b2, o2, c2, rfl, g1, f1, e1⟩
theorem bounds1_any (tb lm : Nat) (m : Mill) (T : List (List (List Int))) (hT : TabOk m T) (tv : Value) (l s k : Nat) (hl : l < m.laced.length) (hs : s < 2 ^ m.orders.length) (hk : k < m.orders.length) (w : World) (ht : TabI w tv T) (htb : Blk w tb 27 #[tv]) (hlm : Blk w lm 3 #[.int .i64 (l : Int)]) :
    Calls Tryz.prog 124 #[.int .i64 (s : Int), .int .i64 (k : Int), .pointer (some ⟨tb, 0, none⟩), .pointer (some ⟨lm, 0, none⟩)] w fun e w' => e = .returned (.int .i64 (tabF T l s k)) ∧ w = w' := by
  obtain ⟨l1, l2, l3⟩ := check_len hT.ok
  have hs128 : 2 ^ m.orders.length ≤ 128 := by
    have h1 : 2 ^ m.orders.length ≤ 2 ^ 7 := Nat.pow_le_pow_right (by omega) l3
    have h2 : (2 : Nat) ^ 7 = 128 := by decide
    omega
  obtain ⟨b, o, c, b1, o1, c1, b2, o2, c2, rfl, g1, g2, g3⟩ := ht.get hT hl hs hk
  have u0 := htb.c1
  have u1 := hlm.c1
  obtain ⟨x, hx⟩ : ∃ x, tabF T l s k = x := ⟨_, rfl⟩
  rw [hx] at g3 ⊢
  obtain ⟨N, hN⟩ : ∃ N, 2 ^ m.orders.length = N := ⟨_, rfl⟩
  rw [hN] at g1 hs hs128
  clear ht htb hlm hx hN hT
  generalize m.laced.length = L at *
  generalize m.orders.length = n at *
  go_enter Tryz.func124, Tryz.ntmps124
  go_wp2_with fail
  go_ret
  exact ⟨rfl, rfl⟩
/-- what has been looked at -/
def bUp (m : Mill) (T : List (List (List Int))) (i s : Nat) : Prop := ∀ l s' k, ((l < i ∧ s' < 2 ^ m.orders.length) ∨ (l = i ∧ s' < s)) → k < m.orders.length → s'.testBit k = true → tabF T l s' k ≤ stepS m (tabF T l) l s' k
def preUp (m : Mill) (T : List (List (List Int))) (i s : Nat) (pre : List (In s)) : Prop := ∀ y, y ∈ pre → tabF T i s y.1 ≤ stepS m (tabF T i) i s y.1
theorem TabI.loops {w w' : World} {tv : Value} {T : List (List (List Int))} {B : Nat} (h : TabI w tv T) (hk : Loops B w w') : TabI w' tv T := by
  have hc : ∀ (g j : Nat) (u : Value), w.cell? ⟨g, j, none⟩ = some u → w'.cell? ⟨g, j, none⟩ = some u := fun g j u hc => by
    unfold World.cell? at hc ⊢
    cases hg : w.heap[g]? with
    | none => simp [hg] at hc
    | some ob =>
      cases ob with
      | cells c e fz =>
        simp only [hg] at hc
        simp only [hk.cells g c e fz hg]
        exact hc
      | _ => simp [hg] at hc
  obtain ⟨A, c, h1, h2, h3, h4⟩ := h
  refine ⟨A, c, h1, h2, h3, fun i hi => ?_⟩
  obtain ⟨b, o, u, e, g1, A1, c1, g2, g3, g4, g5⟩ := h4 i hi
  refine ⟨b, o, u, e, hc _ _ _ g1, A1, c1, g2, g3, g4, fun j hj => ?_⟩
  obtain ⟨b1, o1, u1, e1, f1, f2⟩ := g5 j hj
  exact ⟨b1, o1, u1, e1, hc _ _ _ f1, f2.loops hk⟩

set_option maxRecDepth 20000 in
set_option maxHeartbeats 4000000 in
theorem bounds_any (D : Nat) (tv : Value) (m : Mill) (T : List (List (List Int))) (hT : TabOk m T) (q : Bool) (hq : boundsQ m (tabF T) = q) (w : World) (hD : Desk w D m) (ht : TabI w tv T) :
    Calls Tryz.prog 65 #[.pointer (some ⟨D, 0, none⟩), tv] w fun e w' => e = .returned (.bool q) ∧ Ext w w' := by
  have hch := hT.ok
  obtain ⟨l1, l2, l3⟩ := check_len hch
  have HD := Lib.hid hD
  have HT := Lib.hid hT
  have Ht := Lib.hid ht
  have Hq := Lib.hid hq; clear hq
  obtain ⟨A1, c1, A2, c2, M, cnt, hb, h2, h3, h4, h5, h6, h7, h8, h9⟩ := hD
  have Hv : Hid (MillVal w (.agg #[.slice A1 m.laced.length c1, .int .i64 m.change, .slice A2 m.orders.length c2]) m) := ⟨A1, c1, A2, c2, rfl, h2, h3, h4, h5, h6, h7⟩
  clear h6 h7 h9
  obtain ⟨At, ct, rfl, t2, t3, t4⟩ := ht
  rw [hT.len] at Ht ⊢
  clear t2 t3 t4 hT
  refine (callsIn_wide (n := 5)).1 ?_
  refine callsIn_of_wp_marks Tryz.func65 rfl trivial ?_ rfl
  simp only [Tryz.ntmps65, List.size_toArray, List.length_nil, Nat.reduceSub, Array.replicate_succ, Array.replicate_zero, List.push_toArray, List.append_toArray, List.nil_append, List.cons_append, List.length_cons, Nat.reduceAdd]
  refine wpIn_wide.2 ?_
  have b0 := ((Blk.new w 105 #[.pointer (some ⟨D, 0, none⟩)]).alloc (.cells #[.slice At m.laced.length ct] 27)).alloc (.cells #[.bool false] 4)
  have b1 := (Blk.new (w.alloc (.cells #[.pointer (some ⟨D, 0, none⟩)] 105)) 27 #[.slice At m.laced.length ct]).alloc (.cells #[.bool false] 4)
  have b2 := Blk.new ((w.alloc (.cells #[.pointer (some ⟨D, 0, none⟩)] 105)).alloc (.cells #[.slice At m.laced.length ct] 27)) 4 #[.bool false]
  have hE : Ext w (((w.alloc (.cells #[.pointer (some ⟨D, 0, none⟩)] 105)).alloc (.cells #[.slice At m.laced.length ct] 27)).alloc (.cells #[.bool false] 4)) := ((Ext.alloc _ _).trans (Ext.alloc _ _)).trans (Ext.alloc _ _)
  rw [World.size_alloc] at b1
  rw [World.size_alloc, World.size_alloc] at b2
  have e0 := b0.c1
  obtain ⟨k0, k1, k2, k3⟩ := (hb.ext hE).c4
  go_wp2_with fail
  clear e0 k0 k1 k2 k3
  generalize ((w.alloc _).alloc _).alloc _ = W at *
  refine wp_loop_ghost_k (fun gn a W => ∃ (u5 u6 u7 u8 u9 u10 u11 u12 u15 u16 u17 u18 u19 u20 u21 u22 u23 u24 u25 u26 u27 u28 u29 u30 u31 u32 u33 u34 u35 u36 u37 u38 u39 u40 u41 u42 u43 u44 u45 u46 u47 u48 u49 u50 u51 v14 : Value) (i : Nat) (ds : List Deferred), a = ⟨#[.pointer (some ⟨D, 0, none⟩), .slice At m.laced.length ct, .pointer (some ⟨w.heap.size, 0, none⟩), .pointer (some ⟨w.heap.size + 1, 0, none⟩), .pointer (some ⟨w.heap.size + 1 + 1, 0, none⟩), u5, u6, u7, u8, u9, u10, u11, u12, .int .i64 (m.laced.length : Int), v14, u15, u16, u17, u18, u19, u20, u21, u22, u23, u24, u25, u26, u27, u28, u29, u30, u31, u32, u33, u34, u35, u36, u37, u38, u39, u40, u41, u42, u43, u44, u45, u46, u47, u48, u49, u50, u51], ds⟩ ∧ v14 = .int .i64 (i : Int) ∧ i ≤ m.laced.length ∧ gn = m.laced.length - i ∧ Ext w W ∧
      (Blk W w.heap.size 105 #[.pointer (some ⟨D, 0, none⟩)] ∧ Blk W (w.heap.size + 1) 27 #[.slice At m.laced.length ct] ∧ Blk W (w.heap.size + 1 + 1) 4 #[.bool false]) ∧ Hid (bUp m T i 0) ∧ Marks W w.heap.size W.heap.size ds) m.laced.length ⟨_, _, _, _, _, _, _, _, _, _, _, _, _, _, _, _, _, _, _, _, _, _, _, _, _, _, _, _, _, _, _, _, _, _, _, _, _, _, _, _, _, _, _, _, _, _, 0, [], rfl, rfl, by omega, by omega, hE, ⟨b0, b1, b2⟩, fun l s k h => absurd h (by omega), Marks.nil _ _ _⟩ ?_
  rintro gn a W1 ⟨u5, u6, u7, u8, u9, u10, u11, u12, u15, u16, u17, u18, u19, u20, u21, u22, u23, u24, u25, u26, u27, u28, u29, u30, u31, u32, u33, u34, u35, u36, u37, u38, u39, u40, u41, u42, u43, u44, u45, u46, u47, u48, u49, u50, u51, v14, i, ds, rfl, rfl, hi, rfl, he1, ⟨b1, bt1, br1⟩, hup, hm1⟩ J K hJ hK
  clear b0 b2 hE
  by_cases hlt : i < m.laced.length
  · have hv1 := Hv.out.ext (he1.trans (Ext.alloc W1 (.cells #[.int .i64 (i : Int)] 3)))
    have Hv1 := Lib.hid hv1; clear hv1
    have bl := Blk.new W1 3 #[.int .i64 (i : Int)]
    have b2 := b1.alloc (.cells #[.int .i64 (i : Int)] 3)
    have bt2 := bt1.alloc (.cells #[.int .i64 (i : Int)] 3)
    have br2 := br1.alloc (.cells #[.int .i64 (i : Int)] 3)
    have hm2 := (hm1.ext (Ext.alloc W1 (.cells #[.int .i64 (i : Int)] 3))).mono (hi' := W1.heap.size + 1) (by omega)
    have he2 := he1.trans (Ext.alloc W1 (.cells #[.int .i64 (i : Int)] 3))
    have e0 := b2.c1
    obtain ⟨k0, k1, k2, k3⟩ := (hb.ext he2).c4
    go_wp2_with fail
    obtain ⟨N, hN⟩ : ∃ N, N = 2 ^ m.orders.length := ⟨_, rfl⟩
    refine (sets_any _ m (by omega) N hN _ Hv1.out).mono ?_
    rintro e W2 ⟨rfl, heA⟩
    have HN := Lib.hid hN; clear hN
    have he3 := he2.trans heA
    have b3 := b2.ext heA
    have bt3 := bt2.ext heA
    have br3 := br2.ext heA
    have bl3 := bl.ext heA
    have hm3 := (hm2.ext heA).mono (hi' := W2.heap.size) (by have := heA.size; rw [World.size_alloc] at this; omega)
    have hlm : w.heap.size + 1 + 1 < W1.heap.size := br1.lt
    clear he2 heA b2 bl hm2 hm1 b1 bt1 br1 bt2 br2 he1 k0 k1 k2 k3 e0 Hv1
    generalize W1.heap.size = lm at *
    go_wp2_with fail
    refine wp_loop_ghost_k (fun gn a W => ∃ (u6 u7 u8 u9 u10 u11 u12 u15 u16 u17 u18 u19 u20 u23 u24 u25 u26 u27 u28 u29 u30 u31 u32 u33 u34 u35 u36 u37 u38 u39 u40 u41 u42 u43 u44 u45 u46 u47 u48 u49 u50 u51 v22 : Value) (s : Nat) (ds : List Deferred), a = ⟨#[.pointer (some ⟨D, 0, none⟩), .slice At m.laced.length ct, .pointer (some ⟨w.heap.size, 0, none⟩), .pointer (some ⟨w.heap.size + 1, 0, none⟩), .pointer (some ⟨w.heap.size + 1 + 1, 0, none⟩), .pointer (some ⟨lm, 0, none⟩), u6, u7, u8, u9, u10, u11, u12, .int .i64 (m.laced.length : Int), .int .i64 (i : Int), u15, u16, u17, u18, u19, u20, .int .i64 (N : Int), v22, u23, u24, u25, u26, u27, u28, u29, u30, u31, u32, u33, u34, u35, u36, u37, u38, u39, u40, u41, u42, u43, u44, u45, u46, u47, u48, u49, u50, u51], ds⟩ ∧ v22 = .int .i64 (s : Int) ∧ s ≤ N ∧ gn = N - s ∧ Ext w W ∧
        (Blk W w.heap.size 105 #[.pointer (some ⟨D, 0, none⟩)] ∧ Blk W (w.heap.size + 1) 27 #[.slice At m.laced.length ct] ∧ Blk W (w.heap.size + 1 + 1) 4 #[.bool false]) ∧ Blk W lm 3 #[.int .i64 (i : Int)] ∧ Hid (bUp m T i s) ∧ Marks W w.heap.size W.heap.size ds) N ⟨_, _, _, _, _, _, _, _, _, _, _, _, _, _, _, _, _, _, _, _, _, _, _, _, _, _, _, _, _, _, _, _, _, _, _, _, _, _, _, _, _, _, _, 0, _, rfl, rfl, by omega, by omega, he3, ⟨b3, bt3, br3⟩, bl3, hup, hm3⟩ ?_
    rintro gn a W3 ⟨u6, u7, u8, u9, u10, u11, u12, u15, u16, u17, u18, u19, u20, u23, u24, u25, u26, u27, u28, u29, u30, u31, u32, u33, u34, u35, u36, u37, u38, u39, u40, u41, u42, u43, u44, u45, u46, u47, u48, u49, u50, u51, v22, s, ds, rfl, rfl, hs, rfl, he4, ⟨b4, bt4, br4⟩, bl4, hup4, hm4⟩ J2 K2 hJ2 hK2
    clear he3 b3 bt3 br3 bl3 hm3 hup
    by_cases hlts : s < N
    · have e0 := b4.c1
      obtain ⟨k0, k1, k2, k3⟩ := (hb.ext he4).c4
      have bs := Blk.new W3 3 #[.int .i64 (s : Int)]
      have hX := Ext.alloc W3 (.cells #[.int .i64 (s : Int)] 3)
      have b5 := b4.ext hX
      have bt5 := bt4.ext hX
      have br5 := br4.ext hX
      have bl5 := bl4.ext hX
      have hm5 := (hm4.ext hX).mono (hi' := W3.heap.size + 1) (by omega)
      have he5 := he4.trans hX
      have hlm3 := bl4.lt
      go_wp2_with fail
      clear e0 k0 k1 k2 k3 hX b4 bt4 br4 bl4 hm4 he4
      generalize W3.alloc _ = W4 at *
      generalize W3.heap.size = sm at *
      have hi3 : i < 3 := by omega
      have hs128 : s < 128 := by
        have h1 : 2 ^ m.orders.length ≤ 2 ^ 7 := Nat.pow_le_pow_right (by omega) l3
        have h2 : (2 : Nat) ^ 7 = 128 := by decide
        have h3 := HN.out
        omega
      have e0 := b5.c1
      have e2 := bs.c1
      obtain ⟨k0, k1, k2, k3⟩ := (hb.ext he5).c4
      go_still_tail 5, (by kernel_rfl)
      change wpList _ _ _ _ _ W4.drew
      go_wp2_with fail
      refine (lacking_any _ m s _ (Hv.out.ext (he5.trans (Ext.drew _)))).mono ?_
      rintro e W5 ⟨rfl, heB, ⟨a1, a2, a3, B1⟩, B2⟩
      have he7 := he5.trans ((Ext.drew W4).trans heB)
      have b7 := b5.ext ((Ext.drew W4).trans heB)
      have bt7 := bt5.ext ((Ext.drew W4).trans heB)
      have br7 := br5.ext ((Ext.drew W4).trans heB)
      have bl7 := bl5.ext ((Ext.drew W4).trans heB)
      have bs7 := bs.ext ((Ext.drew W4).trans heB)
      have hL1 : w.heap.size + 1 + 1 < W4.drew.heap.size := br5.lt
      have hL5 := B2.lt
      have hsmL : sm < W4.drew.heap.size := bs.lt
      have hm7 := (hm5.ext ((Ext.drew W4).trans heB)).mono (hi' := W5.heap.size) (by omega)
      clear he5 b5 bt5 br5 bl5 bs hm5 e0 e2 k0 k1 k2 k3 heB
      generalize W4.drew.heap.size = L at *
      go_wp2_with fail
      apply wp_lacking (show m.orders.length ≤ 20 by omega) (show s ≤ 1048576 by omega) B1 B2 rfl rfl
        (fun pre W => W5.heap.size ≤ W.heap.size ∧ Ext w W ∧ (Blk W w.heap.size 105 #[.pointer (some ⟨D, 0, none⟩)] ∧ Blk W (w.heap.size + 1) 27 #[.slice At m.laced.length ct] ∧ Blk W (w.heap.size + 1 + 1) 4 #[.bool false]) ∧
          Blk W lm 3 #[.int .i64 (i : Int)] ∧ Blk W sm 3 #[.int .i64 (s : Int)] ∧ Hid (preUp m T i s pre) ∧ Marks W w.heap.size W5.heap.size ds)
        (fun c pre W => c = .ret ∧ Ext w W ∧ Blk W (w.heap.size + 1 + 1) 4 #[.bool false] ∧ Hid (∃ y : In s, stepS m (tabF T i) i s y.1 < tabF T i s y.1) ∧ Marks W w.heap.size W5.heap.size ds)
        (fun pre W W' ⟨h0, h1, ⟨h2, h2', h2''⟩, h4, h5, h6, h7⟩ hl => ⟨Nat.le_trans h0 hl.size, h1.loops hl he7.size, ⟨h2.loops hl, h2'.loops hl, h2''.loops hl⟩, h4.loops hl, h5.loops hl, h6, h7.loops hl (Nat.le_refl _)⟩)
        (fun c pre W W' ⟨h0, h1, h2, h3, h4⟩ hl => ⟨h0, h1.loops hl he7.size, h2.loops hl, h3, h4.loops hl (Nat.le_refl _)⟩) ⟨Nat.le_refl _, he7, ⟨b7, bt7, br7⟩, bl7, bs7, (fun y hy => by cases hy), hm7⟩
      case hassign =>
        intro l x W K hK
        simp only [encK]
        gi_wp2
        exact hK
      case hbody =>
        intro l pre xe W ⟨i0, i1, ⟨i2, i2', i2''⟩, i4, i5, i6, i7⟩
        have hs2 : s < 2 ^ m.orders.length := HN.out ▸ hlts
        have hxn : xe.1 < m.orders.length := bitsS_mem_lt hs2 xe
        have hDW := HD.out.ext i1
        have hxb := xe.2
        obtain ⟨k, hk⟩ : ∃ k, xe.1 = k := ⟨_, rfl⟩
        rw [hk] at hxn hxb
        rw [hk]
        obtain ⟨r, hr⟩ : ∃ r, stepS m (tabF T i) i s k = r := ⟨_, rfl⟩
        have hcall : ∀ W', Ext W W' → Calls Tryz.prog 123 #[.pointer (some ⟨D, 0, none⟩), .int .i64 i, .int .i64 s, .int .i64 k, .func (.func 124) #[] #[.pointer (some ⟨w.heap.size + 1, 0, none⟩), .pointer (some ⟨lm, 0, none⟩)]] W' fun e w' => e = .returned (.int .i64 r) ∧ Ext W' w' := by
          intro W' hW'
          rw [← hr]
          refine step_any D m hch i s k hlt hxn hs2 hxb _ _ _ (fun x => HT.out.bd i _ x) (enters_of Tryz.func124 (by kernel_rfl) rfl) W' (hDW.ext hW') ?_
          intro W2 hW2 y hy hyb
          refine (bounds1_any (w.heap.size + 1) lm m T HT.out _ i (sdiff s (2 ^ k)) y hlt (Nat.lt_of_le_of_lt (sdiff_le _ _) hs2) hy W2 (Ht.out.ext (i1.trans (hW'.trans hW2))) (i2'.ext (hW'.trans hW2)) (i4.ext (hW'.trans hW2))).mono ?_
          rintro e w' ⟨rfl, rfl⟩
          exact ⟨rfl, Ext.refl _⟩
        have Hcall := Lib.hid hcall; clear hcall
        obtain ⟨tb, tq, tc, tb1, to1, tc1, tb2, to2, tc2, te, g1, g2, g3⟩ := (Ht.out.ext i1).get HT.out hlt hs2 hxn
        injection te with te1 _ te3
        subst te1; subst te3
        have hrb := Lib.hid (stepS_bd m (tabF T i) i s k (fun x => HT.out.bd i _ x))
        obtain ⟨t, ht⟩ : ∃ t, tabF T i s k = t := ⟨_, rfl⟩
        rw [ht] at g3
        rw [← HN.out] at g1
        have Hr := Lib.hid hr
        have Hpre := Lib.hid hk
        have Htt := Lib.hid ht
        clear hr hk ht hDW hrb
        have hmf : ∀ (fn : Fn) (first cap : Array Value) (w : World), (Instr.makeFunc fn first cap).run Tryz.prog w = .ok (.func fn first cap) w := fun _ _ _ _ => rfl
        have u0 := i2.c1
        have u1 := i2'.c1
        have u4 := i4.c1
        have u5 := i5.c1
        gi_wp2_with fail
        refine wpIn_region_chain 16 [(15, true)] [] (by kernel_rfl) (by kernel_rfl) (by kernel_rfl) ?_
        simp only [List.take, List.drop, fill, Act.put, List.setIfInBounds_toArray, List.set_cons_zero, List.set_cons_succ, Nat.reduceAdd]
        repeat (first
          | refine FloatsIn.mut rfl ?_
          | (apply FloatsIn.float rfl
             · intro x W he hd K Q hK
               try (have he := he (by decide); have u0 := he.cell u0; have u1 := he.cell u1; have u4 := he.cell u4; have u5 := he.cell u5; have g1 := he.cell g1; have g2 := he.cell g2; have g3 := he.cell g3)
               try simp only [edges, DepsE, List.filter_cons, List.filter_nil, Region.binds, if_true, and_true, true_and, upd, Nat.reduceEqDiff, if_false] at hd
               try simp only [hd] at hK ⊢
               have HK := Lib.hid hK; clear hK
               gi_wp2_with fail
               exact HK.out))
        refine FloatsIn.done fun W he hG => ?_
        refine ChainIn.cons _ rfl ?_
        intro x hd K Q hK
        try simp only [edges, DepsE, List.filter_cons, List.filter_nil, Region.binds, if_true, and_true, true_and, upd, Nat.reduceEqDiff, if_false] at hd
        try simp only [hd] at hK ⊢
        clear hd
        have HK := Lib.hid hK; clear hK
        gi_wp2_with fail
        refine ⟨trivial, CallsIn.inRound l (callsIn_wide.2 ((Hcall.out W he).mono ?_))⟩
        rintro e w' ⟨rfl, he'⟩
        gi_wp2_with fail
        refine HK.out _ _ (fun _ => he.trans he') ?_
        clear HK
        refine ChainIn.nil ?_
        simp only [upd, Nat.reduceEqDiff, if_false, if_true]
        have heX := he.trans he'
        have hszX := heX.size
        clear he he' u0 u1 u4 u5 g1 g2 g3
        by_cases hlate : r < t
        · have f2 := (i2''.ext heX).frozen 0
          have c2 := (i2''.ext heX).c1
          have Hl := Lib.hid hlate
          gi_wp2_with fail
          refine ⟨(keepsFrom_ext heX).trans ((KeepsOthers.setCell _ _ _).from _), rfl, Below.setCell (i1.trans heX) (by show _ ≤ w.heap.size + 1 + 1; omega) _, (i2''.ext heX).set_ 0 _, ⟨xe, ?_⟩, (i7.ext heX).set_ (p := ⟨w.heap.size + 1 + 1, 0, none⟩) (i2''.ext heX) _⟩
          rw [Hpre.out, Hr.out, Htt.out]; exact Hl.out
        · have hd : decide (r < t) = false := by simpa using hlate
          have Hl := Lib.hid hlate
          clear hlate
          gi_wp2_with fail
          refine ⟨keepsFrom_ext heX, ⟨Below.block heX _ (by omega), Below.block heX _ (by omega)⟩, by omega, i1.trans heX, ⟨i2.ext heX, i2'.ext heX, i2''.ext heX⟩, i4.ext heX, i5.ext heX, fun y hy => ?_, i7.ext heX⟩
          rcases List.mem_append.1 hy with h | h
          · exact i6.out y h
          · rw [List.mem_singleton] at h
            subst h
            rw [Hpre.out, Hr.out, Htt.out]
            have := Hl.out; omega
      case hstop =>
        rintro Dd c pre W hDd ⟨kk, hkk, rfl⟩ ⟨rfl, i1, i2, i3, i4⟩ hdef
        have hp := Lib.hid (i4.push (Nat.le_trans he7.size hDd) hDd hdef)
        have hs2 : s < 2 ^ m.orders.length := HN.out ▸ hlts
        have hqf : Hid (q = false) := by
          obtain ⟨y, hy⟩ := i3.out
          unfold Hid
          rw [← Hq.out, ← Bool.not_eq_true, boundsQ_iff]
          intro h
          have := h i s y.1 hlt hs2 (bitsS_mem_lt hs2 y) y.2
          omega
        clear i3 i4 hdef
        go_wp2_with fail
        refine leaves_marks2 (markOf Dd :: ds) W hp.out (fun W' hq => ⟨?_, by rw [hqf.out], hq.ext i1 (Nat.le_refl _)⟩)
        have v0 := (hq.blk i2).c1
        simp [results, Tryz.results65, go_sem, v0]
      case hdone =>
        intro Dd W hDd ⟨i0, i1, i2, i4, i5, i6, i7⟩ hdef
        have hp := i7.push (Nat.le_trans he7.size hDd) hDd hdef
        have hDlt := (Array.getElem?_eq_some_iff.1 hdef).1
        have hn7 : s < 2 ^ m.orders.length := HN.out ▸ hlts
        have hup5 : Hid (bUp m T i (s + 1)) := fun l s' k h h1 h2 => by
          by_cases e : l = i ∧ s' = s
          · obtain ⟨rfl, rfl⟩ := e
            have hm : k ∈ (bitsS s' m.orders.length).map (fun y : In s' => y.1) := by rw [bitsS_map]; exact mem_bits.2 ⟨h1, h2⟩
            obtain ⟨y, hy, rfl⟩ := List.mem_map.1 hm
            exact i6.out y hy
          · exact hup4.out l s' k (by omega) h1 h2
        clear hdef i6 i7
        go_wp2_with fail
        refine Handed.intro (N - (s + 1)) (by omega) (hJ2 _ _ _ ⟨_, _, _, _, _, _, _, _, _, _, _, _, _, _, _, _, _, _, _, _, _, _, _, _, _, _, _, _, _, _, _, _, _, _, _, _, _, _, _, _, _, _, _, s + 1, _, rfl, by go_num, by omega, rfl, i1, i2, i4, hup5, hp.mono (by omega)⟩)
    · obtain rfl : s = N := by omega
      go_wp2_with fail
      refine Handed.intro (m.laced.length - (i + 1)) (by omega) (hJ _ _ _ ⟨_, _, _, _, _, _, _, _, _, _, _, _, _, _, _, _, _, _, _, _, _, _, _, _, _, _, _, _, _, _, _, _, _, _, _, _, _, _, _, _, _, _, _, _, _, _, i + 1, ds, rfl, by go_num, by omega, rfl, he4, ⟨b4, bt4, br4⟩, ?_, hm4⟩)
      have := hup4.out
      rw [HN.out] at this
      exact fun l s' k h h1 h2 => this l s' k (by omega) h1 h2
  · obtain rfl : i = m.laced.length := by omega
    have z2 := br1.frozen 0
    have u2 := br1.c1
    have hqt : Hid (q = true) := by
      unfold Hid
      rw [← Hq.out, boundsQ_iff]
      exact fun l s k h1 h2 h3 h4 => hup.out l s k (.inl ⟨h1, h2⟩) h3 h4
    have hszw := he1.size
    have hb2 := br1.set_ 0 (.bool true)
    have hm2 := hm1.set_ (p := ⟨w.heap.size + 1 + 1, 0, none⟩) br1 (.bool true)
    have hex := Below.setCell he1 (p := ⟨w.heap.size + 1 + 1, 0, none⟩) (by show _ ≤ w.heap.size + 1 + 1; omega) (.bool true)
    have Hm2 := Lib.hid hm2; have Hb2 := Lib.hid hb2; have Hex := Lib.hid hex
    clear hup hb2 hm2 hex
    go_wp2_with fail
    refine leaves_marks2 ds _ Hm2.out (fun W' hq => ⟨?_, by rw [hqt.out], hq.ext Hex.out (Nat.le_refl _)⟩)
    have v0 := (hq.blk Hb2.out).c1
    simp [results, Tryz.results65, go_sem, v0]
end Go.Proofs.Pet
