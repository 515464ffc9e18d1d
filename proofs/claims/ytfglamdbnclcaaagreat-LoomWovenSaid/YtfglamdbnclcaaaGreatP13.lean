/-
  Contracts of functions, each proved once.
-/
import Derived.Test.YtfglamdbnclcaaaGreatP12
import Derived.OwnWalkIn
namespace Go.Proofs.Pet
open Go Go.RowKit Go.Maps Go.Shelf

theorem isNaN_any (x : Int) (w : World) : Calls Tryz.prog 150 #[.int .i64 x] w fun e w' => e = .returned (.bool false) ∧ w = w' := by
  have hd : (x != x) = false := by simp
  go_enter Tryz.func150, Tryz.ntmps150
  go_wp2
  go_ret
  exact ⟨by rw [← hd]; rfl, rfl⟩
theorem cmp_any (x y c : Int) (hc : (if x < y then -1 else if y < x then 1 else 0) = c) (w : World) : Calls Tryz.prog 109 #[.int .i64 x, .int .i64 y] w fun e w' => e = .returned (.int .i64 c) ∧ w = w' := by
  have H := isNaN_any
  have Hc := Lib.hid hc; clear hc
  by_cases h1 : x < y
  · go_enter Tryz.func109, Tryz.ntmps109
    go_wp2_with fail
    refine (H x w).mono ?_
    rintro e w' ⟨rfl, rfl⟩
    go_wp2_with fail
    refine (H y w).mono ?_
    rintro e w' ⟨rfl, rfl⟩
    go_wp2
    go_ret
    exact ⟨by rw [← Hc.out, if_pos h1]; rfl, rfl⟩
  · have hd1 : decide (x < y) = false := by simpa using h1
    have H1 := Lib.hid h1; clear h1
    by_cases h2 : y < x
    · go_enter Tryz.func109, Tryz.ntmps109
      go_wp2_with fail
      refine (H x w).mono ?_
      rintro e w' ⟨rfl, rfl⟩
      go_wp2_with fail
      refine (H y w).mono ?_
      rintro e w' ⟨rfl, rfl⟩
      go_wp2
      go_ret
      exact ⟨by rw [← Hc.out, if_neg (by have := H1.out; omega), if_pos h2]; rfl, rfl⟩
    · have hd2 : decide (y < x) = false := by simpa using h2
      have H2 := Lib.hid h2; clear h2
      go_enter Tryz.func109, Tryz.ntmps109
      go_wp2_with fail
      refine (H x w).mono ?_
      rintro e w' ⟨rfl, rfl⟩
      go_wp2_with fail
      refine (H y w).mono ?_
      rintro e w' ⟨rfl, rfl⟩
      go_wp2
      go_ret
      exact ⟨by rw [← Hc.out, if_neg (by have := H1.out; omega), if_neg (by have := H2.out; omega)]; rfl, rfl⟩
set_option maxRecDepth 20000 in
set_option maxHeartbeats 1000000 in
theorem compare_any (A B : Option Addr) (c d : Nat) (xs ys : List Int) (q : Bool) (hq : aheadB xs ys = q) (w : World) (hb : xs.length ≤ maxLen) (hx : IntsAt w A xs) (hy : IntsAt w B ys) :
    Calls Tryz.prog 48 #[.slice A xs.length c, .slice B ys.length d] w fun e w' => ∃ r : Int, e = .returned (.int .i64 r) ∧ decide (r < 0) = q ∧ w = w' := by
  unfold maxLen at hb
  have Hq := Lib.hid hq; clear hq
  go_enter Tryz.func48, Tryz.ntmps48
  go_wp2
  go_loopw [11] (fun i wr => ∃ k : Nat, k ≤ xs.length ∧ k ≤ ys.length ∧ i = .int .i64 k ∧ Hid (aheadB xs ys = aheadB (xs.drop k) (ys.drop k)) ∧ w = wr) (fun i _ => xs.length - (intOf i).toNat)
  case atStart => exact ⟨0, by omega, by omega, rfl, by simp [Hid], rfl⟩
  case round =>
    obtain ⟨k, hk, hk2, rfl, hm, rfl⟩ := hrel
    by_cases hlt : k < xs.length
    · obtain ⟨b, o, rfl, h1⟩ := hx k hlt
      by_cases hlt2 : k < ys.length
      · obtain ⟨b2, o2, rfl, h2⟩ := hy k hlt2
        have hst : Hid (aheadB xs ys = if xs[k]?.getD 0 = ys[k]?.getD 0 then aheadB (xs.drop (k + 1)) (ys.drop (k + 1)) else decide (xs[k]?.getD 0 < ys[k]?.getD 0)) := by
          unfold Hid; rw [hm.out, aheadB_drop hlt hlt2]
        generalize xs[k]?.getD 0 = x at *
        generalize ys[k]?.getD 0 = y at *
        obtain ⟨cc, hcc⟩ : ∃ cc : Int, (if x < y then -1 else if y < x then 1 else 0) = cc := ⟨_, rfl⟩
        have Hcmp := Lib.hid (cmp_any x y cc hcc w)
        have Hcc := Lib.hid hcc; clear hcc
        go_wp2_with fail
        refine Hcmp.out.mono ?_
        rintro e w' ⟨rfl, rfl⟩
        by_cases hxy : x = y
        · subst hxy
          have hc0 : cc = 0 := by rw [← Hcc.out]; simp
          subst hc0
          go_wp2_with fail
          go_roundw
          case rel => exact ⟨k + 1, by omega, by omega, by go_num, by unfold Hid; rw [hst.out]; simp, trivial⟩
          case measure => simp [intOf]; omega
        · have hc1 : cc ≠ 0 ∧ decide (cc < 0) = decide (x < y) := by
            rw [← Hcc.out]
            by_cases g : x < y
            · simp [g]
            · have g2 : y < x := by omega
              simp [g, g2]
          have hd : (cc != 0) = true := by simpa using hc1.1
          have Hxy := Lib.hid hxy; have Hc1 := Lib.hid hc1.2; clear hxy hc1
          go_wp2_with fail
          go_ret
          refine ⟨cc, rfl, ?_, rfl⟩
          rw [Hc1.out, ← Hq.out, hst.out, if_neg Hxy.out]
      · go_wp2_with fail
        go_ret
        refine ⟨1, rfl, ?_, rfl⟩
        rw [← Hq.out, hm.out, aheadB_end hk hk2 (by omega)]
        have : decide (xs.length < ys.length) = false := by simp; omega
        rw [this]; rfl
    · by_cases hl2 : xs.length < ys.length
      · go_wp2_with fail
        go_ret
        refine ⟨-1, rfl, ?_, rfl⟩
        rw [← Hq.out, hm.out, aheadB_end hk hk2 (by omega)]
        have : decide (xs.length < ys.length) = true := by simpa using hl2
        rw [this]; rfl
      · have hd2 : decide ((xs.length : Int) < (ys.length : Int)) = false := by simp; omega
        go_wp2_with fail
        go_ret
        refine ⟨0, rfl, ?_, rfl⟩
        rw [← Hq.out, hm.out, aheadB_end hk hk2 (by omega)]
        have : decide (xs.length < ys.length) = false := by simp; omega
        rw [this]; rfl
end Go.Proofs.Pet

namespace Go.Proofs.Pet
open Go Go.RowKit Go.Maps Go.Shelf

attribute [local go_sem] Oper.semAt_some
/-- 'for k, rest := range m.lacking(s) { .. }' -/
theorem wp_lackingN {g : Operand} {ps : Array Tmp} {assign body : Code} {Q : Exit → Act → World → Prop} {a : Act} {w : World} {B : Nat} {A1 ch : Value} {A2 : Option Addr} {c2 n s : Nat} (hn7 : n ≤ 20) (hs : s ≤ 1048576)
    (hB1 : Blk w B 25 #[A1, ch, .slice A2 n c2]) (hB2 : Blk w (B + 1) 3 #[.int .i64 s])
    (hg : a.eval g = .func (.func 140) #[] #[.pointer (some ⟨B, 0, none⟩), .pointer (some ⟨B + 1, 0, none⟩)]) (hps : ps.size = 2)
    (I : List (In s) → World → Prop) (Ix : Code → List (In s) → World → Prop) (hI : ∀ p W W', I p W → Loops w.heap.size W W' → I p W') (hIx : ∀ c p W W', Ix c p W → Loops w.heap.size W W' → Ix c p W') (h0 : I [] w) (a₁ : In s → Act)
    (hassign : ∀ (l : Nat) (x : In s) (W : World) (K : Act → World → Prop), K (a₁ x) W →
      assign.wpIn (Fence.wide.inRound l) 3 Tryz.prog (Exit.then K (fun _ _ _ => False)) { tmps := (ps.zip (encK s x)).foldl (fun t (p, v) => t.setIfInBounds p v) a.tmps, defers := [] } W)
    (hbody : ∀ (l : Nat) (pre : List (In s)) (x : In s) (W : World), I pre W → pre.length < n → body.wpIn (Fence.wide.inRound l) 3 Tryz.prog (ownPostG w.heap.size (KeepsTwo B) I Ix (pre ++ [x]) W) (a₁ x) W)
    (hdone : ∀ (D : Nat) (W : World), w.heap.size ≤ D → I (bitsS s n) W → W.heap[D]? = some (.deferred (some [])) → Q .normal { a with defers := { target := .collected D, args := #[] } :: a.defers } W)
    (hstop : ∀ (D : Nat) (c : Code) (pre : List (In s)) (W : World), w.heap.size ≤ D → (∃ k, k ≤ n ∧ pre = bitsS s k) → Ix c pre W → W.heap[D]? = some (.deferred (some [])) → c.wp Tryz.prog Q { a with defers := { target := .collected D, args := #[] } :: a.defers } W) :
    (Code.rangeFunc g ps assign body).wp Tryz.prog Q a w := by
  refine (wpIn_wide (n := 5)).1 (wpIn_rangeFunc_ownG (n := 5) (by rfl) (by omega) hg trivial (enters_of Tryz.func140 (by kernel_rfl) rfl)
    (lacking_stops Fence.wide 4 trivial (by rfl) (by omega) B A1 ch A2 c2 n s hn7 hs w hB1 hB2) (KeepsTwo.t) (KeepsTwo.b hB2.lt) (Below.refl _ _) (fun x => by rw [hps]; rfl) I Ix
    (ownFrom_keep hI) (fun c => ownFrom_keep (hIx c)) h0 a₁ hassign (fun l pre x W hi hl => hbody l pre x W hi hl) (fun D xs W hD hxs hi hK => by subst hxs; exact hdone D W hD hi hK) (fun D c pre W hD hp hi hK => wpIn_wide.2 (hstop D c pre W hD hp hi hK)))

def lateItemS (m : Mill) (off : Nat) : Bool × List Int := (decide (sumF (numC m) m.laced.length (sdiff (2 ^ m.orders.length - 1) off) < 297), intsOf (bits m.orders.length off))
theorem keepsFrom_grown {B base size n : Nat} {W W' : World} {e : TypeId} {v : Value} {xs : List Value} (hg : W.grownBy W' v.ownBlock) (hv : W.ownsRow base e size v n xs) : KeepsFrom B W W' := by
  refine ⟨hg.size, fun k o hB hk hc => ?_⟩
  rw [← hk]
  refine hg.block k (Array.getElem?_eq_some_iff.1 hk).1 fun e => ?_
  rcases hv.2 with ⟨rfl, _⟩ | ⟨g', cap, cur, rfl, _, hb', _⟩
  · cases e
  · have : k = g' := Option.some.inj e
    subst this
    rw [hk] at hb'
    cases hb'
    cases hc
theorem ownsRow_slice {w : World} {base n : Nat} {e : TypeId} {size : Nat} {v : Value} {xs : List Value} (h : w.ownsRow base e size v n xs) : ∃ A c, v = .slice A n c := by
  rcases h.2 with ⟨rfl, rfl⟩ | ⟨g, cap, cur, rfl, _⟩
  · exact ⟨none, 0, rfl⟩
  · exact ⟨_, _, rfl⟩
theorem Apart.loops {b B : Nat} {w W W' : World} (h : Apart b w W) (hk : Loops B W W') (hB : w.heap.size ≤ B) : Apart b w W' :=
  ⟨hk.os.trans h.os, hk.tape.trans h.tape, hk.output.trans h.output, Nat.le_trans h.size hk.size, fun k hlt hne => (hk.low k (by omega) (by have := h.size; omega)).trans (h.block k hlt hne)⟩
theorem Marks.apart {W W' : World} {lo hi b : Nat} {ds : List Deferred} {t : TypeId} {cs : Array Value} (h : Marks W lo hi ds) (ha : Apart b W W') (hb : Blk W b t cs) : Marks W' lo hi ds := by
  obtain ⟨l, h1, h2, h3⟩ := h
  refine ⟨l, h1, h2, fun D hD => ⟨(h3 D hD).1, (h3 D hD).2.1, ?_⟩⟩
  have h4 := (h3 D hD).2.2
  rw [← h4]
  refine ha.block D (Array.getElem?_eq_some_iff.1 h4).1 fun e => ?_
  subst e
  unfold Blk at hb
  rw [h4] at hb
  cases hb
theorem Apart.grownAt {b : Nat} {w W w' : World} {o : Obj} {row : Option Nat} (h : Apart b w W) (hg : (W.alloc o).grownBy w' row) (hr : ∀ k, row = some k → w.heap.size ≤ k) : Apart b w w' :=
  ⟨hg.os.trans h.os, hg.tape.trans h.tape, hg.output.trans h.output, by have := hg.size; have := h.size; simp at *; omega, fun k hk hne => by
    rw [hg.block k (by have := h.size; simp; omega) (fun e => by have := hr k e.symm; omega)]
    exact (Below.heap_alloc W o k (by have := h.size; omega)).trans (h.block k hk hne)⟩
/-- the frame of Late at its loop -/
def lateF (N D S B : Nat) (mv v7 v8 v27 : Value) (u : Nat → Value) (ds : List Deferred) : Act := ⟨#[mv, .pointer (some ⟨B, 0, none⟩), .slice none 0 0, .int .i64 0, .pointer (some ⟨D, 0, none⟩), u 5, .slice (some ⟨S, 0, none⟩) N N, v7, v8, u 9, u 10, u 11, u 12, u 13, u 14, u 15, u 16, u 17, u 18, u 19, u 20, u 21, u 22, u 23, u 24, u 25, .int .i64 (N : Int), v27, u 28, u 29, u 30, u 31, u 32, u 33, u 34, u 35, u 36, u 37, u 38, u 39, u 40, u 41, u 42, u 43, u 44, u 45, u 46, u 47, u 48, u 49, u 50, u 51, u 52, u 53, u 54, u 55, u 56, u 57, u 58, u 59, u 60, u 61, u 62, u 63, u 64, u 65, u 66, u 67, u 68, u 69, u 70, u 71, u 72, u 73, u 74, u 75, u 76, u 77, u 78], ds⟩

set_option maxRecDepth 20000 in
set_option maxHeartbeats 4000000 in
theorem late_own (v : Value) (m : Mill) (h0 : checkE m = 0) (w : World) (hv : MillVal w v m) :
    Calls Tryz.prog 67 #[v] w fun e w' => ∃ r, e = .returned (.tuple #[r, .int .i64 0]) ∧ OwnI w' w.heap.size 3 r ((lateS m).getD []) ∧ Ext w w' := by
  have Hv := Lib.hid hv
  obtain ⟨A1, c1, A2, c2, rfl, h2, h3, h4, h5, h6, h7⟩ := hv
  have hE := Ext.alloc w (.cells #[.slice A1 m.laced.length c1, .int .i64 m.change, .slice A2 m.orders.length c2] 25)
  have hM := Blk.new w 25 #[.slice A1 m.laced.length c1, .int .i64 m.change, .slice A2 m.orders.length c2]
  obtain ⟨l1, l2, l3⟩ := check_len h0
  obtain ⟨N, hN⟩ : ∃ N, N = 2 ^ m.orders.length := ⟨_, rfl⟩
  have hNb : 1 ≤ N ∧ N ≤ 128 := by
    have h1 : 2 ^ m.orders.length ≤ 2 ^ 7 := Nat.pow_le_pow_right (by omega) l3
    have h2 : (2 : Nat) ^ 7 = 128 := by decide
    have h3 := Nat.two_pow_pos m.orders.length
    omega
  have HN := Lib.hid hN; clear hN
  have H0 := Lib.hid h0; clear h0
  have hop := Lib.hid (opened_any _ m H0.out _ (Hv.out.ext hE))
  clear h6 h7 h3 h5
  refine (callsIn_wide (n := 5)).1 ?_
  refine callsIn_of_wp_marks Tryz.func67 rfl trivial ?_ rfl
  simp only [Tryz.ntmps67, List.size_toArray, List.length_nil, List.length_cons, Nat.reduceSub, Array.replicate_succ, Array.replicate_zero, List.push_toArray, List.append_toArray, List.nil_append, List.cons_append, Nat.reduceAdd]
  refine wpIn_wide.2 ?_
  obtain ⟨k0, k1, k2⟩ := hM.c3
  go_wp2_with fail
  refine hop.out.mono ?_
  rintro e w1 ⟨D, rfl, hDs, hD, he1⟩
  have hw := Lib.hid (whole_any D m H0.out N HN.out w1 hD)
  have hM1 := hM.ext he1
  have hE1 := hE.trans he1
  clear hM hE he1 k0 k1 k2 hop
  go_wp2_with fail
  refine hw.out.mono ?_
  rintro e w20 ⟨S, rfl, hS0, he2⟩
  have hD20 := hD.ext he2
  have hE20 := hE1.trans he2
  obtain ⟨A1', c1', A2', c2', M, cnt, hb0, g2, g3, g4, g5, g6, g7, g8, g9⟩ := hD20
  have hv20 : MillVal w20 (.agg #[.slice A1' m.laced.length c1', .int .i64 m.change, .slice A2' m.orders.length c2']) m := ⟨A1', c1', A2', c2', rfl, g2, g3, g4, g5, g6, g7⟩
  clear hM1 hE1 he2 hw g6 g7 g9 g3 g5 hD
  obtain ⟨k0, k1, k2, k3⟩ := hb0.c4
  have hsets := Lib.hid (sets_any _ m (by omega) N HN.out w20 hv20)
  go_wp2_with fail
  refine hsets.out.mono ?_
  rintro e w2 ⟨rfl, he3⟩
  have hE2 := hE20.trans he3
  have hb := hb0.ext he3
  have hS := hS0.ext he3
  have Hv2 := Lib.hid (hv20.ext he3)
  have hsz2 := hE2.size
  clear hE20 hb0 hS0 hv20 he3 hsets k0 k1 k2 k3
  go_wp2_with fail
  refine wp_loop_ghost_k (fun gn a W => ∃ (v7 v8 v27 : Value) (off : Nat) (o : Option (List Int)) (ds : List Deferred), a = lateF N D S w.heap.size (.agg #[.slice A1 m.laced.length c1, .int .i64 m.change, .slice A2 m.orders.length c2]) v7 v8 v27 (fun i => a.tmps.getD i undef) ds ∧ v27 = .int .i64 (off : Int) ∧ v8 = .bool o.isSome ∧ off ≤ N ∧ gn = N - off ∧ Hid (pickB ((List.range off).map (lateItemS m)) = o) ∧ Hid (OwnI W w2.heap.size 3 v7 (o.getD [])) ∧ Ext w2 W ∧ Marks W w.heap.size W.heap.size ds) N ⟨_, _, _, 0, none, [], rfl, rfl, rfl, by omega, by omega, rfl, OwnI.nil _ _ _, Ext.refl _, Marks.nil _ _ _⟩ ?_
  rintro gn a W1 ⟨v7, v8, v27, off, o, ds, ha, rfl, rfl, hoff, rfl, ho, hsl, he, hm⟩ J K hJ hK
  generalize (fun i => a.tmps.getD i undef) = u at ha
  subst ha
  unfold lateF
  by_cases hlt : off < N
  · obtain ⟨k0, k1, k2, k3⟩ := (hb.ext he).c4
    have hsd : sdiff (N - 1) off ≤ N - 1 := sdiff_le _ _
    have hcell := (hS.ext he).cell (j := sdiff (N - 1) off) (by omega)
    obtain ⟨t, ht⟩ : ∃ t, sumF (numC m) m.laced.length (sdiff (N - 1) off) = t := ⟨_, rfl⟩
    rw [ht] at hcell
    have hitem : Hid (lateItemS m off = (decide (t < 297), ints (bits m.orders.length off))) := by
      unfold Hid lateItemS; rw [← HN.out, ht]; rfl
    have hst : Hid (pickB ((List.range (off + 1)).map (lateItemS m)) = if decide (t < 297) = true ∧ (∀ b, o = some b → beforeB (ints (bits m.orders.length off)) b = true) then some (ints (bits m.orders.length off)) else o) := by
      unfold Hid; rw [range_map_succ, pickB_snoc, ho.out, hitem.out]
    clear ht
    have hnb : Go.bits .andNot .i64 ((N : Int) - 1) (off : Int) = ((sdiff (N - 1) off : Nat) : Int) := by
      have := andNot64 (N - 1) off (by omega) (by omega)
      rwa [show ((N - 1 : Nat) : Int) = (N : Int) - 1 by omega] at this
    generalize sdiff (N - 1) off = R at *
    have Hnb := Lib.hid hnb; clear hnb
    have hsets := Lib.hid (sets_any _ m (by omega) N HN.out W1 (Hv2.out.ext he))
    go_wp2_with fail
    refine hsets.out.mono ?_
    rintro e W2 ⟨rfl, he2⟩
    have heA := he.trans he2
    have hmA := (hm.ext he2).mono (hi' := W2.heap.size) he2.size
    have hslA : Hid (OwnI W2 w2.heap.size 3 v7 (o.getD [])) := hsl.out.ext he2
    have hcellA := he2.cell hcell
    clear hsets k0 k1 k2 k3 hcell he hm hsl
    obtain ⟨k0, k1, k2, k3⟩ := (hb.ext heA).c4
    have hnb := Hnb.out
    by_cases h297 : t < 297
    · have hd297 : decide (297 ≤ t) = false := by simp; omega
      have hb10 := Blk.new W2 22 #[.slice none 0 0]
      have hX := Ext.alloc W2 (.cells #[.slice none 0 0] 22)
      have heX := heA.trans hX
      have hmX := (hmA.ext hX).mono (hi' := W2.heap.size + 1) (by omega)
      have hslX : Hid (OwnI _ w2.heap.size 3 v7 (o.getD [])) := hslA.out.ext hX
      obtain ⟨p0, p1, p2, p3⟩ := (hb.ext heX).c4
      have hlb2 := heA.size
      go_wp2_with fail
      clear k0 k1 k2 k3 p0 p1 p2 p3 hX hcellA hmA hslA heA
      generalize W2.alloc _ = W3 at *
      obtain ⟨lb, hlb⟩ : ∃ lb, W2.heap.size = lb := ⟨_, rfl⟩
      rw [hlb] at hb10 hmX hlb2 ⊢
      clear hlb
      refine (lacking_any _ m off _ (Hv2.out.ext heX)).mono ?_
      rintro e W5 ⟨rfl, heB, ⟨a1, a2, a3, B1⟩, B2⟩
      have he7 := heX.trans heB
      have b7 := hb10.ext heB
      have hlb5 : lb < W3.heap.size := hb10.lt
      have hL5 := B2.lt
      have hszB := heB.size
      have hm7 := (hmX.ext heB).mono (hi' := W5.heap.size) (by omega)
      have hsl7 : Hid (OwnI W5 w2.heap.size 3 v7 (o.getD [])) := hslX.out.ext heB
      clear hmX hslX heX heB hb10
      generalize W3.heap.size = L at *
      obtain ⟨ti, hi, hz0, hz1, hz2⟩ := info_parts info_int
      go_wp2_with fail
      apply wp_lackingN (show m.orders.length ≤ 20 by omega) (show off ≤ 1048576 by omega) B1 B2 rfl rfl
        (fun pre W => W5.heap.size ≤ W.heap.size ∧ Apart lb W5 W ∧ ∃ lv, Blk W lb 22 #[lv] ∧ OwnI W W5.heap.size 3 lv (ints (pre.map fun y : In off => y.1)))
        (fun _ _ _ => False)
        (fun pre W W' ⟨h0, h1, lv, h2, h3⟩ hl => ⟨Nat.le_trans h0 hl.size, h1.loops hl (Nat.le_refl _), lv, h2.loops hl, h3.loops hl⟩)
        (fun _ _ _ _ h _ => h) ⟨Nat.le_refl _, Apart.refl _ _, .slice none 0 0, b7, OwnI.nil _ _ _⟩
      case hassign =>
        intro l x W K hK
        simp only [encK]
        gi_wp2
        exact hK
      case hbody =>
        intro l pre x W ⟨i0, i1, lv, i2, i3⟩ hplt
        have hoff2 : off < 2 ^ m.orders.length := HN.out ▸ hlt
        have hxn : x.1 < m.orders.length := bitsS_mem_lt hoff2 x
        obtain ⟨BB, cB, rfl, o1, o2, o3, o4, o5⟩ := i3.open_
        have O4 := Lib.hid o4; clear o3 o4 o5
        have hpl : (ints (pre.map fun y : In off => y.1)).length = pre.length := by unfold ints; simp
        rw [hpl] at o1 i3 i2
        have HPL := Lib.hid hpl; clear hpl
        have I3 := Lib.hid i3; clear i3
        obtain ⟨k, hk⟩ : ∃ k, x.1 = k := ⟨_, rfl⟩
        rw [hk] at hxn ⊢
        have Hk := Lib.hid hk; clear hk
        have hcl := i2.c1
        have HbNe := Lib.hid (I3.out.ne_blk i2 (by decide))
        gi_wp2_with (gi_at_builtin; refine wpListIn_append_own _ rfl _ _ 22 rfl W5.heap.size 3 ti (.int .i64 0) 1 8 Tryz.underlying22 hi hz0 hz1 hz2 rfl (by decide) _ _ _ rfl (ownsRow_alloc_of HPL.out I3.out) ⟨W.heap.size, 0, none⟩ 1 1 [.int .i64 k] rfl rfl (cell_one_new _ _ _) ?c2 ?c3 ?c4 ?c5 ?_; (case c2 => (intro u hu; simp at hu; subst hu; rfl)); (case c3 => (unfold maxLen; omega)); (case c4 => omega); (case c5 => (simp; omega)); intro v' w' hown' hg hnil; obtain ⟨AV, cV, rfl⟩ := ownsRow_slice hown'; have hblkF := ((i2.alloc (.cells #[.int .i64 (k : Int)] 3)).grown hg HbNe.out); have hcF := hblkF.c1; have hfF := hblkF.frozen 0)
        have hge := own_ge O4.out (L := pre.length) (c := cB)
        have hownI : OwnI w' W5.heap.size 3 (.slice AV (pre.length + 1) cV) (ints ((pre ++ [x]).map fun y : In off => y.1)) := by
          unfold OwnI
          rw [List.map_append, List.map_singleton, ints_append, List.map_append, List.length_append, HPL.out, Hk.out]
          exact hown'
        have hlow : ∀ j, j < W5.heap.size → j ≠ lb → (w'.setCell ⟨lb, 0, none⟩ (.slice AV (pre.length + 1) cV)).heap[j]? = W.heap[j]? := fun j hj hne => by
          rw [Below.heap_setCell w' _ _ j hne, hg.block j (by simp; omega) (fun e => by have := hge _ e.symm; omega)]
          exact Below.heap_alloc W _ j (by omega)
        refine ⟨((keepsFrom_ext (Ext.alloc W _)).trans (keepsFrom_grown hg (ownsRow_alloc_of HPL.out I3.out))).trans ((KeepsOthers.setCell _ _ _).from _), ⟨hlow L (by omega) (by omega), hlow (L + 1) (by omega) (by omega)⟩, ?_, (i1.grownAt hg (fun k hk => hge k hk)).set_ 0 (.slice AV (pre.length + 1) cV), (.slice AV (pre.length + 1) cV), ?_, ?_⟩
        · rw [World.size_setCell]; have := hg.size; simp at this; omega
        · have := hblkF.set_ 0 (.slice AV (pre.length + 1) cV)
          simpa using this
        · exact hownI.apart (fun e => hownI.ne_blk hblkF (by decide) e.symm) ((Apart.refl lb w').set_ 0 (.slice AV (pre.length + 1) cV))
      case hstop => intro _ _ _ _ _ _ h _; exact h.elim
      case hdone =>
        intro Dd W hDd ⟨i0, i1, lv, i2, i3⟩ hdef
        rw [bitsS_map] at i3
        have hsz5 := he7.size
        have heW : Ext w2 W := Apart.ext_of he7 (by omega) i1
        have hslW : Hid (OwnI W w2.heap.size 3 v7 (o.getD [])) := hsl7.out.apart (fun e => hsl7.out.ne_blk b7 (by decide) e.symm) i1
        have hmW := (hm7.apart i1 b7).push (D := Dd) (by omega) hDd hdef
        have hDlt := (Array.getElem?_eq_some_iff.1 hdef).1
        have hm9 := hmW.mono (hi' := W.heap.size) (by omega)
        have hlvW : Hid (OwnI W w2.heap.size 3 lv (ints (bits m.orders.length off))) := i3.mono hsz5
        have hil : (ints (bits m.orders.length off)).length ≤ 7 := by unfold ints; have := bits_length_le m.orders.length off; rw [List.length_map]; omega
        obtain ⟨AL, cL, rfl, q1, q2, q3, q4, q5⟩ := i3.open_
        have Hq3 := Lib.hid q3
        clear i3 q3 q4 q5 hdef hmW hsl7 hm7 b7 i0 i1
        generalize ints (bits m.orders.length off) = l at *
        have hlc := i2.c1
        have h297' : decide (t < 297) = true := by simpa using h297
        cases o with
        | none =>
          simp only [Option.isSome_none]
          go_wp2_with fail
          refine Handed.intro (N - (off + 1)) (by omega) (hJ _ _ _ ⟨_, _, _, off + 1, some l, _, rfl, by go_num, rfl, by omega, rfl, ?_, hlvW, heW, hm9⟩)
          unfold Hid; rw [hst.out, if_pos ⟨h297', by simp⟩]
        | some bb =>
          simp only [Option.isSome_some, Option.getD_some] at hslW ⊢
          obtain ⟨AB, cB, rfl, p1, p2, p3, p4, p5⟩ := hslW.out.open_
          clear p4 p5
          have Hp3 := Lib.hid p3; clear p3
          have hyes : beforeB l bb = true → Hid (pickB ((List.range (off + 1)).map (lateItemS m)) = some l) := fun h => by
            unfold Hid; rw [hst.out, if_pos ⟨h297', fun b e => by injection e with e; rw [← e]; exact h⟩]
          have hno : beforeB l bb = false → Hid (pickB ((List.range (off + 1)).map (lateItemS m)) = some bb) := fun h => by
            unfold Hid; rw [hst.out, if_neg]; rintro ⟨_, g⟩; have := g bb rfl; rw [h] at this; exact absurd this (by simp)
          have Hyes := Lib.hid hyes; have Hno := Lib.hid hno; clear hyes hno
          by_cases g1 : l.length < bb.length
          · have hbt : beforeB l bb = true := by unfold beforeB; rw [if_neg (by omega)]; simpa using g1
            go_wp2_with fail
            refine Handed.intro (N - (off + 1)) (by omega) (hJ _ _ _ ⟨_, _, _, off + 1, some l, _, rfl, by go_num, rfl, by omega, rfl, Hyes.out hbt, hlvW, heW, hm9⟩)
          · have hd1 : decide ((l.length : Int) < (bb.length : Int)) = false := by simp; omega
            by_cases g2 : l.length = bb.length
            · obtain ⟨q, hq⟩ : ∃ q, aheadB l bb = q := ⟨_, rfl⟩
              have hbq : Hid (beforeB l bb = q) := by unfold Hid beforeB; rw [if_pos g2, hq]
              have hcmp := Lib.hid (compare_any AL AB cL cB l bb q hq W (by unfold maxLen; omega) Hq3.out Hp3.out)
              have hd2 : ((l.length : Int) == (bb.length : Int)) = true := by simp; omega
              clear hq g2
              go_wp2_with fail
              refine hcmp.out.mono ?_
              rintro e w' ⟨r, rfl, hr, rfl⟩
              cases q with
              | true =>
                go_wp2_with fail
                refine Handed.intro (N - (off + 1)) (by omega) (hJ _ _ _ ⟨_, _, _, off + 1, some l, _, rfl, by go_num, rfl, by omega, rfl, Hyes.out hbq.out, hlvW, heW, hm9⟩)
              | false =>
                go_wp2_with fail
                refine Handed.intro (N - (off + 1)) (by omega) (hJ _ _ _ ⟨_, _, _, off + 1, some bb, _, rfl, by go_num, rfl, by omega, rfl, Hno.out hbq.out, hslW, heW, hm9⟩)
            · have hbt : beforeB l bb = false := by unfold beforeB; rw [if_neg g2]; simpa using g1
              have hd2 : ((l.length : Int) == (bb.length : Int)) = false := by simp; omega
              clear g2
              go_wp2_with fail
              refine Handed.intro (N - (off + 1)) (by omega) (hJ _ _ _ ⟨_, _, _, off + 1, some bb, _, rfl, by go_num, rfl, by omega, rfl, Hno.out hbt, hslW, heW, hm9⟩)
    · have hd : decide (297 ≤ t) = true := by simp; omega
      go_wp2_with fail
      refine Handed.intro (N - (off + 1)) (by omega) (hJ _ _ _ ⟨_, _, _, off + 1, o, ds, rfl, by go_num, rfl, by omega, rfl, ?_, hslA, heA, hmA⟩)
      unfold Hid; rw [hst.out, if_neg]; rintro ⟨g, _⟩; simp at g; omega
  · have hoe : off = N := by omega
    subst hoe
    have hE1 := hE2.trans he
    go_wp2_with fail
    refine leaves_marks' ds W1 hm (fun W' => results_tmp2 (show Func.results Tryz.f67 = #[.tmp 2, .tmp 3] by kernel_rfl) _ _ _) (fun W' hq => ⟨v7, rfl, ?_, hq.ext hE1 (Nat.le_refl _)⟩)
    have h : lateS m = o := by
      have := ho.out
      rw [HN.out] at this
      exact this
    rw [h]
    obtain ⟨g0, g1⟩ := hsl.out
    refine OwnI.mono (base := w2.heap.size) (e := 3) ⟨g0, ?_⟩ hE2.size
    rcases g1 with g1 | ⟨g, cap, cur, e, hg1, hb, r⟩
    · exact .inl g1
    · exact .inr ⟨g, cap, cur, e, hg1, hq.blk hb, r⟩
end Go.Proofs.Pet
