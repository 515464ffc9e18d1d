/- Joined texts: PW0, O3, PW1, Sr. -/
import Derived.Test.YtlekonngbmkdbaaGreatJ10
import Derived.Test.YtlekonngbmkdbaaGreatJ07
import Derived.Test.YtlekonngbmkdbaaGreatJ06
import Derived.Deep.DeepCutAuto
import Derived.Test.YtlekonngbmkdbaaGreatJ14
import Derived.Test.YtlekonngbmkdbaaGreatJ09
namespace Go.Proofs.Pow

def wovS (a b c : Int) : List Sh := [⟨-1, a⟩, ⟨0, b⟩, ⟨1, c⟩]
/-- the loom at the shaft of its number, with all hours below some -/
def WovW (ws : List Wv) : Prop := ∀ k, k < ws.length → (ws[k]?.getD default).shaft = (k : Int) ∧ ∃ n : Nat, n ≤ 24 ∧ (ws[k]?.getD default).hours = (List.range n).map fun i : Nat => (i : Int)
theorem WovW.nil : WovW [] := fun k hk => absurd hk (by simp)
theorem WovW.push {ws : List Wv} (h : WovW ws) {n : Nat} (hn : n ≤ 24) : WovW (ws ++ [⟨(ws.length : Int), (List.range n).map fun i : Nat => (i : Int)⟩]) := by
  intro k hk
  rw [List.length_append, List.length_singleton] at hk
  by_cases e : k < ws.length
  · rw [List.getElem?_append_left e]; exact h k e
  · obtain rfl : k = ws.length := by omega
    rw [List.getElem?_append_right (Nat.le_refl _), Nat.sub_self]
    exact ⟨rfl, n, hn, rfl⟩
theorem woven_ok {a b c : Int} (ha : 0 ≤ a ∧ a ≤ 60) (hb : 0 ≤ b ∧ b ≤ 60) (hc : 0 ≤ c ∧ c ≤ 60) {ws : List Wv} (hl : ws.length ≤ 3) (h : WovW ws) : POk ⟨wovS a b c, ws⟩ ∧ ChainOk ⟨wovS a b c, ws⟩ := by
  have hch : ChainOk ⟨wovS a b c, ws⟩ := by
    intro s hs
    have hs' : s < 3 := hs
    match s, hs' with
    | 0, _ => rfl
    | 1, _ => rfl
    | 2, _ => rfl
  refine ⟨⟨⟨by show 1 ≤ 3; omega, by show 3 ≤ 9; omega⟩, by show ws.length ≤ 6; omega, fun s hs => ?_, fun k hk x hx => ?_, hch.up, fun k hk => ?_, fun k hk => ?_⟩, hch⟩
  · have hs' : s < 3 := hs
    match s, hs' with
    | 0, _ => exact ha
    | 1, _ => exact hb
    | 2, _ => exact hc
  · obtain ⟨_, n, h1, h2⟩ := h k hk
    have hx' : x ∈ (ws[k]?.getD default).hours := hx
    rw [h2, List.mem_map] at hx'
    obtain ⟨i, hi, rfl⟩ := hx'
    have := List.mem_range.1 hi
    omega
  · have e : ((⟨wovS a b c, ws⟩ : PM).wv k).shaft = (k : Int) := (h k hk).1
    have hk' : k < ws.length := hk
    rw [e]
    show 0 ≤ (k : Int) ∧ (k : Int) < (3 : Nat)
    omega
  · obtain ⟨_, n, h1, h2⟩ := h k hk
    show ((ws[k]?.getD default).hours).Pairwise (· < ·)
    rw [h2, List.pairwise_map]
    exact List.pairwise_lt_range.imp fun h => by omega
theorem woven_sum {a b c : Int} (ha : 0 ≤ a ∧ a ≤ 60) (hb : 0 ≤ b ∧ b ≤ 60) (hc : 0 ≤ c ∧ c ≤ 60) {ws : List Wv} (hl : ws.length ≤ 3) (h : WovW ws) :
    ((List.range ws.length).map (shareP ⟨wovS a b c, ws⟩)).sum = 60 * ((mostF ⟨wovS a b c, ws⟩ 0 : Int) * a + (mostF ⟨wovS a b c, ws⟩ 1 : Int) * b + (mostF ⟨wovS a b c, ws⟩ 2 : Int) * c) := by
  obtain ⟨h1, h2⟩ := woven_ok ha hb hc hl h
  have ht := h1.total
  rw [woven_cost h2 h1.at_ (fun k hk => by
    obtain ⟨_, n, g1, g2⟩ := h k hk
    exact ⟨n, g1, g2⟩)] at ht
  have ht' : ((List.range ws.length).map (shareP ⟨wovS a b c, ws⟩)).sum = 60 * ((List.range 3).map fun s => (mostF ⟨wovS a b c, ws⟩ s : Int) * ((⟨wovS a b c, ws⟩ : PM).sh s).price).sum := ht
  rw [ht', show List.range 3 = [0, 1, 2] from rfl]
  simp only [List.map_cons, List.map_nil, List.sum_cons, List.sum_nil]
  show 60 * ((mostF _ 0 : Int) * a + ((mostF _ 1 : Int) * b + ((mostF _ 2 : Int) * c + 0))) = _
  rw [Int.add_zero, ← Int.add_assoc]
/-- the most hours of the first looms that a shaft drives -/
def mostT (ws : List Wv) (s j : Nat) : Nat := (ws.take j).foldl (fun a w => if (s : Int) ≤ w.shaft then max a w.hours.length else a) 0
theorem mostT_all (a b c : Int) (ws : List Wv) (s : Nat) : mostT ws s ws.length = mostF ⟨wovS a b c, ws⟩ s := by
  unfold mostT mostF
  rw [List.take_length]
theorem mostT_succ {ws : List Wv} {s j : Nat} (hj : j < ws.length) : mostT ws s (j + 1) = if (s : Int) ≤ (ws[j]?.getD default).shaft then max (mostT ws s j) (ws[j]?.getD default).hours.length else mostT ws s j := by
  unfold mostT
  rw [List.take_add_one, List.foldl_append, List.getElem?_eq_getElem hj]
  rfl
theorem mostT_le {ws : List Wv} (h : WovW ws) (s : Nat) : ∀ j, mostT ws s j ≤ 24
  | 0 => by simp [mostT]
  | j + 1 => by
    by_cases hj : j < ws.length
    · rw [mostT_succ hj]
      obtain ⟨_, n, g1, g2⟩ := h j hj
      have := mostT_le h s j
      split
      · rw [g2, List.length_map, List.length_range]; omega
      · exact this
    · have e : mostT ws s (j + 1) = mostT ws s j := by
        unfold mostT
        rw [List.take_of_length_le (by omega), List.take_of_length_le (by omega)]
      rw [e]; exact mostT_le h s j
end Go.Proofs.Pow

namespace Go.Proofs.Pet
set_option linter.unusedSimpArgs false
open Go Go.RowKit Go.Maps Go.Shelf

/-- a mill being made: w0 is the world at first, b the spool's block, R the result's, M the mill's -/
structure MkS (w0 : World) (b R M B0 : Nat) (la : List Int) (ch : Int) (os : List Ord) (k : Nat) (v1 v2 : Value) (W : World) : Prop where
  ap : Apart b w0 W
  sp : SpoolAt W b k
  br : Blk W R 25 zeroM
  bm : Blk W M 25 #[v1, .int .i64 ch, v2]
  o1 : OwnI W B0 3 v1 la
  o2 : OwnOB W B0 v2 os
  lt : b < w0.heap.size ∧ w0.heap.size ≤ R ∧ R < M ∧ M < B0
section
variable {w0 W W' : World} {b R M B0 k k' : Nat} {la : List Int} {ch : Int} {os : List Ord} {v1 v2 : Value}
theorem MkS.turn (h : MkS w0 b R M B0 la ch os k v1 v2 W) (ha : Apart b W W') (hs : SpoolAt W' b k') : MkS w0 b R M B0 la ch os k' v1 v2 W' := by
  obtain ⟨h1, h2, h3, h4, h5, h6, g1, g2, g3, g4⟩ := h
  exact ⟨h1.trans ha, hs, h3.apart (by omega) ha, h4.apart (by omega) ha, h5.apartB (by omega) ha, h6.apart (by omega) ha, g1, g2, g3, g4⟩
theorem MkS.ext (h : MkS w0 b R M B0 la ch os k v1 v2 W) (he : Ext W W') : MkS w0 b R M B0 la ch os k v1 v2 W' := h.turn (Apart.of_ext he) (h.sp.ext he)
theorem Apart.grown {w1 : World} {v : Value} (h : Apart b w0 w1) (hg : w1.grownBy W' v.ownBlock) (hr : ∀ j, v.ownBlock = some j → w0.heap.size ≤ j) : Apart b w0 W' := by
  obtain ⟨g1, g2, g3, g4, g5⟩ := h
  refine ⟨hg.os.trans g1, hg.tape.trans g2, hg.output.trans g3, Nat.le_trans g4 hg.size, fun j hj hne => ?_⟩
  rw [hg.block j (by omega) (fun e => by have := hr j e.symm; omega)]
  exact g5 j hj hne
theorem SpoolAt.grown {v : Value} (h : SpoolAt W b k) (hg : W.grownBy W' v.ownBlock) (hr : ∀ j, v.ownBlock = some j → b < j) : SpoolAt W' b k := by
  obtain ⟨A, n, c, st, a, h1, h2, h3, h4, h5⟩ := h
  refine ⟨A, n, c, st, a, h1.grown hg (fun e => by have := hr b e.symm; omega), h2, h3, h4, fun j hj => ?_⟩
  obtain ⟨b', o, u, rfl, g2, g3⟩ := h5 j hj
  refine ⟨b', o, u, rfl, g2, ?_⟩
  have hlt := cell_lt g3
  unfold World.cell? at g3 ⊢
  rw [hg.block b' hlt (fun e => by have := hr b' e.symm; omega)]
  exact g3
theorem MkS.monoK (h : MkS w0 b R M B0 la ch os k v1 v2 W) (hk : k ≤ k') : MkS w0 b R M B0 la ch os k' v1 v2 W := h.turn (Apart.refl _ _) (h.sp.mono hk)
theorem Src.list (w : World) (cs : List Value) (t : TypeId) : Src (w.alloc (.cells cs.toArray t)) (some ⟨w.heap.size, 0, none⟩) cs := .inr ⟨_, rfl, fun j u hj => by
  have hb := Blk.new w t cs.toArray
  have e : (⟨w.heap.size, 0, none⟩ : Addr).add j = ⟨w.heap.size, j, none⟩ := by rw [addr_add]; simp
  rw [e, hb.cell, List.getElem?_toArray]
  exact hj⟩
theorem MkS.pushL {v1' : Value} {x : Int} (h : MkS w0 b R M B0 la ch [] k v1 (.slice none 0 0) W) (hown : W'.ownsRow B0 3 1 v1' (la.length + 1) (la.map (Value.int .i64) ++ [.int .i64 x])) (hg : W.grownBy W' v1.ownBlock) :
    W'.cell? ⟨M, 0, none⟩ = some v1 ∧ W'.frozen? ⟨M, 0, none⟩ = false ∧ MkS w0 b R M B0 (la ++ [x]) ch [] k v1' (.slice none 0 0) (W'.setCell ⟨M, 0, none⟩ v1') := by
  obtain ⟨h1, h2, h3, h4, h5, h6, g1, g2, g3, g4⟩ := h
  have hge : ∀ j, v1.ownBlock = some j → B0 ≤ j := fun j hj => (h5.own_lt j hj).1
  have hM := h4.grown hg (fun e => by have := hge M e.symm; omega)
  have hR := h3.grown hg (fun e => by have := hge R e.symm; omega)
  have h2' := h2.grown hg (fun j hj => by have := hge j hj; omega)
  have hO : OwnI W' B0 3 v1' (la ++ [x]) := by
    unfold OwnI; rw [List.length_append, List.map_append]; exact hown
  refine ⟨hM.c3.1, hM.frozen 0, ((h1.grown hg (fun j hj => by have := hge j hj; omega)).above (by show w0.heap.size ≤ M; omega) _), h2'.apart (by omega : b < M) ((Apart.refl M W').set_ 0 v1'), hR.far (by show R ≠ M; omega) _, by simpa using hM.set_ 0 v1', hO.far hM (by decide) 0 v1', OwnOB.nil _ _, g1, g2, g3, g4⟩
theorem MkS.pushO {v2' s : Value} {cs : List Value} {x : Ord} (h : MkS w0 b R M B0 la ch os k v1 v2 W) (o1 : W.ownsRow B0 28 4 v2 os.length cs) (o2 : OrdOwn W B0 cs os) (hs : OwnI W B0 3 s x.on)
    (hown : W'.ownsRow B0 28 4 v2' (os.length + 1) (cs ++ [.int .i64 x.pattern, .int .i64 x.days, .int .i64 x.by_, s])) (hg : W.grownBy W' v2.ownBlock) :
    W'.cell? ⟨M, 2, none⟩ = some v2 ∧ W'.frozen? ⟨M, 2, none⟩ = false ∧ MkS w0 b R M B0 la ch (os ++ [x]) k v1 v2' (W'.setCell ⟨M, 2, none⟩ v2') := by
  obtain ⟨h1, h2, h3, h4, h5, h6, g1, g2, g3, g4⟩ := h
  have hge : ∀ j, v2.ownBlock = some j → B0 ≤ j := fun j hj => (ownsRow_own o1 j hj).1
  have hM := h4.grown hg (fun e => by have := hge M e.symm; omega)
  have hR := h3.grown hg (fun e => by have := hge R e.symm; omega)
  have h2' := h2.grown hg (fun j hj => by have := hge j hj; omega)
  have hO := OwnOB.push o1 o2 hs hown hg
  have hL := h5.grownT (by decide) hg o1
  refine ⟨hM.c3.2.2, hM.frozen 2, ((h1.grown hg (fun j hj => by have := hge j hj; omega)).above (by show w0.heap.size ≤ M; omega) _), h2'.apart (by omega : b < M) ((Apart.refl M W').set_ 2 v2'), hR.far (by show R ≠ M; omega) _, by simpa using hM.set_ 2 v2', hL.far hM (by decide) 2 v2', hO.far hM (by decide) (.inl (by decide)) 2 v2', g1, g2, g3, g4⟩
end
set_option maxRecDepth 100000 in
set_option maxHeartbeats 4000000 in
theorem madeS_any (b k : Nat) (hk : k ≤ 1000) (looms orders : Int) (hl : 1 ≤ looms ∧ looms ≤ 3) (ho : 0 ≤ orders ∧ orders ≤ 7) (w : World) (hs : SpoolAt w b k) :
    Calls Tryz.prog 46 #[.pointer (some ⟨b, 0, none⟩), .int .i64 looms, .int .i64 orders] w fun e w' => ∃ v m, e = .returned v ∧ MillVal w' v m ∧ MillOk m ∧ m.laced.length ≤ looms ∧ m.orders.length ≤ orders ∧ SpoolAt w' b 2000 ∧ Apart b w w' := by
  obtain ⟨ti, hi, hz0, hz1, hz2⟩ := info_parts info_int
  obtain ⟨ti2, hi2, hy0, hy1, hy2⟩ := info_parts info_order
  have hR := Blk.new w 25 zeroM
  have hX := Ext.alloc w (.cells zeroM 25)
  have hsp := hs.ext hX
  have hbl := hs.lt
  have hup := Lib.hid (upto_any b k (by omega) 3 (by omega) 3 (by omega) _ hsp)
  clear hsp
  go_enter Tryz.func46, Tryz.ntmps46
  go_wp2_with fail
  refine hup.out.mono ?_
  rintro e w1 ⟨ch, rfl, hc1, hc2, hs1, ha1⟩
  clear hup
  have hszA := ha1.size
  rw [World.size_alloc] at hszA
  have hX1 := Ext.alloc w1 (.cells #[.slice none 0 0, .int .i64 ch, .slice none 0 0] 25)
  have hM := Blk.new w1 25 #[.slice none 0 0, .int .i64 ch, .slice none 0 0]
  have hap := (Apart.of_ext (b := b) hX).trans ha1
  have hS : MkS w b w.heap.size w1.heap.size (w1.heap.size + 1) [] ch [] (k + 1) (.slice none 0 0) (.slice none 0 0) (w1.alloc (.cells #[.slice none 0 0, .int .i64 ch, .slice none 0 0] 25)) :=
    ⟨hap.trans (Apart.of_ext hX1), hs1.ext hX1, (hR.apart (by omega) ha1).ext hX1, hM, OwnI.nil _ _ _, OwnOB.nil _ _, hbl, Nat.le_refl _, by omega, by omega⟩
  have hfr := Lib.hid (from_any b (k + 1) (by omega) 1 looms (by omega) looms (by omega) _ hS.sp)
  clear hap hM hR ha1 hX
  go_wp2_with fail
  obtain ⟨R, hR⟩ : ∃ R, w.heap.size = R := ⟨_, rfl⟩
  obtain ⟨M, hM⟩ : ∃ M, w1.heap.size = M := ⟨_, rfl⟩
  rw [hR, hM] at hS
  rw [hM]
  have hRw : w.heap.size ≤ R := by omega
  generalize hW2 : w1.alloc _ = W2 at *
  refine hfr.out.mono ?_
  rintro e w3 ⟨L, rfl, hL1, hL2, hs3, ha3⟩
  have hS := hS.turn ha3 hs3
  have hR' := Lib.hid hR; have hM' := Lib.hid hM
  clear hfr hs3 ha3 hs1 hX1 hR hM hW2 hszA
  obtain ⟨Ln, rfl⟩ : ∃ Ln : Nat, L = (Ln : Int) := ⟨L.toNat, by omega⟩
  go_wp2_with fail
  go_loopw [17] (fun iv wr => ∃ i : Nat, ∃ la v1, i ≤ Ln ∧ iv = .int .i64 i ∧ la.length = i ∧ Hid (∀ x, x ∈ la → (-1 : Int) ≤ x ∧ x ≤ 9) ∧ Hid (MkS w b R M (M + 1) la ch [] (k + 2 + i) v1 (.slice none 0 0) wr)) (fun iv _ => Ln - (intOf iv).toNat)
  case atStart => exact ⟨0, [], _, by omega, rfl, rfl, fun x hx => by simp at hx, Lib.hid hS⟩
  case round =>
    clear hS
    obtain ⟨i, la, v1, hi', rfl, hla, hlx, hS⟩ := hrel
    subst hla
    by_cases hlt : la.length < Ln
    · obtain ⟨A1, c1, rfl, g1, g2, g3, g4, g5⟩ := hS.out.o1.open_
      obtain ⟨k0, k1, k2⟩ := hS.out.bm.c3
      clear g3 g4 g5
      have hszM := hS.out.bm.lt
      go_wp2_with fail
      refine wp_region_chainG (fun W => W.cell? ⟨M, 0, none⟩ = some (.slice A1 la.length c1)) (k0) 6 [(3, true), (4, true), (5, false)] [] (by kernel_rfl) (by kernel_rfl) (by kernel_rfl) ?_
      simp only [List.take, List.drop, fill, Act.put, List.setIfInBounds_toArray, List.set_cons_zero, List.set_cons_succ, Nat.reduceAdd]
      repeat (first
        | refine Floats.mut rfl ?_
        | (apply Floats.float rfl
           · intro x W he hd K Q hK
             try (have he := he (by decide); have k0 : W.cell? _ = some _ := he)
             try simp only [edges, DepsE, List.filter_cons, List.filter_nil, Region.binds, if_true, and_true, true_and, upd, Nat.reduceEqDiff, if_false] at hd
             try simp only [hd] at hK ⊢
             have HK := Lib.hid hK; clear hK
             go_wp2_with fail
             exact HK.out))
      refine Floats.done fun W he hG => ?_
      have hS1 := hS.out.ext he
      have hfr := Lib.hid (from_any b _ (by omega) (-1) 3 (by omega) 3 (by omega) W hS1.sp)
      clear hG
      refine Chain.cons _ rfl ?_
      intro x hd K Q hK
      try simp only [edges, DepsE, List.filter_cons, List.filter_nil, Region.binds, if_true, and_true, true_and, upd, Nat.reduceEqDiff, if_false] at hd
      try simp only [hd] at hK ⊢
      clear hd
      have HK := Lib.hid hK; clear hK
      go_wp2_with fail
      refine hfr.out.mono ?_
      rintro e w4 ⟨xv, rfl, hx1, hx2, hs4, ha4⟩
      have hS2 := hS1.turn ha4 hs4
      clear hfr hS1 ha4 hs4
      go_wp2_with fail
      refine HK.out _ _ (fun _ => hS2.bm.c3.1) ?_
      clear HK
      refine Chain.cons _ rfl ?_
      intro x hd K Q hK
      try simp only [edges, DepsE, List.filter_cons, List.filter_nil, Region.binds, if_true, and_true, true_and, upd, Nat.reduceEqDiff, if_false] at hd
      try simp only [hd] at hK ⊢
      clear hd
      have HK := Lib.hid hK; clear hK
      have hb5 := Ext.alloc w4 (.cells #[.int .i64 xv] 3)
      have hS3 := hS2.ext hb5
      have hsrc := Src.one w4 (.int .i64 xv) 3
      go_wp2_with fail
      refine HK.out _ _ (fun _ => hS3.bm.c3.1) ?_
      clear HK
      refine Chain.cons _ rfl ?_
      intro x hd K Q hK
      try simp only [edges, DepsE, List.filter_cons, List.filter_nil, Region.binds, if_true, and_true, true_and, upd, Nat.reduceEqDiff, if_false] at hd
      try simp only [hd] at hK ⊢
      clear hd
      have HK := Lib.hid hK; clear hK
      have hsz5 := hS3.bm.lt
      refine wpList_app rfl _ _ 22 rfl (M + 1) 3 ti (.int .i64 0) 1 8 Tryz.underlying22 hi hz0 hz1 hz2 rfl (by decide) (.slice A1 la.length c1) la.length _ rfl hS3.o1 (some ⟨w4.heap.size, 0, none⟩) 1 _ [.int .i64 xv] rfl rfl hsrc (fun u hu => by rw [List.mem_singleton] at hu; subst hu; rfl) (by simp only [maxLen]; omega) (by omega) (by omega) ?_
      intro v' w5 hown hg hblk
      obtain ⟨q0, q1, hS6⟩ := hS3.pushL hown hg
      have HS6 := Lib.hid hS6; clear hS6
      obtain ⟨A9, c9, rfl⟩ := ownsRow_slice hown
      refine HK.out _ _ (fun h => by cases h) ?_
      clear HK
      refine Chain.nil ?_
      simp only [upd, Nat.reduceEqDiff, if_false, if_true]
      go_wp2_with fail
      go_roundw
      case rel =>
        refine ⟨la.length + 1, la ++ [xv], _, by omega, by go_num, by simp, ?_, by rw [← Nat.add_assoc]; exact HS6⟩
        intro y hy
        rcases List.mem_append.1 hy with h | h
        · exact hlx.out y h
        · rw [List.mem_singleton] at h; subst h; omega
      case measure => simp [intOf]; omega
    · have hLe : la.length = Ln := by omega
      subst hLe
      have hfr := Lib.hid (from_any b _ (by omega) 6 24 (by omega) 24 (by omega) wr hS.out.sp)
      go_wp2_with fail
      refine hfr.out.mono ?_
      rintro e w4 ⟨by_, rfl, hb1, hb2, hs4, ha4⟩
      have hS4 := hS.out.turn ha4 hs4
      clear hfr hs4 ha4 hS
      have hup := Lib.hid (upto_any b _ (by omega) orders (by omega) orders (by omega) w4 hS4.sp)
      go_wp2_with fail
      refine hup.out.mono ?_
      rintro e w5 ⟨N, rfl, hN1, hN2, hs5, ha5⟩
      have hS5 := hS4.turn ha5 hs5
      clear hup hs5 ha5 hS4
      obtain ⟨Nn, rfl⟩ : ∃ Nn : Nat, N = (Nn : Int) := ⟨N.toNat, by omega⟩
      go_wp2_with fail
      go_loopw [32] (fun iv wr => ∃ i : Nat, ∃ os v2, i ≤ Nn ∧ iv = .int .i64 i ∧ os.length = i ∧ Hid (∀ o, o ∈ os → OrdOk la.length o) ∧ Hid (MkS w b R M (M + 1) la ch os (k + 20 + 20 * i) v1 v2 wr)) (fun iv _ => Nn - (intOf iv).toNat)
      case atStart => exact ⟨0, [], _, by omega, rfl, rfl, fun x hx => by simp at hx, Lib.hid (hS5.turn (Apart.refl _ _) (hS5.sp.mono (by omega)))⟩
      case round =>
        clear hS5
        obtain ⟨i, os, v2, hi', rfl, hos, hox, hS⟩ := hrel
        subst hos
        by_cases hlt : os.length < Nn
        · have hup := Lib.hid (upto_any b _ (by omega) 3 (by omega) 3 (by omega) wr hS.out.sp)
          go_wp2_with fail
          refine hup.out.mono ?_
          rintro e w6 ⟨pat, rfl, hp1, hp2, hs6, ha6⟩
          have hS6 := hS.out.turn ha6 hs6
          clear hup hs6 ha6 hS
          have hup := Lib.hid (from_any b _ (by omega) 1 6 (by omega) 6 (by omega) w6 hS6.sp)
          go_wp2_with fail
          refine hup.out.mono ?_
          rintro e w7 ⟨dy, rfl, hd1, hd2, hs7, ha7⟩
          have hS7 := hS6.turn ha7 hs7
          clear hup hs7 ha7 hS6
          have hup := Lib.hid (from_any b _ (by omega) 2 by_ (by omega) by_ (by omega) w7 hS7.sp)
          go_wp2_with fail
          refine hup.out.mono ?_
          rintro e w8 ⟨yy, rfl, hy8, hy9, hs8, ha8⟩
          have hS8 := hS7.turn ha8 hs8
          clear hup hs8 ha8 hS7
          have hX8 := Ext.alloc w8 (.cells #[.int .i64 pat, .int .i64 dy, .int .i64 yy, .slice none 0 0] 28)
          have hO8 := Blk.new w8 28 #[.int .i64 pat, .int .i64 dy, .int .i64 yy, .slice none 0 0]
          have hA8 : Apart b w8 _ := Apart.of_ext hX8
          have hsp8 := hS8.sp.ext hX8
          have hbs := hS8.bm.lt
          have hblt := hS8.lt
          obtain ⟨A1, c1, rfl, g1, g2, _, _, _⟩ := hS8.o1.open_
          obtain ⟨k0, k1, k2⟩ := (hS8.ext hX8).bm.c3
          go_wp2_with fail
          obtain ⟨O, hOe⟩ : ∃ O, w8.heap.size = O := ⟨_, rfl⟩
          rw [hOe] at hO8 ⊢
          generalize w8.alloc _ = W9 at *
          have HOe := Lib.hid hOe; clear hOe
          have HSe := Lib.hid hS8
          clear hX8 k0 k1 k2 hS8
          go_loopw [45] (fun iv wr => ∃ j : Nat, ∃ on v3, j ≤ la.length ∧ iv = .int .i64 j ∧ on.length ≤ j ∧ Hid (∀ x, x ∈ on → (0 : Int) ≤ x ∧ x < j) ∧ Hid (risingB on = true) ∧ Apart b w8 wr ∧ SpoolAt wr b (k + 20 + 20 * os.length + 1 + 1 + 1 + j) ∧ Blk wr O 28 #[.int .i64 pat, .int .i64 dy, .int .i64 yy, v3] ∧ OwnI wr (O + 1) 3 v3 on) (fun iv _ => la.length - (intOf iv).toNat)
          case atStart => exact ⟨0, [], _, by omega, rfl, Nat.le_refl _, fun x hx => by simp at hx, rfl, hA8, hsp8, hO8, OwnI.nil _ _ _⟩
          case round =>
            clear hA8 hsp8 hO8
            obtain ⟨j, on, v3, hj, rfl, honl, honr, honu, hA, hsp, hO, hon⟩ := hrel
            have hszO := hO.lt
            by_cases hltj : j < la.length
            · have hoc := Lib.hid (once_any b _ (by omega) 2 (by omega) wr hsp)
              go_wp2_with fail
              refine hoc.out.mono ?_
              rintro e w10 ⟨q, rfl, hs10, ha10⟩
              have hO := hO.apart (by have := HOe.out; omega) ha10
              have hon := hon.apartB (by have := HOe.out; omega) ha10
              have hA := hA.trans ha10
              have hsp := hs10
              clear hoc hs10 ha10
              cases q with
              | false =>
                go_wp2_with fail
                go_roundw
                case rel => exact ⟨j + 1, on, v3, by omega, by go_num, by omega, fun x hx => by have := honr.out x hx; omega, honu, hA, by rw [← Nat.add_assoc]; exact hsp, hO, hon⟩
                case measure => simp [intOf]; omega
              | true =>
                obtain ⟨A3, c3, rfl, r1, r2, r3, r4, r5⟩ := hon.open_
                obtain ⟨p0, p1, p2, p3⟩ := hO.c4
                have hX := Ext.alloc w10 (.cells #[.int .i64 j] 3)
                have hsrc := Src.one w10 (.int .i64 j) 3
                have honX := hon.ext hX
                have hOX := hO.ext hX
                have hszX := hOX.lt
                have hAX := hA.trans (Apart.of_ext hX)
                have hspX := hsp.ext hX
                have HonX := Lib.hid honX
                clear r3 r4 r5
                have hOe := HOe.out
                have hbO : b < O := by omega
                have Hon11 : ∀ v' w11, w11.ownsRow (O + 1) 3 1 v' (on.length + 1) (on.map (Value.int .i64) ++ [.int .i64 (j : Int)]) → (w10.alloc (.cells #[.int .i64 j] 3)).grownBy w11 (Value.slice A3 on.length c3).ownBlock →
                    Blk w11 O 28 #[.int .i64 pat, .int .i64 dy, .int .i64 yy, .slice A3 on.length c3] ∧ Apart b w8 (w11.setCell ⟨O, 3, none⟩ v') ∧ SpoolAt (w11.setCell ⟨O, 3, none⟩ v') b (k + 20 + 20 * os.length + 1 + 1 + 1 + j + 1) ∧ Blk (w11.setCell ⟨O, 3, none⟩ v') O 28 #[.int .i64 pat, .int .i64 dy, .int .i64 yy, v'] ∧ OwnI (w11.setCell ⟨O, 3, none⟩ v') (O + 1) 3 v' (on ++ [(j : Int)]) := by
                  intro v' w11 hown hg
                  have hge := fun g hg' => (HonX.out.own_lt g hg').1
                  have hO11 := hOX.grown hg (ownsRow_ne_blk honX hOX (by decide))
                  have hA11 := hAX.grown hg (fun g hg' => by have := hge g hg'; omega)
                  have hsp11 := hspX.grown hg (fun g hg' => by have := hge g hg'; omega)
                  have hon11 : OwnI w11 (O + 1) 3 v' (on ++ [(j : Int)]) := by unfold OwnI; rw [List.length_append, List.map_append]; exact hown
                  exact ⟨hO11, hA11.above (by show w8.heap.size ≤ O; omega) _, hsp11.apart hbO ((Apart.refl O w11).set_ 3 _), by simpa using hO11.set_ 3 v', hon11.far hO11 (by decide) 3 v'⟩
                have Hon12 := Lib.hid Hon11
                clear Hon11 hOe
                go_wp2_with (at_builtin; refine wpList_app rfl _ _ 22 rfl (O + 1) 3 ti (.int .i64 0) 1 8 Tryz.underlying22 hi hz0 hz1 hz2 rfl (by decide) (.slice A3 on.length c3) on.length _ rfl honX (some ⟨w10.heap.size, 0, none⟩) 1 1 [.int .i64 j] rfl rfl hsrc ?c2 ?c3 ?c4 ?c5 ?_; (case c2 => (intro u hu; rw [List.mem_singleton] at hu; subst hu; rfl)); (case c3 => (unfold maxLen; omega)); (case c4 => omega); (case c5 => omega); intro v' w11 hown hg hblk; obtain ⟨hO11, hrest⟩ := Hon12.out v' w11 hown hg; obtain ⟨A9, c9, rfl⟩ := ownsRow_slice hown; have Hrest := Lib.hid hrest; clear hrest hsrc; obtain ⟨z0, z1, z2, z3⟩ := hO11.c4; have zf := hO11.frozen 3)
                go_roundw
                case rel =>
                  refine ⟨j + 1, on ++ [(j : Int)], _, by omega, by go_num, by rw [List.length_append, List.length_singleton]; omega, ?_, ?_, Hrest.out⟩
                  · intro y hy
                    rcases List.mem_append.1 hy with h | h
                    · have := honr.out y h; omega
                    · rw [List.mem_singleton] at h; subst h; omega
                  · exact rising_snoc honu.out fun y hy => (honr.out y hy).2
                case measure => simp [intOf]; omega
            · obtain rfl : j = la.length := by omega
              have Honr := Lib.hid (show ∀ x, x ∈ on → (0 : Int) ≤ x ∧ x < (la.length : Int) from honr.out)
              have hz' : on.length = 0 ∨ ((on.length : Int) == 0) = false := by
                by_cases hz : on.length = 0
                · exact .inl hz
                · exact .inr (by simpa using hz)
              have Hz := Lib.hid hz'; clear hz'
              obtain ⟨A3, c3, rfl, r1, r2, r3, r4, r5⟩ := hon.open_
              have Hon := Lib.hid hon
              clear r3 r4 r5 hon
              obtain ⟨p0, p1, p2, p3⟩ := hO.c4
              have hla0 : ((la.length : Int) - 1) = ((la.length - 1 : Nat) : Int) := by omega
              have hup := Lib.hid (upto_any b _ (by omega) ((la.length : Int) - 1) (by omega) ((la.length : Int) - 1) (by omega) wr hsp)
              obtain ⟨k0, k1, k2⟩ := (HSe.out.turn hA hsp).bm.c3
              clear hla0
              have HS9 := Lib.hid HSe.out
              go_upto_if 60 with fail
              go_cut [] (fun wx => ∃ on v3, Hid (on ≠ [] ∧ on.length ≤ 3) ∧ Hid (∀ x, x ∈ on → (0 : Int) ≤ x ∧ x < (la.length : Int)) ∧ Hid (risingB on = true) ∧ Apart b w8 wx ∧ SpoolAt wx b (k + 20 + 20 * os.length + 10) ∧ Blk wx O 28 #[.int .i64 pat, .int .i64 dy, .int .i64 yy, v3] ∧ Hid (OwnI wx (O + 1) 3 v3 on))
              case first =>
                rcases Hz.out with hz | hz
                · have hnil : on = [] := List.length_eq_zero_iff.1 hz
                  subst hnil
                  go_wp2_with fail
                  refine hup.out.mono ?_
                  rintro e w10 ⟨r, rfl, hr1, hr2, hs10, ha10⟩
                  have hO := hO.apart (by have := HOe.out; omega) ha10
                  have hA := hA.trans ha10
                  have hX := Ext.alloc w10 (.cells #[.int .i64 r] 3)
                  have hb10 := Blk.new w10 3 #[.int .i64 r]
                  have hOX := hO.ext hX
                  obtain ⟨z0, z1, z2, z3⟩ := hOX.c4
                  have zf := hOX.frozen 3
                  have hA := (hA.trans (Apart.of_ext hX)).above (p := ⟨O, 3, none⟩) (by show w8.heap.size ≤ O; have := HOe.out; omega) (.slice (some ⟨w10.heap.size, 0, none⟩) 1 1)
                  have hsp := (hs10.ext hX).apart (by have := HOe.out; omega : b < O) ((Apart.refl O _).set_ 3 (.slice (some ⟨w10.heap.size, 0, none⟩) 1 1))
                  have hszO := hO.lt
                  have hO2 := hOX.set_ 3 (.slice (some ⟨w10.heap.size, 0, none⟩) 1 1)
                  have hon2 : OwnI ((w10.alloc (.cells #[.int .i64 r] 3)).setCell ⟨O, 3, none⟩ (.slice (some ⟨w10.heap.size, 0, none⟩) 1 1)) (O + 1) 3 (.slice (some ⟨w10.heap.size, 0, none⟩) 1 1) [r] :=
                    OwnI.far (xs := [r]) ⟨by simp [maxLen], .inr ⟨_, 1, _, rfl, by omega, hb10, Nat.le_refl _, by simp [maxLen], rfl, rfl⟩⟩ hOX (by decide) 3 _
                  rw [World.setCell_alloc_past _ _ _ _ hszO] at hA hsp hO2 hon2
                  have hrg : Hid (∀ x, x ∈ [r] → (0 : Int) ≤ x ∧ x < (la.length : Int)) := fun x hx => by rw [List.mem_singleton] at hx; subst hx; omega
                  have Hon2 := Lib.hid hon2
                  clear hup hs10 ha10 p0 p1 p2 p3 k0 k1 k2 hO hOX hX hb10 hon2
                  go_wp2_with fail
                  go_meet
                  exact ⟨[r], _, by unfold Hid; simp, hrg, rfl, hA, hsp.mono (by omega), hO2, Hon2⟩
                · go_wp2_with fail
                  go_meet
                  exact ⟨on, _, by unfold Hid; refine ⟨fun h => ?_, by omega⟩; subst h; simp at hz, Honr, honu, hA, hsp.mono (by omega), hO, Hon⟩
              case rest =>
                clear hA hsp hO Hon p0 p1 p2 p3 k0 k1 k2 hup Honr honu Hz
                obtain ⟨on, v3, hne, hrg, hup, hA, hsp, hO, hon⟩ := hcut
                have honl := hne.out.2
                have hS9 := HSe.out.turn hA hsp
                obtain ⟨cs, o1, o2⟩ := hS9.o2
                obtain ⟨A2, c2, rfl⟩ := ownsRow_slice o1
                obtain ⟨A4, c4, rfl, r1, r2, r3, r4, r5⟩ := hon.out.open_
                obtain ⟨p0, p1, p2, p3⟩ := hO.c4
                obtain ⟨k0, k1, k2⟩ := hS9.bm.c3
                have hX9 := Ext.alloc wc (.cells #[.int .i64 pat, .int .i64 dy, .int .i64 yy, .slice A4 on.length c4] 28)
                have hsrc := Src.list wc [.int .i64 pat, .int .i64 dy, .int .i64 yy, .slice A4 on.length c4] 28
                have hpO := fun v2' w' => MkS.pushO (W' := w') (v2' := v2') (x := ⟨pat, dy, yy, on⟩) (hS9.ext hX9) (ownsRow_ext2 o1 hX9) (o2.map fun _ _ g => g.ext hX9) ((hon.out.ext hX9).mono (by have := HOe.out; omega))
                have o1x := ownsRow_ext2 o1 hX9
                have hszM := (hS9.ext hX9).bm.lt
                have HpO := Lib.hid hpO
                have Ho2 := Lib.hid o2
                clear hpO r3 r4 r5 o2 o1
                go_wp2_with (at_builtin; refine wpList_app rfl _ _ 23 rfl (M + 1) 28 ti2 _ 4 48 Tryz.underlying23 hi2 hy0 hy1 hy2 rfl (by decide) (.slice A2 os.length c2) os.length cs rfl o1x (some ⟨wc.heap.size, 0, none⟩) 1 1 [.int .i64 pat, .int .i64 dy, .int .i64 yy, .slice A4 on.length c4] rfl rfl hsrc ?c2 ?c3 ?c4 ?c5 ?_; (case c2 => (intro u hu; simp only [List.mem_cons, List.not_mem_nil, or_false] at hu; rcases hu with rfl | rfl | rfl | rfl <;> rfl)); (case c3 => (unfold maxLen; omega)); (case c4 => omega); (case c5 => omega); intro v' w12 hown hg hblk; obtain ⟨q0, q1, hS12⟩ := HpO.out v' w12 hown hg; obtain ⟨A9, c9, rfl⟩ := ownsRow_slice hown; have HS12 := Lib.hid hS12; clear hS12 hsrc)
                go_roundw
                case rel =>
                  refine ⟨os.length + 1, os ++ [⟨pat, dy, yy, on⟩], _, by omega, by go_num, by simp, ?_, Lib.hid (HS12.out.monoK (by omega))⟩
                  intro o ho
                  rcases List.mem_append.1 ho with h | h
                  · exact hox.out o h
                  · rw [List.mem_singleton] at h; subst h
                    exact ⟨⟨hp1, by show pat ≤ 9; omega⟩, ⟨hd1, by show dy ≤ 20; omega⟩, ⟨by show 1 ≤ yy; omega, by show yy ≤ 99; omega⟩, hne.out.1, hrg.out, hup.out⟩
                case measure => simp [intOf]; omega
        · obtain rfl : os.length = Nn := by omega
          have hS9 := hS.out
          have hbr : Blk wr w.heap.size 25 #[.slice none 0 0, .int .i64 0, .slice none 0 0] := by rw [hR'.out]; exact hS9.br
          have hfin : ∀ u0 u1 u2, MkS w b w.heap.size M (M + 1) la ch os (k + 20 + 20 * os.length) v1 v2 wr → OwnI (((wr.setCell ⟨w.heap.size, 0, none⟩ u0).setCell ⟨w.heap.size, 1, none⟩ u1).setCell ⟨w.heap.size, 2, none⟩ u2) (M + 1) 3 v1 la ∧
              OwnOB (((wr.setCell ⟨w.heap.size, 0, none⟩ u0).setCell ⟨w.heap.size, 1, none⟩ u1).setCell ⟨w.heap.size, 2, none⟩ u2) (M + 1) v2 os ∧ Blk (((wr.setCell ⟨w.heap.size, 0, none⟩ u0).setCell ⟨w.heap.size, 1, none⟩ u1).setCell ⟨w.heap.size, 2, none⟩ u2) w.heap.size 25 #[u0, u1, u2] ∧
              SpoolAt (((wr.setCell ⟨w.heap.size, 0, none⟩ u0).setCell ⟨w.heap.size, 1, none⟩ u1).setCell ⟨w.heap.size, 2, none⟩ u2) b 2000 ∧ Apart b w (((wr.setCell ⟨w.heap.size, 0, none⟩ u0).setCell ⟨w.heap.size, 1, none⟩ u1).setCell ⟨w.heap.size, 2, none⟩ u2) := by
            intro u0 u1 u2 h
            have b1 := h.br
            have b2 := b1.set_ 0 u0
            have b3 := b2.set_ 1 u1
            have b4 := b3.set_ 2 u2
            have hAp := (((Apart.refl w.heap.size wr).set_ 0 u0).set_ 1 u1).set_ 2 u2
            refine ⟨((h.o1.far b1 (by decide) 0 u0).far b2 (by decide) 1 u1).far b3 (by decide) 2 u2, ((h.o2.far b1 (by decide) (.inl (by decide)) 0 u0).far b2 (by decide) (.inl (by decide)) 1 u1).far b3 (by decide) (.inl (by decide)) 2 u2, by simpa [zeroM] using b4, (h.sp.mono (by omega)).apart h.lt.1 hAp, ?_⟩
            exact ((h.ap.above (p := ⟨w.heap.size, 0, none⟩) (Nat.le_refl _) _).above (p := ⟨w.heap.size, 1, none⟩) (Nat.le_refl _) _).above (p := ⟨w.heap.size, 2, none⟩) (Nat.le_refl _) _
          have Hfin := Lib.hid (fun u0 u1 u2 => hfin u0 u1 u2 (by rw [hR'.out]; exact hS9))
          clear hfin
          obtain ⟨A1, c1, rfl, r1, r2, r3, _, _⟩ := hS9.o1.open_
          obtain ⟨A2, c2, rfl, r4, r5, r6⟩ := hS9.o2.ords
          obtain ⟨k0, k1, k2⟩ := hS9.bm.c3
          obtain ⟨y0, y1, y2⟩ := hbr.c3
          have f0 := hbr.frozen 0; have f1 := hbr.frozen 1; have f2 := hbr.frozen 2
          clear r3 r6 hS9 hS hbr
          go_wp2_with fail
          obtain ⟨e1, e2, e3, e4, e5⟩ := Hfin.out (.slice A1 la.length c1) (.int .i64 ch) (.slice A2 os.length c2)
          clear k0 k1 k2 y0 y1 y2 f0 f1 f2
          obtain ⟨A1', c1', h1', _, _, r3, _, _⟩ := e1.open_
          obtain ⟨A2', c2', h2', _, _, r6⟩ := e2.ords
          simp only [Value.slice.injEq, true_and] at h1' h2'
          obtain ⟨rfl, rfl⟩ := h1'
          obtain ⟨rfl, rfl⟩ := h2'
          obtain ⟨v0, v1', v2'⟩ := e3.c3
          refine bodyPost_ret (v := .agg #[.slice A1 la.length c1, .int .i64 ch, .slice A2 os.length c2]) ?_ rfl ⟨_, ⟨la, ch, os⟩, rfl, ⟨A1, c1, A2, c2, rfl, r1, r2, r4, r5, r3, r6⟩, ⟨⟨by show 1 ≤ la.length; omega, by show la.length ≤ 3; omega⟩, by show os.length ≤ 7; omega, hlx.out, ⟨hc1, by show ch ≤ 5; omega⟩, hox.out⟩, by show (la.length : Int) ≤ _; omega, by show (os.length : Int) ≤ _; omega, e4, e5⟩
          simp [results, Tryz.results46, go_sem, v0, v1', v2']
end Go.Proofs.Pet

namespace Go.Proofs.Pow
theorem share_sums {m : PM} (hm : POk m) : ∀ j, j ≤ m.wvs.length → 0 ≤ ((List.range j).map (shareP m)).sum ∧ ((List.range j).map (shareP m)).sum ≤ j * 777600
  | 0, _ => by simp
  | j + 1, h => by
    have ih := share_sums hm j (by omega)
    have hs := share_le hm (k := j) (by omega)
    rw [List.range_succ, List.map_append, List.sum_append]
    simp only [List.map_cons, List.map_nil, List.sum_cons, List.sum_nil]
    omega
theorem share_sum_succ (m : PM) (j : Nat) : ((List.range (j + 1)).map (shareP m)).sum = ((List.range j).map (shareP m)).sum + shareP m j := by
  rw [List.range_succ, List.map_append, List.sum_append]
  simp
/-- what the first shafts cost together -/
def wovT (ss : List Sh) (ws : List Wv) (k : Nat) : Int := ((List.range k).map fun s => (mostT ws s ws.length : Int) * (ss[s]?.getD default).price).sum
theorem wovT_succ (ss : List Sh) (ws : List Wv) (k : Nat) : wovT ss ws (k + 1) = wovT ss ws k + (mostT ws k ws.length : Int) * (ss[k]?.getD default).price := by
  unfold wovT
  rw [List.range_succ, List.map_append, List.sum_append]
  simp
theorem wov_step {ws : List Wv} (h : WovW ws) (k : Nat) {p : Int} (hp : 0 ≤ p ∧ p ≤ 60) : 0 ≤ (mostT ws k ws.length : Int) * p ∧ (mostT ws k ws.length : Int) * p ≤ 1440 := by
  have h1 := mostT_le h k ws.length
  refine ⟨Int.mul_nonneg (by omega) hp.1, ?_⟩
  have h2 : (mostT ws k ws.length : Int) * p ≤ 24 * 60 := Int.mul_le_mul (by omega) hp.2 hp.1 (by omega)
  omega
theorem wovT_all (a b c : Int) (ws : List Wv) : wovT (wovS a b c) ws 3 = (mostF ⟨wovS a b c, ws⟩ 0 : Int) * a + (mostF ⟨wovS a b c, ws⟩ 1 : Int) * b + (mostF ⟨wovS a b c, ws⟩ 2 : Int) * c := by
  rw [← mostT_all a b c ws 0, ← mostT_all a b c ws 1, ← mostT_all a b c ws 2]
  unfold wovT
  rw [show List.range 3 = [0, 1, 2] from rfl]
  simp only [List.map_cons, List.map_nil, List.sum_cons, List.sum_nil]
  show _ * a + (_ * b + (_ * c + 0)) = _
  omega
end Go.Proofs.Pow
namespace Go.Proofs.Pet
open Go Go.RowKit Go.Maps Go.Shelf
open Go.Proofs.Pow (PM Sh Wv POk wovS WovW wovT mostT)

/-- the mill that is made, in memory -/
structure WovP (w0 : World) (M : Nat) (ss : List Sh) (ws : List Wv) (v1 v2 : Value) (W : World) : Prop where
  ex : Ext w0 W
  bm : Blk W M 56 #[v1, v2]
  o1 : OwnShs W (M + 1) v1 ss
  o2 : OwnWvs W (M + 1) v2 ws
  le : w0.heap.size ≤ M
section
variable {w0 W W' : World} {M : Nat} {ss : List Sh} {ws : List Wv} {v1 v2 : Value}
theorem WovP.next (h : WovP w0 M ss ws v1 v2 W) (he : Ext W W') : WovP w0 M ss ws v1 v2 W' := ⟨h.ex.trans he, h.bm.ext he, h.o1.ext he, h.o2.ext he, h.le⟩
theorem WovP.pushS {v1' : Value} {x : Sh} (h : WovP w0 M ss [] v1 (.slice none 0 0) W) (hown : W'.ownsRow (M + 1) 84 2 v1' (ss.length + 1) (shFlat ss ++ [.int .i64 x.up, .int .i64 x.price])) (hg : W.grownBy W' v1.ownBlock) :
    W'.cell? ⟨M, 0, none⟩ = some v1 ∧ W'.frozen? ⟨M, 0, none⟩ = false ∧ WovP w0 M (ss ++ [x]) [] v1' (.slice none 0 0) (W'.setCell ⟨M, 0, none⟩ v1') := by
  obtain ⟨h1, h2, h3, h4, h5⟩ := h
  have hge : ∀ j, v1.ownBlock = some j → M + 1 ≤ j := fun j hj => (ownsRow_own h3 j hj).1
  have hM := h2.grown hg (fun e => by have := hge M e.symm; omega)
  have hE : Ext w0 (W'.setCell ⟨M, 0, none⟩ v1') := Below.setCell (ext_grown0 h1 hg (fun j hj => by have := hge j hj; omega)) (p := ⟨M, 0, none⟩) h5 v1'
  exact ⟨hM.c2.1, hM.frozen 0, hE, by simpa using hM.set_ 0 v1', (OwnShs.push hown).far hM (.inl (by decide)) 0 v1', OwnWvs.nil, h5⟩
theorem WovP.pushW {v2' s : Value} {cs : List Value} {x : Wv} (h : WovP w0 M ss ws v1 v2 W) (o1 : W.ownsRow (M + 1) 86 2 v2 ws.length cs) (o2 : WvF (ownW W (M + 1)) cs ws) (hs : OwnI W (M + 1) 3 s x.hours)
    (hown : W'.ownsRow (M + 1) 86 2 v2' (ws.length + 1) (cs ++ [.int .i64 x.shaft, s])) (hg : W.grownBy W' v2.ownBlock) :
    W'.cell? ⟨M, 1, none⟩ = some v2 ∧ W'.frozen? ⟨M, 1, none⟩ = false ∧ WovP w0 M ss (ws ++ [x]) v1 v2' (W'.setCell ⟨M, 1, none⟩ v2') := by
  obtain ⟨h1, h2, h3, h4, h5⟩ := h
  have hge : ∀ j, v2.ownBlock = some j → M + 1 ≤ j := fun j hj => (ownsRow_own o1 j hj).1
  have hM := h2.grown hg (fun e => by have := hge M e.symm; omega)
  have hE : Ext w0 (W'.setCell ⟨M, 1, none⟩ v2') := Below.setCell (ext_grown0 h1 hg (fun j hj => by have := hge j hj; omega)) (p := ⟨M, 1, none⟩) h5 v2'
  have hO := OwnWvs.push o1 o2 hs hown hg
  have hL := h3.grownT (by decide) hg o1
  exact ⟨hM.c2.2, hM.frozen 1, hE, by simpa using hM.set_ 1 v2', hL.far hM (.inl (by decide)) 1 v2', hO.far hM (by decide) (.inl (by decide)) 1 v2', h5⟩
theorem WovP.val (h : WovP w0 M ss ws v1 v2 W) : PMVal W (.agg #[v1, v2]) ⟨ss, ws⟩ := OwnPM.val (base := M + 1) ⟨v1, v2, rfl, h.o1, h.o2⟩
end
theorem wov_cell {w : World} {S j na nb nc : Nat} (h : Blk w S 5 #[.int .u8 (na : Int), .int .u8 (nb : Int), .int .u8 (nc : Int)]) (hj : j < 3) (ha : na < 256) (hb : nb < 256) (hc : nc < 256) :
    ∃ x : Nat, w.cell? ⟨S, j, none⟩ = some (.int .u8 (x : Int)) ∧ x < 256 ∧ (wovS ((na : Int) % 61) ((nb : Int) % 61) ((nc : Int) % 61)).take (j + 1) = (wovS ((na : Int) % 61) ((nb : Int) % 61) ((nc : Int) % 61)).take j ++ [⟨(j : Int) - 1, (x : Int) % 61⟩] := by
  match j, hj with
  | 0, _ => exact ⟨na, by rw [h.cell]; rfl, ha, rfl⟩
  | 1, _ => exact ⟨nb, by rw [h.cell]; rfl, hb, rfl⟩
  | 2, _ => exact ⟨nc, by rw [h.cell]; rfl, hc, rfl⟩
set_option maxRecDepth 100000 in
set_option maxHeartbeats 8000000 in
theorem powerWoven_any (v : Value) (a b c : Int) (w : World) (hv : BytesIn w v) (ha : 0 ≤ a ∧ a < 256) (hb : 0 ≤ b ∧ b < 256) (hc : 0 ≤ c ∧ c < 256) :
    Calls Tryz.prog 6 #[v, .int .u8 a, .int .u8 b, .int .u8 c] w fun e w' => e = .returned (.bool true) ∧ Ext w w' := by
  obtain ⟨ti, hi, hz0, hz1, hz2⟩ := info_parts info_int
  obtain ⟨ti2, hi2, hy0, hy1, hy2⟩ := info_parts info_shaft
  obtain ⟨ti3, hi3, hx0, hx1, hx2⟩ := info_parts info_weaver
  obtain ⟨na, rfl⟩ : ∃ n : Nat, a = (n : Int) := ⟨a.toNat, by omega⟩
  obtain ⟨nb, rfl⟩ : ∃ n : Nat, b = (n : Int) := ⟨b.toNat, by omega⟩
  obtain ⟨nc, rfl⟩ : ∃ n : Nat, c = (n : Int) := ⟨c.toNat, by omega⟩
  have hwo := Lib.hid (wound_any v w hv)
  clear hv
  go_enter Tryz.func6, Tryz.ntmps6
  go_wp2_with fail
  refine hwo.out.mono ?_
  rintro e w1 ⟨rfl, hs1, he1⟩
  clear hwo
  have hma := Lib.hid (madeS_any w.heap.size 0 (by omega) 3 5 (by omega) (by omega) w1 hs1)
  go_wp2_with fail
  refine hma.out.mono ?_
  rintro e w2 ⟨mv, m, rfl, hm, hok, -, -, -, hap⟩
  have hE2 := Apart.ext_of he1 (Nat.le_refl _) hap
  clear hma hs1 he1 hap
  have l3 := hok.few
  have l1 := hok.looms
  have Hm := Lib.hid hm
  obtain ⟨A1, c1, A2, c2, rfl, q1, q2, q3, q4, -, -⟩ := hm
  have Hch := Lib.hid ((check_iff m).2 hok)
  have hM := Blk.new w2 25 #[.slice A1 m.laced.length c1, .int .i64 m.change, .slice A2 m.orders.length c2]
  have hX := Ext.alloc w2 (.cells #[.slice A1 m.laced.length c1, .int .i64 m.change, .slice A2 m.orders.length c2] 25)
  have hpl := Lib.hid (plan_ok _ m Hch.out _ (Hm.out.ext hX))
  have hE3 := hE2.trans hX
  clear hok q1 q2 q3 q4
  go_wp2_with fail
  obtain ⟨R, hRe⟩ : ∃ R, w2.heap.size = R := ⟨_, rfl⟩
  rw [hRe] at hM ⊢
  have HM := Lib.hid hM
  have HV := Lib.hid (Hm.out.ext hX)
  clear hRe hM hE2 Hm hX
  generalize w2.alloc _ = W3 at *
  refine hpl.out.mono ?_
  intro e w4 h4
  rcases h4 with ⟨-, rfl, he4⟩ | ⟨rows, r, hpf, rfl, hrw, he4⟩
  · have haw := Lib.hid (awake7_any w4)
    have hE4 := hE3.trans he4
    clear hpl hE3 he4
    go_wp2_with fail
    refine haw.out.mono ?_
    rintro e w5 ⟨rfl, he5⟩
    go_wp2_with fail
    go_ret
    exact ⟨rfl, hE4.trans he5⟩
  have law := plan_law Hch.out hpf
  have hE4 := hE3.trans he4
  have hrl := law.len
  have hen := Lib.hid (ends_any _ r m rows 0 law.pl (by rw [law.all]; omega) (by omega) w4 (HV.out.ext he4) hrw)
  have Hrng := Lib.hid law.rng
  have Hrw := Lib.hid hrw
  have hne1 : ((rows.length : Int) != (m.laced.length : Int)) = false := by simp [hrl]
  have hrl3 : rows.length ≤ 3 := by omega
  have Hsh := Lib.hid law.short
  obtain ⟨PA, pc, rfl, g2, g3, g4⟩ := hrw
  have G4 := Lib.hid g4
  obtain ⟨k0, k1, k2⟩ := (HM.out.ext he4).c3
  clear hpl hE3 hpf law hrl g4
  unfold maxLen at g3
  go_wp2_with fail
  refine hen.out.mono ?_
  rintro e w5 ⟨er, rfl, hSl, he5⟩
  replace hSl : SlI w5 er (endsL m rows) := hSl
  obtain ⟨EA, ec, rfl, s1, s2, s3⟩ := hSl
  rw [endsL_len] at s1 ⊢
  have S3 := Lib.hid s3
  have hE5 := hE4.trans he5
  obtain ⟨es, hes⟩ : ∃ es, endsL m rows = es := ⟨_, rfl⟩
  have Hel : Hid (es.length = m.orders.length) := by unfold Hid; rw [← hes, endsL_len]
  rw [hes] at S3
  obtain ⟨k0', k1', k2'⟩ := (HM.out.ext (he4.trans he5)).c3
  have G5 : Hid (∀ W, Ext w5 W → ∀ i, i < rows.length → ∃ b o u, PA = some ⟨b, o, none⟩ ∧ W.cell? ⟨b, o + i, none⟩ = some u ∧ SlI W u (rows[i]?.getD [])) := fun W he i hi => by
    obtain ⟨b, o, u, e, q, hs⟩ := G4.out i hi
    exact ⟨b, o, u, e, (he5.trans he).cell q, hs.ext (he5.trans he)⟩
  have hs1 := hE5.size
  have hZ1 := Ext.alloc w5 (.cells #[.slice none 0 0, .slice none 0 0] 56)
  have hZ2 := Ext.alloc (w5.alloc (.cells #[.slice none 0 0, .slice none 0 0] 56)) (.cells #[.int .u8 (na : Int), .int .u8 (nb : Int), .int .u8 (nc : Int)] 5)
  have hB1 := (Blk.new w5 56 #[.slice none 0 0, .slice none 0 0]).ext hZ2
  have hB2 := Blk.new (w5.alloc (.cells #[.slice none 0 0, .slice none 0 0] 56)) 5 #[.int .u8 (na : Int), .int .u8 (nb : Int), .int .u8 (nc : Int)]
  rw [World.size_alloc] at hB2
  have hP0 : Hid (WovP w5 w5.heap.size [] [] (.slice none 0 0) (.slice none 0 0) _) := ⟨hZ1.trans hZ2, hB1, OwnShs.nil, OwnWvs.nil, Nat.le_refl _⟩
  clear hen he4 he5 hE4 k0 k1 k2 s3 hes G4 Hrw hZ1 hZ2 hB1
  go_wp2_with fail
  go_loopw [77] (fun iv wr => ∃ j : Nat, ∃ ss v1, j ≤ 3 ∧ iv = .int .i64 (j : Int) ∧ ss.length = j ∧ Hid (ss = (wovS ((na : Int) % 61) ((nb : Int) % 61) ((nc : Int) % 61)).take j) ∧ Hid (WovP w5 w5.heap.size ss [] v1 (.slice none 0 0) wr) ∧ Hid (Blk wr (w5.heap.size + 1) 5 #[.int .u8 (na : Int), .int .u8 (nb : Int), .int .u8 (nc : Int)])) (fun iv _ => 3 - (intOf iv).toNat)
  case atStart => exact ⟨0, [], _, by omega, rfl, rfl, Lib.hid rfl, hP0, Lib.hid hB2⟩
  case round =>
    clear hP0 hB2
    obtain ⟨j, ss, v1, hj, rfl, hss, hsw, hP, hB⟩ := hrel
    subst hss
    obtain ⟨A5, c5, rfl⟩ := ownsRow_slice hP.out.o1
    by_cases hlt : ss.length < 3
    · -- <<A
      obtain ⟨x, hx, hx256, hnx⟩ := wov_cell hB.out hlt (by omega) (by omega) (by omega)
      obtain ⟨p0, p1⟩ := hP.out.bm.c2
      have hXs := Ext.alloc wr (.cells #[.int .i64 ((ss.length : Int) - 1), .int .i64 ((x : Int) % 61)] 84)
      have hS3 := hP.out.next hXs
      have hsrc := Src.listP wr [.int .i64 ((ss.length : Int) - 1), .int .i64 ((x : Int) % 61)] 84
      have Hnx := Lib.hid hnx
      have HBX := Lib.hid (hB.out.ext hXs)
      have HpO := Lib.hid (fun v' w' => WovP.pushS (W' := w') (v1' := v') (x := ⟨(ss.length : Int) - 1, (x : Int) % 61⟩) hS3)
      have o1x := hS3.o1
      have hszM := hS3.bm.lt
      have Ho1 := Lib.hid o1x
      clear hnx hB hS3 hP
      go_wp2_with (at_builtin; refine wpList_app rfl _ _ 53 rfl (w5.heap.size + 1) 84 ti2 (.agg #[.int .i64 0, .int .i64 0]) 2 16 Tryz.underlying53 hi2 hy0 hy1 hy2 rfl (by decide) (.slice A5 ss.length c5) ss.length _ rfl o1x (some ⟨wr.heap.size, 0, none⟩) 1 1 [.int .i64 ((ss.length : Int) - 1), .int .i64 ((x : Int) % 61)] rfl rfl hsrc ?c2 ?c3 ?c4 ?c5 ?_; (case c2 => (intro u hu; simp only [List.mem_cons, List.not_mem_nil, or_false] at hu; rcases hu with rfl | rfl <;> rfl)); (case c3 => (unfold maxLen; omega)); (case c4 => omega); (case c5 => omega); intro v' w12 hown hg hblk; obtain ⟨q0, q1, hS12⟩ := HpO.out v' w12 hown hg; obtain ⟨A9, c9, rfl⟩ := ownsRow_slice hown; have HS12 := Lib.hid hS12; have HB12 := Lib.hid ((HBX.out.grown hg (ownsRow_ne_blk Ho1.out HBX.out (by decide))).far (p := ⟨w5.heap.size, 0, none⟩) (by show w5.heap.size + 1 ≠ w5.heap.size; omega) (.slice A9 (ss.length + 1) c9)); clear hS12 hsrc o1x hown)
      go_roundw
      case rel => exact ⟨ss.length + 1, ss ++ [⟨(ss.length : Int) - 1, (x : Int) % 61⟩], _, by omega, by go_num, by simp, by unfold Hid; rw [Hnx.out, ← hsw.out], HS12, HB12⟩
      case measure => simp [intOf]; omega
      -- >>
    · have e3 : ss.length = 3 := by omega
      have hsw3 : Hid (ss = wovS ((na : Int) % 61) ((nb : Int) % 61) ((nc : Int) % 61)) := by
        have := hsw.out
        rw [e3] at this
        exact this
      have He3 := Lib.hid e3
      clear hsw hB e3 hj
      go_wp2_with fail
      clear hlt
      go_loopw [96] (fun iv wr => ∃ i : Nat, ∃ ws v2, i ≤ rows.length ∧ iv = .int .i64 (i : Int) ∧ ws.length = i ∧ Hid (WovW ws) ∧ Hid (WovP w5 w5.heap.size ss ws (.slice A5 ss.length c5) v2 wr)) (fun iv _ => rows.length - (intOf iv).toNat)
      case atStart => exact ⟨0, [], _, by omega, rfl, rfl, Lib.hid Pow.WovW.nil, hP⟩
      case round =>
        clear hP
        obtain ⟨i, ws, v2, hi', rfl, hws, hwx, hP⟩ := hrel
        subst hws
        by_cases hlt : ws.length < rows.length
        · -- <<B
          obtain ⟨ys, hys⟩ : ∃ ys, rows[ws.length]?.getD [] = ys := ⟨_, rfl⟩
          have Hyr : Hid (∀ x, x ∈ ys → 0 ≤ x ∧ x < m.orders.length) := by unfold Hid; rw [← hys]; exact Hrng.out ws.length hlt
          have hyl : ys.length ≤ 7 := by rw [← hys]; exact Hsh.out _ hlt
          have hgr := G5.out wr hP.out.ex ws.length hlt
          rw [hys] at hgr
          obtain ⟨rb, ro, u, e1, q1, hsl⟩ := hgr
          subst e1
          obtain ⟨LA, lc, rfl, z1, z2, z3⟩ := hsl
          have HL := Lib.hid z3
          obtain ⟨wo, rfl⟩ : ∃ z, z = wr := ⟨_, rfl⟩
          have hws3 : ws.length < 3 := by omega
          clear hys z3
          go_wp2_with fail
          go_loopw [19, 103] (fun lv iv wr => ∃ j : Nat, ∃ x : Int, j ≤ ys.length ∧ iv = .int .i64 (j : Int) ∧ lv = .int .i64 x ∧ 0 ≤ x ∧ wo = wr) (fun _ iv _ => ys.length - (intOf iv).toNat)
          case atStart => exact ⟨0, 0, by omega, rfl, rfl, by omega, by trivial⟩
          case round =>
            obtain ⟨j, x, hj, rfl, rfl, hx, rfl⟩ := hrel
            by_cases hltj : j < ys.length
            · obtain ⟨bb, oo, e1, cy⟩ := HL.out j hltj
              subst e1
              obtain ⟨ko, hko1, hko2⟩ : ∃ ko : Nat, ys[j]?.getD 0 = (ko : Int) ∧ ko < m.orders.length := by
                have h1 := Hyr.out (ys[j]?.getD 0) (by simp [hltj])
                exact ⟨(ys[j]?.getD 0).toNat, by omega, by omega⟩
              rw [hko1] at cy
              obtain ⟨eb, eo, e2, ce⟩ := (S3.out.ext hP.out.ex) ko (by rw [Hel.out]; exact hko2)
              subst e2
              obtain ⟨y, hy⟩ : ∃ y, es[ko]?.getD 0 = y := ⟨_, rfl⟩
              rw [hy] at ce
              have hd2 : decide ((m.orders.length : Int) ≤ (ko : Int)) = false := by simp; omega
              clear hko1 hy
              go_wp2_with fail
              go_roundw
              case rel => exact ⟨j + 1, max x y, by omega, by go_num, rfl, by omega, by trivial⟩
              case measure => simp [intOf]; omega
            · obtain rfl : j = ys.length := by omega
              obtain ⟨Hn, hHn⟩ : ∃ Hn : Nat, min x 24 = (Hn : Int) := ⟨(min x 24).toNat, by omega⟩
              have hH24 : Hn ≤ 24 := by omega
              have hm3 : (ws.length : Int) % 3 = (ws.length : Int) := by omega
              have hX8 := Ext.alloc wo (.cells #[.int .i64 (ws.length : Int), .slice none 0 0] 86)
              have hO8 := Blk.new wo 86 #[.int .i64 (ws.length : Int), .slice none 0 0]
              go_wp2_with fail
              have hH := HL
              clear hm3 HL hHn
              obtain ⟨O, hOe⟩ : ∃ O, wo.heap.size = O := ⟨_, rfl⟩
              rw [hOe] at hO8 ⊢
              generalize wo.alloc _ = W9 at *
              have HOe := Lib.hid hOe; clear hOe
              go_loopw [127] (fun iv wr => ∃ n : Nat, ∃ on v3, n ≤ Hn ∧ iv = .int .i64 (n : Int) ∧ on.length = n ∧ Hid (on = (List.range n).map fun i : Nat => (i : Int)) ∧ Hid (Ext wo wr) ∧ Hid (Blk wr O 86 #[.int .i64 (ws.length : Int), v3]) ∧ Hid (OwnI wr (O + 1) 3 v3 on)) (fun iv _ => Hn - (intOf iv).toNat)
              case atStart => exact ⟨0, [], _, by omega, rfl, rfl, Lib.hid rfl, Lib.hid hX8, Lib.hid hO8, Lib.hid (OwnI.nil _ _ _)⟩
              case round =>
                clear hX8 hO8
                obtain ⟨n, on, v3, hn, rfl, honl, hone, hE, hO, hon⟩ := hrel
                subst honl
                have hszO := hO.out.lt
                obtain ⟨A3, c3, rfl, r1, r2, r3, r4, r5⟩ := hon.out.open_
                obtain ⟨p0, p1⟩ := hO.out.c2
                by_cases hltj : on.length < Hn
                · have hX := Ext.alloc wr (.cells #[.int .i64 (on.length : Int)] 3)
                  have hsrc := Src.one wr (.int .i64 (on.length : Int)) 3
                  have honX := hon.out.ext hX
                  have hOX := hO.out.ext hX
                  have hszX := hOX.lt
                  have HonX := Lib.hid honX
                  clear r3 r4 r5
                  have Hon12 : Hid (∀ v' w11, w11.ownsRow (O + 1) 3 1 v' (on.length + 1) (on.map (Value.int .i64) ++ [.int .i64 (on.length : Int)]) → (wr.alloc (.cells #[.int .i64 (on.length : Int)] 3)).grownBy w11 (Value.slice A3 on.length c3).ownBlock →
                      Blk w11 O 86 #[.int .i64 (ws.length : Int), .slice A3 on.length c3] ∧ Ext wo (w11.setCell ⟨O, 1, none⟩ v') ∧ Blk (w11.setCell ⟨O, 1, none⟩ v') O 86 #[.int .i64 (ws.length : Int), v'] ∧ OwnI (w11.setCell ⟨O, 1, none⟩ v') (O + 1) 3 v' (on ++ [(on.length : Int)])) := by
                    intro v' w11 hown hg
                    have hge := fun g hg' => (HonX.out.own_lt g hg').1
                    have hOe := HOe.out
                    have hO11 := hOX.grown hg (ownsRow_ne_blk honX hOX (by decide))
                    have hon11 : OwnI w11 (O + 1) 3 v' (on ++ [(on.length : Int)]) := by unfold OwnI; rw [List.length_append, List.map_append]; exact hown
                    exact ⟨hO11, Below.setCell (ext_grown0 (hE.out.trans hX) hg (fun g hg' => by have := hge g hg'; omega)) (p := ⟨O, 1, none⟩) (by show _ ≤ O; omega) v', by simpa using hO11.set_ 1 v', hon11.far hO11 (by decide) 1 v'⟩
                  clear hO hon hE hOX
                  go_wp2_with (at_builtin; refine wpList_app rfl _ _ 22 rfl (O + 1) 3 ti (.int .i64 0) 1 8 Tryz.underlying22 hi hz0 hz1 hz2 rfl (by decide) (.slice A3 on.length c3) on.length _ rfl honX (some ⟨wr.heap.size, 0, none⟩) 1 1 [.int .i64 (on.length : Int)] rfl rfl hsrc ?c2 ?c3 ?c4 ?c5 ?_; (case c2 => (intro u hu; rw [List.mem_singleton] at hu; subst hu; rfl)); (case c3 => (unfold maxLen; omega)); (case c4 => omega); (case c5 => omega); intro v' w11 hown hg hblk; obtain ⟨hO11, hrest⟩ := Hon12.out v' w11 hown hg; obtain ⟨A9, c9, rfl⟩ := ownsRow_slice hown; have Hrest := Lib.hid hrest; clear hrest hsrc honX; obtain ⟨z0, z1⟩ := hO11.c2; have zf := hO11.frozen 1)
                  go_roundw
                  case rel =>
                    refine ⟨on.length + 1, on ++ [(on.length : Int)], _, by omega, by go_num, by simp, ?_, Lib.hid Hrest.out.1, Lib.hid Hrest.out.2.1, Lib.hid Hrest.out.2.2⟩
                    unfold Hid
                    rw [List.range_succ, List.map_append, ← hone.out]; rfl
                  case measure => simp [intOf]; omega
                · have hone' : Hid (on = (List.range Hn).map fun i : Nat => (i : Int)) := by
                    have := hone.out
                    rwa [show on.length = Hn by omega] at this
                  have hS9 := hP.out.next hE.out
                  obtain ⟨cs, o1, o2⟩ := hS9.o2
                  obtain ⟨A2', c2', rfl⟩ := ownsRow_slice o1
                  obtain ⟨k0, k1⟩ := hS9.bm.c2
                  have hX9 := Ext.alloc wr (.cells #[.int .i64 (ws.length : Int), .slice A3 on.length c3] 86)
                  have hsrc := Src.listP wr [.int .i64 (ws.length : Int), .slice A3 on.length c3] 86
                  have hPM := hP.out.bm.lt
                  have HpO := Lib.hid (fun v2' w' => WovP.pushW (W' := w') (v2' := v2') (x := ⟨(ws.length : Int), on⟩) (hS9.next hX9) (ownsRow_ext2 o1 hX9) (o2.map fun _ _ g => OwnI.ext g hX9) ((hon.out.ext hX9).mono (by have := HOe.out; omega)))
                  have o1x := ownsRow_ext2 o1 hX9
                  have hszM := (hS9.next hX9).bm.lt
                  clear r3 r4 r5 o2 o1 hone hE hO hon hS9
                  go_wp2_with (at_builtin; refine wpList_app rfl _ _ 54 rfl (w5.heap.size + 1) 86 ti3 (.agg #[.int .i64 0, .slice none 0 0]) 2 32 Tryz.underlying54 hi3 hx0 hx1 hx2 rfl (by decide) (.slice A2' ws.length c2') ws.length cs rfl o1x (some ⟨wr.heap.size, 0, none⟩) 1 1 [.int .i64 (ws.length : Int), .slice A3 on.length c3] rfl rfl hsrc ?c2 ?c3 ?c4 ?c5 ?_; (case c2 => (intro u hu; simp only [List.mem_cons, List.not_mem_nil, or_false] at hu; rcases hu with rfl | rfl <;> rfl)); (case c3 => (unfold maxLen; omega)); (case c4 => omega); (case c5 => omega); intro v' w12 hown hg hblk; obtain ⟨q0, q1, hS12⟩ := HpO.out v' w12 hown hg; obtain ⟨A9, c9, rfl⟩ := ownsRow_slice hown; have HS12 := Lib.hid hS12; clear hS12 hsrc o1x hown)
                  go_roundw
                  case rel =>
                    refine ⟨ws.length + 1, ws ++ [⟨(ws.length : Int), on⟩], _, by omega, by go_num, by simp, ?_, HS12⟩
                    unfold Hid
                    rw [hone'.out]
                    exact hwx.out.push hH24
                  case measure => simp [intOf]; omega
          -- >>
        · -- <<C
          have hwl : ws.length ≤ 3 := by omega
          have Hpo : Hid (POk ⟨ss, ws⟩) := by
            unfold Hid
            rw [hsw3.out]
            exact (Pow.woven_ok (by omega) (by omega) (by omega) hwl hwx.out).1
          have Hsum : Hid (((List.range ws.length).map (Pow.shareP ⟨ss, ws⟩)).sum = 60 * wovT ss ws ss.length) := by
            unfold Hid
            rw [He3.out, hsw3.out, Pow.wovT_all]
            exact Pow.woven_sum (by omega) (by omega) (by omega) hwl hwx.out
          have HPV := Lib.hid hP.out.val
          obtain ⟨cs0, o1', -⟩ := hP.out.o2
          obtain ⟨A6, c6, rfl⟩ := ownsRow_slice o1'
          obtain ⟨A7, c7, e7, -, -, hsh⟩ := hP.out.o1.at_
          injection e7 with e71 _ e72
          subst e71; subst e72
          obtain ⟨A8, c8, e8, -, -, hwv⟩ := hP.out.o2.at_
          injection e8 with e81 _ e82
          subst e81; subst e82
          have HSh := Lib.hid hsh
          have HWv := Lib.hid hwv
          obtain ⟨wo, rfl⟩ : ∃ z, z = wr := ⟨_, rfl⟩
          have HBm := Lib.hid hP.out.bm
          have HEx := Lib.hid (hE5.trans hP.out.ex)
          obtain ⟨p0, p1⟩ := hP.out.bm.c2
          have hss3 : ss.length ≤ 3 := by have := He3.out; omega
          clear hsh hwv o1' hP
          go_wp2_with fail
          clear hlt
          go_loopw [16, 147] (fun s iv wr => ∃ k : Nat, k ≤ ss.length ∧ iv = .int .i64 (k : Int) ∧ s = .int .i64 (wovT ss ws k) ∧ Hid (0 ≤ wovT ss ws k ∧ wovT ss ws k ≤ k * 1440) ∧ Hid (Ext wo wr)) (fun _ iv _ => ss.length - (intOf iv).toNat)
          case atStart => exact ⟨0, by omega, rfl, rfl, Lib.hid (by simp [wovT]), Lib.hid (Ext.refl _)⟩
          case round =>
            clear p0 p1
            obtain ⟨k, hk, rfl, rfl, hb, he⟩ := hrel
            obtain ⟨p0, p1⟩ := (HBm.out.ext he.out).c2
            by_cases hltk : k < ss.length
            · -- <<D
              obtain ⟨sb, so, e1, c1', c2'⟩ := (HSh.out.ext he.out) k hltk
              subst e1
              have hpr : 0 ≤ (ss[k]?.getD default).price ∧ (ss[k]?.getD default).price ≤ 60 := Hpo.out.price k hltk
              have hst := Pow.wov_step hwx.out k hpr
              have hsc := Pow.wovT_succ ss ws k
              obtain ⟨up, hup⟩ : ∃ up, (ss[k]?.getD default).up = up := ⟨_, rfl⟩
              obtain ⟨pr, hpe⟩ : ∃ pr, (ss[k]?.getD default).price = pr := ⟨_, rfl⟩
              rw [hup] at c1'
              rw [hpe] at c2' hst hsc
              have Hsc := Lib.hid hsc
              have Hst := Lib.hid hst
              obtain ⟨wz, rfl⟩ : ∃ z, z = wr := ⟨_, rfl⟩
              have hX := Ext.alloc wz (.cells #[.int .i64 up, .int .i64 pr] 84)
              have hBs := Blk.new wz 84 #[.int .i64 up, .int .i64 pr]
              have p1x := hX.cell p1
              clear hpr hst hsc hup hpe
              go_wp2_with fail
              clear p1x
              have HeX := Lib.hid (he.out.trans hX)
              obtain ⟨Q, hQ⟩ : ∃ Q, wz.heap.size = Q := ⟨_, rfl⟩
              rw [hQ] at hBs ⊢
              have HBs := Lib.hid hBs
              clear hQ hBs p0 p1 c1' c2' hX
              generalize wz.alloc _ = W10 at *
              go_loopw [26, 155] (fun s iv wr => ∃ j : Nat, j ≤ ws.length ∧ iv = .int .i64 (j : Int) ∧ s = .int .i64 (mostT ws k j : Int) ∧ Hid (Ext W10 wr)) (fun _ iv _ => ws.length - (intOf iv).toNat)
              case atStart => exact ⟨0, by omega, rfl, rfl, Lib.hid (Ext.refl _)⟩
              case round =>
                obtain ⟨j, hj, rfl, rfl, he2⟩ := hrel
                have hm0 := Pow.mostT_le hwx.out k j
                by_cases hltj : j < ws.length
                · obtain ⟨wb, w0', e1, A9, c9, ⟨h91, h92⟩, c3', c4', -⟩ := (HWv.out.ext (HeX.out.trans he2.out)) j hltj
                  subst e1
                  have hsn := Pow.mostT_succ (s := k) hltj
                  obtain ⟨hsf, nh, hnh, hhe⟩ := hwx.out j hltj
                  rw [hsf] at c3' hsn
                  have hln : (ws[j]?.getD default).hours.length = nh := by rw [hhe, List.length_map, List.length_range]
                  rw [hln] at c4' hsn
                  have hX2 := Ext.alloc wr (.cells #[.int .i64 (j : Int), .slice A9 nh c9] 86)
                  obtain ⟨mo, hmo⟩ : ∃ mo, mostT ws k j = mo := ⟨_, rfl⟩
                  rw [hmo] at hsn hm0 ⊢
                  have Hsn := Lib.hid hsn
                  clear hsf hhe hln hmo hsn h91
                  by_cases hkj : k ≤ j
                  · have hd : decide ((k : Int) ≤ (j : Int)) = true := by simp; omega
                    go_wp2_with fail
                    go_roundw
                    case rel => exact ⟨j + 1, by omega, by go_num, by rw [Hsn.out, if_pos (by omega)]; show Value.int .i64 _ = _; congr 1; omega, Lib.hid (he2.out.trans hX2)⟩
                    case measure => simp [intOf]; omega
                  · have hd : decide ((k : Int) ≤ (j : Int)) = false := by simp; omega
                    go_wp2_with fail
                    go_roundw
                    case rel => exact ⟨j + 1, by omega, by go_num, by rw [Hsn.out, if_neg (by omega)], Lib.hid (he2.out.trans hX2)⟩
                    case measure => simp [intOf]; omega
                · obtain rfl : j = ws.length := by omega
                  obtain ⟨g0, g1⟩ := (HBs.out.ext he2.out).c2
                  obtain ⟨hst1, hst2⟩ := Hst.out
                  obtain ⟨hb1, hb2⟩ := hb.out
                  obtain ⟨mo, hmo⟩ : ∃ mo, mostT ws k ws.length = mo := ⟨_, rfl⟩
                  have hsc := Hsc.out
                  rw [hmo] at hst1 hst2 hm0 hsc ⊢
                  obtain ⟨wt, hwt⟩ : ∃ wt, wovT ss ws k = wt := ⟨_, rfl⟩
                  rw [hwt] at hb1 hb2 hsc ⊢
                  have Hsc2 := Lib.hid hsc
                  clear hmo hwt hsc
                  go_wp2_with fail
                  go_roundw
                  case rel => exact ⟨k + 1, by omega, by go_num, by rw [Hsc2.out], Lib.hid (by rw [Hsc2.out]; omega), Lib.hid (HeX.out.trans he2.out)⟩
                  case measure => simp [intOf]; omega
              -- >>
            · obtain rfl : k = ss.length := by omega
              have hsh2 := Lib.hid (shares_any _ ⟨ss, ws⟩ ((checkP_iff _).2 Hpo.out) wr (HPV.out.ext he.out))
              obtain ⟨wt, hwt⟩ : ∃ wt, wovT ss ws ss.length = wt := ⟨_, rfl⟩
              rw [hwt] at Hsum hb ⊢
              obtain ⟨hb1, hb2⟩ := hb.out
              clear hb hwt
              go_wp2_with fail
              refine hsh2.out.mono ?_
              rintro e w6 ⟨S2, rfl, hR, -, he6⟩
              obtain ⟨p0', p1'⟩ := (HBm.out.ext (he.out.trans he6)).c2
              have HR : Hid (Row w6 S2 ws.length (Pow.shareP ⟨ss, ws⟩)) := hR
              have hE7 := HEx.out.trans (he.out.trans he6)
              clear hsh2 p0 p1 hR
              go_wp2_with fail
              go_loopw [30, 193] (fun s iv wr => ∃ j : Nat, j ≤ ws.length ∧ iv = .int .i64 (j : Int) ∧ s = .int .i64 ((List.range j).map (Pow.shareP ⟨ss, ws⟩)).sum ∧ w6 = wr) (fun _ iv _ => ws.length - (intOf iv).toNat)
              case atStart => exact ⟨0, by omega, rfl, rfl, by trivial⟩
              case round =>
                obtain ⟨j, hj, rfl, rfl, rfl⟩ := hrel
                have hsb := Pow.share_sums Hpo.out j hj
                by_cases hltj : j < ws.length
                · have hc := HR.out.cell hltj
                  have hsn := Pow.share_sum_succ ⟨ss, ws⟩ j
                  have hsb2 := Pow.share_sums Hpo.out (j + 1) hltj
                  rw [hsn] at hsb2
                  obtain ⟨x, hx⟩ : ∃ x, Pow.shareP ⟨ss, ws⟩ j = x := ⟨_, rfl⟩
                  obtain ⟨y, hy⟩ : ∃ y, ((List.range j).map (Pow.shareP ⟨ss, ws⟩)).sum = y := ⟨_, rfl⟩
                  rw [hx] at hc hsn hsb2
                  rw [hy] at hsn hsb hsb2 ⊢
                  have Hsn := Lib.hid hsn
                  clear hx hy hsn
                  go_wp2_with fail
                  go_roundw
                  case rel => exact ⟨j + 1, by omega, by go_num, by rw [Hsn.out], by trivial⟩
                  case measure => simp [intOf]; omega
                · obtain rfl : j = ws.length := by omega
                  rw [Hsum.out]
                  have hcc : ((60 * wt) == (60 * wt)) = true := by simp
                  have haw := Lib.hid (awake7_any w6)
                  clear hsb
                  go_wp2_with fail
                  refine haw.out.mono ?_
                  rintro e w8 ⟨rfl, he8⟩
                  go_wp2_with fail
                  go_ret
                  exact ⟨rfl, hE7.trans he8⟩
          -- >>
end Go.Proofs.Pet

namespace Go.Proofs.Pet
open Go Go.ChangeShapes Go.WideShapes Go.ChangeAt Go.RowKit

theorem wf_u8 {n : Int} (h : (Lit.int .u8 n).wf = true) : 0 ≤ n ∧ n < 256 := by
  simp only [Lit.wf, Bool.and_eq_true, decide_eq_true_eq] at h
  have h1 : IntKind.u8.min = 0 := by decide
  have h2 : IntKind.u8.max = 255 := by decide
  omega
set_option maxRecDepth 100000 in
theorem bytes_reads {H : Type} {enc : TypeId × Value → H} {w : World} {base : Nat} {spare : Nat → Bool} {held : Bool} {r : Reach} {b0 : Nat} {v : Value} {d : DataW H} {p : List MemPlace} (hv : Value.okWide Tryz.prog w r b0 95 v) (h : DataW.Trod enc Tryz.prog w base spare held 95 v d p) : BytesIn w v := by
  obtain ⟨n, hn⟩ := h
  obtain ⟨a, l, c, rfl⟩ := okWide_slice Tryz.underlying95 hv
  rcases open_ints Tryz.underlying95 Tryz.underlying5 (by kernel_rfl) hn with ⟨h1, _⟩ | ⟨a', len, cap, zs, h1, _, h2, h3, h4, _, h5, _⟩
  · injection h1 with h1 _
    exact ⟨none, 0, 0, h1, Nat.le_refl _, Nat.zero_le _, fun k hk => by omega⟩
  · injection h1 with h1 _
    refine ⟨some a', len, cap, h1, h2, h3, fun k hk => ?_⟩
    have hz : len ≤ zs.length := by rw [h4]; split <;> omega
    have hcell := h5 k (by omega)
    have hs := spot_none (h5 0 (by omega))
    obtain ⟨b, o, s⟩ := a'
    have hs' : s = none := hs
    subst hs'
    rw [addr_add] at hcell
    exact ⟨b, o, _, rfl, hcell⟩
end Go.Proofs.Pet
