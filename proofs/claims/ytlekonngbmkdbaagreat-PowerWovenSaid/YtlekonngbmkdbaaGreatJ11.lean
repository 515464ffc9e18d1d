/- Joined texts: PB3, PB4, PA3, PB5, PB6. -/
import Derived.Test.YtlekonngbmkdbaaGreatJ10
import Derived.Test.YtlekonngbmkdbaaGreatJ09
import Derived.WideKeyPair
import Derived.Maps.OwnSet
namespace Go.Proofs.Pet
set_option linter.unusedSimpArgs false
open Go Go.RowKit Go.Maps Go.Shelf
open Go.Proofs.Pow (PM Sh Wv POk)
attribute [local go_sem] Oper.semAt_some

/-- what has been marked: the weavers before i, and those shafts of i's line that have come -/
def drvU (m : PM) (i : Nat) (l : List Int) (s k : Nat) : Bool := (decide (k < i) && m.drv s k) || (decide (k = i) && l.contains (s : Int))
theorem drvU_nil (m : PM) (s k : Nat) : drvU m 0 [] s k = false := by simp [drvU]
theorem drvU_next (m : PM) (i : Nat) (s k : Nat) : drvU m i (m.line (m.wv i).shaft) s k = drvU m (i + 1) [] s k := by
  unfold drvU PM.drv
  by_cases h : k = i
  · subst h; simp
  · have h1 : decide (k < i + 1) = decide (k < i) := by
      rw [decide_eq_decide]; omega
    simp [h, h1]
theorem drvU_snoc (m : PM) (i : Nat) (l : List Int) (c s k : Nat) : (if s = c ∧ k = i then true else drvU m i l s k) = drvU m i (l ++ [(c : Int)]) s k := by
  unfold drvU
  by_cases h : k = i
  · subst h
    by_cases h2 : s = c
    · subst h2; simp
    · have : ¬ ((s : Int) = (c : Int)) := by omega
      simp [h2, List.contains_eq_mem]
      intro h; omega
  · simp [h]
theorem drvU_all (m : PM) (s k : Nat) : drvU m m.wvs.length [] s k = drvC m s k := by
  unfold drvU drvC; simp

theorem Marks.above {W : World} {lo hi : Nat} {ds : List Deferred} {p : Addr} (h : Marks W lo hi ds) (hp : hi ≤ p.block) (v : Value) : Marks (W.setCell p v) lo hi ds := by
  obtain ⟨l, h1, h2, h3⟩ := h
  refine ⟨l, h1, h2, fun D hD => ⟨(h3 D hD).1, (h3 D hD).2.1, ?_⟩⟩
  exact (Below.heap_setCell W p v D fun e => by have := (h3 D hD).2.1; omega).trans (h3 D hD).2.2

set_option maxRecDepth 20000 in
theorem openedErrP (v : Value) (m : PM) (r : Int) (hr : checkP m = r) (h0 : r ≠ 0) (w : World) (hv : PMVal w v m) :
    Calls Tryz.prog 111 #[v] w fun e w' => e = .returned (.tuple #[.pointer none, .int .i64 r]) ∧ Ext w w' := by
  have Hv := Lib.hid hv
  obtain ⟨A1, c1, A2, c2, rfl, h2, h3, h4, h5, h6, h7⟩ := hv
  have hE := Ext.alloc w (.cells #[.slice A1 m.shafts.length c1, .slice A2 m.wvs.length c2] 56)
  have hM := Blk.new w 56 #[.slice A1 m.shafts.length c1, .slice A2 m.wvs.length c2]
  have f0 := hM.frozen 0
  obtain ⟨k0, k1⟩ := hM.c2
  have hck := pcheck_any _ m _ (Hv.out.ext hE)
  rw [hr] at hck
  have Hck := Lib.hid hck
  have hd : (r != 0) = true := by simpa using h0
  clear hck h6 h7 hM
  go_enter Tryz.func111, Tryz.ntmps111
  go_wp2_with fail
  refine Hck.out.mono ?_
  rintro e w' ⟨rfl, he⟩
  go_wp2_with fail
  go_ret2
  exact ⟨rfl, hE.trans he⟩


set_option maxRecDepth 20000 in
set_option maxHeartbeats 2000000 in
theorem opened_anyP (v : Value) (m : PM) (hr : checkP m = 0) (w : World) (hv : PMVal w v m) :
    Calls Tryz.prog 111 #[v] w fun e w' => ∃ D, e = .returned (.tuple #[.pointer (some ⟨D, 0, none⟩), .int .i64 0]) ∧ DeskAt w' D m ∧ w.heap.size ≤ D ∧ Ext w w' := by
  have hok := (checkP_iff m).1 hr
  have hok' := Lib.hid hok
  obtain ⟨⟨l1, l2⟩, l3, -, -, hup, hat, -⟩ := hok
  have Hv := Lib.hid hv
  obtain ⟨A1, c1, A2, c2, rfl, h2, h3, h4, h5, h6, h7⟩ := hv
  have hE := Ext.alloc w (.cells #[.slice A1 m.shafts.length c1, .slice A2 m.wvs.length c2] 56)
  have hM := Blk.new w 56 #[.slice A1 m.shafts.length c1, .slice A2 m.wvs.length c2]
  have f0 := hM.frozen 0
  obtain ⟨k0, k1⟩ := hM.c2
  have hck := pcheck_any _ m _ (Hv.out.ext hE)
  rw [hr] at hck
  have Hck := Lib.hid hck
  have HM := Lib.hid hM
  have H6 := Lib.hid h6; have H7 := Lib.hid h7; have Hup := Lib.hid hup; have Hat := Lib.hid hat
  clear hck h6 h7 hM hup hat
  refine (callsIn_wide (n := 5)).1 ?_
  refine callsIn_of_wp_marks Tryz.func111 rfl trivial ?_ rfl
  simp only [Tryz.ntmps111, List.size_toArray, List.length_nil, Nat.reduceSub, Array.replicate_succ, Array.replicate_zero, List.push_toArray, List.append_toArray, List.nil_append, List.cons_append, List.length_cons, Nat.reduceAdd]
  refine wpIn_wide.2 ?_
  go_wp2_with fail
  refine Hck.out.mono ?_
  rintro e w1 ⟨rfl, he1⟩
  have hM1 := HM.out.ext he1
  have hE1 := hE.trans he1
  have hMlt : w.heap.size < w1.heap.size := hM1.lt
  have f1 := hM1.frozen 0
  clear k0 k1 f0 hE he1 HM Hck
  obtain ⟨k0, k1⟩ := hM1.c2
  go_wp2_with fail
  have hlit : (#[.slice A1 m.shafts.length c1, .slice A2 m.wvs.length c2, .bool false, .bool false, .bool false, .bool false, .bool false, .bool false, .bool false, .bool false, .bool false, .bool false, .bool false, .bool false, .bool false, .bool false, .bool false, .bool false, .bool false, .bool false, .bool false, .bool false, .bool false, .bool false, .bool false, .bool false, .bool false, .bool false, .bool false, .bool false, .bool false, .bool false, .bool false, .bool false, .bool false, .bool false, .bool false, .bool false, .bool false, .bool false, .bool false, .bool false, .bool false, .bool false, .bool false, .bool false, .bool false, .bool false, .bool false, .bool false, .bool false, .bool false, .bool false, .bool false, .bool false, .bool false] : Array Value) = deskC (.slice A1 m.shafts.length c1) (.slice A2 m.wvs.length c2) (drvU m 0 []) := by
    rw [deskC_congr (g := fun _ _ => false) fun s k _ _ => drvU_nil m s k]
    rfl
  rw [hlit]
  have hD := (Blk.new w1 191 (deskC (.slice A1 m.shafts.length c1) (.slice A2 m.wvs.length c2) (drvU m 0 []))).alloc (.cells #[.pointer (some ⟨w1.heap.size, 0, none⟩)] 175)
  have hP := Blk.new (w1.alloc (.cells (deskC (.slice A1 m.shafts.length c1) (.slice A2 m.wvs.length c2) (drvU m 0 [])) 191)) 175 #[.pointer (some ⟨w1.heap.size, 0, none⟩)]
  have hE2 : Ext w1 ((w1.alloc (.cells (deskC (.slice A1 m.shafts.length c1) (.slice A2 m.wvs.length c2) (drvU m 0 [])) 191)).alloc (.cells #[.pointer (some ⟨w1.heap.size, 0, none⟩)] 175)) := (Ext.alloc _ _).trans (Ext.alloc _ _)
  rw [World.size_alloc] at hP
  clear hlit k0 k1 f1
  generalize (w1.alloc _).alloc _ = W2 at *
  generalize hDe : w1.heap.size = D at *
  have hlen2 : m.wvs.length ≤ maxLen := Nat.le_trans h4 h5
  have hlen1 : m.shafts.length ≤ maxLen := Nat.le_trans h2 h3
  unfold maxLen at hlen2
  refine wp_loop_ghost_u (fun u gn a W => ∃ (i : Nat) (ds : List Deferred), a = ⟨#[.agg #[.slice A1 m.shafts.length c1, .slice A2 m.wvs.length c2], .pointer (some ⟨w.heap.size, 0, none⟩), .pointer none, .int .i64 0, .int .i64 0, .pointer (some ⟨D + 1, 0, none⟩), u 6, u 7, u 8, u 9, u 10, u 11, u 12, u 13, u 14, u 15, u 16, u 17, .slice A2 m.wvs.length c2, .int .i64 (m.wvs.length : Int), u 20, u 21, u 22, u 23, u 24, u 25, u 26, u 27, u 28, u 29, u 30, u 31, u 32, u 33, u 34, u 35, u 36, u 37, u 38], ds⟩ ∧ gn = m.wvs.length - i ∧ u 20 = .int .i64 (i : Int) ∧ i ≤ m.wvs.length ∧ Ext w1 W ∧ Blk W D 191 (deskC (.slice A1 m.shafts.length c1) (.slice A2 m.wvs.length c2) (drvU m i [])) ∧ Blk W (D + 1) 175 #[.pointer (some ⟨D, 0, none⟩)] ∧ Marks W w.heap.size W.heap.size ds) (m.wvs.length) ⟨0, [], rfl, by omega, rfl, by omega, hE2, hD, hP, Marks.nil _ _ _⟩ ?_
  rintro uA gn a W ⟨i, ds, rfl, rfl, hu20, hi, he2, hD2, hP2, hm2⟩ JA KA hJA hKA
  rw [hu20]
  clear hE2 hD hP
  have hM2 := hM1.ext he2
  obtain ⟨k0, k1⟩ := hM2.c2
  have f0 := hM2.frozen 0
  have hszW := he2.size
  by_cases hlt : i < m.wvs.length
  · obtain ⟨b, o, rfl, A3, c3, h3', s1, s2, s3⟩ := H7.out.ext (hE1.trans he2) i hlt
    have hwv : m.wvs[i]?.getD default = m.wv i := rfl
    rw [hwv] at s1 s2 s3 h3'
    have hat := Hat.out i hlt
    obtain ⟨sf, hsf⟩ : ∃ sf, (m.wv i).shaft = sf := ⟨_, rfl⟩
    rw [hsf] at s1 hat
    obtain ⟨hl, hhl⟩ : ∃ hl, (m.wv i).hours.length = hl := ⟨_, rfl⟩
    rw [hhl] at s2
    have hX : Ext W ((W.alloc (.cells #[.int .i64 (i : Int)] 3)).alloc (.cells #[.int .i64 sf, .slice A3 hl c3] 86)) := (Ext.alloc _ _).trans (Ext.alloc _ _)
    have hK := (Blk.new W 3 #[.int .i64 (i : Int)]).alloc (.cells #[.int .i64 sf, .slice A3 hl c3] 86)
    have hV := Blk.new (W.alloc (.cells #[.int .i64 (i : Int)] 3)) 86 #[.int .i64 sf, .slice A3 hl c3]
    rw [World.size_alloc] at hV
    obtain ⟨v0, v1⟩ := hV.c2
    have hline := Lib.hid (pline_any A1 (some ⟨b, o, none⟩) m.shafts.length c1 m.wvs.length c2 sf)
    have S3 := Lib.hid s3; have Hhl := Lib.hid hhl
    have k0' := hX.cell k0
    have k1' := hX.cell k1
    clear s3 hhl hwv h3' k0 k1
    go_wp2_with fail
    refine (hline.out _).mono ?_
    rintro e W5 ⟨hv5, he5, hL1, hL2, hsz5⟩
    simp only [World.size_alloc] at hv5 hL1 hL2 hsz5
    subst hv5
    have hXW := hX.trans he5
    have heW := he2.trans hXW
    have hD5 := hD2.ext hXW
    have hP5 := hP2.ext hXW
    have hK5 := hK.ext he5
    have hV5 := hV.ext he5
    have hm5 := hm2.ext hXW
    have hA5 := H6.out.ext (hE1.trans heW)
    have hDlt : D + 1 < W.heap.size := hP2.lt
    clear hX hXW hD2 hP2 hK hV hm2 hM2 k0' k1' f0 v0 v1 he5 hszW
    generalize W.heap.size = L at *
    have hL5 : L + 2 + 1 < W5.heap.size := hL2.lt
    have hlow : ∀ k, k < m.shafts.length → ∀ ad, A1 = some ad → ad.block < D := fun k hk ad e => by
      have := H6.out.low_lt k hk ad e
      omega
    go_wp2_with fail
    apply wp_line (n1 := D) (B := L + 2) Hup.out (by omega) hlen1 (s := sf) (by omega) hL1 hL2 hA5 hlow rfl rfl
      (fun pre W => W5.heap.size ≤ W.heap.size ∧ Ext w1 W ∧ Blk W D 191 (deskC (.slice A1 m.shafts.length c1) (.slice (some ⟨b, o, none⟩) m.wvs.length c2) (drvU m i (pre.map fun y : OnLine m sf => y.1))) ∧ Blk W (D + 1) 175 #[.pointer (some ⟨D, 0, none⟩)] ∧ Blk W L 3 #[.int .i64 (i : Int)] ∧ Marks W w.heap.size L ds)
      (fun pre W W' ⟨h0, h1, h2, h3, h4, h5⟩ hl => ⟨Nat.le_trans h0 hl.size, h1.loops hl heW.size, h2.loops hl, h3.loops hl, h4.loops hl, h5.loops hl (by omega)⟩)
      (fun pre W W' ⟨h0, h1, h2, h3, h4, h5⟩ ht => ?hturn) ⟨Nat.le_refl _, heW, hD5, hP5, hK5, hm5⟩
    case hturn =>
      obtain ⟨v, rfl⟩ := ht
      have hlt2 : L + 2 + 1 < W5.heap.size := hL2.lt
      have hsP : D + 1 < L := hDlt
      exact ⟨by rw [World.size_setCell]; exact h0, Below.setCell h1 (by show _ ≤ L + 2 + 1; omega) _, h2.far (by show D ≠ L + 2 + 1; omega) _, h3.far (by show D + 1 ≠ L + 2 + 1; omega) _, h4.far (by show L ≠ L + 2 + 1; omega) _, h5.above (by show L ≤ L + 2 + 1; omega) _⟩
    case hassign =>
      intro l x W K hK
      simp only [encO]
      gi_wp2
      exact hK
    case hbody =>
      rintro l pre x W ⟨i0, i1, i2, i3, i4, i5⟩ -
      obtain ⟨xv, hxm⟩ := x
      have hxl := line_lt hok'.out hlt (hsf ▸ hxm)
      obtain ⟨c, rfl⟩ : ∃ c : Nat, xv = c := ⟨xv.toNat, by omega⟩
      have hc9 : c < 9 := by omega
      have hi6 : i < 6 := by omega
      have p0 := i3.c1
      have q0 := i4.c1
      gi_wp2_with fail
      refine wpIn_region_chain 7 [] [] (by kernel_rfl) (by kernel_rfl) (by kernel_rfl) ?_
      simp only [List.take, List.drop, fill, Act.put, List.setIfInBounds_toArray, List.set_cons_zero, List.set_cons_succ, Nat.reduceAdd]
      repeat (first
        | refine FloatsIn.mut rfl ?_
        | (apply FloatsIn.float rfl
           · intro x W he hd K Q hK
             try (have he := he (by decide); have p0 := he.cell p0; have q0 := he.cell q0)
             try simp only [edges, DepsE, List.filter_cons, List.filter_nil, Region.binds, if_true, and_true, true_and, upd, Nat.reduceEqDiff, if_false] at hd
             try simp only [hd] at hK ⊢
             have HK := Lib.hid hK; clear hK
             gi_wp2_with fail
             exact HK.out))
      refine FloatsIn.done fun W he hG => ?_
      refine ChainIn.nil ?_
      simp only [upd, Nat.reduceEqDiff, if_false, if_true]
      have hDW := i2.ext he
      have hcell : W.cell? ⟨D, 2 + c * 6 + i, none⟩ = some (.bool (drvU m i (pre.map fun y : OnLine m sf => y.1) c i)) := by rw [hDW.cell, deskC_cell _ _ _ hc9 hi6]
      have hfr := hDW.frozen (2 + c * 6 + i)
      gi_wp2_with fail
      have hszX := he.size
      have hsP : D + 1 < L := hDlt
      have hnh : ∀ j, j ≠ D → (W.setCell ⟨D, 2 + c * 6 + i, none⟩ (.bool true)).heap[j]? = W.heap[j]? := fun j hj => Below.heap_setCell W _ _ j hj
      refine ⟨(keepsFrom_ext he).trans ((KeepsOthers.setCell _ _ _).from _), ⟨fun k hk => (hnh k (by omega)).trans (Below.block he k (by omega)), (hnh (L + 2) (by omega)).trans (Below.block he _ (by omega)), (hnh (L + 2 + 1) (by omega)).trans (Below.block he _ (by omega))⟩, ?_, ?_, ?_, ?_, ?_, ?_⟩
      · rw [World.size_setCell]; omega
      · exact Below.setCell (i1.trans he) (by show _ ≤ D; omega) _
      · have h9 := hDW.set_ (2 + c * 6 + i) (.bool true)
        rw [deskC_set _ _ _ hc9 hi6] at h9
        rw [List.map_append, List.map_singleton]
        rw [deskC_congr fun s k _ _ => drvU_snoc m i _ c s k] at h9
        exact h9
      · exact (i3.ext he).far (by show _ ≠ D; omega) _
      · exact (i4.ext he).far (by show _ ≠ D; omega) _
      · exact (i5.ext he).set_ (p := ⟨D, 2 + c * 6 + i, none⟩) hDW _
    case hdone =>
      intro Dd xs W hDd hxs ⟨i0, i1, i2, i3, i4, i5⟩ hdef
      rw [hxs, ← hsf, deskC_congr fun s k _ _ => drvU_next m i s k] at i2
      have hp := i5.push (by have := hE1.size; have := heW.size; omega) (by omega) hdef
      have hDlt := (Array.getElem?_eq_some_iff.1 hdef).1
      clear hdef i5 i4
      go_wp2_with fail
      refine Handed.intro (m.wvs.length - (i + 1)) (by omega) (hJA _ _ _ ⟨i + 1, _, rfl, rfl, by show Value.int .i64 _ = _; go_num, by omega, i1, i2, i3, hp.mono (by omega)⟩)
  · obtain rfl : i = m.wvs.length := by omega
    rw [deskC_congr fun s k _ _ => drvU_all m s k] at hD2
    have p0 := hP2.c1
    go_wp2_with fail
    refine leaves_marks' ds W hm2 (fun W' => results_tmp2 rfl _ _ _) (fun W' hq => ⟨D, rfl, ⟨A1, c1, A2, c2, hq.blk hD2, h2, h3, h4, h5, H6.out.ext (hq.ext (hE1.trans he2) (Nat.le_refl _)), H7.out.ext (hq.ext (hE1.trans he2) (Nat.le_refl _))⟩, by omega, hq.ext (hE1.trans he2) (Nat.le_refl _)⟩)
end Go.Proofs.Pet

namespace Go.Proofs.Pet
open Go Go.RowKit Go.Maps Go.Shelf
open Go.Proofs.Pow (PM Sh Wv POk)

theorem useI_take (m : PM) (g : List Int) (s h k : Nat) (hk : k < g.length) (kk : Nat) (e : g[k]?.getD 0 = (kk : Int)) : Pow.useI m (g.take (k + 1)) s h = Pow.useI m (g.take k) s h + if Pow.usesB m s h kk then 1 else 0 := by
  have : g.take (k + 1) = g.take k ++ [(kk : Int)] := by
    rw [List.take_add_one, List.getElem?_eq_getElem hk]
    rw [List.getElem?_eq_getElem hk] at e
    simp only [Option.getD_some] at e
    rw [e]; rfl
  rw [this, Pow.useI_snoc]

set_option maxRecDepth 20000 in
set_option maxHeartbeats 1000000 in
theorem use_any (D : Nat) (m : PM) (hm : POk m) (A : Option Addr) (c n : Nat) (g : List Int) (hn : g.length = n) (hg : Pow.InG m g) (s h : Nat) (hs : s < m.shafts.length) (r : Int) (hr : (Pow.useI m g s h : Int) = r) (w : World) (hD : DeskAt w D m) (hl : n ≤ maxLen) (hA : IntsAt w A g) :
    Calls Tryz.prog 117 #[.pointer (some ⟨D, 0, none⟩), .slice A n c, .int .i64 s, .int .i64 h] w fun e w' => e = .returned (.int .i64 r) ∧ w = w' := by
  subst hr
  subst hn
  have hs9 : s < 9 := by have := hm.sz; omega
  have hml := hm.few
  unfold maxLen at hl
  go_enter Tryz.func117, Tryz.ntmps117
  go_wp2
  go_loopw [9, 14] (fun u i wr => ∃ k : Nat, k ≤ g.length ∧ i = .int .i64 k ∧ (∃ n : Nat, n ≤ k ∧ u = .int .i64 (n : Int) ∧ Hid (Pow.useI m (g.take k) s h = n)) ∧ w = wr) (fun _ i _ => g.length - (intOf i).toNat)
  case atStart => exact ⟨0, Nat.zero_le _, rfl, ⟨0, Nat.le_refl _, rfl, rfl⟩, rfl⟩
  case round =>
    obtain ⟨k, hk, rfl, ⟨nn, hnk, rfl, hnn⟩, rfl⟩ := hrel
    by_cases hlt : k < g.length
    · obtain ⟨b, o, rfl, c1⟩ := hA k hlt
      have hgk := hg (g[k]?.getD 0) (by simp [hlt])
      obtain ⟨kk, hkk⟩ : ∃ kk : Nat, g[k]?.getD 0 = kk := ⟨_, (Int.toNat_of_nonneg hgk.1).symm⟩
      have Hst := Lib.hid (useI_take m g s h k hlt kk hkk)
      rw [hkk] at c1 hgk
      have hkl : kk < m.wvs.length := by omega
      have hk6 : kk < 6 := by omega
      have Hkk := Lib.hid hkk; clear hkk
      have d1 := hD.drv hs9 hk6
      obtain ⟨A1, c1', A2, c2', d2, d3, -, -, d4⟩ := hD.slices
      obtain ⟨b2, o2, rfl, A3, c3, h3, j1, j2, j3⟩ := d4 kk hkl
      have hwv : m.wvs[kk]?.getD default = m.wv kk := rfl
      rw [hwv] at h3 j1 j2 j3
      obtain ⟨q, hq⟩ : ∃ q, drvC m s kk = q := ⟨_, rfl⟩
      obtain ⟨q2, hq2⟩ : ∃ q2, (m.wv kk).hours.contains (h : Int) = q2 := ⟨_, rfl⟩
      have hqq : Hid (Pow.usesB m s h kk = (q && q2)) := by
        unfold Hid Pow.usesB
        rw [hq2, ← hq]
        simp [drvC, hkl]
      rw [hq] at d1
      have Ho := Lib.hid (contains_any (h : Int) A3 c3 _ (m.wv kk).hours rfl q2 hq2 w (Nat.le_trans h3.1 h3.2) j3)
      clear d2 d4 j1 j3 hq hq2
      generalize (m.wv kk).hours.length = hl at *
      cases q with
      | false =>
        go_wp2_with fail
        go_roundw
        case rel =>
          refine ⟨k + 1, by omega, by go_num, ⟨nn, by omega, rfl, ?_⟩, by trivial⟩
          unfold Hid
          rw [Hst.out, hnn.out, hqq.out]; simp
        case measure => simp [intOf]; omega
      | true =>
        go_wp2_with fail
        refine Ho.out.mono ?_
        rintro e w' ⟨rfl, rfl⟩
        cases q2 with
        | false =>
          go_wp2_with fail
          go_roundw
          case rel =>
            refine ⟨k + 1, by omega, by go_num, ⟨nn, by omega, rfl, ?_⟩, by trivial⟩
            unfold Hid
            rw [Hst.out, hnn.out, hqq.out]; simp
          case measure => simp [intOf]; omega
        | true =>
          go_wp2_with fail
          go_roundw
          case rel =>
            refine ⟨k + 1, by omega, by go_num, ⟨nn + 1, by omega, by go_num, ?_⟩, by trivial⟩
            unfold Hid
            rw [Hst.out, hnn.out, hqq.out]; simp
          case measure => simp [intOf]; omega
    · obtain rfl : k = g.length := by omega
      have hr := hnn.out
      rw [List.take_of_length_le (Nat.le_refl _)] at hr
      have Hr := Lib.hid hr; clear hr hnn
      go_wp2
      go_ret
      exact ⟨by rw [Hr.out]; rfl, rfl⟩

theorem allI_succ (k : Nat) : Pow.allI (k + 1) = Pow.allI k ++ [(k : Int)] := by
  unfold Pow.allI; rw [List.range_succ, List.map_append]; rfl
theorem allI_len (k : Nat) : (Pow.allI k).length = k := by simp [Pow.allI]
set_option maxRecDepth 20000 in
set_option maxHeartbeats 1000000 in
theorem allg_any (D : Nat) (m : PM) (hm : POk m) (w : World) (hD : DeskAt w D m) :
    Calls Tryz.prog 112 #[.pointer (some ⟨D, 0, none⟩)] w fun e w' => ∃ v, e = .returned v ∧ OwnI w' w.heap.size 3 v (Pow.allI m.wvs.length) ∧ Ext w w' := by
  obtain ⟨ti, hi, hz0, hz1, hz2⟩ := info_parts info_int
  have hml := hm.few
  obtain ⟨A1, c1', A2, c2', d2, d3, -, -, -⟩ := hD.slices
  go_enter Tryz.func112, Tryz.ntmps112
  go_wp2
  go_loopw [3, 11] (fun v i wr => ∃ k : Nat, k ≤ m.wvs.length ∧ i = .int .i64 k ∧ Hid (OwnI wr w.heap.size 3 v (Pow.allI k)) ∧ Ext w wr) (fun _ i _ => m.wvs.length - (intOf i).toNat)
  case atStart => exact ⟨0, Nat.zero_le _, rfl, Lib.hid (OwnI.nil _ _ _), Ext.refl _⟩
  case round =>
    obtain ⟨k, hk, rfl, hO, he⟩ := hrel
    by_cases hlt : k < m.wvs.length
    · have hX := Ext.alloc wr (.cells #[.int .i64 (k : Int)] 3)
      have hsrc := Src.one wr (.int .i64 (k : Int)) 3
      have hOX := hO.out.ext hX
      have hsz := he.size
      have hszX := hX.size
      obtain ⟨A3, c3, rfl, r1, r2, r3, r4, r5⟩ := hO.out.open_
      have hlen := allI_len k
      have Hw : Hid (∀ v' w', w'.ownsRow w.heap.size 3 1 v' ((Pow.allI k).length + 1) ((Pow.allI k).map (Value.int .i64) ++ [.int .i64 (k : Int)]) → (wr.alloc (.cells #[.int .i64 (k : Int)] 3)).grownBy w' (Value.slice A3 (Pow.allI k).length c3).ownBlock → OwnI w' w.heap.size 3 v' (Pow.allI (k + 1)) ∧ Ext w w') := by
        intro v' w' hown hg
        refine ⟨by unfold OwnI; rw [allI_succ, List.length_append, List.map_append]; exact hown, ext_grown he hg fun j hj => (hO.out.own_lt j hj).1⟩
      clear r3 r4 r5 hO
      go_wp2_with (at_builtin; refine wpList_app rfl _ _ 22 rfl w.heap.size 3 ti (.int .i64 0) 1 8 Tryz.underlying22 hi hz0 hz1 hz2 rfl (by decide) (.slice A3 (Pow.allI k).length c3) (Pow.allI k).length _ rfl hOX (some ⟨wr.heap.size, 0, none⟩) 1 1 [.int .i64 (k : Int)] rfl rfl hsrc ?c2 ?c3 ?c4 ?c5 ?_; (case c2 => (intro u hu; rw [List.mem_singleton] at hu; subst hu; rfl)); (case c3 => (unfold maxLen; omega)); (case c4 => omega); (case c5 => omega); intro v' w5 hown hg hblk; have HO := Lib.hid (Hw.out v' w5 hown hg); clear hown hg hblk)
      go_roundw
      case rel => exact ⟨k + 1, by omega, by go_num, HO.out.1, HO.out.2⟩
      case measure => simp [intOf]; omega
    · obtain rfl : k = m.wvs.length := by omega
      go_wp2
      go_ret
      exact ⟨_, rfl, hO.out, he⟩
end Go.Proofs.Pet

namespace Go.Proofs.Pet
open Go Go.RowKit Go.Maps Go.WideMaps
open Go.Proofs.Pow (PM Sh Wv)

theorem spotRow : (257 : TypeId) < Tryz.prog.types.size := of_decide_eq_true (by kernel_rfl)
theorem spotLaw : KeyLaw Tryz.prog 257 := deep_law_laid laidOut_ (m := 2) (by omega) spotRow (by kernel_rfl) (by rw [Tryz.underlying257])
theorem spotKeyed : Keyed Tryz.prog 257 := Keyed.of_law spotLaw
def spotKey (s h : Nat) : Lit := .string (keyBytes [.int .i64 (s : Int), .int .i64 (h : Int)])
theorem keyOf_spot {s h : Nat} (hs : s ≤ 1048576) (hh : h ≤ 1048576) : keyOf Tryz.prog 257 (.agg #[.int .i64 (s : Int), .int .i64 (h : Int)]) = some (spotKey s h) := by
  have wa := WalkArith.wf_i64 (n := (s : Int)) (by omega)
  have wb := WalkArith.wf_i64 (n := (h : Int)) (by omega)
  have hc : Tryz.prog.cellsOf 257 = 2 := by kernel_rfl
  have hci : Tryz.prog.cellsOf 3 = 1 := by kernel_rfl
  have hkt : Tryz.prog.keyType 257 = true := by kernel_rfl
  have hpos : 0 < Tryz.prog.types.size := Nat.lt_of_le_of_lt (Nat.zero_le _) spotRow
  obtain ⟨m, hm⟩ := Nat.exists_eq_add_of_lt hpos
  unfold keyOf
  simp only [Tryz.underlying257]
  rw [if_pos (by simp [hkt, Value.formed, Tryz.underlying257, hc]), hm]
  unfold Program.keyLits
  simp [Tryz.underlying257, Value.cells, hc, hci, Program.keyLits, Tryz.underlying3, wa, wb, spotKey]
theorem spotKey_inj {s h s' h' : Nat} (hs : s ≤ 1048576) (hh : h ≤ 1048576) (hs' : s' ≤ 1048576) (hh' : h' ≤ 1048576) (e : spotKey s h = spotKey s' h') : s = s' ∧ h = h' := by
  have h1 := keyOf_spot hs hh
  rw [e] at h1
  have h2 := spotKeyed.inj h1 (keyOf_spot hs' hh')
  simp at h2
  omega
theorem zero_boolP (w : World) : (zeroValue 4).run Tryz.prog w = .ok (.bool false) w := by kernel_rfl
def MarkMap (w : World) (M cnt : Nat) (f : Nat → Nat → Bool) : Prop :=
  ∃ D : DataW Unit, w.ownsMap Tryz.prog 257 (plainElem Tryz.prog 4) M cnt D ∧ ∀ s h : Nat, s ≤ 1048576 → h ≤ 1048576 → D.atKey (spotKey s h) (.lit (.bool false)) = .lit (.bool (f s h))
theorem plainElem_bool_invP {P : Program} {e : TypeId} (he : P.underlying e = some .bool) {v : Value} {z : DataW Unit × List MemPlace} (h : plainElem P e v = some z) : ∃ a, v = .bool a ∧ z = (.lit (.bool a), []) := by
  unfold plainElem at h
  rw [he] at h
  cases v <;> simp at h
  exact ⟨_, rfl, h.symm⟩
theorem blit_injP {a b : Bool} (h : (DataW.lit (.bool a) : DataW Unit) = .lit (.bool b)) : a = b := by
  injection h with h
  injection h
theorem MarkMap.made (w : World) : MarkMap (w.alloc (.map #[] 0)) w.heap.size 0 (fun _ _ => false) := ⟨.map [], World.ownsMap_made w _ _ _, fun s h _ _ => by rfl⟩
theorem MarkMap.ext {w w' : World} {M cnt : Nat} {f : Nat → Nat → Bool} (h : MarkMap w M cnt f) (he : Ext w w') : MarkMap w' M cnt f := by
  obtain ⟨D, h1, h2⟩ := h
  exact ⟨D, h1.kept ⟨he.os, he.tape, he.output, he.size, fun k hk _ => Below.block he k hk⟩ (by simp : some M ≠ none), h2⟩
theorem MarkMap.look {w : World} {M cnt : Nat} {f : Nat → Nat → Bool} (h : MarkMap w M cnt f) (s t : Nat) (hs : s ≤ 1048576) (ht : t ≤ 1048576) :
    (Instr.lookup 252 (.map (some M)) (.agg #[.int .i64 (s : Int), .int .i64 (t : Int)]) false).run Tryz.prog w = .ok (.bool (f s t)) w := by
  obtain ⟨D, h1, h2⟩ := h
  obtain ⟨v, ps, hr, hv⟩ := h1.lookup spotKeyed Tryz.underlying252 (zero_boolP w) (plainElem_bool Tryz.underlying4 false) (keyOf_spot hs ht)
  obtain ⟨a, rfl, e⟩ := plainElem_bool_invP Tryz.underlying4 hv
  simp only [Prod.mk.injEq] at e
  have hq := (h2 s t hs ht).symm.trans e.1
  rw [hr, blit_injP hq]
theorem MarkMap.store {w : World} {M cnt : Nat} {f : Nat → Nat → Bool} (h : MarkMap w M cnt f) (s t : Nat) (hs : s ≤ 1048576) (ht : t ≤ 1048576) (hc : cnt ≤ 1048576) (v : Bool) :
    ∃ w', (Instr.mapUpdate 252 (.map (some M)) (.agg #[.int .i64 (s : Int), .int .i64 (t : Int)]) (.bool v)).run Tryz.prog w = .ok () w' ∧ MarkMap w' M (cnt + 1) (fun x y => if x = s ∧ y = t then v else f x y) ∧ w.grownBy w' (some M) := by
  obtain ⟨D, h1, h2⟩ := h
  have hD : IsMap D := by obtain ⟨es, clock, hb, F, hs, rfl⟩ := h1; exact ⟨_, rfl⟩
  obtain ⟨w', hr, ho, hg⟩ := h1.update spotKeyed Tryz.underlying252 (by unfold maxLen; omega) (keyOf_spot hs ht) (plainElem_bool Tryz.underlying4 v)
  refine ⟨w', hr, ⟨_, ho, fun x y hx hy => ?_⟩, hg⟩
  by_cases e : x = s ∧ y = t
  · obtain ⟨rfl, rfl⟩ := e
    rw [atKey_put_same hD (by simp [spotKey, WideAt.IsKeyLit])]
    simp
  · rw [atKey_put_other (fun e' => e (spotKey_inj hx hy hs ht e')), h2 x y hx hy]
    show _ = DataW.lit (.bool (if x = s ∧ y = t then v else f x y))
    rw [if_neg e]
end Go.Proofs.Pet

namespace Go.Proofs.Pet
set_option linter.unusedSimpArgs false
open Go Go.RowKit Go.Maps Go.Shelf
open Go.Proofs.Pow (PM Sh Wv POk)
attribute [local go_sem] Oper.semAt_some

theorem MarkMap.lt {w : World} {M cnt : Nat} {f : Nat → Nat → Bool} (h : MarkMap w M cnt f) : M < w.heap.size := by
  obtain ⟨D, h1, _⟩ := h
  exact h1.lt
theorem MarkMap.same {w w' : World} {M cnt : Nat} {f : Nat → Nat → Bool} (h : MarkMap w M cnt f) (hs : w'.heap[M]? = w.heap[M]?) : MarkMap w' M cnt f := by
  obtain ⟨D, ⟨es, clock, hb, F, hs', hD⟩, h2⟩ := h
  exact ⟨D, ⟨es, clock, hs.trans hb, F, hs', hD⟩, h2⟩
theorem MarkMap.congr {w : World} {M cnt cnt' : Nat} {f g : Nat → Nat → Bool} (h : MarkMap w M cnt f) (hc : cnt = cnt') (hfg : f = g) : MarkMap w M cnt' g := by subst hc; subst hfg; exact h
theorem line_len {m : PM} (hu : Pow.UpOk m) : ∀ s : Nat, s < m.shafts.length → (m.line s).length ≤ s + 1 := by
  intro s
  induction s using Nat.strongRecOn with
  | _ s ih =>
    intro hs
    rw [Pow.line_cons m hu hs, List.length_cons]
    have h := hu s hs
    rcases Int.lt_or_le (m.sh s).up 0 with h0 | h0
    · rw [Pow.line_neg m h0]; simp
    · obtain ⟨u, hu'⟩ : ∃ u : Nat, (m.sh s).up = u := ⟨_, (Int.toNat_of_nonneg h0).symm⟩
      rw [hu'] at h ⊢
      have := ih u (by omega) (by omega)
      omega
theorem hours_len {l : List Int} (hr : l.Pairwise (· < ·)) (hb : ∀ h, h ∈ l → 0 ≤ h ∧ h ≤ 23) : l.length ≤ 24 := by
  have hn : l.Nodup := hr.imp fun h => by omega
  have := Pow.nodup_le (r := (List.range 24).map fun i : Nat => (i : Int)) hn fun x hx => by
    have := hb x hx
    exact List.mem_map.2 ⟨x.toNat, List.mem_range.2 (by omega), by omega⟩
  simpa using this
theorem take_snoc {l : List Int} {k : Nat} (hk : k < l.length) {x : Int} (e : l[k]?.getD 0 = x) : l.take (k + 1) = l.take k ++ [x] := by
  rw [List.take_add_one, List.getElem?_eq_getElem hk]
  rw [List.getElem?_eq_getElem hk] at e
  simp only [Option.getD_some] at e
  rw [e]; rfl

set_option maxRecDepth 20000 in
set_option maxHeartbeats 2000000 in
theorem cost_anyP (D : Nat) (m : PM) (hm : POk m) (A : Option Addr) (c n : Nat) (g : List Int) (hn : g.length = n) (hg : Pow.InG m g) (hl : n ≤ 100) (r : Int) (hr : Pow.costF m (fun k => g.contains (k : Int)) = r) (w : World) (hD : DeskAt w D m) (hA : IntsAt w A g) :
    Calls Tryz.prog 109 #[.pointer (some ⟨D, 0, none⟩), .slice A n c] w fun e w' => e = .returned (.int .i64 r) ∧ Ext w w' := by
  subst hn
  have Hr : Hid (Pow.sumM m (Pow.mkG m g) = r) := by unfold Hid; rw [Pow.cost_mkG hg, hr]
  clear hr
  have Hm := Lib.hid hm
  obtain ⟨⟨l1, l2⟩, l3, -, hho, hup, hat, hri⟩ := hm
  have HD := Lib.hid hD
  obtain ⟨A1, c1, A2, c2, d0, d1, hv, hS, hW⟩ := hD.slices
  have HS := Lib.hid hS; have HW := Lib.hid hW; have Hup := Lib.hid hup; have Hat := Lib.hid hat; have HA := Lib.hid hA; have Hg := Lib.hid hg; have Hho := Lib.hid hho; have Hri := Lib.hid hri
  have hDlt := hD.lt
  clear hv hS hW hup hat hA hD hho hri
  refine (callsIn_wide (n := 5)).1 ?_
  refine callsIn_of_wp_marks Tryz.func109 rfl trivial ?_ rfl
  simp only [Tryz.ntmps109, List.size_toArray, List.length_nil, Nat.reduceSub, Array.replicate_succ, Array.replicate_zero, List.push_toArray, List.append_toArray, List.nil_append, List.cons_append, List.length_cons, Nat.reduceAdd]
  refine wpIn_wide.2 ?_
  have hmm := @run_makeMap Tryz.prog
  go_wp2_with fail
  have D0 := Lib.hid d0; have D1 := Lib.hid d1
  clear hmm d0 d1
  obtain ⟨L0, hL0⟩ : ∃ L0, w.heap.size = L0 := ⟨_, rfl⟩
  have hX : Ext w ((((w.alloc (.cells #[.pointer (some ⟨D, 0, none⟩)] 175)).alloc (.cells #[.int .i64 0] 3)).alloc (.map #[] 0)).alloc (.cells #[.map (some (L0 + 2))] 252)) := (((Ext.alloc _ _).trans (Ext.alloc _ _)).trans (Ext.alloc _ _)).trans (Ext.alloc _ _)
  have b0 := (((Blk.new w 175 #[.pointer (some ⟨D, 0, none⟩)]).alloc (.cells #[.int .i64 0] 3)).alloc (.map #[] 0)).alloc (.cells #[.map (some (L0 + 2))] 252)
  have b1 := ((Blk.new (w.alloc (.cells #[.pointer (some ⟨D, 0, none⟩)] 175)) 3 #[.int .i64 0]).alloc (.map #[] 0)).alloc (.cells #[.map (some (L0 + 2))] 252)
  have b2 := (MarkMap.made ((w.alloc (.cells #[.pointer (some ⟨D, 0, none⟩)] 175)).alloc (.cells #[.int .i64 0] 3))).ext (Ext.alloc _ (.cells #[.map (some (L0 + 2))] 252))
  have b3 := Blk.new (((w.alloc (.cells #[.pointer (some ⟨D, 0, none⟩)] 175)).alloc (.cells #[.int .i64 0] 3)).alloc (.map #[] 0)) 252 #[.map (some (L0 + 2))]
  simp only [World.size_alloc, hL0] at b0 b1 b2 b3 ⊢
  generalize (((w.alloc _).alloc _).alloc _).alloc _ = W2 at *
  refine wp_loop_ghost_u (fun u gn a W => ∃ (i cnt : Nat) (ds : List Deferred), a = ⟨#[.pointer (some ⟨D, 0, none⟩), .slice A g.length c, .pointer (some ⟨L0, 0, none⟩), u 3, .int .i64 0, .pointer (some ⟨L0 + 1, 0, none⟩), .pointer (some ⟨L0 + 1 + 1 + 1, 0, none⟩), u 7, u 8, u 9, u 10, u 11, u 12, u 13, .slice A g.length c, .int .i64 (g.length : Int), u 16, u 17, u 18, u 19, u 20, u 21, u 22, u 23, u 24, u 25, u 26, u 27, u 28, u 29, u 30, u 31, u 32, u 33, u 34, u 35, u 36, u 37, u 38, u 39, u 40, u 41, u 42, u 43, u 44, u 45, u 46, u 47, u 48, u 49, u 50, u 51, u 52, u 53, u 54, u 55, u 56, u 57, u 58, u 59, u 60, u 61, u 62, u 63, u 64, u 65, u 66, u 67, u 68, u 69, u 70, u 71], ds⟩ ∧ gn = g.length - i ∧ u 16 = .int .i64 (i : Int) ∧ i ≤ g.length ∧ cnt ≤ i * 216 ∧ Ext w W ∧ Blk W L0 175 #[.pointer (some ⟨D, 0, none⟩)] ∧ Blk W (L0 + 1) 3 #[.int .i64 (Pow.sumM m (Pow.mkG m (g.take i)))] ∧ MarkMap W (L0 + 2) cnt (Pow.mkG m (g.take i)) ∧ Blk W (L0 + 3) 252 #[.map (some (L0 + 2))] ∧ Marks W L0 W.heap.size ds) (g.length) ⟨0, 0, [], rfl, by omega, rfl, by omega, by omega, hX, b0, by rw [List.take_zero, Pow.mkG_nil, Pow.sumM_none]; exact b1, b2.congr rfl (by rw [List.take_zero, Pow.mkG_nil]), b3, Marks.nil _ _ _⟩ ?_
  rintro uA gn a W ⟨i, cnt, ds, rfl, rfl, hu16, hi, hcnt, heA, a0, a1, a2, a3, hmk⟩ JA KA hJA hKA
  rw [hu16]
  clear hX b0 b1 b2 b3
  by_cases hlt : i < g.length
  · obtain ⟨b, o, rfl, q1⟩ := HA.out.ext heA i hlt
    have hgk := Hg.out (g[i]?.getD 0) (by simp [hlt])
    obtain ⟨kk, hkk⟩ : ∃ kk : Nat, g[i]?.getD 0 = kk := ⟨_, (Int.toNat_of_nonneg hgk.1).symm⟩
    have Htk := Lib.hid (take_snoc hlt hkk)
    rw [hkk] at q1 hgk
    clear hkk
    have hkl : kk < m.wvs.length := by omega
    have hlt5 : kk ≤ maxLen := by unfold maxLen; omega
    unfold maxLen at hlt5
    have d1 := heA.cell D1.out
    have d0 := heA.cell D0.out
    obtain ⟨b2, o2, rfl, A3, c3, h3, j1, j2, j3⟩ := HW.out kk hkl
    have hwv : m.wvs[kk]?.getD default = m.wv kk := rfl
    rw [hwv] at h3 j1 j2 j3
    have hat := Hat.out kk hkl
    have Hho2 := Lib.hid (Hho.out kk hkl)
    have hhl := hours_len (Hri.out kk hkl) (Hho.out kk hkl)
    have hlen9 : (m.line (m.wv kk).shaft).length ≤ 9 := by
      obtain ⟨z, hz⟩ : ∃ z : Nat, (m.wv kk).shaft = z := ⟨_, (Int.toNat_of_nonneg hat.1).symm⟩
      rw [hz] at hat ⊢
      have := line_len Hup.out z (by omega)
      omega
    obtain ⟨wv, hwve⟩ : ∃ wv, m.wv kk = wv := ⟨_, rfl⟩
    rw [hwve] at h3 j1 j2 j3 hat Hho2 hhl hlen9
    have Hwv := Lib.hid hwve
    have J1 := Lib.hid j1; have J3 := Lib.hid j3
    replace j2 := heA.cell j2
    clear hwv hwve j1 j3
    obtain ⟨hn, hhn⟩ : ∃ hn, wv.hours.length = hn := ⟨_, rfl⟩
    rw [hhn] at j2 hhl h3
    have e0 := a0.c1
    have hLW : L0 + 3 < W.heap.size := a3.lt
    go_wp2_with fail
    clear e0 d0 d1 j2 q1
    have hs0 : Pow.mk3 m (g.take i) (kk : Int) (wv.hours.take 0) 0 [] = Pow.mkG m (g.take i) := by rw [List.take_zero]; exact Pow.mk3_start m _ _
    refine wp_loop_ghost_u (fun u gn a W2 => ∃ (j cnt : Nat) (ds : List Deferred), a = ⟨#[.pointer (some ⟨D, 0, none⟩), .slice (some ⟨b, o, none⟩) g.length c, .pointer (some ⟨L0, 0, none⟩), u 3, .int .i64 0, .pointer (some ⟨L0 + 1, 0, none⟩), .pointer (some ⟨L0 + 1 + 1 + 1, 0, none⟩), u 7, .int .i64 (kk : Int), u 9, u 10, u 11, u 12, u 13, .slice (some ⟨b, o, none⟩) g.length c, .int .i64 (g.length : Int), .int .i64 (i : Int), u 17, u 18, u 19, u 20, u 21, u 22, u 23, u 24, u 25, u 26, u 27, .slice A3 hn c3, .int .i64 (hn : Int), u 30, u 31, u 32, u 33, u 34, u 35, u 36, u 37, u 38, u 39, u 40, u 41, u 42, u 43, u 44, u 45, u 46, u 47, u 48, u 49, u 50, u 51, u 52, u 53, u 54, u 55, u 56, u 57, u 58, u 59, u 60, u 61, u 62, u 63, u 64, u 65, u 66, u 67, u 68, u 69, u 70, u 71], ds⟩ ∧ gn = hn - j ∧ u 30 = .int .i64 (j : Int) ∧ j ≤ hn ∧ cnt ≤ i * 216 + j * 9 ∧ Ext w W2 ∧ Blk W2 L0 175 #[.pointer (some ⟨D, 0, none⟩)] ∧ Blk W2 (L0 + 1) 3 #[.int .i64 (Pow.sumM m (Pow.mk3 m (g.take i) (kk : Int) (wv.hours.take j) 0 []))] ∧ MarkMap W2 (L0 + 2) cnt (Pow.mk3 m (g.take i) (kk : Int) (wv.hours.take j) 0 []) ∧ Blk W2 (L0 + 3) 252 #[.map (some (L0 + 2))] ∧ Marks W2 L0 W2.heap.size ds) (hn) ⟨0, cnt, ds, rfl, by omega, rfl, by omega, by omega, heA, a0, by rw [hs0]; exact a1, a2.congr rfl hs0.symm, a3, hmk⟩ ?_
    rintro uB gn a W2 ⟨j, cnt, ds, rfl, rfl, hu30, hj, hcnt2, heB, b0, b1, bM, b3, hmkB⟩ JB KB hJB hKB
    rw [hu30]
    clear hs0 heA a0 a1 a2 a3 hmk hLW
    have hLW : L0 + 3 < W2.heap.size := b3.lt
    by_cases hltj : j < hn
    · obtain ⟨b4, o4, rfl, q1⟩ := J3.out.ext heB j (by omega)
      have hhj := Hho2.out (wv.hours[j]?.getD 0) (by rw [List.getElem?_eq_getElem (by omega)]; exact List.getElem_mem _)
      obtain ⟨hh, hhh⟩ : ∃ hh : Nat, wv.hours[j]?.getD 0 = hh := ⟨_, (Int.toNat_of_nonneg hhj.1).symm⟩
      have Htj := Lib.hid (take_snoc (by omega) hhh)
      rw [hhh] at q1 hhj
      clear hhh
      have hX := Ext.alloc W2 (.cells #[.int .i64 (hh : Int)] 3)
      have hHB := Blk.new W2 3 #[.int .i64 (hh : Int)]
      have f0 := heB.cell D0.out
      go_upto_region 9 with fail
      clear q1 f0
      have heX := heB.trans hX
      have e0 := (b0.ext hX).c1
      have d0 := heX.cell D0.out
      have d1 := heX.cell D1.out
      have j1 := heX.cell J1.out
      have hX0 := b0.ext hX
      have hX1 := b1.ext hX
      have hXM := bM.ext hX
      have hX3 := b3.ext hX
      have hXK := hmkB.ext hX
      have hszX : (W2.alloc (.cells #[.int .i64 (hh : Int)] 3)).heap.size = W2.heap.size + 1 := World.size_alloc ..
      clear hX heB b0 b1 bM b3 hmkB
      generalize W2.alloc _ = W3 at *
      generalize W2.heap.size = L at *
      refine wp_region_chain 13 [] [] (by kernel_rfl) (by kernel_rfl) (by kernel_rfl) ?_
      simp only [List.take, List.drop, fill, Act.put, List.setIfInBounds_toArray, List.set_cons_zero, List.set_cons_succ, Nat.reduceAdd]
      repeat (first
        | refine Floats.mut rfl ?_
        | (apply Floats.float rfl
           · intro x W he hd K Q hK
             try (have he := he (by decide); have e0 := he.cell e0; have d0 := he.cell d0; have d1 := he.cell d1; have j1 := he.cell j1)
             try simp only [edges, DepsE, List.filter_cons, List.filter_nil, Region.binds, if_true, and_true, true_and, upd, Nat.reduceEqDiff, if_false] at hd
             try simp only [hd] at hK ⊢
             have HK := Lib.hid hK; clear hK
             go_wp2_with fail
             exact HK.out))
      refine Floats.done fun W he hG => ?_
      refine Chain.nil ?_
      simp only [upd, Nat.reduceEqDiff, if_false, if_true]
      have heY := heX.trans he
      have hline := Lib.hid (pline_any A1 (some ⟨b2, o2, none⟩) m.shafts.length c1 m.wvs.length c2 wv.shaft W)
      have hszY := he.size
      go_wp2_with fail
      refine hline.out.mono ?_
      rintro e W5 ⟨hv5, he5, hL1, hL2, hsz5⟩
      subst hv5
      replace hX0 := hX0.ext (he.trans he5)
      replace hX1 := hX1.ext (he.trans he5)
      replace hXM := hXM.ext (he.trans he5)
      replace hX3 := hX3.ext (he.trans he5)
      replace hXK := hXK.ext (he.trans he5)
      replace hHB := hHB.ext (he.trans he5)
      replace heY := heY.trans he5
      clear hline he he5 e0 d0 d1 j1 heX hG
      obtain ⟨Bk, hBk⟩ : ∃ Bk, W.heap.size = Bk := ⟨_, rfl⟩
      rw [hBk] at hL1 hL2 hsz5 hszY ⊢
      clear hBk
      have hlen1 : m.shafts.length ≤ maxLen := by unfold maxLen; omega
      have hlow : ∀ k, k < m.shafts.length → ∀ ad, A1 = some ad → ad.block < L0 := fun k hk ad e => by
        have := HS.out.low_lt k hk ad e
        omega
      have hgk2 : Hid (Pow.mk3 m (g.take i) (kk : Int) (wv.hours.take j) 0 [] = Pow.mk3 m (g.take i) (kk : Int) (wv.hours.take j) (hh : Int) []) := Pow.mk3_cur m _ _ _ _ _
      rw [hgk2.out] at hX1 hXM
      go_wp2_with fail
      apply wp_line (n1 := L0) (B := Bk) Hup.out (by omega) hlen1 (s := wv.shaft) (by omega) hL1 hL2 (HS.out.ext heY) hlow rfl rfl
        (fun pre W => ∃ cnt', cnt' ≤ cnt + pre.length ∧ W5.heap.size ≤ W.heap.size ∧ Ext w W ∧ Blk W L0 175 #[.pointer (some ⟨D, 0, none⟩)] ∧ Blk W (L0 + 1) 3 #[.int .i64 (Pow.sumM m (Pow.mk3 m (g.take i) (kk : Int) (wv.hours.take j) (hh : Int) (pre.map fun y : OnLine m wv.shaft => y.1)))] ∧
          MarkMap W (L0 + 2) cnt' (Pow.mk3 m (g.take i) (kk : Int) (wv.hours.take j) (hh : Int) (pre.map fun y : OnLine m wv.shaft => y.1)) ∧ Blk W (L0 + 3) 252 #[.map (some (L0 + 2))] ∧ Blk W L 3 #[.int .i64 (hh : Int)] ∧ Marks W L0 L ds)
        (fun pre W W' ⟨ct, h0, h1, h2, h3, h4, h5, h6, h7, h8⟩ hl => ⟨ct, h0, Nat.le_trans h1 hl.size, h2.loops hl (by omega), h3.loops hl, h4.loops hl, h5.same (hl.low _ (by omega) h5.lt), h6.loops hl, h7.loops hl, h8.loops hl (by omega)⟩)
        (fun pre W W' ⟨ct, h0, h1, h2, h3, h4, h5, h6, h7, h8⟩ ht => ?hturn) ⟨cnt, Nat.le_refl _, Nat.le_refl _, heY, hX0, hX1, hXM, hX3, hHB, hXK⟩
      case hturn =>
        obtain ⟨v, rfl⟩ := ht
        exact ⟨ct, h0, by rw [World.size_setCell]; exact h1, Below.setCell h2 (by show _ ≤ Bk + 1; omega) _, h3.far (by show L0 ≠ Bk + 1; omega) _, h4.far (by show L0 + 1 ≠ Bk + 1; omega) _, h5.same (Below.heap_setCell _ _ _ _ (by show L0 + 2 ≠ Bk + 1; omega)), h6.far (by show L0 + 3 ≠ Bk + 1; omega) _, h7.far (by show L ≠ Bk + 1; omega) _, h8.above (by show L ≤ Bk + 1; omega) _⟩
      case hassign =>
        intro l x W K hK
        simp only [encO]
        gi_wp2
        exact hK
      case hbody =>
        rintro l pre x Wr ⟨ct, hct, i1, i2, i3, i4, iM, i6, i7, i8⟩ hpl
        obtain ⟨xv, hxm⟩ := x
        have hxl := line_lt Hm.out hkl (x := xv) (by rw [Hwv.out]; exact hxm)
        obtain ⟨cc, rfl⟩ : ∃ cc : Nat, xv = cc := ⟨xv.toNat, by omega⟩
        obtain ⟨b6, o6, hA6, s1, s2⟩ := HS.out.ext i2 cc (by omega)
        have hb6 : b6 < L0 := hlow cc (by omega) _ hA6
        subst hA6
        have hsh : m.shafts[cc]?.getD default = m.sh cc := rfl
        rw [hsh] at s1 s2
        have hpr := Hm.out.price cc (by omega)
        have hct2 : ct ≤ 1048576 := by omega
        have hXs := Ext.alloc Wr (.cells #[.int .i64 (cc : Int), .int .i64 (hh : Int)] 257)
        have hsp := Blk.new Wr 257 #[.int .i64 (cc : Int), .int .i64 (hh : Int)]
        obtain ⟨p0, p1⟩ := hsp.c2
        have hMs := iM.ext hXs
        have hlook := hMs.look cc hh (by omega) (by omega)
        obtain ⟨ls, hls⟩ : ∃ ls, pre.map (fun y : OnLine m wv.shaft => y.1) = ls := ⟨_, rfl⟩
        have Hlsx : Hid ((pre ++ [(⟨(cc : Int), hxm⟩ : OnLine m wv.shaft)]).map (fun y : OnLine m wv.shaft => y.1) = ls ++ [(cc : Int)]) := by
          unfold Hid; rw [List.map_append, List.map_singleton, hls]
        have Hlsu : Hid ((pre ++ [(⟨(cc : Int), hxm⟩ : OnLine m wv.shaft)]).unattach = ls ++ [(cc : Int)]) := Hlsx
        rw [hls] at i4 hMs hlook
        clear hls
        have hsb := Pow.sumM_bounds Hm.out (Pow.mk3 m (g.take i) (kk : Int) (wv.hours.take j) (hh : Int) ls)
        have e3 := (i3.ext hXs).c1
        have e6 := (i6.ext hXs).c1
        have e7 := i7.c1
        have i4X := i4.ext hXs
        have hPL : Wr.heap.size = Wr.heap.size := rfl
        have hlkL : Bk + 1 < W5.heap.size := hL2.lt
        obtain ⟨q, hq⟩ : ∃ q, Pow.mk3 m (g.take i) (kk : Int) (wv.hours.take j) (hh : Int) ls cc hh = q := ⟨_, rfl⟩
        rw [hq] at hlook
        cases q with
        | true =>
          have hold := Lib.hid (Pow.mk3_old hq)
          clear hq
          gi_wp2_with fail
          refine ⟨keepsFrom_ext hXs, ⟨fun k hk => Below.block hXs k (by omega), Below.block hXs _ (by omega), Below.block hXs _ (by omega)⟩, ct, by rw [List.length_append]; omega, ?_, i2.trans hXs, i3.ext hXs, ?_, ?_, i6.ext hXs, i7.ext hXs, i8.ext hXs⟩
          · rw [World.size_alloc]; omega
          · rw [Hlsu.out, hold.out]; exact i4X
          · rw [Hlsu.out, hold.out]; exact hMs
        | false =>
          have hnew := Lib.hid (Pow.sum_new (show cc < m.shafts.length by omega) (show hh < 24 by omega) hq)
          have hsb2 := Pow.sumM_bounds Hm.out (Pow.mk3 m (g.take i) (kk : Int) (wv.hours.take j) (hh : Int) (ls ++ [(cc : Int)]))
          have hfn : Hid ((fun x y => if x = cc ∧ y = hh then true else Pow.mk3 m (g.take i) (kk : Int) (wv.hours.take j) (hh : Int) ls x y) = Pow.mk3 m (g.take i) (kk : Int) (wv.hours.take j) (hh : Int) (ls ++ [(cc : Int)])) := by
            unfold Hid
            funext x y
            rw [Pow.mk3_new]
            by_cases e : x = cc ∧ y = hh
            · rw [if_pos e]; simp [e.1, e.2]
            · rw [if_neg e]
              have : (decide (x = cc) && decide (y = hh)) = false := by simpa using e
              rw [this, Bool.or_false]
          clear hq
          obtain ⟨w', hrun, hM', hg⟩ := hMs.store cc hh (by omega) (by omega) hct2 true
          have HM' := Lib.hid hM'; clear hM'
          have hszX : (Wr.alloc (.cells #[.int .i64 (cc : Int), .int .i64 (hh : Int)] 257)).heap.size = Wr.heap.size + 1 := World.size_alloc ..
          have k2 : Ext w w' := Below.grown (i2.trans hXs) hg (by have := i2.size; omega) (fun k e => by cases e; omega)
          have k3 := (i3.ext hXs).grown hg (fun e => by cases e)
          have k4 := i4X.grown hg (fun e => by cases e)
          have k6 := (i6.ext hXs).grown hg (fun e => by cases e)
          have k7 := (i7.ext hXs).grown hg (fun e => by cases e; omega)
          have hszG := hg.size
          have hkb : ∀ k, k < Wr.heap.size → k ≠ L0 + 2 → w'.heap[k]? = Wr.heap[k]? := fun k hk hne => (hg.block k (by omega) (fun e => hne (by cases e; rfl))).trans (Below.block hXs k hk)
          have d0 := k2.cell D0.out
          have s3 := cell_of_blocks (hkb b6 (by have := i3.lt; omega) (by omega)) s2
          have c3 := k3.c1
          have c4 := k4.c1
          generalize (m.sh cc).price = pr at *
          have Hnew := Lib.hid hnew.out
          obtain ⟨S1, hS1⟩ : ∃ S1, Pow.sumM m (Pow.mk3 m (g.take i) (kk : Int) (wv.hours.take j) (hh : Int) ls) = S1 := ⟨_, rfl⟩
          rw [hS1] at hsb c4 k4
          have hS2 : Hid (Pow.sumM m (Pow.mk3 m (g.take i) (kk : Int) (wv.hours.take j) (hh : Int) (ls ++ [(cc : Int)])) = S1 + pr) := by unfold Hid; rw [Hnew.out, hS1]
          rw [hS2.out] at hsb2
          clear hS1 hnew s1 s2 i4X hMs
          gi_wp2_with fail
          refine wpIn_region_chain 11 [] [] (by kernel_rfl) (by kernel_rfl) (by kernel_rfl) ?_
          simp only [List.take, List.drop, fill, Act.put, List.setIfInBounds_toArray, List.set_cons_zero, List.set_cons_succ, Nat.reduceAdd]
          repeat (first
            | refine FloatsIn.mut rfl ?_
            | (apply FloatsIn.float rfl
               · intro x W he hd K Q hK
                 try (have he := he (by decide); have c4 := he.cell c4; have c3 := he.cell c3; have d0 := he.cell d0; have s3 := he.cell s3)
                 try simp only [edges, DepsE, List.filter_cons, List.filter_nil, Region.binds, if_true, and_true, true_and, upd, Nat.reduceEqDiff, if_false] at hd
                 try simp only [hd] at hK ⊢
                 have HK := Lib.hid hK; clear hK
                 gi_wp2_with fail
                 exact HK.out))
          refine FloatsIn.done fun W he hG => ?_
          refine ChainIn.nil ?_
          simp only [upd, Nat.reduceEqDiff, if_false, if_true]
          have hfr := (k4.ext he).frozen 0
          have c5 := (k4.ext he).c1
          gi_wp2_with fail
          have hWrL : L0 + 3 < Wr.heap.size := i6.lt
          have hnh : ∀ k, k ≠ L0 + 1 → (W.setCell ⟨L0 + 1, 0, none⟩ (.int .i64 (S1 + pr))).heap[k]? = W.heap[k]? := fun k hk => Below.heap_setCell W _ _ k hk
          have hkf : KeepsFrom W5.heap.size (Wr.alloc (.cells #[.int .i64 (cc : Int), .int .i64 (hh : Int)] 257)) w' := ⟨hg.size, fun k o hB hk _ => (hg.block k (Array.getElem?_eq_some_iff.1 hk).1 (fun e => by cases e; omega)).trans hk⟩
          have hall : ∀ k, k < Wr.heap.size → k ≠ L0 + 2 → k ≠ L0 + 1 → (W.setCell ⟨L0 + 1, 0, none⟩ (.int .i64 (S1 + pr))).heap[k]? = Wr.heap[k]? := fun k h1 h2 h3 => (hnh k h3).trans ((Below.block he k (by omega)).trans (hkb k h1 h2))
          have hsW := he.size
          refine ⟨((keepsFrom_ext hXs).trans hkf).trans ((keepsFrom_ext he).trans ((KeepsOthers.setCell _ _ _).from _)), ⟨fun k hk => hall k (by omega) (by omega) (by omega), hall _ (by omega) (by omega) (by omega), hall _ (by omega) (by omega) (by omega)⟩, ct + 1, by rw [List.length_append, List.length_singleton]; omega, ?_, Below.setCell (k2.trans he) (by show _ ≤ L0 + 1; omega) _, (k3.ext he).far (by show L0 ≠ L0 + 1; omega) _, ?_, ?_, (k6.ext he).far (by show L0 + 3 ≠ L0 + 1; omega) _, (k7.ext he).far (by show L ≠ L0 + 1; omega) _, ?_⟩
          · rw [World.size_setCell]; omega
          · rw [Hlsx.out, hS2.out]; exact by simpa using (k4.ext he).set_ 0 (.int .i64 (S1 + pr))
          · rw [Hlsx.out]
            exact (((HM'.out.ext he).same (hnh (L0 + 2) (by omega))).congr rfl hfn.out)
          · refine ⟨i8.choose, i8.choose_spec.1, i8.choose_spec.2.1, fun Dd hDd => ?_⟩
            obtain ⟨t1, t2, t3⟩ := i8.choose_spec.2.2 Dd hDd
            have hc1 : Dd ≠ L0 + 1 := fun e => by
              subst e
              have := i4
              unfold Blk at this
              rw [this] at t3; cases t3
            have hc2 : Dd ≠ L0 + 2 := fun e => by
              subst e
              obtain ⟨_, ⟨_, _, hb, _⟩, _⟩ := iM
              rw [hb] at t3; cases t3
            exact ⟨t1, t2, (hall Dd (Array.getElem?_eq_some_iff.1 t3).1 hc2 hc1).trans t3⟩
      case hdone =>
        intro Dd xs W hDd hxs ⟨ct, hct, i1, i2, i3, i4, iM, i6, i7, i8⟩ hdef
        have hxl : xs.length = (m.line wv.shaft).length := by rw [← hxs, List.length_map]
        have hEnd : Hid (Pow.mk3 m (g.take i) (kk : Int) (wv.hours.take j) (hh : Int) (m.line wv.shaft) = Pow.mk3 m (g.take i) (kk : Int) (wv.hours.take (j + 1)) 0 []) := by
          unfold Hid
          rw [Htj.out, Pow.mk3_hour]
          show Pow.mk3 m _ _ _ _ _ = Pow.mk3 m _ _ _ _ (m.line (m.wv kk).shaft)
          rw [Hwv.out]
        rw [hxs, hEnd.out] at i4 iM
        have hp := i8.push (by omega) (by omega) hdef
        have hDlt := (Array.getElem?_eq_some_iff.1 hdef).1
        clear hdef i8 i7
        go_wp2_with fail
        refine Handed.intro (hn - (j + 1)) (by omega) (hJB _ _ _ ⟨j + 1, ct, _, rfl, rfl, by show Value.int .i64 _ = _; go_num, by omega, by omega, i2, i3, i4, iM, i6, hp.mono (by omega)⟩)
    · obtain rfl : j = hn := by omega
      have hEnd : Hid (Pow.mk3 m (g.take i) (kk : Int) (wv.hours.take j) 0 [] = Pow.mkG m (g.take (i + 1))) := by
        unfold Hid
        rw [List.take_of_length_le (l := wv.hours) (by omega), Htk.out, ← Pow.mk3_end m (g.take i) (kk : Int) 0]
        show Pow.mk3 m _ _ _ _ _ = Pow.mk3 m _ _ (m.wv kk).hours _ _
        rw [Hwv.out]
      rw [hEnd.out] at b1 bM
      go_wp2_with fail
      refine Handed.intro (g.length - (i + 1)) (by omega) (hJA _ _ _ ⟨i + 1, cnt, _, rfl, rfl, by show Value.int .i64 _ = _; go_num, by omega, by omega, heB, b0, b1, bM, b3, hmkB⟩)
  · obtain rfl : i = g.length := by omega
    rw [List.take_of_length_le (Nat.le_refl _), Hr.out] at a1
    have e1 := a1.c1
    go_wp2_with fail
    exact leaves_marks' ds W hmk (fun W' => results_tmp rfl _ _ _) (fun W' hq => ⟨rfl, hq.ext heA (by omega)⟩)
end Go.Proofs.Pet

namespace Go.Proofs.Pet
open Go Go.RowKit Go.Maps Go.Shelf
open Go.Proofs.Pow (PM Sh Wv POk)

def knownE (m : PM) (k : Int) : Int := if checkP m ≠ 0 then checkP m else if inB k 0 (m.wvs.length - 1) = false then 1 else 0
def groupE (m : PM) (g : List Int) : Int := if checkP m ≠ 0 then checkP m else if (g.all fun k => inB k 0 (m.wvs.length - 1)) = false then 1 else if twiceB g = true then 5 else 0
def sharedE (m : PM) (l : List Int) : Int := if checkP m ≠ 0 then checkP m else if l.length ≠ m.wvs.length then 2 else if (l.all fun n => inB n 0 1000000) = false then 3 else 0
def sightE (m : PM) (l : List Int) : Int := if checkP m ≠ 0 then checkP m else if l.length ≠ m.wvs.length then 2 else if (l.all fun x => inB x 0 2) = false then 3 else 0
/-- what comes back: a desk if there is no error -/
def OpensP (m : PM) (r : Int) (w : World) (e : Ending) (w' : World) : Prop := ∃ pv, e = .returned (.tuple #[.pointer pv, .int .i64 r]) ∧ Ext w w' ∧ (r = 0 → ∃ D, pv = some ⟨D, 0, none⟩ ∧ DeskAt w' D m ∧ w.heap.size ≤ D)
theorem sharedS1 (w : World) (x : Int) : Tells Tryz.prog w 252 #[] #[] IntVal x (inB x 0 1000000) := by
  intro W v hW hv
  obtain rfl : v = .int .i64 x := hv
  have Hc := Lib.hid (in_anyP x 0 1000000 _ rfl)
  generalize inB x 0 1000000 = q at Hc ⊢
  show Calls Tryz.prog 252 #[_] W _
  go_enter Tryz.func252, Tryz.ntmps252
  go_wp2_with fail
  refine (Hc.out _).mono ?_
  rintro e w' ⟨rfl, rfl⟩
  go_wp2
  go_ret
  exact ⟨rfl, Ext.refl _⟩
theorem sightedS1 (w : World) (x : Int) : Tells Tryz.prog w 213 #[] #[] IntVal x (inB x 0 2) := by
  intro W v hW hv
  obtain rfl : v = .int .i64 x := hv
  show Calls Tryz.prog 213 #[_] W _
  unfold inB
  by_cases h1 : 0 ≤ x
  · by_cases h2 : x ≤ 2
    · go_enter Tryz.func213, Tryz.ntmps213
      go_wp2
      go_ret
      exact ⟨by simp [h1, h2], Ext.refl _⟩
    · have hd : decide (x ≤ 2) = false := by simp; omega
      go_enter Tryz.func213, Tryz.ntmps213
      go_wp2
      go_ret
      exact ⟨by simp, Ext.refl _⟩
  · have hd : decide (0 ≤ x) = false := by simp; omega
    go_enter Tryz.func213, Tryz.ntmps213
    go_wp2
    go_ret
    exact ⟨by simp, Ext.refl _⟩

set_option maxRecDepth 20000 in
theorem known_anyP (v : Value) (m : PM) (k : Int) (r : Int) (hr : knownE m k = r) (w : World) (hv : PMVal w v m) : Calls Tryz.prog 113 #[v, .int .i64 k] w (OpensP m r w) := by
  have Hr := Lib.hid hr; clear hr
  have hmf : ∀ (fn : Fn) (first cap : Array Value) (w : World), (Instr.makeFunc fn first cap).run Tryz.prog w = .ok (.func fn first cap) w := fun _ _ _ _ => rfl
  have Hv := Lib.hid hv
  obtain ⟨A1, c1, A2, c2, rfl, h2, h3, h4, h5, h6, h7⟩ := hv
  have hwl : m.wvs.length ≤ maxLen := Nat.le_trans h4 h5
  unfold maxLen at hwl
  have hE := Ext.alloc w (.cells #[.slice A1 m.shafts.length c1, .slice A2 m.wvs.length c2] 56)
  have hM := Blk.new w 56 #[.slice A1 m.shafts.length c1, .slice A2 m.wvs.length c2]
  obtain ⟨k0, k1⟩ := hM.c2
  have HM := Lib.hid hM
  clear hM h6 h7
  by_cases hc : checkP m = 0
  · have ho := Lib.hid (opened_anyP _ m hc _ (Hv.out.ext hE))
    have Hc := Lib.hid hc; clear hc
    go_enter Tryz.func113, Tryz.ntmps113
    go_wp2_with fail
    refine ho.out.mono ?_
    rintro e w1 ⟨D, rfl, hD, hlD, he1⟩
    have hE1 := hE.trans he1
    have HD := Lib.hid hD
    have hM1 := HM.out.ext he1
    have hlD' : w.heap.size ≤ D := by have := hE.size; omega
    clear k0 k1 ho HM hD hE he1 hlD
    obtain ⟨k0, k1⟩ := hM1.c2
    obtain ⟨q, hq⟩ : ∃ q, inB k 0 (m.wvs.length - 1) = q := ⟨_, rfl⟩
    have Hq := Lib.hid hq
    have hwk := Lib.hid (pweaver_any _ m k q hq w1 (Hv.out.ext hE1))
    clear hq
    go_wp2_with fail
    refine hwk.out.mono ?_
    rintro e w2 ⟨rfl, he2⟩
    have hE2 := hE1.trans he2
    cases q with
    | false =>
      obtain rfl : r = 1 := by rw [← Hr.out]; unfold knownE; simp [Hc.out, Hq.out]
      go_wp2_with fail
      go_ret2
      exact ⟨_, rfl, hE2, fun h => absurd h (by decide)⟩
    | true =>
      obtain rfl : r = 0 := by rw [← Hr.out]; unfold knownE; simp [Hc.out, Hq.out]
      go_wp2_with fail
      go_ret2
      exact ⟨_, rfl, hE2, fun _ => ⟨D, rfl, HD.out.ext he2, hlD'⟩⟩
  · have ho := Lib.hid (openedErrP _ m _ rfl hc _ (Hv.out.ext hE))
    obtain rfl : r = checkP m := by rw [← Hr.out]; unfold knownE; rw [if_pos hc]
    have hd : (checkP m != 0) = true := by simpa using hc
    have hd0 : (checkP m == 0) = false := by simpa using hc
    have Hc := Lib.hid hc; clear hc
    generalize checkP m = r at *
    go_enter Tryz.func113, Tryz.ntmps113
    go_wp2_with fail
    refine ho.out.mono ?_
    rintro e w1 ⟨rfl, he1⟩
    go_wp2_with fail
    go_ret2
    exact ⟨_, rfl, hE.trans he1, fun h => absurd h Hc.out⟩

set_option maxRecDepth 20000 in
theorem grouped_any (v : Value) (m : PM) (A : Option Addr) (c n : Nat) (g : List Int) (hn : g.length = n) (r : Int) (hr : groupE m g = r) (w : World) (hv : PMVal w v m) (hl : n ≤ maxLen) (hlc : n ≤ c) (hA : IntsAt w A g) : Calls Tryz.prog 108 #[v, .slice A n c] w (OpensP m r w) := by
  subst hn
  have Hr := Lib.hid hr; clear hr
  have hmf : ∀ (fn : Fn) (first cap : Array Value) (w : World), (Instr.makeFunc fn first cap).run Tryz.prog w = .ok (.func fn first cap) w := fun _ _ _ _ => rfl
  have Hv := Lib.hid hv
  obtain ⟨A1, c1, A2, c2, rfl, h2, h3, h4, h5, h6, h7⟩ := hv
  have hwl : m.wvs.length ≤ maxLen := Nat.le_trans h4 h5
  unfold maxLen at hwl
  have hE := Ext.alloc w (.cells #[.slice A1 m.shafts.length c1, .slice A2 m.wvs.length c2] 56)
  have hM := Blk.new w 56 #[.slice A1 m.shafts.length c1, .slice A2 m.wvs.length c2]
  obtain ⟨k0, k1⟩ := hM.c2
  have HM := Lib.hid hM
  clear hM h6 h7
  by_cases hc : checkP m = 0
  · have ho := Lib.hid (opened_anyP _ m hc _ (Hv.out.ext hE))
    have Hc := Lib.hid hc; clear hc
    go_enter Tryz.func108, Tryz.ntmps108
    go_wp2_with fail
    refine ho.out.mono ?_
    rintro e w1 ⟨D, rfl, hD, hlD, he1⟩
    have hE1 := hE.trans he1
    have HD := Lib.hid hD
    have hM1 := HM.out.ext he1
    have hlD' : w.heap.size ≤ D := by have := hE.size; omega
    clear k0 k1 ho HM hD hE he1 hlD
    obtain ⟨k0, k1⟩ := hM1.c2
    obtain ⟨q, hq⟩ : ∃ q, (g.all fun k => inB k 0 (m.wvs.length - 1)) = q := ⟨_, rfl⟩
    have Hq := Lib.hid hq
    have hev := everyIP 206 #[.agg #[.slice A1 m.shafts.length c1, .slice A2 m.wvs.length c2]] #[] (enters_of Tryz.func206 (by kernel_rfl) rfl) (fun k => inB k 0 (m.wvs.length - 1)) A c g w1 hl (hA.ext hE1)
      (fun y _ => fun W' v' hW' hv' => by
        obtain rfl : v' = .int .i64 y := hv'
        exact pweaver_any _ m y _ rfl W' (Hv.out.ext (hE1.trans hW')))
    rw [hq] at hev
    have Hev := Lib.hid hev
    clear hq hev
    go_wp2_with fail
    refine Hev.out.mono ?_
    rintro e w2 ⟨rfl, he2⟩
    have hE2 := hE1.trans he2
    cases q with
    | false =>
      obtain rfl : r = 1 := by rw [← Hr.out]; unfold groupE; simp [Hc.out, Hq.out]
      go_wp2_with fail
      go_ret2
      exact ⟨_, rfl, hE2, fun h => absurd h (by decide)⟩
    | true =>
      obtain ⟨q2, hq2⟩ : ∃ q2, twiceB g = q2 := ⟨_, rfl⟩
      have Hq2 := Lib.hid hq2
      have htw := Lib.hid (twice_anyP A c g q2 hq2 w2 hl hlc (hA.ext hE2))
      clear hq2
      go_wp2_with fail
      refine htw.out.mono ?_
      rintro e w3 ⟨rfl, rfl⟩
      cases q2 with
      | true =>
        obtain rfl : r = 5 := by rw [← Hr.out]; unfold groupE; simp [Hc.out, Hq.out, Hq2.out]
        go_wp2_with fail
        go_ret2
        exact ⟨_, rfl, hE2, fun h => absurd h (by decide)⟩
      | false =>
        obtain rfl : r = 0 := by rw [← Hr.out]; unfold groupE; simp [Hc.out, Hq.out, Hq2.out]
        go_wp2_with fail
        go_ret2
        exact ⟨_, rfl, hE2, fun _ => ⟨D, rfl, HD.out.ext he2, hlD'⟩⟩
  · have ho := Lib.hid (openedErrP _ m _ rfl hc _ (Hv.out.ext hE))
    obtain rfl : r = checkP m := by rw [← Hr.out]; unfold groupE; rw [if_pos hc]
    have hd : (checkP m != 0) = true := by simpa using hc
    have hd0 : (checkP m == 0) = false := by simpa using hc
    have Hc := Lib.hid hc; clear hc
    generalize checkP m = r at *
    go_enter Tryz.func108, Tryz.ntmps108
    go_wp2_with fail
    refine ho.out.mono ?_
    rintro e w1 ⟨rfl, he1⟩
    go_wp2_with fail
    go_ret2
    exact ⟨_, rfl, hE.trans he1, fun h => absurd h Hc.out⟩

set_option maxRecDepth 20000 in
theorem shared_anyP (v : Value) (m : PM) (A : Option Addr) (c n : Nat) (l : List Int) (hn : l.length = n) (r : Int) (hr : sharedE m l = r) (w : World) (hv : PMVal w v m) (hl : n ≤ maxLen) (hA : IntsAt w A l) : Calls Tryz.prog 198 #[v, .slice A n c] w (OpensP m r w) := by
  have hl' := hl
  unfold maxLen at hl'
  subst hn
  have Hr := Lib.hid hr; clear hr
  have hmf : ∀ (fn : Fn) (first cap : Array Value) (w : World), (Instr.makeFunc fn first cap).run Tryz.prog w = .ok (.func fn first cap) w := fun _ _ _ _ => rfl
  have Hv := Lib.hid hv
  obtain ⟨A1, c1, A2, c2, rfl, h2, h3, h4, h5, h6, h7⟩ := hv
  have hwl : m.wvs.length ≤ maxLen := Nat.le_trans h4 h5
  unfold maxLen at hwl
  have hE := Ext.alloc w (.cells #[.slice A1 m.shafts.length c1, .slice A2 m.wvs.length c2] 56)
  have hM := Blk.new w 56 #[.slice A1 m.shafts.length c1, .slice A2 m.wvs.length c2]
  obtain ⟨k0, k1⟩ := hM.c2
  have HM := Lib.hid hM
  clear hM h6 h7
  by_cases hc : checkP m = 0
  · have ho := Lib.hid (opened_anyP _ m hc _ (Hv.out.ext hE))
    have Hc := Lib.hid hc; clear hc
    go_enter Tryz.func198, Tryz.ntmps198
    go_wp2_with fail
    refine ho.out.mono ?_
    rintro e w1 ⟨D, rfl, hD, hlD, he1⟩
    have hE1 := hE.trans he1
    have HD := Lib.hid hD
    have hM1 := HM.out.ext he1
    have hlD' : w.heap.size ≤ D := by have := hE.size; omega
    clear k0 k1 ho HM hD hE he1 hlD
    obtain ⟨k0, k1⟩ := hM1.c2
    by_cases hle : l.length = m.wvs.length
    · have Hle := Lib.hid hle
      have hdl : ((l.length : Int) != (m.wvs.length : Int)) = false := by rw [hle]; simp
      clear hle
      obtain ⟨q, hq⟩ : ∃ q, (l.all fun x => inB x 0 1000000) = q := ⟨_, rfl⟩
      have Hq := Lib.hid hq
      have hev := everyIP 252 #[] #[] (enters_of Tryz.func252 (by kernel_rfl) rfl) (fun x => inB x 0 1000000) A c l w1 hl (hA.ext hE1) (fun y _ => sharedS1 w1 y)
      rw [hq] at hev
      have Hev := Lib.hid hev
      clear hq hev
      go_wp2_with fail
      refine Hev.out.mono ?_
      rintro e w2 ⟨rfl, he2⟩
      have hE2 := hE1.trans he2
      cases q with
      | false =>
        obtain rfl : r = 3 := by rw [← Hr.out]; unfold sharedE; simp [Hc.out, Hle.out, Hq.out]
        go_wp2_with fail
        go_ret2
        exact ⟨_, rfl, hE2, fun h => absurd h (by decide)⟩
      | true =>
        obtain rfl : r = 0 := by rw [← Hr.out]; unfold sharedE; simp [Hc.out, Hle.out, Hq.out]
        go_wp2_with fail
        go_ret2
        exact ⟨_, rfl, hE2, fun _ => ⟨D, rfl, HD.out.ext he2, hlD'⟩⟩
    · have Hle := Lib.hid hle
      have hdl : ((l.length : Int) != (m.wvs.length : Int)) = true := by simp; omega
      clear hle
      obtain rfl : r = 2 := by rw [← Hr.out]; unfold sharedE; simp [Hc.out, Hle.out]
      go_wp2_with fail
      go_ret2
      exact ⟨_, rfl, hE1, fun h => absurd h (by decide)⟩
  · have ho := Lib.hid (openedErrP _ m _ rfl hc _ (Hv.out.ext hE))
    obtain rfl : r = checkP m := by rw [← Hr.out]; unfold sharedE; rw [if_pos hc]
    have hd : (checkP m != 0) = true := by simpa using hc
    have hd0 : (checkP m == 0) = false := by simpa using hc
    have Hc := Lib.hid hc; clear hc
    generalize checkP m = r at *
    go_enter Tryz.func198, Tryz.ntmps198
    go_wp2_with fail
    refine ho.out.mono ?_
    rintro e w1 ⟨rfl, he1⟩
    go_wp2_with fail
    go_ret2
    exact ⟨_, rfl, hE.trans he1, fun h => absurd h Hc.out⟩

set_option maxRecDepth 20000 in
theorem sighted_any (v : Value) (m : PM) (A : Option Addr) (c n : Nat) (l : List Int) (hn : l.length = n) (r : Int) (hr : sightE m l = r) (w : World) (hv : PMVal w v m) (hl : n ≤ maxLen) (hA : IntsAt w A l) : Calls Tryz.prog 118 #[v, .slice A n c] w (OpensP m r w) := by
  have hl' := hl
  unfold maxLen at hl'
  subst hn
  have Hr := Lib.hid hr; clear hr
  have hmf : ∀ (fn : Fn) (first cap : Array Value) (w : World), (Instr.makeFunc fn first cap).run Tryz.prog w = .ok (.func fn first cap) w := fun _ _ _ _ => rfl
  have Hv := Lib.hid hv
  obtain ⟨A1, c1, A2, c2, rfl, h2, h3, h4, h5, h6, h7⟩ := hv
  have hwl : m.wvs.length ≤ maxLen := Nat.le_trans h4 h5
  unfold maxLen at hwl
  have hE := Ext.alloc w (.cells #[.slice A1 m.shafts.length c1, .slice A2 m.wvs.length c2] 56)
  have hM := Blk.new w 56 #[.slice A1 m.shafts.length c1, .slice A2 m.wvs.length c2]
  obtain ⟨k0, k1⟩ := hM.c2
  have HM := Lib.hid hM
  clear hM h6 h7
  by_cases hc : checkP m = 0
  · have ho := Lib.hid (opened_anyP _ m hc _ (Hv.out.ext hE))
    have Hc := Lib.hid hc; clear hc
    go_enter Tryz.func118, Tryz.ntmps118
    go_wp2_with fail
    refine ho.out.mono ?_
    rintro e w1 ⟨D, rfl, hD, hlD, he1⟩
    have hE1 := hE.trans he1
    have HD := Lib.hid hD
    have hM1 := HM.out.ext he1
    have hlD' : w.heap.size ≤ D := by have := hE.size; omega
    clear k0 k1 ho HM hD hE he1 hlD
    obtain ⟨k0, k1⟩ := hM1.c2
    by_cases hle : l.length = m.wvs.length
    · have Hle := Lib.hid hle
      have hdl : ((l.length : Int) != (m.wvs.length : Int)) = false := by rw [hle]; simp
      clear hle
      obtain ⟨q, hq⟩ : ∃ q, (l.all fun x => inB x 0 2) = q := ⟨_, rfl⟩
      have Hq := Lib.hid hq
      have hev := everyX 213 #[] #[] (enters_of Tryz.func213 (by kernel_rfl) rfl) (fun x => inB x 0 2) A c l w1 hl (hA.ext hE1) (fun y _ => sightedS1 w1 y)
      rw [hq] at hev
      have Hev := Lib.hid hev
      clear hq hev
      go_wp2_with fail
      refine Hev.out.mono ?_
      rintro e w2 ⟨rfl, he2⟩
      have hE2 := hE1.trans he2
      cases q with
      | false =>
        obtain rfl : r = 3 := by rw [← Hr.out]; unfold sightE; simp [Hc.out, Hle.out, Hq.out]
        go_wp2_with fail
        go_ret2
        exact ⟨_, rfl, hE2, fun h => absurd h (by decide)⟩
      | true =>
        obtain rfl : r = 0 := by rw [← Hr.out]; unfold sightE; simp [Hc.out, Hle.out, Hq.out]
        go_wp2_with fail
        go_ret2
        exact ⟨_, rfl, hE2, fun _ => ⟨D, rfl, HD.out.ext he2, hlD'⟩⟩
    · have Hle := Lib.hid hle
      have hdl : ((l.length : Int) != (m.wvs.length : Int)) = true := by simp; omega
      clear hle
      obtain rfl : r = 2 := by rw [← Hr.out]; unfold sightE; simp [Hc.out, Hle.out]
      go_wp2_with fail
      go_ret2
      exact ⟨_, rfl, hE1, fun h => absurd h (by decide)⟩
  · have ho := Lib.hid (openedErrP _ m _ rfl hc _ (Hv.out.ext hE))
    obtain rfl : r = checkP m := by rw [← Hr.out]; unfold sightE; rw [if_pos hc]
    have hd : (checkP m != 0) = true := by simpa using hc
    have hd0 : (checkP m == 0) = false := by simpa using hc
    have Hc := Lib.hid hc; clear hc
    generalize checkP m = r at *
    go_enter Tryz.func118, Tryz.ntmps118
    go_wp2_with fail
    refine ho.out.mono ?_
    rintro e w1 ⟨rfl, he1⟩
    go_wp2_with fail
    go_ret2
    exact ⟨_, rfl, hE.trans he1, fun h => absurd h Hc.out⟩
end Go.Proofs.Pet
