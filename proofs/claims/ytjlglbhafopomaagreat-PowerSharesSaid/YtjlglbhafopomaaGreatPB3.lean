/-
  The mill at work: power's opened and known, walked.
-/
import Derived.Test.YtjlglbhafopomaaGreatPB2
import Derived.Test.YtjlglbhafopomaaGreatB0
import Derived.Test.YtjlglbhafopomaaGreatPAM
namespace Go.Proofs.Pet
set_option linter.unusedSimpArgs false
open Go Go.RowKit Go.Maps Go.Shelf
open Go.Proofs.Pow (PM Sh Wv POk)
attribute [local go_sem] Oper.semAt_some

/-- what has been marked: the weavers before i, and those shafts of i's line that have come -/
def drvU (m : PM) (i : Nat) (l : List Int) (s k : Nat) : Bool := (decide (k < i) && m.drv s k) || (decide (k = i) && l.contains (s : Int))
theorem drvU_nil (m : PM) (s k : Nat) : drvU m 0 [] s k = false := by simp [drvU]
theorem drvU_next (m : PM) (i : Nat) (s k : Nat) : drvU m i (m.line (m.wv i).shaft) s k = drvU m (i + 1) [] s k := by
  unfold drvU PM.drv
  by_cases h : k = i
  · subst h; simp
  · have h1 : decide (k < i + 1) = decide (k < i) := by
      rw [decide_eq_decide]; omega
    simp [h, h1]
theorem drvU_snoc (m : PM) (i : Nat) (l : List Int) (c s k : Nat) : (if s = c ∧ k = i then true else drvU m i l s k) = drvU m i (l ++ [(c : Int)]) s k := by
  unfold drvU
  by_cases h : k = i
  · subst h
    by_cases h2 : s = c
    · subst h2; simp
    · have : ¬ ((s : Int) = (c : Int)) := by omega
      simp [h2, List.contains_eq_mem]
      intro h; omega
  · simp [h]
theorem drvU_all (m : PM) (s k : Nat) : drvU m m.wvs.length [] s k = drvC m s k := by
  unfold drvU drvC; simp

theorem Marks.above {W : World} {lo hi : Nat} {ds : List Deferred} {p : Addr} (h : Marks W lo hi ds) (hp : hi ≤ p.block) (v : Value) : Marks (W.setCell p v) lo hi ds := by
  obtain ⟨l, h1, h2, h3⟩ := h
  refine ⟨l, h1, h2, fun D hD => ⟨(h3 D hD).1, (h3 D hD).2.1, ?_⟩⟩
  exact (Below.heap_setCell W p v D fun e => by have := (h3 D hD).2.1; omega).trans (h3 D hD).2.2

set_option maxRecDepth 20000 in
theorem openedErr (v : Value) (m : PM) (r : Int) (hr : checkP m = r) (h0 : r ≠ 0) (w : World) (hv : PMVal w v m) :
    Calls Tryz.prog 113 #[v] w fun e w' => e = .returned (.tuple #[.pointer none, .int .i64 r]) ∧ Ext w w' := by
  have Hv := Lib.hid hv
  obtain ⟨A1, c1, A2, c2, rfl, h2, h3, h4, h5, h6, h7⟩ := hv
  have hE := Ext.alloc w (.cells #[.slice A1 m.shafts.length c1, .slice A2 m.wvs.length c2] 26)
  have hM := Blk.new w 26 #[.slice A1 m.shafts.length c1, .slice A2 m.wvs.length c2]
  have f0 := hM.frozen 0
  obtain ⟨k0, k1⟩ := hM.c2
  have hck := pcheck_any _ m _ (Hv.out.ext hE)
  rw [hr] at hck
  have Hck := Lib.hid hck
  have hd : (r != 0) = true := by simpa using h0
  clear hck h6 h7 hM
  go_enter Tryz.func113, Tryz.ntmps113
  go_wp2_with fail
  refine Hck.out.mono ?_
  rintro e w' ⟨rfl, he⟩
  go_wp2_with fail
  go_ret2
  exact ⟨rfl, hE.trans he⟩


set_option maxRecDepth 20000 in
set_option maxHeartbeats 2000000 in
theorem opened_any (v : Value) (m : PM) (hr : checkP m = 0) (w : World) (hv : PMVal w v m) :
    Calls Tryz.prog 113 #[v] w fun e w' => ∃ D, e = .returned (.tuple #[.pointer (some ⟨D, 0, none⟩), .int .i64 0]) ∧ DeskAt w' D m ∧ w.heap.size ≤ D ∧ Ext w w' := by
  have hok := (checkP_iff m).1 hr
  have hok' := Lib.hid hok
  obtain ⟨⟨l1, l2⟩, l3, -, -, hup, hat, -⟩ := hok
  have Hv := Lib.hid hv
  obtain ⟨A1, c1, A2, c2, rfl, h2, h3, h4, h5, h6, h7⟩ := hv
  have hE := Ext.alloc w (.cells #[.slice A1 m.shafts.length c1, .slice A2 m.wvs.length c2] 26)
  have hM := Blk.new w 26 #[.slice A1 m.shafts.length c1, .slice A2 m.wvs.length c2]
  have f0 := hM.frozen 0
  obtain ⟨k0, k1⟩ := hM.c2
  have hck := pcheck_any _ m _ (Hv.out.ext hE)
  rw [hr] at hck
  have Hck := Lib.hid hck
  have HM := Lib.hid hM
  have H6 := Lib.hid h6; have H7 := Lib.hid h7; have Hup := Lib.hid hup; have Hat := Lib.hid hat
  clear hck h6 h7 hM hup hat
  refine (callsIn_wide (n := 5)).1 ?_
  refine callsIn_of_wp_marks Tryz.func113 rfl trivial ?_ rfl
  simp only [Tryz.ntmps113, List.size_toArray, List.length_nil, Nat.reduceSub, Array.replicate_succ, Array.replicate_zero, List.push_toArray, List.append_toArray, List.nil_append, List.cons_append, List.length_cons, Nat.reduceAdd]
  refine wpIn_wide.2 ?_
  go_wp2_with fail
  refine Hck.out.mono ?_
  rintro e w1 ⟨rfl, he1⟩
  have hM1 := HM.out.ext he1
  have hE1 := hE.trans he1
  have hMlt : w.heap.size < w1.heap.size := hM1.lt
  have f1 := hM1.frozen 0
  clear k0 k1 f0 hE he1 HM Hck
  obtain ⟨k0, k1⟩ := hM1.c2
  go_wp2_with fail
  have hlit : (#[.slice A1 m.shafts.length c1, .slice A2 m.wvs.length c2, .bool false, .bool false, .bool false, .bool false, .bool false, .bool false, .bool false, .bool false, .bool false, .bool false, .bool false, .bool false, .bool false, .bool false, .bool false, .bool false, .bool false, .bool false, .bool false, .bool false, .bool false, .bool false, .bool false, .bool false, .bool false, .bool false, .bool false, .bool false, .bool false, .bool false, .bool false, .bool false, .bool false, .bool false, .bool false, .bool false, .bool false, .bool false, .bool false, .bool false, .bool false, .bool false, .bool false, .bool false, .bool false, .bool false, .bool false, .bool false, .bool false, .bool false, .bool false, .bool false, .bool false, .bool false] : Array Value) = deskC (.slice A1 m.shafts.length c1) (.slice A2 m.wvs.length c2) (drvU m 0 []) := by
    rw [deskC_congr (g := fun _ _ => false) fun s k _ _ => drvU_nil m s k]
    rfl
  rw [hlit]
  have hD := (Blk.new w1 165 (deskC (.slice A1 m.shafts.length c1) (.slice A2 m.wvs.length c2) (drvU m 0 []))).alloc (.cells #[.pointer (some ⟨w1.heap.size, 0, none⟩)] 135)
  have hP := Blk.new (w1.alloc (.cells (deskC (.slice A1 m.shafts.length c1) (.slice A2 m.wvs.length c2) (drvU m 0 [])) 165)) 135 #[.pointer (some ⟨w1.heap.size, 0, none⟩)]
  have hE2 : Ext w1 ((w1.alloc (.cells (deskC (.slice A1 m.shafts.length c1) (.slice A2 m.wvs.length c2) (drvU m 0 [])) 165)).alloc (.cells #[.pointer (some ⟨w1.heap.size, 0, none⟩)] 135)) := (Ext.alloc _ _).trans (Ext.alloc _ _)
  rw [World.size_alloc] at hP
  clear hlit k0 k1 f1
  generalize (w1.alloc _).alloc _ = W2 at *
  generalize hDe : w1.heap.size = D at *
  have hlen2 : m.wvs.length ≤ maxLen := Nat.le_trans h4 h5
  have hlen1 : m.shafts.length ≤ maxLen := Nat.le_trans h2 h3
  unfold maxLen at hlen2
  refine wp_loop_ghost_u (fun u gn a W => ∃ (i : Nat) (ds : List Deferred), a = ⟨#[.agg #[.slice A1 m.shafts.length c1, .slice A2 m.wvs.length c2], .pointer (some ⟨w.heap.size, 0, none⟩), .pointer none, .int .i64 0, .int .i64 0, .pointer (some ⟨D + 1, 0, none⟩), u 6, u 7, u 8, u 9, u 10, u 11, u 12, u 13, u 14, u 15, u 16, u 17, .slice A2 m.wvs.length c2, .int .i64 (m.wvs.length : Int), u 20, u 21, u 22, u 23, u 24, u 25, u 26, u 27, u 28, u 29, u 30, u 31, u 32, u 33, u 34, u 35, u 36, u 37, u 38], ds⟩ ∧ gn = m.wvs.length - i ∧ u 20 = .int .i64 (i : Int) ∧ i ≤ m.wvs.length ∧ Ext w1 W ∧ Blk W D 165 (deskC (.slice A1 m.shafts.length c1) (.slice A2 m.wvs.length c2) (drvU m i [])) ∧ Blk W (D + 1) 135 #[.pointer (some ⟨D, 0, none⟩)] ∧ Marks W w.heap.size W.heap.size ds) (m.wvs.length) ⟨0, [], rfl, by omega, rfl, by omega, hE2, hD, hP, Marks.nil _ _ _⟩ ?_
  rintro uA gn a W ⟨i, ds, rfl, rfl, hu20, hi, he2, hD2, hP2, hm2⟩ JA KA hJA hKA
  rw [hu20]
  clear hE2 hD hP
  have hM2 := hM1.ext he2
  obtain ⟨k0, k1⟩ := hM2.c2
  have f0 := hM2.frozen 0
  have hszW := he2.size
  by_cases hlt : i < m.wvs.length
  · obtain ⟨b, o, rfl, A3, c3, h3', s1, s2, s3⟩ := H7.out.ext (hE1.trans he2) i hlt
    have hwv : m.wvs[i]?.getD default = m.wv i := rfl
    rw [hwv] at s1 s2 s3 h3'
    have hat := Hat.out i hlt
    obtain ⟨sf, hsf⟩ : ∃ sf, (m.wv i).shaft = sf := ⟨_, rfl⟩
    rw [hsf] at s1 hat
    obtain ⟨hl, hhl⟩ : ∃ hl, (m.wv i).hours.length = hl := ⟨_, rfl⟩
    rw [hhl] at s2
    have hX : Ext W ((W.alloc (.cells #[.int .i64 (i : Int)] 3)).alloc (.cells #[.int .i64 sf, .slice A3 hl c3] 82)) := (Ext.alloc _ _).trans (Ext.alloc _ _)
    have hK := (Blk.new W 3 #[.int .i64 (i : Int)]).alloc (.cells #[.int .i64 sf, .slice A3 hl c3] 82)
    have hV := Blk.new (W.alloc (.cells #[.int .i64 (i : Int)] 3)) 82 #[.int .i64 sf, .slice A3 hl c3]
    rw [World.size_alloc] at hV
    obtain ⟨v0, v1⟩ := hV.c2
    have hline := Lib.hid (pline_any A1 (some ⟨b, o, none⟩) m.shafts.length c1 m.wvs.length c2 sf)
    have S3 := Lib.hid s3; have Hhl := Lib.hid hhl
    have k0' := hX.cell k0
    have k1' := hX.cell k1
    clear s3 hhl hwv h3' k0 k1
    go_wp2_with fail
    refine (hline.out _).mono ?_
    rintro e W5 ⟨hv5, he5, hL1, hL2, hsz5⟩
    simp only [World.size_alloc] at hv5 hL1 hL2 hsz5
    subst hv5
    have hXW := hX.trans he5
    have heW := he2.trans hXW
    have hD5 := hD2.ext hXW
    have hP5 := hP2.ext hXW
    have hK5 := hK.ext he5
    have hV5 := hV.ext he5
    have hm5 := hm2.ext hXW
    have hA5 := H6.out.ext (hE1.trans heW)
    have hDlt : D + 1 < W.heap.size := hP2.lt
    clear hX hXW hD2 hP2 hK hV hm2 hM2 k0' k1' f0 v0 v1 he5 hszW
    generalize W.heap.size = L at *
    have hL5 : L + 2 + 1 < W5.heap.size := hL2.lt
    have hlow : ∀ k, k < m.shafts.length → ∀ ad, A1 = some ad → ad.block < D := fun k hk ad e => by
      have := H6.out.low_lt k hk ad e
      omega
    go_wp2_with fail
    apply wp_line (n1 := D) (B := L + 2) Hup.out (by omega) hlen1 (s := sf) (by omega) hL1 hL2 hA5 hlow rfl rfl
      (fun pre W => W5.heap.size ≤ W.heap.size ∧ Ext w1 W ∧ Blk W D 165 (deskC (.slice A1 m.shafts.length c1) (.slice (some ⟨b, o, none⟩) m.wvs.length c2) (drvU m i (pre.map fun y : OnLine m sf => y.1))) ∧ Blk W (D + 1) 135 #[.pointer (some ⟨D, 0, none⟩)] ∧ Blk W L 3 #[.int .i64 (i : Int)] ∧ Marks W w.heap.size L ds)
      (fun pre W W' ⟨h0, h1, h2, h3, h4, h5⟩ hl => ⟨Nat.le_trans h0 hl.size, h1.loops hl heW.size, h2.loops hl, h3.loops hl, h4.loops hl, h5.loops hl (by omega)⟩)
      (fun pre W W' ⟨h0, h1, h2, h3, h4, h5⟩ ht => ?hturn) ⟨Nat.le_refl _, heW, hD5, hP5, hK5, hm5⟩
    case hturn =>
      obtain ⟨v, rfl⟩ := ht
      have hlt2 : L + 2 + 1 < W5.heap.size := hL2.lt
      have hsP : D + 1 < L := hDlt
      exact ⟨by rw [World.size_setCell]; exact h0, Below.setCell h1 (by show _ ≤ L + 2 + 1; omega) _, h2.far (by show D ≠ L + 2 + 1; omega) _, h3.far (by show D + 1 ≠ L + 2 + 1; omega) _, h4.far (by show L ≠ L + 2 + 1; omega) _, h5.above (by show L ≤ L + 2 + 1; omega) _⟩
    case hassign =>
      intro l x W K hK
      simp only [encO]
      gi_wp2
      exact hK
    case hbody =>
      rintro l pre x W ⟨i0, i1, i2, i3, i4, i5⟩ -
      obtain ⟨xv, hxm⟩ := x
      have hxl := line_lt hok'.out hlt (hsf ▸ hxm)
      obtain ⟨c, rfl⟩ : ∃ c : Nat, xv = c := ⟨xv.toNat, by omega⟩
      have hc9 : c < 9 := by omega
      have hi6 : i < 6 := by omega
      have p0 := i3.c1
      have q0 := i4.c1
      gi_wp2_with fail
      refine wpIn_region_chain 7 [] [] (by kernel_rfl) (by kernel_rfl) (by kernel_rfl) ?_
      simp only [List.take, List.drop, fill, Act.put, List.setIfInBounds_toArray, List.set_cons_zero, List.set_cons_succ, Nat.reduceAdd]
      repeat (first
        | refine FloatsIn.mut rfl ?_
        | (apply FloatsIn.float rfl
           · intro x W he hd K Q hK
             try (have he := he (by decide); have p0 := he.cell p0; have q0 := he.cell q0)
             try simp only [edges, DepsE, List.filter_cons, List.filter_nil, Region.binds, if_true, and_true, true_and, upd, Nat.reduceEqDiff, if_false] at hd
             try simp only [hd] at hK ⊢
             have HK := Lib.hid hK; clear hK
             gi_wp2_with fail
             exact HK.out))
      refine FloatsIn.done fun W he hG => ?_
      refine ChainIn.nil ?_
      simp only [upd, Nat.reduceEqDiff, if_false, if_true]
      have hDW := i2.ext he
      have hcell : W.cell? ⟨D, 2 + c * 6 + i, none⟩ = some (.bool (drvU m i (pre.map fun y : OnLine m sf => y.1) c i)) := by rw [hDW.cell, deskC_cell _ _ _ hc9 hi6]
      have hfr := hDW.frozen (2 + c * 6 + i)
      gi_wp2_with fail
      have hszX := he.size
      have hsP : D + 1 < L := hDlt
      have hnh : ∀ j, j ≠ D → (W.setCell ⟨D, 2 + c * 6 + i, none⟩ (.bool true)).heap[j]? = W.heap[j]? := fun j hj => Below.heap_setCell W _ _ j hj
      refine ⟨(keepsFrom_ext he).trans ((KeepsOthers.setCell _ _ _).from _), ⟨fun k hk => (hnh k (by omega)).trans (Below.block he k (by omega)), (hnh (L + 2) (by omega)).trans (Below.block he _ (by omega)), (hnh (L + 2 + 1) (by omega)).trans (Below.block he _ (by omega))⟩, ?_, ?_, ?_, ?_, ?_, ?_⟩
      · rw [World.size_setCell]; omega
      · exact Below.setCell (i1.trans he) (by show _ ≤ D; omega) _
      · have h9 := hDW.set_ (2 + c * 6 + i) (.bool true)
        rw [deskC_set _ _ _ hc9 hi6] at h9
        rw [List.map_append, List.map_singleton]
        rw [deskC_congr fun s k _ _ => drvU_snoc m i _ c s k] at h9
        exact h9
      · exact (i3.ext he).far (by show _ ≠ D; omega) _
      · exact (i4.ext he).far (by show _ ≠ D; omega) _
      · exact (i5.ext he).set_ (p := ⟨D, 2 + c * 6 + i, none⟩) hDW _
    case hdone =>
      intro Dd xs W hDd hxs ⟨i0, i1, i2, i3, i4, i5⟩ hdef
      rw [hxs, ← hsf, deskC_congr fun s k _ _ => drvU_next m i s k] at i2
      have hp := i5.push (by have := hE1.size; have := heW.size; omega) (by omega) hdef
      have hDlt := (Array.getElem?_eq_some_iff.1 hdef).1
      clear hdef i5 i4
      go_wp2_with fail
      refine Handed.intro (m.wvs.length - (i + 1)) (by omega) (hJA _ _ _ ⟨i + 1, _, rfl, rfl, by show Value.int .i64 _ = _; go_num, by omega, i1, i2, i3, hp.mono (by omega)⟩)
  · obtain rfl : i = m.wvs.length := by omega
    rw [deskC_congr fun s k _ _ => drvU_all m s k] at hD2
    have p0 := hP2.c1
    go_wp2_with fail
    refine leaves_marks' ds W hm2 (fun W' => results_tmp2 rfl _ _ _) (fun W' hq => ⟨D, rfl, ⟨A1, c1, A2, c2, hq.blk hD2, h2, h3, h4, h5, H6.out.ext (hq.ext (hE1.trans he2) (Nat.le_refl _)), H7.out.ext (hq.ext (hE1.trans he2) (Nat.le_refl _))⟩, by omega, hq.ext (hE1.trans he2) (Nat.le_refl _)⟩)
end Go.Proofs.Pet
