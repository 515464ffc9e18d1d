/-
  What a group costs, walked: power's cost.
-/
import Derived.Test.YtjlglbhafopomaaGreatPB4
import Derived.Test.YtjlglbhafopomaaGreatPAM
namespace Go.Proofs.Pet
set_option linter.unusedSimpArgs false
open Go Go.RowKit Go.Maps Go.Shelf
open Go.Proofs.Pow (PM Sh Wv POk)
attribute [local go_sem] Oper.semAt_some

theorem MarkMap.lt {w : World} {M cnt : Nat} {f : Nat → Nat → Bool} (h : MarkMap w M cnt f) : M < w.heap.size := by
  obtain ⟨D, h1, _⟩ := h
  exact h1.lt
theorem MarkMap.same {w w' : World} {M cnt : Nat} {f : Nat → Nat → Bool} (h : MarkMap w M cnt f) (hs : w'.heap[M]? = w.heap[M]?) : MarkMap w' M cnt f := by
  obtain ⟨D, ⟨es, clock, hb, F, hs', hD⟩, h2⟩ := h
  exact ⟨D, ⟨es, clock, hs.trans hb, F, hs', hD⟩, h2⟩
theorem MarkMap.congr {w : World} {M cnt cnt' : Nat} {f g : Nat → Nat → Bool} (h : MarkMap w M cnt f) (hc : cnt = cnt') (hfg : f = g) : MarkMap w M cnt' g := by subst hc; subst hfg; exact h
theorem line_len {m : PM} (hu : Pow.UpOk m) : ∀ s : Nat, s < m.shafts.length → (m.line s).length ≤ s + 1 := by
  intro s
  induction s using Nat.strongRecOn with
  | _ s ih =>
    intro hs
    rw [Pow.line_cons m hu hs, List.length_cons]
    have h := hu s hs
    rcases Int.lt_or_le (m.sh s).up 0 with h0 | h0
    · rw [Pow.line_neg m h0]; simp
    · obtain ⟨u, hu'⟩ : ∃ u : Nat, (m.sh s).up = u := ⟨_, (Int.toNat_of_nonneg h0).symm⟩
      rw [hu'] at h ⊢
      have := ih u (by omega) (by omega)
      omega
theorem hours_len {l : List Int} (hr : l.Pairwise (· < ·)) (hb : ∀ h, h ∈ l → 0 ≤ h ∧ h ≤ 23) : l.length ≤ 24 := by
  have hn : l.Nodup := hr.imp fun h => by omega
  have := Pow.nodup_le (r := (List.range 24).map fun i : Nat => (i : Int)) hn fun x hx => by
    have := hb x hx
    exact List.mem_map.2 ⟨x.toNat, List.mem_range.2 (by omega), by omega⟩
  simpa using this
theorem take_snoc {l : List Int} {k : Nat} (hk : k < l.length) {x : Int} (e : l[k]?.getD 0 = x) : l.take (k + 1) = l.take k ++ [x] := by
  rw [List.take_add_one, List.getElem?_eq_getElem hk]
  rw [List.getElem?_eq_getElem hk] at e
  simp only [Option.getD_some] at e
  rw [e]; rfl

set_option maxRecDepth 20000 in
set_option maxHeartbeats 2000000 in
theorem cost_any (D : Nat) (m : PM) (hm : POk m) (A : Option Addr) (c n : Nat) (g : List Int) (hn : g.length = n) (hg : Pow.InG m g) (hl : n ≤ 100) (r : Int) (hr : Pow.costF m (fun k => g.contains (k : Int)) = r) (w : World) (hD : DeskAt w D m) (hA : IntsAt w A g) :
    Calls Tryz.prog 112 #[.pointer (some ⟨D, 0, none⟩), .slice A n c] w fun e w' => e = .returned (.int .i64 r) ∧ Ext w w' := by
  subst hn
  have Hr : Hid (Pow.sumM m (Pow.mkG m g) = r) := by unfold Hid; rw [Pow.cost_mkG hg, hr]
  clear hr
  have Hm := Lib.hid hm
  obtain ⟨⟨l1, l2⟩, l3, -, hho, hup, hat, hri⟩ := hm
  have HD := Lib.hid hD
  obtain ⟨A1, c1, A2, c2, d0, d1, hv, hS, hW⟩ := hD.slices
  have HS := Lib.hid hS; have HW := Lib.hid hW; have Hup := Lib.hid hup; have Hat := Lib.hid hat; have HA := Lib.hid hA; have Hg := Lib.hid hg; have Hho := Lib.hid hho; have Hri := Lib.hid hri
  have hDlt := hD.lt
  clear hv hS hW hup hat hA hD hho hri
  refine (callsIn_wide (n := 5)).1 ?_
  refine callsIn_of_wp_marks Tryz.func112 rfl trivial ?_ rfl
  simp only [Tryz.ntmps112, List.size_toArray, List.length_nil, Nat.reduceSub, Array.replicate_succ, Array.replicate_zero, List.push_toArray, List.append_toArray, List.nil_append, List.cons_append, List.length_cons, Nat.reduceAdd]
  refine wpIn_wide.2 ?_
  have hmm := @run_makeMap Tryz.prog
  go_wp2_with fail
  have D0 := Lib.hid d0; have D1 := Lib.hid d1
  clear hmm d0 d1
  obtain ⟨L0, hL0⟩ : ∃ L0, w.heap.size = L0 := ⟨_, rfl⟩
  have hX : Ext w ((((w.alloc (.cells #[.pointer (some ⟨D, 0, none⟩)] 135)).alloc (.cells #[.int .i64 0] 3)).alloc (.map #[] 0)).alloc (.cells #[.map (some (L0 + 2))] 204)) := (((Ext.alloc _ _).trans (Ext.alloc _ _)).trans (Ext.alloc _ _)).trans (Ext.alloc _ _)
  have b0 := (((Blk.new w 135 #[.pointer (some ⟨D, 0, none⟩)]).alloc (.cells #[.int .i64 0] 3)).alloc (.map #[] 0)).alloc (.cells #[.map (some (L0 + 2))] 204)
  have b1 := ((Blk.new (w.alloc (.cells #[.pointer (some ⟨D, 0, none⟩)] 135)) 3 #[.int .i64 0]).alloc (.map #[] 0)).alloc (.cells #[.map (some (L0 + 2))] 204)
  have b2 := (MarkMap.made ((w.alloc (.cells #[.pointer (some ⟨D, 0, none⟩)] 135)).alloc (.cells #[.int .i64 0] 3))).ext (Ext.alloc _ (.cells #[.map (some (L0 + 2))] 204))
  have b3 := Blk.new (((w.alloc (.cells #[.pointer (some ⟨D, 0, none⟩)] 135)).alloc (.cells #[.int .i64 0] 3)).alloc (.map #[] 0)) 204 #[.map (some (L0 + 2))]
  simp only [World.size_alloc, hL0] at b0 b1 b2 b3 ⊢
  generalize (((w.alloc _).alloc _).alloc _).alloc _ = W2 at *
  refine wp_loop_ghost_u (fun u gn a W => ∃ (i cnt : Nat) (ds : List Deferred), a = ⟨#[.pointer (some ⟨D, 0, none⟩), .slice A g.length c, .pointer (some ⟨L0, 0, none⟩), u 3, .int .i64 0, .pointer (some ⟨L0 + 1, 0, none⟩), .pointer (some ⟨L0 + 1 + 1 + 1, 0, none⟩), u 7, u 8, u 9, u 10, u 11, u 12, u 13, .slice A g.length c, .int .i64 (g.length : Int), u 16, u 17, u 18, u 19, u 20, u 21, u 22, u 23, u 24, u 25, u 26, u 27, u 28, u 29, u 30, u 31, u 32, u 33, u 34, u 35, u 36, u 37, u 38, u 39, u 40, u 41, u 42, u 43, u 44, u 45, u 46, u 47, u 48, u 49, u 50, u 51, u 52, u 53, u 54, u 55, u 56, u 57, u 58, u 59, u 60, u 61, u 62, u 63, u 64, u 65, u 66, u 67, u 68, u 69, u 70, u 71], ds⟩ ∧ gn = g.length - i ∧ u 16 = .int .i64 (i : Int) ∧ i ≤ g.length ∧ cnt ≤ i * 216 ∧ Ext w W ∧ Blk W L0 135 #[.pointer (some ⟨D, 0, none⟩)] ∧ Blk W (L0 + 1) 3 #[.int .i64 (Pow.sumM m (Pow.mkG m (g.take i)))] ∧ MarkMap W (L0 + 2) cnt (Pow.mkG m (g.take i)) ∧ Blk W (L0 + 3) 204 #[.map (some (L0 + 2))] ∧ Marks W L0 W.heap.size ds) (g.length) ⟨0, 0, [], rfl, by omega, rfl, by omega, by omega, hX, b0, by rw [List.take_zero, Pow.mkG_nil, Pow.sumM_none]; exact b1, b2.congr rfl (by rw [List.take_zero, Pow.mkG_nil]), b3, Marks.nil _ _ _⟩ ?_
  rintro uA gn a W ⟨i, cnt, ds, rfl, rfl, hu16, hi, hcnt, heA, a0, a1, a2, a3, hmk⟩ JA KA hJA hKA
  rw [hu16]
  clear hX b0 b1 b2 b3
  by_cases hlt : i < g.length
  · obtain ⟨b, o, rfl, q1⟩ := HA.out.ext heA i hlt
    have hgk := Hg.out (g[i]?.getD 0) (by simp [hlt])
    obtain ⟨kk, hkk⟩ : ∃ kk : Nat, g[i]?.getD 0 = kk := ⟨_, (Int.toNat_of_nonneg hgk.1).symm⟩
    have Htk := Lib.hid (take_snoc hlt hkk)
    rw [hkk] at q1 hgk
    clear hkk
    have hkl : kk < m.wvs.length := by omega
    have hlt5 : kk ≤ maxLen := by unfold maxLen; omega
    unfold maxLen at hlt5
    have d1 := heA.cell D1.out
    have d0 := heA.cell D0.out
    obtain ⟨b2, o2, rfl, A3, c3, h3, j1, j2, j3⟩ := HW.out kk hkl
    have hwv : m.wvs[kk]?.getD default = m.wv kk := rfl
    rw [hwv] at h3 j1 j2 j3
    have hat := Hat.out kk hkl
    have Hho2 := Lib.hid (Hho.out kk hkl)
    have hhl := hours_len (Hri.out kk hkl) (Hho.out kk hkl)
    have hlen9 : (m.line (m.wv kk).shaft).length ≤ 9 := by
      obtain ⟨z, hz⟩ : ∃ z : Nat, (m.wv kk).shaft = z := ⟨_, (Int.toNat_of_nonneg hat.1).symm⟩
      rw [hz] at hat ⊢
      have := line_len Hup.out z (by omega)
      omega
    obtain ⟨wv, hwve⟩ : ∃ wv, m.wv kk = wv := ⟨_, rfl⟩
    rw [hwve] at h3 j1 j2 j3 hat Hho2 hhl hlen9
    have Hwv := Lib.hid hwve
    have J1 := Lib.hid j1; have J3 := Lib.hid j3
    replace j2 := heA.cell j2
    clear hwv hwve j1 j3
    obtain ⟨hn, hhn⟩ : ∃ hn, wv.hours.length = hn := ⟨_, rfl⟩
    rw [hhn] at j2 hhl h3
    have e0 := a0.c1
    have hLW : L0 + 3 < W.heap.size := a3.lt
    go_wp2_with fail
    clear e0 d0 d1 j2 q1
    have hs0 : Pow.mk3 m (g.take i) (kk : Int) (wv.hours.take 0) 0 [] = Pow.mkG m (g.take i) := by rw [List.take_zero]; exact Pow.mk3_start m _ _
    refine wp_loop_ghost_u (fun u gn a W2 => ∃ (j cnt : Nat) (ds : List Deferred), a = ⟨#[.pointer (some ⟨D, 0, none⟩), .slice (some ⟨b, o, none⟩) g.length c, .pointer (some ⟨L0, 0, none⟩), u 3, .int .i64 0, .pointer (some ⟨L0 + 1, 0, none⟩), .pointer (some ⟨L0 + 1 + 1 + 1, 0, none⟩), u 7, .int .i64 (kk : Int), u 9, u 10, u 11, u 12, u 13, .slice (some ⟨b, o, none⟩) g.length c, .int .i64 (g.length : Int), .int .i64 (i : Int), u 17, u 18, u 19, u 20, u 21, u 22, u 23, u 24, u 25, u 26, u 27, .slice A3 hn c3, .int .i64 (hn : Int), u 30, u 31, u 32, u 33, u 34, u 35, u 36, u 37, u 38, u 39, u 40, u 41, u 42, u 43, u 44, u 45, u 46, u 47, u 48, u 49, u 50, u 51, u 52, u 53, u 54, u 55, u 56, u 57, u 58, u 59, u 60, u 61, u 62, u 63, u 64, u 65, u 66, u 67, u 68, u 69, u 70, u 71], ds⟩ ∧ gn = hn - j ∧ u 30 = .int .i64 (j : Int) ∧ j ≤ hn ∧ cnt ≤ i * 216 + j * 9 ∧ Ext w W2 ∧ Blk W2 L0 135 #[.pointer (some ⟨D, 0, none⟩)] ∧ Blk W2 (L0 + 1) 3 #[.int .i64 (Pow.sumM m (Pow.mk3 m (g.take i) (kk : Int) (wv.hours.take j) 0 []))] ∧ MarkMap W2 (L0 + 2) cnt (Pow.mk3 m (g.take i) (kk : Int) (wv.hours.take j) 0 []) ∧ Blk W2 (L0 + 3) 204 #[.map (some (L0 + 2))] ∧ Marks W2 L0 W2.heap.size ds) (hn) ⟨0, cnt, ds, rfl, by omega, rfl, by omega, by omega, heA, a0, by rw [hs0]; exact a1, a2.congr rfl hs0.symm, a3, hmk⟩ ?_
    rintro uB gn a W2 ⟨j, cnt, ds, rfl, rfl, hu30, hj, hcnt2, heB, b0, b1, bM, b3, hmkB⟩ JB KB hJB hKB
    rw [hu30]
    clear hs0 heA a0 a1 a2 a3 hmk hLW
    have hLW : L0 + 3 < W2.heap.size := b3.lt
    by_cases hltj : j < hn
    · obtain ⟨b4, o4, rfl, q1⟩ := J3.out.ext heB j (by omega)
      have hhj := Hho2.out (wv.hours[j]?.getD 0) (by rw [List.getElem?_eq_getElem (by omega)]; exact List.getElem_mem _)
      obtain ⟨hh, hhh⟩ : ∃ hh : Nat, wv.hours[j]?.getD 0 = hh := ⟨_, (Int.toNat_of_nonneg hhj.1).symm⟩
      have Htj := Lib.hid (take_snoc (by omega) hhh)
      rw [hhh] at q1 hhj
      clear hhh
      have hX := Ext.alloc W2 (.cells #[.int .i64 (hh : Int)] 3)
      have hHB := Blk.new W2 3 #[.int .i64 (hh : Int)]
      have f0 := heB.cell D0.out
      go_upto_region 9 with fail
      clear q1 f0
      have heX := heB.trans hX
      have e0 := (b0.ext hX).c1
      have d0 := heX.cell D0.out
      have d1 := heX.cell D1.out
      have j1 := heX.cell J1.out
      have hX0 := b0.ext hX
      have hX1 := b1.ext hX
      have hXM := bM.ext hX
      have hX3 := b3.ext hX
      have hXK := hmkB.ext hX
      have hszX : (W2.alloc (.cells #[.int .i64 (hh : Int)] 3)).heap.size = W2.heap.size + 1 := World.size_alloc ..
      clear hX heB b0 b1 bM b3 hmkB
      generalize W2.alloc _ = W3 at *
      generalize W2.heap.size = L at *
      refine wp_region_chain 13 [] [] (by kernel_rfl) (by kernel_rfl) (by kernel_rfl) ?_
      simp only [List.take, List.drop, fill, Act.put, List.setIfInBounds_toArray, List.set_cons_zero, List.set_cons_succ, Nat.reduceAdd]
      repeat (first
        | refine Floats.mut rfl ?_
        | (apply Floats.float rfl
           · intro x W he hd K Q hK
             try (have he := he (by decide); have e0 := he.cell e0; have d0 := he.cell d0; have d1 := he.cell d1; have j1 := he.cell j1)
             try simp only [edges, DepsE, List.filter_cons, List.filter_nil, Region.binds, if_true, and_true, true_and, upd, Nat.reduceEqDiff, if_false] at hd
             try simp only [hd] at hK ⊢
             have HK := Lib.hid hK; clear hK
             go_wp2_with fail
             exact HK.out))
      refine Floats.done fun W he hG => ?_
      refine Chain.nil ?_
      simp only [upd, Nat.reduceEqDiff, if_false, if_true]
      have heY := heX.trans he
      have hline := Lib.hid (pline_any A1 (some ⟨b2, o2, none⟩) m.shafts.length c1 m.wvs.length c2 wv.shaft W)
      have hszY := he.size
      go_wp2_with fail
      refine hline.out.mono ?_
      rintro e W5 ⟨hv5, he5, hL1, hL2, hsz5⟩
      subst hv5
      replace hX0 := hX0.ext (he.trans he5)
      replace hX1 := hX1.ext (he.trans he5)
      replace hXM := hXM.ext (he.trans he5)
      replace hX3 := hX3.ext (he.trans he5)
      replace hXK := hXK.ext (he.trans he5)
      replace hHB := hHB.ext (he.trans he5)
      replace heY := heY.trans he5
      clear hline he he5 e0 d0 d1 j1 heX hG
      obtain ⟨Bk, hBk⟩ : ∃ Bk, W.heap.size = Bk := ⟨_, rfl⟩
      rw [hBk] at hL1 hL2 hsz5 hszY ⊢
      clear hBk
      have hlen1 : m.shafts.length ≤ maxLen := by unfold maxLen; omega
      have hlow : ∀ k, k < m.shafts.length → ∀ ad, A1 = some ad → ad.block < L0 := fun k hk ad e => by
        have := HS.out.low_lt k hk ad e
        omega
      have hgk2 : Hid (Pow.mk3 m (g.take i) (kk : Int) (wv.hours.take j) 0 [] = Pow.mk3 m (g.take i) (kk : Int) (wv.hours.take j) (hh : Int) []) := Pow.mk3_cur m _ _ _ _ _
      rw [hgk2.out] at hX1 hXM
      go_wp2_with fail
      apply wp_line (n1 := L0) (B := Bk) Hup.out (by omega) hlen1 (s := wv.shaft) (by omega) hL1 hL2 (HS.out.ext heY) hlow rfl rfl
        (fun pre W => ∃ cnt', cnt' ≤ cnt + pre.length ∧ W5.heap.size ≤ W.heap.size ∧ Ext w W ∧ Blk W L0 135 #[.pointer (some ⟨D, 0, none⟩)] ∧ Blk W (L0 + 1) 3 #[.int .i64 (Pow.sumM m (Pow.mk3 m (g.take i) (kk : Int) (wv.hours.take j) (hh : Int) (pre.map fun y : OnLine m wv.shaft => y.1)))] ∧
          MarkMap W (L0 + 2) cnt' (Pow.mk3 m (g.take i) (kk : Int) (wv.hours.take j) (hh : Int) (pre.map fun y : OnLine m wv.shaft => y.1)) ∧ Blk W (L0 + 3) 204 #[.map (some (L0 + 2))] ∧ Blk W L 3 #[.int .i64 (hh : Int)] ∧ Marks W L0 L ds)
        (fun pre W W' ⟨ct, h0, h1, h2, h3, h4, h5, h6, h7, h8⟩ hl => ⟨ct, h0, Nat.le_trans h1 hl.size, h2.loops hl (by omega), h3.loops hl, h4.loops hl, h5.same (hl.low _ (by omega) h5.lt), h6.loops hl, h7.loops hl, h8.loops hl (by omega)⟩)
        (fun pre W W' ⟨ct, h0, h1, h2, h3, h4, h5, h6, h7, h8⟩ ht => ?hturn) ⟨cnt, Nat.le_refl _, Nat.le_refl _, heY, hX0, hX1, hXM, hX3, hHB, hXK⟩
      case hturn =>
        obtain ⟨v, rfl⟩ := ht
        exact ⟨ct, h0, by rw [World.size_setCell]; exact h1, Below.setCell h2 (by show _ ≤ Bk + 1; omega) _, h3.far (by show L0 ≠ Bk + 1; omega) _, h4.far (by show L0 + 1 ≠ Bk + 1; omega) _, h5.same (Below.heap_setCell _ _ _ _ (by show L0 + 2 ≠ Bk + 1; omega)), h6.far (by show L0 + 3 ≠ Bk + 1; omega) _, h7.far (by show L ≠ Bk + 1; omega) _, h8.above (by show L ≤ Bk + 1; omega) _⟩
      case hassign =>
        intro l x W K hK
        simp only [encO]
        gi_wp2
        exact hK
      case hbody =>
        rintro l pre x Wr ⟨ct, hct, i1, i2, i3, i4, iM, i6, i7, i8⟩ hpl
        obtain ⟨xv, hxm⟩ := x
        have hxl := line_lt Hm.out hkl (x := xv) (by rw [Hwv.out]; exact hxm)
        obtain ⟨cc, rfl⟩ : ∃ cc : Nat, xv = cc := ⟨xv.toNat, by omega⟩
        obtain ⟨b6, o6, hA6, s1, s2⟩ := HS.out.ext i2 cc (by omega)
        have hb6 : b6 < L0 := hlow cc (by omega) _ hA6
        subst hA6
        have hsh : m.shafts[cc]?.getD default = m.sh cc := rfl
        rw [hsh] at s1 s2
        have hpr := Hm.out.price cc (by omega)
        have hct2 : ct ≤ 1048576 := by omega
        have hXs := Ext.alloc Wr (.cells #[.int .i64 (cc : Int), .int .i64 (hh : Int)] 206)
        have hsp := Blk.new Wr 206 #[.int .i64 (cc : Int), .int .i64 (hh : Int)]
        obtain ⟨p0, p1⟩ := hsp.c2
        have hMs := iM.ext hXs
        have hlook := hMs.look cc hh (by omega) (by omega)
        obtain ⟨ls, hls⟩ : ∃ ls, pre.map (fun y : OnLine m wv.shaft => y.1) = ls := ⟨_, rfl⟩
        have Hlsx : Hid ((pre ++ [(⟨(cc : Int), hxm⟩ : OnLine m wv.shaft)]).map (fun y : OnLine m wv.shaft => y.1) = ls ++ [(cc : Int)]) := by
          unfold Hid; rw [List.map_append, List.map_singleton, hls]
        have Hlsu : Hid ((pre ++ [(⟨(cc : Int), hxm⟩ : OnLine m wv.shaft)]).unattach = ls ++ [(cc : Int)]) := Hlsx
        rw [hls] at i4 hMs hlook
        clear hls
        have hsb := Pow.sumM_bounds Hm.out (Pow.mk3 m (g.take i) (kk : Int) (wv.hours.take j) (hh : Int) ls)
        have e3 := (i3.ext hXs).c1
        have e6 := (i6.ext hXs).c1
        have e7 := i7.c1
        have i4X := i4.ext hXs
        have hPL : Wr.heap.size = Wr.heap.size := rfl
        have hlkL : Bk + 1 < W5.heap.size := hL2.lt
        obtain ⟨q, hq⟩ : ∃ q, Pow.mk3 m (g.take i) (kk : Int) (wv.hours.take j) (hh : Int) ls cc hh = q := ⟨_, rfl⟩
        rw [hq] at hlook
        cases q with
        | true =>
          have hold := Lib.hid (Pow.mk3_old hq)
          clear hq
          gi_wp2_with fail
          refine ⟨keepsFrom_ext hXs, ⟨fun k hk => Below.block hXs k (by omega), Below.block hXs _ (by omega), Below.block hXs _ (by omega)⟩, ct, by rw [List.length_append]; omega, ?_, i2.trans hXs, i3.ext hXs, ?_, ?_, i6.ext hXs, i7.ext hXs, i8.ext hXs⟩
          · rw [World.size_alloc]; omega
          · rw [Hlsu.out, hold.out]; exact i4X
          · rw [Hlsu.out, hold.out]; exact hMs
        | false =>
          have hnew := Lib.hid (Pow.sum_new (show cc < m.shafts.length by omega) (show hh < 24 by omega) hq)
          have hsb2 := Pow.sumM_bounds Hm.out (Pow.mk3 m (g.take i) (kk : Int) (wv.hours.take j) (hh : Int) (ls ++ [(cc : Int)]))
          have hfn : Hid ((fun x y => if x = cc ∧ y = hh then true else Pow.mk3 m (g.take i) (kk : Int) (wv.hours.take j) (hh : Int) ls x y) = Pow.mk3 m (g.take i) (kk : Int) (wv.hours.take j) (hh : Int) (ls ++ [(cc : Int)])) := by
            unfold Hid
            funext x y
            rw [Pow.mk3_new]
            by_cases e : x = cc ∧ y = hh
            · rw [if_pos e]; simp [e.1, e.2]
            · rw [if_neg e]
              have : (decide (x = cc) && decide (y = hh)) = false := by simpa using e
              rw [this, Bool.or_false]
          clear hq
          obtain ⟨w', hrun, hM', hg⟩ := hMs.store cc hh (by omega) (by omega) hct2 true
          have HM' := Lib.hid hM'; clear hM'
          have hszX : (Wr.alloc (.cells #[.int .i64 (cc : Int), .int .i64 (hh : Int)] 206)).heap.size = Wr.heap.size + 1 := World.size_alloc ..
          have k2 : Ext w w' := Below.grown (i2.trans hXs) hg (by have := i2.size; omega) (fun k e => by cases e; omega)
          have k3 := (i3.ext hXs).grown hg (fun e => by cases e)
          have k4 := i4X.grown hg (fun e => by cases e)
          have k6 := (i6.ext hXs).grown hg (fun e => by cases e)
          have k7 := (i7.ext hXs).grown hg (fun e => by cases e; omega)
          have hszG := hg.size
          have hkb : ∀ k, k < Wr.heap.size → k ≠ L0 + 2 → w'.heap[k]? = Wr.heap[k]? := fun k hk hne => (hg.block k (by omega) (fun e => hne (by cases e; rfl))).trans (Below.block hXs k hk)
          have d0 := k2.cell D0.out
          have s3 := cell_of_blocks (hkb b6 (by have := i3.lt; omega) (by omega)) s2
          have c3 := k3.c1
          have c4 := k4.c1
          generalize (m.sh cc).price = pr at *
          have Hnew := Lib.hid hnew.out
          obtain ⟨S1, hS1⟩ : ∃ S1, Pow.sumM m (Pow.mk3 m (g.take i) (kk : Int) (wv.hours.take j) (hh : Int) ls) = S1 := ⟨_, rfl⟩
          rw [hS1] at hsb c4 k4
          have hS2 : Hid (Pow.sumM m (Pow.mk3 m (g.take i) (kk : Int) (wv.hours.take j) (hh : Int) (ls ++ [(cc : Int)])) = S1 + pr) := by unfold Hid; rw [Hnew.out, hS1]
          rw [hS2.out] at hsb2
          clear hS1 hnew s1 s2 i4X hMs
          gi_wp2_with fail
          refine wpIn_region_chain 11 [] [] (by kernel_rfl) (by kernel_rfl) (by kernel_rfl) ?_
          simp only [List.take, List.drop, fill, Act.put, List.setIfInBounds_toArray, List.set_cons_zero, List.set_cons_succ, Nat.reduceAdd]
          repeat (first
            | refine FloatsIn.mut rfl ?_
            | (apply FloatsIn.float rfl
               · intro x W he hd K Q hK
                 try (have he := he (by decide); have c4 := he.cell c4; have c3 := he.cell c3; have d0 := he.cell d0; have s3 := he.cell s3)
                 try simp only [edges, DepsE, List.filter_cons, List.filter_nil, Region.binds, if_true, and_true, true_and, upd, Nat.reduceEqDiff, if_false] at hd
                 try simp only [hd] at hK ⊢
                 have HK := Lib.hid hK; clear hK
                 gi_wp2_with fail
                 exact HK.out))
          refine FloatsIn.done fun W he hG => ?_
          refine ChainIn.nil ?_
          simp only [upd, Nat.reduceEqDiff, if_false, if_true]
          have hfr := (k4.ext he).frozen 0
          have c5 := (k4.ext he).c1
          gi_wp2_with fail
          have hWrL : L0 + 3 < Wr.heap.size := i6.lt
          have hnh : ∀ k, k ≠ L0 + 1 → (W.setCell ⟨L0 + 1, 0, none⟩ (.int .i64 (S1 + pr))).heap[k]? = W.heap[k]? := fun k hk => Below.heap_setCell W _ _ k hk
          have hkf : KeepsFrom W5.heap.size (Wr.alloc (.cells #[.int .i64 (cc : Int), .int .i64 (hh : Int)] 206)) w' := ⟨hg.size, fun k o hB hk _ => (hg.block k (Array.getElem?_eq_some_iff.1 hk).1 (fun e => by cases e; omega)).trans hk⟩
          have hall : ∀ k, k < Wr.heap.size → k ≠ L0 + 2 → k ≠ L0 + 1 → (W.setCell ⟨L0 + 1, 0, none⟩ (.int .i64 (S1 + pr))).heap[k]? = Wr.heap[k]? := fun k h1 h2 h3 => (hnh k h3).trans ((Below.block he k (by omega)).trans (hkb k h1 h2))
          have hsW := he.size
          refine ⟨((keepsFrom_ext hXs).trans hkf).trans ((keepsFrom_ext he).trans ((KeepsOthers.setCell _ _ _).from _)), ⟨fun k hk => hall k (by omega) (by omega) (by omega), hall _ (by omega) (by omega) (by omega), hall _ (by omega) (by omega) (by omega)⟩, ct + 1, by rw [List.length_append, List.length_singleton]; omega, ?_, Below.setCell (k2.trans he) (by show _ ≤ L0 + 1; omega) _, (k3.ext he).far (by show L0 ≠ L0 + 1; omega) _, ?_, ?_, (k6.ext he).far (by show L0 + 3 ≠ L0 + 1; omega) _, (k7.ext he).far (by show L ≠ L0 + 1; omega) _, ?_⟩
          · rw [World.size_setCell]; omega
          · rw [Hlsx.out, hS2.out]; exact by simpa using (k4.ext he).set_ 0 (.int .i64 (S1 + pr))
          · rw [Hlsx.out]
            exact (((HM'.out.ext he).same (hnh (L0 + 2) (by omega))).congr rfl hfn.out)
          · refine ⟨i8.choose, i8.choose_spec.1, i8.choose_spec.2.1, fun Dd hDd => ?_⟩
            obtain ⟨t1, t2, t3⟩ := i8.choose_spec.2.2 Dd hDd
            have hc1 : Dd ≠ L0 + 1 := fun e => by
              subst e
              have := i4
              unfold Blk at this
              rw [this] at t3; cases t3
            have hc2 : Dd ≠ L0 + 2 := fun e => by
              subst e
              obtain ⟨_, ⟨_, _, hb, _⟩, _⟩ := iM
              rw [hb] at t3; cases t3
            exact ⟨t1, t2, (hall Dd (Array.getElem?_eq_some_iff.1 t3).1 hc2 hc1).trans t3⟩
      case hdone =>
        intro Dd xs W hDd hxs ⟨ct, hct, i1, i2, i3, i4, iM, i6, i7, i8⟩ hdef
        have hxl : xs.length = (m.line wv.shaft).length := by rw [← hxs, List.length_map]
        have hEnd : Hid (Pow.mk3 m (g.take i) (kk : Int) (wv.hours.take j) (hh : Int) (m.line wv.shaft) = Pow.mk3 m (g.take i) (kk : Int) (wv.hours.take (j + 1)) 0 []) := by
          unfold Hid
          rw [Htj.out, Pow.mk3_hour]
          show Pow.mk3 m _ _ _ _ _ = Pow.mk3 m _ _ _ _ (m.line (m.wv kk).shaft)
          rw [Hwv.out]
        rw [hxs, hEnd.out] at i4 iM
        have hp := i8.push (by omega) (by omega) hdef
        have hDlt := (Array.getElem?_eq_some_iff.1 hdef).1
        clear hdef i8 i7
        go_wp2_with fail
        refine Handed.intro (hn - (j + 1)) (by omega) (hJB _ _ _ ⟨j + 1, ct, _, rfl, rfl, by show Value.int .i64 _ = _; go_num, by omega, by omega, i2, i3, i4, iM, i6, hp.mono (by omega)⟩)
    · obtain rfl : j = hn := by omega
      have hEnd : Hid (Pow.mk3 m (g.take i) (kk : Int) (wv.hours.take j) 0 [] = Pow.mkG m (g.take (i + 1))) := by
        unfold Hid
        rw [List.take_of_length_le (l := wv.hours) (by omega), Htk.out, ← Pow.mk3_end m (g.take i) (kk : Int) 0]
        show Pow.mk3 m _ _ _ _ _ = Pow.mk3 m _ _ (m.wv kk).hours _ _
        rw [Hwv.out]
      rw [hEnd.out] at b1 bM
      go_wp2_with fail
      refine Handed.intro (g.length - (i + 1)) (by omega) (hJA _ _ _ ⟨i + 1, cnt, _, rfl, rfl, by show Value.int .i64 _ = _; go_num, by omega, by omega, heB, b0, b1, bM, b3, hmkB⟩)
  · obtain rfl : i = g.length := by omega
    rw [List.take_of_length_le (Nat.le_refl _), Hr.out] at a1
    have e1 := a1.c1
    go_wp2_with fail
    exact leaves_marks' ds W hmk (fun W' => results_tmp rfl _ _ _) (fun W' hq => ⟨rfl, hq.ext heA (by omega)⟩)
end Go.Proofs.Pet
