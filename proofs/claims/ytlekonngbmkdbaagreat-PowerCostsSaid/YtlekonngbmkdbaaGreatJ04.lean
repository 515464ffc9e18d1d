/- Joined texts: PB5, PB6, PB7, PB8. -/
import Derived.Test.YtlekonngbmkdbaaGreatJ03
import Derived.Test.YtlekonngbmkdbaaGreatB0
import Derived.WalkMore
namespace Go.Proofs.Pet
set_option linter.unusedSimpArgs false
open Go Go.RowKit Go.Maps Go.Shelf
open Go.Proofs.Pow (PM Sh Wv POk)
attribute [local go_sem] Oper.semAt_some

theorem MarkMap.lt {w : World} {M cnt : Nat} {f : Nat → Nat → Bool} (h : MarkMap w M cnt f) : M < w.heap.size := by
  obtain ⟨D, h1, _⟩ := h
  exact h1.lt
theorem MarkMap.same {w w' : World} {M cnt : Nat} {f : Nat → Nat → Bool} (h : MarkMap w M cnt f) (hs : w'.heap[M]? = w.heap[M]?) : MarkMap w' M cnt f := by
  obtain ⟨D, ⟨es, clock, hb, F, hs', hD⟩, h2⟩ := h
  exact ⟨D, ⟨es, clock, hs.trans hb, F, hs', hD⟩, h2⟩
theorem MarkMap.congr {w : World} {M cnt cnt' : Nat} {f g : Nat → Nat → Bool} (h : MarkMap w M cnt f) (hc : cnt = cnt') (hfg : f = g) : MarkMap w M cnt' g := by subst hc; subst hfg; exact h
theorem line_len {m : PM} (hu : Pow.UpOk m) : ∀ s : Nat, s < m.shafts.length → (m.line s).length ≤ s + 1 := by
  intro s
  induction s using Nat.strongRecOn with
  | _ s ih =>
    intro hs
    rw [Pow.line_cons m hu hs, List.length_cons]
    have h := hu s hs
    rcases Int.lt_or_le (m.sh s).up 0 with h0 | h0
    · rw [Pow.line_neg m h0]; simp
    · obtain ⟨u, hu'⟩ : ∃ u : Nat, (m.sh s).up = u := ⟨_, (Int.toNat_of_nonneg h0).symm⟩
      rw [hu'] at h ⊢
      have := ih u (by omega) (by omega)
      omega
theorem hours_len {l : List Int} (hr : l.Pairwise (· < ·)) (hb : ∀ h, h ∈ l → 0 ≤ h ∧ h ≤ 23) : l.length ≤ 24 := by
  have hn : l.Nodup := hr.imp fun h => by omega
  have := Pow.nodup_le (r := (List.range 24).map fun i : Nat => (i : Int)) hn fun x hx => by
    have := hb x hx
    exact List.mem_map.2 ⟨x.toNat, List.mem_range.2 (by omega), by omega⟩
  simpa using this
theorem take_snoc {l : List Int} {k : Nat} (hk : k < l.length) {x : Int} (e : l[k]?.getD 0 = x) : l.take (k + 1) = l.take k ++ [x] := by
  rw [List.take_add_one, List.getElem?_eq_getElem hk]
  rw [List.getElem?_eq_getElem hk] at e
  simp only [Option.getD_some] at e
  rw [e]; rfl

set_option maxRecDepth 20000 in
set_option maxHeartbeats 2000000 in
theorem cost_anyP (D : Nat) (m : PM) (hm : POk m) (A : Option Addr) (c n : Nat) (g : List Int) (hn : g.length = n) (hg : Pow.InG m g) (hl : n ≤ 100) (r : Int) (hr : Pow.costF m (fun k => g.contains (k : Int)) = r) (w : World) (hD : DeskAt w D m) (hA : IntsAt w A g) :
    Calls Tryz.prog 109 #[.pointer (some ⟨D, 0, none⟩), .slice A n c] w fun e w' => e = .returned (.int .i64 r) ∧ Ext w w' := by
  subst hn
  have Hr : Hid (Pow.sumM m (Pow.mkG m g) = r) := by unfold Hid; rw [Pow.cost_mkG hg, hr]
  clear hr
  have Hm := Lib.hid hm
  obtain ⟨⟨l1, l2⟩, l3, -, hho, hup, hat, hri⟩ := hm
  have HD := Lib.hid hD
  obtain ⟨A1, c1, A2, c2, d0, d1, hv, hS, hW⟩ := hD.slices
  have HS := Lib.hid hS; have HW := Lib.hid hW; have Hup := Lib.hid hup; have Hat := Lib.hid hat; have HA := Lib.hid hA; have Hg := Lib.hid hg; have Hho := Lib.hid hho; have Hri := Lib.hid hri
  have hDlt := hD.lt
  clear hv hS hW hup hat hA hD hho hri
  refine (callsIn_wide (n := 5)).1 ?_
  refine callsIn_of_wp_marks Tryz.func109 rfl trivial ?_ rfl
  simp only [Tryz.ntmps109, List.size_toArray, List.length_nil, Nat.reduceSub, Array.replicate_succ, Array.replicate_zero, List.push_toArray, List.append_toArray, List.nil_append, List.cons_append, List.length_cons, Nat.reduceAdd]
  refine wpIn_wide.2 ?_
  have hmm := @run_makeMap Tryz.prog
  go_wp2_with fail
  have D0 := Lib.hid d0; have D1 := Lib.hid d1
  clear hmm d0 d1
  obtain ⟨L0, hL0⟩ : ∃ L0, w.heap.size = L0 := ⟨_, rfl⟩
  have hX : Ext w ((((w.alloc (.cells #[.pointer (some ⟨D, 0, none⟩)] 175)).alloc (.cells #[.int .i64 0] 3)).alloc (.map #[] 0)).alloc (.cells #[.map (some (L0 + 2))] 252)) := (((Ext.alloc _ _).trans (Ext.alloc _ _)).trans (Ext.alloc _ _)).trans (Ext.alloc _ _)
  have b0 := (((Blk.new w 175 #[.pointer (some ⟨D, 0, none⟩)]).alloc (.cells #[.int .i64 0] 3)).alloc (.map #[] 0)).alloc (.cells #[.map (some (L0 + 2))] 252)
  have b1 := ((Blk.new (w.alloc (.cells #[.pointer (some ⟨D, 0, none⟩)] 175)) 3 #[.int .i64 0]).alloc (.map #[] 0)).alloc (.cells #[.map (some (L0 + 2))] 252)
  have b2 := (MarkMap.made ((w.alloc (.cells #[.pointer (some ⟨D, 0, none⟩)] 175)).alloc (.cells #[.int .i64 0] 3))).ext (Ext.alloc _ (.cells #[.map (some (L0 + 2))] 252))
  have b3 := Blk.new (((w.alloc (.cells #[.pointer (some ⟨D, 0, none⟩)] 175)).alloc (.cells #[.int .i64 0] 3)).alloc (.map #[] 0)) 252 #[.map (some (L0 + 2))]
  simp only [World.size_alloc, hL0] at b0 b1 b2 b3 ⊢
  generalize (((w.alloc _).alloc _).alloc _).alloc _ = W2 at *
  refine wp_loop_ghost_u (fun u gn a W => ∃ (i cnt : Nat) (ds : List Deferred), a = ⟨#[.pointer (some ⟨D, 0, none⟩), .slice A g.length c, .pointer (some ⟨L0, 0, none⟩), u 3, .int .i64 0, .pointer (some ⟨L0 + 1, 0, none⟩), .pointer (some ⟨L0 + 1 + 1 + 1, 0, none⟩), u 7, u 8, u 9, u 10, u 11, u 12, u 13, .slice A g.length c, .int .i64 (g.length : Int), u 16, u 17, u 18, u 19, u 20, u 21, u 22, u 23, u 24, u 25, u 26, u 27, u 28, u 29, u 30, u 31, u 32, u 33, u 34, u 35, u 36, u 37, u 38, u 39, u 40, u 41, u 42, u 43, u 44, u 45, u 46, u 47, u 48, u 49, u 50, u 51, u 52, u 53, u 54, u 55, u 56, u 57, u 58, u 59, u 60, u 61, u 62, u 63, u 64, u 65, u 66, u 67, u 68, u 69, u 70, u 71], ds⟩ ∧ gn = g.length - i ∧ u 16 = .int .i64 (i : Int) ∧ i ≤ g.length ∧ cnt ≤ i * 216 ∧ Ext w W ∧ Blk W L0 175 #[.pointer (some ⟨D, 0, none⟩)] ∧ Blk W (L0 + 1) 3 #[.int .i64 (Pow.sumM m (Pow.mkG m (g.take i)))] ∧ MarkMap W (L0 + 2) cnt (Pow.mkG m (g.take i)) ∧ Blk W (L0 + 3) 252 #[.map (some (L0 + 2))] ∧ Marks W L0 W.heap.size ds) (g.length) ⟨0, 0, [], rfl, by omega, rfl, by omega, by omega, hX, b0, by rw [List.take_zero, Pow.mkG_nil, Pow.sumM_none]; exact b1, b2.congr rfl (by rw [List.take_zero, Pow.mkG_nil]), b3, Marks.nil _ _ _⟩ ?_
  rintro uA gn a W ⟨i, cnt, ds, rfl, rfl, hu16, hi, hcnt, heA, a0, a1, a2, a3, hmk⟩ JA KA hJA hKA
  rw [hu16]
  clear hX b0 b1 b2 b3
  by_cases hlt : i < g.length
  · obtain ⟨b, o, rfl, q1⟩ := HA.out.ext heA i hlt
    have hgk := Hg.out (g[i]?.getD 0) (by simp [hlt])
    obtain ⟨kk, hkk⟩ : ∃ kk : Nat, g[i]?.getD 0 = kk := ⟨_, (Int.toNat_of_nonneg hgk.1).symm⟩
    have Htk := Lib.hid (take_snoc hlt hkk)
    rw [hkk] at q1 hgk
    clear hkk
    have hkl : kk < m.wvs.length := by omega
    have hlt5 : kk ≤ maxLen := by unfold maxLen; omega
    unfold maxLen at hlt5
    have d1 := heA.cell D1.out
    have d0 := heA.cell D0.out
    obtain ⟨b2, o2, rfl, A3, c3, h3, j1, j2, j3⟩ := HW.out kk hkl
    have hwv : m.wvs[kk]?.getD default = m.wv kk := rfl
    rw [hwv] at h3 j1 j2 j3
    have hat := Hat.out kk hkl
    have Hho2 := Lib.hid (Hho.out kk hkl)
    have hhl := hours_len (Hri.out kk hkl) (Hho.out kk hkl)
    have hlen9 : (m.line (m.wv kk).shaft).length ≤ 9 := by
      obtain ⟨z, hz⟩ : ∃ z : Nat, (m.wv kk).shaft = z := ⟨_, (Int.toNat_of_nonneg hat.1).symm⟩
      rw [hz] at hat ⊢
      have := line_len Hup.out z (by omega)
      omega
    obtain ⟨wv, hwve⟩ : ∃ wv, m.wv kk = wv := ⟨_, rfl⟩
    rw [hwve] at h3 j1 j2 j3 hat Hho2 hhl hlen9
    have Hwv := Lib.hid hwve
    have J1 := Lib.hid j1; have J3 := Lib.hid j3
    replace j2 := heA.cell j2
    clear hwv hwve j1 j3
    obtain ⟨hn, hhn⟩ : ∃ hn, wv.hours.length = hn := ⟨_, rfl⟩
    rw [hhn] at j2 hhl h3
    have e0 := a0.c1
    have hLW : L0 + 3 < W.heap.size := a3.lt
    go_wp2_with fail
    clear e0 d0 d1 j2 q1
    have hs0 : Pow.mk3 m (g.take i) (kk : Int) (wv.hours.take 0) 0 [] = Pow.mkG m (g.take i) := by rw [List.take_zero]; exact Pow.mk3_start m _ _
    refine wp_loop_ghost_u (fun u gn a W2 => ∃ (j cnt : Nat) (ds : List Deferred), a = ⟨#[.pointer (some ⟨D, 0, none⟩), .slice (some ⟨b, o, none⟩) g.length c, .pointer (some ⟨L0, 0, none⟩), u 3, .int .i64 0, .pointer (some ⟨L0 + 1, 0, none⟩), .pointer (some ⟨L0 + 1 + 1 + 1, 0, none⟩), u 7, .int .i64 (kk : Int), u 9, u 10, u 11, u 12, u 13, .slice (some ⟨b, o, none⟩) g.length c, .int .i64 (g.length : Int), .int .i64 (i : Int), u 17, u 18, u 19, u 20, u 21, u 22, u 23, u 24, u 25, u 26, u 27, .slice A3 hn c3, .int .i64 (hn : Int), u 30, u 31, u 32, u 33, u 34, u 35, u 36, u 37, u 38, u 39, u 40, u 41, u 42, u 43, u 44, u 45, u 46, u 47, u 48, u 49, u 50, u 51, u 52, u 53, u 54, u 55, u 56, u 57, u 58, u 59, u 60, u 61, u 62, u 63, u 64, u 65, u 66, u 67, u 68, u 69, u 70, u 71], ds⟩ ∧ gn = hn - j ∧ u 30 = .int .i64 (j : Int) ∧ j ≤ hn ∧ cnt ≤ i * 216 + j * 9 ∧ Ext w W2 ∧ Blk W2 L0 175 #[.pointer (some ⟨D, 0, none⟩)] ∧ Blk W2 (L0 + 1) 3 #[.int .i64 (Pow.sumM m (Pow.mk3 m (g.take i) (kk : Int) (wv.hours.take j) 0 []))] ∧ MarkMap W2 (L0 + 2) cnt (Pow.mk3 m (g.take i) (kk : Int) (wv.hours.take j) 0 []) ∧ Blk W2 (L0 + 3) 252 #[.map (some (L0 + 2))] ∧ Marks W2 L0 W2.heap.size ds) (hn) ⟨0, cnt, ds, rfl, by omega, rfl, by omega, by omega, heA, a0, by rw [hs0]; exact a1, a2.congr rfl hs0.symm, a3, hmk⟩ ?_
    rintro uB gn a W2 ⟨j, cnt, ds, rfl, rfl, hu30, hj, hcnt2, heB, b0, b1, bM, b3, hmkB⟩ JB KB hJB hKB
    rw [hu30]
    clear hs0 heA a0 a1 a2 a3 hmk hLW
    have hLW : L0 + 3 < W2.heap.size := b3.lt
    by_cases hltj : j < hn
    · obtain ⟨b4, o4, rfl, q1⟩ := J3.out.ext heB j (by omega)
      have hhj := Hho2.out (wv.hours[j]?.getD 0) (by rw [List.getElem?_eq_getElem (by omega)]; exact List.getElem_mem _)
      obtain ⟨hh, hhh⟩ : ∃ hh : Nat, wv.hours[j]?.getD 0 = hh := ⟨_, (Int.toNat_of_nonneg hhj.1).symm⟩
      have Htj := Lib.hid (take_snoc (by omega) hhh)
      rw [hhh] at q1 hhj
      clear hhh
      have hX := Ext.alloc W2 (.cells #[.int .i64 (hh : Int)] 3)
      have hHB := Blk.new W2 3 #[.int .i64 (hh : Int)]
      have f0 := heB.cell D0.out
      go_upto_region 9 with fail
      clear q1 f0
      have heX := heB.trans hX
      have e0 := (b0.ext hX).c1
      have d0 := heX.cell D0.out
      have d1 := heX.cell D1.out
      have j1 := heX.cell J1.out
      have hX0 := b0.ext hX
      have hX1 := b1.ext hX
      have hXM := bM.ext hX
      have hX3 := b3.ext hX
      have hXK := hmkB.ext hX
      have hszX : (W2.alloc (.cells #[.int .i64 (hh : Int)] 3)).heap.size = W2.heap.size + 1 := World.size_alloc ..
      clear hX heB b0 b1 bM b3 hmkB
      generalize W2.alloc _ = W3 at *
      generalize W2.heap.size = L at *
      refine wp_region_chain 13 [] [] (by kernel_rfl) (by kernel_rfl) (by kernel_rfl) ?_
      simp only [List.take, List.drop, fill, Act.put, List.setIfInBounds_toArray, List.set_cons_zero, List.set_cons_succ, Nat.reduceAdd]
      repeat (first
        | refine Floats.mut rfl ?_
        | (apply Floats.float rfl
           · intro x W he hd K Q hK
             try (have he := he (by decide); have e0 := he.cell e0; have d0 := he.cell d0; have d1 := he.cell d1; have j1 := he.cell j1)
             try simp only [edges, DepsE, List.filter_cons, List.filter_nil, Region.binds, if_true, and_true, true_and, upd, Nat.reduceEqDiff, if_false] at hd
             try simp only [hd] at hK ⊢
             have HK := Lib.hid hK; clear hK
             go_wp2_with fail
             exact HK.out))
      refine Floats.done fun W he hG => ?_
      refine Chain.nil ?_
      simp only [upd, Nat.reduceEqDiff, if_false, if_true]
      have heY := heX.trans he
      have hline := Lib.hid (pline_any A1 (some ⟨b2, o2, none⟩) m.shafts.length c1 m.wvs.length c2 wv.shaft W)
      have hszY := he.size
      go_wp2_with fail
      refine hline.out.mono ?_
      rintro e W5 ⟨hv5, he5, hL1, hL2, hsz5⟩
      subst hv5
      replace hX0 := hX0.ext (he.trans he5)
      replace hX1 := hX1.ext (he.trans he5)
      replace hXM := hXM.ext (he.trans he5)
      replace hX3 := hX3.ext (he.trans he5)
      replace hXK := hXK.ext (he.trans he5)
      replace hHB := hHB.ext (he.trans he5)
      replace heY := heY.trans he5
      clear hline he he5 e0 d0 d1 j1 heX hG
      obtain ⟨Bk, hBk⟩ : ∃ Bk, W.heap.size = Bk := ⟨_, rfl⟩
      rw [hBk] at hL1 hL2 hsz5 hszY ⊢
      clear hBk
      have hlen1 : m.shafts.length ≤ maxLen := by unfold maxLen; omega
      have hlow : ∀ k, k < m.shafts.length → ∀ ad, A1 = some ad → ad.block < L0 := fun k hk ad e => by
        have := HS.out.low_lt k hk ad e
        omega
      have hgk2 : Hid (Pow.mk3 m (g.take i) (kk : Int) (wv.hours.take j) 0 [] = Pow.mk3 m (g.take i) (kk : Int) (wv.hours.take j) (hh : Int) []) := Pow.mk3_cur m _ _ _ _ _
      rw [hgk2.out] at hX1 hXM
      go_wp2_with fail
      apply wp_line (n1 := L0) (B := Bk) Hup.out (by omega) hlen1 (s := wv.shaft) (by omega) hL1 hL2 (HS.out.ext heY) hlow rfl rfl
        (fun pre W => ∃ cnt', cnt' ≤ cnt + pre.length ∧ W5.heap.size ≤ W.heap.size ∧ Ext w W ∧ Blk W L0 175 #[.pointer (some ⟨D, 0, none⟩)] ∧ Blk W (L0 + 1) 3 #[.int .i64 (Pow.sumM m (Pow.mk3 m (g.take i) (kk : Int) (wv.hours.take j) (hh : Int) (pre.map fun y : OnLine m wv.shaft => y.1)))] ∧
          MarkMap W (L0 + 2) cnt' (Pow.mk3 m (g.take i) (kk : Int) (wv.hours.take j) (hh : Int) (pre.map fun y : OnLine m wv.shaft => y.1)) ∧ Blk W (L0 + 3) 252 #[.map (some (L0 + 2))] ∧ Blk W L 3 #[.int .i64 (hh : Int)] ∧ Marks W L0 L ds)
        (fun pre W W' ⟨ct, h0, h1, h2, h3, h4, h5, h6, h7, h8⟩ hl => ⟨ct, h0, Nat.le_trans h1 hl.size, h2.loops hl (by omega), h3.loops hl, h4.loops hl, h5.same (hl.low _ (by omega) h5.lt), h6.loops hl, h7.loops hl, h8.loops hl (by omega)⟩)
        (fun pre W W' ⟨ct, h0, h1, h2, h3, h4, h5, h6, h7, h8⟩ ht => ?hturn) ⟨cnt, Nat.le_refl _, Nat.le_refl _, heY, hX0, hX1, hXM, hX3, hHB, hXK⟩
      case hturn =>
        obtain ⟨v, rfl⟩ := ht
        exact ⟨ct, h0, by rw [World.size_setCell]; exact h1, Below.setCell h2 (by show _ ≤ Bk + 1; omega) _, h3.far (by show L0 ≠ Bk + 1; omega) _, h4.far (by show L0 + 1 ≠ Bk + 1; omega) _, h5.same (Below.heap_setCell _ _ _ _ (by show L0 + 2 ≠ Bk + 1; omega)), h6.far (by show L0 + 3 ≠ Bk + 1; omega) _, h7.far (by show L ≠ Bk + 1; omega) _, h8.above (by show L ≤ Bk + 1; omega) _⟩
      case hassign =>
        intro l x W K hK
        simp only [encO]
        gi_wp2
        exact hK
      case hbody =>
        rintro l pre x Wr ⟨ct, hct, i1, i2, i3, i4, iM, i6, i7, i8⟩ hpl
        obtain ⟨xv, hxm⟩ := x
        have hxl := line_lt Hm.out hkl (x := xv) (by rw [Hwv.out]; exact hxm)
        obtain ⟨cc, rfl⟩ : ∃ cc : Nat, xv = cc := ⟨xv.toNat, by omega⟩
        obtain ⟨b6, o6, hA6, s1, s2⟩ := HS.out.ext i2 cc (by omega)
        have hb6 : b6 < L0 := hlow cc (by omega) _ hA6
        subst hA6
        have hsh : m.shafts[cc]?.getD default = m.sh cc := rfl
        rw [hsh] at s1 s2
        have hpr := Hm.out.price cc (by omega)
        have hct2 : ct ≤ 1048576 := by omega
        have hXs := Ext.alloc Wr (.cells #[.int .i64 (cc : Int), .int .i64 (hh : Int)] 257)
        have hsp := Blk.new Wr 257 #[.int .i64 (cc : Int), .int .i64 (hh : Int)]
        obtain ⟨p0, p1⟩ := hsp.c2
        have hMs := iM.ext hXs
        have hlook := hMs.look cc hh (by omega) (by omega)
        obtain ⟨ls, hls⟩ : ∃ ls, pre.map (fun y : OnLine m wv.shaft => y.1) = ls := ⟨_, rfl⟩
        have Hlsx : Hid ((pre ++ [(⟨(cc : Int), hxm⟩ : OnLine m wv.shaft)]).map (fun y : OnLine m wv.shaft => y.1) = ls ++ [(cc : Int)]) := by
          unfold Hid; rw [List.map_append, List.map_singleton, hls]
        have Hlsu : Hid ((pre ++ [(⟨(cc : Int), hxm⟩ : OnLine m wv.shaft)]).unattach = ls ++ [(cc : Int)]) := Hlsx
        rw [hls] at i4 hMs hlook
        clear hls
        have hsb := Pow.sumM_bounds Hm.out (Pow.mk3 m (g.take i) (kk : Int) (wv.hours.take j) (hh : Int) ls)
        have e3 := (i3.ext hXs).c1
        have e6 := (i6.ext hXs).c1
        have e7 := i7.c1
        have i4X := i4.ext hXs
        have hPL : Wr.heap.size = Wr.heap.size := rfl
        have hlkL : Bk + 1 < W5.heap.size := hL2.lt
        obtain ⟨q, hq⟩ : ∃ q, Pow.mk3 m (g.take i) (kk : Int) (wv.hours.take j) (hh : Int) ls cc hh = q := ⟨_, rfl⟩
        rw [hq] at hlook
        cases q with
        | true =>
          have hold := Lib.hid (Pow.mk3_old hq)
          clear hq
          gi_wp2_with fail
          refine ⟨keepsFrom_ext hXs, ⟨fun k hk => Below.block hXs k (by omega), Below.block hXs _ (by omega), Below.block hXs _ (by omega)⟩, ct, by rw [List.length_append]; omega, ?_, i2.trans hXs, i3.ext hXs, ?_, ?_, i6.ext hXs, i7.ext hXs, i8.ext hXs⟩
          · rw [World.size_alloc]; omega
          · rw [Hlsu.out, hold.out]; exact i4X
          · rw [Hlsu.out, hold.out]; exact hMs
        | false =>
          have hnew := Lib.hid (Pow.sum_new (show cc < m.shafts.length by omega) (show hh < 24 by omega) hq)
          have hsb2 := Pow.sumM_bounds Hm.out (Pow.mk3 m (g.take i) (kk : Int) (wv.hours.take j) (hh : Int) (ls ++ [(cc : Int)]))
          have hfn : Hid ((fun x y => if x = cc ∧ y = hh then true else Pow.mk3 m (g.take i) (kk : Int) (wv.hours.take j) (hh : Int) ls x y) = Pow.mk3 m (g.take i) (kk : Int) (wv.hours.take j) (hh : Int) (ls ++ [(cc : Int)])) := by
            unfold Hid
            funext x y
            rw [Pow.mk3_new]
            by_cases e : x = cc ∧ y = hh
            · rw [if_pos e]; simp [e.1, e.2]
            · rw [if_neg e]
              have : (decide (x = cc) && decide (y = hh)) = false := by simpa using e
              rw [this, Bool.or_false]
          clear hq
          obtain ⟨w', hrun, hM', hg⟩ := hMs.store cc hh (by omega) (by omega) hct2 true
          have HM' := Lib.hid hM'; clear hM'
          have hszX : (Wr.alloc (.cells #[.int .i64 (cc : Int), .int .i64 (hh : Int)] 257)).heap.size = Wr.heap.size + 1 := World.size_alloc ..
          have k2 : Ext w w' := Below.grown (i2.trans hXs) hg (by have := i2.size; omega) (fun k e => by cases e; omega)
          have k3 := (i3.ext hXs).grown hg (fun e => by cases e)
          have k4 := i4X.grown hg (fun e => by cases e)
          have k6 := (i6.ext hXs).grown hg (fun e => by cases e)
          have k7 := (i7.ext hXs).grown hg (fun e => by cases e; omega)
          have hszG := hg.size
          have hkb : ∀ k, k < Wr.heap.size → k ≠ L0 + 2 → w'.heap[k]? = Wr.heap[k]? := fun k hk hne => (hg.block k (by omega) (fun e => hne (by cases e; rfl))).trans (Below.block hXs k hk)
          have d0 := k2.cell D0.out
          have s3 := cell_of_blocks (hkb b6 (by have := i3.lt; omega) (by omega)) s2
          have c3 := k3.c1
          have c4 := k4.c1
          generalize (m.sh cc).price = pr at *
          have Hnew := Lib.hid hnew.out
          obtain ⟨S1, hS1⟩ : ∃ S1, Pow.sumM m (Pow.mk3 m (g.take i) (kk : Int) (wv.hours.take j) (hh : Int) ls) = S1 := ⟨_, rfl⟩
          rw [hS1] at hsb c4 k4
          have hS2 : Hid (Pow.sumM m (Pow.mk3 m (g.take i) (kk : Int) (wv.hours.take j) (hh : Int) (ls ++ [(cc : Int)])) = S1 + pr) := by unfold Hid; rw [Hnew.out, hS1]
          rw [hS2.out] at hsb2
          clear hS1 hnew s1 s2 i4X hMs
          gi_wp2_with fail
          refine wpIn_region_chain 11 [] [] (by kernel_rfl) (by kernel_rfl) (by kernel_rfl) ?_
          simp only [List.take, List.drop, fill, Act.put, List.setIfInBounds_toArray, List.set_cons_zero, List.set_cons_succ, Nat.reduceAdd]
          repeat (first
            | refine FloatsIn.mut rfl ?_
            | (apply FloatsIn.float rfl
               · intro x W he hd K Q hK
                 try (have he := he (by decide); have c4 := he.cell c4; have c3 := he.cell c3; have d0 := he.cell d0; have s3 := he.cell s3)
                 try simp only [edges, DepsE, List.filter_cons, List.filter_nil, Region.binds, if_true, and_true, true_and, upd, Nat.reduceEqDiff, if_false] at hd
                 try simp only [hd] at hK ⊢
                 have HK := Lib.hid hK; clear hK
                 gi_wp2_with fail
                 exact HK.out))
          refine FloatsIn.done fun W he hG => ?_
          refine ChainIn.nil ?_
          simp only [upd, Nat.reduceEqDiff, if_false, if_true]
          have hfr := (k4.ext he).frozen 0
          have c5 := (k4.ext he).c1
          gi_wp2_with fail
          have hWrL : L0 + 3 < Wr.heap.size := i6.lt
          have hnh : ∀ k, k ≠ L0 + 1 → (W.setCell ⟨L0 + 1, 0, none⟩ (.int .i64 (S1 + pr))).heap[k]? = W.heap[k]? := fun k hk => Below.heap_setCell W _ _ k hk
          have hkf : KeepsFrom W5.heap.size (Wr.alloc (.cells #[.int .i64 (cc : Int), .int .i64 (hh : Int)] 257)) w' := ⟨hg.size, fun k o hB hk _ => (hg.block k (Array.getElem?_eq_some_iff.1 hk).1 (fun e => by cases e; omega)).trans hk⟩
          have hall : ∀ k, k < Wr.heap.size → k ≠ L0 + 2 → k ≠ L0 + 1 → (W.setCell ⟨L0 + 1, 0, none⟩ (.int .i64 (S1 + pr))).heap[k]? = Wr.heap[k]? := fun k h1 h2 h3 => (hnh k h3).trans ((Below.block he k (by omega)).trans (hkb k h1 h2))
          have hsW := he.size
          refine ⟨((keepsFrom_ext hXs).trans hkf).trans ((keepsFrom_ext he).trans ((KeepsOthers.setCell _ _ _).from _)), ⟨fun k hk => hall k (by omega) (by omega) (by omega), hall _ (by omega) (by omega) (by omega), hall _ (by omega) (by omega) (by omega)⟩, ct + 1, by rw [List.length_append, List.length_singleton]; omega, ?_, Below.setCell (k2.trans he) (by show _ ≤ L0 + 1; omega) _, (k3.ext he).far (by show L0 ≠ L0 + 1; omega) _, ?_, ?_, (k6.ext he).far (by show L0 + 3 ≠ L0 + 1; omega) _, (k7.ext he).far (by show L ≠ L0 + 1; omega) _, ?_⟩
          · rw [World.size_setCell]; omega
          · rw [Hlsx.out, hS2.out]; exact by simpa using (k4.ext he).set_ 0 (.int .i64 (S1 + pr))
          · rw [Hlsx.out]
            exact (((HM'.out.ext he).same (hnh (L0 + 2) (by omega))).congr rfl hfn.out)
          · refine ⟨i8.choose, i8.choose_spec.1, i8.choose_spec.2.1, fun Dd hDd => ?_⟩
            obtain ⟨t1, t2, t3⟩ := i8.choose_spec.2.2 Dd hDd
            have hc1 : Dd ≠ L0 + 1 := fun e => by
              subst e
              have := i4
              unfold Blk at this
              rw [this] at t3; cases t3
            have hc2 : Dd ≠ L0 + 2 := fun e => by
              subst e
              obtain ⟨_, ⟨_, _, hb, _⟩, _⟩ := iM
              rw [hb] at t3; cases t3
            exact ⟨t1, t2, (hall Dd (Array.getElem?_eq_some_iff.1 t3).1 hc2 hc1).trans t3⟩
      case hdone =>
        intro Dd xs W hDd hxs ⟨ct, hct, i1, i2, i3, i4, iM, i6, i7, i8⟩ hdef
        have hxl : xs.length = (m.line wv.shaft).length := by rw [← hxs, List.length_map]
        have hEnd : Hid (Pow.mk3 m (g.take i) (kk : Int) (wv.hours.take j) (hh : Int) (m.line wv.shaft) = Pow.mk3 m (g.take i) (kk : Int) (wv.hours.take (j + 1)) 0 []) := by
          unfold Hid
          rw [Htj.out, Pow.mk3_hour]
          show Pow.mk3 m _ _ _ _ _ = Pow.mk3 m _ _ _ _ (m.line (m.wv kk).shaft)
          rw [Hwv.out]
        rw [hxs, hEnd.out] at i4 iM
        have hp := i8.push (by omega) (by omega) hdef
        have hDlt := (Array.getElem?_eq_some_iff.1 hdef).1
        clear hdef i8 i7
        go_wp2_with fail
        refine Handed.intro (hn - (j + 1)) (by omega) (hJB _ _ _ ⟨j + 1, ct, _, rfl, rfl, by show Value.int .i64 _ = _; go_num, by omega, by omega, i2, i3, i4, iM, i6, hp.mono (by omega)⟩)
    · obtain rfl : j = hn := by omega
      have hEnd : Hid (Pow.mk3 m (g.take i) (kk : Int) (wv.hours.take j) 0 [] = Pow.mkG m (g.take (i + 1))) := by
        unfold Hid
        rw [List.take_of_length_le (l := wv.hours) (by omega), Htk.out, ← Pow.mk3_end m (g.take i) (kk : Int) 0]
        show Pow.mk3 m _ _ _ _ _ = Pow.mk3 m _ _ (m.wv kk).hours _ _
        rw [Hwv.out]
      rw [hEnd.out] at b1 bM
      go_wp2_with fail
      refine Handed.intro (g.length - (i + 1)) (by omega) (hJA _ _ _ ⟨i + 1, cnt, _, rfl, rfl, by show Value.int .i64 _ = _; go_num, by omega, by omega, heB, b0, b1, bM, b3, hmkB⟩)
  · obtain rfl : i = g.length := by omega
    rw [List.take_of_length_le (Nat.le_refl _), Hr.out] at a1
    have e1 := a1.c1
    go_wp2_with fail
    exact leaves_marks' ds W hmk (fun W' => results_tmp rfl _ _ _) (fun W' hq => ⟨rfl, hq.ext heA (by omega)⟩)
end Go.Proofs.Pet

namespace Go.Proofs.Pet
open Go Go.RowKit Go.Maps Go.Shelf
open Go.Proofs.Pow (PM Sh Wv POk)

def knownE (m : PM) (k : Int) : Int := if checkP m ≠ 0 then checkP m else if inB k 0 (m.wvs.length - 1) = false then 1 else 0
def groupE (m : PM) (g : List Int) : Int := if checkP m ≠ 0 then checkP m else if (g.all fun k => inB k 0 (m.wvs.length - 1)) = false then 1 else if twiceB g = true then 5 else 0
def sharedE (m : PM) (l : List Int) : Int := if checkP m ≠ 0 then checkP m else if l.length ≠ m.wvs.length then 2 else if (l.all fun n => inB n 0 1000000) = false then 3 else 0
def sightE (m : PM) (l : List Int) : Int := if checkP m ≠ 0 then checkP m else if l.length ≠ m.wvs.length then 2 else if (l.all fun x => inB x 0 2) = false then 3 else 0
/-- what comes back: a desk if there is no error -/
def OpensP (m : PM) (r : Int) (w : World) (e : Ending) (w' : World) : Prop := ∃ pv, e = .returned (.tuple #[.pointer pv, .int .i64 r]) ∧ Ext w w' ∧ (r = 0 → ∃ D, pv = some ⟨D, 0, none⟩ ∧ DeskAt w' D m ∧ w.heap.size ≤ D)
theorem sharedS1 (w : World) (x : Int) : Tells Tryz.prog w 252 #[] #[] IntVal x (inB x 0 1000000) := by
  intro W v hW hv
  obtain rfl : v = .int .i64 x := hv
  have Hc := Lib.hid (in_anyP x 0 1000000 _ rfl)
  generalize inB x 0 1000000 = q at Hc ⊢
  show Calls Tryz.prog 252 #[_] W _
  go_enter Tryz.func252, Tryz.ntmps252
  go_wp2_with fail
  refine (Hc.out _).mono ?_
  rintro e w' ⟨rfl, rfl⟩
  go_wp2
  go_ret
  exact ⟨rfl, Ext.refl _⟩
theorem sightedS1 (w : World) (x : Int) : Tells Tryz.prog w 213 #[] #[] IntVal x (inB x 0 2) := by
  intro W v hW hv
  obtain rfl : v = .int .i64 x := hv
  show Calls Tryz.prog 213 #[_] W _
  unfold inB
  by_cases h1 : 0 ≤ x
  · by_cases h2 : x ≤ 2
    · go_enter Tryz.func213, Tryz.ntmps213
      go_wp2
      go_ret
      exact ⟨by simp [h1, h2], Ext.refl _⟩
    · have hd : decide (x ≤ 2) = false := by simp; omega
      go_enter Tryz.func213, Tryz.ntmps213
      go_wp2
      go_ret
      exact ⟨by simp, Ext.refl _⟩
  · have hd : decide (0 ≤ x) = false := by simp; omega
    go_enter Tryz.func213, Tryz.ntmps213
    go_wp2
    go_ret
    exact ⟨by simp, Ext.refl _⟩

set_option maxRecDepth 20000 in
theorem known_anyP (v : Value) (m : PM) (k : Int) (r : Int) (hr : knownE m k = r) (w : World) (hv : PMVal w v m) : Calls Tryz.prog 113 #[v, .int .i64 k] w (OpensP m r w) := by
  have Hr := Lib.hid hr; clear hr
  have hmf : ∀ (fn : Fn) (first cap : Array Value) (w : World), (Instr.makeFunc fn first cap).run Tryz.prog w = .ok (.func fn first cap) w := fun _ _ _ _ => rfl
  have Hv := Lib.hid hv
  obtain ⟨A1, c1, A2, c2, rfl, h2, h3, h4, h5, h6, h7⟩ := hv
  have hwl : m.wvs.length ≤ maxLen := Nat.le_trans h4 h5
  unfold maxLen at hwl
  have hE := Ext.alloc w (.cells #[.slice A1 m.shafts.length c1, .slice A2 m.wvs.length c2] 56)
  have hM := Blk.new w 56 #[.slice A1 m.shafts.length c1, .slice A2 m.wvs.length c2]
  obtain ⟨k0, k1⟩ := hM.c2
  have HM := Lib.hid hM
  clear hM h6 h7
  by_cases hc : checkP m = 0
  · have ho := Lib.hid (opened_anyP _ m hc _ (Hv.out.ext hE))
    have Hc := Lib.hid hc; clear hc
    go_enter Tryz.func113, Tryz.ntmps113
    go_wp2_with fail
    refine ho.out.mono ?_
    rintro e w1 ⟨D, rfl, hD, hlD, he1⟩
    have hE1 := hE.trans he1
    have HD := Lib.hid hD
    have hM1 := HM.out.ext he1
    have hlD' : w.heap.size ≤ D := by have := hE.size; omega
    clear k0 k1 ho HM hD hE he1 hlD
    obtain ⟨k0, k1⟩ := hM1.c2
    obtain ⟨q, hq⟩ : ∃ q, inB k 0 (m.wvs.length - 1) = q := ⟨_, rfl⟩
    have Hq := Lib.hid hq
    have hwk := Lib.hid (pweaver_any _ m k q hq w1 (Hv.out.ext hE1))
    clear hq
    go_wp2_with fail
    refine hwk.out.mono ?_
    rintro e w2 ⟨rfl, he2⟩
    have hE2 := hE1.trans he2
    cases q with
    | false =>
      obtain rfl : r = 1 := by rw [← Hr.out]; unfold knownE; simp [Hc.out, Hq.out]
      go_wp2_with fail
      go_ret2
      exact ⟨_, rfl, hE2, fun h => absurd h (by decide)⟩
    | true =>
      obtain rfl : r = 0 := by rw [← Hr.out]; unfold knownE; simp [Hc.out, Hq.out]
      go_wp2_with fail
      go_ret2
      exact ⟨_, rfl, hE2, fun _ => ⟨D, rfl, HD.out.ext he2, hlD'⟩⟩
  · have ho := Lib.hid (openedErrP _ m _ rfl hc _ (Hv.out.ext hE))
    obtain rfl : r = checkP m := by rw [← Hr.out]; unfold knownE; rw [if_pos hc]
    have hd : (checkP m != 0) = true := by simpa using hc
    have hd0 : (checkP m == 0) = false := by simpa using hc
    have Hc := Lib.hid hc; clear hc
    generalize checkP m = r at *
    go_enter Tryz.func113, Tryz.ntmps113
    go_wp2_with fail
    refine ho.out.mono ?_
    rintro e w1 ⟨rfl, he1⟩
    go_wp2_with fail
    go_ret2
    exact ⟨_, rfl, hE.trans he1, fun h => absurd h Hc.out⟩

set_option maxRecDepth 20000 in
theorem grouped_any (v : Value) (m : PM) (A : Option Addr) (c n : Nat) (g : List Int) (hn : g.length = n) (r : Int) (hr : groupE m g = r) (w : World) (hv : PMVal w v m) (hl : n ≤ maxLen) (hlc : n ≤ c) (hA : IntsAt w A g) : Calls Tryz.prog 108 #[v, .slice A n c] w (OpensP m r w) := by
  subst hn
  have Hr := Lib.hid hr; clear hr
  have hmf : ∀ (fn : Fn) (first cap : Array Value) (w : World), (Instr.makeFunc fn first cap).run Tryz.prog w = .ok (.func fn first cap) w := fun _ _ _ _ => rfl
  have Hv := Lib.hid hv
  obtain ⟨A1, c1, A2, c2, rfl, h2, h3, h4, h5, h6, h7⟩ := hv
  have hwl : m.wvs.length ≤ maxLen := Nat.le_trans h4 h5
  unfold maxLen at hwl
  have hE := Ext.alloc w (.cells #[.slice A1 m.shafts.length c1, .slice A2 m.wvs.length c2] 56)
  have hM := Blk.new w 56 #[.slice A1 m.shafts.length c1, .slice A2 m.wvs.length c2]
  obtain ⟨k0, k1⟩ := hM.c2
  have HM := Lib.hid hM
  clear hM h6 h7
  by_cases hc : checkP m = 0
  · have ho := Lib.hid (opened_anyP _ m hc _ (Hv.out.ext hE))
    have Hc := Lib.hid hc; clear hc
    go_enter Tryz.func108, Tryz.ntmps108
    go_wp2_with fail
    refine ho.out.mono ?_
    rintro e w1 ⟨D, rfl, hD, hlD, he1⟩
    have hE1 := hE.trans he1
    have HD := Lib.hid hD
    have hM1 := HM.out.ext he1
    have hlD' : w.heap.size ≤ D := by have := hE.size; omega
    clear k0 k1 ho HM hD hE he1 hlD
    obtain ⟨k0, k1⟩ := hM1.c2
    obtain ⟨q, hq⟩ : ∃ q, (g.all fun k => inB k 0 (m.wvs.length - 1)) = q := ⟨_, rfl⟩
    have Hq := Lib.hid hq
    have hev := everyIP 206 #[.agg #[.slice A1 m.shafts.length c1, .slice A2 m.wvs.length c2]] #[] (enters_of Tryz.func206 (by kernel_rfl) rfl) (fun k => inB k 0 (m.wvs.length - 1)) A c g w1 hl (hA.ext hE1)
      (fun y _ => fun W' v' hW' hv' => by
        obtain rfl : v' = .int .i64 y := hv'
        exact pweaver_any _ m y _ rfl W' (Hv.out.ext (hE1.trans hW')))
    rw [hq] at hev
    have Hev := Lib.hid hev
    clear hq hev
    go_wp2_with fail
    refine Hev.out.mono ?_
    rintro e w2 ⟨rfl, he2⟩
    have hE2 := hE1.trans he2
    cases q with
    | false =>
      obtain rfl : r = 1 := by rw [← Hr.out]; unfold groupE; simp [Hc.out, Hq.out]
      go_wp2_with fail
      go_ret2
      exact ⟨_, rfl, hE2, fun h => absurd h (by decide)⟩
    | true =>
      obtain ⟨q2, hq2⟩ : ∃ q2, twiceB g = q2 := ⟨_, rfl⟩
      have Hq2 := Lib.hid hq2
      have htw := Lib.hid (twice_anyP A c g q2 hq2 w2 hl hlc (hA.ext hE2))
      clear hq2
      go_wp2_with fail
      refine htw.out.mono ?_
      rintro e w3 ⟨rfl, rfl⟩
      cases q2 with
      | true =>
        obtain rfl : r = 5 := by rw [← Hr.out]; unfold groupE; simp [Hc.out, Hq.out, Hq2.out]
        go_wp2_with fail
        go_ret2
        exact ⟨_, rfl, hE2, fun h => absurd h (by decide)⟩
      | false =>
        obtain rfl : r = 0 := by rw [← Hr.out]; unfold groupE; simp [Hc.out, Hq.out, Hq2.out]
        go_wp2_with fail
        go_ret2
        exact ⟨_, rfl, hE2, fun _ => ⟨D, rfl, HD.out.ext he2, hlD'⟩⟩
  · have ho := Lib.hid (openedErrP _ m _ rfl hc _ (Hv.out.ext hE))
    obtain rfl : r = checkP m := by rw [← Hr.out]; unfold groupE; rw [if_pos hc]
    have hd : (checkP m != 0) = true := by simpa using hc
    have hd0 : (checkP m == 0) = false := by simpa using hc
    have Hc := Lib.hid hc; clear hc
    generalize checkP m = r at *
    go_enter Tryz.func108, Tryz.ntmps108
    go_wp2_with fail
    refine ho.out.mono ?_
    rintro e w1 ⟨rfl, he1⟩
    go_wp2_with fail
    go_ret2
    exact ⟨_, rfl, hE.trans he1, fun h => absurd h Hc.out⟩

set_option maxRecDepth 20000 in
theorem shared_anyP (v : Value) (m : PM) (A : Option Addr) (c n : Nat) (l : List Int) (hn : l.length = n) (r : Int) (hr : sharedE m l = r) (w : World) (hv : PMVal w v m) (hl : n ≤ maxLen) (hA : IntsAt w A l) : Calls Tryz.prog 198 #[v, .slice A n c] w (OpensP m r w) := by
  have hl' := hl
  unfold maxLen at hl'
  subst hn
  have Hr := Lib.hid hr; clear hr
  have hmf : ∀ (fn : Fn) (first cap : Array Value) (w : World), (Instr.makeFunc fn first cap).run Tryz.prog w = .ok (.func fn first cap) w := fun _ _ _ _ => rfl
  have Hv := Lib.hid hv
  obtain ⟨A1, c1, A2, c2, rfl, h2, h3, h4, h5, h6, h7⟩ := hv
  have hwl : m.wvs.length ≤ maxLen := Nat.le_trans h4 h5
  unfold maxLen at hwl
  have hE := Ext.alloc w (.cells #[.slice A1 m.shafts.length c1, .slice A2 m.wvs.length c2] 56)
  have hM := Blk.new w 56 #[.slice A1 m.shafts.length c1, .slice A2 m.wvs.length c2]
  obtain ⟨k0, k1⟩ := hM.c2
  have HM := Lib.hid hM
  clear hM h6 h7
  by_cases hc : checkP m = 0
  · have ho := Lib.hid (opened_anyP _ m hc _ (Hv.out.ext hE))
    have Hc := Lib.hid hc; clear hc
    go_enter Tryz.func198, Tryz.ntmps198
    go_wp2_with fail
    refine ho.out.mono ?_
    rintro e w1 ⟨D, rfl, hD, hlD, he1⟩
    have hE1 := hE.trans he1
    have HD := Lib.hid hD
    have hM1 := HM.out.ext he1
    have hlD' : w.heap.size ≤ D := by have := hE.size; omega
    clear k0 k1 ho HM hD hE he1 hlD
    obtain ⟨k0, k1⟩ := hM1.c2
    by_cases hle : l.length = m.wvs.length
    · have Hle := Lib.hid hle
      have hdl : ((l.length : Int) != (m.wvs.length : Int)) = false := by rw [hle]; simp
      clear hle
      obtain ⟨q, hq⟩ : ∃ q, (l.all fun x => inB x 0 1000000) = q := ⟨_, rfl⟩
      have Hq := Lib.hid hq
      have hev := everyIP 252 #[] #[] (enters_of Tryz.func252 (by kernel_rfl) rfl) (fun x => inB x 0 1000000) A c l w1 hl (hA.ext hE1) (fun y _ => sharedS1 w1 y)
      rw [hq] at hev
      have Hev := Lib.hid hev
      clear hq hev
      go_wp2_with fail
      refine Hev.out.mono ?_
      rintro e w2 ⟨rfl, he2⟩
      have hE2 := hE1.trans he2
      cases q with
      | false =>
        obtain rfl : r = 3 := by rw [← Hr.out]; unfold sharedE; simp [Hc.out, Hle.out, Hq.out]
        go_wp2_with fail
        go_ret2
        exact ⟨_, rfl, hE2, fun h => absurd h (by decide)⟩
      | true =>
        obtain rfl : r = 0 := by rw [← Hr.out]; unfold sharedE; simp [Hc.out, Hle.out, Hq.out]
        go_wp2_with fail
        go_ret2
        exact ⟨_, rfl, hE2, fun _ => ⟨D, rfl, HD.out.ext he2, hlD'⟩⟩
    · have Hle := Lib.hid hle
      have hdl : ((l.length : Int) != (m.wvs.length : Int)) = true := by simp; omega
      clear hle
      obtain rfl : r = 2 := by rw [← Hr.out]; unfold sharedE; simp [Hc.out, Hle.out]
      go_wp2_with fail
      go_ret2
      exact ⟨_, rfl, hE1, fun h => absurd h (by decide)⟩
  · have ho := Lib.hid (openedErrP _ m _ rfl hc _ (Hv.out.ext hE))
    obtain rfl : r = checkP m := by rw [← Hr.out]; unfold sharedE; rw [if_pos hc]
    have hd : (checkP m != 0) = true := by simpa using hc
    have hd0 : (checkP m == 0) = false := by simpa using hc
    have Hc := Lib.hid hc; clear hc
    generalize checkP m = r at *
    go_enter Tryz.func198, Tryz.ntmps198
    go_wp2_with fail
    refine ho.out.mono ?_
    rintro e w1 ⟨rfl, he1⟩
    go_wp2_with fail
    go_ret2
    exact ⟨_, rfl, hE.trans he1, fun h => absurd h Hc.out⟩

set_option maxRecDepth 20000 in
theorem sighted_any (v : Value) (m : PM) (A : Option Addr) (c n : Nat) (l : List Int) (hn : l.length = n) (r : Int) (hr : sightE m l = r) (w : World) (hv : PMVal w v m) (hl : n ≤ maxLen) (hA : IntsAt w A l) : Calls Tryz.prog 118 #[v, .slice A n c] w (OpensP m r w) := by
  have hl' := hl
  unfold maxLen at hl'
  subst hn
  have Hr := Lib.hid hr; clear hr
  have hmf : ∀ (fn : Fn) (first cap : Array Value) (w : World), (Instr.makeFunc fn first cap).run Tryz.prog w = .ok (.func fn first cap) w := fun _ _ _ _ => rfl
  have Hv := Lib.hid hv
  obtain ⟨A1, c1, A2, c2, rfl, h2, h3, h4, h5, h6, h7⟩ := hv
  have hwl : m.wvs.length ≤ maxLen := Nat.le_trans h4 h5
  unfold maxLen at hwl
  have hE := Ext.alloc w (.cells #[.slice A1 m.shafts.length c1, .slice A2 m.wvs.length c2] 56)
  have hM := Blk.new w 56 #[.slice A1 m.shafts.length c1, .slice A2 m.wvs.length c2]
  obtain ⟨k0, k1⟩ := hM.c2
  have HM := Lib.hid hM
  clear hM h6 h7
  by_cases hc : checkP m = 0
  · have ho := Lib.hid (opened_anyP _ m hc _ (Hv.out.ext hE))
    have Hc := Lib.hid hc; clear hc
    go_enter Tryz.func118, Tryz.ntmps118
    go_wp2_with fail
    refine ho.out.mono ?_
    rintro e w1 ⟨D, rfl, hD, hlD, he1⟩
    have hE1 := hE.trans he1
    have HD := Lib.hid hD
    have hM1 := HM.out.ext he1
    have hlD' : w.heap.size ≤ D := by have := hE.size; omega
    clear k0 k1 ho HM hD hE he1 hlD
    obtain ⟨k0, k1⟩ := hM1.c2
    by_cases hle : l.length = m.wvs.length
    · have Hle := Lib.hid hle
      have hdl : ((l.length : Int) != (m.wvs.length : Int)) = false := by rw [hle]; simp
      clear hle
      obtain ⟨q, hq⟩ : ∃ q, (l.all fun x => inB x 0 2) = q := ⟨_, rfl⟩
      have Hq := Lib.hid hq
      have hev := everyX 213 #[] #[] (enters_of Tryz.func213 (by kernel_rfl) rfl) (fun x => inB x 0 2) A c l w1 hl (hA.ext hE1) (fun y _ => sightedS1 w1 y)
      rw [hq] at hev
      have Hev := Lib.hid hev
      clear hq hev
      go_wp2_with fail
      refine Hev.out.mono ?_
      rintro e w2 ⟨rfl, he2⟩
      have hE2 := hE1.trans he2
      cases q with
      | false =>
        obtain rfl : r = 3 := by rw [← Hr.out]; unfold sightE; simp [Hc.out, Hle.out, Hq.out]
        go_wp2_with fail
        go_ret2
        exact ⟨_, rfl, hE2, fun h => absurd h (by decide)⟩
      | true =>
        obtain rfl : r = 0 := by rw [← Hr.out]; unfold sightE; simp [Hc.out, Hle.out, Hq.out]
        go_wp2_with fail
        go_ret2
        exact ⟨_, rfl, hE2, fun _ => ⟨D, rfl, HD.out.ext he2, hlD'⟩⟩
    · have Hle := Lib.hid hle
      have hdl : ((l.length : Int) != (m.wvs.length : Int)) = true := by simp; omega
      clear hle
      obtain rfl : r = 2 := by rw [← Hr.out]; unfold sightE; simp [Hc.out, Hle.out]
      go_wp2_with fail
      go_ret2
      exact ⟨_, rfl, hE1, fun h => absurd h (by decide)⟩
  · have ho := Lib.hid (openedErrP _ m _ rfl hc _ (Hv.out.ext hE))
    obtain rfl : r = checkP m := by rw [← Hr.out]; unfold sightE; rw [if_pos hc]
    have hd : (checkP m != 0) = true := by simpa using hc
    have hd0 : (checkP m == 0) = false := by simpa using hc
    have Hc := Lib.hid hc; clear hc
    generalize checkP m = r at *
    go_enter Tryz.func118, Tryz.ntmps118
    go_wp2_with fail
    refine ho.out.mono ?_
    rintro e w1 ⟨rfl, he1⟩
    go_wp2_with fail
    go_ret2
    exact ⟨_, rfl, hE.trans he1, fun h => absurd h Hc.out⟩
end Go.Proofs.Pet

namespace Go.Proofs.Pet
set_option linter.unusedSimpArgs false
open Go Go.RowKit Go.Maps Go.Shelf
open Go.Proofs.Pow (PM Sh Wv POk Up goR goT)

theorem goT_mono {n : Nat} {p : List Nat → Bool} {r : Nat} {l x : List Nat} {a b : Nat} (hab : a ≤ b) : ∀ d, b + d ≤ n → goT n p r l a b = some x → goT n p r l a (b + d) = some x
  | 0, _, h => h
  | d + 1, hd, h => by
    rw [show b + (d + 1) = (b + d) + 1 by omega, Pow.goT_step n p r l (by omega), goT_mono hab d (by omega) h]
    rfl
theorem ints_length (l : List Nat) : (ints l).length = l.length := by simp [ints]
theorem Src.blk {W : World} {b : Nat} {t : TypeId} {v : Value} (hb : Blk W b t #[v]) : Src W (some ⟨b, 0, none⟩) [v] := .inr ⟨_, rfl, fun j u hj => by
  have e : (⟨b, 0, none⟩ : Addr).add j = ⟨b, j, none⟩ := by rw [addr_add]; simp
  rw [e, hb.cell]
  simpa using hj⟩
theorem SlI.ints {w : World} {A : Option Addr} {n c : Nat} {xs : List Int} (h : SlI w (.slice A n c) xs) : IntsAt w A xs := by
  obtain ⟨A', c', e, _, _, h4⟩ := h
  cases e
  exact h4
/-- the boxes that the search leans on: limit, wish, what is found, how many, the search itself -/
def FBox (W : World) (b mb n many : Nat) (hv : Value) : Prop :=
  Blk W b 3 #[.int .i64 (n : Int)] ∧ Blk W (b + 1) 198 #[hv] ∧ (∃ A k c, Blk W (b + 2) 22 #[.slice A k c]) ∧ Blk W mb 3 #[.int .i64 (many : Int)] ∧
    Blk W (mb + 1) 173 #[.func (.func 214) #[] #[.pointer (some ⟨mb, 0, none⟩), .pointer (some ⟨b + 2, 0, none⟩), .pointer (some ⟨b + 1, 0, none⟩), .pointer (some ⟨b, 0, none⟩), .pointer (some ⟨mb + 1, 0, none⟩)]]
theorem FBox.ext {W W' : World} {b mb n many : Nat} {hv : Value} (h : FBox W b mb n many hv) (he : Ext W W') : FBox W' b mb n many hv := by
  obtain ⟨h1, h2, ⟨A, k, c, h3⟩, h4, h5⟩ := h
  exact ⟨h1.ext he, h2.ext he, ⟨A, k, c, h3.ext he⟩, h4.ext he, h5.ext he⟩
theorem FBox.set_ {W : World} {b mb n many : Nat} {hv : Value} (h : FBox W b mb n many hv) (hb : b + 2 < mb) (A : Option Addr) (k c : Nat) : FBox (W.setCell ⟨b + 2, 0, none⟩ (.slice A k c)) b mb n many hv ∧ (W.setCell ⟨b + 2, 0, none⟩ (.slice A k c)).cell? ⟨b + 2, 0, none⟩ = some (.slice A k c) := by
  obtain ⟨h1, h2, ⟨A', k', c', h3⟩, h4, h5⟩ := h
  have h6 : Blk (W.setCell ⟨b + 2, 0, none⟩ (.slice A k c)) (b + 2) 22 #[.slice A k c] := by simpa using h3.set_ 0 (.slice A k c)
  exact ⟨⟨h1.far (by show b ≠ b + 2; omega) _, h2.far (by show b + 1 ≠ b + 2; omega) _, ⟨A, k, c, h6⟩, h4.far (by show mb ≠ b + 2; omega) _, h5.far (by show mb + 1 ≠ b + 2; omega) _⟩, h6.c1⟩
/-- what a call of the search does -/
def MoreAt (n : Nat) (p : List Nat → Bool) (b mb many : Nat) (hv : Value) (r : Nat) (l : List Nat) (a : Nat) (W : World) (e : Ending) (W' : World) : Prop :=
  e = .returned (.bool (goR n p r l a).isSome) ∧ Apart (b + 2) W W' ∧ FBox W' b mb n many hv ∧ ∀ x, goR n p r l a = some x → ∃ u, W'.cell? ⟨b + 2, 0, none⟩ = some u ∧ OwnI W' (b + 3) 3 u (ints x)

set_option maxRecDepth 20000 in
set_option maxHeartbeats 1000000 in
theorem more_any (n many g b mb : Nat) (fs lb : Array Value) (p : List Nat → Bool) (hn : n ≤ 9) (hmn : many ≤ n) (hb : b + 2 < mb) (w0 : World) (hw0 : w0.heap.size ≤ b) (eg : Enters Tryz.prog g)
    (hp : ∀ l, Up n 0 l → Tells Tryz.prog w0 g fs lb (fun W v l => SlI W v (ints l)) l (p l)) : ∀ (r : Nat) (l : List Nat) (a : Nat) (W : World) (v : Value), l.length + r = many → Up n 0 l → (∀ x ∈ l, x < a) → a ≤ n →
      FBox W b mb n many (.func (.func g) fs lb) → Ext w0 W → OwnI W (b + 3) 3 v (ints l) →
      Calls Tryz.prog 214 #[v, .int .i64 (a : Int), .pointer (some ⟨mb, 0, none⟩), .pointer (some ⟨b + 2, 0, none⟩), .pointer (some ⟨b + 1, 0, none⟩), .pointer (some ⟨b, 0, none⟩), .pointer (some ⟨mb + 1, 0, none⟩)] W (MoreAt n p b mb many (.func (.func g) fs lb) r l a W) := by
  intro r
  induction r with
  | zero =>
    intro l a W v hlr hup _ ha hF he hO
    obtain ⟨f1, f2, ⟨A3, k3, c3, f3⟩, f4, f5⟩ := id hF
    obtain ⟨A, c, rfl, r1, r2, r3, r4, r5⟩ := hO.open_
    have HF := Lib.hid hF; have HO := Lib.hid hO
    have hset := hF.set_ hb A (ints l).length c
    have hap := (Apart.refl (b + 2) W).set_ 0 (.slice A (ints l).length c)
    have hO1 := hO.apartB (by omega) hap
    have he1 := hap.ext_of he (by omega)
    have hcall := Lib.hid (hp l hup _ _ he1 hO1.sl)
    have Hset := Lib.hid hset
    have hq : goR n p 0 l a = if p l then some l else none := Pow.goR_zero n p l a
    have Hq := Lib.hid hq
    have g1 := f3.frozen 0
    have e0 := f4.c1; have e1 := f3.c1
    have e2 := (f2.far (p := ⟨b + 2, 0, none⟩) (by show b + 1 ≠ b + 2; omega) (.slice A (ints l).length c)).c1
    have hlm : ((ints l).length : Int) = (many : Int) := by rw [ints_length]; omega
    have hlen : (((ints l).length : Int) == (many : Int)) = true := by simpa using hlm
    have eg' := eg
    unfold Enters at eg'
    clear hset f1 f2 f3 f4 f5 r3 r4 r5 hO hF hq hlm
    go_enter Tryz.func214, Tryz.ntmps214
    go_wp2_with fail
    refine hcall.out.mono ?_
    rintro e w2 ⟨rfl, he2⟩
    go_wp2_with fail
    go_ret
    refine ⟨?_, hap.trans (Apart.of_ext he2), Hset.out.1.ext he2, fun x hx => ⟨_, he2.cell Hset.out.2, ?_⟩⟩
    · rw [Hq.out]; cases p l <;> rfl
    · rw [Hq.out] at hx
      cases hpl : p l with
      | false => rw [hpl] at hx; cases hx
      | true =>
        rw [hpl] at hx
        cases hx
        exact hO1.ext he2
  | succ r ih =>
    intro l a W v hlr hup hla ha hF he hO
    obtain ⟨ti, hi, hz0, hz1, hz2⟩ := info_parts info_int
    have eg' : Enters Tryz.prog 214 := enters_of Tryz.func214 (by kernel_rfl) rfl
    unfold Enters at eg'
    have Hih := Lib.hid ih; have HO := Lib.hid hO; have HE := Lib.hid he; have Hup := Lib.hid hup; have Hla := Lib.hid hla
    have Hq := Lib.hid (Pow.goR_succ n p r l a)
    obtain ⟨A, c, rfl, r1, r2, r3, r4, r5⟩ := hO.open_
    have hlen : (((ints l).length : Int) == (many : Int)) = false := by
      have : ¬ ((ints l).length : Int) = (many : Int) := by rw [ints_length]; omega
      simpa using this
    have hl9 : (ints l).length ≤ 9 := by rw [ints_length]; omega
    have f4 := hF.2.2.2.1.c1
    clear ih r3 r4 r5 hO he hup hla hp
    go_enter Tryz.func214, Tryz.ntmps214
    go_wp2_with fail
    clear f4
    go_loopw [10] (fun i wr => ∃ k : Nat, a ≤ k ∧ k ≤ n ∧ i = .int .i64 (k : Int) ∧ Hid (goT n p r l a k = none) ∧ FBox wr b mb n many (.func (.func g) fs lb) ∧ Apart (b + 2) W wr) (fun i _ => n - (intOf i).toNat)
    case atStart => exact ⟨a, Nat.le_refl _, ha, rfl, Pow.goT_start n p r l a, hF, Apart.refl _ _⟩
    case round =>
      clear hF
      obtain ⟨k, hak, hkn, rfl, hno, hF, hap⟩ := hrel
      have f1 := hF.1.c1
      by_cases hlt : k < n
      · have f5 := hF.2.2.2.2.c1
        have hOr := HO.out.apartB (by omega) hap
        have HF := Lib.hid hF
        have hcl := Lib.hid fun W1 (hW1 : Ext wr W1) => cloneI A c (ints l) W1 (by omega) (hOr.ext hW1).sl.ints
        have hszF : mb + 1 < wr.heap.size := hF.2.2.2.2.lt
        clear hF
        go_upto_region 7 with fail
        refine wp_region_tree 8 [(2, true), (4, true), (5, true)] [] (by kernel_rfl) (by kernel_rfl) (by kernel_rfl) (ds := [0, 1, 3, 6, 7]) (by kernel_rfl) ?_
        simp only [List.take, List.drop, fill, Act.put, List.setIfInBounds_toArray, List.set_cons_zero, List.set_cons_succ, Nat.reduceAdd]
        repeat (first
          | (apply Unlock.float rfl
             · intro x W he hd K Qr hK
               try (have he := he (by decide); have f5 := he.cell f5)
               try simp only [edges, DepsE, List.filter_cons, List.filter_nil, Region.binds, if_true, and_true, true_and, upd, Nat.reduceEqDiff, if_false] at hd
               try simp only [hd] at hK ⊢
               have HK := Lib.hid hK; clear hK
               go_wp2_with fail
               exact HK.out))
        refine Unlock.nil ?_
        intro W he hG
        refine Tree.cut (f' := 1) (rem' := [(5, true)]) (fun y y' W6 => ∃ (cv : Value) (vb vc : Nat), y' = upd (upd y 2 cv) 4 (.slice (some ⟨vb, 0, none⟩) 1 vc) ∧ Ext wr W6 ∧ OwnI W6 wr.heap.size 3 cv (ints l) ∧ Blk W6 vb 3 #[.int .i64 (k : Int)]) ?_ ?_
        · rintro y' W6 ⟨cv, vb, vc, rfl, he6, hO6, hb6⟩
          clear hG he
          refine Tree.next (ks := [(5, true)]) (by kernel_rfl) ?_
          refine TSteps.cons _ rfl ?_ trivial
          intro x hd K Qr hK
          try simp only [edges, DepsE, List.filter_cons, List.filter_nil, Region.binds, if_true, and_true, true_and, upd, Nat.reduceEqDiff, if_false] at hd
          try simp only [hd] at hK ⊢
          clear hd
          have HK := Lib.hid hK; clear hK
          have hsrc := Src.blk hb6
          have hsz6 := he6.size
          have Hw : Hid (∀ v' w', w'.ownsRow wr.heap.size 3 1 v' ((ints l).length + 1) ((ints l).map (Value.int .i64) ++ [.int .i64 (k : Int)]) → W6.grownBy w' cv.ownBlock → OwnI w' (b + 3) 3 v' (ints (l ++ [k])) ∧ Ext wr w') := by
            intro v' w' hown hg
            refine ⟨?_, Below.grown he6 hg he6.size fun j hj => (hO6.own_lt j hj).1⟩
            have : OwnI w' wr.heap.size 3 v' (ints (l ++ [k])) := by unfold OwnI; rw [ints_append, List.length_append, List.map_append]; exact hown
            exact this.mono (by omega)
          obtain ⟨A6, c6, rfl, -, -, -, -, -⟩ := hO6.open_
          go_wp2_with (at_builtin; refine wpList_app rfl _ _ 22 rfl wr.heap.size 3 ti (.int .i64 0) 1 8 Tryz.underlying22 hi hz0 hz1 hz2 rfl (by decide) (.slice A6 (ints l).length c6) (ints l).length _ rfl hO6 (some ⟨vb, 0, none⟩) 1 vc [.int .i64 (k : Int)] rfl rfl hsrc ?c2 ?c3 ?c4 ?c5 ?_; (case c2 => (intro u hu; rw [List.mem_singleton] at hu; subst hu; rfl)); (case c3 => (unfold maxLen; omega)); (case c4 => omega); (case c5 => omega); intro v' w7 hown hg hblk; have HO7 := Lib.hid (Hw.out v' w7 hown hg); clear hown hg hblk)
          refine HK.out _ _ (fun _ => HO7.out.2) ?_
          clear HK
          refine Unlock.of (ds := []) (by kernel_rfl) ?_
          repeat (first
            | (apply Unlock.float rfl
               · intro x W he hd K Qr hK
                 try (have he := he (by decide))
                 try simp only [edges, DepsE, List.filter_cons, List.filter_nil, Region.binds, if_true, and_true, true_and, upd, Nat.reduceEqDiff, if_false] at hd
                 try simp only [hd] at hK ⊢
                 have HK := Lib.hid hK; clear hK
                 go_wp2_with fail
                 exact HK.out))
          refine Unlock.nil ?_
          refine Tree.nil (by kernel_rfl) ?_
          simp only [upd, Nat.reduceEqDiff, if_false, if_true]
          have hap7 := hap.trans (Apart.of_ext HO7.out.2)
          have hup' : Up n 0 (l ++ [k]) := ⟨List.pairwise_append.2 ⟨Hup.out.1, List.pairwise_singleton _ _, fun x hx y hy => by rw [List.mem_singleton] at hy; subst hy; have := Hla.out x hx; omega⟩, fun x hx => by
            rcases List.mem_append.1 hx with h | h
            · exact Hup.out.2 x h
            · rw [List.mem_singleton] at h; subst h; omega⟩
          have hcall := Lib.hid (Hih.out (l ++ [k]) (k + 1) w7 v' (by rw [List.length_append, List.length_singleton]; omega) hup' (fun x hx => by
            rcases List.mem_append.1 hx with h | h
            · have := Hla.out x h; omega
            · rw [List.mem_singleton] at h; omega) (by omega) (HF.out.ext HO7.out.2) (hap7.ext_of HE.out (by omega)) HO7.out.1)
          have hk1 : ((k + 1 : Nat) : Int) = (k : Int) + 1 := by omega
          rw [hk1] at hcall
          have Hst := Lib.hid (Pow.goT_step n p r l hak)
          obtain ⟨q, hq⟩ : ∃ q, (goR n p r (l ++ [k]) (k + 1)).isSome = q := ⟨_, rfl⟩
          have Hq2 := Lib.hid hq
          unfold MoreAt at hcall
          rw [hq] at hcall
          obtain ⟨A7, c7, rfl, -, -, -, -, -⟩ := HO7.out.1.open_
          clear hq hk1
          go_wp2_with fail
          refine hcall.out.mono ?_
          rintro e w8 ⟨rfl, ha8, hF8, hx8⟩
          cases q with
          | true =>
            go_wp2_with fail
            go_ret
            obtain ⟨x, hx⟩ : ∃ x, goR n p r (l ++ [k]) (k + 1) = some x := Option.isSome_iff_exists.1 Hq2.out
            have h1 : goT n p r l a n = some x := by
              have := goT_mono (show a ≤ k + 1 by omega) (n - (k + 1)) (by omega) (show goT n p r l a (k + 1) = some x by rw [Hst.out, hno.out, hx]; rfl)
              rwa [show k + 1 + (n - (k + 1)) = n by omega] at this
            refine ⟨by rw [Hq.out, h1]; rfl, hap7.trans ha8, hF8, fun y hy => ?_⟩
            rw [Hq.out, h1] at hy
            cases hy
            exact hx8 x hx
          | false =>
            go_wp2_with fail
            go_roundw
            case rel =>
              refine ⟨k + 1, by omega, by omega, by go_num, ?_, hF8, hap7.trans ha8⟩
              unfold Hid
              rw [Hst.out, hno.out]
              exact Option.isNone_iff_eq_none.1 (by have := Hq2.out; cases h : goR n p r (l ++ [k]) (k + 1) <;> simp_all)
            case measure => simp [intOf]; omega
        · intro hcut
          have Hcut := Lib.hid hcut
          clear hcut hG
          refine Tree.next (ks := [(2, true), (4, true)]) (by kernel_rfl) ?_
          refine TSteps.cons _ rfl ?_ (TSteps.cons _ rfl ?_ trivial)
          · intro x hd K Qr hK
            try simp only [edges, DepsE, List.filter_cons, List.filter_nil, Region.binds, if_true, and_true, true_and, upd, Nat.reduceEqDiff, if_false] at hd
            try simp only [hd] at hK ⊢
            clear hd
            have HK := Lib.hid hK; clear hK
            go_wp2_with fail
            refine (hcl.out W he).mono ?_
            rintro e W5 ⟨cv, rfl, hO5, he5⟩
            have heA := he.trans he5
            have hszA := he.size
            go_wp2_with fail
            refine HK.out _ _ (fun _ => heA) ?_
            refine Unlock.of (ds := []) (by kernel_rfl) ?_
            repeat (first
              | (apply Unlock.float rfl
                 · intro x W he hd K Qr hK
                   try (have he := he (by decide))
                   try simp only [edges, DepsE, List.filter_cons, List.filter_nil, Region.binds, if_true, and_true, true_and, upd, Nat.reduceEqDiff, if_false] at hd
                   try simp only [hd] at hK ⊢
                   have HK := Lib.hid hK; clear hK
                   go_wp2_with fail
                   exact HK.out))
            refine Unlock.nil ?_
            clear HK
            refine Tree.next (ks := [(4, true)]) (by kernel_rfl) ?_
            refine TSteps.cons _ rfl ?_ trivial
            intro x hd K Qr hK
            try simp only [edges, DepsE, List.filter_cons, List.filter_nil, Region.binds, if_true, and_true, true_and, upd, Nat.reduceEqDiff, if_false] at hd
            try simp only [hd] at hK ⊢
            clear hd
            have HK := Lib.hid hK; clear hK
            go_wp2_with fail
            have hX5 := Ext.alloc W5 (.cells #[.int .i64 (k : Int)] 3)
            refine HK.out _ _ (fun _ => heA.trans hX5) ?_
            refine Unlock.of (ds := []) (by kernel_rfl) ?_
            repeat (first
              | (apply Unlock.float rfl
                 · intro x W he hd K Qr hK
                   try (have he := he (by decide))
                   try simp only [edges, DepsE, List.filter_cons, List.filter_nil, Region.binds, if_true, and_true, true_and, upd, Nat.reduceEqDiff, if_false] at hd
                   try simp only [hd] at hK ⊢
                   have HK := Lib.hid hK; clear hK
                   go_wp2_with fail
                   exact HK.out))
            refine Unlock.nil ?_
            exact Tree.eq (by kernel_rfl) (Hcut.out _ _ ⟨cv, _, _, rfl, heA.trans hX5, (hO5.mono (by omega)).ext hX5, Blk.new _ _ _⟩)
          · intro x hd K Qr hK
            try simp only [edges, DepsE, List.filter_cons, List.filter_nil, Region.binds, if_true, and_true, true_and, upd, Nat.reduceEqDiff, if_false] at hd
            try simp only [hd] at hK ⊢
            clear hd
            have HK := Lib.hid hK; clear hK
            go_wp2_with fail
            have hX5 := Ext.alloc W (.cells #[.int .i64 (k : Int)] 3)
            have hvb := Blk.new W 3 #[.int .i64 (k : Int)]
            have heA := he.trans hX5
            refine HK.out _ _ (fun _ => heA) ?_
            refine Unlock.of (ds := []) (by kernel_rfl) ?_
            repeat (first
              | (apply Unlock.float rfl
                 · intro x W he hd K Qr hK
                   try (have he := he (by decide))
                   try simp only [edges, DepsE, List.filter_cons, List.filter_nil, Region.binds, if_true, and_true, true_and, upd, Nat.reduceEqDiff, if_false] at hd
                   try simp only [hd] at hK ⊢
                   have HK := Lib.hid hK; clear hK
                   go_wp2_with fail
                   exact HK.out))
            refine Unlock.nil ?_
            obtain ⟨vb, hvbe⟩ : ∃ vb, W.heap.size = vb := ⟨_, rfl⟩
            rw [hvbe] at hvb ⊢
            generalize W.alloc _ = W4 at *
            clear HK hX5 hvbe
            refine Tree.next (ks := [(2, true)]) (by kernel_rfl) ?_
            refine TSteps.cons _ rfl ?_ trivial
            intro x hd K Qr hK
            try simp only [edges, DepsE, List.filter_cons, List.filter_nil, Region.binds, if_true, and_true, true_and, upd, Nat.reduceEqDiff, if_false] at hd
            try simp only [hd] at hK ⊢
            clear hd
            have HK := Lib.hid hK; clear hK
            go_wp2_with fail
            refine (hcl.out W4 heA).mono ?_
            rintro e W5 ⟨cv, rfl, hO5, he5⟩
            have hszA := heA.size
            go_wp2_with fail
            refine HK.out _ _ (fun _ => heA.trans he5) ?_
            refine Unlock.of (ds := []) (by kernel_rfl) ?_
            repeat (first
              | (apply Unlock.float rfl
                 · intro x W he hd K Qr hK
                   try (have he := he (by decide))
                   try simp only [edges, DepsE, List.filter_cons, List.filter_nil, Region.binds, if_true, and_true, true_and, upd, Nat.reduceEqDiff, if_false] at hd
                   try simp only [hd] at hK ⊢
                   have HK := Lib.hid hK; clear hK
                   go_wp2_with fail
                   exact HK.out))
            refine Unlock.nil ?_
            exact Tree.eq (by kernel_rfl) (Hcut.out _ _ ⟨cv, vb, _, upd_comm (by decide), heA.trans he5, hO5.mono (by omega), hvb.ext he5⟩)
      · obtain rfl : k = n := by omega
        have hd : decide ((k : Int) < (k : Int)) = false := by simp
        go_wp2_with fail
        go_ret
        refine ⟨?_, hap, hF, fun x hx => ?_⟩
        · rw [Hq.out, hno.out]; rfl
        · rw [Hq.out, hno.out] at hx; cases hx
theorem lenF_mono {n : Nat} {p : List Nat → Bool} {x : List Nat} {c : Nat} (h : Pow.lenF n p c = some x) : ∀ d, Pow.lenF n p (c + d) = some x
  | 0 => h
  | d + 1 => by
    rw [show c + (d + 1) = (c + d) + 1 by omega, Pow.lenF_succ, lenF_mono h d]
    rfl
/-- what the search gives back -/
def Finds (n : Nat) (p : List Nat → Bool) (w : World) (e : Ending) (w' : World) : Prop :=
  ∃ A k c, e = .returned (.tuple #[.slice A k c, .bool (Pow.firstF n p).isSome]) ∧ Ext w w' ∧ ∀ x, Pow.firstF n p = some x → OwnI w' w.heap.size 3 (.slice A k c) (ints x)
set_option maxRecDepth 20000 in
set_option maxHeartbeats 1000000 in
theorem first_anyP (n g : Nat) (fs lb : Array Value) (p : List Nat → Bool) (hn : n ≤ 9) (w : World) (eg : Enters Tryz.prog g)
    (hp : ∀ l, Up n 0 l → Tells Tryz.prog w g fs lb (fun W v l => SlI W v (ints l)) l (p l)) :
    Calls Tryz.prog 119 #[.int .i64 (n : Int), .agg #[.func (.func g) fs lb]] w (Finds n p w) := by
  have hmf : ∀ (fn : Fn) (first cap : Array Value) (w : World), (Instr.makeFunc fn first cap).run Tryz.prog w = .ok (.func fn first cap) w := fun _ _ _ _ => rfl
  have Hp := Lib.hid hp; clear hp
  have eg' : Enters Tryz.prog 214 := enters_of Tryz.func214 (by kernel_rfl) rfl
  unfold Enters at eg'
  obtain ⟨L, hL⟩ : ∃ L, w.heap.size = L := ⟨_, rfl⟩
  go_enter Tryz.func119, Tryz.ntmps119
  go_wp2_with fail
  go_step3
  go_wp2
  go_step3
  have hX : Ext w (((w.alloc (.cells #[.int .i64 (n : Int)] 3)).alloc (.cells #[.func (.func g) fs lb] 198)).alloc (.cells #[.slice none 0 0] 22)) := ((Ext.alloc _ _).trans (Ext.alloc _ _)).trans (Ext.alloc _ _)
  have b0 := ((Blk.new w 3 #[.int .i64 (n : Int)]).alloc (.cells #[.func (.func g) fs lb] 198)).alloc (.cells #[.slice none 0 0] 22)
  have b1 := (Blk.new (w.alloc (.cells #[.int .i64 (n : Int)] 3)) 198 #[.func (.func g) fs lb]).alloc (.cells #[.slice none 0 0] 22)
  have b2 := Blk.new ((w.alloc (.cells #[.int .i64 (n : Int)] 3)).alloc (.cells #[.func (.func g) fs lb] 198)) 22 #[.slice none 0 0]
  simp only [World.size_alloc, hL] at b0 b1 b2
  have e0 := b0.c1
  go_wp2_with fail
  clear e0
  generalize ((w.alloc _).alloc _).alloc _ = W0 at *
  have HL := Lib.hid hL
  go_loopw [7, 12] (fun q i wr => ∃ c : Nat, c ≤ n + 1 ∧ q = .bool false ∧ i = .int .i64 (c : Int) ∧ Hid (Pow.lenF n p c = none) ∧ Ext w wr ∧ Blk wr L 3 #[.int .i64 (n : Int)] ∧ Blk wr (L + 1) 198 #[.func (.func g) fs lb] ∧ ∃ A k c, Blk wr (L + 1 + 1) 22 #[.slice A k c]) (fun _ i _ => n + 1 - (intOf i).toNat)
  case atStart => exact ⟨0, by omega, rfl, rfl, Pow.lenF_zero n p, hX, b0, b1, _, _, _, b2⟩
  case round =>
    clear hX b0 b1 b2
    obtain ⟨c, hc, rfl, rfl, hno, he, b0, b1, A, k, cp, b2⟩ := hrel
    by_cases hlt : c < n + 1
    · have f0 := b0.c1
      go_wp2_with fail
      have hX : Ext wr ((wr.alloc (.cells #[.int .i64 (c : Int)] 3)).alloc (.cells #[.func (.func 214) #[] #[.pointer (some ⟨wr.heap.size, 0, none⟩), .pointer (some ⟨L + 2, 0, none⟩), .pointer (some ⟨L + 1, 0, none⟩), .pointer (some ⟨L, 0, none⟩), .pointer (some ⟨wr.heap.size + 1, 0, none⟩)]] 173)) := (Ext.alloc _ _).trans (Ext.alloc _ _)
      have b3 := (Blk.new wr 3 #[.int .i64 (c : Int)]).alloc (.cells #[.func (.func 214) #[] #[.pointer (some ⟨wr.heap.size, 0, none⟩), .pointer (some ⟨L + 2, 0, none⟩), .pointer (some ⟨L + 1, 0, none⟩), .pointer (some ⟨L, 0, none⟩), .pointer (some ⟨wr.heap.size + 1, 0, none⟩)]] 173)
      have b4 := Blk.new (wr.alloc (.cells #[.int .i64 (c : Int)] 3)) 173 #[.func (.func 214) #[] #[.pointer (some ⟨wr.heap.size, 0, none⟩), .pointer (some ⟨L + 2, 0, none⟩), .pointer (some ⟨L + 1, 0, none⟩), .pointer (some ⟨L, 0, none⟩), .pointer (some ⟨wr.heap.size + 1, 0, none⟩)]]
      rw [World.size_alloc] at b4
      have hLw : L + 2 < wr.heap.size := b2.lt
      have hFB : FBox _ L wr.heap.size n c (.func (.func g) fs lb) := ⟨b0.ext hX, b1.ext hX, ⟨_, _, _, b2.ext hX⟩, b3, b4⟩
      have hcall := more_any n c g L wr.heap.size fs lb p hn (by omega) hLw w (by omega) eg Hp.out c [] 0 _ (.slice none 0 0) (by simp) ⟨List.Pairwise.nil, fun x hx => by cases hx⟩ (fun x hx => by cases hx) (Nat.zero_le _) hFB (he.trans hX) (OwnI.nil _ _ _)
      have Hsu := Lib.hid (Pow.lenF_succ n p c)
      obtain ⟨q, hq⟩ : ∃ q, (goR n p c [] 0).isSome = q := ⟨_, rfl⟩
      have Hq := Lib.hid hq
      unfold MoreAt at hcall
      rw [hq] at hcall
      have hd : decide ((c : Int) < (n : Int) + 1) = true := by simp; omega
      have HX := Lib.hid (he.trans hX)
      clear hFB b3 b4 b0 b1 b2 f0 hq hX
      refine hcall.mono ?_
      rintro e w8 ⟨rfl, ha8, ⟨f1, f2, ⟨A8, k8, c8, f3⟩, f4, f5⟩, hx8⟩
      have he8 := ha8.ext_of HX.out (by omega)
      cases q with
      | true =>
        obtain ⟨x, hx⟩ : ∃ x, goR n p c [] 0 = some x := Option.isSome_iff_exists.1 Hq.out
        obtain ⟨u, hu, hO⟩ := hx8 x hx
        have hF : Pow.firstF n p = some x := by
          rw [← Pow.lenF_first]
          have := lenF_mono (show Pow.lenF n p (c + 1) = some x by rw [Hsu.out, hno.out, hx]; rfl) (n - c)
          rwa [show c + 1 + (n - c) = n + 1 by omega] at this
        obtain ⟨A9, c9, rfl, -, -, -, -, -⟩ := hO.open_
        have e2 : w8.cell? ⟨L + 1 + 1, 0, none⟩ = _ := hu
        clear f1 f2 f3 f4 f5 hu
        go_wp2_with fail
        rw [Exit.noGoto_ret]
        go_ret2
        exact ⟨A9, _, c9, by rw [hF]; rfl, he8, fun y hy => by rw [hF] at hy; cases hy; exact hO.mono (by omega)⟩
      | false =>
        have hne : goR n p c [] 0 = none := by
          have := Hq.out
          cases h : goR n p c [] 0 <;> simp_all
        go_wp2_with fail
        go_roundw
        case rel => exact ⟨c + 1, by omega, rfl, by go_num, by unfold Hid; rw [Hsu.out, hno.out, hne]; rfl, he8, f1, f2, A8, k8, c8, f3⟩
        case measure => simp [intOf]; omega
    · obtain rfl : c = n + 1 := by omega
      have e2 := b2.c1
      have hd : decide (((n + 1 : Nat) : Int) < (n : Int) + 1) = false := by simp
      go_wp2_with fail
      rw [Exit.noGoto_ret]
      go_ret2
      have hF : Pow.firstF n p = none := by rw [← Pow.lenF_first]; exact hno.out
      exact ⟨A, k, cp, by rw [hF]; rfl, he, fun x hx => by rw [hF] at hx; cases hx⟩
end Go.Proofs.Pet

namespace Go.Proofs.Pet
open Go Go.RowKit Go.Maps Go.Shelf
open Go.Proofs.Pow (PM Sh Wv POk Up)

theorem ints_contains (l : List Nat) (k : Nat) : (ints l).contains (k : Int) = l.contains k := by
  rw [Bool.eq_iff_iff, List.contains_iff_mem, List.contains_iff_mem]
  unfold ints
  rw [List.mem_map]
  exact ⟨fun ⟨x, hx, e⟩ => by have : x = k := by omega
                              exact this ▸ hx, fun h => ⟨k, h, rfl⟩⟩
theorem ints_inG {m : PM} {l : List Nat} {a : Nat} (h : Up m.wvs.length a l) : Pow.InG m (ints l) := by
  intro k hk
  unfold ints at hk
  obtain ⟨x, hx, rfl⟩ := List.mem_map.1 hk
  have := h.2 x hx
  omega
theorem ints_get (l : List Nat) {k : Nat} (hk : k < l.length) : (ints l)[k]?.getD 0 = ((l[k]?.getD 0 : Nat) : Int) := by
  unfold ints
  rw [List.getElem?_map, List.getElem?_eq_getElem hk]
  rfl
theorem cost_ints (m : PM) (l : List Nat) : Pow.costF m (fun k => (ints l).contains (k : Int)) = Pow.costF m (fun k => l.contains k) := by
  congr 1
  funext k
  exact ints_contains l k
def shSum (sh : List Int) (l : List Nat) : Int := (l.map fun k => sh[k]?.getD 0).sum
theorem shSum_snoc (sh : List Int) (l : List Nat) (k : Nat) : shSum sh (l ++ [k]) = shSum sh l + sh[k]?.getD 0 := by simp [shSum]
theorem shSum_bd {sh : List Int} (hb : ∀ x, x ∈ sh → 0 ≤ x ∧ x ≤ 1000000) : ∀ l : List Nat, 0 ≤ shSum sh l ∧ shSum sh l ≤ 1000000 * (l.length : Int)
  | [] => by simp [shSum]
  | k :: l => by
    have h := shSum_bd hb l
    have h1 : 0 ≤ sh[k]?.getD 0 ∧ sh[k]?.getD 0 ≤ 1000000 := by
      cases h2 : sh[k]? with
      | none => simp
      | some x => exact hb x (List.mem_of_getElem? h2)
    have h3 : shSum sh (k :: l) = sh[k]?.getD 0 + shSum sh l := by simp [shSum]
    rw [h3, List.length_cons]
    omega
theorem take_snocN {l : List Nat} {k : Nat} (hk : k < l.length) {x : Nat} (e : l[k]?.getD 0 = x) : l.take (k + 1) = l.take k ++ [x] := by
  rw [List.take_add_one, List.getElem?_eq_getElem hk]
  rw [List.getElem?_eq_getElem hk] at e
  simp only [Option.getD_some] at e
  rw [e]; rfl

set_option maxRecDepth 20000 in
set_option maxHeartbeats 1000000 in
theorem better1_any (D Sb Db : Nat) (m : PM) (hm : POk m) (As : Option Addr) (cs : Nat) (sh : List Int) (hsl : sh.length = m.wvs.length) (hsb : ∀ x, x ∈ sh → 0 ≤ x ∧ x ≤ 1000000) (w0 : World)
    (hS : Blk w0 Sb 22 #[.slice As sh.length cs]) (hSA : IntsAt w0 As sh) (hDb : Blk w0 Db 175 #[.pointer (some ⟨D, 0, none⟩)]) (hD : DeskAt w0 D m) (l : List Nat) (hl : Up m.wvs.length 0 l) :
    Tells Tryz.prog w0 253 #[] #[.pointer (some ⟨Sb, 0, none⟩), .pointer (some ⟨Db, 0, none⟩)] (fun W v l => SlI W v (ints l)) l (Pow.moreB m sh l) := by
  intro W v hW hv
  obtain ⟨A, c, rfl, s1, s2, hA⟩ := hv
  have hml := hm.few
  have hl6 : l.length ≤ 6 := by have := Pow.up_len hl; omega
  have hlen := ints_length l
  rw [hlen]
  obtain ⟨cost, hcost⟩ : ∃ cost, Pow.costF m (fun k => l.contains k) = cost := ⟨_, rfl⟩
  have hcb := Pow.cost_bounds hm (fun k => l.contains k)
  have hcall := fun W' (he : Ext W W') => cost_anyP D m hm A c l.length (ints l) hlen (ints_inG hl) (by omega) cost ((cost_ints m l).trans hcost) W' (hD.ext (hW.trans he)) (hA.ext he)
  rw [hcost] at hcb
  have Hcall := Lib.hid hcall
  obtain ⟨q, hq⟩ : ∃ q, Pow.moreB m sh l = q := ⟨_, rfl⟩
  rw [hq]
  have Hq : Hid (q = decide (60 * cost < shSum sh l)) := by unfold Hid; rw [← hq, ← hcost]; rfl
  have hS' := hS.ext hW
  have hDb' := hDb.ext hW
  have HSA := Lib.hid (hSA.ext hW)
  clear hcall hcost hq hS hDb hSA hD
  have e0 := hS'.c1
  have e1 := hDb'.c1
  show Calls Tryz.prog 253 #[_, .pointer (some ⟨Sb, 0, none⟩), .pointer (some ⟨Db, 0, none⟩)] W _
  go_enter Tryz.func253, Tryz.ntmps253
  go_wp2_with fail
  go_loopw [5, 10] (fun u i wr => ∃ k : Nat, k ≤ l.length ∧ i = .int .i64 (k : Int) ∧ (∃ s, u = .int .i64 s ∧ Hid (shSum sh (l.take k) = s)) ∧ W = wr) (fun _ i _ => l.length - (intOf i).toNat)
  case atStart => exact ⟨0, Nat.zero_le _, rfl, ⟨0, rfl, by simp [shSum, Hid]⟩, rfl⟩
  case round =>
    obtain ⟨k, hk, rfl, ⟨s, rfl, hs⟩, rfl⟩ := hrel
    by_cases hlt : k < l.length
    · obtain ⟨b, o, rfl, c1⟩ := hA k (by rw [hlen]; exact hlt)
      rw [ints_get l hlt] at c1
      obtain ⟨kk, hkk⟩ : ∃ kk, l[k]?.getD 0 = kk := ⟨_, rfl⟩
      have hkl : kk < m.wvs.length := by
        have := hl.2 (l[k]?.getD 0) (by rw [List.getElem?_eq_getElem hlt]; exact List.getElem_mem _)
        omega
      have Htk := Lib.hid (take_snocN hlt hkk)
      rw [hkk] at c1
      obtain ⟨b2, o2, rfl, c2⟩ := HSA.out kk (by omega)
      have hst := shSum_snoc sh (l.take k) kk
      have hsb1 := shSum_bd hsb (l.take k)
      have hsb2 := shSum_bd hsb (l.take k ++ [kk])
      rw [List.length_append, List.length_take] at hsb2
      rw [List.length_take] at hsb1
      simp only [List.length_singleton] at hsb2
      rw [hst] at hsb2
      rw [hs.out] at hst hsb1 hsb2
      generalize sh[kk]?.getD 0 = x at *
      have Hst := Lib.hid hst
      have hln := hlen
      clear hst hkk
      have hsl2 : (kk : Int) < (sh.length : Int) := by omega
      go_wp2_with fail
      go_roundw
      case rel => exact ⟨k + 1, by omega, by go_num, ⟨s + x, by go_num, by unfold Hid; rw [Htk.out]; exact Hst.out⟩, by trivial⟩
      case measure => simp [intOf]; omega
    · obtain rfl : k = l.length := by omega
      have hs' := hs.out
      rw [List.take_of_length_le (Nat.le_refl _)] at hs'
      have hsb1 := shSum_bd hsb l
      rw [hs'] at hsb1
      rw [hs'] at Hq
      clear hs hs'
      have Hq' := Lib.hid Hq
      go_wp2_with fail
      refine (Hcall.out W (Ext.refl _)).mono ?_
      rintro e w2 ⟨rfl, he2⟩
      go_wp2_with fail
      go_ret
      exact ⟨by rw [Hq'.out.out]; rfl, he2⟩

theorem groupE_ok {m : PM} {g : List Int} (h : groupE m g = 0) : checkP m = 0 ∧ Pow.InG m g ∧ g.Nodup ∧ g.length ≤ 6 := by
  unfold groupE at h
  split at h
  · rename_i h1; exact absurd h h1
  rename_i h1
  simp only [ne_eq, Decidable.not_not] at h1
  split at h
  · exact absurd h (by decide)
  rename_i h2
  split at h
  · exact absurd h (by decide)
  rename_i h3
  have hg : Pow.InG m g := by
    intro k hk
    simp only [Bool.not_eq_false, List.all_eq_true] at h2
    have := inB_iff.1 (h2 k hk)
    omega
  have hnd := nodup_of_twice (by simpa using h3)
  refine ⟨h1, hg, hnd, ?_⟩
  have := Pow.nodup_le (r := Pow.allI m.wvs.length) hnd fun x hx => by
    have := hg x hx
    unfold Pow.allI
    exact List.mem_map.2 ⟨x.toNat, List.mem_range.2 (by omega), by omega⟩
  rw [allI_len] at this
  have := ((checkP_iff m).1 h1).few
  omega
theorem sharedE_ok {m : PM} {l : List Int} (h : sharedE m l = 0) : checkP m = 0 ∧ l.length = m.wvs.length ∧ ∀ x, x ∈ l → 0 ≤ x ∧ x ≤ 1000000 := by
  unfold sharedE at h
  split at h
  · rename_i h1; exact absurd h h1
  rename_i h1
  simp only [ne_eq, Decidable.not_not] at h1
  split at h
  · exact absurd h (by decide)
  rename_i h2
  split at h
  · exact absurd h (by decide)
  rename_i h3
  simp only [Bool.not_eq_false, List.all_eq_true] at h3
  exact ⟨h1, by omega, fun x hx => inB_iff.1 (h3 x hx)⟩

set_option maxRecDepth 20000 in
theorem bett_any (D : Nat) (m : PM) (hm : POk m) (As : Option Addr) (cs n : Nat) (sh : List Int) (hn : sh.length = n) (hsl : n = m.wvs.length) (hsb : ∀ x, x ∈ sh → 0 ≤ x ∧ x ≤ 1000000) (w : World) (hSA : IntsAt w As sh) (hD : DeskAt w D m) :
    Calls Tryz.prog 199 #[.pointer (some ⟨D, 0, none⟩), .slice As n cs] w (Finds m.wvs.length (Pow.moreB m sh) w) := by
  subst hn
  have hmf : ∀ (fn : Fn) (first cap : Array Value) (w : World), (Instr.makeFunc fn first cap).run Tryz.prog w = .ok (.func fn first cap) w := fun _ _ _ _ => rfl
  have hml := hm.few
  have hE : Ext w ((w.alloc (.cells #[.pointer (some ⟨D, 0, none⟩)] 175)).alloc (.cells #[.slice As sh.length cs] 22)) := (Ext.alloc _ _).trans (Ext.alloc _ _)
  have b0 := (Blk.new w 175 #[.pointer (some ⟨D, 0, none⟩)]).alloc (.cells #[.slice As sh.length cs] 22)
  have b1 := Blk.new (w.alloc (.cells #[.pointer (some ⟨D, 0, none⟩)] 175)) 22 #[.slice As sh.length cs]
  rw [World.size_alloc] at b1
  have hD1 := hD.ext hE
  have hfi := Lib.hid (first_anyP m.wvs.length 253 #[] #[.pointer (some ⟨w.heap.size + 1, 0, none⟩), .pointer (some ⟨w.heap.size, 0, none⟩)] (Pow.moreB m sh) (by omega) _ (enters_of Tryz.func253 (by kernel_rfl) rfl)
    (fun l hl => better1_any D (w.heap.size + 1) w.heap.size m hm As cs sh hsl hsb _ b1 (hSA.ext hE) b0 hD1 l hl))
  have e0 := b0.c1
  obtain ⟨A1, c1, A2, c2, d0, d1, -, -, -⟩ := hD1.slices
  clear b0 b1 hD1 hSA hD hsl
  go_enter Tryz.func199, Tryz.ntmps199
  go_wp2_with fail
  refine hfi.out.mono ?_
  rintro e w1 ⟨A3, k3, c3, rfl, he1, hx1⟩
  go_wp2_with fail
  go_ret2
  exact ⟨A3, k3, c3, rfl, hE.trans he1, fun x hx => (hx1 x hx).mono hE.size⟩
set_option maxRecDepth 20000 in
theorem Cost_any (v : Value) (m : PM) (A : Option Addr) (c n : Nat) (g : List Int) (hn : g.length = n) (r x : Int) (hr : groupE m g = r) (hx : (if r = 0 then Pow.costF m (fun k => g.contains (k : Int)) else 0) = x) (w : World) (hv : PMVal w v m) (hl : n ≤ maxLen) (hlc : n ≤ c) (hA : IntsAt w A g) :
    Calls Tryz.prog 31 #[v, .slice A n c] w fun e w' => e = .returned (.tuple #[.int .i64 x, .int .i64 r]) ∧ Ext w w' := by
  have Hv := Lib.hid hv
  obtain ⟨A1, c1, A2, c2, rfl, h2, h3, h4, h5, h6, h7⟩ := hv
  have hE := Ext.alloc w (.cells #[.slice A1 m.shafts.length c1, .slice A2 m.wvs.length c2] 56)
  obtain ⟨k0, k1⟩ := (Blk.new w 56 #[.slice A1 m.shafts.length c1, .slice A2 m.wvs.length c2]).c2
  have ho := Lib.hid (grouped_any _ m A c n g hn r hr _ (Hv.out.ext hE) hl hlc (hA.ext hE))
  clear h6 h7
  go_enter Tryz.func31, Tryz.ntmps31
  go_wp2_with fail
  refine ho.out.mono ?_
  rintro e w1 ⟨pv, rfl, he1, hop⟩
  have hE1 := hE.trans he1
  by_cases h0 : r = 0
  · subst h0
    obtain ⟨D, rfl, hD, -⟩ := hop rfl
    obtain ⟨hc, hg, -, hl6⟩ := groupE_ok hr
    have hcall := Lib.hid (cost_anyP D m ((checkP_iff m).1 hc) A c n g hn hg (by omega) x (by rw [← hx, if_pos rfl]) w1 hD (hA.ext hE1))
    clear hx hr hD hg hc hA ho
    go_wp2_with fail
    refine hcall.out.mono ?_
    rintro e w2 ⟨rfl, he2⟩
    go_wp2_with fail
    go_ret2
    exact ⟨rfl, hE1.trans he2⟩
  · obtain rfl : x = 0 := by rw [← hx, if_neg h0]
    have hd : (r != 0) = true := by simpa using h0
    clear hx hr hA ho h0 hop
    go_wp2_with fail
    go_ret2
    exact ⟨rfl, hE1⟩

def fairF (m : PM) (sh : List Int) : Bool := (Pow.firstF m.wvs.length (Pow.moreB m sh)).isNone && decide (sh.sum = 60 * Pow.costF m fun _ => true)
end Go.Proofs.Pet
