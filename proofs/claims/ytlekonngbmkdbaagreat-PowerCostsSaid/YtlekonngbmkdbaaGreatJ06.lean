/- Joined texts: PBD, PBE. -/
import Derived.Test.YtlekonngbmkdbaaGreatJ05
import Derived.Test.YtlekonngbmkdbaaGreatB0
namespace Go.Proofs.Pet
set_option linter.unusedSimpArgs false
open Go Go.RowKit Go.Maps Go.Shelf
open Go.Proofs.Pow (PM Sh Wv POk Up)

theorem copyI (W : World) (H : Nat) (A : Option Addr) (c : Nat) (xs : List Int) (hb : Blk W H 3 (madeCells #[.int .i64 0] xs.length)) (hx : IntsAt W A xs) (hl : xs.length ≤ maxLen) (ty : TypeId) :
    ∃ W', (Builtin.copy_ #[22, 22] ty #[.slice (some ⟨H, 0, none⟩) xs.length xs.length, .slice A xs.length c]).run Tryz.prog W = .ok (goInt (xs.length : Nat)) W' ∧ OwnI W' H 3 (.slice (some ⟨H, 0, none⟩) xs.length xs.length) xs ∧ W.grownBy W' (some H) := by
  have hsz : (madeCells #[Value.int .i64 0] xs.length).size = xs.length := by simp [madeCells]
  by_cases h0 : xs.length = 0
  · obtain rfl : xs = [] := List.length_eq_zero_iff.1 h0
    refine ⟨W, run_copy_none _ 22 22 _ 3 _ _ _ _ _ _ Tryz.underlying22 info_sz rfl, ⟨rfl, .inr ⟨H, 0, _, rfl, Nat.le_refl _, hb, Nat.le_refl _, hl, by rw [hsz]; rfl, rfl⟩⟩, ⟨rfl, rfl, rfl, Nat.le_refl _, fun _ _ _ => rfl⟩⟩
  · obtain ⟨b, o, rfl, _⟩ := hx 0 (by omega)
    have h1 := run_copy_row (P := Tryz.prog) W 22 22 ty 3 H 0 xs.length xs.length ⟨b, o, none⟩ xs.length c (madeCells #[.int .i64 0] xs.length) 3 (xs.map (Value.int .i64))
      Tryz.underlying22 info_sz hb (by simp) (fun j v hv => by
        have hj : j < xs.length := by
          have := (List.getElem?_eq_some_iff.1 hv).1
          simpa using this
        obtain ⟨b', o', e, hc⟩ := hx j hj
        simp only [Option.some.injEq, Addr.mk.injEq, and_true] at e
        obtain ⟨rfl, rfl⟩ := e
        rw [addr_off, hc, ← hv, List.getElem?_map, List.getElem?_eq_getElem hj]
        rfl) (by rw [List.length_map, hsz]; omega) (fun v hv => by obtain ⟨y, _, rfl⟩ := List.mem_map.1 hv; rfl)
    rw [List.length_map] at h1
    refine ⟨_, h1, ⟨by simp, .inr ⟨H, xs.length, _, rfl, Nat.le_refl _, hb.row _, Nat.le_refl _, hl, ?_, ?_⟩⟩, ⟨rfl, rfl, rfl, by simp [World.setRow], fun k _ hk => setRow_other W H k _ (fun e => hk (by rw [e]))⟩⟩
    · simp [hsz]
    · simp [hsz]
theorem ownsRow_set {w : World} {base n g cap : Nat} {e : TypeId} {ds es : List Value} {s u u' : Value} (h : w.ownsRow base e 2 (.slice (some ⟨g, 0, none⟩) n cap) n (ds ++ s :: u :: es)) : (w.setCell ⟨g, ds.length + 1, none⟩ u').ownsRow base e 2 (.slice (some ⟨g, 0, none⟩) n cap) n (ds ++ s :: u' :: es) ∧ w.cell? ⟨g, ds.length, none⟩ = some s ∧ w.cell? ⟨g, ds.length + 1, none⟩ = some u ∧ w.frozen? ⟨g, ds.length + 1, none⟩ = false ∧ base ≤ g ∧ ∃ cur, Blk w g e cur := by
  obtain ⟨h1, h2⟩ := h
  rcases h2 with ⟨h2, _⟩ | ⟨g', cap', cur, h3, hg, hb, hn, hm, hs, hc⟩
  · cases h2
  · simp only [Value.slice.injEq, Option.some.injEq, Addr.mk.injEq, and_true, true_and] at h3
    obtain ⟨rfl, rfl⟩ := h3
    have hB : Blk w g e cur := hb
    have hl : ds.length + 1 < n * 2 := by rw [← h1]; simp
    have hat : ∀ j, j < n * 2 → cur[j]? = (ds ++ s :: u :: es)[j]? := fun j hj => by rw [← hc, List.getElem?_take, if_pos hj, Array.getElem?_toList]
    refine ⟨⟨by rw [← h1]; simp, .inr ⟨g, cap, cur.setIfInBounds (ds.length + 1) u', rfl, hg, hB.set_ _ u', hn, hm, by simpa using hs, ?_⟩⟩, ?_, ?_, hB.frozen _, hg, cur, hB⟩
    · apply List.ext_getElem?
      intro j
      by_cases hj : j < n * 2
      · rw [List.getElem?_take, if_pos hj, Array.getElem?_toList, Array.getElem?_setIfInBounds]
        by_cases e1 : ds.length + 1 = j
        · subst e1
          rw [if_pos rfl, if_pos (by omega), List.getElem?_append_right (by omega)]
          simp
        · rw [if_neg e1, hat j hj]
          rcases Nat.lt_or_ge j ds.length with h5 | h5
          · rw [List.getElem?_append_left h5, List.getElem?_append_left h5]
          · rw [List.getElem?_append_right h5, List.getElem?_append_right h5]
            match hd : j - ds.length with
            | 0 => rfl
            | 1 => omega
            | k + 2 => rfl
      · have hl2 : (ds ++ s :: u' :: es).length = n * 2 := by rw [← h1]; simp
        rw [List.getElem?_eq_none (by rw [List.length_take]; omega), List.getElem?_eq_none (by omega)]
    · rw [hB.cell, hat _ (by omega), List.getElem?_append_right (Nat.le_refl _), Nat.sub_self]; rfl
    · rw [hB.cell, hat _ hl, List.getElem?_append_right (by omega)]; simp
theorem upd_257 (y : Nat → Value) (a b c d : Value) : upd (upd (upd (upd y 2 a) 7 d) 5 b) 6 c = upd (upd (upd (upd y 2 a) 5 b) 6 c) 7 d := by
  rw [upd_comm (show (7 : Nat) ≠ 5 by decide), upd_comm (show (7 : Nat) ≠ 6 by decide)]
theorem upd_725 (y : Nat → Value) (a b c d : Value) : upd (upd (upd (upd y 7 d) 2 a) 5 b) 6 c = upd (upd (upd (upd y 2 a) 5 b) 6 c) 7 d := by
  rw [upd_comm (show (7 : Nat) ≠ 2 by decide), upd_257]
def useE (m : PM) (k h : Int) : Int := if knownE m k ≠ 0 then knownE m k else if inB h 0 23 = false then 3 else if (m.wv k.toNat).hours.contains h then 5 else 0
def useM (m : PM) (k h : Int) : PM := if useE m k h = 0 then Pow.useP m k.toNat h else ⟨[], []⟩
theorem OwnPM.zero (w : World) (base : Nat) : OwnPM w base (.agg #[.slice none 0 0, .slice none 0 0]) ⟨[], []⟩ := ⟨_, _, rfl, OwnShs.nil, OwnWvs.nil⟩

set_option maxRecDepth 20000 in
set_option maxHeartbeats 2000000 in
theorem Use_any (v : Value) (m : PM) (k h : Int) (r : Int) (m' : PM) (hr : useE m k h = r) (hm' : useM m k h = m') (w : World) (hv : PMVal w v m) :
    Calls Tryz.prog 110 #[v, .int .i64 k, .int .i64 h] w fun e w' => ∃ u, e = .returned (.tuple #[u, .int .i64 r]) ∧ OwnPM w' w.heap.size u m' ∧ Ext w w' := by
  obtain ⟨ti, hi, hz0, hz1, hz2⟩ := info_parts info_int
  have Hv := Lib.hid hv
  obtain ⟨A1, c1, A2, c2, rfl, h2, h3, h4, h5, h6, h7⟩ := hv
  have hE : Ext w ((w.alloc (.cells #[.slice A1 m.shafts.length c1, .slice A2 m.wvs.length c2] 56)).alloc (.cells #[.slice none 0 0, .slice none 0 0] 56)) := (Ext.alloc _ _).trans (Ext.alloc _ _)
  have hM := (Blk.new w 56 #[.slice A1 m.shafts.length c1, .slice A2 m.wvs.length c2]).alloc (.cells #[.slice none 0 0, .slice none 0 0] 56)
  have hR := Blk.new (w.alloc (.cells #[.slice A1 m.shafts.length c1, .slice A2 m.wvs.length c2] 56)) 56 #[.slice none 0 0, .slice none 0 0]
  rw [World.size_alloc] at hR
  obtain ⟨k0, k1⟩ := hM.c2
  have HM := Lib.hid hM; have HR := Lib.hid hR
  obtain ⟨r0, hr0⟩ : ∃ r0, knownE m k = r0 := ⟨_, rfl⟩
  have ho := Lib.hid (known_anyP _ m k r0 hr0 _ (Hv.out.ext hE))
  have Hr := Lib.hid hr; have Hm' := Lib.hid hm'; have Hr0 := Lib.hid hr0
  have H6 := Lib.hid h6; have H7 := Lib.hid h7
  clear h6 h7 hM hR hr hm' hr0
  go_enter Tryz.func110, Tryz.ntmps110
  go_wp2_with fail
  refine ho.out.mono ?_
  rintro e w1 ⟨pv, rfl, he1, hop⟩
  have hE1 := hE.trans he1
  have hM1 := HM.out.ext he1
  have hR1 := HR.out.ext he1
  obtain ⟨y0, y1⟩ := hR1.c2
  have f0 := hR1.frozen 0
  have f1 := hR1.frozen 1
  clear ho k0 k1 HR HM hop hE he1
  by_cases h0 : r0 = 0
  · subst h0
    obtain ⟨q, hq⟩ : ∃ q, inB h 0 23 = q := ⟨_, rfl⟩
    have hho := Lib.hid (hour_any h q hq w1)
    have Hq := Lib.hid hq
    have hck : checkP m = 0 := by
      have := Hr0.out
      unfold knownE at this
      by_cases hc : checkP m = 0
      · exact hc
      · rw [if_pos hc] at this; exact this
    have hkk : 0 ≤ k ∧ k < m.wvs.length := by
      have := Hr0.out
      unfold knownE at this
      rw [if_neg (by simp [hck])] at this
      by_cases hc : inB k 0 (m.wvs.length - 1) = false
      · rw [if_pos hc] at this; exact absurd this (by decide)
      · have := inB_iff.1 (by simpa using hc); omega
    have Hm := Lib.hid ((checkP_iff m).1 hck)
    have hml := Hm.out.few
    have hms := Hm.out.sz
    obtain ⟨kk, rfl⟩ : ∃ kk : Nat, k = kk := ⟨k.toNat, by omega⟩
    have hkl : kk < m.wvs.length := by omega
    clear hq hck
    go_wp2_with fail
    refine hho.out.mono ?_
    rintro e w2 ⟨rfl, rfl⟩
    cases q with
    | false =>
      obtain rfl : r = 3 := by rw [← Hr.out]; unfold useE; simp [Hr0.out, Hq.out]
      obtain rfl : m' = ⟨[], []⟩ := by rw [← Hm'.out]; unfold useM; rw [Hr.out]; rfl
      go_wp2_with fail
      have hR9 : Blk ((w1.setCell ⟨w.heap.size + 1, 0, none⟩ (.slice none 0 0)).setCell ⟨w.heap.size + 1, 1, none⟩ (.slice none 0 0)) (w.heap.size + 1) 56 #[.slice none 0 0, .slice none 0 0] := by simpa using (hR1.set_ 0 (.slice none 0 0)).set_ 1 (.slice none 0 0)
      obtain ⟨z0, z1⟩ := hR9.c2
      have hE9 := Below.setCell (Below.setCell hE1 (p := ⟨w.heap.size + 1, 0, none⟩) (by show _ ≤ w.heap.size + 1; omega) (.slice none 0 0)) (p := ⟨w.heap.size + 1, 1, none⟩) (by show _ ≤ w.heap.size + 1; omega) (.slice none 0 0)
      refine bodyPost_ret (v := .tuple #[.agg #[.slice none 0 0, .slice none 0 0], .int .i64 3]) ?_ rfl ⟨_, rfl, OwnPM.zero _ _, hE9⟩
      simp [results, Tryz.results110, go_sem, z0, z1]
    | true =>
      obtain ⟨b, o, e2, A3, c3, h3', s1, s2, s3⟩ := H7.out.ext hE1 kk hkl
      have hwv : m.wvs[kk]?.getD default = m.wv kk := rfl
      rw [hwv] at s1 s2 s3 h3'
      subst e2
      obtain ⟨q2, hq2⟩ : ∃ q2, (m.wv kk).hours.contains h = q2 := ⟨_, rfl⟩
      have hct := Lib.hid (contains_any h A3 c3 (m.wv kk).hours.length (m.wv kk).hours rfl q2 hq2 w1 (Nat.le_trans h3'.1 h3'.2) s3)
      have Hq2 := Lib.hid hq2
      obtain ⟨k0, k1⟩ := hM1.c2
      generalize (m.wv kk).hours.length = hln at *
      clear hq2 s1 s3 hho
      go_wp2_with fail
      refine hct.out.mono ?_
      rintro e w2 ⟨rfl, rfl⟩
      cases q2 with
      | true =>
        obtain rfl : r = 5 := by rw [← Hr.out]; unfold useE; rw [if_neg (by simp [Hr0.out]), if_neg (by simp [Hq.out]), if_pos (show (m.wv (kk : Int).toNat).hours.contains h = true from Hq2.out)]
        obtain rfl : m' = ⟨[], []⟩ := by rw [← Hm'.out]; unfold useM; rw [Hr.out]; rfl
        go_wp2_with fail
        have hR9 : Blk ((w1.setCell ⟨w.heap.size + 1, 0, none⟩ (.slice none 0 0)).setCell ⟨w.heap.size + 1, 1, none⟩ (.slice none 0 0)) (w.heap.size + 1) 56 #[.slice none 0 0, .slice none 0 0] := by simpa using (hR1.set_ 0 (.slice none 0 0)).set_ 1 (.slice none 0 0)
        obtain ⟨z0, z1⟩ := hR9.c2
        have hE9 := Below.setCell (Below.setCell hE1 (p := ⟨w.heap.size + 1, 0, none⟩) (by show _ ≤ w.heap.size + 1; omega) (.slice none 0 0)) (p := ⟨w.heap.size + 1, 1, none⟩) (by show _ ≤ w.heap.size + 1; omega) (.slice none 0 0)
        refine bodyPost_ret (v := .tuple #[.agg #[.slice none 0 0, .slice none 0 0], .int .i64 5]) ?_ rfl ⟨_, rfl, OwnPM.zero _ _, hE9⟩
        simp [results, Tryz.results110, go_sem, z0, z1]
      | false =>
        obtain rfl : r = 0 := by rw [← Hr.out]; unfold useE; rw [if_neg (by simp [Hr0.out]), if_neg (by simp [Hq.out]), if_neg (by rw [show (m.wv (kk : Int).toNat).hours.contains h = false from Hq2.out]; simp)]
        obtain rfl : m' = Pow.useP m kk h := by rw [← Hm'.out]; unfold useM; rw [Hr.out]; rfl
        go_upto_region 8 with fail
        have Hcs := Lib.hid (cloneSh A1 c1 m.shafts)
        have Hcw := Lib.hid (cloneWv (some ⟨b, o, none⟩) c2 m.wvs w1)
        have HA1 := Lib.hid (H6.out.ext hE1)
        have HA2 := Lib.hid (H7.out.ext hE1)
        clear s2 hct y0 y1 f0 f1
        refine wp_region_tree 8 [(2, true), (5, true), (7, true)] [] (by kernel_rfl) (by kernel_rfl) (by kernel_rfl) (ds := [0, 1, 3, 4]) (by kernel_rfl) ?_
        simp only [List.take, List.drop, fill, Act.put, List.setIfInBounds_toArray, List.set_cons_zero, List.set_cons_succ, Nat.reduceAdd]
        repeat (first
          | (apply Unlock.float rfl
             · intro x W he hd K Qr hK
               try (have he := he (by decide); have k0 := he.cell k0; have k1 := he.cell k1)
               try simp only [edges, DepsE, List.filter_cons, List.filter_nil, Region.binds, if_true, and_true, true_and, upd, Nat.reduceEqDiff, if_false] at hd
               try simp only [hd] at hK ⊢
               have HK := Lib.hid hK; clear hK
               go_wp2_with fail
               exact HK.out))
        refine Unlock.nil ?_
        intro W he hG
        refine Tree.cut (f' := 0) (rem' := []) (fun y y' W6 => ∃ (a1 : Option Addr) (d1 : Nat) (a2 : Option Addr) (d2 : Nat) (p : Nat) (cs : List Value), y' = upd (upd (upd (upd y 2 (.slice a1 m.shafts.length d1)) 5 (.slice a2 m.wvs.length d2)) 6 (.agg #[.slice a1 m.shafts.length d1, .slice a2 m.wvs.length d2])) 7 (.pointer (some ⟨p, 0, none⟩)) ∧ Ext w1 W6 ∧ OwnShs W6 w1.heap.size (.slice a1 m.shafts.length d1) m.shafts ∧ W6.ownsRow w1.heap.size 86 2 (.slice a2 m.wvs.length d2) m.wvs.length cs ∧ WvF (rdW w1) cs m.wvs ∧ Blk W6 p 56 #[.slice none 0 0, .slice none 0 0] ∧ w1.heap.size ≤ p) ?_ ?_
        · rintro y' W6 ⟨a1, d1, a2, d2, p, cs, rfl, he6, hO1, hO2, hcs, hp, hpl⟩
          clear hG he
          refine Tree.nil (by kernel_rfl) ?_
          simp only [upd, Nat.reduceEqDiff, if_false, if_true]
          have hap : Apart p W6 ((W6.setCell ⟨p, 0, none⟩ (.slice a1 m.shafts.length d1)).setCell ⟨p, 1, none⟩ (.slice a2 m.wvs.length d2)) := ((Apart.refl p W6).set_ 0 _).set_ 1 _
          have hp7 : Blk ((W6.setCell ⟨p, 0, none⟩ (.slice a1 m.shafts.length d1)).setCell ⟨p, 1, none⟩ (.slice a2 m.wvs.length d2)) p 56 #[.slice a1 m.shafts.length d1, .slice a2 m.wvs.length d2] := by simpa using (hp.set_ 0 (.slice a1 m.shafts.length d1)).set_ 1 (.slice a2 m.wvs.length d2)
          have hO17 : OwnShs _ _ _ _ := ownsRow_apart hO1 (fun e => ownsRow_ne_blk hO1 hp (by decide) e.symm) hap
          have hO27 := ownsRow_apart hO2 (fun e => ownsRow_ne_blk hO2 hp (by decide) e.symm) hap
          have he7 := hap.ext_of he6 hpl
          obtain ⟨p0, p1⟩ := hp.c2
          have pf0 := hp.frozen 0
          have pf1 := hp.frozen 1
          obtain ⟨-, p9⟩ := hp7.c2
          have HO17 := Lib.hid hO17; have HO27 := Lib.hid hO27; have Hcs0 := Lib.hid hcs
          clear hO1 hO2 hO17 hO27 hcs hap he6 k0 k1 Hcs Hcw HA1 HA2
          go_wp2_with fail
          clear p0 p1 p9 pf0 pf1
          generalize (W6.setCell _ _).setCell _ _ = W7 at *
          have hus : Hid (∀ i, i < m.wvs.length → (Pow.useP m kk h).wvs[i]?.getD default = if i = kk then { shaft := (m.wv i).shaft, hours := Pow.sortL ((m.wv i).hours ++ [h]) } else m.wv i) := fun i hi => Pow.useP_wv m kk h hi
          have hul : (Pow.useP m kk h).wvs.length = m.wvs.length := Pow.useP_len m kk h
          have hush : (Pow.useP m kk h).shafts = m.shafts := rfl
          obtain ⟨mu, hmue⟩ : ∃ mu, Pow.useP m kk h = mu := ⟨_, rfl⟩
          rw [hmue] at hul hush hus
          have Hush := Lib.hid hush; have Hul := Lib.hid hul; have Hmue := Lib.hid hmue
          clear hul hush hmue
          go_loopw [50] (fun iv wr => ∃ i : Nat, i ≤ m.wvs.length ∧ iv = .int .i64 (i : Int) ∧ Ext w1 wr ∧ Blk wr p 56 #[.slice a1 m.shafts.length d1, .slice a2 m.wvs.length d2] ∧ Hid (OwnShs wr w1.heap.size (.slice a1 m.shafts.length d1) m.shafts) ∧
            ∃ ds es, Hid (wr.ownsRow w1.heap.size 86 2 (.slice a2 m.wvs.length d2) m.wvs.length (ds ++ es)) ∧ Hid (WvF (ownW wr w1.heap.size) ds (mu.wvs.take i)) ∧ Hid (WvF (rdW w1) es (m.wvs.drop i))) (fun iv _ => m.wvs.length - (intOf iv).toNat)
          case atStart => exact ⟨0, Nat.zero_le _, rfl, he7, hp7, HO17, [], _, HO27, trivial, Hcs0⟩
          case round =>
            clear hp7 he7 HO17 HO27 Hcs0
            obtain ⟨i, hi', rfl, he, hpB, hOs, ds, es, hrow, hds, hes⟩ := hrel
            by_cases hlt : i < m.wvs.length
            · have hmu := hus.out i hlt
              have hes1 := hes.out
              rw [List.drop_eq_getElem_cons hlt, show m.wvs[i] = m.wv i by unfold PM.wv; rw [List.getElem?_eq_getElem hlt]; rfl] at hes1
              obtain ⟨u, es', rfl, hu, hes2⟩ := hes1.get
              have hdl : ds.length = i * 2 := by
                rw [WvF.length hds.out, List.length_take, Hul.out]; congr 1; omega
              obtain ⟨g, rfl⟩ : ∃ g, a2 = some ⟨g, 0, none⟩ := by
                rcases hrow.out.2 with ⟨e, h9⟩ | ⟨g, cap, cur, e, _⟩
                · omega
                · simp only [Value.slice.injEq] at e
                  exact ⟨g, e.1⟩
              obtain ⟨-, q1, q2, q3, hgl, cur, hgB⟩ := ownsRow_set (u' := u) hrow.out
              rw [hdl] at q1 q2 q3
              obtain ⟨Au, cu, rfl, u1, u2, u3⟩ := id hu
              have hrise := Hm.out.rise i hlt
              have h24 := hours_len hrise (Hm.out.hour i hlt)
              obtain ⟨wvi, hwvi⟩ : ∃ x, m.wv i = x := ⟨_, rfl⟩
              rw [hwvi] at q1 q2 u1 u3 h24 hmu hu
              have Hmu := Lib.hid hmu
              have Hwvi := Lib.hid hwvi
              obtain ⟨sh, hshe⟩ : ∃ sh, wvi.shaft = sh := ⟨_, rfl⟩
              obtain ⟨hrs, hhrs⟩ : ∃ hrs, wvi.hours = hrs := ⟨_, rfl⟩
              rw [hshe] at q1
              rw [hhrs] at q2 u1 u3 h24
              have Hsh := Lib.hid hshe; have Hhrs := Lib.hid hhrs; have Hdl := Lib.hid hdl; have Hes2 := Lib.hid hes2
              have hX : Ext wr ((wr.alloc (.cells #[.int .i64 sh, .slice Au hrs.length cu] 86)).alloc (.cells (madeCells #[.int .i64 0] hrs.length) 3)) := (Ext.alloc _ _).trans (Ext.alloc _ _)
              have hK := (Blk.new wr 86 #[.int .i64 sh, .slice Au hrs.length cu]).alloc (.cells (madeCells #[.int .i64 0] hrs.length) 3)
              have hK0 := Blk.new wr 86 #[.int .i64 sh, .slice Au hrs.length cu]
              have hH := Blk.new (wr.alloc (.cells #[.int .i64 sh, .slice Au hrs.length cu] 86)) 3 (madeCells #[.int .i64 0] hrs.length)
              rw [World.size_alloc] at hH
              have hl24 : hrs.length ≤ maxLen := by unfold maxLen; omega
              obtain ⟨W', hcp, hO, hgr⟩ := copyI _ (wr.heap.size + 1) Au cu hrs hH (u3.ext (he.trans hX)) hl24 3
              have hmk : ∀ W : World, (Instr.makeSlice 22 (.int .i64 (hrs.length : Int)) (.int .i64 (hrs.length : Int))).run Tryz.prog W = .ok (.slice (some ⟨W.heap.size, 0, none⟩) hrs.length hrs.length) (W.alloc (.cells (madeCells #[.int .i64 0] hrs.length) 3)) := by
                intro W
                have := run_make (P := Tryz.prog) W 22 3 ti _ Tryz.underlying22 hi hz0 .i64 .i64 hrs.length hrs.length (by omega) (by omega) (by rw [hz2]; omega) (by omega)
                simpa [hz1, Value.cells] using this
              have hXW : Ext wr W' := Below.grown hX hgr (by rw [World.size_alloc, World.size_alloc]; omega) (fun j e => by cases e; omega)
              have hlen2 : (m.wvs.length : Int) ≤ 6 := by omega
              obtain ⟨-, j1⟩ := hK0.c2
              obtain ⟨-, j2⟩ := hK.c2
              obtain ⟨-, p1⟩ := (hpB.ext hXW).c2
              have hgB' := hgB.ext hXW
              have q3' := hgB'.frozen (i * 2 + 1)
              have q2' := hXW.cell q2
              have hrs9 : hrs.length ≤ 24 := h24
              have hpg : p ≠ g := hpB.ne_ hgB (by decide)
              have Hfin : Hid (∀ W9 u9 (xs : List Int), Ext wr W9 → OwnI W9 (wr.heap.size + 1) 3 u9 xs → mu.wvs[i]?.getD default = ({ shaft := sh, hours := xs } : Wv) →
                  Ext w1 (W9.setCell ⟨g, i * 2 + 1, none⟩ u9) ∧ Blk (W9.setCell ⟨g, i * 2 + 1, none⟩ u9) p 56 #[.slice a1 m.shafts.length d1, .slice (some ⟨g, 0, none⟩) m.wvs.length d2] ∧ Hid (OwnShs (W9.setCell ⟨g, i * 2 + 1, none⟩ u9) w1.heap.size (.slice a1 m.shafts.length d1) m.shafts) ∧
                    ∃ ds es, Hid ((W9.setCell ⟨g, i * 2 + 1, none⟩ u9).ownsRow w1.heap.size 86 2 (.slice (some ⟨g, 0, none⟩) m.wvs.length d2) m.wvs.length (ds ++ es)) ∧ Hid (WvF (ownW (W9.setCell ⟨g, i * 2 + 1, none⟩ u9) w1.heap.size) ds (mu.wvs.take (i + 1))) ∧ Hid (WvF (rdW w1) es (m.wvs.drop (i + 1)))) := by
                intro W9 u9 xs hE9 hO9 hm9
                have row9 := ownsRow_ext2 hrow.out hE9
                obtain ⟨t1, -, -, -, -, cur9, hg9⟩ := ownsRow_set (u' := u9) row9
                rw [Hdl.out] at t1
                have hwr1 := he.size
                have hos9 := OwnShs.ext hOs.out hE9
                have hil : i < mu.wvs.length := by rw [Hul.out]; exact hlt
                have htk : mu.wvs.take (i + 1) = mu.wvs.take i ++ [({ shaft := sh, hours := xs } : Wv)] := by
                  rw [List.take_add_one, List.getElem?_eq_getElem hil]
                  rw [List.getElem?_eq_getElem hil] at hm9
                  simp only [Option.getD_some] at hm9
                  rw [hm9]; rfl
                refine ⟨Below.setCell (he.trans hE9) (by show _ ≤ g; omega) _, (hpB.ext hE9).far (by show p ≠ g; exact hpg) _, Lib.hid (ownsRow_apart hos9 (fun e => ownsRow_ne_blk hos9 hg9 (by decide) e.symm) ((Apart.refl g W9).set_ _ u9)), ds ++ [.int .i64 sh, u9], es', Lib.hid ?_, Lib.hid ?_, Hes2⟩
                · rw [List.append_assoc]
                  rw [← Hsh.out, ← Hwvi.out]
                  exact t1
                · rw [htk]
                  refine WvF.append (hds.out.map fun u x gg => OwnI.far (OwnI.ext gg hE9) hg9 (by decide) _ _) ⟨rfl, ?_, trivial⟩
                  exact OwnI.far (OwnI.mono hO9 (by omega)) hg9 (by decide) _ _
              clear hes1 hu u1 u2 u3 hes2 hdl hmu hshe hhrs hwvi hrise hes hK hK0 hH
              by_cases hik : i = kk
              · subst hik
                rw [if_pos rfl, Hsh.out, Hhrs.out] at Hmu
                have hXa := Ext.alloc W' (.cells #[.int .i64 h] 3)
                have hsrc := Src.one W' (.int .i64 h) 3
                have hOX := hO.ext hXa
                have hszW := hXW.size
                have hszH := hgr.size
                have hszXa := hXa.size
                rw [World.size_alloc, World.size_alloc] at hszH
                have HP := Lib.hid hpB; have HG := Lib.hid hgB
                have Hw : Hid (∀ v' w', w'.ownsRow (wr.heap.size + 1) 3 1 v' (hrs.length + 1) (hrs.map (Value.int .i64) ++ [.int .i64 h]) → (W'.alloc (.cells #[.int .i64 h] 3)).grownBy w' (Value.slice (some ⟨wr.heap.size + 1, 0, none⟩) hrs.length hrs.length).ownBlock → OwnI w' (wr.heap.size + 1) 3 v' (hrs ++ [h]) ∧ Ext wr w') := by
                  intro v' w' hown hg
                  exact ⟨by unfold OwnI; rw [List.length_append, List.map_append]; exact hown, ext_grown hXW hg fun j e => by cases e; show _ ≤ wr.heap.size + 1; omega⟩
                clear hO p1 q2' q3' hgB' hgB hpB
                go_wp2_with (at_builtin; refine wpList_app rfl _ _ 22 rfl (wr.heap.size + 1) 3 ti (.int .i64 0) 1 8 Tryz.underlying22 hi hz0 hz1 hz2 rfl (by decide) (.slice (some ⟨wr.heap.size + 1, 0, none⟩) hrs.length hrs.length) hrs.length _ rfl hOX (some ⟨W'.heap.size, 0, none⟩) 1 1 [.int .i64 h] rfl rfl hsrc ?c2 ?c3 ?c4 ?c5 ?_; (case c2 => (intro u hu; rw [List.mem_singleton] at hu; subst hu; rfl)); (case c3 => (unfold maxLen; omega)); (case c4 => omega); (case c5 => omega); intro v' w5 hown hg hblk; have HO := Lib.hid (Hw.out v' w5 hown hg); clear hown hg hblk)
                have hsort := Lib.hid (sortI _ v' (hrs ++ [h]) w5 HO.out.1 (by simp; omega))
                refine hsort.out.mono ?_
                rintro e w6 ⟨rfl, hO6, hg6⟩
                have hX6 : Ext wr w6 := Below.grown HO.out.2 hg6 HO.out.2.size (fun j e => by have := (HO.out.1.own_lt j e).1; omega)
                obtain ⟨A9, c9, rfl⟩ := ownsRow_slice hO6
                have hrel9 := Hfin.out w6 _ _ hX6 hO6 (by rw [Hmu.out]; rfl)
                have HR9 := Lib.hid hrel9
                obtain ⟨-, p1⟩ := (HP.out.ext hX6).c2
                have hg9 := HG.out.ext hX6
                have q3' := hg9.frozen (i * 2 + 1)
                have q2' := hX6.cell q2
                generalize ((hrs ++ [h]).mergeSort fun x y => decide (x ≤ y)).length = ln at *
                clear hrel9 hO6 hg6 hsort hOX hsrc hg9 Hfin hXa q2
                go_wp2_with fail
                go_roundw
                case rel => exact ⟨i + 1, by omega, by go_num, HR9.out⟩
                case measure => simp [intOf]; omega
              · have hbe : ((i : Int) == (kk : Int)) = false := by simp; omega
                rw [if_neg hik] at Hmu
                have hrel9 := Hfin.out W' _ hrs hXW hO (by rw [Hmu.out]; cases wvi; simp only [Wv.mk.injEq]; exact ⟨Hsh.out, Hhrs.out⟩)
                have HR9 := Lib.hid hrel9
                clear hrel9 hO hgB' hgB hpB Hfin hik
                go_wp2_with fail
                go_roundw
                case rel => exact ⟨i + 1, by omega, by go_num, HR9.out⟩
                case measure => simp [intOf]; omega
            · obtain rfl : i = m.wvs.length := by omega
              obtain ⟨p0, p1⟩ := hpB.c2
              have hR2 := hR1.ext he
              obtain ⟨z0, z1⟩ := hR2.c2
              have zf0 := hR2.frozen 0
              have zf1 := hR2.frozen 1
              have hszR := hR1.lt
              have hszw := hE1.size
              have hds0 : WvF (ownW wr w1.heap.size) ds mu.wvs := by
                have := hds.out
                rwa [List.take_of_length_le (by rw [Hul.out]; omega)] at this
              have hes0 : es = [] := by
                have := hes.out
                rw [List.drop_eq_nil_of_le (Nat.le_refl _)] at this
                have := WvF.length this
                exact List.length_eq_zero_iff.1 (by simpa using this)
              subst hes0
              have hrow0 := hrow.out
              rw [List.append_nil] at hrow0
              have hap : Apart (w.heap.size + 1) wr ((wr.setCell ⟨w.heap.size + 1, 0, none⟩ (.slice a1 m.shafts.length d1)).setCell ⟨w.heap.size + 1, 1, none⟩ (.slice a2 m.wvs.length d2)) := ((Apart.refl _ wr).set_ 0 _).set_ 1 _
              have hR9 : Blk ((wr.setCell ⟨w.heap.size + 1, 0, none⟩ (.slice a1 m.shafts.length d1)).setCell ⟨w.heap.size + 1, 1, none⟩ (.slice a2 m.wvs.length d2)) (w.heap.size + 1) 56 #[.slice a1 m.shafts.length d1, .slice a2 m.wvs.length d2] := by simpa using (hR2.set_ 0 (.slice a1 m.shafts.length d1)).set_ 1 (.slice a2 m.wvs.length d2)
              have g1 : OwnShs _ w1.heap.size _ _ := ownsRow_apart hOs.out (fun e => ownsRow_ne_blk hOs.out hR2 (by decide) e.symm) hap
              have g2 := ownsRow_apart hrow0 (fun e => ownsRow_ne_blk hrow0 hR2 (by decide) e.symm) hap
              have g3 := hds0.map fun u x (g : OwnI wr w1.heap.size 3 u x.hours) => OwnI.apart g (fun e => g.ne_blk hR2 (by decide) e.symm) hap
              have hE9 := hap.ext_of (hE1.trans he) (by omega)
              have Hown : Hid (OwnPM _ w.heap.size (.agg #[.slice a1 m.shafts.length d1, .slice a2 m.wvs.length d2]) mu) := ⟨_, _, rfl, (by rw [Hush.out]; exact g1.mono hszw), ds, by rw [Hul.out]; exact ownsRow_mono g2 hszw, g3.map fun _ _ g => OwnI.mono g hszw⟩
              have HR9 := Lib.hid hR9; have HE9 := Lib.hid hE9
              clear g1 g2 g3 hap hR9 hE9 hrow0 hds0 hrow hds hes hOs
              go_wp2_with fail
              obtain ⟨t0, t1⟩ := HR9.out.c2
              refine bodyPost_ret (v := .tuple #[.agg #[.slice a1 m.shafts.length d1, .slice a2 m.wvs.length d2], .int .i64 0]) ?_ rfl ⟨_, rfl, by rw [Hmue.out]; exact Hown.out, HE9.out⟩
              simp [results, Tryz.results110, go_sem, t0, t1]
        · intro hcut
          have Hcut := Lib.hid hcut
          clear hcut hG
          refine Tree.next (ks := [(2, true), (7, true)]) (by kernel_rfl) ?_
          refine TSteps.cons _ rfl ?_ (TSteps.cons _ rfl ?_ trivial)
          · intro x hd K Qr hK
            try simp only [edges, DepsE, List.filter_cons, List.filter_nil, Region.binds, if_true, and_true, true_and, upd, Nat.reduceEqDiff, if_false] at hd
            try simp only [hd] at hK ⊢
            clear hd
            have HK := Lib.hid hK; clear hK
            go_wp2_with fail
            refine (Hcs.out W (by omega) (HA1.out.ext he)).mono ?_
            rintro e W5 ⟨v1, rfl, hO1, he5⟩
            obtain ⟨a1, d1, rfl⟩ := ownsRow_slice hO1
            have heA := he.trans he5
            have hszA := he.size
            go_wp2_with fail
            refine HK.out _ _ (fun _ => heA) ?_
            refine Unlock.of (ds := []) (by kernel_rfl) ?_
            repeat (first
              | (apply Unlock.float rfl
                 · intro x W he hd K Qr hK
                   try (have he := he (by decide))
                   try simp only [edges, DepsE, List.filter_cons, List.filter_nil, Region.binds, if_true, and_true, true_and, upd, Nat.reduceEqDiff, if_false] at hd
                   try simp only [hd] at hK ⊢
                   have HK := Lib.hid hK; clear hK
                   go_wp2_with fail
                   exact HK.out))
            refine Unlock.nil ?_
            clear HK
            refine Tree.next (ks := [(5, true), (7, true)]) (by kernel_rfl) ?_
            refine TSteps.cons _ rfl ?_ (TSteps.cons _ rfl ?_ trivial)
            · intro x hd K Qr hK
              try simp only [edges, DepsE, List.filter_cons, List.filter_nil, Region.binds, if_true, and_true, true_and, upd, Nat.reduceEqDiff, if_false] at hd
              try simp only [hd] at hK ⊢
              clear hd
              have HK := Lib.hid hK; clear hK
              go_wp2_with fail
              refine (Hcw.out W5 (by omega) HA2.out heA).mono ?_
              rintro e W6 ⟨v2, rfl, ⟨cs, hO2, hcs⟩, he6⟩
              obtain ⟨a2, d2, rfl⟩ := ownsRow_slice hO2
              have heB := heA.trans he6
              have hszB := heA.size
              go_wp2_with fail
              refine HK.out _ _ (fun _ => heB) ?_
              refine Unlock.of (ds := [6]) (by kernel_rfl) ?_
              repeat (first
                | (apply Unlock.float rfl
                   · intro x W he hd K Qr hK
                     try (have he := he (by decide))
                     try simp only [edges, DepsE, List.filter_cons, List.filter_nil, Region.binds, if_true, and_true, true_and, upd, Nat.reduceEqDiff, if_false] at hd
                     try simp only [hd] at hK ⊢
                     have HK := Lib.hid hK; clear hK
                     go_wp2_with fail
                     exact HK.out))
              refine Unlock.nil ?_
              clear HK
              refine Tree.next (ks := [(7, true)]) (by kernel_rfl) ?_
              refine TSteps.cons _ rfl ?_ trivial
              intro x hd K Qr hK
              try simp only [edges, DepsE, List.filter_cons, List.filter_nil, Region.binds, if_true, and_true, true_and, upd, Nat.reduceEqDiff, if_false] at hd
              try simp only [hd] at hK ⊢
              clear hd
              have HK := Lib.hid hK; clear hK
              go_wp2_with fail
              have hX := Ext.alloc W6 (.cells #[.slice none 0 0, .slice none 0 0] 56)
              have hszX := heB.size
              refine HK.out _ _ (fun _ => heB.trans hX) ?_
              refine Unlock.of (ds := []) (by kernel_rfl) ?_
              repeat (first
                | (apply Unlock.float rfl
                   · intro x W he hd K Qr hK
                     try (have he := he (by decide))
                     try simp only [edges, DepsE, List.filter_cons, List.filter_nil, Region.binds, if_true, and_true, true_and, upd, Nat.reduceEqDiff, if_false] at hd
                     try simp only [hd] at hK ⊢
                     have HK := Lib.hid hK; clear hK
                     go_wp2_with fail
                     exact HK.out))
              refine Unlock.nil ?_
              exact Tree.eq (by kernel_rfl) (Hcut.out _ _ ⟨a1, d1, a2, d2, _, cs, rfl, heB.trans hX, ((hO1.ext he6).ext hX).mono (by omega), ownsRow_ext2 (ownsRow_mono hO2 (by omega)) hX, hcs, Blk.new _ _ _, hszX⟩)
            · intro x hd K Qr hK
              try simp only [edges, DepsE, List.filter_cons, List.filter_nil, Region.binds, if_true, and_true, true_and, upd, Nat.reduceEqDiff, if_false] at hd
              try simp only [hd] at hK ⊢
              clear hd
              have HK := Lib.hid hK; clear hK
              go_wp2_with fail
              have hX := Ext.alloc W5 (.cells #[.slice none 0 0, .slice none 0 0] 56)
              have hp := Blk.new W5 56 #[.slice none 0 0, .slice none 0 0]
              have hszX := heA.size
              refine HK.out _ _ (fun _ => heA.trans hX) ?_
              refine Unlock.of (ds := []) (by kernel_rfl) ?_
              repeat (first
                | (apply Unlock.float rfl
                   · intro x W he hd K Qr hK
                     try (have he := he (by decide))
                     try simp only [edges, DepsE, List.filter_cons, List.filter_nil, Region.binds, if_true, and_true, true_and, upd, Nat.reduceEqDiff, if_false] at hd
                     try simp only [hd] at hK ⊢
                     have HK := Lib.hid hK; clear hK
                     go_wp2_with fail
                     exact HK.out))
              refine Unlock.nil ?_
              clear HK
              obtain ⟨pp, hpp⟩ : ∃ pp, W5.heap.size = pp := ⟨_, rfl⟩
              rw [hpp] at hp hszX ⊢
              have heX := heA.trans hX
              have hO1X := OwnShs.ext hO1 hX
              generalize W5.alloc _ = W7 at *
              clear hX hpp
              refine Tree.next (ks := [(5, true)]) (by kernel_rfl) ?_
              refine TSteps.cons _ rfl ?_ trivial
              intro x hd K Qr hK
              try simp only [edges, DepsE, List.filter_cons, List.filter_nil, Region.binds, if_true, and_true, true_and, upd, Nat.reduceEqDiff, if_false] at hd
              try simp only [hd] at hK ⊢
              clear hd
              have HK := Lib.hid hK; clear hK
              go_wp2_with fail
              refine (Hcw.out W7 (by omega) HA2.out heX).mono ?_
              rintro e W6 ⟨v2, rfl, ⟨cs, hO2, hcs⟩, he6⟩
              obtain ⟨a2, d2, rfl⟩ := ownsRow_slice hO2
              have heB := heX.trans he6
              have hszB := heX.size
              go_wp2_with fail
              refine HK.out _ _ (fun _ => heB) ?_
              refine Unlock.of (ds := [6]) (by kernel_rfl) ?_
              repeat (first
                | (apply Unlock.float rfl
                   · intro x W he hd K Qr hK
                     try (have he := he (by decide))
                     try simp only [edges, DepsE, List.filter_cons, List.filter_nil, Region.binds, if_true, and_true, true_and, upd, Nat.reduceEqDiff, if_false] at hd
                     try simp only [hd] at hK ⊢
                     have HK := Lib.hid hK; clear hK
                     go_wp2_with fail
                     exact HK.out))
              refine Unlock.nil ?_
              exact Tree.eq (by kernel_rfl) (Hcut.out _ _ ⟨a1, d1, a2, d2, pp, cs, upd_257 _ _ _ _ _, heB, (OwnShs.ext hO1X he6).mono (by omega), ownsRow_mono hO2 (by omega), hcs, hp.ext he6, hszX⟩)
          · intro x hd K Qr hK
            try simp only [edges, DepsE, List.filter_cons, List.filter_nil, Region.binds, if_true, and_true, true_and, upd, Nat.reduceEqDiff, if_false] at hd
            try simp only [hd] at hK ⊢
            clear hd
            have HK := Lib.hid hK; clear hK
            go_wp2_with fail
            have hX := Ext.alloc W (.cells #[.slice none 0 0, .slice none 0 0] 56)
            have hp := Blk.new W 56 #[.slice none 0 0, .slice none 0 0]
            have hszX := he.size
            have heX := he.trans hX
            refine HK.out _ _ (fun _ => heX) ?_
            refine Unlock.of (ds := []) (by kernel_rfl) ?_
            repeat (first
              | (apply Unlock.float rfl
                 · intro x W he hd K Qr hK
                   try (have he := he (by decide))
                   try simp only [edges, DepsE, List.filter_cons, List.filter_nil, Region.binds, if_true, and_true, true_and, upd, Nat.reduceEqDiff, if_false] at hd
                   try simp only [hd] at hK ⊢
                   have HK := Lib.hid hK; clear hK
                   go_wp2_with fail
                   exact HK.out))
            refine Unlock.nil ?_
            clear HK
            obtain ⟨pp, hpp⟩ : ∃ pp, W.heap.size = pp := ⟨_, rfl⟩
            rw [hpp] at hp hszX ⊢
            generalize W.alloc _ = W7 at *
            clear hX hpp he
            refine Tree.next (ks := [(2, true)]) (by kernel_rfl) ?_
            refine TSteps.cons _ rfl ?_ trivial
            intro x hd K Qr hK
            try simp only [edges, DepsE, List.filter_cons, List.filter_nil, Region.binds, if_true, and_true, true_and, upd, Nat.reduceEqDiff, if_false] at hd
            try simp only [hd] at hK ⊢
            clear hd
            have HK := Lib.hid hK; clear hK
            go_wp2_with fail
            refine (Hcs.out W7 (by omega) (HA1.out.ext heX)).mono ?_
            rintro e W5 ⟨v1, rfl, hO1, he5⟩
            obtain ⟨a1, d1, rfl⟩ := ownsRow_slice hO1
            have heA := heX.trans he5
            have hszA := heX.size
            go_wp2_with fail
            refine HK.out _ _ (fun _ => heA) ?_
            refine Unlock.of (ds := []) (by kernel_rfl) ?_
            repeat (first
              | (apply Unlock.float rfl
                 · intro x W he hd K Qr hK
                   try (have he := he (by decide))
                   try simp only [edges, DepsE, List.filter_cons, List.filter_nil, Region.binds, if_true, and_true, true_and, upd, Nat.reduceEqDiff, if_false] at hd
                   try simp only [hd] at hK ⊢
                   have HK := Lib.hid hK; clear hK
                   go_wp2_with fail
                   exact HK.out))
            refine Unlock.nil ?_
            clear HK
            refine Tree.next (ks := [(5, true)]) (by kernel_rfl) ?_
            refine TSteps.cons _ rfl ?_ trivial
            intro x hd K Qr hK
            try simp only [edges, DepsE, List.filter_cons, List.filter_nil, Region.binds, if_true, and_true, true_and, upd, Nat.reduceEqDiff, if_false] at hd
            try simp only [hd] at hK ⊢
            clear hd
            have HK := Lib.hid hK; clear hK
            go_wp2_with fail
            refine (Hcw.out W5 (by omega) HA2.out heA).mono ?_
            rintro e W6 ⟨v2, rfl, ⟨cs, hO2, hcs⟩, he6⟩
            obtain ⟨a2, d2, rfl⟩ := ownsRow_slice hO2
            have heB := heA.trans he6
            have hszB := heA.size
            go_wp2_with fail
            refine HK.out _ _ (fun _ => heB) ?_
            refine Unlock.of (ds := [6]) (by kernel_rfl) ?_
            repeat (first
              | (apply Unlock.float rfl
                 · intro x W he hd K Qr hK
                   try (have he := he (by decide))
                   try simp only [edges, DepsE, List.filter_cons, List.filter_nil, Region.binds, if_true, and_true, true_and, upd, Nat.reduceEqDiff, if_false] at hd
                   try simp only [hd] at hK ⊢
                   have HK := Lib.hid hK; clear hK
                   go_wp2_with fail
                   exact HK.out))
            refine Unlock.nil ?_
            exact Tree.eq (by kernel_rfl) (Hcut.out _ _ ⟨a1, d1, a2, d2, pp, cs, upd_725 _ _ _ _ _, heB, (OwnShs.ext hO1 he6).mono (by omega), ownsRow_mono hO2 (by omega), hcs, (hp.ext he5).ext he6, hszX⟩)
  · obtain rfl : r = r0 := by rw [← Hr.out]; unfold useE; rw [if_pos (by rw [Hr0.out]; exact h0), Hr0.out]
    obtain rfl : m' = ⟨[], []⟩ := by rw [← Hm'.out]; unfold useM; rw [Hr.out, if_neg h0]
    have hd : (r != 0) = true := by simpa using h0
    go_wp2_with fail
    have hR9 : Blk ((w1.setCell ⟨w.heap.size + 1, 0, none⟩ (.slice none 0 0)).setCell ⟨w.heap.size + 1, 1, none⟩ (.slice none 0 0)) (w.heap.size + 1) 56 #[.slice none 0 0, .slice none 0 0] := by simpa using (hR1.set_ 0 (.slice none 0 0)).set_ 1 (.slice none 0 0)
    obtain ⟨z0, z1⟩ := hR9.c2
    have hE9 := Below.setCell (Below.setCell hE1 (p := ⟨w.heap.size + 1, 0, none⟩) (by show _ ≤ w.heap.size + 1; omega) (.slice none 0 0)) (p := ⟨w.heap.size + 1, 1, none⟩) (by show _ ≤ w.heap.size + 1; omega) (.slice none 0 0)
    refine bodyPost_ret (v := .tuple #[.agg #[.slice none 0 0, .slice none 0 0], .int .i64 r]) ?_ rfl ⟨_, rfl, OwnPM.zero _ _, hE9⟩
    simp [results, Tryz.results110, go_sem, z0, z1]
end Go.Proofs.Pet

namespace Go.Proofs.Pet
set_option linter.unusedSimpArgs false
open Go Go.RowKit Go.Maps Go.Shelf
open Go.Proofs.Pow (PM Sh Wv POk Up)

theorem useE_known {m : PM} {k h : Int} (h0 : useE m k h = 0) : knownE m k = 0 ∧ inB h 0 23 = true ∧ (m.wv k.toNat).hours.contains h = false := by
  unfold useE at h0
  split at h0
  · rename_i h1; exact absurd h0 h1
  rename_i h1
  split at h0
  · exact absurd h0 (by decide)
  rename_i h2
  split at h0
  · exact absurd h0 (by decide)
  rename_i h3
  exact ⟨by simpa using h1, by simpa using h2, by simpa using h3⟩
theorem knownE_ok {m : PM} {k : Int} (h : knownE m k = 0) : checkP m = 0 ∧ 0 ≤ k ∧ k < m.wvs.length := by
  unfold knownE at h
  split at h
  · rename_i h1; exact absurd h h1
  rename_i h1
  split at h
  · exact absurd h (by decide)
  rename_i h2
  have := inB_iff.1 (by simpa using h2)
  exact ⟨by simpa using h1, this.1, by omega⟩
def extI (m : PM) (k h : Int) : Int := if useE m k h = 0 then Pow.extraF m k.toNat h.toNat else 0
theorem useP_ok {m : PM} {k h : Int} (h0 : useE m k h = 0) : checkP (Pow.useP m k.toNat h) = 0 := by
  obtain ⟨h1, h2, h3⟩ := useE_known h0
  obtain ⟨g1, g2, g3⟩ := knownE_ok h1
  have hb := inB_iff.1 h2
  obtain ⟨hh, rfl⟩ : ∃ hh : Nat, h = hh := ⟨h.toNat, by omega⟩
  exact (checkP_iff _).2 (Pow.use_ok ((checkP_iff m).1 g1) (by omega) (by omega) h3)

set_option maxRecDepth 20000 in
set_option maxHeartbeats 1000000 in
theorem Extra_any (v : Value) (m : PM) (k h : Int) (r x : Int) (hr : useE m k h = r) (hx : extI m k h = x) (w : World) (hv : PMVal w v m) :
    Calls Tryz.prog 33 #[v, .int .i64 k, .int .i64 h] w fun e w' => e = .returned (.tuple #[.int .i64 x, .int .i64 r]) ∧ Ext w w' := by
  have Hv := Lib.hid hv
  obtain ⟨A1, c1, A2, c2, rfl, h2, h3, h4, h5, h6, h7⟩ := hv
  have hE := Ext.alloc w (.cells #[.slice A1 m.shafts.length c1, .slice A2 m.wvs.length c2] 56)
  have hM := Blk.new w 56 #[.slice A1 m.shafts.length c1, .slice A2 m.wvs.length c2]
  obtain ⟨k0, k1⟩ := hM.c2
  have HM := Lib.hid hM
  have hu := Lib.hid (Use_any _ m k h r (useM m k h) hr rfl _ (Hv.out.ext hE))
  have Hr := Lib.hid hr; have Hx := Lib.hid hx
  clear h6 h7 hM hr hx
  go_enter Tryz.func33, Tryz.ntmps33
  go_wp2_with fail
  refine hu.out.mono ?_
  rintro e w1 ⟨u, rfl, hO, he1⟩
  have hE1 := hE.trans he1
  have hM1 := HM.out.ext he1
  have hval := hO.val
  obtain ⟨B1, e1, B2, e2, rfl, -⟩ := id hval
  have HV := Lib.hid hval
  clear hu k0 k1 hO hval
  by_cases h0 : r = 0
  · subst h0
    have hX := Ext.alloc w1 (.cells #[.slice B1 (useM m k h).shafts.length e1, .slice B2 (useM m k h).wvs.length e2] 56)
    have hN := Blk.new w1 56 #[.slice B1 (useM m k h).shafts.length e1, .slice B2 (useM m k h).wvs.length e2]
    have hEX := hE1.trans hX
    obtain ⟨k0, k1⟩ := (hM1.ext hX).c2
    have hum : useM m k h = Pow.useP m k.toNat h := by unfold useM; rw [if_pos Hr.out]
    obtain ⟨kn, -, -⟩ := useE_known Hr.out
    obtain ⟨hck, hk1, hk2⟩ := knownE_ok kn
    have hck2 : checkP (useM m k h) = 0 := by rw [hum]; exact useP_ok Hr.out
    have Hm := Lib.hid ((checkP_iff m).1 hck)
    have Hm2 := Lib.hid ((checkP_iff (useM m k h)).1 hck2)
    have HVX := Lib.hid (HV.out.ext hX)
    have Hxx : Hid (x = Pow.costF (useM m k h) (fun _ => true) - Pow.costF m (fun _ => true)) := by
      unfold Hid
      obtain ⟨-, hb, -⟩ := useE_known Hr.out
      have hb' := inB_iff.1 hb
      have hhn : ((h.toNat : Nat) : Int) = h := by omega
      rw [← Hx.out, hum]
      unfold extI
      rw [if_pos Hr.out]
      unfold Pow.extraF
      rw [hhn]
    have Hck := Lib.hid hck; have Hck2 := Lib.hid hck2
    clear hck hck2 kn hum Hx
    generalize useM m k h = m2 at *
    have ho1 := Lib.hid (opened_anyP _ m Hck.out _ (Hv.out.ext hEX))
    go_wp2_with fail
    refine ho1.out.mono ?_
    rintro e w3 ⟨D1, rfl, hD1, -, he3⟩
    have ho2 := Lib.hid (opened_anyP _ m2 Hck2.out w3 (HVX.out.ext he3))
    obtain ⟨j0, j1⟩ := (hN.ext he3).c2
    have hE3 := hEX.trans he3
    clear k0 k1 ho1 hEX hX hE1
    go_wp2_with fail
    refine ho2.out.mono ?_
    rintro e w4 ⟨D2, rfl, hD2, -, he4⟩
    have hE4 := hE3.trans he4
    have HD1 := Lib.hid (hD1.ext he4); have HD2 := Lib.hid hD2
    have hal := Lib.hid (allg_any D2 m2 Hm2.out w4 hD2)
    have hf2 := Hm2.out.few
    have hf1 := Hm.out.few
    clear ho2 j0 j1 hD1 hD2 he3 he4 hE3
    go_wp2_with fail
    refine hal.out.mono ?_
    rintro e w5 ⟨g2, rfl, hg2, he5⟩
    obtain ⟨A4, c4, rfl, -, -, r3, -, -⟩ := hg2.open_
    have hcb2 := Pow.cost_bounds Hm2.out (fun _ => true)
    have hcb1 := Pow.cost_bounds Hm.out (fun _ => true)
    obtain ⟨ct2, hct2⟩ : ∃ ct, Pow.costF m2 (fun _ => true) = ct := ⟨_, rfl⟩
    obtain ⟨ct1, hct1⟩ : ∃ ct, Pow.costF m (fun _ => true) = ct := ⟨_, rfl⟩
    rw [hct2] at hcb2 Hxx
    rw [hct1] at hcb1 Hxx
    have hcall := Lib.hid (cost_anyP D2 m2 Hm2.out A4 c4 (Pow.allI m2.wvs.length).length (Pow.allI m2.wvs.length) rfl (Pow.all_in m2) (by rw [allI_len]; omega) ct2 ((Pow.all_group m2).trans hct2) w5 (HD2.out.ext he5) r3)
    have Hct1 := Lib.hid hct1
    have hE5 := hE4.trans he5
    clear hal r3 hg2 hct1 hct2
    go_wp2_with fail
    refine hcall.out.mono ?_
    rintro e w6 ⟨rfl, he6⟩
    have hD16 := HD1.out.ext (he5.trans he6)
    have hE6 := hE5.trans he6
    have hal := Lib.hid (allg_any D1 m Hm.out w6 hD16)
    have HD16 := Lib.hid hD16
    clear hcall hD16 he5 he6
    go_wp2_with fail
    refine hal.out.mono ?_
    rintro e w7 ⟨g1, rfl, hg1, he7⟩
    obtain ⟨A5, c5, rfl, -, -, r5, -, -⟩ := hg1.open_
    have hcall := Lib.hid (cost_anyP D1 m Hm.out A5 c5 (Pow.allI m.wvs.length).length (Pow.allI m.wvs.length) rfl (Pow.all_in m) (by rw [allI_len]; omega) ct1 ((Pow.all_group m).trans Hct1.out) w7 (HD16.out.ext he7) r5)
    have hE7 := hE6.trans he7
    clear hal r5 hg1
    go_wp2_with fail
    refine hcall.out.mono ?_
    rintro e w8 ⟨rfl, he8⟩
    have hE8 := hE7.trans he8
    go_wp2_with fail
    go_ret2
    exact ⟨by rw [Hxx.out]; rfl, hE8⟩
  · obtain rfl : x = 0 := by rw [← Hx.out]; unfold extI; rw [if_neg (by rw [Hr.out]; exact h0)]
    have hd : (r != 0) = true := by simpa using h0
    have hX := Ext.alloc w1 (.cells #[.slice B1 (useM m k h).shafts.length e1, .slice B2 (useM m k h).wvs.length e2] 56)
    generalize useM m k h = m2 at *
    go_wp2_with fail
    go_ret2
    exact ⟨rfl, hE1.trans hX⟩
theorem pleast_any (n : Int) (A : Option Addr) (c L : Nat) (xs : List Int) (hL : xs.length = L) (r : Int) (hr : xs.foldl min n = r) (w : World) (hb : xs.length ≤ maxLen) (hx : IntsAt w A xs) :
    Calls Tryz.prog 114 #[.int .i64 n, .slice A L c] w fun e w' => e = .returned (.int .i64 r) ∧ w = w' := by
  subst hL
  unfold maxLen at hb
  have Hr := Lib.hid hr; clear hr
  go_enter Tryz.func114, Tryz.ntmps114
  go_wp2
  go_loopw [0, 6, 9] (fun a _ i wr => ∃ (k : Nat) (x : Int), k ≤ xs.length ∧ a = .int .i64 x ∧ i = .int .i64 k ∧ Hid ((xs.take k).foldl min n = x) ∧ w = wr) (fun _ _ i _ => xs.length - (intOf i).toNat)
  case atStart => exact ⟨0, n, by omega, rfl, rfl, rfl, rfl⟩
  case round =>
    obtain ⟨k, x, hk, rfl, rfl, hm, rfl⟩ := hrel
    by_cases hlt : k < xs.length
    · obtain ⟨b, o, rfl, h1⟩ := hx k hlt
      have hmin : Hid ((xs.take (k + 1)).foldl min n = min x (xs[k]?.getD 0)) := by
        unfold Hid
        rw [List.take_add_one, List.foldl_append, hm.out]
        simp [hlt]
      generalize xs[k]?.getD 0 = y at *
      go_wp2
      go_roundw
      case rel => exact ⟨k + 1, min x y, by omega, by first | (rw [Int.min_def]; done) | (rw [Int.min_def]; by_cases h : x ≤ y <;> simp [h] <;> omega), by go_num, hmin.out, trivial⟩
      case measure => simp [intOf]; omega
    · obtain rfl : k = xs.length := by omega
      have hq := hm.out
      rw [List.take_length, Hr.out] at hq
      subst hq
      go_wp2
      go_ret
      exact ⟨rfl, rfl⟩

theorem eql_none (W : World) : (binOp .eql 184 (.agg #[.int .i64 (-1), .int .i64 0]) (.agg #[.int .i64 (-1), .int .i64 0])).run Tryz.prog W = .ok (.bool true) W := by kernel_rfl
theorem eql_some (a : Nat) (x : Int) (W : World) : (binOp .eql 184 (.agg #[.int .i64 (a : Int), .int .i64 x]) (.agg #[.int .i64 (-1), .int .i64 0])).run Tryz.prog W = .ok (.bool false) W := by kernel_rfl
def bestV : Option (Nat × Int) → Int × Int
  | none => (-1, 0)
  | some (a, x) => ((a : Int), x)
def cheapV (m : PM) (k : Int) : Int × Int × Int := if knownE m k ≠ 0 then (0, 0, knownE m k) else match Pow.cheapF m k.toNat with
  | none => (0, 0, 6)
  | some (a, x) => ((a : Int), x, 0)
set_option maxRecDepth 20000 in
set_option maxHeartbeats 1000000 in
theorem Cheapest_any (v : Value) (m : PM) (k : Int) (at_ x r : Int) (hr : cheapV m k = (at_, x, r)) (w : World) (hv : PMVal w v m) :
    Calls Tryz.prog 34 #[v, .int .i64 k] w fun e w' => e = .returned (.tuple #[.int .i64 at_, .int .i64 x, .int .i64 r]) ∧ Ext w w' := by
  have Hv := Lib.hid hv
  obtain ⟨A1, c1, A2, c2, rfl, h2, h3, h4, h5, h6, h7⟩ := hv
  have hE := Ext.alloc w (.cells #[.slice A1 m.shafts.length c1, .slice A2 m.wvs.length c2] 56)
  have hM := Blk.new w 56 #[.slice A1 m.shafts.length c1, .slice A2 m.wvs.length c2]
  obtain ⟨k0, k1⟩ := hM.c2
  have HM := Lib.hid hM
  obtain ⟨r0, hr0⟩ : ∃ r0, knownE m k = r0 := ⟨_, rfl⟩
  have ho := Lib.hid (known_anyP _ m k r0 hr0 _ (Hv.out.ext hE))
  have Hr := Lib.hid hr; have Hr0 := Lib.hid hr0
  clear h6 h7 hM hr hr0
  go_enter Tryz.func34, Tryz.ntmps34
  go_wp2_with fail
  refine ho.out.mono ?_
  rintro e w1 ⟨pv, rfl, he1, -⟩
  have hE1 := hE.trans he1
  have HM1 := Lib.hid (HM.out.ext he1)
  clear ho k0 k1 he1 hE HM
  by_cases h0 : r0 = 0
  · subst h0
    obtain ⟨hck, hk1, hk2⟩ := knownE_ok Hr0.out
    obtain ⟨kk, rfl⟩ : ∃ kk : Nat, k = kk := ⟨k.toNat, by omega⟩
    have hX : Ext w1 ((w1.alloc (.cells #[.int .i64 (-1), .int .i64 0] 184)).alloc (.cells #[.int .i64 (-1), .int .i64 0] 184)) := (Ext.alloc _ _).trans (Ext.alloc _ _)
    have hN := (Blk.new w1 184 #[.int .i64 (-1), .int .i64 0]).alloc (.cells #[.int .i64 (-1), .int .i64 0] 184)
    have hB := Blk.new (w1.alloc (.cells #[.int .i64 (-1), .int .i64 0] 184)) 184 #[.int .i64 (-1), .int .i64 0]
    rw [World.size_alloc] at hB
    obtain ⟨n0, n1⟩ := (Blk.new w1 184 #[.int .i64 (-1), .int .i64 0]).c2
    have hfi : Hid (Pow.cheapF m kk = Pow.leastF (Pow.offerF m kk) 24) := rfl
    clear hck hk1
    go_wp2_with fail
    clear n0 n1
    obtain ⟨Nb, hNb⟩ : ∃ Nb, w1.heap.size = Nb := ⟨_, rfl⟩
    rw [hNb] at hN hB ⊢
    have HNb := Lib.hid hNb
    generalize (w1.alloc _).alloc _ = W2 at *
    clear hNb
    go_loopw [25] (fun i wr => ∃ h : Nat, h ≤ 24 ∧ i = .int .i64 (h : Int) ∧ Ext w1 wr ∧ Blk wr Nb 184 #[.int .i64 (-1), .int .i64 0] ∧ Blk wr (Nb + 1) 184 #[.int .i64 (bestV (Pow.leastF (Pow.offerF m kk) h)).1, .int .i64 (bestV (Pow.leastF (Pow.offerF m kk) h)).2]) (fun i _ => 24 - (intOf i).toNat)
    case atStart => exact ⟨0, by omega, rfl, hX, hN, hB⟩
    case round =>
      clear hX hN hB
      obtain ⟨h, hh, rfl, hew, hN, hB⟩ := hrel
      by_cases hlt : h < 24
      · have hM2 := HM1.out.ext hew
        obtain ⟨k0, k1⟩ := hM2.c2
        obtain ⟨q, hq⟩ : ∃ q, (m.wv kk).hours.contains (h : Int) = q := ⟨_, rfl⟩
        have hin : inB (h : Int) 0 23 = true := inB_iff.2 ⟨by omega, by omega⟩
        have hue : useE m kk h = if q then 5 else 0 := by
          unfold useE
          rw [if_neg (by simp [Hr0.out]), if_neg (by simp [hin])]
          show (if (m.wv kk).hours.contains (h : Int) = true then (5 : Int) else 0) = _
          rw [hq]
        have hof : Hid (Pow.offerF m kk h = if q then none else some (Pow.extraF m kk h)) := by unfold Hid Pow.offerF; rw [hq]
        have hei : extI m kk h = if q then 0 else Pow.extraF m kk h := by
          unfold extI
          rw [hue]
          cases q <;> rfl
        have hex := Extra_any _ m kk h _ _ hue hei wr (Hv.out.ext (hE1.trans hew))
        have Hst : Hid (Pow.leastF (Pow.offerF m kk) (h + 1) = match Pow.offerF m kk h, Pow.leastF (Pow.offerF m kk) h with
            | some x, some b => if x < b.2 then some (h, x) else some b
            | some x, none => some (h, x)
            | none, b => b) := rfl
        rw [hof.out] at Hst
        have Hex := Lib.hid hex
        clear hex hq hue hei hof
        generalize Pow.extraF m kk h = n at *
        go_wp2_with fail
        refine Hex.out.mono ?_
        rintro e w3 ⟨rfl, he3⟩
        have hew3 := hew.trans he3
        have hN3 := hN.ext he3
        have hB3 := hB.ext he3
        clear Hex k0 k1 hM2 hN hB he3 hew
        obtain ⟨n0, n1⟩ := hN3.c2
        cases q with
        | true =>
          have Hst2 : Hid (Pow.leastF (Pow.offerF m kk) (h + 1) = Pow.leastF (Pow.offerF m kk) h) := Hst.out
          obtain ⟨b0, b1⟩ := hB3.c2
          go_upto_region 10 with fail
          have hd5 : ((5 : Int) == 0) = false := by decide
          refine wp_region_chain 16 [(10, true), (11, true), (14, true), (15, true)] [] (by kernel_rfl) (by kernel_rfl) (by kernel_rfl) ?_
          simp only [List.take, List.drop, fill, Act.put, List.setIfInBounds_toArray, List.set_cons_zero, List.set_cons_succ, Nat.reduceAdd]
          repeat (first
            | refine Floats.mut rfl ?_
            | (apply Floats.float rfl
               · intro x W he hd K Q hK
                 try (have he := he (by decide); have b0 := he.cell b0; have b1 := he.cell b1; have n0 := he.cell n0; have n1 := he.cell n1)
                 try simp only [edges, DepsE, List.filter_cons, List.filter_nil, Region.binds, if_true, and_true, true_and, upd, Nat.reduceEqDiff, if_false] at hd
                 try simp only [hd] at hK ⊢
                 have HK := Lib.hid hK; clear hK
                 go_wp2_with fail
                 exact HK.out))
          refine Floats.done fun W he hG => ?_
          refine Chain.cons _ rfl ?_
          intro x hd K Q hK
          try simp only [edges, DepsE, List.filter_cons, List.filter_nil, Region.binds, if_true, and_true, true_and, upd, Nat.reduceEqDiff, if_false] at hd
          try simp only [hd] at hK ⊢
          clear hd
          have HK := Lib.hid hK; clear hK
          go_wp2_with fail
          refine HK.out _ _ (fun _ => he) ?_
          clear HK
          refine Chain.cons _ rfl ?_
          intro x hd K Q hK
          try simp only [edges, DepsE, List.filter_cons, List.filter_nil, Region.binds, if_true, and_true, true_and, upd, Nat.reduceEqDiff, if_false] at hd
          try simp only [hd] at hK ⊢
          clear hd
          have HK := Lib.hid hK; clear hK
          go_wp2_with fail
          refine HK.out _ _ (fun _ => he) ?_
          clear HK
          refine Chain.cons _ rfl ?_
          intro x hd K Q hK
          try simp only [edges, DepsE, List.filter_cons, List.filter_nil, Region.binds, if_true, and_true, true_and, upd, Nat.reduceEqDiff, if_false] at hd
          try simp only [hd] at hK ⊢
          clear hd
          have HK := Lib.hid hK; clear hK
          go_wp2_with fail
          refine HK.out _ _ (fun _ => he) ?_
          clear HK
          refine Chain.cons _ rfl ?_
          intro x hd K Q hK
          try simp only [edges, DepsE, List.filter_cons, List.filter_nil, Region.binds, if_true, and_true, true_and, upd, Nat.reduceEqDiff, if_false] at hd
          try simp only [hd] at hK ⊢
          clear hd
          have HK := Lib.hid hK; clear hK
          go_wp2_with fail
          refine HK.out _ _ (fun _ => he) ?_
          clear HK
          refine Chain.nil ?_
          simp only [upd, Nat.reduceEqDiff, if_false, if_true]
          go_wp2_with fail
          go_roundw
          case rel => exact ⟨h + 1, by omega, by go_num, hew3.trans he, hN3.ext he, by rw [Hst2.out]; exact hB3.ext he⟩
          case measure => simp [intOf]; omega
        | false =>
          have hst := Hst.out
          simp only [Bool.false_eq_true, if_false] at hst
          have hd0 : ((0 : Int) == 0) = true := rfl
          cases hl : Pow.leastF (Pow.offerF m kk) h with
          | none =>
            rw [hl] at hst hB3
            simp only [bestV] at hB3
            have Hst2 := Lib.hid hst
            obtain ⟨b0, b1⟩ := hB3.c2
            have heq := eql_none
            clear hst hl Hst
            go_upto_region 10 with fail
            refine wp_region_chain 16 [(10, true), (11, true), (14, true), (15, true)] [] (by kernel_rfl) (by kernel_rfl) (by kernel_rfl) ?_
            simp only [List.take, List.drop, fill, Act.put, List.setIfInBounds_toArray, List.set_cons_zero, List.set_cons_succ, Nat.reduceAdd]
            repeat (first
              | refine Floats.mut rfl ?_
              | (apply Floats.float rfl
                 · intro x W he hd K Q hK
                   try (have he := he (by decide); have b0 := he.cell b0; have b1 := he.cell b1; have n0 := he.cell n0; have n1 := he.cell n1)
                   try simp only [edges, DepsE, List.filter_cons, List.filter_nil, Region.binds, if_true, and_true, true_and, upd, Nat.reduceEqDiff, if_false] at hd
                   try simp only [hd] at hK ⊢
                   have HK := Lib.hid hK; clear hK
                   go_wp2_with fail
                   exact HK.out))
            refine Floats.done fun W he hG => ?_
            refine Chain.cons _ rfl ?_
            intro x hd K Q hK
            try simp only [edges, DepsE, List.filter_cons, List.filter_nil, Region.binds, if_true, and_true, true_and, upd, Nat.reduceEqDiff, if_false] at hd
            try simp only [hd] at hK ⊢
            clear hd
            have HK := Lib.hid hK; clear hK
            go_wp2_with fail
            refine HK.out _ _ (fun _ => he) ?_
            clear HK
            refine Chain.cons _ rfl ?_
            intro x hd K Q hK
            try simp only [edges, DepsE, List.filter_cons, List.filter_nil, Region.binds, if_true, and_true, true_and, upd, Nat.reduceEqDiff, if_false] at hd
            try simp only [hd] at hK ⊢
            clear hd
            have HK := Lib.hid hK; clear hK
            go_wp2_with fail
            refine HK.out _ _ (fun _ => he) ?_
            clear HK
            refine Chain.cons _ rfl ?_
            intro x hd K Q hK
            try simp only [edges, DepsE, List.filter_cons, List.filter_nil, Region.binds, if_true, and_true, true_and, upd, Nat.reduceEqDiff, if_false] at hd
            try simp only [hd] at hK ⊢
            clear hd
            have HK := Lib.hid hK; clear hK
            go_wp2_with fail
            refine HK.out _ _ (fun _ => he) ?_
            clear HK
            refine Chain.cons _ rfl ?_
            intro x hd K Q hK
            try simp only [edges, DepsE, List.filter_cons, List.filter_nil, Region.binds, if_true, and_true, true_and, upd, Nat.reduceEqDiff, if_false] at hd
            try simp only [hd] at hK ⊢
            clear hd
            have HK := Lib.hid hK; clear hK
            go_wp2_with fail
            refine HK.out _ _ (fun _ => he) ?_
            clear HK
            refine Chain.nil ?_
            simp only [upd, Nat.reduceEqDiff, if_false, if_true]
            have hB9 := hB3.ext he
            have hN9 := hN3.ext he
            have hew9 := hew3.trans he
            have g0 := hB9.frozen 0
            have g1 := hB9.frozen 1
            clear b0 b1 n0 n1
            obtain ⟨b0, b1⟩ := hB9.c2
            go_wp2_with fail
            go_roundw
            case rel =>
              refine ⟨h + 1, by omega, by go_num, Below.setCell (Below.setCell hew9 (p := ⟨Nb + 1, 0, none⟩) (by show _ ≤ Nb + 1; have := HNb.out; omega) _) (p := ⟨Nb + 1, 1, none⟩) (by show _ ≤ Nb + 1; have := HNb.out; omega) _, (hN9.far (by show Nb ≠ Nb + 1; omega) _).far (by show Nb ≠ Nb + 1; omega) _, ?_⟩
              rw [Hst2.out]
              simpa [bestV] using (hB9.set_ 0 (.int .i64 (h : Int))).set_ 1 (.int .i64 n)
            case measure => simp [intOf]; omega
          | some bb =>
            obtain ⟨a, y⟩ := bb
            rw [hl] at hst hB3
            simp only [bestV] at hB3
            obtain ⟨b0, b1⟩ := hB3.c2
            have heq := fun W => eql_some a y W
            have Hst2 := Lib.hid hst
            obtain ⟨mn, hmn⟩ : ∃ mn, min n y = mn := ⟨_, rfl⟩
            have Hls := Lib.hid (fun (b : Nat) (W : World) (hb : Blk W b 3 #[.int .i64 y]) => pleast_any n (some ⟨b, 0, none⟩) 1 1 [y] rfl mn (by simpa using hmn) W (by unfold maxLen; simp) (by
              intro j hj
              obtain rfl : j = 0 := by simpa using hj
              exact ⟨b, 0, rfl, hb.c1⟩))
            have Hmn := Lib.hid hmn
            clear hst hl Hst hmn
            go_upto_region 10 with fail
            refine wp_region_chain 16 [(10, true), (11, true), (14, true), (15, true)] [] (by kernel_rfl) (by kernel_rfl) (by kernel_rfl) ?_
            simp only [List.take, List.drop, fill, Act.put, List.setIfInBounds_toArray, List.set_cons_zero, List.set_cons_succ, Nat.reduceAdd]
            repeat (first
              | refine Floats.mut rfl ?_
              | (apply Floats.float rfl
                 · intro x W he hd K Q hK
                   try (have he := he (by decide); have b0 := he.cell b0; have b1 := he.cell b1; have n0 := he.cell n0; have n1 := he.cell n1)
                   try simp only [edges, DepsE, List.filter_cons, List.filter_nil, Region.binds, if_true, and_true, true_and, upd, Nat.reduceEqDiff, if_false] at hd
                   try simp only [hd] at hK ⊢
                   have HK := Lib.hid hK; clear hK
                   go_wp2_with fail
                   exact HK.out))
            refine Floats.done fun W he hG => ?_
            refine Chain.cons _ rfl ?_
            intro x hd K Q hK
            try simp only [edges, DepsE, List.filter_cons, List.filter_nil, Region.binds, if_true, and_true, true_and, upd, Nat.reduceEqDiff, if_false] at hd
            try simp only [hd] at hK ⊢
            clear hd
            have HK := Lib.hid hK; clear hK
            go_wp2_with fail
            have hX9 := Ext.alloc W (.cells #[.int .i64 y] 3)
            have hb9 := Blk.new W 3 #[.int .i64 y]
            have he9 := he.trans hX9
            refine HK.out _ _ (fun _ => he9) ?_
            clear HK he hG
            obtain ⟨bl, hble⟩ : ∃ bl, W.heap.size = bl := ⟨_, rfl⟩
            rw [hble] at hb9 ⊢
            generalize W.alloc _ = W5 at *
            clear hX9 hble
            refine Chain.cons _ rfl ?_
            intro x hd K Q hK
            try simp only [edges, DepsE, List.filter_cons, List.filter_nil, Region.binds, if_true, and_true, true_and, upd, Nat.reduceEqDiff, if_false] at hd
            try simp only [hd] at hK ⊢
            clear hd
            have HK := Lib.hid hK; clear hK
            go_wp2_with fail
            refine (Hls.out bl W5 hb9).mono ?_
            rintro e w9 ⟨rfl, rfl⟩
            go_wp2_with fail
            refine HK.out _ _ (fun _ => he9) ?_
            clear HK
            have hB9 := hB3.ext he9
            have hN9 := hN3.ext he9
            have hew9 := hew3.trans he9
            have g0 := hB9.frozen 0
            have g1 := hB9.frozen 1
            clear b0 b1 n0 n1
            by_cases hny : n < y
            · obtain rfl : mn = n := by rw [← Hmn.out]; omega
              have hne : (mn != y) = true := by simp; omega
              refine Chain.cons _ rfl ?_
              intro x hd K Q hK
              try simp only [edges, DepsE, List.filter_cons, List.filter_nil, Region.binds, if_true, and_true, true_and, upd, Nat.reduceEqDiff, if_false] at hd
              try simp only [hd] at hK ⊢
              clear hd
              have HK := Lib.hid hK; clear hK
              go_wp2_with fail
              refine HK.out _ _ (fun _ => he9) ?_
              clear HK
              refine Chain.cons _ rfl ?_
              intro x hd K Q hK
              try simp only [edges, DepsE, List.filter_cons, List.filter_nil, Region.binds, if_true, and_true, true_and, upd, Nat.reduceEqDiff, if_false] at hd
              try simp only [hd] at hK ⊢
              clear hd
              have HK := Lib.hid hK; clear hK
              go_wp2_with fail
              refine HK.out _ _ (fun _ => he9) ?_
              clear HK
              refine Chain.nil ?_
              simp only [upd, Nat.reduceEqDiff, if_false, if_true]
              obtain ⟨b0, b1⟩ := hB9.c2
              rw [if_pos hny] at Hst2
              go_wp2_with fail
              go_roundw
              case rel =>
                refine ⟨h + 1, by omega, by go_num, Below.setCell (Below.setCell hew9 (p := ⟨Nb + 1, 0, none⟩) (by show _ ≤ Nb + 1; have := HNb.out; omega) _) (p := ⟨Nb + 1, 1, none⟩) (by show _ ≤ Nb + 1; have := HNb.out; omega) _, (hN9.far (by show Nb ≠ Nb + 1; omega) _).far (by show Nb ≠ Nb + 1; omega) _, ?_⟩
                rw [Hst2.out]
                simpa [bestV] using (hB9.set_ 0 (.int .i64 (h : Int))).set_ 1 (.int .i64 mn)
              case measure => simp [intOf]; omega
            · obtain rfl : mn = y := by rw [← Hmn.out]; omega
              have hne : (mn != mn) = false := by simp
              refine Chain.cons _ rfl ?_
              intro x hd K Q hK
              try simp only [edges, DepsE, List.filter_cons, List.filter_nil, Region.binds, if_true, and_true, true_and, upd, Nat.reduceEqDiff, if_false] at hd
              try simp only [hd] at hK ⊢
              clear hd
              have HK := Lib.hid hK; clear hK
              go_wp2_with fail
              refine HK.out _ _ (fun _ => he9) ?_
              clear HK
              refine Chain.cons _ rfl ?_
              intro x hd K Q hK
              try simp only [edges, DepsE, List.filter_cons, List.filter_nil, Region.binds, if_true, and_true, true_and, upd, Nat.reduceEqDiff, if_false] at hd
              try simp only [hd] at hK ⊢
              clear hd
              have HK := Lib.hid hK; clear hK
              go_wp2_with fail
              refine HK.out _ _ (fun _ => he9) ?_
              clear HK
              refine Chain.nil ?_
              simp only [upd, Nat.reduceEqDiff, if_false, if_true]
              rw [if_neg (by omega)] at Hst2
              go_wp2_with fail
              go_roundw
              case rel => exact ⟨h + 1, by omega, by go_num, hew9, hN9, by rw [Hst2.out]; exact hB9⟩
              case measure => simp [intOf]; omega
      · obtain rfl : h = 24 := by omega
        obtain ⟨n0, n1⟩ := hN.c2
        have Hr2 := Hr.out
        unfold cheapV at Hr2
        rw [if_neg (by simp [Hr0.out])] at Hr2
        have hfi2 : Pow.cheapF m (kk : Int).toNat = Pow.leastF (Pow.offerF m kk) 24 := rfl
        rw [hfi2] at Hr2
        cases hl : Pow.leastF (Pow.offerF m kk) 24 with
        | none =>
          rw [hl] at Hr2 hB
          simp only [Prod.mk.injEq] at Hr2
          obtain ⟨rfl, rfl, rfl⟩ := Hr2
          simp only [bestV] at hB
          obtain ⟨b0, b1⟩ := hB.c2
          have heq := eql_none
          clear hl hfi2 hfi
          go_wp2_with fail
          go_ret3
          exact ⟨rfl, hE1.trans hew⟩
        | some b =>
          obtain ⟨a, y⟩ := b
          rw [hl] at Hr2 hB
          simp only [Prod.mk.injEq] at Hr2
          obtain ⟨rfl, rfl, rfl⟩ := Hr2
          simp only [bestV] at hB
          obtain ⟨b0, b1⟩ := hB.c2
          have heq := fun W => eql_some a y W
          clear hl hfi2 hfi
          go_upto_region 15 with fail
          refine wp_region_chain 5 [] [] (by kernel_rfl) (by kernel_rfl) (by kernel_rfl) ?_
          simp only [List.take, List.drop, fill, Act.put, List.setIfInBounds_toArray, List.set_cons_zero, List.set_cons_succ, Nat.reduceAdd]
          repeat (first
            | refine Floats.mut rfl ?_
            | (apply Floats.float rfl
               · intro x W he hd K Q hK
                 try (have he := he (by decide); have b0 := he.cell b0; have b1 := he.cell b1)
                 try simp only [edges, DepsE, List.filter_cons, List.filter_nil, Region.binds, if_true, and_true, true_and, upd, Nat.reduceEqDiff, if_false] at hd
                 try simp only [hd] at hK ⊢
                 have HK := Lib.hid hK; clear hK
                 go_wp2_with fail
                 exact HK.out))
          refine Floats.done fun W he hG => ?_
          refine Chain.nil ?_
          simp only [upd, Nat.reduceEqDiff, if_false, if_true]
          go_wp2_with fail
          go_ret3
          exact ⟨rfl, hE1.trans (hew.trans he)⟩
  · unfold cheapV at Hr
    rw [if_pos (by rw [Hr0.out]; exact h0), Hr0.out] at Hr
    have Hr2 := Hr.out
    simp only [Prod.mk.injEq] at Hr2
    obtain ⟨rfl, rfl, rfl⟩ := Hr2
    have hd : (r0 != 0) = true := by simpa using h0
    clear Hr
    go_wp2_with fail
    go_ret3
    exact ⟨rfl, hE1⟩
end Go.Proofs.Pet
