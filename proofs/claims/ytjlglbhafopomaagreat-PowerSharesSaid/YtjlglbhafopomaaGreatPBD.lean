/-
  A mill in which a weaver uses power in one hour more, walked: power's Use.
-/
import Derived.Test.YtjlglbhafopomaaGreatPO
import Derived.Test.YtjlglbhafopomaaGreatB0
namespace Go.Proofs.Pet
set_option linter.unusedSimpArgs false
open Go Go.RowKit Go.Maps Go.Shelf
open Go.Proofs.Pow (PM Sh Wv POk Up)

theorem copyI (W : World) (H : Nat) (A : Option Addr) (c : Nat) (xs : List Int) (hb : Blk W H 3 (madeCells #[.int .i64 0] xs.length)) (hx : IntsAt W A xs) (hl : xs.length ≤ maxLen) (ty : TypeId) :
    ∃ W', (Builtin.copy_ #[31, 31] ty #[.slice (some ⟨H, 0, none⟩) xs.length xs.length, .slice A xs.length c]).run Tryz.prog W = .ok (goInt (xs.length : Nat)) W' ∧ OwnI W' H 3 (.slice (some ⟨H, 0, none⟩) xs.length xs.length) xs ∧ W.grownBy W' (some H) := by
  have hsz : (madeCells #[Value.int .i64 0] xs.length).size = xs.length := by simp [madeCells]
  by_cases h0 : xs.length = 0
  · obtain rfl : xs = [] := List.length_eq_zero_iff.1 h0
    refine ⟨W, run_copy_none _ 31 31 _ 3 _ _ _ _ _ _ Tryz.underlying31 info_sz rfl, ⟨rfl, .inr ⟨H, 0, _, rfl, Nat.le_refl _, hb, Nat.le_refl _, hl, by rw [hsz]; rfl, rfl⟩⟩, ⟨rfl, rfl, rfl, Nat.le_refl _, fun _ _ _ => rfl⟩⟩
  · obtain ⟨b, o, rfl, _⟩ := hx 0 (by omega)
    have h1 := run_copy_row (P := Tryz.prog) W 31 31 ty 3 H 0 xs.length xs.length ⟨b, o, none⟩ xs.length c (madeCells #[.int .i64 0] xs.length) 3 (xs.map (Value.int .i64))
      Tryz.underlying31 info_sz hb (by simp) (fun j v hv => by
        have hj : j < xs.length := by
          have := (List.getElem?_eq_some_iff.1 hv).1
          simpa using this
        obtain ⟨b', o', e, hc⟩ := hx j hj
        simp only [Option.some.injEq, Addr.mk.injEq, and_true] at e
        obtain ⟨rfl, rfl⟩ := e
        rw [addr_off, hc, ← hv, List.getElem?_map, List.getElem?_eq_getElem hj]
        rfl) (by rw [List.length_map, hsz]; omega) (fun v hv => by obtain ⟨y, _, rfl⟩ := List.mem_map.1 hv; rfl)
    rw [List.length_map] at h1
    refine ⟨_, h1, ⟨by simp, .inr ⟨H, xs.length, _, rfl, Nat.le_refl _, hb.row _, Nat.le_refl _, hl, ?_, ?_⟩⟩, ⟨rfl, rfl, rfl, by simp [World.setRow], fun k _ hk => setRow_other W H k _ (fun e => hk (by rw [e]))⟩⟩
    · simp [hsz]
    · simp [hsz]
theorem ownsRow_set {w : World} {base n g cap : Nat} {e : TypeId} {ds es : List Value} {s u u' : Value} (h : w.ownsRow base e 2 (.slice (some ⟨g, 0, none⟩) n cap) n (ds ++ s :: u :: es)) : (w.setCell ⟨g, ds.length + 1, none⟩ u').ownsRow base e 2 (.slice (some ⟨g, 0, none⟩) n cap) n (ds ++ s :: u' :: es) ∧ w.cell? ⟨g, ds.length, none⟩ = some s ∧ w.cell? ⟨g, ds.length + 1, none⟩ = some u ∧ w.frozen? ⟨g, ds.length + 1, none⟩ = false ∧ base ≤ g ∧ ∃ cur, Blk w g e cur := by
  obtain ⟨h1, h2⟩ := h
  rcases h2 with ⟨h2, _⟩ | ⟨g', cap', cur, h3, hg, hb, hn, hm, hs, hc⟩
  · cases h2
  · simp only [Value.slice.injEq, Option.some.injEq, Addr.mk.injEq, and_true, true_and] at h3
    obtain ⟨rfl, rfl⟩ := h3
    have hB : Blk w g e cur := hb
    have hl : ds.length + 1 < n * 2 := by rw [← h1]; simp
    have hat : ∀ j, j < n * 2 → cur[j]? = (ds ++ s :: u :: es)[j]? := fun j hj => by rw [← hc, List.getElem?_take, if_pos hj, Array.getElem?_toList]
    refine ⟨⟨by rw [← h1]; simp, .inr ⟨g, cap, cur.setIfInBounds (ds.length + 1) u', rfl, hg, hB.set_ _ u', hn, hm, by simpa using hs, ?_⟩⟩, ?_, ?_, hB.frozen _, hg, cur, hB⟩
    · apply List.ext_getElem?
      intro j
      by_cases hj : j < n * 2
      · rw [List.getElem?_take, if_pos hj, Array.getElem?_toList, Array.getElem?_setIfInBounds]
        by_cases e1 : ds.length + 1 = j
        · subst e1
          rw [if_pos rfl, if_pos (by omega), List.getElem?_append_right (by omega)]
          simp
        · rw [if_neg e1, hat j hj]
          rcases Nat.lt_or_ge j ds.length with h5 | h5
          · rw [List.getElem?_append_left h5, List.getElem?_append_left h5]
          · rw [List.getElem?_append_right h5, List.getElem?_append_right h5]
            match hd : j - ds.length with
            | 0 => rfl
            | 1 => omega
            | k + 2 => rfl
      · have hl2 : (ds ++ s :: u' :: es).length = n * 2 := by rw [← h1]; simp
        rw [List.getElem?_eq_none (by rw [List.length_take]; omega), List.getElem?_eq_none (by omega)]
    · rw [hB.cell, hat _ (by omega), List.getElem?_append_right (Nat.le_refl _), Nat.sub_self]; rfl
    · rw [hB.cell, hat _ hl, List.getElem?_append_right (by omega)]; simp
theorem upd_257 (y : Nat → Value) (a b c d : Value) : upd (upd (upd (upd y 2 a) 7 d) 5 b) 6 c = upd (upd (upd (upd y 2 a) 5 b) 6 c) 7 d := by
  rw [upd_comm (show (7 : Nat) ≠ 5 by decide), upd_comm (show (7 : Nat) ≠ 6 by decide)]
theorem upd_725 (y : Nat → Value) (a b c d : Value) : upd (upd (upd (upd y 7 d) 2 a) 5 b) 6 c = upd (upd (upd (upd y 2 a) 5 b) 6 c) 7 d := by
  rw [upd_comm (show (7 : Nat) ≠ 2 by decide), upd_257]
def useE (m : PM) (k h : Int) : Int := if knownE m k ≠ 0 then knownE m k else if inB h 0 23 = false then 3 else if (m.wv k.toNat).hours.contains h then 5 else 0
def useM (m : PM) (k h : Int) : PM := if useE m k h = 0 then Pow.useP m k.toNat h else ⟨[], []⟩
theorem OwnPM.zero (w : World) (base : Nat) : OwnPM w base (.agg #[.slice none 0 0, .slice none 0 0]) ⟨[], []⟩ := ⟨_, _, rfl, OwnShs.nil, OwnWvs.nil⟩

set_option maxRecDepth 20000 in
set_option maxHeartbeats 2000000 in
theorem Use_any (v : Value) (m : PM) (k h : Int) (r : Int) (m' : PM) (hr : useE m k h = r) (hm' : useM m k h = m') (w : World) (hv : PMVal w v m) :
    Calls Tryz.prog 78 #[v, .int .i64 k, .int .i64 h] w fun e w' => ∃ u, e = .returned (.tuple #[u, .int .i64 r]) ∧ OwnPM w' w.heap.size u m' ∧ Ext w w' := by
  obtain ⟨ti, hi, hz0, hz1, hz2⟩ := info_parts info_int
  have Hv := Lib.hid hv
  obtain ⟨A1, c1, A2, c2, rfl, h2, h3, h4, h5, h6, h7⟩ := hv
  have hE : Ext w ((w.alloc (.cells #[.slice A1 m.shafts.length c1, .slice A2 m.wvs.length c2] 26)).alloc (.cells #[.slice none 0 0, .slice none 0 0] 26)) := (Ext.alloc _ _).trans (Ext.alloc _ _)
  have hM := (Blk.new w 26 #[.slice A1 m.shafts.length c1, .slice A2 m.wvs.length c2]).alloc (.cells #[.slice none 0 0, .slice none 0 0] 26)
  have hR := Blk.new (w.alloc (.cells #[.slice A1 m.shafts.length c1, .slice A2 m.wvs.length c2] 26)) 26 #[.slice none 0 0, .slice none 0 0]
  rw [World.size_alloc] at hR
  obtain ⟨k0, k1⟩ := hM.c2
  have HM := Lib.hid hM; have HR := Lib.hid hR
  obtain ⟨r0, hr0⟩ : ∃ r0, knownE m k = r0 := ⟨_, rfl⟩
  have ho := Lib.hid (known_any _ m k r0 hr0 _ (Hv.out.ext hE))
  have Hr := Lib.hid hr; have Hm' := Lib.hid hm'; have Hr0 := Lib.hid hr0
  have H6 := Lib.hid h6; have H7 := Lib.hid h7
  clear h6 h7 hM hR hr hm' hr0
  go_enter Tryz.func78, Tryz.ntmps78
  go_wp2_with fail
  refine ho.out.mono ?_
  rintro e w1 ⟨pv, rfl, he1, hop⟩
  have hE1 := hE.trans he1
  have hM1 := HM.out.ext he1
  have hR1 := HR.out.ext he1
  obtain ⟨y0, y1⟩ := hR1.c2
  have f0 := hR1.frozen 0
  have f1 := hR1.frozen 1
  clear ho k0 k1 HR HM hop hE he1
  by_cases h0 : r0 = 0
  · subst h0
    obtain ⟨q, hq⟩ : ∃ q, inB h 0 23 = q := ⟨_, rfl⟩
    have hho := Lib.hid (hour_any h q hq w1)
    have Hq := Lib.hid hq
    have hck : checkP m = 0 := by
      have := Hr0.out
      unfold knownE at this
      by_cases hc : checkP m = 0
      · exact hc
      · rw [if_pos hc] at this; exact this
    have hkk : 0 ≤ k ∧ k < m.wvs.length := by
      have := Hr0.out
      unfold knownE at this
      rw [if_neg (by simp [hck])] at this
      by_cases hc : inB k 0 (m.wvs.length - 1) = false
      · rw [if_pos hc] at this; exact absurd this (by decide)
      · have := inB_iff.1 (by simpa using hc); omega
    have Hm := Lib.hid ((checkP_iff m).1 hck)
    have hml := Hm.out.few
    have hms := Hm.out.sz
    obtain ⟨kk, rfl⟩ : ∃ kk : Nat, k = kk := ⟨k.toNat, by omega⟩
    have hkl : kk < m.wvs.length := by omega
    clear hq hck
    go_wp2_with fail
    refine hho.out.mono ?_
    rintro e w2 ⟨rfl, rfl⟩
    cases q with
    | false =>
      obtain rfl : r = 3 := by rw [← Hr.out]; unfold useE; simp [Hr0.out, Hq.out]
      obtain rfl : m' = ⟨[], []⟩ := by rw [← Hm'.out]; unfold useM; rw [Hr.out]; rfl
      go_wp2_with fail
      have hR9 : Blk ((w1.setCell ⟨w.heap.size + 1, 0, none⟩ (.slice none 0 0)).setCell ⟨w.heap.size + 1, 1, none⟩ (.slice none 0 0)) (w.heap.size + 1) 26 #[.slice none 0 0, .slice none 0 0] := by simpa using (hR1.set_ 0 (.slice none 0 0)).set_ 1 (.slice none 0 0)
      obtain ⟨z0, z1⟩ := hR9.c2
      have hE9 := Below.setCell (Below.setCell hE1 (p := ⟨w.heap.size + 1, 0, none⟩) (by show _ ≤ w.heap.size + 1; omega) (.slice none 0 0)) (p := ⟨w.heap.size + 1, 1, none⟩) (by show _ ≤ w.heap.size + 1; omega) (.slice none 0 0)
      refine bodyPost_ret (v := .tuple #[.agg #[.slice none 0 0, .slice none 0 0], .int .i64 3]) ?_ rfl ⟨_, rfl, OwnPM.zero _ _, hE9⟩
      simp [results, Tryz.results78, go_sem, z0, z1]
    | true =>
      obtain ⟨b, o, e2, A3, c3, h3', s1, s2, s3⟩ := H7.out.ext hE1 kk hkl
      have hwv : m.wvs[kk]?.getD default = m.wv kk := rfl
      rw [hwv] at s1 s2 s3 h3'
      subst e2
      obtain ⟨q2, hq2⟩ : ∃ q2, (m.wv kk).hours.contains h = q2 := ⟨_, rfl⟩
      have hct := Lib.hid (contains_any h A3 c3 (m.wv kk).hours.length (m.wv kk).hours rfl q2 hq2 w1 (Nat.le_trans h3'.1 h3'.2) s3)
      have Hq2 := Lib.hid hq2
      obtain ⟨k0, k1⟩ := hM1.c2
      generalize (m.wv kk).hours.length = hln at *
      clear hq2 s1 s3 hho
      go_wp2_with fail
      refine hct.out.mono ?_
      rintro e w2 ⟨rfl, rfl⟩
      cases q2 with
      | true =>
        obtain rfl : r = 5 := by rw [← Hr.out]; unfold useE; rw [if_neg (by simp [Hr0.out]), if_neg (by simp [Hq.out]), if_pos (show (m.wv (kk : Int).toNat).hours.contains h = true from Hq2.out)]
        obtain rfl : m' = ⟨[], []⟩ := by rw [← Hm'.out]; unfold useM; rw [Hr.out]; rfl
        go_wp2_with fail
        have hR9 : Blk ((w1.setCell ⟨w.heap.size + 1, 0, none⟩ (.slice none 0 0)).setCell ⟨w.heap.size + 1, 1, none⟩ (.slice none 0 0)) (w.heap.size + 1) 26 #[.slice none 0 0, .slice none 0 0] := by simpa using (hR1.set_ 0 (.slice none 0 0)).set_ 1 (.slice none 0 0)
        obtain ⟨z0, z1⟩ := hR9.c2
        have hE9 := Below.setCell (Below.setCell hE1 (p := ⟨w.heap.size + 1, 0, none⟩) (by show _ ≤ w.heap.size + 1; omega) (.slice none 0 0)) (p := ⟨w.heap.size + 1, 1, none⟩) (by show _ ≤ w.heap.size + 1; omega) (.slice none 0 0)
        refine bodyPost_ret (v := .tuple #[.agg #[.slice none 0 0, .slice none 0 0], .int .i64 5]) ?_ rfl ⟨_, rfl, OwnPM.zero _ _, hE9⟩
        simp [results, Tryz.results78, go_sem, z0, z1]
      | false =>
        obtain rfl : r = 0 := by rw [← Hr.out]; unfold useE; rw [if_neg (by simp [Hr0.out]), if_neg (by simp [Hq.out]), if_neg (by rw [show (m.wv (kk : Int).toNat).hours.contains h = false from Hq2.out]; simp)]
        obtain rfl : m' = Pow.useP m kk h := by rw [← Hm'.out]; unfold useM; rw [Hr.out]; rfl
        go_upto_region 8 with fail
        have Hcs := Lib.hid (cloneSh A1 c1 m.shafts)
        have Hcw := Lib.hid (cloneWv (some ⟨b, o, none⟩) c2 m.wvs w1)
        have HA1 := Lib.hid (H6.out.ext hE1)
        have HA2 := Lib.hid (H7.out.ext hE1)
        clear s2 hct y0 y1 f0 f1
        refine wp_region_tree 8 [(2, true), (5, true), (7, true)] [] (by kernel_rfl) (by kernel_rfl) (by kernel_rfl) (ds := [0, 1, 3, 4]) (by kernel_rfl) ?_
        simp only [List.take, List.drop, fill, Act.put, List.setIfInBounds_toArray, List.set_cons_zero, List.set_cons_succ, Nat.reduceAdd]
        repeat (first
          | (apply Unlock.float rfl
             · intro x W he hd K Qr hK
               try (have he := he (by decide); have k0 := he.cell k0; have k1 := he.cell k1)
               try simp only [edges, DepsE, List.filter_cons, List.filter_nil, Region.binds, if_true, and_true, true_and, upd, Nat.reduceEqDiff, if_false] at hd
               try simp only [hd] at hK ⊢
               have HK := Lib.hid hK; clear hK
               go_wp2_with fail
               exact HK.out))
        refine Unlock.nil ?_
        intro W he hG
        refine Tree.cut (f' := 0) (rem' := []) (fun y y' W6 => ∃ (a1 : Option Addr) (d1 : Nat) (a2 : Option Addr) (d2 : Nat) (p : Nat) (cs : List Value), y' = upd (upd (upd (upd y 2 (.slice a1 m.shafts.length d1)) 5 (.slice a2 m.wvs.length d2)) 6 (.agg #[.slice a1 m.shafts.length d1, .slice a2 m.wvs.length d2])) 7 (.pointer (some ⟨p, 0, none⟩)) ∧ Ext w1 W6 ∧ OwnShs W6 w1.heap.size (.slice a1 m.shafts.length d1) m.shafts ∧ W6.ownsRow w1.heap.size 82 2 (.slice a2 m.wvs.length d2) m.wvs.length cs ∧ WvF (rdW w1) cs m.wvs ∧ Blk W6 p 26 #[.slice none 0 0, .slice none 0 0] ∧ w1.heap.size ≤ p) ?_ ?_
        · rintro y' W6 ⟨a1, d1, a2, d2, p, cs, rfl, he6, hO1, hO2, hcs, hp, hpl⟩
          clear hG he
          refine Tree.nil (by kernel_rfl) ?_
          simp only [upd, Nat.reduceEqDiff, if_false, if_true]
          have hap : Apart p W6 ((W6.setCell ⟨p, 0, none⟩ (.slice a1 m.shafts.length d1)).setCell ⟨p, 1, none⟩ (.slice a2 m.wvs.length d2)) := ((Apart.refl p W6).set_ 0 _).set_ 1 _
          have hp7 : Blk ((W6.setCell ⟨p, 0, none⟩ (.slice a1 m.shafts.length d1)).setCell ⟨p, 1, none⟩ (.slice a2 m.wvs.length d2)) p 26 #[.slice a1 m.shafts.length d1, .slice a2 m.wvs.length d2] := by simpa using (hp.set_ 0 (.slice a1 m.shafts.length d1)).set_ 1 (.slice a2 m.wvs.length d2)
          have hO17 : OwnShs _ _ _ _ := ownsRow_apart hO1 (fun e => ownsRow_ne_blk hO1 hp (by decide) e.symm) hap
          have hO27 := ownsRow_apart hO2 (fun e => ownsRow_ne_blk hO2 hp (by decide) e.symm) hap
          have he7 := hap.ext_of he6 hpl
          obtain ⟨p0, p1⟩ := hp.c2
          have pf0 := hp.frozen 0
          have pf1 := hp.frozen 1
          obtain ⟨-, p9⟩ := hp7.c2
          have HO17 := Lib.hid hO17; have HO27 := Lib.hid hO27; have Hcs0 := Lib.hid hcs
          clear hO1 hO2 hO17 hO27 hcs hap he6 k0 k1 Hcs Hcw HA1 HA2
          go_wp2_with fail
          clear p0 p1 p9 pf0 pf1
          generalize (W6.setCell _ _).setCell _ _ = W7 at *
          have hus : Hid (∀ i, i < m.wvs.length → (Pow.useP m kk h).wvs[i]?.getD default = if i = kk then { shaft := (m.wv i).shaft, hours := Pow.sortL ((m.wv i).hours ++ [h]) } else m.wv i) := fun i hi => Pow.useP_wv m kk h hi
          have hul : (Pow.useP m kk h).wvs.length = m.wvs.length := Pow.useP_len m kk h
          have hush : (Pow.useP m kk h).shafts = m.shafts := rfl
          obtain ⟨mu, hmue⟩ : ∃ mu, Pow.useP m kk h = mu := ⟨_, rfl⟩
          rw [hmue] at hul hush hus
          have Hush := Lib.hid hush; have Hul := Lib.hid hul; have Hmue := Lib.hid hmue
          clear hul hush hmue
          go_loopw [50] (fun iv wr => ∃ i : Nat, i ≤ m.wvs.length ∧ iv = .int .i64 (i : Int) ∧ Ext w1 wr ∧ Blk wr p 26 #[.slice a1 m.shafts.length d1, .slice a2 m.wvs.length d2] ∧ Hid (OwnShs wr w1.heap.size (.slice a1 m.shafts.length d1) m.shafts) ∧
            ∃ ds es, Hid (wr.ownsRow w1.heap.size 82 2 (.slice a2 m.wvs.length d2) m.wvs.length (ds ++ es)) ∧ Hid (WvF (ownW wr w1.heap.size) ds (mu.wvs.take i)) ∧ Hid (WvF (rdW w1) es (m.wvs.drop i))) (fun iv _ => m.wvs.length - (intOf iv).toNat)
          case atStart => exact ⟨0, Nat.zero_le _, rfl, he7, hp7, HO17, [], _, HO27, trivial, Hcs0⟩
          case round =>
            clear hp7 he7 HO17 HO27 Hcs0
            obtain ⟨i, hi', rfl, he, hpB, hOs, ds, es, hrow, hds, hes⟩ := hrel
            by_cases hlt : i < m.wvs.length
            · have hmu := hus.out i hlt
              have hes1 := hes.out
              rw [List.drop_eq_getElem_cons hlt, show m.wvs[i] = m.wv i by unfold PM.wv; rw [List.getElem?_eq_getElem hlt]; rfl] at hes1
              obtain ⟨u, es', rfl, hu, hes2⟩ := hes1.get
              have hdl : ds.length = i * 2 := by
                rw [WvF.length hds.out, List.length_take, Hul.out]; congr 1; omega
              obtain ⟨g, rfl⟩ : ∃ g, a2 = some ⟨g, 0, none⟩ := by
                rcases hrow.out.2 with ⟨e, h9⟩ | ⟨g, cap, cur, e, _⟩
                · omega
                · simp only [Value.slice.injEq] at e
                  exact ⟨g, e.1⟩
              obtain ⟨-, q1, q2, q3, hgl, cur, hgB⟩ := ownsRow_set (u' := u) hrow.out
              rw [hdl] at q1 q2 q3
              obtain ⟨Au, cu, rfl, u1, u2, u3⟩ := id hu
              have hrise := Hm.out.rise i hlt
              have h24 := hours_len hrise (Hm.out.hour i hlt)
              obtain ⟨wvi, hwvi⟩ : ∃ x, m.wv i = x := ⟨_, rfl⟩
              rw [hwvi] at q1 q2 u1 u3 h24 hmu hu
              have Hmu := Lib.hid hmu
              have Hwvi := Lib.hid hwvi
              obtain ⟨sh, hshe⟩ : ∃ sh, wvi.shaft = sh := ⟨_, rfl⟩
              obtain ⟨hrs, hhrs⟩ : ∃ hrs, wvi.hours = hrs := ⟨_, rfl⟩
              rw [hshe] at q1
              rw [hhrs] at q2 u1 u3 h24
              have Hsh := Lib.hid hshe; have Hhrs := Lib.hid hhrs; have Hdl := Lib.hid hdl; have Hes2 := Lib.hid hes2
              have hX : Ext wr ((wr.alloc (.cells #[.int .i64 sh, .slice Au hrs.length cu] 82)).alloc (.cells (madeCells #[.int .i64 0] hrs.length) 3)) := (Ext.alloc _ _).trans (Ext.alloc _ _)
              have hK := (Blk.new wr 82 #[.int .i64 sh, .slice Au hrs.length cu]).alloc (.cells (madeCells #[.int .i64 0] hrs.length) 3)
              have hK0 := Blk.new wr 82 #[.int .i64 sh, .slice Au hrs.length cu]
              have hH := Blk.new (wr.alloc (.cells #[.int .i64 sh, .slice Au hrs.length cu] 82)) 3 (madeCells #[.int .i64 0] hrs.length)
              rw [World.size_alloc] at hH
              have hl24 : hrs.length ≤ maxLen := by unfold maxLen; omega
              obtain ⟨W', hcp, hO, hgr⟩ := copyI _ (wr.heap.size + 1) Au cu hrs hH (u3.ext (he.trans hX)) hl24 3
              have hmk : ∀ W : World, (Instr.makeSlice 31 (.int .i64 (hrs.length : Int)) (.int .i64 (hrs.length : Int))).run Tryz.prog W = .ok (.slice (some ⟨W.heap.size, 0, none⟩) hrs.length hrs.length) (W.alloc (.cells (madeCells #[.int .i64 0] hrs.length) 3)) := by
                intro W
                have := run_make (P := Tryz.prog) W 31 3 ti _ Tryz.underlying31 hi hz0 .i64 .i64 hrs.length hrs.length (by omega) (by omega) (by rw [hz2]; omega) (by omega)
                simpa [hz1, Value.cells] using this
              have hXW : Ext wr W' := Below.grown hX hgr (by rw [World.size_alloc, World.size_alloc]; omega) (fun j e => by cases e; omega)
              have hlen2 : (m.wvs.length : Int) ≤ 6 := by omega
              obtain ⟨-, j1⟩ := hK0.c2
              obtain ⟨-, j2⟩ := hK.c2
              obtain ⟨-, p1⟩ := (hpB.ext hXW).c2
              have hgB' := hgB.ext hXW
              have q3' := hgB'.frozen (i * 2 + 1)
              have q2' := hXW.cell q2
              have hrs9 : hrs.length ≤ 24 := h24
              have hpg : p ≠ g := hpB.ne_ hgB (by decide)
              have Hfin : Hid (∀ W9 u9 (xs : List Int), Ext wr W9 → OwnI W9 (wr.heap.size + 1) 3 u9 xs → mu.wvs[i]?.getD default = ({ shaft := sh, hours := xs } : Wv) →
                  Ext w1 (W9.setCell ⟨g, i * 2 + 1, none⟩ u9) ∧ Blk (W9.setCell ⟨g, i * 2 + 1, none⟩ u9) p 26 #[.slice a1 m.shafts.length d1, .slice (some ⟨g, 0, none⟩) m.wvs.length d2] ∧ Hid (OwnShs (W9.setCell ⟨g, i * 2 + 1, none⟩ u9) w1.heap.size (.slice a1 m.shafts.length d1) m.shafts) ∧
                    ∃ ds es, Hid ((W9.setCell ⟨g, i * 2 + 1, none⟩ u9).ownsRow w1.heap.size 82 2 (.slice (some ⟨g, 0, none⟩) m.wvs.length d2) m.wvs.length (ds ++ es)) ∧ Hid (WvF (ownW (W9.setCell ⟨g, i * 2 + 1, none⟩ u9) w1.heap.size) ds (mu.wvs.take (i + 1))) ∧ Hid (WvF (rdW w1) es (m.wvs.drop (i + 1)))) := by
                intro W9 u9 xs hE9 hO9 hm9
                have row9 := ownsRow_ext2 hrow.out hE9
                obtain ⟨t1, -, -, -, -, cur9, hg9⟩ := ownsRow_set (u' := u9) row9
                rw [Hdl.out] at t1
                have hwr1 := he.size
                have hos9 := OwnShs.ext hOs.out hE9
                have hil : i < mu.wvs.length := by rw [Hul.out]; exact hlt
                have htk : mu.wvs.take (i + 1) = mu.wvs.take i ++ [({ shaft := sh, hours := xs } : Wv)] := by
                  rw [List.take_add_one, List.getElem?_eq_getElem hil]
                  rw [List.getElem?_eq_getElem hil] at hm9
                  simp only [Option.getD_some] at hm9
                  rw [hm9]; rfl
                refine ⟨Below.setCell (he.trans hE9) (by show _ ≤ g; omega) _, (hpB.ext hE9).far (by show p ≠ g; exact hpg) _, Lib.hid (ownsRow_apart hos9 (fun e => ownsRow_ne_blk hos9 hg9 (by decide) e.symm) ((Apart.refl g W9).set_ _ u9)), ds ++ [.int .i64 sh, u9], es', Lib.hid ?_, Lib.hid ?_, Hes2⟩
                · rw [List.append_assoc]
                  rw [← Hsh.out, ← Hwvi.out]
                  exact t1
                · rw [htk]
                  refine WvF.append (hds.out.map fun u x gg => OwnI.far (OwnI.ext gg hE9) hg9 (by decide) _ _) ⟨rfl, ?_, trivial⟩
                  exact OwnI.far (OwnI.mono hO9 (by omega)) hg9 (by decide) _ _
              clear hes1 hu u1 u2 u3 hes2 hdl hmu hshe hhrs hwvi hrise hes hK hK0 hH
              by_cases hik : i = kk
              · subst hik
                rw [if_pos rfl, Hsh.out, Hhrs.out] at Hmu
                have hXa := Ext.alloc W' (.cells #[.int .i64 h] 3)
                have hsrc := Src.one W' (.int .i64 h) 3
                have hOX := hO.ext hXa
                have hszW := hXW.size
                have hszH := hgr.size
                have hszXa := hXa.size
                rw [World.size_alloc, World.size_alloc] at hszH
                have HP := Lib.hid hpB; have HG := Lib.hid hgB
                have Hw : Hid (∀ v' w', w'.ownsRow (wr.heap.size + 1) 3 1 v' (hrs.length + 1) (hrs.map (Value.int .i64) ++ [.int .i64 h]) → (W'.alloc (.cells #[.int .i64 h] 3)).grownBy w' (Value.slice (some ⟨wr.heap.size + 1, 0, none⟩) hrs.length hrs.length).ownBlock → OwnI w' (wr.heap.size + 1) 3 v' (hrs ++ [h]) ∧ Ext wr w') := by
                  intro v' w' hown hg
                  exact ⟨by unfold OwnI; rw [List.length_append, List.map_append]; exact hown, ext_grown hXW hg fun j e => by cases e; show _ ≤ wr.heap.size + 1; omega⟩
                clear hO p1 q2' q3' hgB' hgB hpB
                go_wp2_with (at_builtin; refine wpList_app rfl _ _ 31 rfl (wr.heap.size + 1) 3 ti (.int .i64 0) 1 8 Tryz.underlying31 hi hz0 hz1 hz2 rfl (by decide) (.slice (some ⟨wr.heap.size + 1, 0, none⟩) hrs.length hrs.length) hrs.length _ rfl hOX (some ⟨W'.heap.size, 0, none⟩) 1 1 [.int .i64 h] rfl rfl hsrc ?c2 ?c3 ?c4 ?c5 ?_; (case c2 => (intro u hu; rw [List.mem_singleton] at hu; subst hu; rfl)); (case c3 => (unfold maxLen; omega)); (case c4 => omega); (case c5 => omega); intro v' w5 hown hg hblk; have HO := Lib.hid (Hw.out v' w5 hown hg); clear hown hg hblk)
                have hsort := Lib.hid (sortI _ v' (hrs ++ [h]) w5 HO.out.1 (by simp; omega))
                refine hsort.out.mono ?_
                rintro e w6 ⟨rfl, hO6, hg6⟩
                have hX6 : Ext wr w6 := Below.grown HO.out.2 hg6 HO.out.2.size (fun j e => by have := (HO.out.1.own_lt j e).1; omega)
                obtain ⟨A9, c9, rfl⟩ := ownsRow_slice hO6
                have hrel9 := Hfin.out w6 _ _ hX6 hO6 (by rw [Hmu.out]; rfl)
                have HR9 := Lib.hid hrel9
                obtain ⟨-, p1⟩ := (HP.out.ext hX6).c2
                have hg9 := HG.out.ext hX6
                have q3' := hg9.frozen (i * 2 + 1)
                have q2' := hX6.cell q2
                generalize ((hrs ++ [h]).mergeSort fun x y => decide (x ≤ y)).length = ln at *
                clear hrel9 hO6 hg6 hsort hOX hsrc hg9 Hfin hXa q2
                go_wp2_with fail
                go_roundw
                case rel => exact ⟨i + 1, by omega, by go_num, HR9.out⟩
                case measure => simp [intOf]; omega
              · have hbe : ((i : Int) == (kk : Int)) = false := by simp; omega
                rw [if_neg hik] at Hmu
                have hrel9 := Hfin.out W' _ hrs hXW hO (by rw [Hmu.out]; cases wvi; simp only [Wv.mk.injEq]; exact ⟨Hsh.out, Hhrs.out⟩)
                have HR9 := Lib.hid hrel9
                clear hrel9 hO hgB' hgB hpB Hfin hik
                go_wp2_with fail
                go_roundw
                case rel => exact ⟨i + 1, by omega, by go_num, HR9.out⟩
                case measure => simp [intOf]; omega
            · obtain rfl : i = m.wvs.length := by omega
              obtain ⟨p0, p1⟩ := hpB.c2
              have hR2 := hR1.ext he
              obtain ⟨z0, z1⟩ := hR2.c2
              have zf0 := hR2.frozen 0
              have zf1 := hR2.frozen 1
              have hszR := hR1.lt
              have hszw := hE1.size
              have hds0 : WvF (ownW wr w1.heap.size) ds mu.wvs := by
                have := hds.out
                rwa [List.take_of_length_le (by rw [Hul.out]; omega)] at this
              have hes0 : es = [] := by
                have := hes.out
                rw [List.drop_eq_nil_of_le (Nat.le_refl _)] at this
                have := WvF.length this
                exact List.length_eq_zero_iff.1 (by simpa using this)
              subst hes0
              have hrow0 := hrow.out
              rw [List.append_nil] at hrow0
              have hap : Apart (w.heap.size + 1) wr ((wr.setCell ⟨w.heap.size + 1, 0, none⟩ (.slice a1 m.shafts.length d1)).setCell ⟨w.heap.size + 1, 1, none⟩ (.slice a2 m.wvs.length d2)) := ((Apart.refl _ wr).set_ 0 _).set_ 1 _
              have hR9 : Blk ((wr.setCell ⟨w.heap.size + 1, 0, none⟩ (.slice a1 m.shafts.length d1)).setCell ⟨w.heap.size + 1, 1, none⟩ (.slice a2 m.wvs.length d2)) (w.heap.size + 1) 26 #[.slice a1 m.shafts.length d1, .slice a2 m.wvs.length d2] := by simpa using (hR2.set_ 0 (.slice a1 m.shafts.length d1)).set_ 1 (.slice a2 m.wvs.length d2)
              have g1 : OwnShs _ w1.heap.size _ _ := ownsRow_apart hOs.out (fun e => ownsRow_ne_blk hOs.out hR2 (by decide) e.symm) hap
              have g2 := ownsRow_apart hrow0 (fun e => ownsRow_ne_blk hrow0 hR2 (by decide) e.symm) hap
              have g3 := hds0.map fun u x (g : OwnI wr w1.heap.size 3 u x.hours) => OwnI.apart g (fun e => g.ne_blk hR2 (by decide) e.symm) hap
              have hE9 := hap.ext_of (hE1.trans he) (by omega)
              have Hown : Hid (OwnPM _ w.heap.size (.agg #[.slice a1 m.shafts.length d1, .slice a2 m.wvs.length d2]) mu) := ⟨_, _, rfl, (by rw [Hush.out]; exact g1.mono hszw), ds, by rw [Hul.out]; exact ownsRow_mono g2 hszw, g3.map fun _ _ g => OwnI.mono g hszw⟩
              have HR9 := Lib.hid hR9; have HE9 := Lib.hid hE9
              clear g1 g2 g3 hap hR9 hE9 hrow0 hds0 hrow hds hes hOs
              go_wp2_with fail
              obtain ⟨t0, t1⟩ := HR9.out.c2
              refine bodyPost_ret (v := .tuple #[.agg #[.slice a1 m.shafts.length d1, .slice a2 m.wvs.length d2], .int .i64 0]) ?_ rfl ⟨_, rfl, by rw [Hmue.out]; exact Hown.out, HE9.out⟩
              simp [results, Tryz.results78, go_sem, t0, t1]
        · intro hcut
          have Hcut := Lib.hid hcut
          clear hcut hG
          refine Tree.next (ks := [(2, true), (7, true)]) (by kernel_rfl) ?_
          refine TSteps.cons _ rfl ?_ (TSteps.cons _ rfl ?_ trivial)
          · intro x hd K Qr hK
            try simp only [edges, DepsE, List.filter_cons, List.filter_nil, Region.binds, if_true, and_true, true_and, upd, Nat.reduceEqDiff, if_false] at hd
            try simp only [hd] at hK ⊢
            clear hd
            have HK := Lib.hid hK; clear hK
            go_wp2_with fail
            refine (Hcs.out W (by omega) (HA1.out.ext he)).mono ?_
            rintro e W5 ⟨v1, rfl, hO1, he5⟩
            obtain ⟨a1, d1, rfl⟩ := ownsRow_slice hO1
            have heA := he.trans he5
            have hszA := he.size
            go_wp2_with fail
            refine HK.out _ _ (fun _ => heA) ?_
            refine Unlock.of (ds := []) (by kernel_rfl) ?_
            repeat (first
              | (apply Unlock.float rfl
                 · intro x W he hd K Qr hK
                   try (have he := he (by decide))
                   try simp only [edges, DepsE, List.filter_cons, List.filter_nil, Region.binds, if_true, and_true, true_and, upd, Nat.reduceEqDiff, if_false] at hd
                   try simp only [hd] at hK ⊢
                   have HK := Lib.hid hK; clear hK
                   go_wp2_with fail
                   exact HK.out))
            refine Unlock.nil ?_
            clear HK
            refine Tree.next (ks := [(5, true), (7, true)]) (by kernel_rfl) ?_
            refine TSteps.cons _ rfl ?_ (TSteps.cons _ rfl ?_ trivial)
            · intro x hd K Qr hK
              try simp only [edges, DepsE, List.filter_cons, List.filter_nil, Region.binds, if_true, and_true, true_and, upd, Nat.reduceEqDiff, if_false] at hd
              try simp only [hd] at hK ⊢
              clear hd
              have HK := Lib.hid hK; clear hK
              go_wp2_with fail
              refine (Hcw.out W5 (by omega) HA2.out heA).mono ?_
              rintro e W6 ⟨v2, rfl, ⟨cs, hO2, hcs⟩, he6⟩
              obtain ⟨a2, d2, rfl⟩ := ownsRow_slice hO2
              have heB := heA.trans he6
              have hszB := heA.size
              go_wp2_with fail
              refine HK.out _ _ (fun _ => heB) ?_
              refine Unlock.of (ds := [6]) (by kernel_rfl) ?_
              repeat (first
                | (apply Unlock.float rfl
                   · intro x W he hd K Qr hK
                     try (have he := he (by decide))
                     try simp only [edges, DepsE, List.filter_cons, List.filter_nil, Region.binds, if_true, and_true, true_and, upd, Nat.reduceEqDiff, if_false] at hd
                     try simp only [hd] at hK ⊢
                     have HK := Lib.hid hK; clear hK
                     go_wp2_with fail
                     exact HK.out))
              refine Unlock.nil ?_
              clear HK
              refine Tree.next (ks := [(7, true)]) (by kernel_rfl) ?_
              refine TSteps.cons _ rfl ?_ trivial
              intro x hd K Qr hK
              try simp only [edges, DepsE, List.filter_cons, List.filter_nil, Region.binds, if_true, and_true, true_and, upd, Nat.reduceEqDiff, if_false] at hd
              try simp only [hd] at hK ⊢
              clear hd
              have HK := Lib.hid hK; clear hK
              go_wp2_with fail
              have hX := Ext.alloc W6 (.cells #[.slice none 0 0, .slice none 0 0] 26)
              have hszX := heB.size
              refine HK.out _ _ (fun _ => heB.trans hX) ?_
              refine Unlock.of (ds := []) (by kernel_rfl) ?_
              repeat (first
                | (apply Unlock.float rfl
                   · intro x W he hd K Qr hK
                     try (have he := he (by decide))
                     try simp only [edges, DepsE, List.filter_cons, List.filter_nil, Region.binds, if_true, and_true, true_and, upd, Nat.reduceEqDiff, if_false] at hd
                     try simp only [hd] at hK ⊢
                     have HK := Lib.hid hK; clear hK
                     go_wp2_with fail
                     exact HK.out))
              refine Unlock.nil ?_
              exact Tree.eq (by kernel_rfl) (Hcut.out _ _ ⟨a1, d1, a2, d2, _, cs, rfl, heB.trans hX, ((hO1.ext he6).ext hX).mono (by omega), ownsRow_ext2 (ownsRow_mono hO2 (by omega)) hX, hcs, Blk.new _ _ _, hszX⟩)
            · intro x hd K Qr hK
              try simp only [edges, DepsE, List.filter_cons, List.filter_nil, Region.binds, if_true, and_true, true_and, upd, Nat.reduceEqDiff, if_false] at hd
              try simp only [hd] at hK ⊢
              clear hd
              have HK := Lib.hid hK; clear hK
              go_wp2_with fail
              have hX := Ext.alloc W5 (.cells #[.slice none 0 0, .slice none 0 0] 26)
              have hp := Blk.new W5 26 #[.slice none 0 0, .slice none 0 0]
              have hszX := heA.size
              refine HK.out _ _ (fun _ => heA.trans hX) ?_
              refine Unlock.of (ds := []) (by kernel_rfl) ?_
              repeat (first
                | (apply Unlock.float rfl
                   · intro x W he hd K Qr hK
                     try (have he := he (by decide))
                     try simp only [edges, DepsE, List.filter_cons, List.filter_nil, Region.binds, if_true, and_true, true_and, upd, Nat.reduceEqDiff, if_false] at hd
                     try simp only [hd] at hK ⊢
                     have HK := Lib.hid hK; clear hK
                     go_wp2_with fail
                     exact HK.out))
              refine Unlock.nil ?_
              clear HK
              obtain ⟨pp, hpp⟩ : ∃ pp, W5.heap.size = pp := ⟨_, rfl⟩
              rw [hpp] at hp hszX ⊢
              have heX := heA.trans hX
              have hO1X := OwnShs.ext hO1 hX
              generalize W5.alloc _ = W7 at *
              clear hX hpp
              refine Tree.next (ks := [(5, true)]) (by kernel_rfl) ?_
              refine TSteps.cons _ rfl ?_ trivial
              intro x hd K Qr hK
              try simp only [edges, DepsE, List.filter_cons, List.filter_nil, Region.binds, if_true, and_true, true_and, upd, Nat.reduceEqDiff, if_false] at hd
              try simp only [hd] at hK ⊢
              clear hd
              have HK := Lib.hid hK; clear hK
              go_wp2_with fail
              refine (Hcw.out W7 (by omega) HA2.out heX).mono ?_
              rintro e W6 ⟨v2, rfl, ⟨cs, hO2, hcs⟩, he6⟩
              obtain ⟨a2, d2, rfl⟩ := ownsRow_slice hO2
              have heB := heX.trans he6
              have hszB := heX.size
              go_wp2_with fail
              refine HK.out _ _ (fun _ => heB) ?_
              refine Unlock.of (ds := [6]) (by kernel_rfl) ?_
              repeat (first
                | (apply Unlock.float rfl
                   · intro x W he hd K Qr hK
                     try (have he := he (by decide))
                     try simp only [edges, DepsE, List.filter_cons, List.filter_nil, Region.binds, if_true, and_true, true_and, upd, Nat.reduceEqDiff, if_false] at hd
                     try simp only [hd] at hK ⊢
                     have HK := Lib.hid hK; clear hK
                     go_wp2_with fail
                     exact HK.out))
              refine Unlock.nil ?_
              exact Tree.eq (by kernel_rfl) (Hcut.out _ _ ⟨a1, d1, a2, d2, pp, cs, upd_257 _ _ _ _ _, heB, (OwnShs.ext hO1X he6).mono (by omega), ownsRow_mono hO2 (by omega), hcs, hp.ext he6, hszX⟩)
          · intro x hd K Qr hK
            try simp only [edges, DepsE, List.filter_cons, List.filter_nil, Region.binds, if_true, and_true, true_and, upd, Nat.reduceEqDiff, if_false] at hd
            try simp only [hd] at hK ⊢
            clear hd
            have HK := Lib.hid hK; clear hK
            go_wp2_with fail
            have hX := Ext.alloc W (.cells #[.slice none 0 0, .slice none 0 0] 26)
            have hp := Blk.new W 26 #[.slice none 0 0, .slice none 0 0]
            have hszX := he.size
            have heX := he.trans hX
            refine HK.out _ _ (fun _ => heX) ?_
            refine Unlock.of (ds := []) (by kernel_rfl) ?_
            repeat (first
              | (apply Unlock.float rfl
                 · intro x W he hd K Qr hK
                   try (have he := he (by decide))
                   try simp only [edges, DepsE, List.filter_cons, List.filter_nil, Region.binds, if_true, and_true, true_and, upd, Nat.reduceEqDiff, if_false] at hd
                   try simp only [hd] at hK ⊢
                   have HK := Lib.hid hK; clear hK
                   go_wp2_with fail
                   exact HK.out))
            refine Unlock.nil ?_
            clear HK
            obtain ⟨pp, hpp⟩ : ∃ pp, W.heap.size = pp := ⟨_, rfl⟩
            rw [hpp] at hp hszX ⊢
            generalize W.alloc _ = W7 at *
            clear hX hpp he
            refine Tree.next (ks := [(2, true)]) (by kernel_rfl) ?_
            refine TSteps.cons _ rfl ?_ trivial
            intro x hd K Qr hK
            try simp only [edges, DepsE, List.filter_cons, List.filter_nil, Region.binds, if_true, and_true, true_and, upd, Nat.reduceEqDiff, if_false] at hd
            try simp only [hd] at hK ⊢
            clear hd
            have HK := Lib.hid hK; clear hK
            go_wp2_with fail
            refine (Hcs.out W7 (by omega) (HA1.out.ext heX)).mono ?_
            rintro e W5 ⟨v1, rfl, hO1, he5⟩
            obtain ⟨a1, d1, rfl⟩ := ownsRow_slice hO1
            have heA := heX.trans he5
            have hszA := heX.size
            go_wp2_with fail
            refine HK.out _ _ (fun _ => heA) ?_
            refine Unlock.of (ds := []) (by kernel_rfl) ?_
            repeat (first
              | (apply Unlock.float rfl
                 · intro x W he hd K Qr hK
                   try (have he := he (by decide))
                   try simp only [edges, DepsE, List.filter_cons, List.filter_nil, Region.binds, if_true, and_true, true_and, upd, Nat.reduceEqDiff, if_false] at hd
                   try simp only [hd] at hK ⊢
                   have HK := Lib.hid hK; clear hK
                   go_wp2_with fail
                   exact HK.out))
            refine Unlock.nil ?_
            clear HK
            refine Tree.next (ks := [(5, true)]) (by kernel_rfl) ?_
            refine TSteps.cons _ rfl ?_ trivial
            intro x hd K Qr hK
            try simp only [edges, DepsE, List.filter_cons, List.filter_nil, Region.binds, if_true, and_true, true_and, upd, Nat.reduceEqDiff, if_false] at hd
            try simp only [hd] at hK ⊢
            clear hd
            have HK := Lib.hid hK; clear hK
            go_wp2_with fail
            refine (Hcw.out W5 (by omega) HA2.out heA).mono ?_
            rintro e W6 ⟨v2, rfl, ⟨cs, hO2, hcs⟩, he6⟩
            obtain ⟨a2, d2, rfl⟩ := ownsRow_slice hO2
            have heB := heA.trans he6
            have hszB := heA.size
            go_wp2_with fail
            refine HK.out _ _ (fun _ => heB) ?_
            refine Unlock.of (ds := [6]) (by kernel_rfl) ?_
            repeat (first
              | (apply Unlock.float rfl
                 · intro x W he hd K Qr hK
                   try (have he := he (by decide))
                   try simp only [edges, DepsE, List.filter_cons, List.filter_nil, Region.binds, if_true, and_true, true_and, upd, Nat.reduceEqDiff, if_false] at hd
                   try simp only [hd] at hK ⊢
                   have HK := Lib.hid hK; clear hK
                   go_wp2_with fail
                   exact HK.out))
            refine Unlock.nil ?_
            exact Tree.eq (by kernel_rfl) (Hcut.out _ _ ⟨a1, d1, a2, d2, pp, cs, upd_725 _ _ _ _ _, heB, (OwnShs.ext hO1 he6).mono (by omega), ownsRow_mono hO2 (by omega), hcs, (hp.ext he5).ext he6, hszX⟩)
  · obtain rfl : r = r0 := by rw [← Hr.out]; unfold useE; rw [if_pos (by rw [Hr0.out]; exact h0), Hr0.out]
    obtain rfl : m' = ⟨[], []⟩ := by rw [← Hm'.out]; unfold useM; rw [Hr.out, if_neg h0]
    have hd : (r != 0) = true := by simpa using h0
    go_wp2_with fail
    have hR9 : Blk ((w1.setCell ⟨w.heap.size + 1, 0, none⟩ (.slice none 0 0)).setCell ⟨w.heap.size + 1, 1, none⟩ (.slice none 0 0)) (w.heap.size + 1) 26 #[.slice none 0 0, .slice none 0 0] := by simpa using (hR1.set_ 0 (.slice none 0 0)).set_ 1 (.slice none 0 0)
    obtain ⟨z0, z1⟩ := hR9.c2
    have hE9 := Below.setCell (Below.setCell hE1 (p := ⟨w.heap.size + 1, 0, none⟩) (by show _ ≤ w.heap.size + 1; omega) (.slice none 0 0)) (p := ⟨w.heap.size + 1, 1, none⟩) (by show _ ≤ w.heap.size + 1; omega) (.slice none 0 0)
    refine bodyPost_ret (v := .tuple #[.agg #[.slice none 0 0, .slice none 0 0], .int .i64 r]) ?_ rfl ⟨_, rfl, OwnPM.zero _ _, hE9⟩
    simp [results, Tryz.results78, go_sem, z0, z1]
end Go.Proofs.Pet
