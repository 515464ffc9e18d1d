/- Joined texts: TDF, Sr. -/
import Derived.Test.YtnapmppdjlnbdaaJ11
import Derived.Test.YtnapmppdjlnbdaaTCS
import Derived.Test.YtnapmppdjlnbdaaB0
import Derived.Test.YtnapmppdjlnbdaaJ04
namespace Go.Proofs.Clk
set_option linter.unusedSimpArgs false
theorem lt_getD_mem {l : List Int} {P : Int → Prop} (h : ∀ x, x ∈ l → P x) {k : Nat} (hk : k < l.length) : P (l[k]?.getD 0) := by
  rw [List.getElem?_eq_getElem hk]; exact h _ (List.getElem_mem hk)
/-- one gap more, which is true -/
theorem MadeC.gap {a : Att} {S G T : List Int} (h : MadeC a S G T) {f t : Nat} (hf : (f : Int) < a.events) (ht : (t : Int) < a.events) :
    Fits (a.more ⟨f, t, max (-240) (T[t]?.getD 0 - T[f]?.getD 0 - 2), min 240 (T[t]?.getD 0 - T[f]?.getD 0 + 2)⟩) (fun c => S[c]?.getD 0) (fun c => G[c]?.getD 0) (fun e => T[e]?.getD 0) := by
  have h0 := h.fits
  have ht1 := h.tl
  have h1 := lt_getD_mem h.ts (k := t) (by omega)
  have h2 := lt_getD_mem h.ts (k := f) (by omega)
  have hm := h.mins
  refine ⟨h0.clk, h0.tim, h0.rds, fun g hg => ?_⟩
  rcases List.mem_append.1 (show g ∈ a.gaps ++ [_] from hg) with h' | h'
  · exact h0.gps g h'
  · rw [List.mem_singleton] at h'
    subst h'
    show max (-240) (T[t]?.getD 0 - T[f]?.getD 0 - 2) ≤ T[((t : Int)).toNat]?.getD 0 - T[((f : Int)).toNat]?.getD 0 ∧ T[((t : Int)).toNat]?.getD 0 - T[((f : Int)).toNat]?.getD 0 ≤ min 240 (T[t]?.getD 0 - T[f]?.getD 0 + 2)
    rw [Int.toNat_natCast, Int.toNat_natCast]
    omega
end Go.Proofs.Clk
namespace Go.Proofs.Pet
set_option linter.unusedSimpArgs false
open Go Go.RowKit Go.Maps Go.Shelf
open Go.Proofs.Pow (PM Sh Wv POk Up spanL addW aloneW addsW)
open Go.Proofs.Clk (Cl Rd Gp Att MadeC Fits foundL loF hiF)

theorem AttVal.slices {w : World} {p q v1 v2 v3 : Value} {x : Att} (h : AttVal w (.agg #[p, q, v1, v2, v3]) x) : (∃ y z, v1 = .slice y x.clocks.length z) ∧ (∃ y z, v2 = .slice y x.reads.length z) ∧ (∃ y z, v3 = .slice y x.gaps.length z) := by
  obtain ⟨A1, c1, A2, c2, A3, c3, e, _⟩ := h
  simp only [Value.agg.injEq, Array.mk.injEq, List.cons.injEq, and_true] at e
  obtain ⟨-, -, e1, e2, e3⟩ := e
  exact ⟨⟨_, _, e1⟩, ⟨_, _, e2⟩, ⟨_, _, e3⟩⟩
theorem push2 {w8 W w' : World} {A : Nat} {cs : Array Value} {lv hv u : Value} {L H : List Int} {p q : Int} (hL : OwnI W w8.heap.size 3 lv L) (hH : OwnI W w8.heap.size 3 hv H) (hn : NoCom lv hv) (hA : Blk W A 27 cs) (hap : Apart A w8 W)
    (hown : w'.ownsRow w8.heap.size 3 1 u (L.length + 2) (L.map (Value.int .i64) ++ [.int .i64 p, .int .i64 q])) (hg : W.grownBy w' lv.ownBlock) (hblk : u.ownBlock = lv.ownBlock ∨ u.ownBlock = some W.heap.size) :
    OwnI w' w8.heap.size 3 u (L ++ [p, q]) ∧ OwnI w' w8.heap.size 3 hv H ∧ NoCom u hv ∧ Blk w' A 27 cs ∧ Apart A w8 w' :=
  ⟨by unfold OwnI; rw [List.length_append, List.map_append]; exact hown, hH.grownI hg hL hn.symm, (NoCom.grown hn.symm hH hblk).symm, hA.grown hg (ownsRow_ne_blk hL hA (by decide)), hap.grownC hg fun j hj => (ownsRow_own hL j hj).1⟩
theorem src2 (w : World) (p q : Value) (t : TypeId) : Src (w.alloc (.cells #[p, q] t)) (some ⟨w.heap.size, 0, none⟩) [p, q] := Src.blk2 (Blk.new w t #[p, q])
theorem ownsRow_rowFar {w : World} {base size n b : Nat} {e t : TypeId} {v : Value} {xs : List Value} {cs : Array Value} (h : w.ownsRow base e size v n xs) (hb : Blk w b t cs) (hne : t ≠ e) (cs' : Array Value) : (w.setRow b cs').ownsRow base e size v n xs := by
  obtain ⟨h1, h2⟩ := h
  refine ⟨h1, ?_⟩
  rcases h2 with h2 | ⟨g, cap, cur, rfl, hb', hg', r⟩
  · exact .inl h2
  · refine .inr ⟨g, cap, cur, rfl, hb', Blk.rowFar hg' (fun e' => ?_) _, r⟩
    subst e'
    unfold Blk at hb
    rw [hg'] at hb
    cases hb
    exact hne rfl
theorem Apart.rowSet {A : Nat} {w W : World} (h : Apart A w W) (cs : Array Value) : Apart A w (W.setRow A cs) := by
  obtain ⟨g1, g2, g3, g4, g5⟩ := h
  refine ⟨g1, g2, g3, by simpa [World.setRow] using g4, fun x hx hne => ?_⟩
  rw [setRow_other _ _ _ _ hne]
  exact g5 x hx hne
theorem gap_ok {a : Att} {S G T : List Int} (h : MadeC a S G T) {f t : Nat} (hf : (f : Int) < a.events) (ht : (t : Int) < a.events) :
    AttOk (a.more ⟨f, t, max (-240) (T[t]?.getD 0 - T[f]?.getD 0 - 2), min 240 (T[t]?.getD 0 - T[f]?.getD 0 + 2)⟩) := by
  have h0 := made_attok h
  have ht1 := h.tl
  have h1 := Clk.lt_getD_mem h.ts (k := t) (by omega)
  have h2 := Clk.lt_getD_mem h.ts (k := f) (by omega)
  have hm := h.mins
  refine ⟨h0.mins, h0.evs, h0.ncl, h0.nrd, ?_, h0.cls, h0.rds, fun g hg => ?_⟩
  · show (a.gaps ++ [_]).length ≤ 4
    rw [List.length_append, List.length_singleton]; have := h.ngp; omega
  · rcases List.mem_append.1 (show g ∈ a.gaps ++ [_] from hg) with h' | h'
    · exact h0.gps g h'
    · rw [List.mem_singleton] at h'
      subst h'
      show (0 ≤ (f : Int) ∧ (f : Int) < a.events) ∧ (0 ≤ (t : Int) ∧ (t : Int) < a.events) ∧ (-240 ≤ max (-240) (T[t]?.getD 0 - T[f]?.getD 0 - 2) ∧ max (-240) (T[t]?.getD 0 - T[f]?.getD 0 - 2) ≤ min 240 (T[t]?.getD 0 - T[f]?.getD 0 + 2) ∧ min 240 (T[t]?.getD 0 - T[f]?.getD 0 + 2) ≤ 240)
      omega
set_option maxRecDepth 100000 in
set_option maxHeartbeats 16000000 in
theorem topClocked_any (v v2 : Value) (n2 n3 : Int) (w : World) (hv : BytesIn w v) (hv2 : BytesIn w v2) (hn2 : 0 ≤ n2 ∧ n2 < 256) (hn3 : 0 ≤ n3 ∧ n3 < 256) :
    Calls Try.prog 3 #[v, v2, .int .u8 n2, .int .u8 n3] w fun e w' => e = .returned (.bool true) ∧ Ext w w' := by
  obtain ⟨ti, hit, hz0, hz1, hz2⟩ := info_parts info_int
  have hwo := Lib.hid (wound_any v w hv)
  have Hv2 := Lib.hid hv2
  clear hv hv2
  go_enter Try.func3, Try.ntmps3
  go_wp2_with fail
  refine hwo.out.mono ?_
  rintro e w1 ⟨rfl, hs1, he1⟩
  have hmd := Lib.hid (madeC_any w.heap.size w1 hs1)
  clear hwo hs1
  go_wp2_with fail
  refine hmd.out.mono ?_
  rintro e w2 ⟨av, B1, B2, B3, l1, q1, l2, q2, l3, q3, a, S, G, T, rfl, hav, hT2, hM, ha2⟩
  have hE2 : Ext w w2 := Apart.ext_of he1 (Nat.le_refl _) ha2
  have Hav := Lib.hid hav
  obtain ⟨A1, c1, A2, c2, A3, c3, rfl, -, -, -, -, -, -⟩ := hav
  have hX3 := (Ext.alloc w2 (.cells #[.int .i64 a.minutes, .int .i64 a.events, .slice A1 a.clocks.length c1, .slice A2 a.reads.length c2, .slice A3 a.gaps.length c3] 27)).trans (Ext.alloc _ (.cells #[.slice B1 l1 q1, .slice B2 l2 q2, .slice B3 l3 q3] 30))
  have hA3 := (Blk.new w2 27 #[.int .i64 a.minutes, .int .i64 a.events, .slice A1 a.clocks.length c1, .slice A2 a.reads.length c2, .slice A3 a.gaps.length c3]).alloc (.cells #[.slice B1 l1 q1, .slice B2 l2 q2, .slice B3 l3 q3] 30)
  have hQ3 := Blk.new (w2.alloc (.cells #[.int .i64 a.minutes, .int .i64 a.events, .slice A1 a.clocks.length c1, .slice A2 a.reads.length c2, .slice A3 a.gaps.length c3] 27)) 30 #[.slice B1 l1 q1, .slice B2 l2 q2, .slice B3 l3 q3]
  rw [World.size_alloc] at hQ3
  have HA3 := Lib.hid hA3; have HQ3 := Lib.hid hQ3
  have HT3 := Lib.hid ((hT2.mono (show w.heap.size ≤ w1.heap.size from he1.size)).ext hX3)
  have HV2 := Lib.hid Hav.out
  have HE23 := Lib.hid hX3
  have HE3 := Lib.hid (hE2.trans hX3)
  have HM := Lib.hid hM
  have hwo2 := Lib.hid (wound_any v2 _ (Hv2.out.ext HE3.out))
  have hsz2 := hE2.size
  clear hmd Hav hX3 hA3 hQ3 hT2 hE2 he1 ha2 Hv2 hM
  go_wp2_with fail
  refine hwo2.out.mono ?_
  rintro e w4 ⟨rfl, hs4, he4⟩
  obtain ⟨A, hA⟩ : ∃ A, w2.heap.size = A := ⟨_, rfl⟩
  have HA2 := Lib.hid hA
  rw [hA] at HA3 HQ3 hsz2 ⊢
  generalize (w2.alloc _).alloc _ = w3 at *
  have hAl := HQ3.out.lt
  have hmd := Lib.hid (made76_any w3.heap.size 0 (by omega) 5 (by omega) w4 hs4)
  clear hwo2 hs4 hA
  go_wp2_with fail
  refine hmd.out.mono ?_
  rintro e w5 ⟨mv, m, rfl, hm5, hmo, hm5l, -, ha5⟩
  have hE35 : Ext w3 w5 := Apart.ext_of he4 (Nat.le_refl _) ha5
  obtain ⟨s1, s2, rfl, hs1, hs2⟩ := hm5
  obtain ⟨A6, c6, e6, -, -, -⟩ := hs1.at_
  obtain ⟨A7, c7, e7, -, -, -⟩ := hs2.at_
  subst e6 e7
  have hm5' : OwnPM w5 w4.heap.size (.agg #[.slice A6 m.shafts.length c6, .slice A7 m.wvs.length c7]) m := ⟨_, _, rfl, hs1, hs2⟩
  have hX6 := Ext.alloc w5 (.cells #[.slice A6 m.shafts.length c6, .slice A7 m.wvs.length c7] 38)
  have hM6 := Blk.new w5 38 #[.slice A6 m.shafts.length c6, .slice A7 m.wvs.length c7]
  have HP6 := Lib.hid ((hm5'.mono he4.size).ext hX6)
  have HA6 := Lib.hid ((HA3.out.ext hE35).ext hX6)
  have HQ6 := Lib.hid ((HQ3.out.ext hE35).ext hX6)
  have HT6 := Lib.hid ((HT3.out.ext hE35).ext hX6)
  have HE26 := Lib.hid ((HE23.out.trans hE35).trans hX6)
  have HE6 := Lib.hid ((HE3.out.trans hE35).trans hX6)
  have hsz5 := hE35.size
  have Hmo := Lib.hid hmo
  have HM6 := Lib.hid hM6
  clear hmd ha5 hE35 hs1 hs2 hm5' hX6 hM6 HA3 HQ3 HT3 HE23 HE3 he4 hmo
  go_upto_region 4 with fail
  obtain ⟨M, hM⟩ : ∃ M, w5.heap.size = M := ⟨_, rfl⟩
  rw [hM] at HM6 hsz5 ⊢
  have hAM : A + 1 < M := by omega
  have hA0 : w.heap.size ≤ A := hsz2
  obtain ⟨B0, hB0⟩ : ∃ B, w3.heap.size = B := ⟨_, rfl⟩
  rw [hB0] at HP6
  have hAB : A + 1 < B0 := by omega
  clear hM hB0 hsz5 hsz2 hAl
  generalize w5.alloc _ = w6 at *
  have hev := HM.out.evs
  obtain ⟨N, hN⟩ : ∃ N : Nat, a.events = (N : Int) := ⟨a.events.toNat, by omega⟩
  obtain ⟨x2, hx2⟩ : ∃ x : Nat, n2 = (x : Int) := ⟨n2.toNat, by omega⟩
  obtain ⟨x3, hx3⟩ : ∃ x : Nat, n3 = (x : Int) := ⟨n3.toNat, by omega⟩
  subst hx2 hx3
  have k1 := HA6.out.c5.2.1
  rw [hN] at k1 hev
  have HN := Lib.hid hN
  clear hN
  go_quiet (fail)
  go_wp2_with fail
  have hN0 : 0 < N := by omega
  obtain ⟨f, hf⟩ : ∃ f, x2 % N = f := ⟨_, rfl⟩
  obtain ⟨t, ht⟩ : ∃ t, x3 % N = t := ⟨_, rfl⟩
  have hfN : f < N := by rw [← hf]; exact Nat.mod_lt _ hN0
  have htN : t < N := by rw [← ht]; exact Nat.mod_lt _ hN0
  have ef : (x2 : Int) % (N : Int) = (f : Int) := by rw [← hf]; exact (Int.natCast_emod _ _).symm
  have et : (x3 : Int) % (N : Int) = (t : Int) := by rw [← ht]; exact (Int.natCast_emod _ _).symm
  rw [ef, et]
  have hd6 := Ext.drewN w6 nq
  have HA7 := Lib.hid (HA6.out.ext hd6); have HQ7 := Lib.hid (HQ6.out.ext hd6); have HT7 := Lib.hid (HT6.out.ext hd6); have HE27 := Lib.hid (HE26.out.trans hd6)
  have HE7 := Lib.hid (HE6.out.trans hd6); have HP7 := Lib.hid (HP6.out.ext hd6); have HM7 := Lib.hid (HM6.out.ext hd6)
  clear ef et hf ht k1 HA6 HQ6 HT6 HE26 HE6 HP6 HM6 hd6
  generalize w6.drewN nq = w7 at *
  obtain ⟨tA, tc, e7, -, -, hI7, -, -⟩ := HT7.out.open_
  cases e7
  have htl : T.length = N := by have := HM.out.tl; rw [HN.out] at this; omega
  obtain ⟨tb, to_, rfl, m0⟩ := hI7 f (by omega)
  obtain ⟨tb', to', e1, m1⟩ := hI7 t (by omega)
  cases e1
  have hmm := HM.out.mins
  have hf2 := Clk.lt_getD_mem HM.out.ts (k := f) (by omega)
  have ht2 := Clk.lt_getD_mem HM.out.ts (k := t) (by omega)
  obtain ⟨tf, htf⟩ : ∃ x : Nat, T[f]?.getD 0 = (x : Int) := ⟨(T[f]?.getD 0).toNat, by omega⟩
  obtain ⟨tt, htt⟩ : ∃ x : Nat, T[t]?.getD 0 = (x : Int) := ⟨(T[t]?.getD 0).toNat, by omega⟩
  rw [htf] at m0 hf2; rw [htt] at m1 ht2
  have Htf := Lib.hid htf; have Htt := Lib.hid htt; have Htl := Lib.hid htl
  have hTl1 : f < T.length := by omega
  have hTl2 : t < T.length := by omega
  have hf200 : tf ≤ 200 := by omega
  have ht200 : tt ≤ 200 := by omega
  have hpm : m.wvs.length ≤ 5 := by omega
  clear htf htt hI7 htl hm5l
  obtain ⟨-, -, t2⟩ := HQ7.out.c3
  have eg' : Enters Try.prog 7 := enters_of Try.func7 (by kernel_rfl) rfl
  unfold Enters at eg'
  refine wp_region_tree 18 [(11, true)] [] (by kernel_rfl) (by kernel_rfl) (by kernel_rfl) (ds := [0, 1, 2, 3, 4, 5, 6, 7, 8, 9, 10]) (by kernel_rfl) ?_
  simp only [List.take, List.drop, fill, Act.put, List.setIfInBounds_toArray, List.set_cons_zero, List.set_cons_succ, Nat.reduceAdd]
  repeat (first
    | (apply Unlock.float rfl
       · intro x W he hd K Qr hK
         try (have he := he (by decide); have t2 := he.cell t2; have m0 := he.cell m0; have m1 := he.cell m1)
         try simp only [edges, DepsE, List.filter_cons, List.filter_nil, Region.binds, if_true, and_true, true_and, upd, Nat.reduceEqDiff, if_false] at hd
         try simp only [hd] at hK ⊢
         have HK := Lib.hid hK; clear hK
         go_wp2_with fail
         exact HK.out))
  refine Unlock.nil ?_
  intro W he hG
  have hwk := Lib.hid (work_any M _ _ m Hmo.out.1 hpm tf tt hf200 ht200 W (HM7.out.ext he) (HP7.out.ext he).val)
  refine Tree.next (ks := [(11, true)]) (by kernel_rfl) ?_
  refine TSteps.cons _ rfl ?_ trivial
  intro x hd K Qr hK
  try simp only [edges, DepsE, List.filter_cons, List.filter_nil, Region.binds, if_true, and_true, true_and, upd, Nat.reduceEqDiff, if_false] at hd
  try simp only [hd] at hK ⊢
  clear hd
  have HK := Lib.hid hK; clear hK
  go_wp2_with fail
  refine hwk.out.mono ?_
  rintro e w8 ⟨rfl, he8⟩
  have hE78 := Ext.trans he he8
  go_wp2_with fail
  refine HK.out _ _ (fun _ => hE78) ?_
  clear HK hwk
  refine Unlock.of (ds := [12, 13, 14, 15, 16, 17]) (by kernel_rfl) ?_
  repeat (first
    | (apply Unlock.float rfl
       · intro x W he hd K Qr hK
         try (have he := he (by decide); skip)
         try simp only [edges, DepsE, List.filter_cons, List.filter_nil, Region.binds, if_true, and_true, true_and, upd, Nat.reduceEqDiff, if_false] at hd
         try simp only [hd] at hK ⊢
         have HK := Lib.hid hK; clear hK
         go_wp2_with fail
         exact HK.out))
  refine Unlock.nil ?_
  refine Tree.nil (by kernel_rfl) ?_
  simp only [upd, Nat.reduceEqDiff, if_false, if_true]
  have HA8 := Lib.hid (HA7.out.ext hE78); have HQ8 := Lib.hid (HQ7.out.ext hE78); have HT8 := Lib.hid (HT7.out.ext hE78); have HE28 := Lib.hid (HE27.out.trans hE78)
  have HE8 := Lib.hid (HE7.out.trans hE78); have HP8 := Lib.hid (HP7.out.ext hE78); have HM8 := Lib.hid (HM7.out.ext hE78)
  obtain ⟨ra, hra⟩ : ∃ x, aloneW m (spanL tf tt) = x := ⟨_, rfl⟩
  obtain ⟨rd, hrd⟩ : ∃ x, addsW m (spanL tf tt) = x := ⟨_, rfl⟩
  rw [hra, hrd]
  have Hra := Lib.hid hra; have Hrd := Lib.hid hrd
  clear hra hrd hE78 he he8 hG HA7 HQ7 HT7 HE27 HE7 HP7 HM7 t2 m0 m1
  go_wp2_with fail
  have hC0 : M < w8.heap.size ∧ A + 1 < w8.heap.size := ⟨HM8.out.lt, HQ8.out.lt⟩
  have hTA : (Value.slice (some ⟨tb, to_, none⟩) T.length q3).ownBlock ≠ some A := fun e => ownsRow_ne_blk HT8.out HA8.out (by decide) e.symm
  have HTA := Lib.hid hTA
  clear hTA
  go_loopw [73, 19, 20] (fun iv lv hv wr => ∃ k : Nat, ∃ x : Att, ∃ xv1 xv2 xv3 : Value, ∃ L H : List Int, k ≤ 1 ∧ iv = .int .i64 (k : Int) ∧ Hid ((x.minutes = a.minutes ∧ x.events = a.events ∧ x.gaps.length = a.gaps.length + k) ∧ AttOk x ∧ Fits x (fun c => S[c]?.getD 0) (fun c => G[c]?.getD 0) (fun e => T[e]?.getD 0)) ∧ Hid (AttVal wr (.agg #[.int .i64 a.minutes, .int .i64 a.events, xv1, xv2, xv3]) x) ∧ Hid (Blk wr A 27 #[.int .i64 a.minutes, .int .i64 a.events, xv1, xv2, xv3]) ∧ Hid (Apart A w8 wr) ∧ Hid (OwnI wr w8.heap.size 3 lv L) ∧ Hid (OwnI wr w8.heap.size 3 hv H) ∧ Hid (NoCom lv hv) ∧ Hid (k = 0 → x = a ∧ L = [] ∧ H = [] ∧ xv1 = .slice A1 a.clocks.length c1 ∧ xv2 = .slice A2 a.reads.length c2 ∧ xv3 = .slice A3 a.gaps.length c3) ∧
      Hid (k = 1 → ∃ p0 p1 p2 p3 : Int, L = [p0, p1] ∧ H = [p2, p3] ∧ p0 ≤ aloneW m (spanL (hiF (foundL x) f).toNat (loF (foundL x) t).toNat) ∧ p1 ≤ addsW m (spanL (hiF (foundL x) f).toNat (loF (foundL x) t).toNat) ∧ aloneW m (spanL (loF (foundL x) f).toNat (hiF (foundL x) t).toNat) ≤ p2 ∧ addsW m (spanL (loF (foundL x) f).toNat (hiF (foundL x) t).toNat) ≤ p3)) (fun iv _ _ _ => 1 - (intOf iv).toNat)
  case atStart => exact ⟨0, a, _, _, _, [], [], Nat.zero_le _, rfl, Lib.hid ⟨⟨rfl, rfl, rfl⟩, made_attok HM.out, HM.out.fits⟩, Lib.hid (HV2.out.ext HE28.out), HA8, Lib.hid (Apart.refl _ _), Lib.hid (OwnI.nil _ _ _), Lib.hid (OwnI.nil _ _ _), Lib.hid (NoCom.nil _), Lib.hid (fun _ => ⟨rfl, rfl, rfl, rfl, rfl, rfl⟩), Lib.hid (fun h => by cases h)⟩
  case round =>
    obtain ⟨k, x, xv1, xv2, xv3, L, H, hk, rfl, hx, hV, hA, hap, hL, hH, hnc, hk0, hk1⟩ := hrel
    obtain ⟨⟨hxm, hxe, hxg⟩, hxok, hxf⟩ := hx.out
    have htm := Clk.time_law hxok.aok hxf
    have hxne := Lib.hid htm.1
    have hb1 := htm.2 f (by have := hxok.evs; omega)
    have hb2 := htm.2 t (by have := hxok.evs; omega)
    have hxm2 : x.minutes ≤ 200 := by rw [hxm]; exact hmm.2
    obtain ⟨xl, hxl⟩ : ∃ n : Nat, loF (foundL x) f = (n : Int) := ⟨(loF (foundL x) f).toNat, by omega⟩
    obtain ⟨xh, hxh⟩ : ∃ n : Nat, hiF (foundL x) f = (n : Int) := ⟨(hiF (foundL x) f).toNat, by omega⟩
    obtain ⟨yl, hyl⟩ : ∃ n : Nat, loF (foundL x) t = (n : Int) := ⟨(loF (foundL x) t).toNat, by omega⟩
    obtain ⟨yh, hyh⟩ : ∃ n : Nat, hiF (foundL x) t = (n : Int) := ⟨(hiF (foundL x) t).toNat, by omega⟩
    rw [hxl, hxh, hxm, Htf.out] at hb1
    rw [hyl, hyh, hxm, Htt.out] at hb2
    have hbx : xl ≤ tf ∧ tf ≤ xh ∧ xh ≤ 200 := by omega
    have hby : yl ≤ tt ∧ tt ≤ yh ∧ yh ≤ 200 := by omega
    have hbxm : (xh : Int) ≤ a.minutes := by omega
    have hbym : (yh : Int) ≤ a.minutes := by omega
    have Hxl := Lib.hid hxl; have Hxh := Lib.hid hxh; have Hyl := Lib.hid hyl; have Hyh := Lib.hid hyh
    have hfe : (f : Int) < x.events := by rw [hxe, HN.out]; omega
    have hte : (t : Int) < x.events := by rw [hxe, HN.out]; omega
    have hti := Lib.hid fun W (he : Ext wr W) => Time_any _ x hxok htm.1 f hfe W (hV.out.ext he)
    have hti2 := Lib.hid fun W (he : Ext wr W) => Time_any _ x hxok htm.1 t hte W (hV.out.ext he)
    rw [hxl, hxh] at hti
    rw [hyl, hyh] at hti2
    obtain ⟨a0, a1, a2, a3, a4⟩ := hA.out.c5
    have HXe := Lib.hid hxe; have HXg := Lib.hid hxg; have HXok := Lib.hid hxok; have HXf := Lib.hid hxf; have HXm := Lib.hid hxm
    obtain ⟨⟨y1, z1, hv1⟩, ⟨y2, z2, hv2'⟩, ⟨y3, z3, hv3⟩⟩ := AttVal.slices hV.out
    subst hv1 hv2' hv3
    clear hx hxl hxh hyl hyh hxm hxe hxg hxok hxf htm hb1 hb2 hfe hte
    go_wp2_with fail
    refine (hti.out wr (Ext.refl _)).mono ?_
    rintro e w9 ⟨rfl, he9⟩
    have hX10 := Ext.alloc w9 (.cells #[.int .i64 (xl : Int), .int .i64 (xh : Int)] 52)
    have HX10 := Lib.hid (Blk.new w9 52 #[.int .i64 (xl : Int), .int .i64 (xh : Int)])
    have HE10 := Lib.hid (Ext.trans he9 hX10)
    clear a0 a1 a2 a3 a4 hti
    obtain ⟨a0, a1, a2, a3, a4⟩ := (hA.out.ext HE10.out).c5
    have A0 := he9.cell hA.out.c5.1; have A1' := he9.cell hA.out.c5.2.1; have A2' := he9.cell hA.out.c5.2.2.1; have A3' := he9.cell hA.out.c5.2.2.2.1; have A4' := he9.cell hA.out.c5.2.2.2.2
    clear hX10 he9
    go_upto_region 14 with fail
    clear A0 A1' A2' A3' A4'
    obtain ⟨X, hX0⟩ : ∃ X, w9.heap.size = X := ⟨_, rfl⟩
    rw [hX0] at HX10 ⊢
    clear hX0
    generalize w9.alloc _ = w10 at *
    go_wp2_with fail
    refine (hti2.out w10 HE10.out).mono ?_
    rintro e w11 ⟨rfl, he11⟩
    have hX12 := Ext.alloc w11 (.cells #[.int .i64 (yl : Int), .int .i64 (yh : Int)] 52)
    have HY12 := Lib.hid (Blk.new w11 52 #[.int .i64 (yl : Int), .int .i64 (yh : Int)])
    have HX12 := Lib.hid ((HX10.out.ext he11).ext hX12)
    have HE12 := Lib.hid ((HE10.out.trans he11).trans hX12)
    clear a0 a1 a2 a3 a4 hti2 HX10 HE10 hX12 he11
    go_upto_region 15 with fail
    obtain ⟨Y, hY0⟩ : ∃ Y, w11.heap.size = Y := ⟨_, rfl⟩
    rw [hY0] at HY12 ⊢
    clear hY0
    generalize w11.alloc _ = w12 at *
    have hap12 := hap.out.trans (Apart.of_ext HE12.out)
    have HAp12 := Lib.hid hap12
    have HA12 := Lib.hid (hA.out.ext HE12.out)
    have HQ12 := Lib.hid (HQ8.out.apart (by omega) hap12)
    have HT12 := Lib.hid (OwnI.apart HT8.out HTA.out hap12)
    have HM12 := Lib.hid (HM8.out.apart (by omega) hap12)
    have HP12 := Lib.hid (HP8.out.apart (by omega) hap12)
    have HL12 := Lib.hid (hL.out.ext HE12.out); have HH12 := Lib.hid (hH.out.ext HE12.out)
    obtain ⟨tA', tc', e7', -, -, hI12, -, -⟩ := HT12.out.open_
    cases e7'
    obtain ⟨tb', to'', e1', m0⟩ := hI12 f hTl1
    cases e1'
    obtain ⟨tb', to'', e1', m1⟩ := hI12 t hTl2
    cases e1'
    rw [Htf.out] at m0; rw [Htt.out] at m1
    obtain ⟨-, -, t2⟩ := HQ12.out.c3
    obtain ⟨x0, x1⟩ := HX12.out.c2
    obtain ⟨y0, y1⟩ := HY12.out.c2
    have a0 := HA12.out.c5.1
    clear hap12 hI12 hap hA hV hL hH HX12 HY12
    have d1 : decide ((tf : Int) < (xl : Int)) = false := by simp; omega
    have d1' : decide (tf < xl) = false := by simp; omega
    have d2 : decide ((xh : Int) < (tf : Int)) = false := by simp; omega
    have d2' : decide (xh < tf) = false := by simp; omega
    have d3 : decide ((tt : Int) < (yl : Int)) = false := by simp; omega
    have d3' : decide (tt < yl) = false := by simp; omega
    have d4 : decide ((yh : Int) < (tt : Int)) = false := by simp; omega
    have d4' : decide (yh < tt) = false := by simp; omega
    have d5 : decide ((xl : Int) < 0) = false := by simp
    have d6 : decide (a.minutes < (yh : Int)) = false := by simp; omega
    go_quiet (fail)
    have hd13 := Ext.drewN w12 nq
    have HA13 := Lib.hid (HA12.out.ext hd13); have HQ13 := Lib.hid (HQ12.out.ext hd13); have HT13 := Lib.hid (HT12.out.ext hd13); have HM13 := Lib.hid (HM12.out.ext hd13); have HP13 := Lib.hid (HP12.out.ext hd13)
    have HL13 := Lib.hid (HL12.out.ext hd13); have HH13 := Lib.hid (HH12.out.ext hd13); have HAp13 := Lib.hid (HAp12.out.trans (Apart.of_ext hd13))
    have X0 := hd13.cell x0; have X1 := hd13.cell x1; have Y0 := hd13.cell y0; have Y1 := hd13.cell y1
    clear hd13 d1 d1' d2 d2' d3 d3' d4 d4' d5 d6 x0 x1 y0 y1 m0 m1 t2 a0 HA12 HQ12 HT12 HM12 HP12 HL12 HH12 HAp12
    generalize w12.drewN nq = w13 at *
    have hpr : Hid (∀ s, s < m.shafts.length → 0 ≤ (m.sh s).price) := fun s hs => (Hmo.out.1.price s hs).1
    have hwk := Lib.hid (work_any M _ _ m Hmo.out.1 hpm xh yl (by omega) (by omega) w13 HM13.out HP13.out.val)
    have g1 : Hid (aloneW m (spanL xh yl) ≤ ra) := by rw [← Hra.out]; exact Pow.alone_mono hpr.out (Pow.span_sub (by omega) (by omega))
    have g2 : Hid (addsW m (spanL xh yl) ≤ rd) := by rw [← Hrd.out]; exact Pow.adds_mono hpr.out (Pow.span_sub (by omega) (by omega))
    have g3 : Hid (ra ≤ aloneW m (spanL xl yh)) := by rw [← Hra.out]; exact Pow.alone_mono hpr.out (Pow.span_sub (by omega) (by omega))
    have g4 : Hid (rd ≤ addsW m (spanL xl yh)) := by rw [← Hrd.out]; exact Pow.adds_mono hpr.out (Pow.span_sub (by omega) (by omega))
    obtain ⟨lw, hlw⟩ : ∃ z, aloneW m (spanL xh yl) = z := ⟨_, rfl⟩
    obtain ⟨ls, hls⟩ : ∃ z, addsW m (spanL xh yl) = z := ⟨_, rfl⟩
    obtain ⟨hg, hhg⟩ : ∃ z, aloneW m (spanL xl yh) = z := ⟨_, rfl⟩
    obtain ⟨mr, hmr⟩ : ∃ z, addsW m (spanL xl yh) = z := ⟨_, rfl⟩
    rw [hlw] at g1 hwk; rw [hls] at g2 hwk; rw [hhg] at g3; rw [hmr] at g4
    have Hlw := Lib.hid hlw; have Hls := Lib.hid hls; have Hhg := Lib.hid hhg; have Hmr := Lib.hid hmr
    clear hlw hls hhg hmr
    go_wp2_with fail
    refine hwk.out.mono ?_
    rintro e w14 ⟨rfl, he14⟩
    have HA14 := Lib.hid (HA13.out.ext he14); have HQ14 := Lib.hid (HQ13.out.ext he14); have HT14 := Lib.hid (HT13.out.ext he14); have HM14 := Lib.hid (HM13.out.ext he14); have HP14 := Lib.hid (HP13.out.ext he14)
    have HL14 := Lib.hid (HL13.out.ext he14); have HH14 := Lib.hid (HH13.out.ext he14); have HAp14 := Lib.hid (HAp13.out.trans (Apart.of_ext he14))
    replace X0 := he14.cell X0; replace X1 := he14.cell X1; replace Y0 := he14.cell Y0; replace Y1 := he14.cell Y1
    have hwk2 := Lib.hid (work_any M _ _ m Hmo.out.1 hpm xl yh (by omega) (by omega) w14 HM14.out HP14.out.val)
    rw [Hhg.out, Hmr.out] at hwk2
    clear hwk he14 HA13 HQ13 HT13 HM13 HP13 HL13 HH13 HAp13
    go_wp2_with fail
    refine hwk2.out.mono ?_
    rintro e w15 ⟨rfl, he15⟩
    have HA15 := Lib.hid (HA14.out.ext he15); have HQ15 := Lib.hid (HQ14.out.ext he15); have HT15 := Lib.hid (HT14.out.ext he15); have HM15 := Lib.hid (HM14.out.ext he15); have HP15 := Lib.hid (HP14.out.ext he15)
    have HL15 := Lib.hid (HL14.out.ext he15); have HH15 := Lib.hid (HH14.out.ext he15); have HAp15 := Lib.hid (HAp14.out.trans (Apart.of_ext he15))
    clear hwk2 he15 X0 X1 Y0 Y1 HA14 HQ14 HT14 HM14 HP14 HL14 HH14 HAp14
    have d1 : decide (ra < lw) = false := by have := g1.out; simp; omega
    have d2 : decide (hg < ra) = false := by have := g3.out; simp; omega
    have d3 : decide (rd < ls) = false := by have := g2.out; simp; omega
    have d4 : decide (mr < rd) = false := by have := g4.out; simp; omega
    go_upto_region 21 with fail
    clear d1 d2 d3 d4
    have hLl : L.length ≤ 2 ∧ H.length ≤ 2 := by
      rcases Nat.eq_zero_or_pos k with h0 | h0
      · obtain ⟨-, e1, e2, -⟩ := hk0.out h0
        rw [e1, e2]; exact ⟨Nat.zero_le _, Nat.zero_le _⟩
      · obtain ⟨p0, p1, p2, p3, e1, e2, -⟩ := hk1.out (by omega)
        rw [e1, e2]; exact ⟨Nat.le_refl _, Nat.le_refl _⟩
    obtain ⟨Al, cl, elv⟩ := ownsRow_slice HL15.out
    obtain ⟨Ah, ch, ehv⟩ := ownsRow_slice HH15.out
    subst elv ehv
    have hX16 := Ext.alloc w15 (.cells #[.int .i64 lw, .int .i64 ls] 3)
    have HL16 := Lib.hid (HL15.out.ext hX16); have HH16 := Lib.hid (HH15.out.ext hX16); have HA16 := Lib.hid (HA15.out.ext hX16); have HAp16 := Lib.hid (HAp15.out.trans (Apart.of_ext hX16))
    have Hs16 := Lib.hid (src2 w15 (.int .i64 lw) (.int .i64 ls) 3)
    have hsz16 : w8.heap.size ≤ (w15.alloc (.cells #[.int .i64 lw, .int .i64 ls] 3)).heap.size := HAp16.out.size
    clear hX16 HA15 HQ15 HT15 HM15 HP15 HL15 HH15 HAp15
    go_upto_region 22 with (at_builtin; first
      | (refine wpList_app rfl _ _ 28 rfl w8.heap.size 3 ti (.int .i64 0) 1 8 Try.underlying28 hit hz0 hz1 hz2 rfl (by decide) (.slice Al L.length cl) L.length _ rfl HL16.out (some ⟨w15.heap.size, 0, none⟩) 2 2 [.int .i64 lw, .int .i64 ls] rfl rfl Hs16.out ?c2 ?c3 ?c4 ?c5 ?_; (case c2 => (intro u hu; simp only [List.mem_cons, List.not_mem_nil, or_false] at hu; rcases hu with rfl | rfl <;> rfl)); (case c3 => (unfold maxLen; omega)); (case c4 => omega); (case c5 => exact hsz16); intro v17 w17 hown hg' hblk; have H17 := Lib.hid (push2 HL16.out HH16.out hnc.out HA16.out HAp16.out hown hg' hblk); obtain ⟨A17, c17, rfl⟩ := ownsRow_slice hown; clear hown hg' hblk)
      | (have hX18 := Ext.alloc w17 (.cells #[.int .i64 hg, .int .i64 mr] 3); have HH18 := Lib.hid (H17.out.2.1.ext hX18); have HL18 := Lib.hid (H17.out.1.ext hX18); have HA18 := Lib.hid (H17.out.2.2.2.1.ext hX18); have HAp18 := Lib.hid (H17.out.2.2.2.2.trans (Apart.of_ext hX18)); have Hs18 := Lib.hid (src2 w17 (.int .i64 hg) (.int .i64 mr) 3); refine wpList_app rfl _ _ 28 rfl w8.heap.size 3 ti (.int .i64 0) 1 8 Try.underlying28 hit hz0 hz1 hz2 rfl (by decide) (.slice Ah H.length ch) H.length _ rfl HH18.out (some ⟨w17.heap.size, 0, none⟩) 2 2 [.int .i64 hg, .int .i64 mr] rfl rfl Hs18.out ?c2 ?c3 ?c4 ?c5 ?_; (case c2 => (intro u hu; simp only [List.mem_cons, List.not_mem_nil, or_false] at hu; rcases hu with rfl | rfl <;> rfl)); (case c3 => (unfold maxLen; omega)); (case c4 => omega); (case c5 => exact HAp18.out.size); intro v19 w19 hown hg' hblk; have H19 := Lib.hid (push2 HH18.out HL18.out H17.out.2.2.1.symm HA18.out HAp18.out hown hg' hblk); obtain ⟨A19, c19, rfl⟩ := ownsRow_slice hown; clear hown hg' hblk hX18))
    clear hsz16 HL16 HH16 HA16 HAp16 Hs16 H17 HL18 HH18 HA18 HAp18 Hs18
    rcases Nat.eq_zero_or_pos k with h0 | h0
    · -- <<A
      subst h0
      obtain ⟨ex, eL, eH, e1, e2, e3⟩ := hk0.out rfl
      subst ex eL eH
      cases e1; cases e2; cases e3
      have hE19 := Lib.hid (Apart.ext_of HE28.out (by rw [HA2.out]; exact Nat.le_refl _) H19.out.2.2.2.2)
      have HV19 := Lib.hid (HV2.out.ext hE19.out)
      have HQ19 := Lib.hid (HQ8.out.apart (by omega) H19.out.2.2.2.2)
      have HT19 := Lib.hid (OwnI.apart HT8.out HTA.out H19.out.2.2.2.2)
      obtain ⟨tA', tc', e7', -, -, hI12, -, -⟩ := HT19.out.open_
      cases e7'
      obtain ⟨tb', to'', e1', m0⟩ := hI12 f hTl1
      cases e1'
      obtain ⟨tb', to'', e1', m1⟩ := hI12 t hTl2
      cases e1'
      rw [Htf.out] at m0; rw [Htt.out] at m1
      obtain ⟨-, -, t2⟩ := HQ19.out.c3
      clear hI12
      go_wp2_with fail
      go_quiet (fail)
      have hd20 := Ext.drewN w19 nq
      have HA20 := Lib.hid (H19.out.2.2.2.1.ext hd20); have HAp20 := Lib.hid (H19.out.2.2.2.2.trans (Apart.of_ext hd20)); have HV20 := Lib.hid (HV19.out.ext hd20)
      have HL20 := Lib.hid (H19.out.2.1.ext hd20); have HH20 := Lib.hid (H19.out.1.ext hd20); have Hnc20 := Lib.hid H19.out.2.2.1.symm
      have hok2 := gap_ok HM.out (f := f) (t := t) (by rw [HN.out]; omega) (by rw [HN.out]; omega)
      have hft2 := Clk.MadeC.gap HM.out (f := f) (t := t) (by rw [HN.out]; omega) (by rw [HN.out]; omega)
      rw [Htt.out, Htf.out] at hok2 hft2
      obtain ⟨g, hgg⟩ : ∃ g : Gp, (⟨(f : Int), (t : Int), max (-240) ((tt : Int) - (tf : Int) - 2), min 240 ((tt : Int) - (tf : Int) + 2)⟩ : Gp) = g := ⟨_, rfl⟩
      have hgl : x.gaps.length < 4 := by have := HM.out.ngp; omega
      have hkn := Lib.hid (Know_any _ x g HXok.out hgl (by rw [← hgg]; exact hok2) (w19.drewN nq) HV20.out)
      rw [← hgg] at hkn
      rw [hgg] at hok2 hft2
      have hev4 : N ≤ 4 := by omega
      have hmore : ∀ e, e < 4 → loF (foundL x) e ≤ loF (foundL (x.more g)) e ∧ hiF (foundL (x.more g)) e ≤ hiF (foundL x) e := fun e he => Clk.more_law HXok.out.aok (g := g) (by rw [← hgg]; show (0 ≤ (f : Int) ∧ (f : Int) < 4) ∧ (0 ≤ (t : Int) ∧ (t : Int) < 4); omega) (Clk.time_law hok2.aok hft2).1 he
      have hmf := hmore f (by omega)
      have hmt := hmore t (by omega)
      rw [Hxl.out, Hxh.out] at hmf
      rw [Hyl.out, Hyh.out] at hmt
      have Hmf := Lib.hid hmf; have Hmt := Lib.hid hmt; have Hok2 := Lib.hid hok2; have Hft2 := Lib.hid hft2; have Hgg := Lib.hid hgg
      clear hgg hok2 hft2 hmore hmf hmt hd20 m0 m1 t2 H19 HV19 HQ19 HT19 hE19
      generalize w19.drewN nq = w20 at *
      obtain ⟨a0, a1, a2, a3, a4⟩ := HA20.out.c5
      go_wp2_with fail
      refine hkn.out.mono ?_
      rintro e w21 ⟨cv, rv, gv, rfl, hAO, he21⟩
      rw [Hgg.out] at hAO
      obtain ⟨D1, d1, e1⟩ := ownsRow_slice hAO.cl
      obtain ⟨D2, d2, e2⟩ := ownsRow_slice hAO.rd
      obtain ⟨D3, d3, e3⟩ := ownsRow_slice hAO.gp
      subst e1 e2 e3
      obtain ⟨n1, hn1⟩ : ∃ n, (x.more g).clocks.length = n := ⟨_, rfl⟩
      obtain ⟨n2, hn2'⟩ : ∃ n, (x.more g).reads.length = n := ⟨_, rfl⟩
      obtain ⟨n3, hn3'⟩ : ∃ n, (x.more g).gaps.length = n := ⟨_, rfl⟩
      have hX22 := Ext.alloc w21 (.cells #[.int .i64 x.minutes, .int .i64 x.events, .slice D1 (x.more g).clocks.length d1, .slice D2 (x.more g).reads.length d2, .slice D3 (x.more g).gaps.length d3] 27)
      have hU22 := Blk.new w21 27 #[.int .i64 x.minutes, .int .i64 x.events, .slice D1 (x.more g).clocks.length d1, .slice D2 (x.more g).reads.length d2, .slice D3 (x.more g).gaps.length d3]
      have HA22 := Lib.hid ((HA20.out.ext he21).ext hX22); have HAp22 := Lib.hid (HAp20.out.trans (Apart.of_ext (he21.trans hX22)))
      have HL22 := Lib.hid ((HL20.out.ext he21).ext hX22); have HH22 := Lib.hid ((HH20.out.ext he21).ext hX22)
      have HAO := Lib.hid (hAO.ext hX22)
      obtain ⟨b0, b1, b2, b3, b4⟩ := hU22.c5
      rw [hn1] at hX22 hU22 HA22 HAp22 HL22 HH22 HAO b0 b1 b2 b3 b4 ⊢
      rw [hn2'] at hX22 hU22 HA22 HAp22 HL22 HH22 HAO b0 b1 b2 b3 b4 ⊢
      rw [hn3'] at hX22 hU22 HA22 HAp22 HL22 HH22 HAO b0 b1 b2 b3 b4 ⊢
      clear a0 a1 a2 a3 a4 hkn he21 hAO hX22 hU22 HA20 HAp20 HV20 HL20 HH20 hn1 hn2' hn3'
      go_wp2_with (refine wpList_rowStore rfl 27 _ _ rfl A rfl _ HA22.out #[.int .i64 x.minutes, .int .i64 x.events, .slice D1 n1 d1, .slice D2 n2 d2, .slice D3 n3 d3] rfl (by kernel_rfl) rfl (by kernel_rfl) ?_)
      clear b0 b1 b2 b3 b4
      go_roundw
      case rel =>
        refine ⟨1, x.more g, .slice D1 n1 d1, .slice D2 n2 d2, .slice D3 n3 d3, [lw, ls], [hg, mr], Nat.le_refl _, by go_num, Lib.hid ⟨⟨rfl, rfl, by show (x.gaps ++ [g]).length = _; rw [List.length_append]; rfl⟩, Hok2.out, Hft2.out⟩, Lib.hid (AttO.val (base := w20.heap.size) (a := x.more g) ⟨ownsRow_rowFar HAO.out.cl HA22.out (by decide) _, ownsRow_rowFar HAO.out.rd HA22.out (by decide) _, ownsRow_rowFar HAO.out.gp HA22.out (by decide) _⟩), Lib.hid (HA22.out.row _), Lib.hid (HAp22.out.rowSet _), Lib.hid (ownsRow_rowFar HL22.out HA22.out (by decide) _), Lib.hid (ownsRow_rowFar HH22.out HA22.out (by decide) _), Hnc20, Lib.hid (fun h => by cases h), Lib.hid (fun _ => ⟨lw, ls, hg, mr, rfl, rfl, ?_, ?_, ?_, ?_⟩)⟩
        · rw [← Hlw.out]; exact Pow.alone_mono hpr.out (Pow.span_sub (by have := Hmf.out; omega) (by have := Hmt.out; omega))
        · rw [← Hls.out]; exact Pow.adds_mono hpr.out (Pow.span_sub (by have := Hmf.out; omega) (by have := Hmt.out; omega))
        · rw [← Hhg.out]; exact Pow.alone_mono hpr.out (Pow.span_sub (by have := Hmf.out; omega) (by have := Hmt.out; omega))
        · rw [← Hmr.out]; exact Pow.adds_mono hpr.out (Pow.span_sub (by have := Hmf.out; omega) (by have := Hmt.out; omega))
      case measure => simp [intOf]
      -- >>
    · -- <<B
      obtain rfl : k = 1 := by omega
      obtain ⟨p0, p1, p2, p3, eL, eH, b1, b2, b3, b4⟩ := hk1.out rfl
      subst eL eH
      rw [Hxh.out, Hyl.out, Int.toNat_natCast, Int.toNat_natCast] at b1 b2
      rw [Hxl.out, Hyh.out, Int.toNat_natCast, Int.toNat_natCast] at b3 b4
      rw [Hlw.out] at b1; rw [Hls.out] at b2; rw [Hhg.out] at b3; rw [Hmr.out] at b4
      have HEf := Lib.hid (Apart.ext_of HE8.out hA0 H19.out.2.2.2.2)
      obtain ⟨Ax, cx, ex, -, -, hIl, -, -⟩ := H19.out.2.1.open_
      cases ex
      obtain ⟨Ay, cy, ey, -, -, hIh, -, -⟩ := H19.out.1.open_
      cases ey
      obtain ⟨lb, lo', rfl, c0⟩ := hIl 0 (by simp)
      obtain ⟨lb2, lo2, el1, c1⟩ := hIl 1 (by simp)
      cases el1
      obtain ⟨lb2, lo2, el2, c2⟩ := hIl 2 (by simp)
      cases el2
      obtain ⟨lb2, lo2, el3, c3⟩ := hIl 3 (by simp)
      cases el3
      obtain ⟨hb, ho', rfl, y0⟩ := hIh 0 (by simp)
      obtain ⟨lb2, lo2, el1, y1⟩ := hIh 1 (by simp)
      cases el1
      obtain ⟨lb2, lo2, el2, y2⟩ := hIh 2 (by simp)
      cases el2
      obtain ⟨lb2, lo2, el3, y3⟩ := hIh 3 (by simp)
      cases el3
      rw [Nat.add_zero] at c0 y0
      replace c0 : w19.cell? ⟨lb, lo', none⟩ = some (.int .i64 p0) := c0
      replace c1 : w19.cell? ⟨lb, lo' + 1, none⟩ = some (.int .i64 p1) := c1
      replace c2 : w19.cell? ⟨lb, lo' + 2, none⟩ = some (.int .i64 lw) := c2
      replace c3 : w19.cell? ⟨lb, lo' + 3, none⟩ = some (.int .i64 ls) := c3
      replace y0 : w19.cell? ⟨hb, ho', none⟩ = some (.int .i64 p2) := y0
      replace y1 : w19.cell? ⟨hb, ho' + 1, none⟩ = some (.int .i64 p3) := y1
      replace y2 : w19.cell? ⟨hb, ho' + 2, none⟩ = some (.int .i64 hg) := y2
      replace y3 : w19.cell? ⟨hb, ho' + 3, none⟩ = some (.int .i64 mr) := y3
      have d1 : decide (p0 ≤ lw) = true := by simpa using b1
      have d2 : decide (p1 ≤ ls) = true := by simpa using b2
      have d3 : decide (hg ≤ p2) = true := by simpa using b3
      have d4 : decide (mr ≤ p3) = true := by simpa using b4
      clear hIl hIh H19
      go_wp2_with fail
      go_quiet (fail)
      go_wp2_with fail
      go_ret
      exact ⟨rfl, HEf.out.trans (Ext.drewN _ _)⟩
      -- >>
end Go.Proofs.Pet

namespace Go.Proofs.Pet
open Go Go.ChangeShapes Go.WideShapes Go.ChangeAt Go.RowKit

theorem wf_u8 {n : Int} (h : (Lit.int .u8 n).wf = true) : 0 ≤ n ∧ n < 256 := by
  simp only [Lit.wf, Bool.and_eq_true, decide_eq_true_eq] at h
  have h1 : IntKind.u8.min = 0 := by decide
  have h2 : IntKind.u8.max = 255 := by decide
  omega
set_option maxRecDepth 100000 in
theorem bytes_reads {H : Type} {enc : TypeId × Value → H} {w : World} {base : Nat} {spare : Nat → Bool} {held : Bool} {r : Reach} {b0 : Nat} {v : Value} {d : DataW H} {p : List MemPlace} (hv : Value.okWide Try.prog w r b0 22 v) (h : DataW.Trod enc Try.prog w base spare held 22 v d p) : BytesIn w v := by
  obtain ⟨n, hn⟩ := h
  obtain ⟨a, l, c, rfl⟩ := okWide_slice Try.underlying22 hv
  rcases open_ints Try.underlying22 Try.underlying5 (by kernel_rfl) hn with ⟨h1, _⟩ | ⟨a', len, cap, zs, h1, _, h2, h3, h4, _, h5, _⟩
  · injection h1 with h1 _
    exact ⟨none, 0, 0, h1, Nat.le_refl _, Nat.zero_le _, fun k hk => by omega⟩
  · injection h1 with h1 _
    refine ⟨some a', len, cap, h1, h2, h3, fun k hk => ?_⟩
    have hz : len ≤ zs.length := by rw [h4]; split <;> omega
    have hcell := h5 k (by omega)
    have hs := spot_none (h5 0 (by omega))
    obtain ⟨b, o, s⟩ := a'
    have hs' : s = none := hs
    subst hs'
    rw [addr_add] at hcell
    exact ⟨b, o, _, rfl, hcell⟩
end Go.Proofs.Pet
