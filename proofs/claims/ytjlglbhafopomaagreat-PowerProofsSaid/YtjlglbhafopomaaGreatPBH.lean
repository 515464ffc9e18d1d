/-
  Sights: Cleared, Explains, Slipped, walked.
-/
import Derived.Test.YtjlglbhafopomaaGreatPBG
namespace Go.Proofs.Pet
open Go Go.RowKit Go.Maps Go.Shelf
open Go.Proofs.Pow (PM Sh Wv POk Up sightF clrB opnS hitL explB clashB proofB)

theorem sightE_ok {m : PM} {l : List Int} (h : sightE m l = 0) : checkP m = 0 ∧ l.length = m.wvs.length ∧ ∀ x, x ∈ l → 0 ≤ x ∧ x ≤ 2 := by
  unfold sightE at h
  split at h
  · rename_i h1; exact absurd h h1
  rename_i h1
  simp only [ne_eq, Decidable.not_not] at h1
  split at h
  · exact absurd h (by decide)
  rename_i h2
  split at h
  · exact absurd h (by decide)
  rename_i h3
  simp only [Bool.not_eq_false, List.all_eq_true] at h3
  exact ⟨h1, by omega, fun x hx => inB_iff.1 (h3 x hx)⟩
def clrL (m : PM) (l : List Int) (k : Nat) : List Int := ints ((List.range k).filter fun i => clrB m (sightF l) i)
theorem clrL_succ (m : PM) (l : List Int) (k : Nat) : clrL m l (k + 1) = if clrB m (sightF l) k then clrL m l k ++ [(k : Int)] else clrL m l k := by
  unfold clrL
  rw [List.range_succ, List.filter_append]
  by_cases hq : clrB m (sightF l) k = true
  · rw [if_pos hq]; simp [hq, ints]
  · rw [if_neg hq]; simp [hq, ints]
theorem clrL_len (m : PM) (l : List Int) (k : Nat) : (clrL m l k).length ≤ k := by
  unfold clrL
  rw [ints_length]
  exact Nat.le_trans (List.length_filter_le _ _) (by simp)
set_option maxRecDepth 20000 in
set_option maxHeartbeats 1000000 in
theorem Cleared_any (v : Value) (m : PM) (A : Option Addr) (c n : Nat) (l : List Int) (hn : l.length = n) (r : Int) (x : List Int) (hr : sightE m l = r) (hx : (if r = 0 then clrL m l m.shafts.length else []) = x) (w : World) (hv : PMVal w v m) (hl : n ≤ maxLen) (hA : IntsAt w A l) :
    Calls Tryz.prog 71 #[v, .slice A n c] w fun e w' => ∃ u, e = .returned (.tuple #[u, .int .i64 r]) ∧ OwnI w' w.heap.size 3 u x ∧ Ext w w' := by
  obtain ⟨ti, hi, hz0, hz1, hz2⟩ := info_parts info_int
  have Hv := Lib.hid hv
  obtain ⟨A1, c1, A2, c2, rfl, h2, h3, h4, h5, h6, h7⟩ := hv
  have hE := Ext.alloc w (.cells #[.slice A1 m.shafts.length c1, .slice A2 m.wvs.length c2] 26)
  have hM := Blk.new w 26 #[.slice A1 m.shafts.length c1, .slice A2 m.wvs.length c2]
  obtain ⟨k0, k1⟩ := hM.c2
  have HM := Lib.hid hM
  have ho := Lib.hid (sighted_any _ m A c n l hn r hr _ (Hv.out.ext hE) hl (hA.ext hE))
  clear h6 h7 hM
  go_enter Tryz.func71, Tryz.ntmps71
  go_wp2_with fail
  refine ho.out.mono ?_
  rintro e w1 ⟨pv, rfl, he1, hop⟩
  have hE1 := hE.trans he1
  have hM1 := HM.out.ext he1
  clear k0 k1 ho
  by_cases h0 : r = 0
  · subst h0
    obtain ⟨D, rfl, hD, -⟩ := hop rfl
    obtain ⟨hck, hle, -⟩ := sightE_ok hr
    have Hm := Lib.hid ((checkP_iff m).1 hck)
    have hms := Hm.out.sz
    have Hn := Lib.hid hn; have Hle := Lib.hid (hn.symm.trans hle)
    rw [if_pos rfl] at hx
    have Hx := Lib.hid hx
    have HD := Lib.hid hD; have HA := Lib.hid (hA.ext hE1)
    obtain ⟨k0, k1⟩ := hM1.c2
    clear hx hr hD hck hle hn hop hA
    go_wp2_with fail
    clear k0 k1
    go_loopw [8, 22] (fun v i wr => ∃ k : Nat, k ≤ m.shafts.length ∧ i = .int .i64 (k : Int) ∧ Hid (OwnI wr w1.heap.size 3 v (clrL m l k)) ∧ Ext w1 wr) (fun _ i _ => m.shafts.length - (intOf i).toNat)
    case atStart => exact ⟨0, Nat.zero_le _, rfl, Lib.hid (OwnI.nil _ _ _), Ext.refl _⟩
    case round =>
      obtain ⟨k, hk, rfl, hO, he⟩ := hrel
      by_cases hlt : k < m.shafts.length
      · obtain ⟨q, hq⟩ : ∃ q, clrB m (sightF l) k = q := ⟨_, rfl⟩
        have hcl := Lib.hid (cleared_any D m Hm.out A c n l Hn.out Hle.out k hlt q hq wr (HD.out.ext he) (HA.out.ext he))
        have hs := clrL_succ m l k
        rw [hq] at hs
        have hlen := clrL_len m l k
        clear hq
        go_wp2_with fail
        refine hcl.out.mono ?_
        rintro e w4 ⟨rfl, rfl⟩
        cases q with
        | false =>
          simp only [Bool.false_eq_true, if_false] at hs
          have Hs := Lib.hid hs
          clear hs hcl
          go_wp2_with fail
          go_roundw
          case rel => exact ⟨k + 1, by omega, by go_num, by rw [Hs.out]; exact hO, he⟩
          case measure => simp [intOf]; omega
        | true =>
          simp only [if_true] at hs
          have Hs' := Lib.hid hs
          have hX := Ext.alloc wr (.cells #[.int .i64 (k : Int)] 3)
          have hsrc := Src.one wr (.int .i64 (k : Int)) 3
          have hO3 := hO.out
          have hOX := hO3.ext hX
          have hsz := he.size
          have hszX := hX.size
          obtain ⟨A3, c3, rfl, r1, r2, r3, r4, r5⟩ := hO3.open_
          have Hw : Hid (∀ v' w', w'.ownsRow w1.heap.size 3 1 v' ((clrL m l k).length + 1) ((clrL m l k).map (Value.int .i64) ++ [.int .i64 (k : Int)]) → (wr.alloc (.cells #[.int .i64 (k : Int)] 3)).grownBy w' (Value.slice A3 (clrL m l k).length c3).ownBlock → OwnI w' w1.heap.size 3 v' (clrL m l (k + 1)) ∧ Ext w1 w') := by
            intro v' w' hown hg
            refine ⟨by unfold OwnI; rw [Hs'.out, List.length_append, List.map_append]; exact hown, ext_grown he hg fun j hj => (hO3.own_lt j hj).1⟩
          clear r3 r4 r5 hO3 hs hO hcl
          go_wp2_with (at_builtin; refine wpList_app rfl _ _ 31 rfl w1.heap.size 3 ti (.int .i64 0) 1 8 Tryz.underlying31 hi hz0 hz1 hz2 rfl (by decide) (.slice A3 (clrL m l k).length c3) (clrL m l k).length _ rfl hOX (some ⟨wr.heap.size, 0, none⟩) 1 1 [.int .i64 (k : Int)] rfl rfl hsrc ?c2 ?c3 ?c4 ?c5 ?_; (case c2 => (intro u hu; rw [List.mem_singleton] at hu; subst hu; rfl)); (case c3 => (unfold maxLen; omega)); (case c4 => omega); (case c5 => omega); intro v' w5 hown hg hblk; have HO := Lib.hid (Hw.out v' w5 hown hg); clear hown hg hblk)
          go_roundw
          case rel => exact ⟨k + 1, by omega, by go_num, HO.out.1, HO.out.2⟩
          case measure => simp [intOf]; omega
      · obtain rfl : k = m.shafts.length := by omega
        go_wp2_with fail
        go_ret2
        exact ⟨_, rfl, by rw [← Hx.out]; exact hO.out.mono hE1.size, hE1.trans he⟩
  · obtain rfl : x = [] := by rw [← hx, if_neg h0]
    have hd : (r != 0) = true := by simpa using h0
    clear hx hr hA h0 hop
    go_wp2_with fail
    go_ret2
    exact ⟨_, rfl, OwnI.nil _ _ _, hE1⟩
def explE (m : PM) (l g : List Int) : Int := if sightE m l ≠ 0 then sightE m l else if (g.all fun k => inB k 0 (m.shafts.length - 1)) = false then 1 else if twiceB g = true then 5 else 0
def explQ (m : PM) (l g : List Int) : Bool := if explE m l g = 0 then explB m (sightF l) (natL g) else false
set_option maxRecDepth 20000 in
set_option maxHeartbeats 1000000 in
theorem Explains_any (v : Value) (m : PM) (A : Option Addr) (c n : Nat) (l : List Int) (hn : l.length = n) (B : Option Addr) (d k2 : Nat) (g : List Int) (hk2 : g.length = k2) (r : Int) (x : Bool) (hr : explE m l g = r) (hx : explQ m l g = x) (w : World) (hv : PMVal w v m) (hl : n ≤ maxLen) (hA : IntsAt w A l) (hg2 : k2 ≤ maxLen) (hgc : k2 ≤ d) (hB : IntsAt w B g) :
    Calls Tryz.prog 72 #[v, .slice A n c, .slice B k2 d] w fun e w' => e = .returned (.tuple #[.bool x, .int .i64 r]) ∧ Ext w w' := by
  have hmf : ∀ (fn : Fn) (first cap : Array Value) (w : World), (Instr.makeFunc fn first cap).run Tryz.prog w = .ok (.func fn first cap) w := fun _ _ _ _ => rfl
  subst hk2
  have Hv := Lib.hid hv
  obtain ⟨A1, c1, A2, c2, rfl, h2, h3, h4, h5, h6, h7⟩ := hv
  have hE := Ext.alloc w (.cells #[.slice A1 m.shafts.length c1, .slice A2 m.wvs.length c2] 26)
  have hM := Blk.new w 26 #[.slice A1 m.shafts.length c1, .slice A2 m.wvs.length c2]
  obtain ⟨k0, k1⟩ := hM.c2
  have HM := Lib.hid hM
  obtain ⟨r0, hr0⟩ : ∃ r0, sightE m l = r0 := ⟨_, rfl⟩
  have ho := Lib.hid (sighted_any _ m A c n l hn r0 hr0 _ (Hv.out.ext hE) hl (hA.ext hE))
  have Hr := Lib.hid hr; have Hx := Lib.hid hx; have Hr0 := Lib.hid hr0
  clear h6 h7 hM hr hx hr0
  go_enter Tryz.func72, Tryz.ntmps72
  go_wp2_with fail
  refine ho.out.mono ?_
  rintro e w1 ⟨pv, rfl, he1, hop⟩
  have hE1 := hE.trans he1
  have hM1 := HM.out.ext he1
  clear k0 k1 ho
  by_cases h0 : r0 = 0
  · subst h0
    obtain ⟨D, rfl, hD, -⟩ := hop rfl
    obtain ⟨hck, hle, -⟩ := sightE_ok Hr0.out
    have Hm := Lib.hid ((checkP_iff m).1 hck)
    have hms := Hm.out.sz
    have Hn := Lib.hid hn; have Hle := Lib.hid (hn.symm.trans hle)
    have HD := Lib.hid hD; have HA := Lib.hid (hA.ext hE1); have HB := Lib.hid (hB.ext hE1)
    obtain ⟨k0, k1⟩ := hM1.c2
    obtain ⟨q, hq⟩ : ∃ q, (g.all fun k => inB k 0 (m.shafts.length - 1)) = q := ⟨_, rfl⟩
    have Hq := Lib.hid hq
    have hev := everyI 134 #[.agg #[.slice A1 m.shafts.length c1, .slice A2 m.wvs.length c2]] #[] (enters_of Tryz.func134 (by kernel_rfl) rfl) (fun k => inB k 0 (m.shafts.length - 1)) B d g w1 hg2 HB.out
      (fun y _ => fun W' v' hW' hv' => by
        obtain rfl : v' = .int .i64 y := hv'
        exact pshaft_any _ m y _ rfl W' (Hv.out.ext (hE1.trans hW')))
    rw [hq] at hev
    have Hev := Lib.hid hev
    clear hD hck hle hn hop hA hB hq hev
    go_wp2_with fail
    refine Hev.out.mono ?_
    rintro e w2 ⟨rfl, he2⟩
    have hE2 := hE1.trans he2
    cases q with
    | false =>
      obtain rfl : r = 1 := by rw [← Hr.out]; unfold explE; rw [if_neg (by simp [Hr0.out]), if_pos Hq.out]
      obtain rfl : x = false := by rw [← Hx.out]; unfold explQ; rw [Hr.out]; rfl
      go_wp2_with fail
      go_ret2
      exact ⟨rfl, hE2⟩
    | true =>
      obtain ⟨q2, hq2⟩ : ∃ q2, twiceB g = q2 := ⟨_, rfl⟩
      have Hq2 := Lib.hid hq2
      have htw := Lib.hid (twice_any B d g q2 hq2 w2 hg2 hgc (HB.out.ext he2))
      clear hq2
      go_wp2_with fail
      refine htw.out.mono ?_
      rintro e w3 ⟨rfl, rfl⟩
      cases q2 with
      | true =>
        obtain rfl : r = 5 := by rw [← Hr.out]; unfold explE; rw [if_neg (by simp [Hr0.out]), if_neg (by simp [Hq.out]), if_pos Hq2.out]
        obtain rfl : x = false := by rw [← Hx.out]; unfold explQ; rw [Hr.out]; rfl
        go_wp2_with fail
        go_ret2
        exact ⟨rfl, hE2⟩
      | false =>
        obtain rfl : r = 0 := by rw [← Hr.out]; unfold explE; rw [if_neg (by simp [Hr0.out]), if_neg (by simp [Hq.out]), if_neg (by simp [Hq2.out])]
        have hex := Lib.hid (explain_any D m Hm.out A c n l Hn.out Hle.out B d g.length g rfl (fun y hy => by
          have := inB_iff.1 (List.all_eq_true.1 Hq.out y hy); omega) hg2 x (by rw [← Hx.out]; unfold explQ; rw [if_pos Hr.out]) w2 (HD.out.ext he2) (HA.out.ext he2) (HB.out.ext he2))
        go_wp2_with fail
        refine hex.out.mono ?_
        rintro e w4 ⟨rfl, he4⟩
        go_wp2_with fail
        go_ret2
        exact ⟨rfl, hE2.trans he4⟩
  · obtain rfl : r = r0 := by rw [← Hr.out]; unfold explE; rw [if_pos (by rw [Hr0.out]; exact h0), Hr0.out]
    obtain rfl : x = false := by rw [← Hx.out]; unfold explQ; rw [Hr.out, if_neg h0]
    have hd : (r != 0) = true := by simpa using h0
    clear hA h0 hop
    go_wp2_with fail
    go_ret2
    exact ⟨rfl, hE1⟩
set_option maxRecDepth 20000 in
theorem slipped1_any (D Db Sb : Nat) (m : PM) (hm : POk m) (A : Option Addr) (c n : Nat) (l : List Int) (hn : l.length = n) (hl : n = m.wvs.length) (w : World) (hDb : Blk w Db 135 #[.pointer (some ⟨D, 0, none⟩)]) (hSb : Blk w Sb 30 #[.slice A n c]) (hD : DeskAt w D m) (hA : IntsAt w A l) (g : List Nat) (hg : Up m.shafts.length 0 g) :
    Tells Tryz.prog w 98 #[] #[.pointer (some ⟨Db, 0, none⟩), .pointer (some ⟨Sb, 0, none⟩)] (fun W v l => SlI W v (ints l)) g (explB m (sightF l) g) := by
  intro W v hW hv
  obtain ⟨B, d, rfl, s1, s2, hB⟩ := hv
  have hlen := ints_length g
  rw [hlen] at s1 ⊢
  have hex := Lib.hid (explain_any D m hm A c n l hn hl B d g.length (ints g) hlen (fun y hy => by
    unfold ints at hy
    obtain ⟨k, hk, rfl⟩ := List.mem_map.1 hy
    have := hg.2 k hk; omega) (Nat.le_trans s1 s2) (explB m (sightF l) g) (by rw [natL_ints]) W (hD.ext hW) (hA.ext hW) hB)
  generalize explB m (sightF l) g = q at *
  have e0 := (hDb.ext hW).c1
  have e1 := (hSb.ext hW).c1
  clear hDb hSb hD hA hB hlen hn hl
  show Calls Tryz.prog 98 #[_, .pointer (some ⟨Db, 0, none⟩), .pointer (some ⟨Sb, 0, none⟩)] W _
  go_enter Tryz.func98, Tryz.ntmps98
  go_wp2_with fail
  refine hex.out.mono ?_
  rintro e w4 ⟨rfl, he4⟩
  go_wp2_with fail
  go_ret
  exact ⟨rfl, he4⟩
def slipE (m : PM) (l : List Int) : Int := if sightE m l ≠ 0 then sightE m l else if (Pow.firstF m.shafts.length (explB m (sightF l))).isNone then 7 else 0
def slipL (m : PM) (l : List Int) : List Int := if sightE m l ≠ 0 then [] else ints ((Pow.firstF m.shafts.length (explB m (sightF l))).getD [])
set_option maxRecDepth 20000 in
theorem Slipped_any (v : Value) (m : PM) (A : Option Addr) (c n : Nat) (l : List Int) (hn : l.length = n) (r : Int) (x : List Int) (hr : slipE m l = r) (hx : slipL m l = x) (w : World) (hv : PMVal w v m) (hl : n ≤ maxLen) (hA : IntsAt w A l) :
    Calls Tryz.prog 24 #[v, .slice A n c] w fun e w' => ∃ u, e = .returned (.tuple #[u, .int .i64 r]) ∧ OwnI w' w.heap.size 3 u x ∧ Ext w w' := by
  have hmf : ∀ (fn : Fn) (first cap : Array Value) (w : World), (Instr.makeFunc fn first cap).run Tryz.prog w = .ok (.func fn first cap) w := fun _ _ _ _ => rfl
  have Hv := Lib.hid hv
  obtain ⟨A1, c1, A2, c2, rfl, h2, h3, h4, h5, h6, h7⟩ := hv
  have hE : Ext w ((w.alloc (.cells #[.slice A1 m.shafts.length c1, .slice A2 m.wvs.length c2] 26)).alloc (.cells #[.slice A n c] 30)) := (Ext.alloc _ _).trans (Ext.alloc _ _)
  have hM := (Blk.new w 26 #[.slice A1 m.shafts.length c1, .slice A2 m.wvs.length c2]).alloc (.cells #[.slice A n c] 30)
  have hSb := Blk.new (w.alloc (.cells #[.slice A1 m.shafts.length c1, .slice A2 m.wvs.length c2] 26)) 30 #[.slice A n c]
  rw [World.size_alloc] at hSb
  obtain ⟨k0, k1⟩ := hM.c2
  have e0 := hSb.c1
  have HM := Lib.hid hM; have HSb := Lib.hid hSb
  obtain ⟨r0, hr0⟩ : ∃ r0, sightE m l = r0 := ⟨_, rfl⟩
  have ho := Lib.hid (sighted_any _ m A c n l hn r0 hr0 _ (Hv.out.ext hE) hl (hA.ext hE))
  have Hr := Lib.hid hr; have Hx := Lib.hid hx; have Hr0 := Lib.hid hr0
  clear h6 h7 hM hr hx hr0 hSb
  go_enter Tryz.func24, Tryz.ntmps24
  go_wp2_with fail
  refine ho.out.mono ?_
  rintro e w1 ⟨pv, rfl, he1, hop⟩
  have hE1 := hE.trans he1
  have hM1 := HM.out.ext he1
  have hS1 := HSb.out.ext he1
  clear k0 k1 ho e0
  have hX := Ext.alloc w1 (.cells #[.pointer pv] 135)
  by_cases h0 : r0 = 0
  · subst h0
    obtain ⟨D, rfl, hD, -⟩ := hop rfl
    obtain ⟨hck, hle, -⟩ := sightE_ok Hr0.out
    have hm := (checkP_iff m).1 hck
    have hms := hm.sz
    have hDb := Blk.new w1 135 #[.pointer (some ⟨D, 0, none⟩)]
    have hEX := hE1.trans hX
    obtain ⟨k0, k1⟩ := (hM1.ext hX).c2
    have hfi := Lib.hid (first_any m.shafts.length 98 #[] #[.pointer (some ⟨w1.heap.size, 0, none⟩), .pointer (some ⟨w.heap.size + 1, 0, none⟩)] (explB m (sightF l)) (by omega) _ (enters_of Tryz.func98 (by kernel_rfl) rfl)
      (fun g hg => slipped1_any D w1.heap.size (w.heap.size + 1) m hm A c n l hn (hn.symm.trans hle) _ hDb (hS1.ext hX) (hD.ext hX) (hA.ext hEX) g hg))
    have hr2 := Hr.out
    have hx2 := Hx.out
    unfold slipE at hr2
    unfold slipL at hx2
    rw [if_neg (by simp [Hr0.out])] at hr2 hx2
    have Hr2 := Lib.hid hr2; have Hx2 := Lib.hid hx2
    clear hr2 hx2 hDb hX hD hA hM1 hS1 hm hck hle hop hn
    go_wp2_with fail
    refine hfi.out.mono ?_
    rintro e w2 ⟨A3, k3, c3, rfl, he2, hf⟩
    have hE2 := hEX.trans he2
    have hsz := hEX.size
    cases hq : Pow.firstF m.shafts.length (explB m (sightF l)) with
    | none =>
      obtain rfl : r = 7 := by rw [← Hr2.out, hq]; rfl
      obtain rfl : x = [] := by rw [← Hx2.out, hq]; rfl
      rw [Option.isSome_none]
      clear hf hq Hr Hx Hr2 Hx2 hfi
      go_wp2_with fail
      go_ret2
      exact ⟨_, rfl, OwnI.nil _ _ _, hE2⟩
    | some g =>
      obtain rfl : r = 0 := by rw [← Hr2.out, hq]; rfl
      obtain rfl : x = ints g := by rw [← Hx2.out, hq]; rfl
      have hO := (hf g hq).mono hsz
      rw [Option.isSome_some]
      clear hf hq Hr Hx Hr2 Hx2 hfi
      go_wp2_with fail
      go_ret2
      exact ⟨_, rfl, hO, hE2⟩
  · obtain rfl : r = r0 := by rw [← Hr.out]; unfold slipE; rw [if_pos (by rw [Hr0.out]; exact h0), Hr0.out]
    obtain rfl : x = [] := by rw [← Hx.out]; unfold slipL; rw [if_pos (by rw [Hr0.out]; exact h0)]
    have hd : (r != 0) = true := by simpa using h0
    clear hA h0 hop
    go_wp2_with fail
    go_ret2
    exact ⟨_, rfl, OwnI.nil _ _ _, hE1.trans hX⟩
end Go.Proofs.Pet
