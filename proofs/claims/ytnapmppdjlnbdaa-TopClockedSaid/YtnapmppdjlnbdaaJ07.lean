/- Joined texts: TCE, TCF, TCG, TCH. -/
import Derived.Test.YtnapmppdjlnbdaaJ06
import Derived.Test.YtnapmppdjlnbdaaJ03
import Derived.Test.YtnapmppdjlnbdaaJ04
import Derived.BigFrame
namespace Go.Proofs.Pet
set_option linter.unusedSimpArgs false
open Go Go.RowKit Go.Maps Go.WideMaps
open Go.Proofs.Clk (Cl Rd Gp Att whenF whenT readL nextD closedO minD atD)

/-- a desk with the minutes of its readings -/
def WorkC (w : World) (D : Nat) (a : Att) (mv : Value) (Ms : List Nat) : Prop :=
  DeskC w D a mv ∧ Ms.length = a.reads.length ∧ w.ownsRow (D + 1) 140 1 mv Ms.length (Ms.map fun M => .map (some M)) ∧ ∀ i, i < Ms.length → RdMap w a (Ms[i]?.getD 0) i
theorem WorkC.ext {w w' : World} {D : Nat} {a : Att} {mv : Value} {Ms : List Nat} (h : WorkC w D a mv Ms) (he : Ext w w') : WorkC w' D a mv Ms :=
  ⟨h.1.ext he, h.2.1, ownsRow_ext2 h.2.2.1 he, fun i hi => (h.2.2.2 i hi).ext he⟩
theorem WorkC.cell {w : World} {D : Nat} {a : Att} {mv : Value} {Ms : List Nat} (h : WorkC w D a mv Ms) {i : Nat} (hi : i < a.reads.length) :
    ∃ b c, mv = .slice (some ⟨b, 0, none⟩) a.reads.length c ∧ w.cell? ⟨b, i, none⟩ = some (.map (some (Ms[i]?.getD 0))) := by
  obtain ⟨-, hl, hrow, -⟩ := h
  rcases hrow.2 with ⟨_, h0⟩ | ⟨b, cap, cur, rfl, _⟩
  · omega
  · refine ⟨b, cap, by rw [hl], ?_⟩
    rw [hrow.cellAt i (by omega), List.getElem?_map, List.getElem?_eq_getElem (by omega)]
    rfl
theorem all1C2 (w : World) (x : Int) : Calls Try.prog 78 #[.int .i64 x] w fun e w' => e = .returned (.bool true) ∧ Ext w w' := all1C w x w _ (Ext.refl w) rfl
theorem RngD.of_closed {f g : List Int} (hf : f.length = 25) (hr : RngD f) (h : Clk.Closed f g true) : RngD g := by
  have hl := h.le hf
  intro a c ha hc
  have h1 := hl a c ha hc
  have h2 := hl c a hc ha
  have h3 := hr a c ha hc
  have h4 := hr c a hc ha
  have h5 := (h.yes rfl).2 a ha
  -- the way there and back is not below 0
  have h6 : atD g a a ≤ atD g a c + atD g c a := by
    have := Clk.pass_diag (h.len hf) ha hc
    rwa [(h.yes rfl).1] at this
  omega
set_option maxRecDepth 20000 in
set_option maxHeartbeats 8000000 in
theorem readC_any (D : Nat) (a : Att) (mv : Value) (Ms : List Nat) (hok : AttOk a) (f : List Int) (hf : f.length = 25) (hr : RngD f) (c : Nat) (hc : c < a.clocks.length) (s g : Int)
    (hs : (a.clocks[c]?.getD default).sl ≤ s ∧ s ≤ (a.clocks[c]?.getD default).sh) (hg : (a.clocks[c]?.getD default).gl ≤ g ∧ g ≤ (a.clocks[c]?.getD default).gh) (w : World) (hd : WorkC w D a mv Ms) :
    Calls Try.prog 83 #[.pointer (some ⟨D, 0, none⟩), .agg (farA f), .int .i64 (c : Int), .agg #[.int .i64 s, .int .i64 g]] w fun e w' => ∃ f2 q, e = .returned (.tuple #[.agg (farA f2), .bool q]) ∧ f2.length = 25 ∧ (q = true → RngD f2 ∧ nextD a c s g f = some f2) ∧ (q = false → nextD a c s g f = none) ∧ Ext w w' := by
  obtain ⟨ti, hi, hz0, hz1, hz2⟩ := info_parts info_int
  have hX : Ext w (((w.alloc (.cells (farA f) 118)).alloc (.cells #[.int .i64 s, .int .i64 g] 142)).alloc (.cells (farA (List.replicate 25 0)) 118)) := ((Ext.alloc _ _).trans (Ext.alloc _ _)).trans (Ext.alloc _ _)
  have hF : FarAt (((w.alloc (.cells (farA f) 118)).alloc (.cells #[.int .i64 s, .int .i64 g] 142)).alloc (.cells (farA (List.replicate 25 0)) 118)) w.heap.size f := ⟨((Blk.new w 118 (farA f)).alloc _).alloc _, hf⟩
  have hS : Blk (((w.alloc (.cells (farA f) 118)).alloc (.cells #[.int .i64 s, .int .i64 g] 142)).alloc (.cells (farA (List.replicate 25 0)) 118)) (w.heap.size + 1) 142 #[.int .i64 s, .int .i64 g] := by
    have := (Blk.new (w.alloc (.cells (farA f) 118)) 142 #[.int .i64 s, .int .i64 g]).alloc (.cells (farA (List.replicate 25 0)) 118)
    rwa [World.size_alloc] at this
  have hR : FarAt (((w.alloc (.cells (farA f) 118)).alloc (.cells #[.int .i64 s, .int .i64 g] 142)).alloc (.cells (farA (List.replicate 25 0)) 118)) (w.heap.size + 1 + 1) (List.replicate 25 0) := ⟨by have := Blk.new ((w.alloc (.cells (farA f) 118)).alloc (.cells #[.int .i64 s, .int .i64 g] 142)) 118 (farA (List.replicate 25 0)); rwa [World.size_alloc, World.size_alloc] at this, rfl⟩
  have hz25 : farA (List.replicate 25 0) = #[.int .i64 0, .int .i64 0, .int .i64 0, .int .i64 0, .int .i64 0, .int .i64 0, .int .i64 0, .int .i64 0, .int .i64 0, .int .i64 0, .int .i64 0, .int .i64 0, .int .i64 0, .int .i64 0, .int .i64 0, .int .i64 0, .int .i64 0, .int .i64 0, .int .i64 0, .int .i64 0, .int .i64 0, .int .i64 0, .int .i64 0, .int .i64 0, .int .i64 0] := rfl
  rw [hz25] at hX hF hR hS
  obtain ⟨A1, c1, A2, c2, A3, c3, hD, -, hRd, -⟩ := hd.1
  obtain ⟨d0, d1, d2, d3, d4, d5, d6⟩ := (hD.ext hX).c7
  have HW := Lib.hid hd
  have HRd := Lib.hid hRd
  have HD := Lib.hid hD
  have Hok := Lib.hid hok
  have Hx := Lib.hid hX
  have HS := Lib.hid hS
  have hmin := hok.mins
  have hrl := hok.nrd
  have hcl := hok.ncl
  have hdl := hD.lt
  have hb1 := Lib.hid (hok.cls _ (show a.clocks[c]?.getD default ∈ a.clocks by rw [List.getElem?_eq_getElem hc]; exact List.getElem_mem hc))
  have Hs := Lib.hid hs; have Hg := Lib.hid hg
  clear hok hd hs hg hX hS hD hRd
  go_enter Try.func83, Try.ntmps83
  go_wp2_with fail
  generalize (((w.alloc _).alloc _).alloc _) = w1 at *
  clear d0 d1 d2 d3 d4 d5 d6
  go_loopw [19] (fun iv wr => ∃ k : Nat, ∃ h, k ≤ a.reads.length ∧ iv = .int .i64 (k : Int) ∧ Hid (RngD h) ∧ Hid (readL a c s g (a.reads.drop k) h = readL a c s g a.reads f) ∧ Hid (FarAt wr w.heap.size h) ∧ Hid (FarAt wr (w.heap.size + 1 + 1) (List.replicate 25 0)) ∧ Hid (Blk wr (w.heap.size + 1) 142 #[.int .i64 s, .int .i64 g]) ∧ Hid (Ext w wr)) (fun iv _ => a.reads.length - (intOf iv).toNat)
  case atStart => exact ⟨0, f, Nat.zero_le _, rfl, Lib.hid hr, Lib.hid rfl, hF, hR, HS, Hx⟩
  case round =>
    clear hF hR HS Hx hr
    obtain ⟨k, h, hk, rfl, hr, hL, hF, hR, hS, hE⟩ := hrel
    have hhl := hF.out.2
    by_cases hlk : k < a.reads.length
    · -- <<A
      obtain ⟨rb, ro, er, r0, r1, r2⟩ := HRd.out.ext hE.out k hlk
      subst er
      have hmem : a.reads[k]?.getD default ∈ a.reads := by rw [List.getElem?_eq_getElem hlk]; exact List.getElem_mem hlk
      obtain ⟨hs1, hs2, hs3⟩ := Hok.out.rds _ hmem
      have hdr : a.reads.drop k = a.reads[k]?.getD default :: a.reads.drop (k + 1) := by
        rw [List.drop_eq_getElem_cons hlk, List.getElem?_eq_getElem hlk]; rfl
      have hL2 := hL.out
      rw [hdr, readL] at hL2
      obtain ⟨x, hx⟩ : ∃ x, a.reads[k]?.getD default = x := ⟨_, rfl⟩
      rw [hx] at r0 r1 r2 hs1 hs2 hs3 hL2
      have Hx := Lib.hid hx
      obtain ⟨cN, hcN⟩ : ∃ n : Nat, x.clock = (n : Int) := ⟨x.clock.toNat, by omega⟩
      obtain ⟨ev, hev⟩ : ∃ n : Nat, x.event = (n : Int) := ⟨x.event.toNat, by omega⟩
      obtain ⟨sw, hsw⟩ : ∃ n, x.shows = n := ⟨_, rfl⟩
      have HcN := Lib.hid hcN
      have Hsw := Lib.hid hsw
      have hev4 : ev < 4 := by have := Hok.out.evs; omega
      rw [hcN] at r0 hL2; rw [hev] at r1 hL2; rw [hsw] at r2 hL2
      rw [Int.toNat_natCast] at hL2
      have HL2 := Lib.hid hL2
      have hX1 := Ext.alloc wr (.cells #[.int .i64 (cN : Int), .int .i64 (ev : Int), .int .i64 sw] 66)
      have hB := Blk.new wr 66 #[.int .i64 (cN : Int), .int .i64 (ev : Int), .int .i64 sw]
      obtain ⟨k0, k1, k2⟩ := hB.c3
      have hF1 := Lib.hid (hF.out.ext hX1)
      have hR1 := Lib.hid (hR.out.ext hX1)
      have hS1 := Lib.hid (hS.out.ext hX1)
      have hE1 := Lib.hid (hE.out.trans hX1)
      obtain ⟨d0, d1, d2, d3, d4, d5, d6⟩ := (HD.out.ext hE1.out).c7
      have hRl := hR.out.1.lt
      clear hx hsw hev hcN hL2 hdr hmem hL hF hR hS hE hs1 hs2 hs3 hX1
      by_cases hne : cN = c
      · -- <<B
        subst hne
        have hcmp : ((cN : Int) != (cN : Int)) = false := by simp
        have hal := Lib.hid (all1C2 (wr.alloc (.cells #[.int .i64 (cN : Int), .int .i64 (ev : Int), .int .i64 sw] 66)) (k : Int))
        go_wp2_with fail
        refine hal.out.mono ?_
        rintro e w2 ⟨rfl, he2⟩
        obtain ⟨R, hR0⟩ : ∃ R, wr.heap.size = R := ⟨_, rfl⟩
        rw [hR0] at hB k0 k1 k2 ⊢
        have HB := Lib.hid (hB.ext he2)
        have HF2 := Lib.hid (hF1.out.ext he2)
        have HR2 := Lib.hid (hR1.out.ext he2)
        have HS2 := Lib.hid (hS1.out.ext he2)
        have HE2 := Lib.hid (hE1.out.trans he2)
        have HRw := Lib.hid (show w.heap.size + 1 + 1 < R by have := hRl; omega)
        obtain ⟨g0, gc, hmv, hcell⟩ := (HW.out.ext HE2.out).cell hlk
        have hml : k < Ms.length := by have := HW.out.2.1; omega
        obtain ⟨cnt, fm, hRM, hval⟩ := (HW.out.ext HE2.out).2.2.2 k hml
        have hv0 := hval s g
        rw [Hx.out, HcN.out, Int.toNat_natCast, Hsw.out] at hv0
        have hv := hv0 Hs.out.1 Hs.out.2 Hg.out.1 Hg.out.2
        have hsr : (-1000 ≤ s ∧ s ≤ 1000) ∧ (-1000 ≤ g ∧ g ≤ 1000) := by
          have h1 := hb1.out; have h2 := Hs.out; have h3 := Hg.out
          omega
        obtain ⟨M, hM⟩ : ∃ M, Ms[k]?.getD 0 = M := ⟨_, rfl⟩
        rw [hM] at hcell hRM
        obtain ⟨lo, hlo⟩ : ∃ n, (whenF a s g sw).1 = n := ⟨_, rfl⟩
        obtain ⟨hi', hhi⟩ : ∃ n, (whenF a s g sw).2 = n := ⟨_, rfl⟩
        have HRM := Lib.hid hRM
        have Hlo := Lib.hid hlo
        have Hhi := Lib.hid hhi
        have hlk2 := hRM.look s g hsr.1 hsr.2
        rw [hv, hlo, hhi] at hlk2
        have Hfm := Lib.hid hv
        have hbw := Clk.whenT_lo s g sw (a.minutes + 1).toNat
        have hbw2 := Clk.whenT_has.whenT_bd (s := s) (g := g) (n := sw) 0 0 s g sw (a.minutes + 1).toNat
        have hwf : whenT s g sw (a.minutes + 1).toNat = whenF a s g sw := rfl
        rw [hwf, hlo, hhi] at hbw hbw2
        clear hwf hv hlo hhi hM hval hv0 hRM hml hal hB k0 k1 k2 hF1 hR1 hS1 hE1 hR0 hRl
        obtain ⟨D0, D1, D2, D3, D4, D5, D6⟩ := (HD.out.ext HE2.out).c7
        rw [hmv] at D6
        obtain ⟨q0, q1⟩ := HS2.out.c2
        clear d0 d1 d2 d3 d4 d5 d6 D0 D1 D2 D3 D4 D5 he2
        subst hmv
        go_upto_region 5 with fail
        have HMb := Lib.hid hsr
        refine wp_region_chain 10 [(9, true)] [] (by kernel_rfl) (by kernel_rfl) (by kernel_rfl) ?_
        simp only [List.take, List.drop, fill, Act.put, List.setIfInBounds_toArray, List.set_cons_zero, List.set_cons_succ, Nat.reduceAdd]
        repeat (first
          | refine Floats.mut rfl ?_
          | (apply Floats.float rfl
             · intro x W he hd K Q hK
               try (have he := he (by decide); have D6 := he.cell D6; have hcell := he.cell hcell; have q0 := he.cell q0; have q1 := he.cell q1)
               try simp only [edges, DepsE, List.filter_cons, List.filter_nil, Region.binds, if_true, and_true, true_and, upd, Nat.reduceEqDiff, if_false] at hd
               try simp only [hd] at hK ⊢
               have HK := Lib.hid hK; clear hK
               have lk := (HRM.out.ext he).look s g HMb.out.1 HMb.out.2; rw [Hfm.out, Hlo.out, Hhi.out] at lk
               go_wp2_with fail
               exact HK.out))
        refine Floats.done fun W he hG => ?_
        refine Chain.cons _ rfl ?_
        intro x hd K Q hK
        try simp only [edges, DepsE, List.filter_cons, List.filter_nil, Region.binds, if_true, and_true, true_and, upd, Nat.reduceEqDiff, if_false] at hd
        try simp only [hd] at hK ⊢
        clear hd
        have HK := Lib.hid hK; clear hK
        have hb5 := Ext.alloc W (.cells #[.int .i64 0, .int .i64 0] 52)
        have hn5 := Blk.new W 52 #[.int .i64 0, .int .i64 0]
        have heX := he.trans hb5
        go_wp2_with fail
        refine HK.out _ _ (fun _ => heX) ?_
        clear HK
        refine Chain.nil ?_
        simp only [upd, Nat.reduceEqDiff, if_false, if_true]
        have hX6 := he.trans (Ext.alloc W (.cells #[.int .i64 lo, .int .i64 hi'] 52))
        have hN := Blk.new W 52 #[.int .i64 lo, .int .i64 hi']
        obtain ⟨s0, s1⟩ := hN.c2
        have HF6 := Lib.hid (HF2.out.ext hX6)
        have HR6 := Lib.hid (HR2.out.ext hX6)
        have HS6 := Lib.hid (HS2.out.ext hX6)
        have HE6 := Lib.hid (HE2.out.trans hX6)
        obtain ⟨k0, k1, k2⟩ := (HB.out.ext hX6).c3
        have HB6 := Lib.hid (HB.out.ext hX6)
        have hRW := Lib.hid (show R < W.heap.size by have := (HB.out.ext he).lt; exact this)
        clear hb5 hn5 heX hX6 HF2 HR2 HS2 HE2 HB D6 hcell q0 q1 hlk2
        go_upto_region 6 with fail
        obtain ⟨N, hN0⟩ : ∃ N, W.heap.size = N := ⟨_, rfl⟩
        rw [hN0] at hN s0 s1 hRW ⊢
        have HN := Lib.hid hN
        clear hN0 hN he hG
        generalize W.alloc _ = w6 at *
        by_cases hgt : hi' < lo
        · -- <<E
          have hd : decide (hi' < lo) = true := by simpa using hgt
          have hnx : nextD a cN s g f = none := by
            have h1 := HL2.out
            rw [if_neg (by simp), if_pos (by rw [Hlo.out, Hhi.out]; exact hgt)] at h1
            unfold nextD
            rw [← h1]; rfl
          have Hnx := Lib.hid hnx
          have hRl := HR6.out.1.lt
          clear hnx k0 k1 k2
          go_wp2_with (first
            | refine wpList_farLoad rfl _ rfl w.heap.size rfl h HF6.out ?_
            | refine wpList_farStore rfl _ _ rfl (w.heap.size + 1 + 1) rfl (List.replicate 25 0) h rfl hhl HR6.out ?_)
          have hRn := HR6.out.row hhl
          have hEn : Ext w (w6.setRow (w.heap.size + 1 + 1) (farA h)) := Ext.setRow HE6.out (by omega) _
          refine bodyPost_ret (v := .tuple #[.agg (farA h), .bool false]) ?_ rfl ⟨h, false, rfl, hhl, (fun e => by cases e), (fun _ => Hnx.out), hEn⟩
          have hld := run_loadVar_mid (P := Try.prog) (w6.setRow (w.heap.size + 1 + 1) (farA h)) (w.heap.size + 1 + 1) 0 118 (h.map (Value.int .i64)) _ (fun j v hj => by
            rw [Nat.zero_add, hRn.1.cell]
            unfold farA
            rw [List.getElem?_toArray]; exact hj) Try.underlying118 rfl (by rw [List.length_map, hhl]; kernel_rfl)
          unfold farA at hld ⊢
          simp [results, Try.results83, Sem.run_bind, asAddr, hld]
          -- >>
        · -- <<F
          have hd : decide (hi' < lo) = false := by simpa using hgt
          have hh2 : hi' ≤ 240 ∧ 0 ≤ lo := by have := hbw2 (by omega); omega
          have hL3 : Hid (readL a cN s g (a.reads.drop (k + 1)) (minD (minD h 4 ev hi') ev 4 (-lo)) = readL a cN s g a.reads f) := by
            have h1 := HL2.out
            rw [if_neg (by simp), if_neg (by rw [Hlo.out, Hhi.out]; exact hgt), Hlo.out, Hhi.out] at h1
            exact h1
          have hm4 := hr.out 4 ev (by omega) (by omega)
          obtain ⟨xx, hxx⟩ : ∃ xx, atD h 4 ev = xx := ⟨_, rfl⟩
          rw [hxx] at hm4
          have Hxx := Lib.hid hxx
          have c1 : w6.cell? ⟨w.heap.size, 20 + ev, none⟩ = some (.int .i64 xx) := by rw [← hxx]; exact HF6.out.cell (a := 4) (c := ev) (by omega) (by omega)
          have hlt := HF6.out.1.lt
          clear hxx
          go_upto_region 8 with fail
          have Hh2 := Lib.hid hh2; have Hm4 := Lib.hid hm4
          have HRg := Lib.hid (show hi' ≥ 0 ∧ lo ≤ 240 by omega)
          clear hd hgt hbw hbw2 hh2 hm4 hsr hcmp
          refine wp_region_chain 13 [(9, true), (10, true), (12, true)] [] (by kernel_rfl) (by kernel_rfl) (by kernel_rfl) ?_
          simp only [List.take, List.drop, fill, Act.put, List.setIfInBounds_toArray, List.set_cons_zero, List.set_cons_succ, Nat.reduceAdd]
          repeat (first
            | refine Floats.mut rfl ?_
            | (apply Floats.float rfl
               · intro x W he hd K Q hK
                 try (have he := he (by decide); have k1 := he.cell k1; have s1 := he.cell s1; have c1 := he.cell c1)
                 try simp only [edges, DepsE, List.filter_cons, List.filter_nil, Region.binds, if_true, and_true, true_and, upd, Nat.reduceEqDiff, if_false] at hd
                 try simp only [hd] at hK ⊢
                 have HK := Lib.hid hK; clear hK
                 go_wp2_with fail
                 exact HK.out))
          refine Floats.done fun W he hG => ?_
          refine Chain.cons _ rfl ?_
          intro x hd K Q hK
          try simp only [edges, DepsE, List.filter_cons, List.filter_nil, Region.binds, if_true, and_true, true_and, upd, Nat.reduceEqDiff, if_false] at hd
          try simp only [hd] at hK ⊢
          clear hd
          have HK := Lib.hid hK; clear hK
          have hb5 := Ext.alloc W (.cells #[.int .i64 (hi')] 3)
          have hB5 := Blk.new W 3 #[.int .i64 (hi')]
          have hg := Lib.hid (leastC_any xx (some ⟨W.heap.size, 0, none⟩) 1 1 [hi'] rfl (min xx (hi')) rfl (W.alloc (.cells #[.int .i64 (hi')] 3)) (by simp [maxLen]) (fun k hk => by
            match k, hk with
            | 0, _ => exact ⟨_, 0, rfl, by rw [hB5.cell]; rfl⟩))
          have heX := he.trans hb5
          clear hb5 hB5
          go_wp2_with fail
          refine HK.out _ _ (fun _ => heX) ?_
          clear HK
          refine Chain.cons _ rfl ?_
          intro x hd K Q hK
          try simp only [edges, DepsE, List.filter_cons, List.filter_nil, Region.binds, if_true, and_true, true_and, upd, Nat.reduceEqDiff, if_false] at hd
          try simp only [hd] at hK ⊢
          clear hd
          have HK := Lib.hid hK; clear hK
          go_wp2_with fail
          refine hg.out.mono ?_
          rintro e w5 ⟨rfl, rfl⟩
          clear hg
          go_wp2_with fail
          refine HK.out _ _ (fun _ => heX) ?_
          clear HK
          refine Chain.cons _ rfl ?_
          intro x hd K Q hK
          try simp only [edges, DepsE, List.filter_cons, List.filter_nil, Region.binds, if_true, and_true, true_and, upd, Nat.reduceEqDiff, if_false] at hd
          try simp only [hd] at hK ⊢
          clear hd
          have HK := Lib.hid hK; clear hK
          go_wp2_with fail
          refine HK.out _ _ (fun _ => heX) ?_
          clear HK
          refine Chain.nil ?_
          simp only [upd, Nat.reduceEqDiff, if_false, if_true]
          have cc4 := heX.cell c1
          have cf4 := (HF6.out.ext heX).1.frozen (20 + ev)
          have hF7 : FarAt ((W.alloc (.cells #[.int .i64 (hi')] 3)).setCell ⟨w.heap.size, 20 + ev, none⟩ (.int .i64 (min xx hi'))) w.heap.size (minD h 4 ev hi') := by have := (HF6.out.ext heX).min_ (a := 4) (c := ev) (by omega) (by omega) hi'; rwa [Hxx.out] at this
          have HF7 := Lib.hid hF7
          have HR7 := Lib.hid ((HR6.out.ext heX).far (show w.heap.size + 1 + 1 ≠ w.heap.size by omega) (i := 20 + ev) (.int .i64 (min xx hi')))
          have HS7 := Lib.hid ((HS6.out.ext heX).far (p := ⟨w.heap.size, 20 + ev, none⟩) (show w.heap.size + 1 ≠ w.heap.size by omega) (.int .i64 (min xx hi')))
          have HB7 := Lib.hid ((HB6.out.ext heX).far (p := ⟨w.heap.size, 20 + ev, none⟩) (show R ≠ w.heap.size by have := HRw.out; omega) (.int .i64 (min xx hi')))
          have HN7 := Lib.hid ((HN.out.ext heX).far (p := ⟨w.heap.size, 20 + ev, none⟩) (show N ≠ w.heap.size by have := HRw.out; have := hRW.out; omega) (.int .i64 (min xx hi')))
          have HE7 := Lib.hid (Below.setCell (HE6.out.trans heX) (p := ⟨w.heap.size, 20 + ev, none⟩) (Nat.le_refl _) (.int .i64 (min xx hi')))
          have hr7 := RngD.min_ hhl hr.out (show 4 < 5 by omega) (show ev < 5 by omega) (v := hi') (by have := Hh2.out; have := HRg.out; omega)
          clear hF7 HF6 HR6 HS6 HB6 HN HE6 k0 k1 k2 s0 s1 c1
          go_upto_region 9 with fail
          generalize World.setCell _ _ _ = w7 at *
          clear cc4 cf4 he hG heX
          have hf7l := HF7.out.2
          obtain ⟨f7, hf7⟩ : ∃ f7, minD h 4 ev hi' = f7 := ⟨_, rfl⟩
          rw [hf7] at HF7 hr7 hL3 hf7l
          have hby := hr7 ev 4 (by omega) (by omega)
          have c1 := HF7.out.cell (a := ev) (c := 4) (by omega) (by omega)
          obtain ⟨yy, hyy⟩ : ∃ yy, atD f7 ev 4 = yy := ⟨_, rfl⟩
          rw [hyy] at c1 hby
          have Hyy := Lib.hid hyy
          have Hr7 := Lib.hid hr7
          obtain ⟨k0, k1, k2⟩ := HB7.out.c3
          obtain ⟨s0, s1⟩ := HN7.out.c2
          have Hby := Lib.hid hby
          clear hyy hf7 hr7 hby
          have hlb : 0 ≤ lo ∧ lo ≤ 240 := by have := Hh2.out; have := HRg.out; omega
          refine wp_region_chain 14 [(10, true), (11, true), (13, true)] [] (by kernel_rfl) (by kernel_rfl) (by kernel_rfl) ?_
          simp only [List.take, List.drop, fill, Act.put, List.setIfInBounds_toArray, List.set_cons_zero, List.set_cons_succ, Nat.reduceAdd]
          repeat (first
            | refine Floats.mut rfl ?_
            | (apply Floats.float rfl
               · intro x W he hd K Q hK
                 try (have he := he (by decide); have k1 := he.cell k1; have s0 := he.cell s0; have c1 := he.cell c1)
                 try simp only [edges, DepsE, List.filter_cons, List.filter_nil, Region.binds, if_true, and_true, true_and, upd, Nat.reduceEqDiff, if_false] at hd
                 try simp only [hd] at hK ⊢
                 have HK := Lib.hid hK; clear hK
                 go_wp2_with fail
                 exact HK.out))
          refine Floats.done fun W he hG => ?_
          refine Chain.cons _ rfl ?_
          intro x hd K Q hK
          try simp only [edges, DepsE, List.filter_cons, List.filter_nil, Region.binds, if_true, and_true, true_and, upd, Nat.reduceEqDiff, if_false] at hd
          try simp only [hd] at hK ⊢
          clear hd
          have HK := Lib.hid hK; clear hK
          have hb5 := Ext.alloc W (.cells #[.int .i64 (-lo)] 3)
          have hB5 := Blk.new W 3 #[.int .i64 (-lo)]
          have hg := Lib.hid (leastC_any yy (some ⟨W.heap.size, 0, none⟩) 1 1 [-lo] rfl (min yy (-lo)) rfl (W.alloc (.cells #[.int .i64 (-lo)] 3)) (by simp [maxLen]) (fun k hk => by
            match k, hk with
            | 0, _ => exact ⟨_, 0, rfl, by rw [hB5.cell]; rfl⟩))
          have heX := he.trans hb5
          clear hb5 hB5
          go_wp2_with fail
          refine HK.out _ _ (fun _ => heX) ?_
          clear HK
          refine Chain.cons _ rfl ?_
          intro x hd K Q hK
          try simp only [edges, DepsE, List.filter_cons, List.filter_nil, Region.binds, if_true, and_true, true_and, upd, Nat.reduceEqDiff, if_false] at hd
          try simp only [hd] at hK ⊢
          clear hd
          have HK := Lib.hid hK; clear hK
          go_wp2_with fail
          refine hg.out.mono ?_
          rintro e w5 ⟨rfl, rfl⟩
          clear hg
          go_wp2_with fail
          refine HK.out _ _ (fun _ => heX) ?_
          clear HK
          refine Chain.cons _ rfl ?_
          intro x hd K Q hK
          try simp only [edges, DepsE, List.filter_cons, List.filter_nil, Region.binds, if_true, and_true, true_and, upd, Nat.reduceEqDiff, if_false] at hd
          try simp only [hd] at hK ⊢
          clear hd
          have HK := Lib.hid hK; clear hK
          go_wp2_with fail
          refine HK.out _ _ (fun _ => heX) ?_
          clear HK
          refine Chain.nil ?_
          simp only [upd, Nat.reduceEqDiff, if_false, if_true]
          have cc4 := heX.cell c1
          have cf4 := (HF7.out.ext heX).1.frozen (ev * 5 + 4)
          have hF8 : FarAt ((W.alloc (.cells #[.int .i64 (-lo)] 3)).setCell ⟨w.heap.size, ev * 5 + 4, none⟩ (.int .i64 (min yy (-lo)))) w.heap.size (minD f7 ev 4 (-lo)) := by have := (HF7.out.ext heX).min_ (a := ev) (c := 4) (by omega) (by omega) (-lo); rwa [Hyy.out] at this
          have HF8 := Lib.hid hF8
          have HR8 := Lib.hid ((HR7.out.ext heX).far (show w.heap.size + 1 + 1 ≠ w.heap.size by omega) (i := ev * 5 + 4) (.int .i64 (min yy (-lo))))
          have HS8 := Lib.hid ((HS7.out.ext heX).far (p := ⟨w.heap.size, ev * 5 + 4, none⟩) (show w.heap.size + 1 ≠ w.heap.size by omega) (.int .i64 (min yy (-lo))))
          have HE8 := Lib.hid (Below.setCell (Ext.trans HE7.out heX) (p := ⟨w.heap.size, ev * 5 + 4, none⟩) (Nat.le_refl _) (.int .i64 (min yy (-lo))))
          have Hr8 := Lib.hid (RngD.min_ hf7l Hr7.out (show ev < 5 by omega) (show 4 < 5 by omega) (v := -lo) (by have := Hh2.out; have := HRg.out; omega))
          clear hF8 HF7 HR7 HS7 HB7 HN7 HE7 k0 k1 k2 s0 s1 c1
          go_upto_region 10 with fail
          generalize World.setCell _ _ _ = w8 at *
          go_wp2_with fail
          go_roundw
          case rel => exact ⟨k + 1, minD f7 ev 4 (-lo), by omega, by go_num, Hr8, hL3, HF8, HR8, HS8, HE8⟩
          case measure => simp [intOf]; omega
          -- >>
        -- >>
      · -- <<C
        have hcmp : ((cN : Int) != (c : Int)) = true := by simp; omega
        go_wp2_with fail
        go_roundw
        case rel => exact ⟨k + 1, h, by omega, by go_num, hr, Lib.hid (by have := HL2.out; rwa [if_pos (by omega)] at this), hF1, hR1, hS1, hE1⟩
        case measure => simp [intOf]; omega
        -- >>
      -- >>
    · -- <<Z
      obtain rfl : k = a.reads.length := by omega
      have hL' : readL a c s g a.reads f = some h := by rw [← hL.out, List.drop_length]; rfl
      have HL := Lib.hid hL'
      have hcl := Lib.hid (closedC_any h hhl hr.out wr)
      have hfl := hF.out.1.lt
      have hRlt := hR.out.1.lt
      clear hL'
      go_wp2_with (refine wpList_farLoad rfl _ rfl w.heap.size rfl h hF.out ?_)
      refine hcl.out.mono ?_
      rintro e w2 ⟨h2, q, rfl, hc2, he2⟩
      have h2l := hc2.len hhl
      have Hc2 := Lib.hid hc2
      have HR2 := hR.out.ext he2
      have HE2 := Lib.hid (hE.out.trans he2)
      clear hcl hc2
      go_wp2_with (first
        | refine wpList_farStore rfl _ _ rfl (w.heap.size + 1 + 1) rfl (List.replicate 25 0) h2 rfl h2l HR2 ?_)
      have hRn := HR2.row h2l
      have hEn : Ext w (w2.setRow (w.heap.size + 1 + 1) (farA h2)) := Ext.setRow HE2.out (by omega) _
      have hnx : nextD a c s g f = if q = true then some h2 else none := by
        unfold nextD
        rw [HL.out]
        exact Clk.closedO_of hhl Hc2.out
      refine bodyPost_ret (v := .tuple #[.agg (farA h2), .bool q]) ?_ rfl ⟨h2, q, rfl, h2l, (fun e => by subst e; exact ⟨RngD.of_closed hhl hr.out Hc2.out, hnx⟩), (fun e => by subst e; exact hnx), hEn⟩
      have hld := run_loadVar_mid (P := Try.prog) (w2.setRow (w.heap.size + 1 + 1) (farA h2)) (w.heap.size + 1 + 1) 0 118 (h2.map (Value.int .i64)) _ (fun j v hj => by
        rw [Nat.zero_add, hRn.1.cell]
        unfold farA
        rw [List.getElem?_toArray]; exact hj) Try.underlying118 rfl (by rw [List.length_map, h2l]; kernel_rfl)
      unfold farA at hld ⊢
      simp [results, Try.results83, Sem.run_bind, asAddr, hld]
      -- >>
end Go.Proofs.Pet

namespace Go.Proofs.Pet
open Go Go.RowKit Go.Maps Go.Shelf
open Go.Proofs.Clk (Cl Rd Gp Att whenF whenT readL nextD closedO minD atD casesF upTo freeD foundL)

section
variable {α : Type} {F : Fence} {n : Nat} {P : Program} {encs : α → Array Value} {Kp Tn : World → World → Prop} {S : List α → Prop} {N : Nat}
theorem wpIn_rangeE {g : Operand} {ps : Array Tmp} {assign body : Code} {Q : Exit → Act → World → Prop} {a : Act} {w w0 : World} {gf : Nat} {lb : Array Value}
    (hro : F.round = none) (h1 : 1 ≤ n) (hg : a.eval g = .func (.func gf) #[] lb) (hFg : F.fn gf) (eg : Enters P gf) (hseq : SeqT F (n - 1) P gf lb encs Kp Tn S N w0) (hb0 : Below w0.heap.size w0 w)
    (hKt : ∀ {A B C : World}, Kp A B → Kp B C → Kp A C) (hKb : ∀ (W : World) (l : Nat) (o o' : Obj), w.heap.size ≤ l → W.heap[l]? = some o → o.isCells = false → o.isWalk = false → Kp W (W.putObj l o'))
    (hTw : ∀ X Y, Tn X Y → ∀ k, w.heap.size ≤ k → k < X.heap.size → Y.heap[k]? = X.heap[k]?) (hps : ∀ x, (encs x).size = ps.size)
    (hKx : ∀ X Y, Ext X Y → w.heap.size ≤ X.heap.size → Kp X Y) (I : List α → World → Prop) (hI : OwnFrom w.heap.size I) (hIT : ∀ s X Y, I s X → Tn X Y → I s Y) (hIE : ∀ s X Y, I s X → Ext X Y → I s Y) (h0 : I [] w) (Ax : α → Nat → World → Prop) (hAx : ∀ x b X l o o', X.heap[l]? = some o → o.isCells = false → Ax x b X → Ax x b (X.putObj l o')) (a₁ : α → Nat → Act)
    (hassign : ∀ (l : Nat) (x : α) (W : World) (K : Act → World → Prop), (∀ W', Ext W W' → Ax x W.heap.size W' → K (a₁ x W.heap.size) W') →
      assign.wpIn (F.inRound l) (n - 1 - 1) P (Exit.then K (fun _ _ _ => False)) { tmps := (ps.zip (encs x)).foldl (fun t (p, v) => t.setIfInBounds p v) a.tmps, defers := [] } W)
    (hbody : ∀ (l : Nat) (pre : List α) (x : α) (b : Nat) (W : World), I pre W → Ax x b W → w.heap.size ≤ b → pre.length < N → body.wpIn (F.inRound l) (n - 1 - 1) P (ownPostG w.heap.size Kp I (fun _ _ _ => False) (pre ++ [x]) W) (a₁ x b) W)
    (hdone : ∀ (D : Nat) (xs : List α) (W : World), w.heap.size ≤ D → S xs → I xs W → W.heap[D]? = some (.deferred (some [])) → Q .normal { a with defers := { target := .collected D, args := #[] } :: a.defers } W) :
    (Code.rangeFunc g ps assign body).wpIn F n P Q a w := by
  refine wpIn_rangeFunc fun fn hfn => ?_
  rw [hro]
  -- the two blocks that the loop lays: what the rounds defer, and its record
  let D := w.heap.size
  let wd := w.alloc (.deferred (some []))
  let rc := recT fn a.tmps ps assign body D
  obtain ⟨V, hV⟩ : ∃ V, wd.alloc (.loop (rc .ready)) = V := ⟨_, rfl⟩
  have hsz : wd.heap.size = D + 1 := World.size_alloc ..
  have hrec : V.heap[D + 1]? = some (.loop (rc .ready)) := by
    rw [← hV, ← hsz]; exact World.alloc_heap_new wd _
  have hdef : V.heap[D]? = some (.deferred (some [])) := by
    rw [← hV]; exact (Below.heap_alloc wd _ D (by omega)).trans (World.alloc_heap_new w _)
  have hIV : I [] V := by rw [← hV]; exact hI.alloc _ (hI.alloc _ h0)
  have hbV : Below w0.heap.size w0 V := by
    rw [← hV]
    exact hb0.trans (((Ext.alloc w _).trans (Ext.alloc wd _)).mono hb0.size)
  have hVD : D + 2 ≤ V.heap.size := by rw [← hV, World.size_alloc, hsz]; omega
  refine ⟨D + 1, [{ target := .collected D, args := #[] }], V, { target := .fn (.func gf) lb, args := #[.func (.yield (D + 1)) #[] #[]] }, V, gf, #[.func (.yield (D + 1)) #[] #[]] ++ lb, V, ?_, ?_, ?_, ?_, fun _ => h1, ?_⟩
  · rw [← hV]; exact run_enterLoop_outer _ _ _ _ _
  · simp only [resolve, hg]
    simp [go_sem]
  · intro f' hf'
    simp [Target.leads] at hf'
    subst hf'; exact hFg
  · simp [invoke, go_sem, eg _ _]
  · -- what is carried on: the caller's invariant and the two blocks
    have hwalk : ∀ {A B : World} {row : Option Nat}, A.grownBy B row → (∀ r, row = some r → V.heap.size ≤ r ∧ ∃ o : Obj, A.heap[r]? = some o ∧ o.isWalk = true) → ∀ s, I s A → I s B :=
      fun hgr hr s hs => hI s _ _ _ hs hgr fun r e => by
        obtain ⟨q, o, ho, hw⟩ := hr r e
        exact ⟨by omega, o, ho, Obj.not_cells_of_walk hw⟩
    refine (hseq (D + 1) (fun pre W => I pre W ∧ W.heap[D + 1]? = some (.loop (rc .ready)) ∧ W.heap[D]? = some (.deferred (some []))) V hbV ?_ ?_ ?_ ⟨hIV, hrec, hdef⟩).mono ?_
    · intro s A B row ⟨g1, g2, g3⟩ hgr hr
      exact ⟨hwalk hgr hr s g1, (grownBy_keeps hgr (fun r e => (hr r e).2) g2 rfl).trans g2, (grownBy_keeps hgr (fun r e => (hr r e).2) g3 rfl).trans g3⟩
    · intro s X Y ⟨g1, g2, g3⟩ ht
      exact ⟨hIT s X Y g1 ht, (hTw X Y ht _ (by omega) (Array.getElem?_eq_some_iff.1 g2).1).trans g2, (hTw X Y ht _ (Nat.le_refl _) (Array.getElem?_eq_some_iff.1 g3).1).trans g3⟩
    · -- a round
      intro pre x W0 ⟨g1, g2, g3⟩ hlen
      have hlt0 : D + 1 < W0.heap.size := (Array.getElem?_eq_some_iff.1 g2).1
      refine ⟨fn, _, assign, body, run_yield (P := P) (args := encs x) g2 (hps x), roundIn_of_wpIn hfn (hassign _ x W0 _ fun W hWE hAW => ?_)⟩
      have hWsz := hWE.size
      have pK0 : Kp W0 W := hKx _ _ hWE (by omega)
      replace g1 := hIE _ _ _ g1 hWE
      replace g2 := Ext.block hWE g2
      replace g3 := Ext.block hWE g3
      have hlt : D + 1 < W.heap.size := by omega
      refine ⟨_, run_beginRound g2 rfl, ?_⟩
      obtain ⟨B, hB⟩ : ∃ B, W.putObj (D + 1) (.loop (rc .busy)) = B := ⟨_, rfl⟩
      have hB' : W.putObj (D + 1) (.loop { rc .ready with state := .busy }) = B := hB
      rw [hB']
      have p2 : B.heap[D + 1]? = some (.loop (rc .busy)) := by rw [← hB]; exact World.putObj_heap_same hlt
      have p3 : B.heap[D]? = some (.deferred (some [])) := by rw [← hB]; exact (World.putObj_heap_other (by omega)).trans g3
      have pK : Kp W B := by rw [← hB]; exact hKb _ _ _ _ (by omega) g2 rfl rfl
      have pI : I pre B := by rw [← hB]; exact hI.putObj _ g1 (by omega) g2 rfl
      have pA : Ax x W0.heap.size B := by rw [← hB]; exact hAx _ _ _ _ _ _ g2 rfl hAW
      clear hB hB'
      refine wpIn_mono (hbody _ pre x _ B pI pA (by omega) hlen) ?_
      intro e a3 W3 hp
      cases e with
      | normal =>
        obtain ⟨k1, k2, k3⟩ := hp
        have q2 := k1.same _ _ (by omega) p2 rfl
        have q3 := k1.same _ _ (Nat.le_refl _) p3 rfl
        have hend := run_endRound (P := P) none q2
        refine ⟨_, _, hend, rfl, ⟨hI.putObj _ k3 (by omega) q2 rfl, World.putObj_heap_same (Array.getElem?_eq_some_iff.1 q2).1, (World.putObj_heap_other (by omega)).trans q3⟩, hKt (hKt (hKt pK0 pK) k2) (hKb _ _ _ _ (by omega) q2 rfl rfl)⟩
      | ret => exact hp.2.elim
      | exit id => exact hp.2.elim
      | goto t => exact hp.2.elim
      | panic ch => exact hp.elim
      | outgrown => exact hp.elim
    · -- behind the iterator
      rintro e W2 ⟨⟨v, rfl⟩, xs, hS, g1, g2, g3⟩
      exact ⟨none, _, run_endLoop (P := P) g2 (show LoopState.ready ≠ LoopState.busy by decide), hdone D xs _ (Nat.le_refl _) hS (hI.putObj _ g1 (by omega) g2 rfl) ((World.putObj_heap_other (by omega)).trans g3)⟩
end

/-- what a round keeps: what lay at first, and all blocks but those of what is found -/
structure KpF (n1 : Nat) (X Y : World) : Prop where
  below : Below n1 X Y
  blk : ∀ {k : Nat} {t : TypeId} {cs : Array Value}, Blk X k t cs → t ≠ 83 → t ≠ 120 → Blk Y k t cs
theorem KpF.trans {n1 : Nat} {X Y Z : World} (h : KpF n1 X Y) (k : KpF n1 Y Z) : KpF n1 X Z := ⟨h.below.trans k.below, fun hb h1 h2 => k.blk (h.blk hb h1 h2) h1 h2⟩
theorem KpF.of_ext {n1 : Nat} {X Y : World} (h : Ext X Y) (hn : n1 ≤ X.heap.size) : KpF n1 X Y := ⟨h.mono hn, fun hb _ _ => hb.ext h⟩
theorem KpF.ext {n1 : Nat} {w0 X Y : World} (h : KpF n1 X Y) (h0 : Ext w0 X) (hn : w0.heap.size ≤ n1) : Ext w0 Y := Below.trans h0 (h.below.mono hn)
theorem KpF.putObj {n1 l : Nat} {W : World} {o o' : Obj} (hl : n1 ≤ l) (h : W.heap[l]? = some o) (hc : o.isCells = false) : KpF n1 W (W.putObj l o') := by
  refine ⟨⟨rfl, rfl, rfl, Nat.le_of_eq (World.putObj_size).symm, fun k hk => World.putObj_heap_other (by omega)⟩, fun {k t cs} hb _ _ => ?_⟩
  have hne : k ≠ l := by
    intro e; subst e
    unfold Blk at hb
    rw [hb] at h; cases h; cases hc
  exact (World.putObj_heap_other hne).trans hb
/-- the boxes that the cases lean on -/
structure MoreBox (W : World) (D tb yb mb l : Nat) : Prop where
  d : Blk W tb 82 #[.pointer (some ⟨D, 0, none⟩)]
  y : Blk W yb 145 #[.func (.yield l) #[] #[]]
  m : Blk W mb 146 #[.func (.func 81) #[] #[.pointer (some ⟨tb, 0, none⟩), .pointer (some ⟨yb, 0, none⟩), .pointer (some ⟨mb, 0, none⟩)]]
theorem MoreBox.kp {n1 D tb yb mb l : Nat} {X Y : World} (h : MoreBox X D tb yb mb l) (k : KpF n1 X Y) : MoreBox Y D tb yb mb l := ⟨k.blk h.d (by decide) (by decide), k.blk h.y (by decide) (by decide), k.blk h.m (by decide) (by decide)⟩
theorem MoreBox.ext {D tb yb mb l : Nat} {X Y : World} (h : MoreBox X D tb yb mb l) (k : Ext X Y) : MoreBox Y D tb yb mb l := ⟨h.d.ext k, h.y.ext k, h.m.ext k⟩
/-- runs that are kept in a block of their own -/
def RunsAt (w : World) (v : Value) (n : Nat) : Prop := ∃ b xs, w.ownsRow b 142 2 v n xs ∧ xs.all (·.oneCell') = true
theorem RunsAt.ext {w w' : World} {v : Value} {n : Nat} (h : RunsAt w v n) (he : Ext w w') : RunsAt w' v n := by
  obtain ⟨b, xs, h1, h2⟩ := h
  exact ⟨b, xs, ownsRow_ext2 h1 he, h2⟩
theorem RunsAt.kp {n1 : Nat} {w w' : World} {v : Value} {n : Nat} (h : RunsAt w v n) (k : KpF n1 w w') : RunsAt w' v n := by
  obtain ⟨b, xs, ⟨hl, hr⟩, h2⟩ := h
  refine ⟨b, xs, ⟨hl, ?_⟩, h2⟩
  rcases hr with h0 | ⟨g, cap, cur, e, hb, hg, r⟩
  · exact .inl h0
  · exact .inr ⟨g, cap, cur, e, hb, k.blk hg (by decide) (by decide), r⟩
theorem RunsAt.nil (w : World) : RunsAt w (.slice none 0 0) 0 := ⟨0, [], World.ownsRow_nil w 0 _ 2, rfl⟩
theorem RunsAt.slice {w : World} {v : Value} {n : Nat} (h : RunsAt w v n) : ∃ A c, v = .slice A n c := by
  obtain ⟨b, xs, h1, _⟩ := h
  exact ownsRow_slice h1
theorem info_run : (Try.prog.info? 142).map (fun i => (i.zero, i.size, i.bytes)) = some (some (.agg #[.int .i64 0, .int .i64 0]), 2, 16) := by kernel_rfl
end Go.Proofs.Pet

namespace Go.Proofs.Clk
/-- what follows from one set and gain -/
noncomputable def stepF (a : Att) (n c : Nat) (f : List Int) (s g : Int) : List (List Int) := match nextD a c s g f with
  | none => []
  | some f' => casesF a n (c + 1) f'
noncomputable def partG (a : Att) (n c : Nat) (f : List Int) (s gl : Int) (j : Nat) : List (List Int) := (List.range j).flatMap fun i : Nat => stepF a n c f s (gl + (i : Int))
noncomputable def partS (a : Att) (n c : Nat) (f : List Int) (sl gl : Int) (m : Nat) (i : Nat) : List (List Int) := (List.range i).flatMap fun k : Nat => partG a n c f (sl + (k : Int)) gl m
theorem partG_succ (a : Att) (n c : Nat) (f : List Int) (s gl : Int) (j : Nat) : partG a n c f s gl (j + 1) = partG a n c f s gl j ++ stepF a n c f s (gl + (j : Int)) := by
  unfold partG
  rw [List.range_succ, List.flatMap_append, List.flatMap_singleton]
theorem partS_succ (a : Att) (n c : Nat) (f : List Int) (sl gl : Int) (m i : Nat) : partS a n c f sl gl m (i + 1) = partS a n c f sl gl m i ++ partG a n c f (sl + (i : Int)) gl m := by
  unfold partS
  rw [List.range_succ, List.flatMap_append, List.flatMap_singleton]
theorem partG_le (a : Att) (n c : Nat) (f : List Int) (s gl : Int) (j : Nat) : ∀ d, (partG a n c f s gl j).length ≤ (partG a n c f s gl (j + d)).length
  | 0 => Nat.le_refl _
  | d + 1 => by
    have := partG_le a n c f s gl j d
    rw [show j + (d + 1) = (j + d) + 1 by omega, partG_succ, List.length_append]
    omega
theorem partS_le (a : Att) (n c : Nat) (f : List Int) (sl gl : Int) (m i : Nat) : ∀ d, (partS a n c f sl gl m i).length ≤ (partS a n c f sl gl m (i + d)).length
  | 0 => Nat.le_refl _
  | d + 1 => by
    have := partS_le a n c f sl gl m i d
    rw [show i + (d + 1) = (i + d) + 1 by omega, partS_succ, List.length_append]
    omega
theorem cases_parts (a : Att) (n c : Nat) (f : List Int) (sl gl : Int) (ns ng : Nat) (h1 : (a.clocks[c]?.getD default).sl = sl) (h2 : (a.clocks[c]?.getD default).sh = sl + (ns : Int)) (h3 : (a.clocks[c]?.getD default).gl = gl) (h4 : (a.clocks[c]?.getD default).gh = gl + (ng : Int)) :
    casesF a (n + 1) c f = partS a n c f sl gl (ng + 1) (ns + 1) := by
  rw [casesF, h1, h2, h3, h4]
  unfold partS partG upTo
  rw [show (sl + (ns : Int) + 1 - sl).toNat = ns + 1 by omega, show (gl + (ng : Int) + 1 - gl).toNat = ng + 1 by omega, List.flatMap_map]
  simp only [List.flatMap_map]
  rfl
/-- the bound of a part with one step more -/
theorem part_bd (a : Att) (n c : Nat) (f : List Int) (sl gl : Int) (ns ng i j : Nat) (hi : i < ns + 1) (hj : j < ng + 1) :
    (partS a n c f sl gl (ng + 1) i).length + (partG a n c f (sl + (i : Int)) gl j).length + (stepF a n c f (sl + (i : Int)) (gl + (j : Int))).length ≤ (partS a n c f sl gl (ng + 1) (ns + 1)).length := by
  have h1 := partS_le a n c f sl gl (ng + 1) (i + 1) (ns - i)
  rw [show i + 1 + (ns - i) = ns + 1 by omega, partS_succ, List.length_append] at h1
  have h2 := partG_le a n c f (sl + (i : Int)) gl (j + 1) (ng - j)
  rw [show j + 1 + (ng - j) = ng + 1 by omega, partG_succ, List.length_append] at h2
  omega
theorem step_none {a : Att} {n c : Nat} {f : List Int} {s g : Int} (h : nextD a c s g f = none) : stepF a n c f s g = [] := by unfold stepF; rw [h]
theorem step_some {a : Att} {n c : Nat} {f f2 : List Int} {s g : Int} (h : nextD a c s g f = some f2) : stepF a n c f s g = casesF a n (c + 1) f2 := by unfold stepF; rw [h]
end Go.Proofs.Clk
namespace Go.Proofs.Pet
open Go Go.RowKit Go.Maps Go.Shelf
open Go.Proofs.Clk (Cl Rd Gp Att)
theorem cloneRunX (A : Option Addr) (n c : Nat) (xs : List Value) (w : World) (hb : n ≤ 1000) (hl : xs.length = n * 2) (h1 : ∀ u ∈ xs, u.oneCell' = true) (hx : Src w A xs) (hA : A = none → n = 0) :
    Calls Try.prog 82 #[.slice A n c] w fun e w' => ∃ v, e = .returned v ∧ w'.ownsRow w.heap.size 142 2 v n xs ∧ Ext w w' := by
  obtain ⟨i, hi, hz0, hz1, hz2⟩ := info_parts info_run
  have hnil : ∀ W : World, (binOp .eql 115 (.slice A n c) (.slice none 0 0)).run Try.prog W = .ok (.bool A.isNone) W := fun W => Lib.run_eql_slice_nil W 115 _ A _ _ 0 0 Try.underlying115
  cases A with
  | none =>
    obtain rfl := hA rfl
    have hx0 : xs = [] := by cases xs with
      | nil => rfl
      | cons x l => simp at hl
    subst hx0
    have hnil' : ∀ W : World, (binOp .eql 115 (.slice none 0 c) (.slice none 0 0)).run Try.prog W = .ok (.bool true) W := fun W => hnil W
    clear hnil hx hb
    go_enter Try.func82, Try.ntmps82
    go_wp2
    go_ret
    exact ⟨_, rfl, World.ownsRow_nil _ _ _ _, Ext.refl _⟩
  | some ad =>
    have hnil' : ∀ W : World, (binOp .eql 115 (.slice (some ad) n c) (.slice none 0 0)).run Try.prog W = .ok (.bool false) W := fun W => hnil W
    clear hnil
    have hE := Ext.alloc w (.cells #[] 142)
    have hsrc := Lib.hid (hx.ext hE)
    have hlen := Lib.hid hl
    have hone := Lib.hid h1
    have hown := Lib.hid (World.ownsRow_made (w := w) (e := 142) (size := 2) #[] 0 (Nat.le_refl _) (by unfold maxLen; omega) (by simp))
    clear hx hl h1
    go_enter Try.func82, Try.ntmps82
    go_wp2_with (at_builtin; go_must (refine wpList_app rfl _ _ 115 rfl w.heap.size 142 i (.agg #[.int .i64 0, .int .i64 0]) 2 16 Try.underlying115 hi hz0 hz1 hz2 rfl (by decide) _ _ _ rfl hown.out (some ad) n c xs rfl ?c1 hsrc.out ?c2 ?c3 ?c4 ?c5 ?_); (case c1 => exact hlen.out); (case c2 => exact hone.out); (case c3 => (unfold maxLen; omega)); (case c4 => omega); (case c5 => simp); intro v' w' hown' hg hblk)
    go_ret
    have hX : Ext w w' := ext_alloc_grown hg (fun k hk => Nat.le_of_eq (Option.some.inj hk))
    refine ⟨_, rfl, ?_, hX⟩
    simp only [Nat.zero_add, List.nil_append] at hown'
    exact hown'
theorem info_Cl : (Try.prog.info? 64).map (fun i => (i.zero, i.size, i.bytes)) = some (some (.agg #[.int .i64 0, .int .i64 0, .int .i64 0, .int .i64 0]), 4, 32) := by kernel_rfl
theorem cloneClX (A : Option Addr) (n c : Nat) (xs : List Value) (w : World) (hb : n ≤ 1000) (hl : xs.length = n * 4) (h1 : ∀ u ∈ xs, u.oneCell' = true) (hx : Src w A xs) (hA : A = none → n = 0) :
    Calls Try.prog 67 #[.slice A n c] w fun e w' => ∃ v, e = .returned v ∧ w'.ownsRow w.heap.size 64 4 v n xs ∧ Ext w w' := by
  obtain ⟨i, hi, hz0, hz1, hz2⟩ := info_parts info_Cl
  have hnil : ∀ W : World, (binOp .eql 23 (.slice A n c) (.slice none 0 0)).run Try.prog W = .ok (.bool A.isNone) W := fun W => Lib.run_eql_slice_nil W 23 _ A _ _ 0 0 Try.underlying23
  cases A with
  | none =>
    obtain rfl := hA rfl
    have hx0 : xs = [] := by cases xs with
      | nil => rfl
      | cons x l => simp at hl
    subst hx0
    have hnil' : ∀ W : World, (binOp .eql 23 (.slice none 0 c) (.slice none 0 0)).run Try.prog W = .ok (.bool true) W := fun W => hnil W
    clear hnil hx hb
    go_enter Try.func67, Try.ntmps67
    go_wp2
    go_ret
    exact ⟨_, rfl, World.ownsRow_nil _ _ _ _, Ext.refl _⟩
  | some ad =>
    have hnil' : ∀ W : World, (binOp .eql 23 (.slice (some ad) n c) (.slice none 0 0)).run Try.prog W = .ok (.bool false) W := fun W => hnil W
    clear hnil
    have hE := Ext.alloc w (.cells #[] 64)
    have hsrc := Lib.hid (hx.ext hE)
    have hlen := Lib.hid hl
    have hone := Lib.hid h1
    have hown := Lib.hid (World.ownsRow_made (w := w) (e := 64) (size := 4) #[] 0 (Nat.le_refl _) (by unfold maxLen; omega) (by simp))
    clear hx hl h1
    go_enter Try.func67, Try.ntmps67
    go_wp2_with (at_builtin; go_must (refine wpList_app rfl _ _ 23 rfl w.heap.size 64 i (.agg #[.int .i64 0, .int .i64 0, .int .i64 0, .int .i64 0]) 4 32 Try.underlying23 hi hz0 hz1 hz2 rfl (by decide) _ _ _ rfl hown.out (some ad) n c xs rfl ?c1 hsrc.out ?c2 ?c3 ?c4 ?c5 ?_); (case c1 => exact hlen.out); (case c2 => exact hone.out); (case c3 => (unfold maxLen; omega)); (case c4 => omega); (case c5 => simp); intro v' w' hown' hg hblk)
    go_ret
    have hX : Ext w w' := ext_alloc_grown hg (fun k hk => Nat.le_of_eq (Option.some.inj hk))
    refine ⟨_, rfl, ?_, hX⟩
    simp only [Nat.zero_add, List.nil_append] at hown'
    exact hown'
theorem info_Gp : (Try.prog.info? 58).map (fun i => (i.zero, i.size, i.bytes)) = some (some (.agg #[.int .i64 0, .int .i64 0, .int .i64 0, .int .i64 0]), 4, 32) := by kernel_rfl
theorem cloneGpX (A : Option Addr) (n c : Nat) (xs : List Value) (w : World) (hb : n ≤ 1000) (hl : xs.length = n * 4) (h1 : ∀ u ∈ xs, u.oneCell' = true) (hx : Src w A xs) (hA : A = none → n = 0) :
    Calls Try.prog 68 #[.slice A n c] w fun e w' => ∃ v, e = .returned v ∧ w'.ownsRow w.heap.size 58 4 v n xs ∧ Ext w w' := by
  obtain ⟨i, hi, hz0, hz1, hz2⟩ := info_parts info_Gp
  have hnil : ∀ W : World, (binOp .eql 25 (.slice A n c) (.slice none 0 0)).run Try.prog W = .ok (.bool A.isNone) W := fun W => Lib.run_eql_slice_nil W 25 _ A _ _ 0 0 Try.underlying25
  cases A with
  | none =>
    obtain rfl := hA rfl
    have hx0 : xs = [] := by cases xs with
      | nil => rfl
      | cons x l => simp at hl
    subst hx0
    have hnil' : ∀ W : World, (binOp .eql 25 (.slice none 0 c) (.slice none 0 0)).run Try.prog W = .ok (.bool true) W := fun W => hnil W
    clear hnil hx hb
    go_enter Try.func68, Try.ntmps68
    go_wp2
    go_ret
    exact ⟨_, rfl, World.ownsRow_nil _ _ _ _, Ext.refl _⟩
  | some ad =>
    have hnil' : ∀ W : World, (binOp .eql 25 (.slice (some ad) n c) (.slice none 0 0)).run Try.prog W = .ok (.bool false) W := fun W => hnil W
    clear hnil
    have hE := Ext.alloc w (.cells #[] 58)
    have hsrc := Lib.hid (hx.ext hE)
    have hlen := Lib.hid hl
    have hone := Lib.hid h1
    have hown := Lib.hid (World.ownsRow_made (w := w) (e := 58) (size := 4) #[] 0 (Nat.le_refl _) (by unfold maxLen; omega) (by simp))
    clear hx hl h1
    go_enter Try.func68, Try.ntmps68
    go_wp2_with (at_builtin; go_must (refine wpList_app rfl _ _ 25 rfl w.heap.size 58 i (.agg #[.int .i64 0, .int .i64 0, .int .i64 0, .int .i64 0]) 4 32 Try.underlying25 hi hz0 hz1 hz2 rfl (by decide) _ _ _ rfl hown.out (some ad) n c xs rfl ?c1 hsrc.out ?c2 ?c3 ?c4 ?c5 ?_); (case c1 => exact hlen.out); (case c2 => exact hone.out); (case c3 => (unfold maxLen; omega)); (case c4 => omega); (case c5 => simp); intro v' w' hown' hg hblk)
    go_ret
    have hX : Ext w w' := ext_alloc_grown hg (fun k hk => Nat.le_of_eq (Option.some.inj hk))
    refine ⟨_, rfl, ?_, hX⟩
    simp only [Nat.zero_add, List.nil_append] at hown'
    exact hown'
theorem RunsAt.src {w : World} {v : Value} {n b : Nat} {xs : List Value} (h : w.ownsRow b 142 2 v n xs) : ∃ A c, v = .slice A n c ∧ Src w A xs ∧ (A = none → n = 0) := by
  rcases h.2 with ⟨rfl, rfl⟩ | ⟨g, cap, cur, rfl, r⟩
  · refine ⟨none, 0, rfl, .inl ?_, fun _ => rfl⟩
    have := h.1
    simpa using this
  · refine ⟨_, cap, rfl, .inr ⟨_, rfl, fun j u hu => ?_⟩, fun e => by cases e⟩
    have hj : j < n * 2 := by
      rcases Nat.lt_or_ge j (n * 2) with h' | h'
      · exact h'
      · rw [List.getElem?_eq_none (by rw [h.1]; exact h')] at hu; cases hu
    have e : (⟨g, 0, none⟩ : Addr).add j = ⟨g, j, none⟩ := by rw [addr_add]; simp
    rw [e, h.cellAt j hj]
    exact hu
theorem cloneRun_any (v : Value) (n : Nat) (w : World) (hn : n ≤ 1000) (h : RunsAt w v n) :
    Calls Try.prog 82 #[v] w fun e w' => ∃ r xs, e = .returned r ∧ (w'.ownsRow w.heap.size 142 2 r n xs ∧ xs.all (·.oneCell') = true) ∧ Ext w w' := by
  obtain ⟨b, xs, h1, h2⟩ := h
  obtain ⟨A, c, rfl, hs, hA⟩ := RunsAt.src h1
  refine (cloneRunX A n c xs w hn h1.1 (fun u hu => List.all_eq_true.1 h2 u hu) hs hA).mono ?_
  rintro e w' ⟨r, rfl, hr, he⟩
  exact ⟨r, xs, rfl, ⟨hr, h2⟩, he⟩
end Go.Proofs.Pet

namespace Go.Proofs.Pet
set_option linter.unusedSimpArgs false
open Go Go.RowKit Go.Maps Go.Shelf
open Go.Proofs.Clk (Cl Rd Gp Att nextD casesF stepF partG partS)

theorem wpListIn_farLoad {F : Fence} {n : Nat} {ops : Array Oper} {rest : List Oper} {op : Oper} {a : Act} {w : World} {Q : Exit → Act → World → Prop} (hgd : op.guard = none) (x : Operand) (ho : op.op = .load 118 x)
    (b : Nat) (hx : a.eval x = .pointer (some ⟨b, 0, none⟩)) (f : List Int) (hF : FarAt w b f) (h : wpListIn F n Try.prog ops Q rest (a.put op.dst (.agg (farA f))) w) : wpListIn F n Try.prog ops Q (op :: rest) a w := by
  refine wpListIn_plain hgd fun K hK => ?_
  unfold Oper.wpIn
  refine ⟨by simp [Oper.about, ho], ?_⟩
  rw [Oper.semAt_plain F _ _ (by rw [ho]; intro c hc'; cases hc')]
  simp only [execOp, ho, hx, Instr.loadAt, Instr.sureAddr, Sem.run_bind, Sem.run_pure, Result.andThen_ok, run_loadVar_mid (P := Try.prog) w b 0 118 (f.map (Value.int .i64)) _ (fun j v hj => by
    rw [Nat.zero_add, hF.1.cell]
    unfold farA
    rw [List.getElem?_toArray]; exact hj) Try.underlying118 rfl (by rw [List.length_map, hF.2]; kernel_rfl)]
  exact hK _ _ h
theorem wpList_farLoadW {ops : Array Oper} {rest : List Oper} {op : Oper} {a : Act} {w : World} {Q : Exit → Act → World → Prop} (hw : Region.wanted op (yielded ops a.tmps) = true) (x : Operand) (ho : op.op = .load 118 x)
    (b : Nat) (hx : a.eval x = .pointer (some ⟨b, 0, none⟩)) (f : List Int) (hF : FarAt w b f) (h : wpList Try.prog ops Q rest (a.put op.dst (.agg (farA f))) w) : wpList Try.prog ops Q (op :: rest) a w :=
  BigFrame.wpList_want hw fun K hK => wp_load_mid 118 x ho b 0 hx (f.map (Value.int .i64)) _ (fun j v hj => by
    rw [Nat.zero_add, hF.1.cell]
    unfold farA
    rw [List.getElem?_toArray]; exact hj) Try.underlying118 rfl (by rw [List.length_map, hF.2]; kernel_rfl) (hK _ _ h)
theorem run_buildFound (A : Option Addr) (n c : Nat) (f : List Int) (hf : f.length = 25) (w : World) : (Instr.build 120 #[(0, .slice A n c), (1, .agg (farA f))]).run Try.prog w = .ok (.agg (#[.slice A n c] ++ farA f)) w := by
  match f, hf with
  | [x0, x1, x2, x3, x4, x5, x6, x7, x8, x9, x10, x11, x12, x13, x14, x15, x16, x17, x18, x19, x20, x21, x22, x23, x24], _ => show _ = _; kernel_rfl
theorem wpListIn_buildFound {F : Fence} {n : Nat} {ops : Array Oper} {rest : List Oper} {op : Oper} {a : Act} {w : World} {Q : Exit → Act → World → Prop} (hgd : op.guard = none) (x y : Operand) (ho : op.op = .build 120 #[(0, x), (1, y)])
    (A : Option Addr) (k c : Nat) (hx : a.eval x = .slice A k c) (f : List Int) (hy : a.eval y = .agg (farA f)) (hf : f.length = 25) (h : wpListIn F n Try.prog ops Q rest (a.put op.dst (.agg (#[.slice A k c] ++ farA f))) w) : wpListIn F n Try.prog ops Q (op :: rest) a w := by
  refine wpListIn_plain hgd fun K hK => ?_
  unfold Oper.wpIn
  refine ⟨by simp [Oper.about, ho], ?_⟩
  rw [Oper.semAt_plain F _ _ (by rw [ho]; intro c hc'; cases hc')]
  have hb := run_buildFound A k c f hf w
  simp only [execOp, ho, List.map_toArray, List.map_cons, List.map_nil, hx, hy, Sem.run_bind, hb, Result.andThen_ok, Sem.run_pure]
  exact hK _ _ h
theorem wpList_appW {w : World} {ops : Array Oper} {rest : List Oper} {o : Oper} {a : Act} {Q : Exit → Act → World → Prop} (hw : Region.wanted o (yielded ops a.tmps) = true) (s x : Operand) (t : TypeId)
    (ho : o.op = .call { callee := .builtin .append, args := #[s, x], argTypes := #[t, t] })
    (base : Nat) (e : TypeId) (i : TypeInfo) (z : Value) (size bytes : Nat) (ht : Try.prog.underlying t = some (.slice e)) (hi : Try.prog.info? e = some i) (hz : i.zero = some z)
    (hsize : i.size = size) (hby : i.bytes = bytes) (hzs : z.cells.size = size) (hsz : 0 < size)
    (v : Value) (n : Nat) (xs : List Value) (hs : a.eval s = v) (hown : w.ownsRow base e size v n xs)
    (A : Option Addr) (m c : Nat) (news : List Value) (hx : a.eval x = .slice A m c) (hl : news.length = m * size) (hr : Src w A news) (h1 : ∀ u ∈ news, u.oneCell' = true)
    (h63 : n + m ≤ maxLen) (hbytes : (n + m) * bytes ≤ 140737488355328) (hbase : base ≤ w.heap.size)
    (h : ∀ v' w', w'.ownsRow base e size v' (n + m) (xs ++ news) → w.grownBy w' v.ownBlock → (v'.ownBlock = v.ownBlock ∨ v'.ownBlock = some w.heap.size) → wpList Try.prog ops Q rest (a.put o.dst v') w') : wpList Try.prog ops Q (o :: rest) a w :=
  BigFrame.wpList_want hw fun K hK => by
    obtain ⟨v', w', hrun, h2, h3, h4⟩ := run_app (P := Try.prog) base t o.type e i z size bytes ht hi hz hsize hby hzs hsz v n xs hown A m c news hl hr h1 h63 hbytes hbase
    unfold Oper.wp execOp
    simp only [ho, resolve, invoke, builtin, Sem.run_bind, Sem.run_pure, Result.andThen_ok, List.map_toArray, List.map_cons, List.map_nil, hs, hx, hrun]
    exact hK _ _ (h v' w' h2 h3 h4)
theorem Src.blk2 {W : World} {b : Nat} {t : TypeId} {u v : Value} (hb : Blk W b t #[u, v]) : Src W (some ⟨b, 0, none⟩) [u, v] := .inr ⟨_, rfl, fun j x hj => by
  have e : (⟨b, 0, none⟩ : Addr).add j = ⟨b, j, none⟩ := by rw [addr_add]; simp
  rw [e, hb.cell]
  simpa using hj⟩
theorem FarAt.kp {n1 b : Nat} {f : List Int} {X Y : World} (h : FarAt X b f) (k : KpF n1 X Y) : FarAt Y b f := ⟨k.blk h.1 (by decide) (by decide), h.2⟩
/-- what is found: its runs, and its distances -/
structure FoundX where
  A : Option Addr
  n : Nat
  c : Nat
  f : List Int
  hf : f.length = 25
def encF (x : FoundX) : Array Value := #[.agg (#[.slice x.A x.n x.c] ++ farA x.f)]
def YieldF (n1 l N : Nat) (J : List FoundX → World → Prop) : Prop :=
  ∀ pre (x : FoundX) W1, J pre W1 → pre.length < N → YieldAt Fence.wide 3 Try.prog l (encF x) W1 fun e W' => e = .returned (.bool true) ∧ J (pre ++ [x]) W' ∧ KpF n1 W1 W'
def MoreSaid (n1 : Nat) (J : List FoundX → World → Prop) (pre : List FoundX) (l : List (List Int)) (W : World) (e : Ending) (W' : World) : Prop :=
  e = .returned (.bool true) ∧ KpF n1 W W' ∧ ∃ xs : List FoundX, xs.map (·.f) = l ∧ J (pre ++ xs) W'

set_option maxRecDepth 20000 in
set_option maxHeartbeats 4000000 in
theorem more0_any (D n1 : Nat) (a : Att) (mv : Value) (Ms : List Nat) (hok : AttOk a) (w0 : World) (hw0 : w0.heap.size = n1) (hd : WorkC w0 D a mv Ms) (tb yb mb l N : Nat) (J : List FoundX → World → Prop)
    (hJ : ∀ s X Y, J s X → Ext X Y → J s Y) (hY : YieldF n1 l N J) (c : Nat) (f : List Int) (v : Value) (pre : List FoundX) (V : World) (hc : c = a.clocks.length) (hf : f.length = 25) (hv : RunsAt V v c) (h0 : Ext w0 V) (hB : MoreBox V D tb yb mb l) (hN : pre.length < N) (hp : J pre V) :
    Calls Try.prog 81 #[v, .agg (farA f), .pointer (some ⟨tb, 0, none⟩), .pointer (some ⟨yb, 0, none⟩), .pointer (some ⟨mb, 0, none⟩)] V (MoreSaid n1 J pre [f] V) := by
  subst hc
  have hcl := hok.ncl
  obtain ⟨A, rc, rfl⟩ := hv.slice
  obtain ⟨A1, c1, A2, c2, A3, c3, hD, -, -, -⟩ := hd.1
  have hX := Ext.alloc V (.cells (farA f) 118)
  obtain ⟨-, -, d2, -, -, -, -⟩ := (hD.ext (Ext.trans h0 hX)).c7
  have t0 := (hB.d.ext hX).c1
  have y0 := (hB.y.ext hX).c1
  have HF := Lib.hid (show FarAt (V.alloc (.cells (farA f) 118)) V.heap.size f from ⟨Blk.new V 118 (farA f), hf⟩)
  have hcl2 := Lib.hid fun W' (he : Ext (V.alloc (.cells (farA f) 118)) W') => cloneRun_any _ _ W' (by omega) ((hv.ext hX).ext he)
  have Hp := Lib.hid (hJ _ _ _ hp hX)
  have hn1 : n1 ≤ V.heap.size := by rw [← hw0]; exact h0.size
  have HK1 := Lib.hid (KpF.of_ext hX hn1)
  have heq : ((a.clocks.length : Int) == (a.clocks.length : Int)) = true := by simp
  clear hD hd hB hv h0 hX hp
  refine (callsIn_wide (n := 4)).1 ?_
  refine callsIn_of_wp Try.func81 rfl trivial ?_ rfl
  simp only [Try.ntmps81, List.size_toArray, List.length_cons, List.length_nil, Nat.reduceAdd, Nat.reduceSub, Array.replicate_succ, Array.replicate_zero, List.push_toArray, List.append_toArray, List.nil_append, List.cons_append]
  gi_wp2
  clear t0 d2 heq
  generalize V.alloc _ = W1 at *
  obtain ⟨b, hb⟩ : ∃ b, V.heap.size = b := ⟨_, rfl⟩
  rw [hb] at HF ⊢
  refine wpIn_region_chain 6 [(2, true), (4, true), (5, false)] [] (by kernel_rfl) (by kernel_rfl) (by kernel_rfl) ?_
  simp only [List.take, List.drop, fill, Act.put, List.setIfInBounds_toArray, List.set_cons_zero, List.set_cons_succ, Nat.reduceAdd]
  repeat (first
    | refine FloatsIn.mut rfl ?_
    | (apply FloatsIn.float rfl
       · intro x W he hd K Q hK
         try (have he := he (by decide); have y0 := he.cell y0)
         try simp only [edges, DepsE, List.filter_cons, List.filter_nil, Region.binds, if_true, and_true, true_and, upd, Nat.reduceEqDiff, if_false] at hd
         try simp only [hd] at hK ⊢
         have HK := Lib.hid hK; clear hK
         gi_wp2_with (refine wpListIn_farLoad rfl _ rfl b rfl f (HF.out.ext he) ?_)
         exact HK.out))
  refine FloatsIn.done fun W he hG => ?_
  refine ChainIn.cons _ rfl ?_
  intro x hd K Q hK
  try simp only [edges, DepsE, List.filter_cons, List.filter_nil, Region.binds, if_true, and_true, true_and, upd, Nat.reduceEqDiff, if_false] at hd
  try simp only [hd] at hK ⊢
  clear hd
  have HK := Lib.hid hK; clear hK
  gi_wp2_with fail
  refine ⟨trivial, callsIn_wide.2 ((hcl2.out W he).mono ?_)⟩
  rintro e w2 ⟨r, xs, rfl, ⟨hr, hxs⟩, he2⟩
  gi_wp2_with fail
  refine HK.out _ _ (fun _ => Ext.trans he he2) ?_
  clear HK
  obtain ⟨A4, c4, rfl⟩ := ownsRow_slice hr
  have hE2 := Ext.trans he he2
  obtain ⟨fn, tmps, assign, body, hy, hR⟩ := hY pre ⟨A4, a.clocks.length, c4, f, hf⟩ w2 (hJ _ _ _ Hp.out hE2) hN
  unfold encF at hy
  clear hr hJ hY hcl2
  refine ChainIn.cons _ rfl ?_
  intro x hd K Q hK
  try simp only [edges, DepsE, List.filter_cons, List.filter_nil, Region.binds, if_true, and_true, true_and, upd, Nat.reduceEqDiff, if_false] at hd
  try simp only [hd] at hK ⊢
  clear hd
  have HK := Lib.hid hK; clear hK
  gi_wp2_with (refine wpListIn_buildFound rfl _ _ rfl A4 a.clocks.length c4 rfl f rfl hf ?_)
  refine HK.out _ _ (fun _ => hE2) ?_
  clear HK
  refine ChainIn.cons _ rfl ?_
  intro x hd K Q hK
  try simp only [edges, DepsE, List.filter_cons, List.filter_nil, Region.binds, if_true, and_true, true_and, upd, Nat.reduceEqDiff, if_false] at hd
  try simp only [hd] at hK ⊢
  clear hd
  have HK := Lib.hid hK; clear hK
  gi_wp2_with fail
  refine hR.mono ?_
  rintro e w3 ⟨rfl, hJ3, hk3⟩
  gi_wp2_with fail
  refine HK.out _ _ (fun h => by cases h) ?_
  clear HK
  refine ChainIn.nil ?_
  simp only [upd, Nat.reduceEqDiff, if_false, if_true]
  gi_wp2
  go_ret
  exact ⟨rfl, (HK1.out.trans (KpF.of_ext hE2 (by have := HK1.out.below.size; omega))).trans hk3, [⟨A4, a.clocks.length, c4, f, hf⟩], rfl, hJ3⟩

set_option maxRecDepth 20000 in
set_option maxHeartbeats 8000000 in
theorem moreN_any (D n1 : Nat) (a : Att) (mv : Value) (Ms : List Nat) (hok : AttOk a) (w0 : World) (hw0 : w0.heap.size = n1) (hd : WorkC w0 D a mv Ms) (tb yb mb l N : Nat) (J : List FoundX → World → Prop)
    (hJ : ∀ s X Y, J s X → Ext X Y → J s Y) (hY : YieldF n1 l N J) : ∀ (n c : Nat) (f : List Int) (v : Value) (pre : List FoundX) (V : World), c + n = a.clocks.length → f.length = 25 → RngD f → RunsAt V v c → Ext w0 V → MoreBox V D tb yb mb l → pre.length + (casesF a n c f).length ≤ N → J pre V →
    Calls Try.prog 81 #[v, .agg (farA f), .pointer (some ⟨tb, 0, none⟩), .pointer (some ⟨yb, 0, none⟩), .pointer (some ⟨mb, 0, none⟩)] V (MoreSaid n1 J pre (casesF a n c f) V) := by
  intro n
  induction n with
  | zero =>
    intro c f v pre V hc hf hr hv h0 hB hN hp
    exact more0_any D n1 a mv Ms hok w0 hw0 hd tb yb mb l N J hJ hY c f v pre V hc hf hv h0 hB (by rw [casesF, List.length_singleton] at hN; omega) hp
  | succ n ih =>
    intro c f v pre V hc hf hr hv h0 hB hN hp
    have hcl := hok.ncl
    have hcl' : c < a.clocks.length := by omega
    obtain ⟨A1, c1, A2, c2, A3, c3, hD, hC, -, -⟩ := hd.1
    have hcm : a.clocks[c]?.getD default ∈ a.clocks := by rw [List.getElem?_eq_getElem hcl']; exact List.getElem_mem hcl'
    obtain ⟨hq1, hq2⟩ := hok.cls _ hcm
    obtain ⟨sl, hsl⟩ : ∃ n, (a.clocks[c]?.getD default).sl = n := ⟨_, rfl⟩
    obtain ⟨gl, hgl⟩ : ∃ n, (a.clocks[c]?.getD default).gl = n := ⟨_, rfl⟩
    obtain ⟨ns, hns⟩ : ∃ n : Nat, (a.clocks[c]?.getD default).sh = sl + (n : Int) := ⟨((a.clocks[c]?.getD default).sh - sl).toNat, by omega⟩
    obtain ⟨ng, hng⟩ : ∃ n : Nat, (a.clocks[c]?.getD default).gh = gl + (n : Int) := ⟨((a.clocks[c]?.getD default).gh - gl).toNat, by omega⟩
    rw [Clk.cases_parts a n c f sl gl ns ng hsl hns hgl hng] at hN ⊢
    have Hclk := Lib.hid (⟨hsl, hns, hgl, hng⟩ : (a.clocks[c]?.getD default).sl = sl ∧ (a.clocks[c]?.getD default).sh = sl + (ns : Int) ∧ (a.clocks[c]?.getD default).gl = gl ∧ (a.clocks[c]?.getD default).gh = gl + (ng : Int))
    have hX := Ext.alloc V (.cells (farA f) 118)
    have hX2 := hX.trans (Ext.alloc _ (.cells #[.int .i64 sl, .int .i64 (sl + (ns : Int)), .int .i64 gl, .int .i64 (gl + (ng : Int))] 64))
    obtain ⟨cb, co, ec, g0, g1, g2, g3⟩ := (hC.ext (Ext.trans h0 hX)) c hcl'
    subst ec
    rw [hsl] at g0 hq1; rw [hns] at g1 hq1; rw [hgl] at g2 hq2; rw [hng] at g3 hq2
    obtain ⟨A, rc, rfl⟩ := hv.slice
    obtain ⟨-, -, d2, -, -, -, -⟩ := (hD.ext (Ext.trans h0 hX)).c7
    have t0 := (hB.d.ext hX).c1
    have hn1 : n1 ≤ V.heap.size := by rw [← hw0]; exact h0.size
    have HF := Lib.hid (show FarAt ((V.alloc (.cells (farA f) 118)).alloc (.cells #[.int .i64 sl, .int .i64 (sl + (ns : Int)), .int .i64 gl, .int .i64 (gl + (ng : Int))] 64)) V.heap.size f from ⟨(Blk.new V 118 (farA f)).alloc _, hf⟩)
    have HC := Blk.new (V.alloc (.cells (farA f) 118)) 64 #[.int .i64 sl, .int .i64 (sl + (ns : Int)), .int .i64 gl, .int .i64 (gl + (ng : Int))]
    simp only [World.size_alloc] at HC
    obtain ⟨k0, k1, k2, k3⟩ := HC.c4
    have HB := Lib.hid hB; have Hv := Lib.hid hv; have Hd := Lib.hid hd; have Hok := Lib.hid hok; have H0 := Lib.hid h0; have HHJ := Lib.hid hJ; have HY := Lib.hid hY; have Hih := Lib.hid ih; have Hr := Lib.hid hr; have HN := Lib.hid hN
    have Hp := Lib.hid (hJ _ _ _ hp hX2)
    have HK1 := Lib.hid (KpF.of_ext hX2 hn1)
    have HE1 := Lib.hid (Ext.trans h0 hX2)
    have heq : ((c : Int) == (a.clocks.length : Int)) = false := by simp; omega
    have HC := Lib.hid HC
    clear hsl hgl hns hng hX hX2 hD hC hd hB hv h0 hJ hY ih hok hr hp hcm hN
    go_enter Try.func81, Try.ntmps81
    go_wp2_with fail
    obtain ⟨b, hb⟩ : ∃ b, V.heap.size = b := ⟨_, rfl⟩
    rw [hb] at HF HC ⊢
    clear hb t0 d2 g0 g1 g2 g3 k0 k1 k2 k3 heq
    generalize World.alloc _ _ = V2 at *
    go_loopw [9] (fun sv wr => ∃ i : Nat, ∃ xs : List FoundX, i ≤ ns + 1 ∧ sv = .int .i64 (sl + (i : Int)) ∧ Hid (xs.map (·.f) = partS a n c f sl gl (ng + 1) i) ∧ Hid (J (pre ++ xs) wr) ∧ Hid (KpF n1 V wr) ∧ Hid (FarAt wr b f) ∧ Hid (Blk wr (b + 1) 64 #[.int .i64 sl, .int .i64 (sl + (ns : Int)), .int .i64 gl, .int .i64 (gl + (ng : Int))])) (fun sv _ => (sl + (ns : Int) + 1 - intOf sv).toNat)
    case atStart => exact ⟨0, [], Nat.zero_le _, by go_num, rfl, Lib.hid (by rw [List.append_nil]; exact Hp.out), HK1, HF, HC⟩
    case round =>
      clear HF HC Hp HK1 HE1
      obtain ⟨i, xs, hi', rfl, hx, hJ, hk, hF, hC⟩ := hrel
      obtain ⟨k0, k1, k2, k3⟩ := hC.out.c4
      by_cases hli : i < ns + 1
      · -- <<A
        have hd : decide (sl + (i : Int) ≤ sl + (ns : Int)) = true := by simp; omega
        have hd' : decide (i ≤ ns) = true := by simp; omega
        go_wp2_with fail
        clear hd hd' k0 k1 k2 k3
        obtain ⟨U, hU⟩ : ∃ U, U = wr := ⟨_, rfl⟩
        subst hU
        go_loopw [10] (fun gv wr => ∃ j : Nat, ∃ ys : List FoundX, j ≤ ng + 1 ∧ gv = .int .i64 (gl + (j : Int)) ∧ Hid (ys.map (·.f) = partS a n c f sl gl (ng + 1) i ++ partG a n c f (sl + (i : Int)) gl j) ∧ Hid (J (pre ++ ys) wr) ∧ Hid (KpF n1 V wr) ∧ Hid (FarAt wr b f) ∧ Hid (Blk wr (b + 1) 64 #[.int .i64 sl, .int .i64 (sl + (ns : Int)), .int .i64 gl, .int .i64 (gl + (ng : Int))])) (fun gv _ => (gl + (ng : Int) + 1 - intOf gv).toNat)
        case atStart => exact ⟨0, xs, Nat.zero_le _, by go_num, Lib.hid (by rw [hx.out]; exact (List.append_nil _).symm), hJ, hk, hF, hC⟩
        case round =>
          clear hx hJ hk hF hC
          obtain ⟨j, ys, hj, rfl, hx, hJ, hk, hF, hC⟩ := hrel
          obtain ⟨k0, k1, k2, k3⟩ := hC.out.c4
          by_cases hlj : j < ng + 1
          · -- <<B
            have hd : decide (gl + (j : Int) ≤ gl + (ng : Int)) = true := by simp; omega
            have hd' : decide (j ≤ ng) = true := by simp; omega
            have hX := Ext.alloc wr (.cells #[.int .i64 (sl + (i : Int)), .int .i64 (gl + (j : Int))] 142)
            have HR := Lib.hid (Blk.new wr 142 #[.int .i64 (sl + (i : Int)), .int .i64 (gl + (j : Int))])
            have HF2 := Lib.hid (hF.out.ext hX)
            have HC2 := Lib.hid (hC.out.ext hX)
            have HJ2 := Lib.hid (HHJ.out _ _ _ hJ.out hX)
            have hnw : n1 ≤ wr.heap.size := by have := hk.out.below.size; omega
            have HK2 := Lib.hid (hk.out.trans (KpF.of_ext hX hnw))
            have HE2 := Lib.hid (HK2.out.ext H0.out (by omega))
            have t0 := (HB.out.kp HK2.out).d.c1
            obtain ⟨r0, r1⟩ := HR.out.c2
            have hrd := Lib.hid (readC_any D a mv Ms Hok.out f hf Hr.out c hcl' (sl + (i : Int)) (gl + (j : Int)) (by have := Hclk.out; omega) (by have := Hclk.out; omega) _ (Hd.out.ext HE2.out))
            clear hJ hF hC hX hk
            go_wp2_with (first
              | refine wpList_farLoad rfl _ rfl b rfl f HF2.out ?_)
            refine hrd.out.mono ?_
            rintro e w2 ⟨f2, q, rfl, h2l, hq2, hq3, he2⟩
            have hX3 := Ext.alloc w2 (.cells #[.int .i64 0, .int .i64 0, .int .i64 0, .int .i64 0, .int .i64 0, .int .i64 0, .int .i64 0, .int .i64 0, .int .i64 0, .int .i64 0, .int .i64 0, .int .i64 0, .int .i64 0, .int .i64 0, .int .i64 0, .int .i64 0, .int .i64 0, .int .i64 0, .int .i64 0, .int .i64 0, .int .i64 0, .int .i64 0, .int .i64 0, .int .i64 0, .int .i64 0] 118)
            have HN := Lib.hid (show FarAt (w2.alloc (.cells #[.int .i64 0, .int .i64 0, .int .i64 0, .int .i64 0, .int .i64 0, .int .i64 0, .int .i64 0, .int .i64 0, .int .i64 0, .int .i64 0, .int .i64 0, .int .i64 0, .int .i64 0, .int .i64 0, .int .i64 0, .int .i64 0, .int .i64 0, .int .i64 0, .int .i64 0, .int .i64 0, .int .i64 0, .int .i64 0, .int .i64 0, .int .i64 0, .int .i64 0] 118)) w2.heap.size (List.replicate 25 0) from ⟨Blk.new w2 118 (farA (List.replicate 25 0)), rfl⟩)
            have HX := Lib.hid (he2.trans (Ext.setRow hX3 (Nat.le_refl _) (farA f2)))
            have HN3 := Lib.hid (HN.out.row h2l)
            clear hX3 he2 t0 r0 r1 hrd
            go_wp2_with (first
              | refine wpList_farStore rfl _ _ rfl w2.heap.size rfl (List.replicate 25 0) f2 rfl h2l HN.out ?_)
            obtain ⟨fb, hfb⟩ : ∃ fb, w2.heap.size = fb := ⟨_, rfl⟩
            rw [hfb] at HN3 HX ⊢
            clear HN hfb
            generalize World.setRow _ _ _ = w3 at *
            obtain ⟨R, hR⟩ : ∃ R, wr.heap.size = R := ⟨_, rfl⟩
            have HRR := Lib.hid hR
            rw [hR] at HR ⊢
            have HR3 := Lib.hid (HR.out.ext HX.out)
            have HF3 := Lib.hid (HF2.out.ext HX.out)
            have HC3 := Lib.hid (HC2.out.ext HX.out)
            have HJ3 := Lib.hid (HHJ.out _ _ _ HJ2.out HX.out)
            have HK3 := Lib.hid (HK2.out.trans (KpF.of_ext HX.out (by have := HK2.out.below.size; have := hn1; omega)))
            clear HR HF2 HC2 HJ2 HK2 HE2 HX hR
            cases q with
            | false =>
              -- <<F
              have hnx := Lib.hid (hq3 rfl)
              clear hq2 hq3
              refine wp_region_chain 12 [] [] (by kernel_rfl) (by kernel_rfl) (by kernel_rfl) ?_
              simp only [List.take, List.drop, fill, Act.put, List.setIfInBounds_toArray, List.set_cons_zero, List.set_cons_succ, Nat.reduceAdd]
              repeat (first
                | refine Floats.mut rfl ?_
                | (apply Floats.float rfl
                   · intro x W he hd K Q hK
                     try (have he := he (by decide))
                     try simp only [edges, DepsE, List.filter_cons, List.filter_nil, Region.binds, if_true, and_true, true_and, upd, Nat.reduceEqDiff, if_false] at hd
                     try simp only [hd] at hK ⊢
                     have HK := Lib.hid hK; clear hK
                     go_wp2_with fail
                     exact HK.out))
              refine Floats.done fun W he hG => ?_
              refine Chain.nil ?_
              simp only [upd, Nat.reduceEqDiff, if_false, if_true]
              have HKx := Lib.hid (HK3.out.trans (KpF.of_ext he (by have := HK3.out.below.size; omega)))
              have HFx := Lib.hid (HF3.out.ext he); have HCx := Lib.hid (HC3.out.ext he); have HJx := Lib.hid (HHJ.out _ _ _ HJ3.out he)
              go_wp2_with fail
              go_roundw
              case rel => exact ⟨j + 1, ys, by omega, by go_num, Lib.hid (by rw [hx.out, Clk.partG_succ, Clk.step_none hnx.out, List.append_nil]), HJx, HKx, HFx, HCx⟩
              case measure => simp [intOf]; omega
              -- >>
            | true =>
              -- <<T
              obtain ⟨ti, hi, hz0, hz1, hz2⟩ := info_parts info_run
              have hnx := (hq2 rfl).2
              have Hr2 := Lib.hid (hq2 rfl).1
              have Hst := Lib.hid (Clk.step_some (n := n) hnx)
              obtain ⟨r0, r1⟩ := HR3.out.c2
              have m0 := (HB.out.kp HK3.out).m.c1
              have hcl3 := Lib.hid fun W' (he : Ext w3 W') => cloneRun_any (.slice A c rc) c W' (by omega) ((Hv.out.kp HK3.out).ext he)
              have hn3 : n1 ≤ w3.heap.size := by have := HK3.out.below.size; omega
              have eg' : Enters Try.prog 81 := enters_of Try.func81 (by kernel_rfl) rfl
              unfold Enters at eg'
              clear hq2 hq3 hnx k0 k1 k2 k3 hd hd'
              refine wp_region_tree 12 [(4, true), (6, true), (7, true), (9, false)] [10, 11] (by kernel_rfl) (by kernel_rfl) (by kernel_rfl) (ds := [0, 1, 2, 3, 5, 8]) (by kernel_rfl) ?_
              simp only [List.take, List.drop, fill, Act.put, List.setIfInBounds_toArray, List.set_cons_zero, List.set_cons_succ, Nat.reduceAdd]
              repeat (first
                | (apply Unlock.float rfl
                   · intro x W he hd K Qr hK
                     try (have he := he (by decide); have m0 := he.cell m0; have r0 := he.cell r0; have r1 := he.cell r1)
                     try simp only [edges, DepsE, List.filter_cons, List.filter_nil, Region.binds, if_true, and_true, true_and, upd, Nat.reduceEqDiff, if_false] at hd
                     try simp only [hd] at hK ⊢
                     have HK := Lib.hid hK; clear hK
                     skip
                     go_wp2_with (refine wpList_farLoadW (by kernel_rfl) _ rfl fb rfl f2 (HN3.out.ext he) ?_)
                     exact HK.out))
              refine Unlock.nil ?_
              intro W he hG
              refine Tree.cut (f' := 2) (rem' := [(7, true), (9, false)]) (fun y y' W6 => ∃ (cv : Value) (zs : List Value) (vb vc : Nat), y' = upd (upd y 4 cv) 6 (.slice (some ⟨vb, 0, none⟩) 1 vc) ∧ Ext w3 W6 ∧ (W6.ownsRow w3.heap.size 142 2 cv c zs ∧ zs.all (·.oneCell') = true) ∧ Blk W6 vb 142 #[.int .i64 (sl + (i : Int)), .int .i64 (gl + (j : Int))]) ?_ ?_
              · -- <<P
                rintro y' W6 ⟨cv, zs, vb, vc, rfl, he6, ⟨hO6, hz6⟩, hb6⟩
                clear hG he
                refine Tree.next (ks := [(7, true)]) (by kernel_rfl) ?_
                refine TSteps.cons _ rfl ?_ trivial
                intro x hd K Qr hK
                try simp only [edges, DepsE, List.filter_cons, List.filter_nil, Region.binds, if_true, and_true, true_and, upd, Nat.reduceEqDiff, if_false] at hd
                try simp only [hd] at hK ⊢
                clear hd
                have HK := Lib.hid hK; clear hK
                have hsrc := Src.blk2 hb6
                have hsz6 := he6.size
                have Hw : Hid (∀ v' w', w'.ownsRow w3.heap.size 142 2 v' (c + 1) (zs ++ [.int .i64 (sl + (i : Int)), .int .i64 (gl + (j : Int))]) → W6.grownBy w' cv.ownBlock → RunsAt w' v' (c + 1) ∧ Ext w3 w') := by
                  intro v' w' hown hg
                  refine ⟨⟨_, _, hown, ?_⟩, Below.grown he6 hg he6.size fun q hq => (ownsRow_own hO6 q hq).1⟩
                  rw [List.all_append, hz6]; rfl
                obtain ⟨A6, c6, rfl⟩ := ownsRow_slice hO6
                go_wp2_with (at_builtin; refine wpList_appW (by kernel_rfl) _ _ 115 rfl w3.heap.size 142 ti (.agg #[.int .i64 0, .int .i64 0]) 2 16 Try.underlying115 hi hz0 hz1 hz2 rfl (by decide) (.slice A6 c c6) c _ rfl hO6 (some ⟨vb, 0, none⟩) 1 vc [.int .i64 (sl + (i : Int)), .int .i64 (gl + (j : Int))] rfl rfl hsrc ?c2 ?c3 ?c4 ?c5 ?_; (case c2 => (intro u hu; simp only [List.mem_cons, List.not_mem_nil, or_false] at hu; rcases hu with rfl | rfl <;> rfl)); (case c3 => (unfold maxLen; omega)); (case c4 => omega); (case c5 => omega); intro v' w7 hown hg hblk; have HO7 := Lib.hid (Hw.out v' w7 hown hg); clear hown hg hblk)
                refine HK.out _ _ (fun _ => HO7.out.2) ?_
                clear HK
                refine Unlock.of (ds := []) (by kernel_rfl) ?_
                repeat (first
                  | (apply Unlock.float rfl
                     · intro x W he hd K Qr hK
                       try (have he := he (by decide))
                       try simp only [edges, DepsE, List.filter_cons, List.filter_nil, Region.binds, if_true, and_true, true_and, upd, Nat.reduceEqDiff, if_false] at hd
                       try simp only [hd] at hK ⊢
                       have HK := Lib.hid hK; clear hK
                       go_wp2_with fail
                       exact HK.out))
                refine Unlock.nil ?_
                have HK7 := Lib.hid (HK3.out.trans (KpF.of_ext HO7.out.2 hn3))
                have hlen : ys.length = (partS a n c f sl gl (ng + 1) i).length + (partG a n c f (sl + (i : Int)) gl j).length := by
                  have := congrArg List.length hx.out
                  rwa [List.length_map, List.length_append] at this
                have hbd := Clk.part_bd a n c f sl gl ns ng i j hli hlj
                rw [Hst.out] at hbd
                have hcall := Lib.hid (Hih.out (c + 1) f2 v' (pre ++ ys) w7 (by omega) h2l Hr2.out HO7.out.1 (HK7.out.ext H0.out (by omega)) (HB.out.kp HK7.out) (by rw [List.length_append]; have := HN.out; omega) (HHJ.out _ _ _ HJ3.out HO7.out.2))
                obtain ⟨A7, c7, hv7⟩ := HO7.out.1.slice
                subst hv7
                clear hlen hbd hsz6 hsrc hO6 hz6 hb6 he6
                refine Tree.next (ks := [(9, false)]) (by kernel_rfl) ?_
                refine TSteps.cons _ rfl ?_ trivial
                intro x hd K Qr hK
                try simp only [edges, DepsE, List.filter_cons, List.filter_nil, Region.binds, if_true, and_true, true_and, upd, Nat.reduceEqDiff, if_false] at hd
                try simp only [hd] at hK ⊢
                clear hd
                have HK := Lib.hid hK; clear hK
                go_wp2_with fail
                refine hcall.out.mono ?_
                rintro e w8 ⟨rfl, hk8, xs8, hx8, hJ8⟩
                go_wp2_with fail
                refine HK.out _ _ (fun h => by cases h) ?_
                clear HK hcall
                refine Unlock.of (ds := [10, 11]) (by kernel_rfl) ?_
                repeat (first
                  | (apply Unlock.float rfl
                     · intro x W he hd K Qr hK
                       try (have he := he (by decide))
                       try simp only [edges, DepsE, List.filter_cons, List.filter_nil, Region.binds, if_true, and_true, true_and, upd, Nat.reduceEqDiff, if_false] at hd
                       try simp only [hd] at hK ⊢
                       have HK := Lib.hid hK; clear hK
                       go_wp2_with fail
                       exact HK.out))
                refine Unlock.nil ?_
                refine Tree.nil (by kernel_rfl) ?_
                simp only [upd, Nat.reduceEqDiff, if_false, if_true]
                have Hk8 := Lib.hid hk8; have HJ8 := Lib.hid hJ8; have Hx8 := Lib.hid hx8
                clear hk8 hJ8 hx8
                go_wp2_with fail
                go_roundw
                case rel => exact ⟨j + 1, ys ++ xs8, by omega, by go_num, Lib.hid (by rw [List.map_append, hx.out, Hx8.out, Clk.partG_succ, Hst.out, List.append_assoc]), Lib.hid (by have := HJ8.out; rwa [List.append_assoc] at this), Lib.hid (HK7.out.trans Hk8.out), Lib.hid ((HF3.out.ext HO7.out.2).kp Hk8.out), Lib.hid (Hk8.out.blk (HC3.out.ext HO7.out.2) (by decide) (by decide))⟩
                case measure => simp [intOf]; omega
                -- >>
              · -- <<Q
                intro hcut
                have Hcut := Lib.hid hcut
                clear hcut hG
                refine Tree.next (ks := [(4, true), (6, true)]) (by kernel_rfl) ?_
                refine TSteps.cons _ rfl ?_ (TSteps.cons _ rfl ?_ trivial)
                · intro x hd K Qr hK
                  try simp only [edges, DepsE, List.filter_cons, List.filter_nil, Region.binds, if_true, and_true, true_and, upd, Nat.reduceEqDiff, if_false] at hd
                  try simp only [hd] at hK ⊢
                  clear hd
                  have HK := Lib.hid hK; clear hK
                  go_wp2_with fail
                  refine (hcl3.out W he).mono ?_
                  rintro e W5 ⟨cv, zs, rfl, ⟨hO5, hz5⟩, he5⟩
                  have heA := Ext.trans he he5
                  have hszA := he.size
                  go_wp2_with fail
                  refine HK.out _ _ (fun _ => heA) ?_
                  refine Unlock.of (ds := []) (by kernel_rfl) ?_
                  repeat (first
                    | (apply Unlock.float rfl
                       · intro x W he hd K Qr hK
                         try (have he := he (by decide))
                         try simp only [edges, DepsE, List.filter_cons, List.filter_nil, Region.binds, if_true, and_true, true_and, upd, Nat.reduceEqDiff, if_false] at hd
                         try simp only [hd] at hK ⊢
                         have HK := Lib.hid hK; clear hK
                         go_wp2_with fail
                         exact HK.out))
                  refine Unlock.nil ?_
                  clear HK
                  refine Tree.next (ks := [(6, true)]) (by kernel_rfl) ?_
                  refine TSteps.cons _ rfl ?_ trivial
                  intro x hd K Qr hK
                  try simp only [edges, DepsE, List.filter_cons, List.filter_nil, Region.binds, if_true, and_true, true_and, upd, Nat.reduceEqDiff, if_false] at hd
                  try simp only [hd] at hK ⊢
                  clear hd
                  have HK := Lib.hid hK; clear hK
                  have hX5 := Ext.alloc W5 (.cells #[.int .i64 (sl + (i : Int)), .int .i64 (gl + (j : Int))] 142)
                  go_wp2_with fail
                  refine HK.out _ _ (fun _ => heA.trans hX5) ?_
                  refine Unlock.of (ds := []) (by kernel_rfl) ?_
                  repeat (first
                    | (apply Unlock.float rfl
                       · intro x W he hd K Qr hK
                         try (have he := he (by decide))
                         try simp only [edges, DepsE, List.filter_cons, List.filter_nil, Region.binds, if_true, and_true, true_and, upd, Nat.reduceEqDiff, if_false] at hd
                         try simp only [hd] at hK ⊢
                         have HK := Lib.hid hK; clear hK
                         go_wp2_with fail
                         exact HK.out))
                  refine Unlock.nil ?_
                  exact Tree.eq (by kernel_rfl) (Hcut.out _ _ ⟨cv, zs, _, _, rfl, heA.trans hX5, ⟨ownsRow_ext2 (ownsRow_mono hO5 hszA) hX5, hz5⟩, Blk.new _ _ _⟩)
                · intro x hd K Qr hK
                  try simp only [edges, DepsE, List.filter_cons, List.filter_nil, Region.binds, if_true, and_true, true_and, upd, Nat.reduceEqDiff, if_false] at hd
                  try simp only [hd] at hK ⊢
                  clear hd
                  have HK := Lib.hid hK; clear hK
                  have hX5 := Ext.alloc W (.cells #[.int .i64 (sl + (i : Int)), .int .i64 (gl + (j : Int))] 142)
                  have hvb := Blk.new W 142 #[.int .i64 (sl + (i : Int)), .int .i64 (gl + (j : Int))]
                  have heA := Ext.trans he hX5
                  go_wp2_with fail
                  refine HK.out _ _ (fun _ => heA) ?_
                  refine Unlock.of (ds := []) (by kernel_rfl) ?_
                  repeat (first
                    | (apply Unlock.float rfl
                       · intro x W he hd K Qr hK
                         try (have he := he (by decide))
                         try simp only [edges, DepsE, List.filter_cons, List.filter_nil, Region.binds, if_true, and_true, true_and, upd, Nat.reduceEqDiff, if_false] at hd
                         try simp only [hd] at hK ⊢
                         have HK := Lib.hid hK; clear hK
                         go_wp2_with fail
                         exact HK.out))
                  refine Unlock.nil ?_
                  obtain ⟨vb, hvbe⟩ : ∃ vb, W.heap.size = vb := ⟨_, rfl⟩
                  rw [hvbe] at hvb ⊢
                  generalize W.alloc _ = W4 at *
                  clear HK hX5 hvbe
                  refine Tree.next (ks := [(4, true)]) (by kernel_rfl) ?_
                  refine TSteps.cons _ rfl ?_ trivial
                  intro x hd K Qr hK
                  try simp only [edges, DepsE, List.filter_cons, List.filter_nil, Region.binds, if_true, and_true, true_and, upd, Nat.reduceEqDiff, if_false] at hd
                  try simp only [hd] at hK ⊢
                  clear hd
                  have HK := Lib.hid hK; clear hK
                  go_wp2_with fail
                  refine (hcl3.out W4 heA).mono ?_
                  rintro e W5 ⟨cv, zs, rfl, ⟨hO5, hz5⟩, he5⟩
                  have hszA := heA.size
                  go_wp2_with fail
                  refine HK.out _ _ (fun _ => Ext.trans heA he5) ?_
                  refine Unlock.of (ds := []) (by kernel_rfl) ?_
                  repeat (first
                    | (apply Unlock.float rfl
                       · intro x W he hd K Qr hK
                         try (have he := he (by decide))
                         try simp only [edges, DepsE, List.filter_cons, List.filter_nil, Region.binds, if_true, and_true, true_and, upd, Nat.reduceEqDiff, if_false] at hd
                         try simp only [hd] at hK ⊢
                         have HK := Lib.hid hK; clear hK
                         go_wp2_with fail
                         exact HK.out))
                  refine Unlock.nil ?_
                  exact Tree.eq (by kernel_rfl) (Hcut.out _ _ ⟨cv, zs, vb, _, upd_comm (by decide), Ext.trans heA he5, ⟨ownsRow_mono hO5 hszA, hz5⟩, hvb.ext he5⟩)
                -- >>
              -- >>
            -- >>
          · -- <<C
            obtain rfl : j = ng + 1 := by omega
            have hd : decide (gl + ((ng + 1 : Nat) : Int) ≤ gl + (ng : Int)) = false := by simp; omega
            go_wp2_with fail
            go_roundw
            case rel => exact ⟨i + 1, ys, by omega, by go_num, Lib.hid (by rw [hx.out, Clk.partS_succ]), hJ, hk, hF, hC⟩
            case measure => simp [intOf]; omega
            -- >>
        -- >>
      · -- <<D
        obtain rfl : i = ns + 1 := by omega
        have hd : decide (sl + ((ns + 1 : Nat) : Int) ≤ sl + (ns : Int)) = false := by simp; omega
        go_wp2_with fail
        go_ret
        exact ⟨rfl, hk.out, xs, hx.out, hJ.out⟩
        -- >>
end Go.Proofs.Pet
