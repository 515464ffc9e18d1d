/-
  Sights: cleared, explain, open, clash, proof, walked.
-/
import Derived.Test.YtjlglbhafopomaaGreatPBE
namespace Go.Proofs.Pet
set_option linter.unusedSimpArgs false
open Go Go.RowKit Go.Maps Go.Shelf
open Go.Proofs.Pow (PM Sh Wv POk Up sightF clrB opnS hitL explB clashB proofB)
attribute [local go_sem] Oper.semAt_some

theorem any_false_of {n : Nat} {p : Nat → Bool} (h : ∀ j, j < n → p j = false) : (List.range n).any p = false := by
  rw [List.any_eq_false]
  intro j hj
  rw [h j (List.mem_range.1 hj)]
  simp
set_option maxRecDepth 20000 in
set_option maxHeartbeats 1000000 in
theorem cleared_any (D : Nat) (m : PM) (hm : POk m) (A : Option Addr) (c n : Nat) (l : List Int) (hn : l.length = n) (hl : n = m.wvs.length) (i : Nat) (hi : i < m.shafts.length) (q : Bool) (hq : clrB m (sightF l) i = q) (w : World) (hD : DeskAt w D m) (hA : IntsAt w A l) :
    Calls Tryz.prog 133 #[.pointer (some ⟨D, 0, none⟩), .slice A n c, .int .i64 i] w fun e w' => e = .returned (.bool q) ∧ w = w' := by
  have hi9 : i < 9 := by have := hm.sz; omega
  have hml := hm.few
  have Hl := Lib.hid hl; have Hn := Lib.hid hn; have Hq := Lib.hid hq
  have hn6 : n ≤ 6 := by omega
  clear hl hn hq
  go_enter Tryz.func133, Tryz.ntmps133
  go_wp2
  go_loopw [11] (fun iv wr => ∃ k : Nat, k ≤ n ∧ iv = .int .i64 k ∧ Hid (∀ j, j < k → (decide (sightF l j = 1) && m.drv i j) = false) ∧ w = wr) (fun iv _ => n - (intOf iv).toNat)
  case atStart => exact ⟨0, Nat.zero_le _, rfl, fun j hj => absurd hj (by omega), rfl⟩
  case round =>
    obtain ⟨k, hk, rfl, hno, rfl⟩ := hrel
    by_cases hlt : k < n
    · obtain ⟨b, o, rfl, c1⟩ := hA k (by have := Hn.out; omega)
      have hx : Hid (sightF l k = l[k]?.getD 0) := rfl
      have d1 := hD.drv hi9 (show k < 6 by omega)
      obtain ⟨q2, hq2⟩ : ∃ q2, m.drv i k = q2 := ⟨_, rfl⟩
      have hdc : drvC m i k = q2 := by unfold drvC; rw [hq2]; have := Hl.out; simp; omega
      rw [hdc] at d1
      have Hq2 := Lib.hid hq2
      generalize l[k]?.getD 0 = x at *
      clear hq2 hdc
      by_cases h1 : x = 1
      · subst h1
        cases q2 with
        | true =>
          obtain rfl : q = true := by
            rw [← Hq.out]
            unfold clrB
            rw [List.any_eq_true]
            exact ⟨k, List.mem_range.2 (by have := Hl.out; omega), by rw [hx.out, Hq2.out]; rfl⟩
          go_wp2_with fail
          go_ret
          exact ⟨rfl, rfl⟩
        | false =>
          go_wp2_with fail
          go_roundw
          case rel =>
            refine ⟨k + 1, by omega, by go_num, fun j hj => ?_, by trivial⟩
            by_cases ej : j = k
            · subst ej; rw [Hq2.out]; simp
            · exact hno.out j (by omega)
          case measure => simp [intOf]; omega
      · have hd : (x == 1) = false := by simpa using h1
        have Hx1 := Lib.hid h1; clear h1
        go_wp2_with fail
        go_roundw
        case rel =>
          refine ⟨k + 1, by omega, by go_num, fun j hj => ?_, by trivial⟩
          by_cases ej : j = k
          · subst ej; rw [hx.out]; simp [Hx1.out]
          · exact hno.out j (by omega)
        case measure => simp [intOf]; omega
    · obtain rfl : k = n := by omega
      obtain rfl : q = false := by
        rw [← Hq.out]
        unfold clrB
        exact any_false_of fun j hj => hno.out j (by have := Hl.out; omega)
      go_wp2
      go_ret
      exact ⟨rfl, rfl⟩
theorem explain1_any (D Db Kb : Nat) (m : PM) (hm : POk m) (k : Nat) (hk : k < m.wvs.length) (w : World) (hDb : Blk w Db 135 #[.pointer (some ⟨D, 0, none⟩)]) (hKb : Blk w Kb 3 #[.int .i64 (k : Int)]) (hD : DeskAt w D m) (i : Nat) (hi : i < m.shafts.length) :
    Tells Tryz.prog w 166 #[] #[.pointer (some ⟨Db, 0, none⟩), .pointer (some ⟨Kb, 0, none⟩)] IntVal (i : Int) (m.drv i k) := by
  intro W v hW hv
  obtain rfl : v = .int .i64 (i : Int) := hv
  have hml := hm.few
  have d1 := (hD.ext hW).drv (show i < 9 by have := hm.sz; omega) (show k < 6 by omega)
  obtain ⟨q, hq⟩ : ∃ q, m.drv i k = q := ⟨_, rfl⟩
  have hdc : drvC m i k = q := by unfold drvC; rw [hq]; simp [hk]
  rw [hdc] at d1
  rw [hq]
  have e0 := (hDb.ext hW).c1
  have e1 := (hKb.ext hW).c1
  clear hq hdc hDb hKb hD
  show Calls Tryz.prog 166 #[_, .pointer (some ⟨Db, 0, none⟩), .pointer (some ⟨Kb, 0, none⟩)] W _
  have hi9 : i < 9 := by have := hm.sz; omega
  have hk6 : k < 6 := by omega
  go_enter Tryz.func166, Tryz.ntmps166
  go_wp2_with fail
  refine wp_region_chain 8 [] [] (by kernel_rfl) (by kernel_rfl) (by kernel_rfl) ?_
  simp only [List.take, List.drop, fill, Act.put, List.setIfInBounds_toArray, List.set_cons_zero, List.set_cons_succ, Nat.reduceAdd]
  repeat (first
    | refine Floats.mut rfl ?_
    | (apply Floats.float rfl
       · intro x W he hd K Q hK
         try (have he := he (by decide); have e0 := he.cell e0; have e1 := he.cell e1; have d1 := he.cell d1)
         try simp only [edges, DepsE, List.filter_cons, List.filter_nil, Region.binds, if_true, and_true, true_and, upd, Nat.reduceEqDiff, if_false] at hd
         try simp only [hd] at hK ⊢
         have HK := Lib.hid hK; clear hK
         go_wp2_with fail
         exact HK.out))
  refine Floats.done fun W he hG => ?_
  refine Chain.nil ?_
  simp only [upd, Nat.reduceEqDiff, if_false, if_true]
  go_wp2_with fail
  go_ret
  exact ⟨rfl, he⟩
theorem natL_any (g : List Int) (p : Int → Bool) (q : Nat → Bool) (h : ∀ x, x ∈ g → p x = q x.toNat) : g.any p = (natL g).any q := by
  unfold natL
  rw [List.any_map]
  rw [Bool.eq_iff_iff, List.any_eq_true, List.any_eq_true]
  exact ⟨fun ⟨x, hx, e⟩ => ⟨x, hx, by show q x.toNat = true; rw [← h x hx]; exact e⟩, fun ⟨x, hx, e⟩ => ⟨x, hx, by rw [h x hx]; exact e⟩⟩
/-- shafts -/
def InS (m : PM) (g : List Int) : Prop := ∀ x, x ∈ g → 0 ≤ x ∧ x < m.shafts.length
set_option maxRecDepth 20000 in
set_option maxHeartbeats 1000000 in
theorem explain_any (D : Nat) (m : PM) (hm : POk m) (A : Option Addr) (c n : Nat) (l : List Int) (hn : l.length = n) (hl : n = m.wvs.length) (B : Option Addr) (d k2 : Nat) (g : List Int) (hk2 : g.length = k2) (hg : InS m g) (hg2 : k2 ≤ maxLen) (q : Bool) (hq : explB m (sightF l) (natL g) = q) (w : World) (hD : DeskAt w D m) (hA : IntsAt w A l) (hB : IntsAt w B g) :
    Calls Tryz.prog 99 #[.pointer (some ⟨D, 0, none⟩), .slice A n c, .slice B k2 d] w fun e w' => e = .returned (.bool q) ∧ Ext w w' := by
  have hmf : ∀ (fn : Fn) (first cap : Array Value) (w : World), (Instr.makeFunc fn first cap).run Tryz.prog w = .ok (.func fn first cap) w := fun _ _ _ _ => rfl
  have hml := hm.few
  have Hl := Lib.hid hl; have Hn := Lib.hid hn; have Hq := Lib.hid hq
  have hn6 : n ≤ 6 := by omega
  subst hk2
  have hE := Ext.alloc w (.cells #[.pointer (some ⟨D, 0, none⟩)] 135)
  have hDb := Blk.new w 135 #[.pointer (some ⟨D, 0, none⟩)]
  have HA := Lib.hid (hA.ext hE); have HB := Lib.hid (hB.ext hE); have HD := Lib.hid (hD.ext hE); have HDb := Lib.hid hDb; have Hm := Lib.hid hm; have Hg := Lib.hid hg
  obtain ⟨L0, hL0⟩ : ∃ L0, w.heap.size = L0 := ⟨_, rfl⟩
  rw [hL0] at HDb
  have HL0 := Lib.hid hL0
  clear hl hn hq hA hB hD hDb hm hg
  go_enter Tryz.func99, Tryz.ntmps99
  go_wp2_with fail
  clear hL0
  generalize w.alloc _ = W0 at *
  go_loopw [12] (fun iv wr => ∃ k : Nat, k ≤ n ∧ iv = .int .i64 (k : Int) ∧ Hid (∀ j, j < k → (!(decide (sightF l j = 1) && hitL m (natL g) j) && !(decide (sightF l j = 2) && !hitL m (natL g) j)) = true) ∧ Ext W0 wr) (fun iv _ => n - (intOf iv).toNat)
  case atStart => exact ⟨0, Nat.zero_le _, rfl, fun j hj => absurd hj (by omega), Ext.refl _⟩
  case round =>
    obtain ⟨k, hk, rfl, hno, hew⟩ := hrel
    by_cases hlt : k < n
    · obtain ⟨b, o, rfl, c1⟩ := HA.out.ext hew k (by have := Hn.out; omega)
      have hx : Hid (sightF l k = l[k]?.getD 0) := rfl
      have hkl : k < m.wvs.length := by have := Hl.out; omega
      generalize l[k]?.getD 0 = x at *
      have hX := Ext.alloc wr (.cells #[.int .i64 (k : Int)] 3)
      have hKb := Blk.new wr 3 #[.int .i64 (k : Int)]
      have heX := hew.trans hX
      have hcf := containsFuncI 166 #[] #[.pointer (some ⟨L0, 0, none⟩), .pointer (some ⟨wr.heap.size, 0, none⟩)] (enters_of Tryz.func166 (by kernel_rfl) rfl) (fun i => m.drv i.toNat k) B d g _ hg2 (HB.out.ext heX)
        (fun y hy => by
          have hy2 := Hg.out y hy
          obtain ⟨yy, rfl⟩ : ∃ yy : Nat, y = yy := ⟨y.toNat, by omega⟩
          exact explain1_any D L0 wr.heap.size m Hm.out k hkl _ (HDb.out.ext heX) hKb (HD.out.ext heX) yy (by omega))
      obtain ⟨h, hh⟩ : ∃ h, hitL m (natL g) k = h := ⟨_, rfl⟩
      have hga : (g.any fun i => m.drv i.toNat k) = h := by
        rw [← hh]
        unfold hitL
        exact natL_any g _ (fun i => m.drv i k) fun x _ => rfl
      rw [hga] at hcf
      have Hcf := Lib.hid hcf; have Hh := Lib.hid hh
      clear hcf hh hga hKb
      go_wp2_with fail
      refine Hcf.out.mono ?_
      rintro e w3 ⟨rfl, he3⟩
      have he4 := heX.trans he3
      clear Hcf hX heX he3 hew
      have hfin : ∀ (q9 : Bool), (!(decide (x = 1) && h) && !(decide (x = 2) && !h)) = q9 → Hid ((q9 = false → q = false) ∧ (q9 = true → ∀ j, j < k + 1 → (!(decide (sightF l j = 1) && hitL m (natL g) j) && !(decide (sightF l j = 2) && !hitL m (natL g) j)) = true)) := by
        intro q9 h9
        have hkk : (!(decide (sightF l k = 1) && hitL m (natL g) k) && !(decide (sightF l k = 2) && !hitL m (natL g) k)) = q9 := by rw [hx.out, Hh.out]; exact h9
        refine ⟨fun e => ?_, fun e j hj => ?_⟩
        · rw [← Hq.out]
          unfold explB
          rw [List.all_eq_false]
          exact ⟨k, List.mem_range.2 hkl, by rw [hkk, e]; simp⟩
        · by_cases ej : j = k
          · subst ej; rw [hkk, e]
          · exact hno.out j (by omega)
      by_cases h1 : x = 1
      · subst h1
        cases h with
        | true =>
          obtain rfl : q = false := (hfin false rfl).out.1 rfl
          clear hfin
          go_wp2_with fail
          go_ret
          exact ⟨rfl, hE.trans he4⟩
        | false =>
          have hf := Lib.hid ((hfin true rfl).out.2 rfl)
          clear hfin
          go_wp2_with fail
          go_roundw
          case rel => exact ⟨k + 1, by omega, by go_num, hf.out, he4⟩
          case measure => simp [intOf]; omega
      · have hd : (x == 1) = false := by simpa using h1
        by_cases h2 : x = 2
        · subst h2
          cases h with
          | true =>
            have hf := Lib.hid ((hfin true rfl).out.2 rfl)
            clear hfin
            go_wp2_with fail
            go_roundw
            case rel => exact ⟨k + 1, by omega, by go_num, hf.out, he4⟩
            case measure => simp [intOf]; omega
          | false =>
            obtain rfl : q = false := (hfin false rfl).out.1 rfl
            clear hfin
            go_wp2_with fail
            go_ret
            exact ⟨rfl, hE.trans he4⟩
        · have hd2 : (x == 2) = false := by simpa using h2
          have hf := Lib.hid ((hfin true (by simp [h1, h2])).out.2 rfl)
          clear hfin h1 h2
          go_wp2_with fail
          go_roundw
          case rel => exact ⟨k + 1, by omega, by go_num, hf.out, he4⟩
          case measure => simp [intOf]; omega
    · obtain rfl : k = n := by omega
      obtain rfl : q = true := by
        rw [← Hq.out]
        unfold explB
        rw [List.all_eq_true]
        exact fun j hj => hno.out j (by have := Hl.out; have := List.mem_range.1 hj; omega)
      go_wp2
      go_ret
      exact ⟨rfl, hE.trans hew⟩
set_option maxRecDepth 100000 in
set_option maxHeartbeats 2000000 in
theorem open_any (D : Nat) (m : PM) (hm : POk m) (A : Option Addr) (c n : Nat) (l : List Int) (hn : l.length = n) (hl : n = m.wvs.length) (k : Nat) (hk : k < m.wvs.length) (x : List Int) (hx : opnS m (sightF l) k = x) (w : World) (hD : DeskAt w D m) (hA : IntsAt w A l) :
    Calls Tryz.prog 101 #[.pointer (some ⟨D, 0, none⟩), .slice A n c, .int .i64 (k : Int)] w fun e w' => ∃ u, e = .returned u ∧ OwnI w' w.heap.size 3 u x ∧ Ext w w' := by
  obtain ⟨ti, hi, hz0, hz1, hz2⟩ := info_parts info_int
  have Hx := Lib.hid hx; have Hl := Lib.hid hl; have Hn := Lib.hid hn
  have Hm := Lib.hid hm
  have hat := hm.at_ k hk
  have hms := hm.sz
  have hml := hm.few
  have hln9 : (m.line (m.wv k).shaft).length ≤ 9 := by
    obtain ⟨z, hz⟩ : ∃ z : Nat, (m.wv k).shaft = z := ⟨_, (Int.toNat_of_nonneg hat.1).symm⟩
    rw [hz] at hat ⊢
    have := line_len hm.up z (by omega)
    omega
  have hll : Hid (∀ x, x ∈ m.line (m.wv k).shaft → 0 ≤ x ∧ x < m.shafts.length) := fun x hx => line_lt hm hk hx
  have hxe : Hid ((m.line (m.wv k).shaft).filter (fun s => !Pow.clI m (sightF l) s) = x) := hx
  have hn6 : n ≤ 6 := by omega
  obtain ⟨A1, c1, A2, c2, d0, d1, -, hS, hW⟩ := hD.slices
  have HS := Lib.hid hS; have HA := Lib.hid hA; have HD := Lib.hid hD
  obtain ⟨b2, o2, rfl, A3, c3, h3, j1, j2, j3⟩ := hW k hk
  have hwv : m.wvs[k]?.getD default = m.wv k := rfl
  rw [hwv] at j1
  obtain ⟨sf, hsf⟩ : ∃ sf, (m.wv k).shaft = sf := ⟨_, rfl⟩
  rw [hsf] at j1 hat hln9 hll hxe
  have Hup := Lib.hid hm.up
  clear hwv hsf j2 j3 h3 hW hS hA hD hx hl hn hm
  refine (callsIn_wide (n := 5)).1 ?_
  refine callsIn_of_wp_marks Tryz.func101 rfl trivial ?_ rfl
  simp only [Tryz.ntmps101, List.size_toArray, List.length_cons, List.length_nil, Nat.reduceAdd, Nat.reduceSub, Array.replicate_succ, Array.replicate_zero, List.push_toArray, List.append_toArray, List.nil_append, List.cons_append]
  refine wpIn_wide.2 ?_
  obtain ⟨L0, hL0⟩ : ∃ L0, w.heap.size = L0 := ⟨_, rfl⟩
  have hX : Ext w (((w.alloc (.cells #[.pointer (some ⟨D, 0, none⟩)] 135)).alloc (.cells #[.slice A n c] 30)).alloc (.cells #[.slice none 0 0] 31)) := ((Ext.alloc _ _).trans (Ext.alloc _ _)).trans (Ext.alloc _ _)
  have b0 := ((Blk.new w 135 #[.pointer (some ⟨D, 0, none⟩)]).alloc (.cells #[.slice A n c] 30)).alloc (.cells #[.slice none 0 0] 31)
  have b1 := (Blk.new (w.alloc (.cells #[.pointer (some ⟨D, 0, none⟩)] 135)) 30 #[.slice A n c]).alloc (.cells #[.slice none 0 0] 31)
  have b3 := Blk.new ((w.alloc (.cells #[.pointer (some ⟨D, 0, none⟩)] 135)).alloc (.cells #[.slice A n c] 30)) 31 #[.slice none 0 0]
  simp only [World.size_alloc, hL0] at b0 b1 b3
  have HL0 := Lib.hid hL0
  go_upto_region 2 with fail
  clear hL0
  have e0 := b0.c1
  replace d0 := hX.cell d0
  replace d1 := hX.cell d1
  replace j1 := hX.cell j1
  generalize ((w.alloc _).alloc _).alloc _ = W2 at *
  refine wp_region_chain 13 [] [] (by kernel_rfl) (by kernel_rfl) (by kernel_rfl) ?_
  simp only [List.take, List.drop, fill, Act.put, List.setIfInBounds_toArray, List.set_cons_zero, List.set_cons_succ, Nat.reduceAdd]
  repeat (first
    | refine Floats.mut rfl ?_
    | (apply Floats.float rfl
       · intro x W he hd K Q hK
         try (have he := he (by decide); have e0 := he.cell e0; have d0 := he.cell d0; have d1 := he.cell d1; have j1 := he.cell j1)
         try simp only [edges, DepsE, List.filter_cons, List.filter_nil, Region.binds, if_true, and_true, true_and, upd, Nat.reduceEqDiff, if_false] at hd
         try simp only [hd] at hK ⊢
         have HK := Lib.hid hK; clear hK
         go_wp2_with fail
         exact HK.out))
  refine Floats.done fun W he hG => ?_
  refine Chain.nil ?_
  simp only [upd, Nat.reduceEqDiff, if_false, if_true]
  have heY := hX.trans he
  have hline := Lib.hid (pline_any A1 (some ⟨b2, o2, none⟩) m.shafts.length c1 m.wvs.length c2 sf W)
  have hszY := he.size
  have hb3l := b3.lt
  go_wp2_with fail
  refine hline.out.mono ?_
  rintro e W5 ⟨hv5, he5, hL1, hL2, hsz5⟩
  subst hv5
  replace b0 := b0.ext (he.trans he5)
  replace b1 := b1.ext (he.trans he5)
  replace b3 := b3.ext (he.trans he5)
  replace heY := heY.trans he5
  clear hline he he5 e0 d0 d1 j1 hX hG
  obtain ⟨Bk, hBk⟩ : ∃ Bk, W.heap.size = Bk := ⟨_, rfl⟩
  rw [hBk] at hL1 hL2 hsz5 hszY ⊢
  clear hBk
  have hlen1 : m.shafts.length ≤ maxLen := by unfold maxLen; omega
  have hszw : L0 ≤ W5.heap.size := by have := heY.size; have := HL0.out; omega
  have hlow : ∀ k, k < m.shafts.length → ∀ ad, A1 = some ad → ad.block < L0 := fun k hk ad e => by
    have := HS.out.low_lt k hk ad e
    have := HL0.out; omega
  have hb2L : L0 + 2 < Bk := by omega
  go_wp2_with fail
  apply wp_line (n1 := L0) (B := Bk) Hup.out (by omega) hlen1 (s := sf) (by omega) hL1 hL2 (HS.out.ext heY) hlow rfl rfl
    (fun pre V => W5.heap.size ≤ V.heap.size ∧ Ext w V ∧ Blk V L0 135 #[.pointer (some ⟨D, 0, none⟩)] ∧ Blk V (L0 + 1) 30 #[.slice A n c] ∧ ∃ v, Blk V (L0 + 2) 31 #[v] ∧ OwnI V (Bk + 2) 3 v ((pre.map fun y : OnLine m sf => y.1).filter fun s => !Pow.clI m (sightF l) s))
    (fun pre V V' ⟨h1, h2, h3, h4, v, h5, h6⟩ hk => ⟨Nat.le_trans h1 hk.size, h2.loops hk (by have := HL0.out; omega), h3.loops hk, h4.loops hk, v, h5.loops hk, h6.loops hk⟩)
    (fun pre V V' ⟨h1, h2, h3, h4, v, h5, h6⟩ ht => ?hturn) ⟨Nat.le_refl _, heY, b0, b1, _, b3, OwnI.nil _ _ _⟩
  case hturn =>
    obtain ⟨u, rfl⟩ := ht
    exact ⟨by rw [World.size_setCell]; exact h1, Below.setCell h2 (by show _ ≤ Bk + 1; have := HL0.out; omega) _, h3.far (by show L0 ≠ Bk + 1; omega) _, h4.far (by show L0 + 1 ≠ Bk + 1; omega) _, v, h5.far (by show L0 + 2 ≠ Bk + 1; omega) _, h6.apartB (b := Bk + 1) (by omega) ((Apart.refl _ _).set_ 0 u)⟩
  case hassign =>
    intro l x V K hK
    simp only [encO]
    gi_wp2
    exact hK
  case hbody =>
    rintro lp pre x V ⟨h1, h2, h3, h4, v, h5, h6⟩ hpl
    obtain ⟨xv, hxm⟩ := x
    have hxl := hll.out xv hxm
    obtain ⟨cc, rfl⟩ : ∃ cc : Nat, xv = cc := ⟨xv.toNat, by omega⟩
    have u0 := h3.c1
    have u1 := h4.c1
    have u2 := h5.c1
    have uf := h5.frozen 0
    obtain ⟨q, hq⟩ : ∃ q, clrB m (sightF l) cc = q := ⟨_, rfl⟩
    have hcl := Lib.hid (cleared_any D m Hm.out A c n l Hn.out Hl.out cc (by omega) q hq V (HD.out.ext h2) (HA.out.ext h2))
    have Hmap : Hid (((pre ++ [(⟨(cc : Int), hxm⟩ : OnLine m sf)]).map fun y : OnLine m sf => y.1).filter (fun s => !Pow.clI m (sightF l) s) = ((pre.map fun y : OnLine m sf => y.1).filter fun s => !Pow.clI m (sightF l) s) ++ if q then [] else [(cc : Int)]) := by
      unfold Hid
      rw [List.map_append, List.map_singleton, List.filter_append]
      congr 1
      have : Pow.clI m (sightF l) (cc : Int) = q := hq
      cases q <;> simp [this]
    have hlenf : ((pre.map fun y : OnLine m sf => y.1).filter fun s => !Pow.clI m (sightF l) s).length ≤ 9 := by
      have := List.length_filter_le (fun s => !Pow.clI m (sightF l) s) (pre.map fun y : OnLine m sf => y.1)
      rw [List.length_map] at this
      omega
    obtain ⟨ls, hls⟩ : ∃ ls, ((pre.map fun y : OnLine m sf => y.1).filter fun s => !Pow.clI m (sightF l) s) = ls := ⟨_, rfl⟩
    rw [hls] at h6 Hmap hlenf
    clear hls hq
    have hb5l := h5.lt
    obtain ⟨A0, c0, rfl, -, -, -, -, -⟩ := h6.open_
    cases q with
    | true =>
      have Hm2 : Hid (((pre ++ [(⟨(cc : Int), hxm⟩ : OnLine m sf)]).map fun y : OnLine m sf => y.1).filter (fun s => !Pow.clI m (sightF l) s) = ls) := by unfold Hid; rw [Hmap.out]; simp
      have H6 := Lib.hid h6
      clear Hmap h6
      gi_wp2_with fail
      refine ⟨trivial, CallsIn.inRound lp (callsIn_wide.2 (hcl.out.mono ?_))⟩
      rintro e w' ⟨rfl, rfl⟩
      gi_wp2_with fail
      exact ⟨KeepsFrom.refl _ _, ⟨fun k hk => rfl, rfl, rfl⟩, h1, h2, h3, h4, _, h5, by rw [Hm2.out]; exact H6.out⟩
    | false =>
      have Hm2 : Hid (((pre ++ [(⟨(cc : Int), hxm⟩ : OnLine m sf)]).map fun y : OnLine m sf => y.1).filter (fun s => !Pow.clI m (sightF l) s) = ls ++ [(cc : Int)]) := by unfold Hid; rw [Hmap.out]; simp
      have hXv := Ext.alloc V (.cells #[.int .i64 (cc : Int)] 3)
      have h6X := h6.ext hXv
      have h5X := h5.ext hXv
      have hge : ∀ j, (Value.slice A0 ls.length c0).ownBlock = some j → Bk + 2 ≤ j := fun j hj => (h6.own_lt j hj).1
      clear Hmap
      gi_wp2_with fail
      refine ⟨trivial, CallsIn.inRound lp (callsIn_wide.2 (hcl.out.mono ?_))⟩
      rintro e w' ⟨rfl, rfl⟩
      gi_wp2_with (gi_at_builtin; refine wpListIn_append_own _ rfl _ _ 31 rfl (Bk + 2) 3 ti (.int .i64 0) 1 8 Tryz.underlying31 hi hz0 hz1 hz2 rfl (by decide) _ _ _ rfl h6X ⟨V.heap.size, 0, none⟩ 1 1 [.int .i64 (cc : Int)] rfl rfl (cell_one_new _ _ _) (by simp [Value.oneCell']) (by unfold maxLen; omega) (by omega) (by simp; omega) ?_; intro v' w' hown hg hblk; have hB9 := Blk.grown h5X hg (fun e => by have := hge (L0 + 2) e.symm; omega); have q0 := hB9.c1; have q1 := hB9.frozen 0; obtain ⟨A9, c9, rfl⟩ := ownsRow_slice hown)
      have hO : OwnI w' (Bk + 2) 3 (.slice A9 (ls.length + 1) c9) (ls ++ [(cc : Int)]) := by
        unfold OwnI; rw [List.length_append, List.map_append]; exact hown
      have hszV : (V.alloc (.cells #[.int .i64 (cc : Int)] 3)).heap.size = V.heap.size + 1 := World.size_alloc ..
      have hsg := hg.size
      have hk9 : ∀ k, k < V.heap.size → k < Bk + 2 → k ≠ L0 + 2 → (w'.setCell ⟨L0 + 2, 0, none⟩ (.slice A9 (ls.length + 1) c9)).heap[k]? = V.heap[k]? := fun k hk hk2 hk3 => (Below.heap_setCell w' _ _ k (by show k ≠ L0 + 2; omega)).trans ((hg.block k (by omega) (fun e => by have := hge k e.symm; omega)).trans (Below.block hXv k hk))
      refine ⟨(((KeepsOthers.alloc V _).trans (KeepsOthers.of_grownBy hg (ownsRow_cellsP h6X))).trans (KeepsOthers.setCell _ _ _)).from _, ⟨fun k hk1 => hk9 k (by omega) (by omega) (by omega), hk9 _ (by omega) (by omega) (by omega), hk9 _ (by omega) (by omega) (by omega)⟩, ?_, ?_, ((h3.ext hXv).grown hg (fun e => by have := hge _ e.symm; omega)).far (by show L0 ≠ L0 + 2; omega) _, ((h4.ext hXv).grown hg (fun e => by have := hge _ e.symm; omega)).far (by show L0 + 1 ≠ L0 + 2; omega) _, _, by simpa using hB9.set_ 0 (.slice A9 (ls.length + 1) c9), by rw [Hm2.out]; exact hO.far hB9 (by decide) 0 _⟩
      · rw [World.size_setCell]; omega
      · exact Below.setCell (Below.grown (h2.trans hXv) hg (by have := h2.size; omega) (fun j hj => by have := hge j hj; have := HL0.out; omega)) (by show _ ≤ L0 + 2; have := HL0.out; omega) _
  case hdone =>
    intro Dd xs V hDd hxs ⟨h1, h2, h3, h4, v, h5, h6⟩ hdef
    rw [hxs, hxe.out] at h6
    have u0 := h5.c1
    have hm := (Marks.nil V W5.heap.size Dd).push hDd (Nat.le_refl _) hdef
    obtain ⟨A0, c0, rfl, -, -, -, -, -⟩ := h6.open_
    have H6 := Lib.hid h6
    clear h6 hdef
    go_wp2_with fail
    exact leaves_marks' [markOf Dd] V hm (fun W' => results_tmp rfl _ _ _) (fun W' hq => ⟨_, rfl, (H6.out.loops hq.loops).mono (by have := HL0.out; omega), hq.ext h2 (by have := heY.size; omega)⟩)
end Go.Proofs.Pet
