/- Joined texts: PBF, PBG, PBH, PBI, PBJ, PBK, PBL, O0, PL1, PC2. -/
import Derived.Test.YtlekonngbmkdbaaGreatJ06
import Derived.Test.YtlekonngbmkdbaaGreatJ02
import Derived.Test.YtlekonngbmkdbaaGreatB0
import Derived.Deep.DeepCutAuto
namespace Go.Proofs.Pet
set_option linter.unusedSimpArgs false
open Go Go.RowKit Go.Maps Go.Shelf
open Go.Proofs.Pow (PM Sh Wv POk Up sightF clrB opnS hitL explB clashB proofB)
attribute [local go_sem] Oper.semAt_some

theorem any_false_of {n : Nat} {p : Nat → Bool} (h : ∀ j, j < n → p j = false) : (List.range n).any p = false := by
  rw [List.any_eq_false]
  intro j hj
  rw [h j (List.mem_range.1 hj)]
  simp
set_option maxRecDepth 20000 in
set_option maxHeartbeats 1000000 in
theorem cleared_any (D : Nat) (m : PM) (hm : POk m) (A : Option Addr) (c n : Nat) (l : List Int) (hn : l.length = n) (hl : n = m.wvs.length) (i : Nat) (hi : i < m.shafts.length) (q : Bool) (hq : clrB m (sightF l) i = q) (w : World) (hD : DeskAt w D m) (hA : IntsAt w A l) :
    Calls Tryz.prog 221 #[.pointer (some ⟨D, 0, none⟩), .slice A n c, .int .i64 i] w fun e w' => e = .returned (.bool q) ∧ w = w' := by
  have hi9 : i < 9 := by have := hm.sz; omega
  have hml := hm.few
  have Hl := Lib.hid hl; have Hn := Lib.hid hn; have Hq := Lib.hid hq
  have hn6 : n ≤ 6 := by omega
  clear hl hn hq
  go_enter Tryz.func221, Tryz.ntmps221
  go_wp2
  go_loopw [11] (fun iv wr => ∃ k : Nat, k ≤ n ∧ iv = .int .i64 k ∧ Hid (∀ j, j < k → (decide (sightF l j = 1) && m.drv i j) = false) ∧ w = wr) (fun iv _ => n - (intOf iv).toNat)
  case atStart => exact ⟨0, Nat.zero_le _, rfl, fun j hj => absurd hj (by omega), rfl⟩
  case round =>
    obtain ⟨k, hk, rfl, hno, rfl⟩ := hrel
    by_cases hlt : k < n
    · obtain ⟨b, o, rfl, c1⟩ := hA k (by have := Hn.out; omega)
      have hx : Hid (sightF l k = l[k]?.getD 0) := rfl
      have d1 := hD.drv hi9 (show k < 6 by omega)
      obtain ⟨q2, hq2⟩ : ∃ q2, m.drv i k = q2 := ⟨_, rfl⟩
      have hdc : drvC m i k = q2 := by unfold drvC; rw [hq2]; have := Hl.out; simp; omega
      rw [hdc] at d1
      have Hq2 := Lib.hid hq2
      generalize l[k]?.getD 0 = x at *
      clear hq2 hdc
      by_cases h1 : x = 1
      · subst h1
        cases q2 with
        | true =>
          obtain rfl : q = true := by
            rw [← Hq.out]
            unfold clrB
            rw [List.any_eq_true]
            exact ⟨k, List.mem_range.2 (by have := Hl.out; omega), by rw [hx.out, Hq2.out]; rfl⟩
          go_wp2_with fail
          go_ret
          exact ⟨rfl, rfl⟩
        | false =>
          go_wp2_with fail
          go_roundw
          case rel =>
            refine ⟨k + 1, by omega, by go_num, fun j hj => ?_, by trivial⟩
            by_cases ej : j = k
            · subst ej; rw [Hq2.out]; simp
            · exact hno.out j (by omega)
          case measure => simp [intOf]; omega
      · have hd : (x == 1) = false := by simpa using h1
        have Hx1 := Lib.hid h1; clear h1
        go_wp2_with fail
        go_roundw
        case rel =>
          refine ⟨k + 1, by omega, by go_num, fun j hj => ?_, by trivial⟩
          by_cases ej : j = k
          · subst ej; rw [hx.out]; simp [Hx1.out]
          · exact hno.out j (by omega)
        case measure => simp [intOf]; omega
    · obtain rfl : k = n := by omega
      obtain rfl : q = false := by
        rw [← Hq.out]
        unfold clrB
        exact any_false_of fun j hj => hno.out j (by have := Hl.out; omega)
      go_wp2
      go_ret
      exact ⟨rfl, rfl⟩
theorem explain1_any (D Db Kb : Nat) (m : PM) (hm : POk m) (k : Nat) (hk : k < m.wvs.length) (w : World) (hDb : Blk w Db 175 #[.pointer (some ⟨D, 0, none⟩)]) (hKb : Blk w Kb 3 #[.int .i64 (k : Int)]) (hD : DeskAt w D m) (i : Nat) (hi : i < m.shafts.length) :
    Tells Tryz.prog w 215 #[] #[.pointer (some ⟨Db, 0, none⟩), .pointer (some ⟨Kb, 0, none⟩)] IntVal (i : Int) (m.drv i k) := by
  intro W v hW hv
  obtain rfl : v = .int .i64 (i : Int) := hv
  have hml := hm.few
  have d1 := (hD.ext hW).drv (show i < 9 by have := hm.sz; omega) (show k < 6 by omega)
  obtain ⟨q, hq⟩ : ∃ q, m.drv i k = q := ⟨_, rfl⟩
  have hdc : drvC m i k = q := by unfold drvC; rw [hq]; simp [hk]
  rw [hdc] at d1
  rw [hq]
  have e0 := (hDb.ext hW).c1
  have e1 := (hKb.ext hW).c1
  clear hq hdc hDb hKb hD
  show Calls Tryz.prog 215 #[_, .pointer (some ⟨Db, 0, none⟩), .pointer (some ⟨Kb, 0, none⟩)] W _
  have hi9 : i < 9 := by have := hm.sz; omega
  have hk6 : k < 6 := by omega
  go_enter Tryz.func215, Tryz.ntmps215
  go_wp2_with fail
  refine wp_region_chain 8 [] [] (by kernel_rfl) (by kernel_rfl) (by kernel_rfl) ?_
  simp only [List.take, List.drop, fill, Act.put, List.setIfInBounds_toArray, List.set_cons_zero, List.set_cons_succ, Nat.reduceAdd]
  repeat (first
    | refine Floats.mut rfl ?_
    | (apply Floats.float rfl
       · intro x W he hd K Q hK
         try (have he := he (by decide); have e0 := he.cell e0; have e1 := he.cell e1; have d1 := he.cell d1)
         try simp only [edges, DepsE, List.filter_cons, List.filter_nil, Region.binds, if_true, and_true, true_and, upd, Nat.reduceEqDiff, if_false] at hd
         try simp only [hd] at hK ⊢
         have HK := Lib.hid hK; clear hK
         go_wp2_with fail
         exact HK.out))
  refine Floats.done fun W he hG => ?_
  refine Chain.nil ?_
  simp only [upd, Nat.reduceEqDiff, if_false, if_true]
  go_wp2_with fail
  go_ret
  exact ⟨rfl, he⟩
theorem natL_any (g : List Int) (p : Int → Bool) (q : Nat → Bool) (h : ∀ x, x ∈ g → p x = q x.toNat) : g.any p = (natL g).any q := by
  unfold natL
  rw [List.any_map]
  rw [Bool.eq_iff_iff, List.any_eq_true, List.any_eq_true]
  exact ⟨fun ⟨x, hx, e⟩ => ⟨x, hx, by show q x.toNat = true; rw [← h x hx]; exact e⟩, fun ⟨x, hx, e⟩ => ⟨x, hx, by rw [h x hx]; exact e⟩⟩
/-- shafts -/
def InSP (m : PM) (g : List Int) : Prop := ∀ x, x ∈ g → 0 ≤ x ∧ x < m.shafts.length
set_option maxRecDepth 20000 in
set_option maxHeartbeats 1000000 in
theorem explain_any (D : Nat) (m : PM) (hm : POk m) (A : Option Addr) (c n : Nat) (l : List Int) (hn : l.length = n) (hl : n = m.wvs.length) (B : Option Addr) (d k2 : Nat) (g : List Int) (hk2 : g.length = k2) (hg : InSP m g) (hg2 : k2 ≤ maxLen) (q : Bool) (hq : explB m (sightF l) (natL g) = q) (w : World) (hD : DeskAt w D m) (hA : IntsAt w A l) (hB : IntsAt w B g) :
    Calls Tryz.prog 121 #[.pointer (some ⟨D, 0, none⟩), .slice A n c, .slice B k2 d] w fun e w' => e = .returned (.bool q) ∧ Ext w w' := by
  have hmf : ∀ (fn : Fn) (first cap : Array Value) (w : World), (Instr.makeFunc fn first cap).run Tryz.prog w = .ok (.func fn first cap) w := fun _ _ _ _ => rfl
  have hml := hm.few
  have Hl := Lib.hid hl; have Hn := Lib.hid hn; have Hq := Lib.hid hq
  have hn6 : n ≤ 6 := by omega
  subst hk2
  have hE := Ext.alloc w (.cells #[.pointer (some ⟨D, 0, none⟩)] 175)
  have hDb := Blk.new w 175 #[.pointer (some ⟨D, 0, none⟩)]
  have HA := Lib.hid (hA.ext hE); have HB := Lib.hid (hB.ext hE); have HD := Lib.hid (hD.ext hE); have HDb := Lib.hid hDb; have Hm := Lib.hid hm; have Hg := Lib.hid hg
  obtain ⟨L0, hL0⟩ : ∃ L0, w.heap.size = L0 := ⟨_, rfl⟩
  rw [hL0] at HDb
  have HL0 := Lib.hid hL0
  clear hl hn hq hA hB hD hDb hm hg
  go_enter Tryz.func121, Tryz.ntmps121
  go_wp2_with fail
  clear hL0
  generalize w.alloc _ = W0 at *
  go_loopw [12] (fun iv wr => ∃ k : Nat, k ≤ n ∧ iv = .int .i64 (k : Int) ∧ Hid (∀ j, j < k → (!(decide (sightF l j = 1) && hitL m (natL g) j) && !(decide (sightF l j = 2) && !hitL m (natL g) j)) = true) ∧ Ext W0 wr) (fun iv _ => n - (intOf iv).toNat)
  case atStart => exact ⟨0, Nat.zero_le _, rfl, fun j hj => absurd hj (by omega), Ext.refl _⟩
  case round =>
    obtain ⟨k, hk, rfl, hno, hew⟩ := hrel
    by_cases hlt : k < n
    · obtain ⟨b, o, rfl, c1⟩ := HA.out.ext hew k (by have := Hn.out; omega)
      have hx : Hid (sightF l k = l[k]?.getD 0) := rfl
      have hkl : k < m.wvs.length := by have := Hl.out; omega
      generalize l[k]?.getD 0 = x at *
      have hX := Ext.alloc wr (.cells #[.int .i64 (k : Int)] 3)
      have hKb := Blk.new wr 3 #[.int .i64 (k : Int)]
      have heX := hew.trans hX
      have hcf := containsFuncI 215 #[] #[.pointer (some ⟨L0, 0, none⟩), .pointer (some ⟨wr.heap.size, 0, none⟩)] (enters_of Tryz.func215 (by kernel_rfl) rfl) (fun i => m.drv i.toNat k) B d g _ hg2 (HB.out.ext heX)
        (fun y hy => by
          have hy2 := Hg.out y hy
          obtain ⟨yy, rfl⟩ : ∃ yy : Nat, y = yy := ⟨y.toNat, by omega⟩
          exact explain1_any D L0 wr.heap.size m Hm.out k hkl _ (HDb.out.ext heX) hKb (HD.out.ext heX) yy (by omega))
      obtain ⟨h, hh⟩ : ∃ h, hitL m (natL g) k = h := ⟨_, rfl⟩
      have hga : (g.any fun i => m.drv i.toNat k) = h := by
        rw [← hh]
        unfold hitL
        exact natL_any g _ (fun i => m.drv i k) fun x _ => rfl
      rw [hga] at hcf
      have Hcf := Lib.hid hcf; have Hh := Lib.hid hh
      clear hcf hh hga hKb
      go_wp2_with fail
      refine Hcf.out.mono ?_
      rintro e w3 ⟨rfl, he3⟩
      have he4 := heX.trans he3
      clear Hcf hX heX he3 hew
      have hfin : ∀ (q9 : Bool), (!(decide (x = 1) && h) && !(decide (x = 2) && !h)) = q9 → Hid ((q9 = false → q = false) ∧ (q9 = true → ∀ j, j < k + 1 → (!(decide (sightF l j = 1) && hitL m (natL g) j) && !(decide (sightF l j = 2) && !hitL m (natL g) j)) = true)) := by
        intro q9 h9
        have hkk : (!(decide (sightF l k = 1) && hitL m (natL g) k) && !(decide (sightF l k = 2) && !hitL m (natL g) k)) = q9 := by rw [hx.out, Hh.out]; exact h9
        refine ⟨fun e => ?_, fun e j hj => ?_⟩
        · rw [← Hq.out]
          unfold explB
          rw [List.all_eq_false]
          exact ⟨k, List.mem_range.2 hkl, by rw [hkk, e]; simp⟩
        · by_cases ej : j = k
          · subst ej; rw [hkk, e]
          · exact hno.out j (by omega)
      by_cases h1 : x = 1
      · subst h1
        cases h with
        | true =>
          obtain rfl : q = false := (hfin false rfl).out.1 rfl
          clear hfin
          go_wp2_with fail
          go_ret
          exact ⟨rfl, hE.trans he4⟩
        | false =>
          have hf := Lib.hid ((hfin true rfl).out.2 rfl)
          clear hfin
          go_wp2_with fail
          go_roundw
          case rel => exact ⟨k + 1, by omega, by go_num, hf.out, he4⟩
          case measure => simp [intOf]; omega
      · have hd : (x == 1) = false := by simpa using h1
        by_cases h2 : x = 2
        · subst h2
          cases h with
          | true =>
            have hf := Lib.hid ((hfin true rfl).out.2 rfl)
            clear hfin
            go_wp2_with fail
            go_roundw
            case rel => exact ⟨k + 1, by omega, by go_num, hf.out, he4⟩
            case measure => simp [intOf]; omega
          | false =>
            obtain rfl : q = false := (hfin false rfl).out.1 rfl
            clear hfin
            go_wp2_with fail
            go_ret
            exact ⟨rfl, hE.trans he4⟩
        · have hd2 : (x == 2) = false := by simpa using h2
          have hf := Lib.hid ((hfin true (by simp [h1, h2])).out.2 rfl)
          clear hfin h1 h2
          go_wp2_with fail
          go_roundw
          case rel => exact ⟨k + 1, by omega, by go_num, hf.out, he4⟩
          case measure => simp [intOf]; omega
    · obtain rfl : k = n := by omega
      obtain rfl : q = true := by
        rw [← Hq.out]
        unfold explB
        rw [List.all_eq_true]
        exact fun j hj => hno.out j (by have := Hl.out; have := List.mem_range.1 hj; omega)
      go_wp2
      go_ret
      exact ⟨rfl, hE.trans hew⟩
set_option maxRecDepth 100000 in
set_option maxHeartbeats 2000000 in
theorem open_any (D : Nat) (m : PM) (hm : POk m) (A : Option Addr) (c n : Nat) (l : List Int) (hn : l.length = n) (hl : n = m.wvs.length) (k : Nat) (hk : k < m.wvs.length) (x : List Int) (hx : opnS m (sightF l) k = x) (w : World) (hD : DeskAt w D m) (hA : IntsAt w A l) :
    Calls Tryz.prog 201 #[.pointer (some ⟨D, 0, none⟩), .slice A n c, .int .i64 (k : Int)] w fun e w' => ∃ u, e = .returned u ∧ OwnI w' w.heap.size 3 u x ∧ Ext w w' := by
  obtain ⟨ti, hi, hz0, hz1, hz2⟩ := info_parts info_int
  have Hx := Lib.hid hx; have Hl := Lib.hid hl; have Hn := Lib.hid hn
  have Hm := Lib.hid hm
  have hat := hm.at_ k hk
  have hms := hm.sz
  have hml := hm.few
  have hln9 : (m.line (m.wv k).shaft).length ≤ 9 := by
    obtain ⟨z, hz⟩ : ∃ z : Nat, (m.wv k).shaft = z := ⟨_, (Int.toNat_of_nonneg hat.1).symm⟩
    rw [hz] at hat ⊢
    have := line_len hm.up z (by omega)
    omega
  have hll : Hid (∀ x, x ∈ m.line (m.wv k).shaft → 0 ≤ x ∧ x < m.shafts.length) := fun x hx => line_lt hm hk hx
  have hxe : Hid ((m.line (m.wv k).shaft).filter (fun s => !Pow.clI m (sightF l) s) = x) := hx
  have hn6 : n ≤ 6 := by omega
  obtain ⟨A1, c1, A2, c2, d0, d1, -, hS, hW⟩ := hD.slices
  have HS := Lib.hid hS; have HA := Lib.hid hA; have HD := Lib.hid hD
  obtain ⟨b2, o2, rfl, A3, c3, h3, j1, j2, j3⟩ := hW k hk
  have hwv : m.wvs[k]?.getD default = m.wv k := rfl
  rw [hwv] at j1
  obtain ⟨sf, hsf⟩ : ∃ sf, (m.wv k).shaft = sf := ⟨_, rfl⟩
  rw [hsf] at j1 hat hln9 hll hxe
  have Hup := Lib.hid hm.up
  clear hwv hsf j2 j3 h3 hW hS hA hD hx hl hn hm
  refine (callsIn_wide (n := 5)).1 ?_
  refine callsIn_of_wp_marks Tryz.func201 rfl trivial ?_ rfl
  simp only [Tryz.ntmps201, List.size_toArray, List.length_cons, List.length_nil, Nat.reduceAdd, Nat.reduceSub, Array.replicate_succ, Array.replicate_zero, List.push_toArray, List.append_toArray, List.nil_append, List.cons_append]
  refine wpIn_wide.2 ?_
  obtain ⟨L0, hL0⟩ : ∃ L0, w.heap.size = L0 := ⟨_, rfl⟩
  have hX : Ext w (((w.alloc (.cells #[.pointer (some ⟨D, 0, none⟩)] 175)).alloc (.cells #[.slice A n c] 82)).alloc (.cells #[.slice none 0 0] 22)) := ((Ext.alloc _ _).trans (Ext.alloc _ _)).trans (Ext.alloc _ _)
  have b0 := ((Blk.new w 175 #[.pointer (some ⟨D, 0, none⟩)]).alloc (.cells #[.slice A n c] 82)).alloc (.cells #[.slice none 0 0] 22)
  have b1 := (Blk.new (w.alloc (.cells #[.pointer (some ⟨D, 0, none⟩)] 175)) 82 #[.slice A n c]).alloc (.cells #[.slice none 0 0] 22)
  have b3 := Blk.new ((w.alloc (.cells #[.pointer (some ⟨D, 0, none⟩)] 175)).alloc (.cells #[.slice A n c] 82)) 22 #[.slice none 0 0]
  simp only [World.size_alloc, hL0] at b0 b1 b3
  have HL0 := Lib.hid hL0
  go_upto_region 2 with fail
  clear hL0
  have e0 := b0.c1
  replace d0 := hX.cell d0
  replace d1 := hX.cell d1
  replace j1 := hX.cell j1
  generalize ((w.alloc _).alloc _).alloc _ = W2 at *
  refine wp_region_chain 13 [] [] (by kernel_rfl) (by kernel_rfl) (by kernel_rfl) ?_
  simp only [List.take, List.drop, fill, Act.put, List.setIfInBounds_toArray, List.set_cons_zero, List.set_cons_succ, Nat.reduceAdd]
  repeat (first
    | refine Floats.mut rfl ?_
    | (apply Floats.float rfl
       · intro x W he hd K Q hK
         try (have he := he (by decide); have e0 := he.cell e0; have d0 := he.cell d0; have d1 := he.cell d1; have j1 := he.cell j1)
         try simp only [edges, DepsE, List.filter_cons, List.filter_nil, Region.binds, if_true, and_true, true_and, upd, Nat.reduceEqDiff, if_false] at hd
         try simp only [hd] at hK ⊢
         have HK := Lib.hid hK; clear hK
         go_wp2_with fail
         exact HK.out))
  refine Floats.done fun W he hG => ?_
  refine Chain.nil ?_
  simp only [upd, Nat.reduceEqDiff, if_false, if_true]
  have heY := hX.trans he
  have hline := Lib.hid (pline_any A1 (some ⟨b2, o2, none⟩) m.shafts.length c1 m.wvs.length c2 sf W)
  have hszY := he.size
  have hb3l := b3.lt
  go_wp2_with fail
  refine hline.out.mono ?_
  rintro e W5 ⟨hv5, he5, hL1, hL2, hsz5⟩
  subst hv5
  replace b0 := b0.ext (he.trans he5)
  replace b1 := b1.ext (he.trans he5)
  replace b3 := b3.ext (he.trans he5)
  replace heY := heY.trans he5
  clear hline he he5 e0 d0 d1 j1 hX hG
  obtain ⟨Bk, hBk⟩ : ∃ Bk, W.heap.size = Bk := ⟨_, rfl⟩
  rw [hBk] at hL1 hL2 hsz5 hszY ⊢
  clear hBk
  have hlen1 : m.shafts.length ≤ maxLen := by unfold maxLen; omega
  have hszw : L0 ≤ W5.heap.size := by have := heY.size; have := HL0.out; omega
  have hlow : ∀ k, k < m.shafts.length → ∀ ad, A1 = some ad → ad.block < L0 := fun k hk ad e => by
    have := HS.out.low_lt k hk ad e
    have := HL0.out; omega
  have hb2L : L0 + 2 < Bk := by omega
  go_wp2_with fail
  apply wp_line (n1 := L0) (B := Bk) Hup.out (by omega) hlen1 (s := sf) (by omega) hL1 hL2 (HS.out.ext heY) hlow rfl rfl
    (fun pre V => W5.heap.size ≤ V.heap.size ∧ Ext w V ∧ Blk V L0 175 #[.pointer (some ⟨D, 0, none⟩)] ∧ Blk V (L0 + 1) 82 #[.slice A n c] ∧ ∃ v, Blk V (L0 + 2) 22 #[v] ∧ OwnI V (Bk + 2) 3 v ((pre.map fun y : OnLine m sf => y.1).filter fun s => !Pow.clI m (sightF l) s))
    (fun pre V V' ⟨h1, h2, h3, h4, v, h5, h6⟩ hk => ⟨Nat.le_trans h1 hk.size, h2.loops hk (by have := HL0.out; omega), h3.loops hk, h4.loops hk, v, h5.loops hk, h6.loops hk⟩)
    (fun pre V V' ⟨h1, h2, h3, h4, v, h5, h6⟩ ht => ?hturn) ⟨Nat.le_refl _, heY, b0, b1, _, b3, OwnI.nil _ _ _⟩
  case hturn =>
    obtain ⟨u, rfl⟩ := ht
    exact ⟨by rw [World.size_setCell]; exact h1, Below.setCell h2 (by show _ ≤ Bk + 1; have := HL0.out; omega) _, h3.far (by show L0 ≠ Bk + 1; omega) _, h4.far (by show L0 + 1 ≠ Bk + 1; omega) _, v, h5.far (by show L0 + 2 ≠ Bk + 1; omega) _, h6.apartB (b := Bk + 1) (by omega) ((Apart.refl _ _).set_ 0 u)⟩
  case hassign =>
    intro l x V K hK
    simp only [encO]
    gi_wp2
    exact hK
  case hbody =>
    rintro lp pre x V ⟨h1, h2, h3, h4, v, h5, h6⟩ hpl
    obtain ⟨xv, hxm⟩ := x
    have hxl := hll.out xv hxm
    obtain ⟨cc, rfl⟩ : ∃ cc : Nat, xv = cc := ⟨xv.toNat, by omega⟩
    have u0 := h3.c1
    have u1 := h4.c1
    have u2 := h5.c1
    have uf := h5.frozen 0
    obtain ⟨q, hq⟩ : ∃ q, clrB m (sightF l) cc = q := ⟨_, rfl⟩
    have hcl := Lib.hid (cleared_any D m Hm.out A c n l Hn.out Hl.out cc (by omega) q hq V (HD.out.ext h2) (HA.out.ext h2))
    have Hmap : Hid (((pre ++ [(⟨(cc : Int), hxm⟩ : OnLine m sf)]).map fun y : OnLine m sf => y.1).filter (fun s => !Pow.clI m (sightF l) s) = ((pre.map fun y : OnLine m sf => y.1).filter fun s => !Pow.clI m (sightF l) s) ++ if q then [] else [(cc : Int)]) := by
      unfold Hid
      rw [List.map_append, List.map_singleton, List.filter_append]
      congr 1
      have : Pow.clI m (sightF l) (cc : Int) = q := hq
      cases q <;> simp [this]
    have hlenf : ((pre.map fun y : OnLine m sf => y.1).filter fun s => !Pow.clI m (sightF l) s).length ≤ 9 := by
      have := List.length_filter_le (fun s => !Pow.clI m (sightF l) s) (pre.map fun y : OnLine m sf => y.1)
      rw [List.length_map] at this
      omega
    obtain ⟨ls, hls⟩ : ∃ ls, ((pre.map fun y : OnLine m sf => y.1).filter fun s => !Pow.clI m (sightF l) s) = ls := ⟨_, rfl⟩
    rw [hls] at h6 Hmap hlenf
    clear hls hq
    have hb5l := h5.lt
    obtain ⟨A0, c0, rfl, -, -, -, -, -⟩ := h6.open_
    cases q with
    | true =>
      have Hm2 : Hid (((pre ++ [(⟨(cc : Int), hxm⟩ : OnLine m sf)]).map fun y : OnLine m sf => y.1).filter (fun s => !Pow.clI m (sightF l) s) = ls) := by unfold Hid; rw [Hmap.out]; simp
      have H6 := Lib.hid h6
      clear Hmap h6
      gi_wp2_with fail
      refine ⟨trivial, CallsIn.inRound lp (callsIn_wide.2 (hcl.out.mono ?_))⟩
      rintro e w' ⟨rfl, rfl⟩
      gi_wp2_with fail
      exact ⟨KeepsFrom.refl _ _, ⟨fun k hk => rfl, rfl, rfl⟩, h1, h2, h3, h4, _, h5, by rw [Hm2.out]; exact H6.out⟩
    | false =>
      have Hm2 : Hid (((pre ++ [(⟨(cc : Int), hxm⟩ : OnLine m sf)]).map fun y : OnLine m sf => y.1).filter (fun s => !Pow.clI m (sightF l) s) = ls ++ [(cc : Int)]) := by unfold Hid; rw [Hmap.out]; simp
      have hXv := Ext.alloc V (.cells #[.int .i64 (cc : Int)] 3)
      have h6X := h6.ext hXv
      have h5X := h5.ext hXv
      have hge : ∀ j, (Value.slice A0 ls.length c0).ownBlock = some j → Bk + 2 ≤ j := fun j hj => (h6.own_lt j hj).1
      clear Hmap
      gi_wp2_with fail
      refine ⟨trivial, CallsIn.inRound lp (callsIn_wide.2 (hcl.out.mono ?_))⟩
      rintro e w' ⟨rfl, rfl⟩
      gi_wp2_with (gi_at_builtin; refine wpListIn_append_own _ rfl _ _ 22 rfl (Bk + 2) 3 ti (.int .i64 0) 1 8 Tryz.underlying22 hi hz0 hz1 hz2 rfl (by decide) _ _ _ rfl h6X ⟨V.heap.size, 0, none⟩ 1 1 [.int .i64 (cc : Int)] rfl rfl (cell_one_new _ _ _) (by simp [Value.oneCell']) (by unfold maxLen; omega) (by omega) (by simp; omega) ?_; intro v' w' hown hg hblk; have hB9 := Blk.grown h5X hg (fun e => by have := hge (L0 + 2) e.symm; omega); have q0 := hB9.c1; have q1 := hB9.frozen 0; obtain ⟨A9, c9, rfl⟩ := ownsRow_slice hown)
      have hO : OwnI w' (Bk + 2) 3 (.slice A9 (ls.length + 1) c9) (ls ++ [(cc : Int)]) := by
        unfold OwnI; rw [List.length_append, List.map_append]; exact hown
      have hszV : (V.alloc (.cells #[.int .i64 (cc : Int)] 3)).heap.size = V.heap.size + 1 := World.size_alloc ..
      have hsg := hg.size
      have hk9 : ∀ k, k < V.heap.size → k < Bk + 2 → k ≠ L0 + 2 → (w'.setCell ⟨L0 + 2, 0, none⟩ (.slice A9 (ls.length + 1) c9)).heap[k]? = V.heap[k]? := fun k hk hk2 hk3 => (Below.heap_setCell w' _ _ k (by show k ≠ L0 + 2; omega)).trans ((hg.block k (by omega) (fun e => by have := hge k e.symm; omega)).trans (Below.block hXv k hk))
      refine ⟨(((KeepsOthers.alloc V _).trans (KeepsOthers.of_grownBy hg (ownsRow_cellsP h6X))).trans (KeepsOthers.setCell _ _ _)).from _, ⟨fun k hk1 => hk9 k (by omega) (by omega) (by omega), hk9 _ (by omega) (by omega) (by omega), hk9 _ (by omega) (by omega) (by omega)⟩, ?_, ?_, ((h3.ext hXv).grown hg (fun e => by have := hge _ e.symm; omega)).far (by show L0 ≠ L0 + 2; omega) _, ((h4.ext hXv).grown hg (fun e => by have := hge _ e.symm; omega)).far (by show L0 + 1 ≠ L0 + 2; omega) _, _, by simpa using hB9.set_ 0 (.slice A9 (ls.length + 1) c9), by rw [Hm2.out]; exact hO.far hB9 (by decide) 0 _⟩
      · rw [World.size_setCell]; omega
      · exact Below.setCell (Below.grown (h2.trans hXv) hg (by have := h2.size; omega) (fun j hj => by have := hge j hj; have := HL0.out; omega)) (by show _ ≤ L0 + 2; have := HL0.out; omega) _
  case hdone =>
    intro Dd xs V hDd hxs ⟨h1, h2, h3, h4, v, h5, h6⟩ hdef
    rw [hxs, hxe.out] at h6
    have u0 := h5.c1
    have hm := (Marks.nil V W5.heap.size Dd).push hDd (Nat.le_refl _) hdef
    obtain ⟨A0, c0, rfl, -, -, -, -, -⟩ := h6.open_
    have H6 := Lib.hid h6
    clear h6 hdef
    go_wp2_with fail
    exact leaves_marks' [markOf Dd] V hm (fun W' => results_tmp rfl _ _ _) (fun W' hq => ⟨_, rfl, (H6.out.loops hq.loops).mono (by have := HL0.out; omega), hq.ext h2 (by have := heY.size; omega)⟩)
end Go.Proofs.Pet

namespace Go.Proofs.Pet
open Go Go.RowKit Go.Maps Go.Shelf
open Go.Proofs.Pow (PM Sh Wv POk Up sightF clrB opnS hitL explB clashB proofB)

set_option maxRecDepth 20000 in
set_option maxHeartbeats 1000000 in
theorem clash_any (D : Nat) (m : PM) (hm : POk m) (A : Option Addr) (c n : Nat) (l : List Int) (hn : l.length = n) (hl : n = m.wvs.length) (q : Bool) (hq : clashB m (sightF l) = q) (w : World) (hD : DeskAt w D m) (hA : IntsAt w A l) :
    Calls Tryz.prog 200 #[.pointer (some ⟨D, 0, none⟩), .slice A n c] w fun e w' => e = .returned (.bool q) ∧ Ext w w' := by
  have hml := hm.few
  have Hl := Lib.hid hl; have Hn := Lib.hid hn; have Hq := Lib.hid hq
  have hn6 : n ≤ 6 := by omega
  have HA := Lib.hid hA; have HD := Lib.hid hD
  clear hl hn hq hA hD
  go_enter Tryz.func200, Tryz.ntmps200
  go_wp2
  go_loopw [9] (fun iv wr => ∃ k : Nat, k ≤ n ∧ iv = .int .i64 (k : Int) ∧ Hid (∀ j, j < k → (decide (sightF l j = 2) && (opnS m (sightF l) j).isEmpty) = false) ∧ Ext w wr) (fun iv _ => n - (intOf iv).toNat)
  case atStart => exact ⟨0, Nat.zero_le _, rfl, fun j hj => absurd hj (by omega), Ext.refl _⟩
  case round =>
    obtain ⟨k, hk, rfl, hno, hew⟩ := hrel
    by_cases hlt : k < n
    · obtain ⟨b, o, e0, c1⟩ := HA.out.ext hew k (by have := Hn.out; omega)
      have hx : Hid (sightF l k = l[k]?.getD 0) := rfl
      have hkl : k < m.wvs.length := by have := Hl.out; omega
      generalize l[k]?.getD 0 = x at *
      subst e0
      by_cases h2 : x = 2
      · subst h2
        obtain ⟨os, hos⟩ : ∃ os, opnS m (sightF l) k = os := ⟨_, rfl⟩
        have hop := Lib.hid (open_any D m hm (some ⟨b, o, none⟩) c n l Hn.out Hl.out k hkl os hos wr (HD.out.ext hew) (HA.out.ext hew))
        have Hos := Lib.hid hos; clear hos
        go_wp2_with fail
        refine hop.out.mono ?_
        rintro e w3 ⟨u, rfl, hO, he3⟩
        obtain ⟨A3, c3, rfl, -, -, -, -, -⟩ := hO.open_
        have hE3 := hew.trans he3
        clear hop hO he3 hew
        cases os with
        | nil =>
          obtain rfl : q = true := by
            rw [← Hq.out]
            unfold clashB
            rw [List.any_eq_true]
            exact ⟨k, List.mem_range.2 hkl, by rw [hx.out, Hos.out]; rfl⟩
          go_wp2_with fail
          go_ret
          exact ⟨rfl, hE3⟩
        | cons y ys =>
          have hne : (((y :: ys).length : Int) == 0) = false := by simp; omega
          have hf := Lib.hid (show ∀ j, j < k + 1 → (decide (sightF l j = 2) && (opnS m (sightF l) j).isEmpty) = false from fun j hj => by
            by_cases ej : j = k
            · subst ej; rw [Hos.out]; simp
            · exact hno.out j (by omega))
          generalize (y :: ys).length = ln at *
          go_wp2_with fail
          go_roundw
          case rel => exact ⟨k + 1, by omega, by go_num, hf.out, hE3⟩
          case measure => simp [intOf]; omega
      · have hd : (x == 2) = false := by simpa using h2
        have hf := Lib.hid (show ∀ j, j < k + 1 → (decide (sightF l j = 2) && (opnS m (sightF l) j).isEmpty) = false from fun j hj => by
          by_cases ej : j = k
          · subst ej; rw [hx.out]; simp [h2]
          · exact hno.out j (by omega))
        clear h2
        go_wp2_with fail
        go_roundw
        case rel => exact ⟨k + 1, by omega, by go_num, hf.out, hew⟩
        case measure => simp [intOf]; omega
    · obtain rfl : k = n := by omega
      obtain rfl : q = false := by
        rw [← Hq.out]
        unfold clashB
        exact any_false_of fun j hj => hno.out j (by have := Hl.out; omega)
      go_wp2
      go_ret
      exact ⟨rfl, hew⟩
/-- the open shafts of the first k weavers of a list -/
def opnsF (m : PM) (l : List Int) (g : List Nat) (k : Nat) : List Int := (g.take k).flatMap (opnS m (sightF l))
theorem opnsF_succ (m : PM) (l : List Int) (g : List Nat) {k : Nat} (hk : k < g.length) : opnsF m l g (k + 1) = opnsF m l g k ++ opnS m (sightF l) g[k] := by
  unfold opnsF
  rw [List.take_add_one, List.getElem?_eq_getElem hk, List.flatMap_append]
  simp
theorem opnS_len {m : PM} (hm : POk m) (s : Nat → Int) {k : Nat} (hk : k < m.wvs.length) : (opnS m s k).length ≤ 9 := by
  have hat := hm.at_ k hk
  have hms := hm.sz
  have : (m.line (m.wv k).shaft).length ≤ 9 := by
    obtain ⟨z, hz⟩ : ∃ z : Nat, (m.wv k).shaft = z := ⟨_, (Int.toNat_of_nonneg hat.1).symm⟩
    rw [hz] at hat ⊢
    have := line_len hm.up z (by omega)
    omega
  exact Nat.le_trans (List.length_filter_le _ _) this
theorem opnsF_len {m : PM} (hm : POk m) (l : List Int) {g : List Nat} (hg : ∀ k, k ∈ g → k < m.wvs.length) : ∀ k, k ≤ g.length → (opnsF m l g k).length ≤ 9 * k
  | 0, _ => by simp [opnsF]
  | k + 1, h => by
    rw [opnsF_succ m l g (by omega), List.length_append]
    have := opnsF_len hm l hg k (by omega)
    have := opnS_len hm (sightF l) (hg g[k] (List.getElem_mem _))
    omega
theorem twiceB_nodup {l : List Int} : twiceB l = !decide l.Nodup := by
  cases h : twiceB l with
  | false =>
    have := nodup_of_twice h
    simp [this]
  | true =>
    by_cases hn : l.Nodup
    · exfalso
      have hf : twiceB l = false := twiceB_false fun k hk => by
        rw [← Bool.not_eq_true, List.contains_iff_mem]
        intro hm
        rw [List.getElem?_eq_getElem hk] at hm
        simp only [Option.getD_some] at hm
        obtain ⟨j, hj, e⟩ := List.mem_iff_getElem.1 hm
        rw [List.length_take] at hj
        rw [List.getElem_take] at e
        have := (List.nodup_iff_pairwise_ne.1 hn)
        rw [List.pairwise_iff_getElem] at this
        exact this j k (by omega) hk (by omega) e
      rw [hf] at h; cases h
    · simp [hn]
set_option maxRecDepth 20000 in
set_option maxHeartbeats 1000000 in
theorem proof_any (D : Nat) (m : PM) (hm : POk m) (A : Option Addr) (c n : Nat) (l : List Int) (hn : l.length = n) (hl : n = m.wvs.length) (B : Option Addr) (d k2 : Nat) (g : List Int) (hk2 : g.length = k2) (hg : Pow.InG m g) (hg2 : k2 ≤ 100) (q : Bool) (hq : proofB m (sightF l) (natL g) = q) (w : World) (hD : DeskAt w D m) (hA : IntsAt w A l) (hB : IntsAt w B g) :
    Calls Tryz.prog 205 #[.pointer (some ⟨D, 0, none⟩), .slice A n c, .slice B k2 d] w fun e w' => e = .returned (.bool q) ∧ Ext w w' := by
  obtain ⟨ti, hi, hz0, hz1, hz2⟩ := info_parts info_int
  have hml := hm.few
  subst hk2
  have Hl := Lib.hid hl; have Hn := Lib.hid hn; have Hq := Lib.hid hq
  have hn6 : n ≤ 6 := by omega
  have HA := Lib.hid hA; have HB := Lib.hid hB; have HD := Lib.hid hD; have Hg := Lib.hid hg
  have hnl : (natL g).length = g.length := by simp [natL]
  have hbl : ∀ k, k ∈ natL g → k < m.wvs.length := fun k hk => by
    unfold natL at hk
    obtain ⟨y, hy, rfl⟩ := List.mem_map.1 hk
    have := hg y hy; omega
  have Hnl := Lib.hid hnl; have Hbl := Lib.hid hbl
  have hgl : ints (natL g) = g := ints_natL hg
  have Hgl := Lib.hid hgl
  clear hl hn hq hA hB hD hg hnl hbl hgl
  go_enter Tryz.func205, Tryz.ntmps205
  go_wp2
  go_loopw [7, 12] (fun v iv wr => ∃ k : Nat, k ≤ g.length ∧ iv = .int .i64 (k : Int) ∧ Hid (∀ j, j < k → sightF l ((natL g)[j]?.getD 0) = 2) ∧ Hid (OwnI wr w.heap.size 3 v (opnsF m l (natL g) k)) ∧ Ext w wr) (fun _ iv _ => g.length - (intOf iv).toNat)
  case atStart => exact ⟨0, Nat.zero_le _, rfl, fun j hj => absurd hj (by omega), Lib.hid (OwnI.nil _ _ _), Ext.refl _⟩
  case round =>
    obtain ⟨k, hk, rfl, hno, hO, hew⟩ := hrel
    by_cases hlt : k < g.length
    · obtain ⟨b, o, e0, q1⟩ := HB.out.ext hew k hlt
      subst e0
      have hil : k < (natL g).length := by rw [Hnl.out]; exact hlt
      obtain ⟨kk, hkk⟩ : ∃ kk, (natL g)[k] = kk := ⟨_, rfl⟩
      have hgi : g[k]?.getD 0 = (kk : Int) := by
        have : (ints (natL g))[k]?.getD 0 = (kk : Int) := by rw [ints_get _ hil, List.getElem?_eq_getElem hil, ← hkk]; rfl
        rwa [Hgl.out] at this
      rw [hgi] at q1
      have hkl : kk < m.wvs.length := Hbl.out kk (hkk ▸ List.getElem_mem hil)
      obtain ⟨b2, o2, e0, c1⟩ := HA.out.ext hew kk (by have := Hl.out; have := Hn.out; omega)
      have hkn : (kk : Int) < (n : Int) := by have := Hl.out; omega
      have hx : Hid (sightF l kk = l[kk]?.getD 0) := rfl
      have Hs := Lib.hid (opnsF_succ m l (natL g) hil)
      rw [hkk] at Hs
      have hln := opnsF_len hm l Hbl.out k (by omega)
      have hkg : Hid ((natL g)[k]?.getD 0 = kk) := by unfold Hid; rw [List.getElem?_eq_getElem hil, ← hkk]; rfl
      generalize l[kk]?.getD 0 = x at *
      subst e0
      clear hkk hgi
      by_cases h2 : x = 2
      · subst h2
        obtain ⟨os, hos⟩ : ∃ os, opnS m (sightF l) kk = os := ⟨_, rfl⟩
        have hop := Lib.hid (open_any D m hm (some ⟨b2, o2, none⟩) c n l Hn.out Hl.out kk hkl os hos wr (HD.out.ext hew) (HA.out.ext hew))
        have hol := opnS_len hm (sightF l) hkl
        rw [hos] at Hs hol
        have hf := Lib.hid (show ∀ j, j < k + 1 → sightF l ((natL g)[j]?.getD 0) = 2 from fun j hj => by
          by_cases ej : j = k
          · subst ej; rw [hkg.out, hx.out]
          · exact hno.out j (by omega))
        obtain ⟨A5, c5, rfl, -, -, -, -, -⟩ := hO.out.open_
        clear hos
        go_wp2_with fail
        refine hop.out.mono ?_
        rintro e w3 ⟨u, rfl, hOu, he3⟩
        have hE3 := hew.trans he3
        have hO3 := hO.out.ext he3
        have hsz := hE3.size
        obtain ⟨A3, c3, rfl, r1, r2, r3, -, -⟩ := hOu.open_
        have hsrc := r3.src
        have Hw : Hid (∀ v' w', w'.ownsRow w.heap.size 3 1 v' ((opnsF m l (natL g) k).length + os.length) ((opnsF m l (natL g) k).map (Value.int .i64) ++ os.map (Value.int .i64)) → w3.grownBy w' (Value.slice A5 (opnsF m l (natL g) k).length c5).ownBlock → OwnI w' w.heap.size 3 v' (opnsF m l (natL g) (k + 1)) ∧ Ext w w') := by
          intro v' w' hown hgr
          refine ⟨by unfold OwnI; rw [Hs.out, List.length_append, List.map_append]; exact hown, Below.grown hE3 hgr hE3.size fun j hj => (hO3.own_lt j hj).1⟩
        clear hop hOu r3 hO he3 hew
        go_wp2_with (at_builtin; refine wpList_app rfl _ _ 22 rfl w.heap.size 3 ti (.int .i64 0) 1 8 Tryz.underlying22 hi hz0 hz1 hz2 rfl (by decide) (.slice A5 (opnsF m l (natL g) k).length c5) (opnsF m l (natL g) k).length _ rfl hO3 A3 os.length c3 (os.map (Value.int .i64)) rfl ?c1 hsrc ?c2 ?c3 ?c4 ?c5 ?_; (case c1 => simp); (case c2 => exact one_ints); (case c3 => (unfold maxLen; omega)); (case c4 => omega); (case c5 => omega); intro v' w5 hown hg hblk; have HO := Lib.hid (Hw.out v' w5 hown hg); clear hown hg hblk)
        go_roundw
        case rel => exact ⟨k + 1, by omega, by go_num, hf.out, HO.out.1, HO.out.2⟩
        case measure => simp [intOf]; omega
      · have hd : (x != 2) = true := by simpa using h2
        obtain rfl : q = false := by
          rw [← Hq.out]
          unfold proofB
          rw [Bool.and_eq_false_iff]
          left
          rw [List.all_eq_false]
          exact ⟨kk, by rw [← hkg.out, List.getElem?_eq_getElem hil]; exact List.getElem_mem _, by rw [hx.out]; simp [h2]⟩
        clear h2
        go_wp2_with fail
        go_ret
        exact ⟨rfl, hew⟩
    · obtain rfl : k = g.length := by omega
      have hO9 := hO.out
      have hln := opnsF_len hm l Hbl.out g.length (by rw [Hnl.out]; omega)
      have hqq : Hid (q = !twiceB (opnsF m l (natL g) g.length)) := by
        unfold Hid
        rw [← Hq.out, twiceB_nodup, Bool.not_not]
        unfold proofB
        have h1 : ((natL g).all fun k => decide (sightF l k = 2)) = true := by
          rw [List.all_eq_true]
          intro k hk
          obtain ⟨j, hj, rfl⟩ := List.mem_iff_getElem.1 hk
          have := hno.out j (by rw [← Hnl.out]; exact hj)
          rw [List.getElem?_eq_getElem hj] at this
          simpa using this
        rw [h1, Bool.true_and]
        unfold opnsF
        rw [List.take_of_length_le (by rw [Hnl.out]; omega)]
      generalize opnsF m l (natL g) g.length = os at *
      obtain ⟨A5, c5, rfl, r1, r2, r3, -, -⟩ := hO9.open_
      obtain ⟨t, ht⟩ : ∃ t, twiceB os = t := ⟨_, rfl⟩
      have htw := Lib.hid (twice_anyP A5 c5 os t ht wr (by unfold maxLen; omega) r1 r3)
      rw [ht] at hqq
      clear hO9 hO r3 ht
      go_wp2_with fail
      refine htw.out.mono ?_
      rintro e w3 ⟨rfl, rfl⟩
      go_wp2_with fail
      go_ret
      exact ⟨by rw [hqq.out]; rfl, hew⟩
end Go.Proofs.Pet

namespace Go.Proofs.Pet
open Go Go.RowKit Go.Maps Go.Shelf
open Go.Proofs.Pow (PM Sh Wv POk Up sightF clrB opnS hitL explB clashB proofB)

theorem sightE_ok {m : PM} {l : List Int} (h : sightE m l = 0) : checkP m = 0 ∧ l.length = m.wvs.length ∧ ∀ x, x ∈ l → 0 ≤ x ∧ x ≤ 2 := by
  unfold sightE at h
  split at h
  · rename_i h1; exact absurd h h1
  rename_i h1
  simp only [ne_eq, Decidable.not_not] at h1
  split at h
  · exact absurd h (by decide)
  rename_i h2
  split at h
  · exact absurd h (by decide)
  rename_i h3
  simp only [Bool.not_eq_false, List.all_eq_true] at h3
  exact ⟨h1, by omega, fun x hx => inB_iff.1 (h3 x hx)⟩
def clrL (m : PM) (l : List Int) (k : Nat) : List Int := ints ((List.range k).filter fun i => clrB m (sightF l) i)
def explE (m : PM) (l g : List Int) : Int := if sightE m l ≠ 0 then sightE m l else if (g.all fun k => inB k 0 (m.shafts.length - 1)) = false then 1 else if twiceB g = true then 5 else 0
def explQ (m : PM) (l g : List Int) : Bool := if explE m l g = 0 then explB m (sightF l) (natL g) else false
set_option maxRecDepth 20000 in
theorem slipped1_any (D Db Sb : Nat) (m : PM) (hm : POk m) (A : Option Addr) (c n : Nat) (l : List Int) (hn : l.length = n) (hl : n = m.wvs.length) (w : World) (hDb : Blk w Db 175 #[.pointer (some ⟨D, 0, none⟩)]) (hSb : Blk w Sb 82 #[.slice A n c]) (hD : DeskAt w D m) (hA : IntsAt w A l) (g : List Nat) (hg : Up m.shafts.length 0 g) :
    Tells Tryz.prog w 120 #[] #[.pointer (some ⟨Db, 0, none⟩), .pointer (some ⟨Sb, 0, none⟩)] (fun W v l => SlI W v (ints l)) g (explB m (sightF l) g) := by
  intro W v hW hv
  obtain ⟨B, d, rfl, s1, s2, hB⟩ := hv
  have hlen := ints_length g
  rw [hlen] at s1 ⊢
  have hex := Lib.hid (explain_any D m hm A c n l hn hl B d g.length (ints g) hlen (fun y hy => by
    unfold ints at hy
    obtain ⟨k, hk, rfl⟩ := List.mem_map.1 hy
    have := hg.2 k hk; omega) (Nat.le_trans s1 s2) (explB m (sightF l) g) (by rw [natL_ints]) W (hD.ext hW) (hA.ext hW) hB)
  generalize explB m (sightF l) g = q at *
  have e0 := (hDb.ext hW).c1
  have e1 := (hSb.ext hW).c1
  clear hDb hSb hD hA hB hlen hn hl
  show Calls Tryz.prog 120 #[_, .pointer (some ⟨Db, 0, none⟩), .pointer (some ⟨Sb, 0, none⟩)] W _
  go_enter Tryz.func120, Tryz.ntmps120
  go_wp2_with fail
  refine hex.out.mono ?_
  rintro e w4 ⟨rfl, he4⟩
  go_wp2_with fail
  go_ret
  exact ⟨rfl, he4⟩
def slipE (m : PM) (l : List Int) : Int := if sightE m l ≠ 0 then sightE m l else if (Pow.firstF m.shafts.length (explB m (sightF l))).isNone then 7 else 0
def slipL (m : PM) (l : List Int) : List Int := if sightE m l ≠ 0 then [] else ints ((Pow.firstF m.shafts.length (explB m (sightF l))).getD [])
set_option maxRecDepth 20000 in
theorem Slipped_any (v : Value) (m : PM) (A : Option Addr) (c n : Nat) (l : List Int) (hn : l.length = n) (r : Int) (x : List Int) (hr : slipE m l = r) (hx : slipL m l = x) (w : World) (hv : PMVal w v m) (hl : n ≤ maxLen) (hA : IntsAt w A l) :
    Calls Tryz.prog 40 #[v, .slice A n c] w fun e w' => ∃ u, e = .returned (.tuple #[u, .int .i64 r]) ∧ OwnI w' w.heap.size 3 u x ∧ Ext w w' := by
  have hmf : ∀ (fn : Fn) (first cap : Array Value) (w : World), (Instr.makeFunc fn first cap).run Tryz.prog w = .ok (.func fn first cap) w := fun _ _ _ _ => rfl
  have Hv := Lib.hid hv
  obtain ⟨A1, c1, A2, c2, rfl, h2, h3, h4, h5, h6, h7⟩ := hv
  have hE : Ext w ((w.alloc (.cells #[.slice A1 m.shafts.length c1, .slice A2 m.wvs.length c2] 56)).alloc (.cells #[.slice A n c] 82)) := (Ext.alloc _ _).trans (Ext.alloc _ _)
  have hM := (Blk.new w 56 #[.slice A1 m.shafts.length c1, .slice A2 m.wvs.length c2]).alloc (.cells #[.slice A n c] 82)
  have hSb := Blk.new (w.alloc (.cells #[.slice A1 m.shafts.length c1, .slice A2 m.wvs.length c2] 56)) 82 #[.slice A n c]
  rw [World.size_alloc] at hSb
  obtain ⟨k0, k1⟩ := hM.c2
  have e0 := hSb.c1
  have HM := Lib.hid hM; have HSb := Lib.hid hSb
  obtain ⟨r0, hr0⟩ : ∃ r0, sightE m l = r0 := ⟨_, rfl⟩
  have ho := Lib.hid (sighted_any _ m A c n l hn r0 hr0 _ (Hv.out.ext hE) hl (hA.ext hE))
  have Hr := Lib.hid hr; have Hx := Lib.hid hx; have Hr0 := Lib.hid hr0
  clear h6 h7 hM hr hx hr0 hSb
  go_enter Tryz.func40, Tryz.ntmps40
  go_wp2_with fail
  refine ho.out.mono ?_
  rintro e w1 ⟨pv, rfl, he1, hop⟩
  have hE1 := hE.trans he1
  have hM1 := HM.out.ext he1
  have hS1 := HSb.out.ext he1
  clear k0 k1 ho e0
  have hX := Ext.alloc w1 (.cells #[.pointer pv] 175)
  by_cases h0 : r0 = 0
  · subst h0
    obtain ⟨D, rfl, hD, -⟩ := hop rfl
    obtain ⟨hck, hle, -⟩ := sightE_ok Hr0.out
    have hm := (checkP_iff m).1 hck
    have hms := hm.sz
    have hDb := Blk.new w1 175 #[.pointer (some ⟨D, 0, none⟩)]
    have hEX := hE1.trans hX
    obtain ⟨k0, k1⟩ := (hM1.ext hX).c2
    have hfi := Lib.hid (first_anyP m.shafts.length 120 #[] #[.pointer (some ⟨w1.heap.size, 0, none⟩), .pointer (some ⟨w.heap.size + 1, 0, none⟩)] (explB m (sightF l)) (by omega) _ (enters_of Tryz.func120 (by kernel_rfl) rfl)
      (fun g hg => slipped1_any D w1.heap.size (w.heap.size + 1) m hm A c n l hn (hn.symm.trans hle) _ hDb (hS1.ext hX) (hD.ext hX) (hA.ext hEX) g hg))
    have hr2 := Hr.out
    have hx2 := Hx.out
    unfold slipE at hr2
    unfold slipL at hx2
    rw [if_neg (by simp [Hr0.out])] at hr2 hx2
    have Hr2 := Lib.hid hr2; have Hx2 := Lib.hid hx2
    clear hr2 hx2 hDb hX hD hA hM1 hS1 hm hck hle hop hn
    go_wp2_with fail
    refine hfi.out.mono ?_
    rintro e w2 ⟨A3, k3, c3, rfl, he2, hf⟩
    have hE2 := hEX.trans he2
    have hsz := hEX.size
    cases hq : Pow.firstF m.shafts.length (explB m (sightF l)) with
    | none =>
      obtain rfl : r = 7 := by rw [← Hr2.out, hq]; rfl
      obtain rfl : x = [] := by rw [← Hx2.out, hq]; rfl
      rw [Option.isSome_none]
      clear hf hq Hr Hx Hr2 Hx2 hfi
      go_wp2_with fail
      go_ret2
      exact ⟨_, rfl, OwnI.nil _ _ _, hE2⟩
    | some g =>
      obtain rfl : r = 0 := by rw [← Hr2.out, hq]; rfl
      obtain rfl : x = ints g := by rw [← Hx2.out, hq]; rfl
      have hO := (hf g hq).mono hsz
      rw [Option.isSome_some]
      clear hf hq Hr Hx Hr2 Hx2 hfi
      go_wp2_with fail
      go_ret2
      exact ⟨_, rfl, hO, hE2⟩
  · obtain rfl : r = r0 := by rw [← Hr.out]; unfold slipE; rw [if_pos (by rw [Hr0.out]; exact h0), Hr0.out]
    obtain rfl : x = [] := by rw [← Hx.out]; unfold slipL; rw [if_pos (by rw [Hr0.out]; exact h0)]
    have hd : (r != 0) = true := by simpa using h0
    clear hA h0 hop
    go_wp2_with fail
    go_ret2
    exact ⟨_, rfl, OwnI.nil _ _ _, hE1.trans hX⟩
end Go.Proofs.Pet

namespace Go.Proofs.Pet
open Go Go.RowKit Go.Maps Go.Shelf
open Go.Proofs.Pow (PM Sh Wv POk Up sightF clrB opnS hitL explB clashB proofB)

def sureK (m : PM) (l : List Int) (n : Nat) : List Int := ((List.range n).filter fun k => decide (sightF l k = 2) && decide ((opnS m (sightF l) k).length = 1)).map fun k => (opnS m (sightF l) k)[0]?.getD 0
theorem sureK_succ (m : PM) (l : List Int) (k : Nat) : sureK m l (k + 1) = sureK m l k ++ if decide (sightF l k = 2) && decide ((opnS m (sightF l) k).length = 1) then [(opnS m (sightF l) k)[0]?.getD 0] else [] := by
  unfold sureK
  rw [List.range_succ, List.filter_append, List.map_append]
  congr 1
  cases h : decide (sightF l k = 2) && decide ((opnS m (sightF l) k).length = 1) <;> simp [h]
theorem sureK_len (m : PM) (l : List Int) (k : Nat) : (sureK m l k).length ≤ k := by
  unfold sureK
  rw [List.length_map]
  exact Nat.le_trans (List.length_filter_le _ _) (by simp)
def sureE (m : PM) (l : List Int) : Int := if sightE m l ≠ 0 then sightE m l else if clashB m (sightF l) = true then 7 else 0
def sureV (m : PM) (l : List Int) : List Int := if sureE m l = 0 then Lib.compact (Pow.sortL (Pow.sureL m (sightF l))) else []
set_option maxRecDepth 20000 in
set_option maxHeartbeats 1000000 in
theorem Surely_any (v : Value) (m : PM) (A : Option Addr) (c n : Nat) (l : List Int) (hn : l.length = n) (r : Int) (x : List Int) (hr : sureE m l = r) (hx : sureV m l = x) (w : World) (hv : PMVal w v m) (hl : n ≤ maxLen) (hA : IntsAt w A l) :
    Calls Tryz.prog 100 #[v, .slice A n c] w fun e w' => ∃ u, e = .returned (.tuple #[u, .int .i64 r]) ∧ OwnI w' w.heap.size 3 u x ∧ Ext w w' := by
  obtain ⟨ti, hi, hz0, hz1, hz2⟩ := info_parts info_int
  have Hv := Lib.hid hv
  obtain ⟨A1, c1, A2, c2, rfl, h2, h3, h4, h5, h6, h7⟩ := hv
  have hE := Ext.alloc w (.cells #[.slice A1 m.shafts.length c1, .slice A2 m.wvs.length c2] 56)
  have hM := Blk.new w 56 #[.slice A1 m.shafts.length c1, .slice A2 m.wvs.length c2]
  obtain ⟨k0, k1⟩ := hM.c2
  obtain ⟨r0, hr0⟩ : ∃ r0, sightE m l = r0 := ⟨_, rfl⟩
  have ho := Lib.hid (sighted_any _ m A c n l hn r0 hr0 _ (Hv.out.ext hE) hl (hA.ext hE))
  have Hr := Lib.hid hr; have Hx := Lib.hid hx; have Hr0 := Lib.hid hr0
  clear h6 h7 hM hr hx hr0
  go_enter Tryz.func100, Tryz.ntmps100
  go_wp2_with fail
  refine ho.out.mono ?_
  rintro e w1 ⟨pv, rfl, he1, hop⟩
  have hE1 := hE.trans he1
  clear k0 k1 ho
  by_cases h0 : r0 = 0
  · subst h0
    obtain ⟨D, rfl, hD, -⟩ := hop rfl
    obtain ⟨hck, hle, -⟩ := sightE_ok Hr0.out
    have Hm := Lib.hid ((checkP_iff m).1 hck)
    have hml := Hm.out.few
    have Hn := Lib.hid hn; have Hle := Lib.hid (hn.symm.trans hle)
    have hn6 : n ≤ 6 := by omega
    have HD := Lib.hid hD; have HA := Lib.hid (hA.ext hE1)
    obtain ⟨q, hq⟩ : ∃ q, clashB m (sightF l) = q := ⟨_, rfl⟩
    have hcl := Lib.hid (clash_any D m Hm.out A c n l Hn.out Hle.out q hq w1 HD.out HA.out)
    have Hq := Lib.hid hq
    clear hD hck hle hn hop hA hq
    go_wp2_with fail
    refine hcl.out.mono ?_
    rintro e w2 ⟨rfl, he2⟩
    have hE2 := hE1.trans he2
    clear hcl
    cases q with
    | true =>
      obtain rfl : r = 7 := by rw [← Hr.out]; unfold sureE; rw [if_neg (by simp [Hr0.out]), if_pos Hq.out]
      obtain rfl : x = [] := by rw [← Hx.out]; unfold sureV; rw [Hr.out]; rfl
      go_wp2_with fail
      go_ret2
      exact ⟨_, rfl, OwnI.nil _ _ _, hE2⟩
    | false =>
      obtain rfl : r = 0 := by rw [← Hr.out]; unfold sureE; rw [if_neg (by simp [Hr0.out]), if_neg (by simp [Hq.out])]
      have Hx2 : Hid (Lib.compact (Pow.sortL (sureK m l n)) = x) := by
        unfold Hid
        rw [← Hx.out]
        unfold sureV
        rw [if_pos Hr.out, Hle.out]
        rfl
      go_wp2_with fail
      go_loopw [8, 28] (fun v iv wr => ∃ k : Nat, k ≤ n ∧ iv = .int .i64 (k : Int) ∧ Hid (OwnI wr w2.heap.size 3 v (sureK m l k)) ∧ Ext w2 wr) (fun _ iv _ => n - (intOf iv).toNat)
      case atStart => exact ⟨0, Nat.zero_le _, rfl, Lib.hid (OwnI.nil _ _ _), Ext.refl _⟩
      case round =>
        obtain ⟨k, hk, rfl, hO, hew⟩ := hrel
        by_cases hlt : k < n
        · have heA := he2.trans hew
          obtain ⟨b, o, e0, q1⟩ := HA.out.ext heA k (by have := Hn.out; omega)
          have hxs : Hid (sightF l k = l[k]?.getD 0) := rfl
          have hkl : k < m.wvs.length := by have := Hle.out; omega
          obtain ⟨os, hos⟩ : ∃ os, opnS m (sightF l) k = os := ⟨_, rfl⟩
          have hop := Lib.hid (open_any D m Hm.out A c n l Hn.out Hle.out k hkl os hos wr (HD.out.ext heA) (HA.out.ext heA))
          have hs := sureK_succ m l k
          rw [hos, hxs.out] at hs
          have hln := sureK_len m l k
          generalize l[k]?.getD 0 = y at *
          have Hs := Lib.hid hs
          subst e0
          obtain ⟨A5, c5, rfl, -, -, -, -, -⟩ := hO.out.open_
          clear hos hs
          go_wp2_with fail
          refine hop.out.mono ?_
          rintro e w3 ⟨u, rfl, hOu, he3⟩
          have hE3 := hew.trans he3
          have hO3 := hO.out.ext he3
          obtain ⟨A3, c3, rfl, r1, r2, r3, -, -⟩ := hOu.open_
          clear hop hOu hO he3 hew
          by_cases h2 : y = 2
          · subst h2
            by_cases hl1 : os.length = 1
            · obtain ⟨z, rfl⟩ := List.length_eq_one_iff.1 hl1
              have hs2 : Hid (sureK m l (k + 1) = sureK m l k ++ [z]) := by unfold Hid; rw [Hs.out]; simp
              obtain ⟨b3, o3, e3, c9⟩ := r3 0 (by simp)
              subst e3
              have hX := Ext.alloc w3 (.cells #[.int .i64 z] 3)
              have hsrc := Src.one w3 (.int .i64 z) 3
              have hOX := hO3.ext hX
              have hsz := hE3.size
              have hszX := hX.size
              have Hw : Hid (∀ v' w', w'.ownsRow w2.heap.size 3 1 v' ((sureK m l k).length + 1) ((sureK m l k).map (Value.int .i64) ++ [.int .i64 z]) → (w3.alloc (.cells #[.int .i64 z] 3)).grownBy w' (Value.slice A5 (sureK m l k).length c5).ownBlock → OwnI w' w2.heap.size 3 v' (sureK m l (k + 1)) ∧ Ext w2 w') := by
                intro v' w' hown hg
                refine ⟨by unfold OwnI; rw [hs2.out, List.length_append, List.map_append]; exact hown, ext_grown hE3 hg fun j hj => (hO3.own_lt j hj).1⟩
              clear r3 hO3 hl1
              simp only [List.length_singleton, List.getElem?_cons_zero, Option.getD_some, Nat.add_zero] at *
              go_wp2_with (at_builtin; refine wpList_app rfl _ _ 22 rfl w2.heap.size 3 ti (.int .i64 0) 1 8 Tryz.underlying22 hi hz0 hz1 hz2 rfl (by decide) (.slice A5 (sureK m l k).length c5) (sureK m l k).length _ rfl hOX (some ⟨w3.heap.size, 0, none⟩) 1 1 [.int .i64 z] rfl rfl hsrc ?c2 ?c3 ?c4 ?c5 ?_; (case c2 => (intro u hu; rw [List.mem_singleton] at hu; subst hu; rfl)); (case c3 => (unfold maxLen; omega)); (case c4 => omega); (case c5 => omega); intro v' w5 hown hg hblk; have HO := Lib.hid (Hw.out v' w5 hown hg); clear hown hg hblk)
              go_roundw
              case rel => exact ⟨k + 1, by omega, by go_num, HO.out.1, HO.out.2⟩
              case measure => simp [intOf]; omega
            · have hd1 : ((os.length : Int) == 1) = false := by simp; omega
              have hs2 : Hid (sureK m l (k + 1) = sureK m l k) := by unfold Hid; rw [Hs.out]; simp [hl1]
              have HO3 := Lib.hid hO3
              generalize os.length = ol at *
              clear r3 hO3 hl1
              go_wp2_with fail
              go_roundw
              case rel => exact ⟨k + 1, by omega, by go_num, by rw [hs2.out]; exact HO3, hE3⟩
              case measure => simp [intOf]; omega
          · have hd1 : (y == 2) = false := by simpa using h2
            have hs2 : Hid (sureK m l (k + 1) = sureK m l k) := by unfold Hid; rw [Hs.out]; simp [h2]
            have HO3 := Lib.hid hO3
            clear r3 hO3 h2
            go_wp2_with fail
            go_roundw
            case rel => exact ⟨k + 1, by omega, by go_num, by rw [hs2.out]; exact HO3, hE3⟩
            case measure => simp [intOf]; omega
        · obtain rfl : k = n := by omega
          have hln := sureK_len m l k
          generalize sureK m l k = sk at *
          have hsort := Lib.hid (sortI _ _ sk wr hO.out (by omega))
          obtain ⟨A5, c5, e5, -, -, -, -, -⟩ := hO.out.open_
          subst e5
          go_wp2_with fail
          refine hsort.out.mono ?_
          rintro e w3 ⟨rfl, hO3, hg3⟩
          have hE3 : Ext w2 w3 := Below.grown hew hg3 hew.size (fun j hj => (hO.out.own_lt j hj).1)
          have hcomp := Lib.hid (compactI _ _ _ w3 hO3 (by rw [List.length_mergeSort]; omega))
          clear hsort
          go_wp2_with fail
          refine hcomp.out.mono ?_
          rintro e w4 ⟨u, rfl, hO4, -, hg4⟩
          have hE4 : Ext w2 w4 := Below.grown hE3 hg4 hE3.size (fun j hj => (hO3.own_lt j hj).1)
          have hO5 : OwnI w4 w2.heap.size 3 u x := by rw [← Hx2.out]; exact hO4
          obtain ⟨A6, c6, rfl, -, -, -, -, -⟩ := hO5.open_
          have HO5 := Lib.hid hO5
          clear hO5 hO4 hcomp
          go_wp2_with fail
          go_ret2
          exact ⟨_, rfl, HO5.out.mono hE2.size, hE2.trans hE4⟩
  · obtain rfl : r = r0 := by rw [← Hr.out]; unfold sureE; rw [if_pos (by rw [Hr0.out]; exact h0), Hr0.out]
    obtain rfl : x = [] := by rw [← Hx.out]; unfold sureV; rw [Hr.out, if_neg h0]
    have hd : (r != 0) = true := by simpa using h0
    clear hA h0 hop
    go_wp2_with fail
    go_ret2
    exact ⟨_, rfl, OwnI.nil _ _ _, hE1⟩
set_option maxRecDepth 20000 in
theorem prove1_any (D Mb Db Sb ct : Nat) (hct : ct ≤ 10) (m : PM) (hm : POk m) (A : Option Addr) (c n : Nat) (l : List Int) (hn : l.length = n) (hl : n = m.wvs.length) (w : World) (hMb : Blk w Mb 3 #[.int .i64 (ct : Int)]) (hDb : Blk w Db 175 #[.pointer (some ⟨D, 0, none⟩)]) (hSb : Blk w Sb 82 #[.slice A n c]) (hD : DeskAt w D m) (hA : IntsAt w A l) (g : List Nat) (hg : Up m.wvs.length 0 g) :
    Tells Tryz.prog w 204 #[] #[.pointer (some ⟨Mb, 0, none⟩), .pointer (some ⟨Db, 0, none⟩), .pointer (some ⟨Sb, 0, none⟩)] (fun W v l => SlI W v (ints l)) g (decide (g.length = ct) && proofB m (sightF l) g) := by
  intro W v hW hv
  obtain ⟨B, d, rfl, s1, s2, hB⟩ := hv
  have hlen := ints_length g
  have hml := hm.few
  have hgl := Pow.up_len hg
  rw [hlen] at s1 ⊢
  have hex := Lib.hid (proof_any D m hm A c n l hn hl B d g.length (ints g) hlen (ints_inG hg) (by omega) (proofB m (sightF l) g) (by rw [natL_ints]) W (hD.ext hW) (hA.ext hW) hB)
  generalize proofB m (sightF l) g = q at *
  have e0 := (hMb.ext hW).c1
  have e1 := (hDb.ext hW).c1
  have e2 := (hSb.ext hW).c1
  clear hMb hDb hSb hD hA hB hlen hn hl
  generalize g.length = gl at *
  show Calls Tryz.prog 204 #[_, .pointer (some ⟨Mb, 0, none⟩), .pointer (some ⟨Db, 0, none⟩), .pointer (some ⟨Sb, 0, none⟩)] W _
  by_cases h : gl = ct
  · subst h
    go_enter Tryz.func204, Tryz.ntmps204
    go_wp2_with fail
    refine hex.out.mono ?_
    rintro e w4 ⟨rfl, he4⟩
    go_wp2_with fail
    go_ret
    exact ⟨by simp, he4⟩
  · have hd : ((gl : Int) == (ct : Int)) = false := by simp; omega
    go_enter Tryz.func204, Tryz.ntmps204
    go_wp2_with fail
    go_ret
    exact ⟨by simp [h], Ext.refl _⟩
end Go.Proofs.Pet

namespace Go.Proofs.Pet
open Go Go.RowKit Go.Maps Go.Shelf
open Go.Proofs.Pow (PM Sh Wv POk Up sightF clrB opnS hitL explB clashB proofB)

/-- the best one of those of fewer than c weavers -/
def bestC (n : Nat) (p : List Nat → Bool) (c : Nat) : List Nat := (List.range c).foldl (fun b c => (Pow.firstF n fun l => decide (l.length = c) && p l).getD b) []
theorem bestC_succ (n : Nat) (p : List Nat → Bool) (c : Nat) : bestC n p (c + 1) = (Pow.firstF n fun l => decide (l.length = c) && p l).getD (bestC n p c) := by
  unfold bestC; rw [List.range_succ, List.foldl_append]; rfl
def provL (m : PM) (l : List Int) : List Int := if sureE m l = 0 then ints (Pow.proveF m.wvs.length (proofB m (sightF l))) else []
set_option maxRecDepth 20000 in
set_option maxHeartbeats 1000000 in
theorem Prove_any (v : Value) (m : PM) (A : Option Addr) (c n : Nat) (l : List Int) (hn : l.length = n) (r : Int) (x : List Int) (hr : sureE m l = r) (hx : provL m l = x) (w : World) (hv : PMVal w v m) (hl : n ≤ maxLen) (hA : IntsAt w A l) :
    Calls Tryz.prog 101 #[v, .slice A n c] w fun e w' => ∃ u, e = .returned (.tuple #[u, .int .i64 r]) ∧ OwnI w' w.heap.size 3 u x ∧ Ext w w' := by
  have hmf : ∀ (fn : Fn) (first cap : Array Value) (w : World), (Instr.makeFunc fn first cap).run Tryz.prog w = .ok (.func fn first cap) w := fun _ _ _ _ => rfl
  have Hv := Lib.hid hv
  obtain ⟨A1, c1, A2, c2, rfl, h2, h3, h4, h5, h6, h7⟩ := hv
  have hE : Ext w ((w.alloc (.cells #[.slice A1 m.shafts.length c1, .slice A2 m.wvs.length c2] 56)).alloc (.cells #[.slice A n c] 82)) := (Ext.alloc _ _).trans (Ext.alloc _ _)
  have hM := (Blk.new w 56 #[.slice A1 m.shafts.length c1, .slice A2 m.wvs.length c2]).alloc (.cells #[.slice A n c] 82)
  have hSb := Blk.new (w.alloc (.cells #[.slice A1 m.shafts.length c1, .slice A2 m.wvs.length c2] 56)) 82 #[.slice A n c]
  rw [World.size_alloc] at hSb
  obtain ⟨k0, k1⟩ := hM.c2
  have e0 := hSb.c1
  have HM := Lib.hid hM; have HSb := Lib.hid hSb
  obtain ⟨r0, hr0⟩ : ∃ r0, sightE m l = r0 := ⟨_, rfl⟩
  have ho := Lib.hid (sighted_any _ m A c n l hn r0 hr0 _ (Hv.out.ext hE) hl (hA.ext hE))
  have Hr := Lib.hid hr; have Hx := Lib.hid hx; have Hr0 := Lib.hid hr0
  clear h6 h7 hM hr hx hr0 hSb
  go_enter Tryz.func101, Tryz.ntmps101
  go_wp2_with fail
  refine ho.out.mono ?_
  rintro e w1 ⟨pv, rfl, he1, hop⟩
  have hE1 := hE.trans he1
  have hM1 := HM.out.ext he1
  have hS1 := HSb.out.ext he1
  clear k0 k1 ho e0
  have hX := Ext.alloc w1 (.cells #[.pointer pv] 175)
  by_cases h0 : r0 = 0
  · subst h0
    obtain ⟨D, rfl, hD, -⟩ := hop rfl
    obtain ⟨hck, hle, -⟩ := sightE_ok Hr0.out
    have Hm := Lib.hid ((checkP_iff m).1 hck)
    have hml := Hm.out.few
    have hDb := Blk.new w1 175 #[.pointer (some ⟨D, 0, none⟩)]
    have hEX := hE1.trans hX
    have Hn := Lib.hid hn; have Hle := Lib.hid (hn.symm.trans hle)
    have HD := Lib.hid (hD.ext hX); have HA := Lib.hid (hA.ext hEX)
    have HM2 := Lib.hid (hM1.ext hX); have HS2 := Lib.hid (hS1.ext hX); have HDb := Lib.hid hDb
    obtain ⟨q, hq⟩ : ∃ q, clashB m (sightF l) = q := ⟨_, rfl⟩
    have Hq := Lib.hid hq
    have e0 := hDb.c1
    have e1 := HS2.out.c1
    obtain ⟨Db, hDbe⟩ : ∃ Db, w1.heap.size = Db := ⟨_, rfl⟩
    rw [hDbe] at HDb e0
    have HDbe := Lib.hid hDbe
    clear hD hck hle hn hop hA hX hM1 hS1 hDb
    go_upto_region 2 with fail
    try rw [hDbe]
    clear hDbe
    generalize w1.alloc _ = W2 at *
    have hcl := Lib.hid (clash_any D m Hm.out A c n l Hn.out Hle.out q hq W2 HD.out HA.out)
    clear hq
    go_wp2_with fail
    refine hcl.out.mono ?_
    rintro e w2 ⟨rfl, he2⟩
    have hE2 := hEX.trans he2
    clear hcl e0 e1
    cases q with
    | true =>
      obtain rfl : r = 7 := by rw [← Hr.out]; unfold sureE; rw [if_neg (by simp [Hr0.out]), if_pos Hq.out]
      obtain rfl : x = [] := by rw [← Hx.out]; unfold provL; rw [Hr.out]; rfl
      go_wp2_with fail
      go_ret2
      exact ⟨_, rfl, OwnI.nil _ _ _, hE2⟩
    | false =>
      obtain rfl : r = 0 := by rw [← Hr.out]; unfold sureE; rw [if_neg (by simp [Hr0.out]), if_neg (by simp [Hq.out])]
      have Hx2 : Hid (ints (bestC m.wvs.length (proofB m (sightF l)) (m.wvs.length + 1)) = x) := by
        unfold Hid
        rw [← Hx.out]
        unfold provL
        rw [if_pos Hr.out]
        rfl
      obtain ⟨k0, k1⟩ := (HM2.out.ext he2).c2
      have hmw : (m.wvs.length : Int) ≤ 6 := by omega
      go_wp2_with fail
      clear k0 k1
      go_loopw [8, 30] (fun v iv wr => ∃ k : Nat, k ≤ m.wvs.length + 1 ∧ iv = .int .i64 (k : Int) ∧ Hid (OwnI wr w2.heap.size 3 v (ints (bestC m.wvs.length (proofB m (sightF l)) k))) ∧ Ext w2 wr) (fun _ iv _ => m.wvs.length + 1 - (intOf iv).toNat)
      case atStart => exact ⟨0, Nat.zero_le _, rfl, Lib.hid (OwnI.nil _ _ _), Ext.refl _⟩
      case round =>
        obtain ⟨k, hk, rfl, hO, hew⟩ := hrel
        by_cases hlt : k < m.wvs.length + 1
        · have hd : decide ((k : Int) < (m.wvs.length : Int) + 1) = true := by simp; omega
          have hXk := Ext.alloc wr (.cells #[.int .i64 (k : Int)] 3)
          have hMb := Blk.new wr 3 #[.int .i64 (k : Int)]
          have heA := he2.trans (hew.trans hXk)
          obtain ⟨-, k1⟩ := (HM2.out.ext heA).c2
          have hfi := Lib.hid (first_anyP m.wvs.length 204 #[] #[.pointer (some ⟨wr.heap.size, 0, none⟩), .pointer (some ⟨Db, 0, none⟩), .pointer (some ⟨w.heap.size + 1, 0, none⟩)] (fun g => decide (g.length = k) && proofB m (sightF l) g) (by omega) _ (enters_of Tryz.func204 (by kernel_rfl) rfl)
            (fun g hg => prove1_any D wr.heap.size Db (w.heap.size + 1) k (by omega) m Hm.out A c n l Hn.out Hle.out _ hMb (HDb.out.ext heA) (HS2.out.ext heA) (HD.out.ext heA) (HA.out.ext heA) g hg))
          have hbs := bestC_succ m.wvs.length (proofB m (sightF l)) k
          obtain ⟨A5, c5, e5, -, -, -, -, -⟩ := hO.out.open_
          subst e5
          have hO2 := hO.out.ext hXk
          have hE5 := hew.trans hXk
          clear hXk hMb heA hO hew
          go_wp2_with fail
          refine hfi.out.mono ?_
          rintro e w3 ⟨A3, k3, c3, rfl, he3, hf⟩
          have hE6 := hE5.trans he3
          have hsz5 := hE5.size
          have hO3 := hO2.ext he3
          clear hfi hO2 he3
          cases hq2 : Pow.firstF m.wvs.length (fun g => decide (g.length = k) && proofB m (sightF l) g) with
          | none =>
            rw [hq2] at hbs
            have Hbs := Lib.hid hbs
            have HO3 := Lib.hid hO3
            rw [Option.isSome_none]
            clear hf hq2 hbs hO3
            go_wp2_with fail
            go_roundw
            case rel => exact ⟨k + 1, by omega, by go_num, by rw [Hbs.out]; exact HO3, hE6⟩
            case measure => simp [intOf]; omega
          | some g =>
            rw [hq2] at hbs
            have Hbs := Lib.hid hbs
            have HO4 := Lib.hid ((hf g hq2).mono hsz5)
            rw [Option.isSome_some]
            clear hf hq2 hbs hO3
            go_wp2_with fail
            go_roundw
            case rel => exact ⟨k + 1, by omega, by go_num, by rw [Hbs.out]; exact HO4, hE6⟩
            case measure => simp [intOf]; omega
        · obtain rfl : k = m.wvs.length + 1 := by omega
          have hd : decide (((m.wvs.length + 1 : Nat) : Int) < (m.wvs.length : Int) + 1) = false := by simp
          have hO9 := hO.out
          rw [Hx2.out] at hO9
          have HO9 := Lib.hid hO9
          clear hO hO9
          go_wp2_with fail
          go_ret2
          exact ⟨_, rfl, HO9.out.mono hE2.size, hE2.trans hew⟩
  · obtain rfl : r = r0 := by rw [← Hr.out]; unfold sureE; rw [if_pos (by rw [Hr0.out]; exact h0), Hr0.out]
    obtain rfl : x = [] := by rw [← Hx.out]; unfold provL; rw [Hr.out, if_neg h0]
    have hd : (r != 0) = true := by simpa using h0
    clear hA h0 hop
    go_wp2_with fail
    go_ret2
    exact ⟨_, rfl, OwnI.nil _ _ _, hE1.trans hX⟩
def provE (m : PM) (l g : List Int) : Int := if sightE m l ≠ 0 then sightE m l else if (g.all fun k => inB k 0 (m.wvs.length - 1)) = false then 1 else if risingB g = false then 4 else if proofB m (sightF l) (natL g) = false then 8 else 0
end Go.Proofs.Pet

namespace Go.Proofs.Pet
open Go Go.RowKit Go.Maps Go.Shelf
open Go.Proofs.Pow (PM Sh Wv POk Up sightF clrB opnS hitL explB clashB proofB threeM)

theorem ints_blk {w : World} {b : Nat} {t : TypeId} {xs : List Int} {cs : Array Value} (hb : Blk w b t cs) (hc : cs = (xs.map (Value.int .i64)).toArray) : IntsAt w (some ⟨b, 0, none⟩) xs := by
  subst hc
  intro k hk
  refine ⟨b, 0, rfl, ?_⟩
  rw [Nat.zero_add, hb.cell, List.getElem?_toArray, List.getElem?_map, List.getElem?_eq_getElem hk]
  rfl
set_option maxRecDepth 20000 in
theorem three_any (w : World) : Calls Tryz.prog 37 #[] w fun e w' => ∃ A1 A2, e = .returned (.agg #[.slice A1 3 3, .slice A2 3 3]) ∧ PMVal w' (.agg #[.slice A1 3 3, .slice A2 3 3]) threeM ∧ Ext w w' := by
  go_enter Tryz.func37, Tryz.ntmps37
  go_wp2_with fail
  obtain ⟨W0, h0⟩ : ∃ W0, w.alloc (.cells #[.slice (some ⟨w.heap.size + 1, 0, none⟩) 3 3, .slice (some ⟨w.heap.size + 1 + 1 + 1 + 1 + 1, 0, none⟩) 3 3] 56) = W0 := ⟨_, rfl⟩
  have e0 : Ext w W0 := h0 ▸ Ext.alloc _ _
  have b0 : Blk W0 (w.heap.size) 56 #[.slice (some ⟨w.heap.size + 1, 0, none⟩) 3 3, .slice (some ⟨w.heap.size + 1 + 1 + 1 + 1 + 1, 0, none⟩) 3 3] := by
    have := Blk.new w 56 #[.slice (some ⟨w.heap.size + 1, 0, none⟩) 3 3, .slice (some ⟨w.heap.size + 1 + 1 + 1 + 1 + 1, 0, none⟩) 3 3]
    rw [h0] at this; exact this
  have z0 : W0.heap.size = w.heap.size + 1 := by rw [← h0, World.size_alloc]
  obtain ⟨W1, h1⟩ : ∃ W1, W0.alloc (.cells #[.int .i64 (-1), .int .i64 6, .int .i64 0, .int .i64 4, .int .i64 0, .int .i64 3] 84) = W1 := ⟨_, rfl⟩
  have e1 : Ext W0 W1 := h1 ▸ Ext.alloc _ _
  have b1 : Blk W1 (w.heap.size + 1) 84 #[.int .i64 (-1), .int .i64 6, .int .i64 0, .int .i64 4, .int .i64 0, .int .i64 3] := by
    have := Blk.new W0 84 #[.int .i64 (-1), .int .i64 6, .int .i64 0, .int .i64 4, .int .i64 0, .int .i64 3]
    rw [h1, z0] at this; exact this
  have z1 : W1.heap.size = w.heap.size + 1 + 1 := by rw [← h1, World.size_alloc, z0]
  obtain ⟨W2, h2⟩ : ∃ W2, W1.alloc (.cells #[.int .i64 0, .int .i64 1] 3) = W2 := ⟨_, rfl⟩
  have e2 : Ext W1 W2 := h2 ▸ Ext.alloc _ _
  have b2 : Blk W2 (w.heap.size + 1 + 1) 3 #[.int .i64 0, .int .i64 1] := by
    have := Blk.new W1 3 #[.int .i64 0, .int .i64 1]
    rw [h2, z1] at this; exact this
  have z2 : W2.heap.size = w.heap.size + 1 + 1 + 1 := by rw [← h2, World.size_alloc, z1]
  obtain ⟨W3, h3⟩ : ∃ W3, W2.alloc (.cells #[.int .i64 1, .int .i64 2] 3) = W3 := ⟨_, rfl⟩
  have e3 : Ext W2 W3 := h3 ▸ Ext.alloc _ _
  have b3 : Blk W3 (w.heap.size + 1 + 1 + 1) 3 #[.int .i64 1, .int .i64 2] := by
    have := Blk.new W2 3 #[.int .i64 1, .int .i64 2]
    rw [h3, z2] at this; exact this
  have z3 : W3.heap.size = w.heap.size + 1 + 1 + 1 + 1 := by rw [← h3, World.size_alloc, z2]
  obtain ⟨W4, h4⟩ : ∃ W4, W3.alloc (.cells #[.int .i64 1] 3) = W4 := ⟨_, rfl⟩
  have e4 : Ext W3 W4 := h4 ▸ Ext.alloc _ _
  have b4 : Blk W4 (w.heap.size + 1 + 1 + 1 + 1) 3 #[.int .i64 1] := by
    have := Blk.new W3 3 #[.int .i64 1]
    rw [h4, z3] at this; exact this
  have z4 : W4.heap.size = w.heap.size + 1 + 1 + 1 + 1 + 1 := by rw [← h4, World.size_alloc, z3]
  obtain ⟨W5, h5⟩ : ∃ W5, W4.alloc (.cells #[.int .i64 1, .slice (some ⟨w.heap.size + 1 + 1, 0, none⟩) 2 2, .int .i64 1, .slice (some ⟨w.heap.size + 1 + 1 + 1, 0, none⟩) 2 2, .int .i64 2, .slice (some ⟨w.heap.size + 1 + 1 + 1 + 1, 0, none⟩) 1 1] 86) = W5 := ⟨_, rfl⟩
  have e5 : Ext W4 W5 := h5 ▸ Ext.alloc _ _
  have b5 : Blk W5 (w.heap.size + 1 + 1 + 1 + 1 + 1) 86 #[.int .i64 1, .slice (some ⟨w.heap.size + 1 + 1, 0, none⟩) 2 2, .int .i64 1, .slice (some ⟨w.heap.size + 1 + 1 + 1, 0, none⟩) 2 2, .int .i64 2, .slice (some ⟨w.heap.size + 1 + 1 + 1 + 1, 0, none⟩) 1 1] := by
    have := Blk.new W4 86 #[.int .i64 1, .slice (some ⟨w.heap.size + 1 + 1, 0, none⟩) 2 2, .int .i64 1, .slice (some ⟨w.heap.size + 1 + 1 + 1, 0, none⟩) 2 2, .int .i64 2, .slice (some ⟨w.heap.size + 1 + 1 + 1 + 1, 0, none⟩) 1 1]
    rw [h5, z4] at this; exact this
  have z5 : W5.heap.size = w.heap.size + 1 + 1 + 1 + 1 + 1 + 1 := by rw [← h5, World.size_alloc, z4]
  rw [h0, h1, h2, h3, h4, h5]
  have B5 := b5
  have B4 := b4.ext e5
  have B3 := (b3.ext e4).ext e5
  have B2 := ((b2.ext e3).ext e4).ext e5
  have B1 := (((b1.ext e2).ext e3).ext e4).ext e5
  have B0 := ((((b0.ext e1).ext e2).ext e3).ext e4).ext e5
  have E := ((((e0.trans e1).trans e2).trans e3).trans e4).trans e5
  have i2 : IntsAt W5 (some ⟨w.heap.size + 1 + 1, 0, none⟩) [0, 1] := ints_blk B2 rfl
  have i3 : IntsAt W5 (some ⟨w.heap.size + 1 + 1 + 1, 0, none⟩) [1, 2] := ints_blk B3 rfl
  have i4 : IntsAt W5 (some ⟨w.heap.size + 1 + 1 + 1 + 1, 0, none⟩) [1] := ints_blk B4 rfl
  have v0 := B0.cell 0
  have v1 := B0.cell 1
  refine bodyPost_ret (v := .agg #[.slice (some ⟨w.heap.size + 1, 0, none⟩) 3 3, .slice (some ⟨w.heap.size + 1 + 1 + 1 + 1 + 1, 0, none⟩) 3 3]) ?_ rfl ⟨_, _, rfl, ⟨_, 3, _, 3, rfl, Nat.le_refl _, by unfold maxLen; omega, Nat.le_refl _, by unfold maxLen; omega, ?_, ?_⟩, E⟩
  · simp only [List.getElem?_toArray, List.getElem?_cons_succ, List.getElem?_cons_zero] at v0 v1
    simp [results, Tryz.results37, go_sem, v0, v1]
  · intro k hk
    refine ⟨_, 0, rfl, ?_⟩
    match k, hk with
    | 0, _ => exact ⟨B1.cell 0, B1.cell 1⟩
    | 1, _ => exact ⟨B1.cell 2, B1.cell 3⟩
    | 2, _ => exact ⟨B1.cell 4, B1.cell 5⟩
  · intro k hk
    refine ⟨_, 0, rfl, ?_⟩
    match k, hk with
    | 0, _ => exact ⟨_, 2, ⟨Nat.le_refl _, by unfold maxLen; omega⟩, B5.cell 0, B5.cell 1, i2⟩
    | 1, _ => exact ⟨_, 2, ⟨Nat.le_refl _, by unfold maxLen; omega⟩, B5.cell 2, B5.cell 3, i3⟩
    | 2, _ => exact ⟨_, 1, ⟨Nat.le_refl _, by unfold maxLen; omega⟩, B5.cell 4, B5.cell 5, i4⟩
theorem three_check : checkP threeM = 0 := by kernel_rfl
/-- a list comes back, and no error -/
def Lists (xs : List Int) (r : Int) (w : World) (e : Ending) (w' : World) : Prop := ∃ A c, e = .returned (.tuple #[.slice A xs.length c, .int .i64 r]) ∧ IntsAt w' A xs ∧ Ext w w'
theorem lists_of {xs : List Int} {r : Int} {w w' : World} {e : Ending} (h : ∃ u, e = .returned (.tuple #[u, .int .i64 r]) ∧ OwnI w' w.heap.size 3 u xs ∧ Ext w w') : Lists xs r w e w' := by
  obtain ⟨u, rfl, hO, he⟩ := h
  obtain ⟨A, c, rfl, -, -, h3, -, -⟩ := hO.open_
  exact ⟨A, c, rfl, h3, he⟩
theorem three_shares_any (v : Value) (w : World) (hv : PMVal w v threeM) : Calls Tryz.prog 39 #[v] w (Lists [840, 840, 300] 0 w) :=
  (shares_any v threeM three_check w hv).mono fun _e _w' ⟨_S, h1, h2, _, h4⟩ => ⟨_, _, h1, Pow.three_shares ▸ h2.ints, h4⟩
theorem three_adds_any (v : Value) (A : Option Addr) (w : World) (hv : PMVal w v threeM) (hA : IntsAt w A [2, 1, 0]) : Calls Tryz.prog 32 #[v, .slice A 3 3] w (Lists [10, 14, 9] 0 w) :=
  (Adds_any v threeM A 3 3 [2, 1, 0] rfl 0 [10, 14, 9] (by kernel_rfl) (by rw [if_pos rfl]; exact Pow.three_adds) w hv (by unfold maxLen; omega) (Nat.le_refl _) hA).mono fun _ _ h => lists_of h
theorem three_better_any (v : Value) (A : Option Addr) (w : World) (hv : PMVal w v threeM) (hA : IntsAt w A [1300, 380, 300]) : Calls Tryz.prog 99 #[v, .slice A 3 3] w (Lists [0] 0 w) :=
  (Better_any v threeM A 3 3 [1300, 380, 300] rfl 0 [0] (by kernel_rfl) (by kernel_rfl) w hv (by unfold maxLen; omega) hA).mono fun _ _ h => lists_of h
theorem three_cheap_any (v : Value) (w : World) (hv : PMVal w v threeM) : Calls Tryz.prog 34 #[v, .int .i64 2] w fun e w' => e = .returned (.tuple #[.int .i64 0, .int .i64 3, .int .i64 0]) ∧ Ext w w' :=
  Cheapest_any v threeM 2 0 3 0 (by
    unfold cheapV
    rw [if_neg (by rw [show knownE threeM 2 = 0 by kernel_rfl]; simp)]
    rw [show Pow.cheapF threeM (2 : Int).toNat = some (0, 3) from Pow.three_cheap]
    rfl) w hv
theorem sortL_two : Lib.compact (Pow.sortL [1, 1]) = [1] := by
  have : Pow.sortL [1, 1] = [1, 1] := by
    have h := Pow.sortL_perm [1, 1]
    exact List.perm_replicate (n := 2) |>.1 h
  rw [this]
  rfl
theorem three_sure_any (v : Value) (A : Option Addr) (w : World) (hv : PMVal w v threeM) (hA : IntsAt w A [2, 2, 1]) : Calls Tryz.prog 100 #[v, .slice A 3 3] w (Lists [1] 0 w) :=
  (Surely_any v threeM A 3 3 [2, 2, 1] rfl 0 [1] (by kernel_rfl) (by unfold sureV; rw [if_pos (by kernel_rfl), Pow.three_sure.2]; exact sortL_two) w hv (by unfold maxLen; omega) hA).mono fun _ _ h => lists_of h
theorem three_slipped_any (v : Value) (A : Option Addr) (w : World) (hv : PMVal w v threeM) (hA : IntsAt w A [2, 0, 2]) : Calls Tryz.prog 40 #[v, .slice A 3 3] w (Lists [0] 0 w) :=
  (Slipped_any v threeM A 3 3 [2, 0, 2] rfl 0 [0] (by kernel_rfl) (by kernel_rfl) w hv (by unfold maxLen; omega) hA).mono fun _ _ h => lists_of h
theorem three_prove_any (v : Value) (A : Option Addr) (w : World) (hv : PMVal w v threeM) (hA : IntsAt w A [2, 1, 0]) : Calls Tryz.prog 101 #[v, .slice A 3 3] w (Lists [] 7 w) :=
  (Prove_any v threeM A 3 3 [2, 1, 0] rfl 7 [] (by kernel_rfl) (by kernel_rfl) w hv (by unfold maxLen; omega) hA).mono fun _ _ h => lists_of h
end Go.Proofs.Pet

namespace Go.Proofs.Pet
open Go Go.RowKit Go.Maps Go.Shelf
open Go.Proofs.Pow (PM Sh Wv POk Up threeM)

set_option maxRecDepth 20000 in
set_option maxHeartbeats 2000000 in
theorem awake7_any (w : World) : Calls Tryz.prog 22 #[] w fun e w' => e = .returned (.bool true) ∧ Ext w w' := by
  go_enter Tryz.func22, Tryz.ntmps22
  go_wp2_with fail
  refine (three_any w).mono ?_
  rintro e w1 ⟨P1, Q1, rfl, hv1, hE1⟩
  have hc := Lib.hid (three_shares_any _ w1 hv1)
  clear hv1
  go_wp2_with fail
  refine hc.out.mono ?_
  rintro e w2 ⟨L1, d1, rfl, hL1, he2⟩
  have hE2 := hE1.trans he2
  have HL1 := Lib.hid hL1
  clear hc hE1 he2 hL1
  go_wp2_with fail
  refine (three_any w2).mono ?_
  rintro e w3 ⟨P1, Q1, rfl, hv1, he1⟩
  have HL1' := Lib.hid (HL1.out.ext he1)
  have hEa := hE2.trans he1
  have hX := Ext.alloc w3 (.cells #[.int .i64 2, .int .i64 1, .int .i64 0] 3)
  have hI : IntsAt (w3.alloc (.cells #[.int .i64 2, .int .i64 1, .int .i64 0] 3)) (some ⟨w3.heap.size, 0, none⟩) [2, 1, 0] := ints_blk (Blk.new w3 3 #[.int .i64 2, .int .i64 1, .int .i64 0]) rfl
  have hc := Lib.hid (three_adds_any _ _ _ (hv1.ext hX) hI)
  have hEb := hEa.trans hX
  have HL1'' := Lib.hid (HL1'.out.ext hX)
  clear hI hv1 hEa he1 HL1 HL1' hE2
  go_wp2_with fail
  refine hc.out.mono ?_
  rintro e w4 ⟨L2, d2, rfl, hLn, he2⟩
  have HL1 := Lib.hid (HL1''.out.ext he2)
  have HL2 := Lib.hid hLn
  have hE4 := hEb.trans he2
  clear hLn he2 hEb hc HL1'' hX
  go_wp2_with fail
  refine (three_any w4).mono ?_
  rintro e w5 ⟨P1, Q1, rfl, hv1, he1⟩
  have HL1' := Lib.hid (HL1.out.ext he1)
  have HL2' := Lib.hid (HL2.out.ext he1)
  have hEa := hE4.trans he1
  have hX := Ext.alloc w5 (.cells #[.int .i64 1300, .int .i64 380, .int .i64 300] 3)
  have hI : IntsAt (w5.alloc (.cells #[.int .i64 1300, .int .i64 380, .int .i64 300] 3)) (some ⟨w5.heap.size, 0, none⟩) [1300, 380, 300] := ints_blk (Blk.new w5 3 #[.int .i64 1300, .int .i64 380, .int .i64 300]) rfl
  have hc := Lib.hid (three_better_any _ _ _ (hv1.ext hX) hI)
  have hEb := hEa.trans hX
  have HL1'' := Lib.hid (HL1'.out.ext hX)
  have HL2'' := Lib.hid (HL2'.out.ext hX)
  clear hI hv1 hEa he1 HL1 HL1' HL2 HL2' hE4
  go_wp2_with fail
  refine hc.out.mono ?_
  rintro e w6 ⟨L3, d3, rfl, hLn, he2⟩
  have HL1 := Lib.hid (HL1''.out.ext he2)
  have HL2 := Lib.hid (HL2''.out.ext he2)
  have HL3 := Lib.hid hLn
  have hE6 := hEb.trans he2
  clear hLn he2 hEb hc HL1'' HL2'' hX
  go_wp2_with fail
  refine (three_any w6).mono ?_
  rintro e w7 ⟨P1, Q1, rfl, hv1, he1⟩
  have HL1' := Lib.hid (HL1.out.ext he1)
  have HL2' := Lib.hid (HL2.out.ext he1)
  have HL3' := Lib.hid (HL3.out.ext he1)
  have hEa := hE6.trans he1
  have hc := Lib.hid (three_cheap_any _ _ hv1)
  have hEb := hEa
  have HL1'' := HL1'
  have HL2'' := HL2'
  have HL3'' := HL3'
  clear hv1 hEa he1 HL1 HL1' HL2 HL2' HL3 HL3' hE6
  go_wp2_with fail
  refine hc.out.mono ?_
  rintro e w8 ⟨rfl, he2⟩
  have HL1 := Lib.hid (HL1''.out.ext he2)
  have HL2 := Lib.hid (HL2''.out.ext he2)
  have HL3 := Lib.hid (HL3''.out.ext he2)
  have hE8 := hEb.trans he2
  clear he2 hEb hc HL1'' HL2'' HL3''
  go_wp2_with fail
  refine (three_any w8).mono ?_
  rintro e w9 ⟨P1, Q1, rfl, hv1, he1⟩
  have HL1' := Lib.hid (HL1.out.ext he1)
  have HL2' := Lib.hid (HL2.out.ext he1)
  have HL3' := Lib.hid (HL3.out.ext he1)
  have hEa := hE8.trans he1
  have hX := Ext.alloc w9 (.cells #[.int .i64 2, .int .i64 2, .int .i64 1] 81)
  have hI : IntsAt (w9.alloc (.cells #[.int .i64 2, .int .i64 2, .int .i64 1] 81)) (some ⟨w9.heap.size, 0, none⟩) [2, 2, 1] := ints_blk (Blk.new w9 81 #[.int .i64 2, .int .i64 2, .int .i64 1]) rfl
  have hc := Lib.hid (three_sure_any _ _ _ (hv1.ext hX) hI)
  have hEb := hEa.trans hX
  have HL1'' := Lib.hid (HL1'.out.ext hX)
  have HL2'' := Lib.hid (HL2'.out.ext hX)
  have HL3'' := Lib.hid (HL3'.out.ext hX)
  clear hI hv1 hEa he1 HL1 HL1' HL2 HL2' HL3 HL3' hE8
  go_wp2_with fail
  refine hc.out.mono ?_
  rintro e w10 ⟨L4, d4, rfl, hLn, he2⟩
  have HL1 := Lib.hid (HL1''.out.ext he2)
  have HL2 := Lib.hid (HL2''.out.ext he2)
  have HL3 := Lib.hid (HL3''.out.ext he2)
  have HL4 := Lib.hid hLn
  have hE10 := hEb.trans he2
  clear hLn he2 hEb hc HL1'' HL2'' HL3'' hX
  go_wp2_with fail
  refine (three_any w10).mono ?_
  rintro e w11 ⟨P1, Q1, rfl, hv1, he1⟩
  have HL1' := Lib.hid (HL1.out.ext he1)
  have HL2' := Lib.hid (HL2.out.ext he1)
  have HL3' := Lib.hid (HL3.out.ext he1)
  have HL4' := Lib.hid (HL4.out.ext he1)
  have hEa := hE10.trans he1
  have hX := Ext.alloc w11 (.cells #[.int .i64 2, .int .i64 0, .int .i64 2] 81)
  have hI : IntsAt (w11.alloc (.cells #[.int .i64 2, .int .i64 0, .int .i64 2] 81)) (some ⟨w11.heap.size, 0, none⟩) [2, 0, 2] := ints_blk (Blk.new w11 81 #[.int .i64 2, .int .i64 0, .int .i64 2]) rfl
  have hc := Lib.hid (three_slipped_any _ _ _ (hv1.ext hX) hI)
  have hEb := hEa.trans hX
  have HL1'' := Lib.hid (HL1'.out.ext hX)
  have HL2'' := Lib.hid (HL2'.out.ext hX)
  have HL3'' := Lib.hid (HL3'.out.ext hX)
  have HL4'' := Lib.hid (HL4'.out.ext hX)
  clear hI hv1 hEa he1 HL1 HL1' HL2 HL2' HL3 HL3' HL4 HL4' hE10
  go_wp2_with fail
  refine hc.out.mono ?_
  rintro e w12 ⟨L5, d5, rfl, hLn, he2⟩
  have HL1 := Lib.hid (HL1''.out.ext he2)
  have HL2 := Lib.hid (HL2''.out.ext he2)
  have HL3 := Lib.hid (HL3''.out.ext he2)
  have HL4 := Lib.hid (HL4''.out.ext he2)
  have HL5 := Lib.hid hLn
  have hE12 := hEb.trans he2
  clear hLn he2 hEb hc HL1'' HL2'' HL3'' HL4'' hX
  go_wp2_with fail
  refine (three_any w12).mono ?_
  rintro e w13 ⟨P1, Q1, rfl, hv1, he1⟩
  have HL1' := Lib.hid (HL1.out.ext he1)
  have HL2' := Lib.hid (HL2.out.ext he1)
  have HL3' := Lib.hid (HL3.out.ext he1)
  have HL4' := Lib.hid (HL4.out.ext he1)
  have HL5' := Lib.hid (HL5.out.ext he1)
  have hEa := hE12.trans he1
  have hX := Ext.alloc w13 (.cells #[.int .i64 2, .int .i64 1, .int .i64 0] 81)
  have hI : IntsAt (w13.alloc (.cells #[.int .i64 2, .int .i64 1, .int .i64 0] 81)) (some ⟨w13.heap.size, 0, none⟩) [2, 1, 0] := ints_blk (Blk.new w13 81 #[.int .i64 2, .int .i64 1, .int .i64 0]) rfl
  have hc := Lib.hid (three_prove_any _ _ _ (hv1.ext hX) hI)
  have hEb := hEa.trans hX
  have HL1'' := Lib.hid (HL1'.out.ext hX)
  have HL2'' := Lib.hid (HL2'.out.ext hX)
  have HL3'' := Lib.hid (HL3'.out.ext hX)
  have HL4'' := Lib.hid (HL4'.out.ext hX)
  have HL5'' := Lib.hid (HL5'.out.ext hX)
  clear hI hv1 hEa he1 HL1 HL1' HL2 HL2' HL3 HL3' HL4 HL4' HL5 HL5' hE12
  go_wp2_with fail
  refine hc.out.mono ?_
  rintro e w14 ⟨L6, d6, rfl, hLn, he2⟩
  have HL1 := Lib.hid (HL1''.out.ext he2)
  have HL2 := Lib.hid (HL2''.out.ext he2)
  have HL3 := Lib.hid (HL3''.out.ext he2)
  have HL4 := Lib.hid (HL4''.out.ext he2)
  have HL5 := Lib.hid (HL5''.out.ext he2)
  have HL6 := Lib.hid hLn
  have hE14 := hEb.trans he2
  clear hLn he2 hEb hc HL1'' HL2'' HL3'' HL4'' HL5'' hX
  have hX := Ext.alloc w14 (.cells #[.int .i64 840, .int .i64 840, .int .i64 300] 3)
  have hI : IntsAt (w14.alloc (.cells #[.int .i64 840, .int .i64 840, .int .i64 300] 3)) (some ⟨w14.heap.size, 0, none⟩) [840, 840, 300] := ints_blk (Blk.new w14 3 #[.int .i64 840, .int .i64 840, .int .i64 300]) rfl
  have hc := Lib.hid (eqI L1 (some ⟨w14.heap.size, 0, none⟩) d1 3 [840, 840, 300] [840, 840, 300] true (by simp) _ (by unfold maxLen; simp) (HL1.out.ext hX) hI)
  have hEb := hE14.trans hX
  have HL2'' := Lib.hid (HL2.out.ext hX)
  have HL3'' := Lib.hid (HL3.out.ext hX)
  have HL4'' := Lib.hid (HL4.out.ext hX)
  have HL5'' := Lib.hid (HL5.out.ext hX)
  clear hI hE14 HL2 HL3 HL4 HL5
  go_wp2_with fail
  refine hc.out.mono ?_
  rintro e v1 ⟨rfl, he2⟩
  have HL2 := Lib.hid (HL2''.out.ext he2)
  have HL3 := Lib.hid (HL3''.out.ext he2)
  have HL4 := Lib.hid (HL4''.out.ext he2)
  have HL5 := Lib.hid (HL5''.out.ext he2)
  have hF1 := hEb.trans he2
  clear hEb he2 hc hX HL2'' HL3'' HL4'' HL5''
  have hX := Ext.alloc v1 (.cells #[.int .i64 10, .int .i64 14, .int .i64 9] 3)
  have hI : IntsAt (v1.alloc (.cells #[.int .i64 10, .int .i64 14, .int .i64 9] 3)) (some ⟨v1.heap.size, 0, none⟩) [10, 14, 9] := ints_blk (Blk.new v1 3 #[.int .i64 10, .int .i64 14, .int .i64 9]) rfl
  have hc := Lib.hid (eqI L2 (some ⟨v1.heap.size, 0, none⟩) d2 3 [10, 14, 9] [10, 14, 9] true (by simp) _ (by unfold maxLen; simp) (HL2.out.ext hX) hI)
  have hEb := hF1.trans hX
  have HL3'' := Lib.hid (HL3.out.ext hX)
  have HL4'' := Lib.hid (HL4.out.ext hX)
  have HL5'' := Lib.hid (HL5.out.ext hX)
  clear hI hF1 HL3 HL4 HL5
  go_wp2_with fail
  refine hc.out.mono ?_
  rintro e v2 ⟨rfl, he2⟩
  have HL3 := Lib.hid (HL3''.out.ext he2)
  have HL4 := Lib.hid (HL4''.out.ext he2)
  have HL5 := Lib.hid (HL5''.out.ext he2)
  have hF2 := hEb.trans he2
  clear hEb he2 hc hX HL3'' HL4'' HL5''
  have hX := Ext.alloc v2 (.cells #[.int .i64 0] 3)
  have hI : IntsAt (v2.alloc (.cells #[.int .i64 0] 3)) (some ⟨v2.heap.size, 0, none⟩) [0] := ints_blk (Blk.new v2 3 #[.int .i64 0]) rfl
  have hc := Lib.hid (eqI L3 (some ⟨v2.heap.size, 0, none⟩) d3 1 [0] [0] true (by simp) _ (by unfold maxLen; simp) (HL3.out.ext hX) hI)
  have hEb := hF2.trans hX
  have HL4'' := Lib.hid (HL4.out.ext hX)
  have HL5'' := Lib.hid (HL5.out.ext hX)
  clear hI hF2 HL4 HL5
  go_wp2_with fail
  refine hc.out.mono ?_
  rintro e v3 ⟨rfl, he2⟩
  have HL4 := Lib.hid (HL4''.out.ext he2)
  have HL5 := Lib.hid (HL5''.out.ext he2)
  have hF3 := hEb.trans he2
  clear hEb he2 hc hX HL4'' HL5''
  have hX := Ext.alloc v3 (.cells #[.int .i64 1] 3)
  have hI : IntsAt (v3.alloc (.cells #[.int .i64 1] 3)) (some ⟨v3.heap.size, 0, none⟩) [1] := ints_blk (Blk.new v3 3 #[.int .i64 1]) rfl
  have hc := Lib.hid (eqI L4 (some ⟨v3.heap.size, 0, none⟩) d4 1 [1] [1] true (by simp) _ (by unfold maxLen; simp) (HL4.out.ext hX) hI)
  have hEb := hF3.trans hX
  have HL5'' := Lib.hid (HL5.out.ext hX)
  clear hI hF3 HL5
  go_wp2_with fail
  refine hc.out.mono ?_
  rintro e v4 ⟨rfl, he2⟩
  have HL5 := Lib.hid (HL5''.out.ext he2)
  have hF4 := hEb.trans he2
  clear hEb he2 hc hX HL5''
  have hX := Ext.alloc v4 (.cells #[.int .i64 0] 3)
  have hI : IntsAt (v4.alloc (.cells #[.int .i64 0] 3)) (some ⟨v4.heap.size, 0, none⟩) [0] := ints_blk (Blk.new v4 3 #[.int .i64 0]) rfl
  have hc := Lib.hid (eqI L5 (some ⟨v4.heap.size, 0, none⟩) d5 1 [0] [0] true (by simp) _ (by unfold maxLen; simp) (HL5.out.ext hX) hI)
  have hEb := hF4.trans hX
  clear hI hF4
  go_wp2_with fail
  refine hc.out.mono ?_
  rintro e v5 ⟨rfl, he2⟩
  have hF5 := hEb.trans he2
  clear hEb he2 hc hX
  go_wp2_with fail
  go_ret
  exact ⟨rfl, hF5⟩
end Go.Proofs.Pet

namespace Go.Proofs.Pet
set_option linter.unusedSimpArgs false
open Go Go.RowKit Go.Maps Go.Shelf

/-- bytes that can be read, all of them ahead of the block b -/
def BytesAt (w : World) (b : Nat) (A : Option Addr) (n : Nat) : Prop :=
  ∀ j, j < n → ∃ b' o u, A = some ⟨b', o, none⟩ ∧ b' < b ∧ w.cell? ⟨b', o + j, none⟩ = some (.int .u8 u)
/-- a spool, of which at most k numbers have been wound off -/
def SpoolAt (w : World) (b k : Nat) : Prop :=
  ∃ A n c st, ∃ at_ : Nat, Blk w b 222 #[.slice A n c, .int .i64 (at_ : Int), .int .u64 st] ∧ n ≤ c ∧ c ≤ maxLen ∧ at_ ≤ k ∧ BytesAt w b A n
theorem BytesAt.ext {w w' : World} {b n : Nat} {A : Option Addr} (h : BytesAt w b A n) (he : Ext w w') : BytesAt w' b A n := fun j hj => by
  obtain ⟨b', o, u, h1, h2, h3⟩ := h j hj
  exact ⟨b', o, u, h1, h2, he.cell h3⟩
theorem SpoolAt.ext {w w' : World} {b k : Nat} (h : SpoolAt w b k) (he : Ext w w') : SpoolAt w' b k := by
  obtain ⟨A, n, c, st, a, h1, h2, h3, h4, h5⟩ := h
  exact ⟨A, n, c, st, a, h1.ext he, h2, h3, h4, h5.ext he⟩
instance {w w' : World} {b k : Nat} : Lift (SpoolAt w b k) w w' (SpoolAt w' b k) := ⟨fun he h => h.ext he⟩
/-- a number of a spool in its bounds, and the spool goes on -/
def Turned (b k : Nat) (lo hi : Int) (w : World) (e : Ending) (w' : World) : Prop :=
  ∃ r : Int, e = .returned (.int .i64 r) ∧ lo ≤ r ∧ r ≤ hi ∧ SpoolAt w' b (k + 1) ∧ Apart b w w'
/-- a yes or no of a spool -/
def TurnedB (b k : Nat) (w : World) (e : Ending) (w' : World) : Prop :=
  ∃ q : Bool, e = .returned (.bool q) ∧ SpoolAt w' b (k + 1) ∧ Apart b w w'
/-- bytes that can be read -/
def BytesIn (w : World) (v : Value) : Prop := ∃ A n c, v = .slice A n c ∧ n ≤ c ∧ c ≤ maxLen ∧ ∀ j, j < n → ∃ b' o u, A = some ⟨b', o, none⟩ ∧ w.cell? ⟨b', o + j, none⟩ = some (.int .u8 u)
theorem BytesIn.ext {w w' : World} {v : Value} (h : BytesIn w v) (he : Ext w w') : BytesIn w' v := by
  obtain ⟨A, n, c, h1, h2, h3, h4⟩ := h
  exact ⟨A, n, c, h1, h2, h3, fun j hj => by obtain ⟨b', o, u, g1, g2⟩ := h4 j hj; exact ⟨b', o, u, g1, he.cell g2⟩⟩
instance {w w' : World} {v : Value} : Lift (BytesIn w v) w w' (BytesIn w' v) := ⟨fun he h => h.ext he⟩
/-- an order of the numbers below n -/
def PermOf (n : Nat) (l : List Int) : Prop := l.Perm (ints (List.range n))
end Go.Proofs.Pet

namespace Go.Proofs.Pet
open Go Go.RowKit Go.Maps Go.Shelf
open Go.Proofs.Pow (PM Sh Wv POk Up)

def zeroPM : Array Value := #[.slice none 0 0, .slice none 0 0]
/-- a mill being made: w0 is the world at first, b the spool's block, R the result's, M the mill's -/
structure MkP (w0 : World) (b R M B0 : Nat) (ss : List Sh) (ws : List Wv) (k : Nat) (v1 v2 : Value) (W : World) : Prop where
  ap : Apart b w0 W
  sp : SpoolAt W b k
  br : Blk W R 56 zeroPM
  bm : Blk W M 56 #[v1, v2]
  o1 : OwnShs W B0 v1 ss
  o2 : OwnWvs W B0 v2 ws
  lt : b < w0.heap.size ∧ w0.heap.size ≤ R ∧ R < M ∧ M < B0
section
variable {w0 W W' : World} {b R M B0 k k' : Nat} {ss : List Sh} {ws : List Wv} {v1 v2 : Value}
theorem Src.listP (w : World) (cs : List Value) (t : TypeId) : Src (w.alloc (.cells cs.toArray t)) (some ⟨w.heap.size, 0, none⟩) cs := .inr ⟨_, rfl, fun j u hj => by
  have hb := Blk.new w t cs.toArray
  rw [addr_off, Nat.zero_add, hb.cell, List.getElem?_toArray]
  exact hj⟩
end
/-- shafts as they are made -/
def SsOk (ss : List Sh) : Prop := ∀ j, j < ss.length → (-1 ≤ (ss[j]?.getD default).up ∧ (ss[j]?.getD default).up < j) ∧ (0 ≤ (ss[j]?.getD default).price ∧ (ss[j]?.getD default).price ≤ 20)
/-- a weaver as it is made -/
def WvOk (n : Nat) (x : Wv) : Prop := (0 ≤ x.shaft ∧ x.shaft < n) ∧ (∀ h, h ∈ x.hours → 0 ≤ h ∧ h ≤ 11) ∧ x.hours.Pairwise (· < ·)
def MadeOk (m : PM) : Prop := POk m ∧ ∀ k, k < m.wvs.length → ∀ h, h ∈ (m.wv k).hours → h ≤ 11
end Go.Proofs.Pet

namespace Go.Proofs.Pet
open Go Go.RowKit Go.Maps Go.Shelf
open Go.Proofs.Pow (PM Sh Wv POk Up)

/-- what law7's cost has summed up when it has seen the spots of a list -/
def lsum (m : PM) (g : List Int) (L : List (Nat × Nat)) : Int := (L.map fun x => if g.any (fun k => Pow.usesB m x.1 x.2 k.toNat) then (m.sh x.1).price else 0).sum
/-- weavers -/
def InW (m : PM) (g : List Int) : Prop := ∀ x, x ∈ g → 0 ≤ x ∧ x < m.wvs.length
end Go.Proofs.Pet
