/-
  The reference's Proof and Prove, walked.
-/
import Derived.Test.YtjlglbhafopomaaGreatPG3
namespace Go.Proofs.Pet
set_option linter.unusedSimpArgs false
open Go Go.RowKit Go.Maps Go.Shelf
open Go.Proofs.Pow (PM Sh Wv POk Up sightF clrB bitsL proofR mostR)

/-- what the reference asks of one shaft of the line L and the weaver b -/
def shB (m : PM) (s : Nat → Int) (b : Nat) (x : Int) : Bool := clrB m s x.toNat || !(m.line (m.wv b).shaft).contains x
def prB (m : PM) (s : Nat → Int) (a b : Nat) : Bool := (m.line (m.wv a).shaft).all (shB m s b)
def rwB (m : PM) (s : Nat → Int) (l : List Nat) (i : Nat) : Bool := decide (s (l[i]?.getD 0) = 2) && (List.range i).all fun k => prB m s (l[i]?.getD 0) (l[k]?.getD 0)
theorem proofR_rw (m : PM) (s : Nat → Int) (l : List Nat) : proofR m s l = (List.range l.length).all (rwB m s l) := rfl
theorem proofR_false {m : PM} {s : Nat → Int} {l : List Nat} {i : Nat} (hi : i < l.length) (h : rwB m s l i = false) : proofR m s l = false := by
  rw [proofR_rw, List.all_eq_false]
  exact ⟨i, List.mem_range.2 hi, by simp [h]⟩
theorem proofR_true {m : PM} {s : Nat → Int} {l : List Nat} (h : ∀ i, i < l.length → rwB m s l i = true) : proofR m s l = true := by
  rw [proofR_rw]
  exact List.all_eq_true.2 fun i hi => h i (List.mem_range.1 hi)
theorem rwB_two {m : PM} {s : Nat → Int} {l : List Nat} {i : Nat} (h : s (l[i]?.getD 0) ≠ 2) : rwB m s l i = false := by
  unfold rwB; rw [decide_eq_false h]; rfl
theorem rwB_pair {m : PM} {s : Nat → Int} {l : List Nat} {i k : Nat} (hk : k < i) (h : prB m s (l[i]?.getD 0) (l[k]?.getD 0) = false) : rwB m s l i = false := by
  unfold rwB
  have : ((List.range i).all fun k => prB m s (l[i]?.getD 0) (l[k]?.getD 0)) = false := by
    rw [List.all_eq_false]
    exact ⟨k, List.mem_range.2 hk, by simp [h]⟩
  rw [this, Bool.and_false]
theorem rwB_true {m : PM} {s : Nat → Int} {l : List Nat} {i : Nat} (h2 : s (l[i]?.getD 0) = 2) (h : ∀ k, k < i → prB m s (l[i]?.getD 0) (l[k]?.getD 0) = true) : rwB m s l i = true := by
  unfold rwB
  rw [decide_eq_true h2, List.all_eq_true.2 fun k hk => h k (List.mem_range.1 hk)]
  rfl
theorem clr_line {m : PM} (hm : POk m) (l : List Int) {k : Nat} (hk : k < m.wvs.length) {x : Int} (hx : x ∈ m.line (m.wv k).shaft) : (clrL m l m.shafts.length).contains x = clrB m (sightF l) x.toNat := by
  have ha := hm.at_ k hk
  obtain ⟨z, hz⟩ : ∃ z : Nat, (m.wv k).shaft = z := ⟨_, (Int.toNat_of_nonneg ha.1).symm⟩
  rw [hz] at hx
  have hb := Pow.line_mem m hm.up z (by omega) x hx
  obtain ⟨y, rfl⟩ : ∃ y : Nat, x = y := ⟨x.toNat, by omega⟩
  rw [Int.toNat_natCast, Bool.eq_iff_iff, List.contains_iff_mem]
  unfold clrL ints
  simp only [List.mem_map, List.mem_filter, List.mem_range]
  constructor
  · rintro ⟨a, ⟨h1, h2⟩, h3⟩
    obtain rfl : a = y := by omega
    exact h2
  · exact fun h => ⟨y, ⟨by omega, h⟩, rfl⟩
theorem all_take_succ {L : List Int} {p : Int → Bool} {k : Nat} (hk : k < L.length) : (L.take (k + 1)).all p = ((L.take k).all p && p (L[k]?.getD 0)) := by
  rw [List.take_succ_eq_append_getElem hk, List.all_append]
  simp [hk]
set_option maxRecDepth 20000 in
set_option maxHeartbeats 4000000 in
theorem proof7_any (v : Value) (m : PM) (hm : POk m) (A : Option Addr) (c n : Nat) (l : List Int) (hn : l.length = n) (hnw : n = m.wvs.length) (B : Option Addr) (d n2 : Nat) (g : List Nat) (hg : (ints g).length = n2) (hg2 : n2 ≤ 1000) (hgw : ∀ x, x ∈ g → x < m.wvs.length) (q : Bool) (hq : proofR m (sightF l) g = q) (w : World) (hv : PMVal w v m) (hx : IntsAt w A l) (hy : IntsAt w B (ints g)) :
    Calls Tryz.prog 64 #[v, .slice A n c, .slice B n2 d] w fun e w' => e = .returned (.bool q) ∧ Ext w w' := by
  have Hv := Lib.hid hv
  have hgl : g.length = n2 := by rw [← hg]; unfold ints; rw [List.length_map]
  have Hn := Lib.hid hn; have Hnw := Lib.hid hnw; have Hg := Lib.hid hg; have Hgl := Lib.hid hgl; have Hqq := Lib.hid hq; have Hgw := Lib.hid hgw
  have hfew := hm.few; have hsz9 := hm.sz
  have hn6 : n ≤ 6 := by omega
  obtain ⟨A1, c1, A2, c2, rfl, -, -, -, -, -, -⟩ := hv
  have hE := Ext.alloc w (.cells #[.slice A1 m.shafts.length c1, .slice A2 m.wvs.length c2] 54)
  have HM := Lib.hid (Blk.new w 54 #[.slice A1 m.shafts.length c1, .slice A2 m.wvs.length c2])
  have HX := Lib.hid (hx.ext hE)
  have HY := Lib.hid (hy.ext hE)
  have HV := Lib.hid (Hv.out.ext hE)
  have Hm := Lib.hid hm
  have hcl := Lib.hid (cleared7_any _ m hm A c n l hn hnw _ HV.out HX.out)
  obtain ⟨k0, k1⟩ := HM.out.c2
  clear hx hy hn hnw hm Hv hg hq hgl hgw
  go_enter Tryz.func64, Tryz.ntmps64
  go_wp2_with fail
  generalize w.alloc _ = W0 at *
  refine hcl.out.mono ?_
  rintro e wB ⟨uC, rfl, hOC, heW⟩
  obtain ⟨AC, cC, rfl⟩ := ownsRow_slice hOC
  obtain ⟨C, hC⟩ : ∃ C, clrL m l m.shafts.length = C := ⟨_, rfl⟩
  have Hcl : Hid (∀ k, k < m.wvs.length → ∀ x, x ∈ m.line (m.wv k).shaft → C.contains x = clrB m (sightF l) x.toNat) := fun k hk x hx => by rw [← hC]; exact clr_line Hm.out l hk hx
  have hCn9 : C.length ≤ 9 := by rw [← hC]; exact Nat.le_trans (clrL_len m l _) hsz9.2
  rw [hC] at hOC ⊢
  have HC := Lib.hid hOC.sl.ints
  obtain ⟨Cn, hCn⟩ : ∃ Cn, C.length = Cn := ⟨_, rfl⟩
  rw [hCn] at hCn9 ⊢
  have HCn := Lib.hid hCn
  have HM2 := Lib.hid (HM.out.ext heW); have HX2 := Lib.hid (HX.out.ext heW); have HY2 := Lib.hid (HY.out.ext heW); have HV2 := Lib.hid (HV.out.ext heW)
  have hE2 := hE.trans heW
  clear hcl k0 k1 hC hOC hCn HM HX HY HV hE heW
  go_wp2_with fail
  go_loopw [8] (fun i wr => ∃ k : Nat, k ≤ n2 ∧ i = .int .i64 k ∧ Hid (∀ j, j < k → rwB m (sightF l) g j = true) ∧ Ext wB wr) (fun i _ => n2 - (intOf i).toNat)
  case atStart => exact ⟨0, by omega, rfl, fun j hj => absurd hj (by omega), Ext.refl _⟩
  case round =>
    obtain ⟨i, hi, rfl, hok, heo⟩ := hrel
    by_cases hlt : i < n2
    · obtain ⟨wo, rfl⟩ : ∃ z, z = wr := ⟨_, rfl⟩
      have hil : Hid (i < g.length) := by rw [Hgl.out]; exact hlt
      have hil2 : Hid (i < (ints g).length) := by rw [Hg.out]; exact hlt
      have hd : decide ((i : Int) < (n2 : Int)) = true := decide_eq_true (by omega)
      have hd' : decide (i < n2) = true := decide_eq_true hlt
      obtain ⟨b, o, rfl, l1⟩ := HY2.out.ext heo i hil2.out
      obtain ⟨a, ha⟩ : ∃ a, g[i]?.getD 0 = a := ⟨_, rfl⟩
      rw [ints_get g hil.out, ha] at l1
      have haw : a < m.wvs.length := Hgw.out a (by rw [← ha]; simp [hil.out])
      have haw2 : a < n := by rw [Hnw.out]; exact haw
      have hal : Hid (a < l.length) := by rw [Hn.out]; exact haw2
      obtain ⟨b2, o2, rfl, q1⟩ := HX2.out.ext heo a hal.out
      obtain ⟨y, hy⟩ : ∃ y, l[a]?.getD 0 = y := ⟨_, rfl⟩
      have hsk : sightF l a = y := hy
      rw [hy] at q1
      have Hsk := Lib.hid hsk; have Ha := Lib.hid ha
      have hbad : Hid (rwB m (sightF l) g i = false → q = false) := fun h => by rw [← Hqq.out]; exact proofR_false hil.out h
      clear ha hy hsk
      by_cases h2 : y = 2
      · have hb : (y != 2) = false := by rw [h2]; rfl
        have Hy2 := Lib.hid h2
        have Hln := Lib.hid (fun W' (hW : Ext wo W') => line7_any _ m Hm.out a haw W' (HV2.out.ext (heo.trans hW)))
        obtain ⟨k0, k1⟩ := (HM2.out.ext heo).c2
        clear h2
        go_upto_region 7 with fail
        clear q1 hb
        refine wp_region_chain 6 [(5, true)] [] (by kernel_rfl) (by kernel_rfl) (by kernel_rfl) ?_
        simp only [List.take, List.drop, fill, Act.put, List.setIfInBounds_toArray, List.set_cons_zero, List.set_cons_succ, Nat.reduceAdd]
        repeat (first
          | refine Floats.mut rfl ?_
          | (apply Floats.float rfl
             · intro x W he hd K Q hK
               try (have he := he (by decide); have k0 := he.cell k0; have k1 := he.cell k1; have l1 := he.cell l1)
               try simp only [edges, DepsE, List.filter_cons, List.filter_nil, Region.binds, if_true, and_true, true_and, upd, Nat.reduceEqDiff, if_false] at hd
               try simp only [hd] at hK ⊢
               have HK := Lib.hid hK; clear hK
               go_wp2_with fail
               exact HK.out))
        refine Floats.done fun W he hG => ?_
        refine Chain.cons _ rfl ?_
        intro x hd K Q hK
        try simp only [edges, DepsE, List.filter_cons, List.filter_nil, Region.binds, if_true, and_true, true_and, upd, Nat.reduceEqDiff, if_false] at hd
        try simp only [hd] at hK ⊢
        clear hd
        have HK := Lib.hid hK; clear hK
        go_wp2_with fail
        refine (Hln.out W he).mono ?_
        rintro e w7 ⟨uL, rfl, hOL, he7⟩
        have heA := he.trans he7
        obtain ⟨AL, cL, rfl⟩ := ownsRow_slice hOL
        obtain ⟨L, hL⟩ : ∃ L, m.line (m.wv a).shaft = L := ⟨_, rfl⟩
        have Hlm : Hid (∀ x, x ∈ L → C.contains x = clrB m (sightF l) x.toNat) := fun x hx => Hcl.out a haw x (by rw [hL]; exact hx)
        have Hpr : Hid (∀ b, prB m (sightF l) a b = L.all (shB m (sightF l) b)) := fun b => by unfold prB; rw [hL]
        have hLm := hOL.sl.len_le
        unfold maxLen at hLm
        rw [hL] at hOL hLm ⊢
        have HL := Lib.hid hOL.sl.ints
        obtain ⟨Ln, hLn⟩ : ∃ Ln, L.length = Ln := ⟨_, rfl⟩
        rw [hLn] at hLm ⊢
        have HLn := Lib.hid hLn
        clear hL hOL hLn Hln
        go_wp2_with fail
        refine HK.out _ _ (fun _ => heA) ?_
        clear HK
        refine Chain.nil ?_
        simp only [upd, Nat.reduceEqDiff, if_false, if_true]
        clear k0 k1 l1 he
        go_wp2_with fail
        go_loopw [10] (fun kv wr => ∃ k : Nat, k ≤ i ∧ kv = .int .i64 k ∧ Hid (∀ j, j < k → prB m (sightF l) a (g[j]?.getD 0) = true) ∧ Ext w7 wr) (fun kv _ => i - (intOf kv).toNat)
        case atStart => exact ⟨0, by omega, rfl, fun j hj => absurd hj (by omega), Ext.refl _⟩
        case round =>
          obtain ⟨k, hk, rfl, hpr, hek⟩ := hrel
          by_cases hlk : k < i
          · obtain ⟨wk, rfl⟩ : ∃ z, z = wr := ⟨_, rfl⟩
            have hkl : Hid (k < g.length) := by unfold Hid; rw [Hgl.out]; omega
            have hkl2 : Hid (k < (ints g).length) := by unfold Hid; rw [Hg.out]; omega
            have hd9 : decide ((k : Int) < (i : Int)) = true := decide_eq_true (by omega)
            have hd9' : decide (k < i) = true := decide_eq_true hlk
            obtain ⟨a2, ha2⟩ : ∃ a2, g[k]?.getD 0 = a2 := ⟨_, rfl⟩
            have ha2w : a2 < m.wvs.length := Hgw.out a2 (by rw [← ha2]; simp [hkl.out])
            have Ha2 := Lib.hid ha2
            clear ha2
            go_wp2_with fail
            go_loopw [11] (fun jv wr => ∃ j : Nat, j ≤ Ln ∧ jv = .int .i64 j ∧ Hid ((L.take j).all (shB m (sightF l) a2) = true) ∧ Ext wk wr) (fun jv _ => Ln - (intOf jv).toNat)
            case atStart => exact ⟨0, by omega, rfl, rfl, Ext.refl _⟩
            case round =>
              obtain ⟨j, hj, rfl, hsh, hej⟩ := hrel
              have heR := heo.trans (heA.trans (hek.trans hej))
              by_cases hlj : j < Ln
              · have hjl : Hid (j < L.length) := by rw [HLn.out]; exact hlj
                obtain ⟨b5, o5, e5, z1⟩ := HY2.out.ext heR k hkl2.out
                cases e5
                rw [ints_get g hkl.out, Ha2.out] at z1
                obtain ⟨b6, o6, rfl, z2⟩ := HL.out.ext (hek.trans hej) j hjl.out
                obtain ⟨x, hx⟩ : ∃ x, L[j]?.getD 0 = x := ⟨_, rfl⟩
                have hsc := all_take_succ (p := shB m (sightF l) a2) hjl.out
                rw [hx, hsh.out, Bool.true_and] at hsc
                rw [hx] at z2
                obtain ⟨qc, hqc⟩ : ∃ qc, C.contains x = qc := ⟨_, rfl⟩
                obtain ⟨L2, hL2⟩ : ∃ L2, m.line (m.wv a2).shaft = L2 := ⟨_, rfl⟩
                obtain ⟨qd, hqd⟩ : ∃ qd, L2.contains x = qd := ⟨_, rfl⟩
                have hshx : shB m (sightF l) a2 x = (qc || !qd) := by
                  unfold shB
                  rw [← Hlm.out x (by rw [← hx]; simp [hjl.out]), hqc, hL2, hqd]
                rw [hshx] at hsc
                have Hsc := Lib.hid hsc
                have Hh1 := Lib.hid (fun W' (hW : Ext wr W') => has_any x AC cC Cn C HCn.out qc hqc W' (by unfold maxLen; omega) (HC.out.ext (heR.trans hW)))
                have Hln2 := Lib.hid (fun W' (hW : Ext wr W') => line7_any _ m Hm.out a2 ha2w W' (HV2.out.ext (heR.trans hW)))
                rw [hL2] at Hln2
                have Hh2 : Hid (∀ W' A4 c4, L2.length ≤ maxLen → IntsAt W' A4 L2 → Calls Tryz.prog 110 #[.slice A4 L2.length c4, .int .i64 x] W' fun e w' => e = .returned (.bool qd) ∧ W' = w') := fun W' A4 c4 hl4 h4 => has_any x A4 c4 L2.length L2 rfl qd hqd W' hl4 h4
                have Hrw : Hid ((qc || !qd) = false → q = false) := fun h => hbad.out (rwB_pair hlk (by
                  rw [Ha.out, Ha2.out, Hpr.out, List.all_eq_false]
                  exact ⟨x, by rw [← hx]; simp [hjl.out], by rw [hshx, h]; decide⟩))
                obtain ⟨k0, k1⟩ := (HM2.out.ext heR).c2
                clear hx hsc hqc hL2 hqd hshx hsh hjl
                cases qc with
                | true =>
                  clear Hrw Hln2 Hh2
                  go_upto_region 14 with fail
                  refine wp_region_tree 19 [(5, true), (13, true), (18, true)] [] (by kernel_rfl) (by kernel_rfl) (by kernel_rfl) (ds := [0, 1, 2, 3, 4]) (by kernel_rfl) ?_
                  simp only [List.take, List.drop, fill, Act.put, List.setIfInBounds_toArray, List.set_cons_zero, List.set_cons_succ, Nat.reduceAdd]
                  repeat (first
                    | (apply Unlock.float rfl
                       · intro x W he hd K Qr hK
                         try (have he := he (by decide); have k0 := he.cell k0; have k1 := he.cell k1; have z1 := he.cell z1; have z2 := he.cell z2)
                         try simp only [edges, DepsE, List.filter_cons, List.filter_nil, Region.binds, if_true, and_true, true_and, upd, Nat.reduceEqDiff, if_false] at hd
                         try simp only [hd] at hK ⊢
                         have HK := Lib.hid hK; clear hK
                         go_wp2_with fail
                         exact HK.out))
                  refine Unlock.nil ?_
                  intro W he hG
                  refine Tree.next (ks := [(5, true)]) (by kernel_rfl) ?_
                  refine TSteps.cons _ rfl ?_ trivial
                  intro x hd K Qr hK
                  try simp only [edges, DepsE, List.filter_cons, List.filter_nil, Region.binds, if_true, and_true, true_and, upd, Nat.reduceEqDiff, if_false] at hd
                  try simp only [hd] at hK ⊢
                  clear hd
                  have HK := Lib.hid hK; clear hK
                  go_wp2_with fail
                  refine (Hh1.out W he).mono ?_
                  rintro e w9 ⟨rfl, rfl⟩
                  go_wp2_with fail
                  refine HK.out _ _ (fun _ => he) ?_
                  clear HK
                  refine Unlock.of (ds := [6, 7, 8, 9, 10, 11, 12, 14, 15, 16, 17]) (by kernel_rfl) ?_
                  repeat (first
                    | (apply Unlock.float rfl
                       · intro x W he hd K Qr hK
                         try (have he := he (by decide); skip)
                         try simp only [edges, DepsE, List.filter_cons, List.filter_nil, Region.binds, if_true, and_true, true_and, upd, Nat.reduceEqDiff, if_false] at hd
                         try simp only [hd] at hK ⊢
                         have HK := Lib.hid hK; clear hK
                         go_wp2_with fail
                         exact HK.out))
                  refine Unlock.nil ?_
                  refine Tree.next (ks := [(13, true)]) (by kernel_rfl) ?_
                  refine TSteps.cons _ rfl ?_ trivial
                  intro x hd K Qr hK
                  try simp only [edges, DepsE, List.filter_cons, List.filter_nil, Region.binds, if_true, and_true, true_and, upd, Nat.reduceEqDiff, if_false] at hd
                  try simp only [hd] at hK ⊢
                  clear hd
                  have HK := Lib.hid hK; clear hK
                  go_wp2_with fail
                  refine HK.out _ _ (fun _ => he) ?_
                  clear HK
                  refine Unlock.of (ds := []) (by kernel_rfl) ?_
                  repeat (first
                    | (apply Unlock.float rfl
                       · intro x W he hd K Qr hK
                         try (have he := he (by decide); skip)
                         try simp only [edges, DepsE, List.filter_cons, List.filter_nil, Region.binds, if_true, and_true, true_and, upd, Nat.reduceEqDiff, if_false] at hd
                         try simp only [hd] at hK ⊢
                         have HK := Lib.hid hK; clear hK
                         go_wp2_with fail
                         exact HK.out))
                  refine Unlock.nil ?_
                  refine Tree.next (ks := [(18, true)]) (by kernel_rfl) ?_
                  refine TSteps.cons _ rfl ?_ trivial
                  intro x hd K Qr hK
                  try simp only [edges, DepsE, List.filter_cons, List.filter_nil, Region.binds, if_true, and_true, true_and, upd, Nat.reduceEqDiff, if_false] at hd
                  try simp only [hd] at hK ⊢
                  clear hd
                  have HK := Lib.hid hK; clear hK
                  go_wp2_with fail
                  refine HK.out _ _ (fun _ => he) ?_
                  clear HK
                  refine Tree.nil (by kernel_rfl) ?_
                  simp only [upd, Nat.reduceEqDiff, if_false, if_true]
                  go_wp2_with fail
                  go_roundw
                  case rel => exact ⟨j + 1, by omega, by go_num, Hsc.out, hej.trans he⟩
                  case measure => simp [intOf]; omega
                | false =>
                  go_upto_region 14 with fail
                  refine wp_region_tree 19 [(5, true), (13, true), (18, true)] [] (by kernel_rfl) (by kernel_rfl) (by kernel_rfl) (ds := [0, 1, 2, 3, 4]) (by kernel_rfl) ?_
                  simp only [List.take, List.drop, fill, Act.put, List.setIfInBounds_toArray, List.set_cons_zero, List.set_cons_succ, Nat.reduceAdd]
                  repeat (first
                    | (apply Unlock.float rfl
                       · intro x W he hd K Qr hK
                         try (have he := he (by decide); have k0 := he.cell k0; have k1 := he.cell k1; have z1 := he.cell z1; have z2 := he.cell z2)
                         try simp only [edges, DepsE, List.filter_cons, List.filter_nil, Region.binds, if_true, and_true, true_and, upd, Nat.reduceEqDiff, if_false] at hd
                         try simp only [hd] at hK ⊢
                         have HK := Lib.hid hK; clear hK
                         go_wp2_with fail
                         exact HK.out))
                  refine Unlock.nil ?_
                  intro W he hG
                  refine Tree.next (ks := [(5, true)]) (by kernel_rfl) ?_
                  refine TSteps.cons _ rfl ?_ trivial
                  intro x hd K Qr hK
                  try simp only [edges, DepsE, List.filter_cons, List.filter_nil, Region.binds, if_true, and_true, true_and, upd, Nat.reduceEqDiff, if_false] at hd
                  try simp only [hd] at hK ⊢
                  clear hd
                  have HK := Lib.hid hK; clear hK
                  go_wp2_with fail
                  refine (Hh1.out W he).mono ?_
                  rintro e w9 ⟨rfl, rfl⟩
                  go_wp2_with fail
                  refine HK.out _ _ (fun _ => he) ?_
                  clear HK
                  refine Unlock.of (ds := [6, 7, 8, 9, 10, 11, 12, 14, 15, 16, 17]) (by kernel_rfl) ?_
                  repeat (first
                    | (apply Unlock.float rfl
                       · intro x W he hd K Qr hK
                         try (have he := he (by decide); have k0 := he.cell k0; have k1 := he.cell k1; have z1 := he.cell z1; have z2 := he.cell z2)
                         try simp only [edges, DepsE, List.filter_cons, List.filter_nil, Region.binds, if_true, and_true, true_and, upd, Nat.reduceEqDiff, if_false] at hd
                         try simp only [hd] at hK ⊢
                         have HK := Lib.hid hK; clear hK
                         go_wp2_with fail
                         exact HK.out))
                  refine Unlock.nil ?_
                  refine Tree.next (ks := [(13, true)]) (by kernel_rfl) ?_
                  refine TSteps.cons _ rfl ?_ trivial
                  intro x hd K Qr hK
                  try simp only [edges, DepsE, List.filter_cons, List.filter_nil, Region.binds, if_true, and_true, true_and, upd, Nat.reduceEqDiff, if_false] at hd
                  try simp only [hd] at hK ⊢
                  clear hd
                  have HK := Lib.hid hK; clear hK
                  go_wp2_with fail
                  refine (Hln2.out W he).mono ?_
                  rintro e w9 ⟨u9, rfl, hO9, he9⟩
                  obtain ⟨A9, c9, rfl⟩ := ownsRow_slice hO9
                  have heQ := he.trans he9
                  have hI9 := Lib.hid (Hh2.out w9 A9 c9 hO9.sl.len_le hO9.sl.ints)
                  clear hO9
                  go_wp2_with fail
                  refine HK.out _ _ (fun _ => heQ) ?_
                  clear HK
                  refine Unlock.of (ds := []) (by kernel_rfl) ?_
                  repeat (first
                    | (apply Unlock.float rfl
                       · intro x W he hd K Qr hK
                         try (have he := he (by decide); skip)
                         try simp only [edges, DepsE, List.filter_cons, List.filter_nil, Region.binds, if_true, and_true, true_and, upd, Nat.reduceEqDiff, if_false] at hd
                         try simp only [hd] at hK ⊢
                         have HK := Lib.hid hK; clear hK
                         go_wp2_with fail
                         exact HK.out))
                  refine Unlock.nil ?_
                  refine Tree.next (ks := [(18, true)]) (by kernel_rfl) ?_
                  refine TSteps.cons _ rfl ?_ trivial
                  intro x hd K Qr hK
                  try simp only [edges, DepsE, List.filter_cons, List.filter_nil, Region.binds, if_true, and_true, true_and, upd, Nat.reduceEqDiff, if_false] at hd
                  try simp only [hd] at hK ⊢
                  clear hd
                  have HK := Lib.hid hK; clear hK
                  go_wp2_with fail
                  refine hI9.out.mono ?_
                  rintro e w5 ⟨rfl, rfl⟩
                  go_wp2_with fail
                  refine HK.out _ _ (fun _ => heQ) ?_
                  clear HK hI9
                  cases qd with
                  | true =>
                    have hqf := Hrw.out rfl
                    subst hqf
                    clear Hrw hbad
                    refine Tree.nil (by kernel_rfl) ?_
                    simp only [upd, Nat.reduceEqDiff, if_false, if_true]
                    go_wp2_with fail
                    go_ret
                    exact ⟨rfl, hE2.trans (heR.trans heQ)⟩
                  | false =>
                    refine Tree.nil (by kernel_rfl) ?_
                    simp only [upd, Nat.reduceEqDiff, if_false, if_true]
                    go_wp2_with fail
                    go_roundw
                    case rel => exact ⟨j + 1, by omega, by go_num, Hsc.out, hej.trans heQ⟩
                    case measure => simp [intOf]; omega
              · obtain rfl : j = Ln := by omega
                have hfull : Hid (prB m (sightF l) a a2 = true) := by
                  unfold Hid
                  rw [Hpr.out]
                  have := hsh.out
                  rwa [List.take_of_length_le (by rw [HLn.out]; omega)] at this
                clear hsh
                go_wp2_with fail
                go_roundw
                case rel =>
                  refine ⟨k + 1, by omega, by go_num, fun j' hj' => ?_, hek.trans hej⟩
                  by_cases e : j' = k
                  · subst e; rw [Ha2.out]; exact hfull.out
                  · exact hpr.out j' (by omega)
                case measure => simp [intOf]; omega
          · obtain rfl : k = i := by omega
            clear hlk
            go_wp2_with fail
            go_roundw
            case rel =>
              refine ⟨k + 1, by omega, by go_num, fun j' hj' => ?_, heo.trans (heA.trans hek)⟩
              by_cases e : j' = k
              · subst e; exact rwB_true (by rw [Ha.out, Hsk.out]; exact Hy2.out) fun t ht => by rw [Ha.out]; exact hpr.out t ht
              · exact hok.out j' (by omega)
            case measure => simp [intOf]; omega
      · have hb : (y != 2) = true := bne_iff_ne.2 h2
        have hqf := hbad.out (rwB_two (by rw [Ha.out, Hsk.out]; exact h2))
        subst hqf
        clear h2 hbad hok
        go_wp2_with fail
        go_ret
        exact ⟨rfl, hE2.trans heo⟩
    · have hqt : q = true := by
        rw [← Hqq.out]
        exact proofR_true fun j hj => hok.out j (by rw [Hgl.out] at hj; omega)
      subst hqt
      clear hok
      go_wp2_with fail
      go_ret
      exact ⟨rfl, hE2.trans heo⟩
theorem most_len (n : Nat) (p : List Nat → Bool) : ∀ s, (mostR n p s).length ≤ n
  | 0 => Nat.zero_le _
  | s + 1 => by
    unfold mostR
    split
    · exact bits_len n s
    · exact most_len n p s
set_option maxRecDepth 20000 in
set_option maxHeartbeats 4000000 in
theorem prove7_any (v : Value) (m : PM) (hm : POk m) (A : Option Addr) (c n : Nat) (l : List Int) (hn : l.length = n) (hnw : n = m.wvs.length) (w : World) (hv : PMVal w v m) (hx : IntsAt w A l) :
    Calls Tryz.prog 62 #[v, .slice A n c] w fun e w' => ∃ u, e = .returned u ∧ OwnI w' w.heap.size 3 u (ints (mostR m.wvs.length (proofR m (sightF l)) (2 ^ m.wvs.length))) ∧ Ext w w' := by
  rw [← pw_pow]
  have Hv := Lib.hid hv
  have hfew := hm.few; have hsz9 := hm.sz
  have hn6 : n ≤ 6 := by omega
  obtain ⟨A1, c1, A2, c2, rfl, -, -, -, -, -, -⟩ := hv
  have hE := Ext.alloc w (.cells #[.slice A1 m.shafts.length c1, .slice A2 m.wvs.length c2] 54)
  have HM := Lib.hid (Blk.new w 54 #[.slice A1 m.shafts.length c1, .slice A2 m.wvs.length c2])
  have HX := Lib.hid (hx.ext hE)
  have HV := Lib.hid (Hv.out.ext hE)
  have hszE := hE.size
  obtain ⟨p, hp⟩ : ∃ p, proofR m (sightF l) = p := ⟨_, rfl⟩
  obtain ⟨S, hS⟩ : ∃ S, m.wvs.length = S := ⟨_, rfl⟩
  have Hpf := Lib.hid (fun (t : Nat) (B : Option Addr) (d n2 : Nat) (hg : (ints (bitsL S t)).length = n2) (hn2 : n2 ≤ 1000) (q : Bool) (hq : p (bitsL S t) = q) (W : World) (hW : Ext (w.alloc (.cells #[.slice A1 m.shafts.length c1, .slice A2 m.wvs.length c2] 54)) W) (hB : IntsAt W B (ints (bitsL S t))) =>
    proof7_any _ m hm A c n l hn hnw B d n2 _ hg hn2 (fun x hx => by rw [hS]; exact (Pow.mem_bitsL.1 hx).1) q (by rw [hp]; exact hq) W (HV.out.ext hW) (HX.out.ext hW) hB)
  rw [hp, hS]
  rw [hS] at hfew HM hE hszE Hpf HX HV
  clear hx hn hnw hm Hv hp hS
  go_enter Tryz.func62, Tryz.ntmps62
  go_wp2_with fail
  generalize w.alloc _ = W at *
  have hbS := pw_le (k := S) (by omega)
  go_loopw [5, 6] (fun u i wr => ∃ t : Nat, t ≤ pw S ∧ i = .int .i64 t ∧ Hid (OwnI wr W.heap.size 3 u (ints (mostR S p t))) ∧ Ext W wr) (fun _ i _ => pw S - (intOf i).toNat)
  case atStart => exact ⟨0, by omega, rfl, Lib.hid (OwnI.nil _ _ _), Ext.refl _⟩
  case round =>
    obtain ⟨t, ht, rfl, hO, he⟩ := hrel
    obtain ⟨wo, rfl⟩ : ∃ z, z = wr := ⟨_, rfl⟩
    obtain ⟨k0, k1⟩ := (HM.out.ext he).c2
    have hbit := Lib.hid (bit7_any S (by omega) wo)
    by_cases hlt : t < pw S
    · have hd : decide ((t : Int) < ((pw S : Nat) : Int)) = true := decide_eq_true (by omega)
      have hd' : decide (t < pw S) = true := decide_eq_true hlt
      obtain ⟨P, hP⟩ : ∃ P, pw S = P := ⟨_, rfl⟩
      have hli := Lib.hid (list_bits7 (show S ≤ 14 by omega) hlt wo)
      rw [hP] at hbit hd hd' ht hlt hbS
      have HP := Lib.hid hP
      clear hP
      go_wp2_with fail
      refine hbit.out.mono ?_
      rintro e w5 ⟨rfl, rfl⟩
      clear hbit
      go_wp2_with fail
      refine hli.out.mono ?_
      rintro e w6 ⟨uL, rfl, hOL, he6⟩
      obtain ⟨AL, cL, rfl⟩ := ownsRow_slice hOL
      have heA := he.trans he6
      obtain ⟨xn, hxn⟩ : ∃ xn, (ints (bitsL S t)).length = xn := ⟨_, rfl⟩
      have hxn14 : xn ≤ 14 := by
        rw [← hxn]; unfold ints; rw [List.length_map]
        exact Nat.le_trans (bits_len S t) (by omega)
      have hxn2 : (bitsL S t).length = xn := by
        rw [← hxn]; unfold ints; rw [List.length_map]
      obtain ⟨q, hq⟩ : ∃ q, p (bitsL S t) = q := ⟨_, rfl⟩
      have hpf := Lib.hid (Hpf.out t AL cL xn hxn (by omega) q hq w6 heA hOL.sl.ints)
      have HOL := Lib.hid ((hOL.mono he.size : OwnI w6 W.heap.size 3 (.slice AL _ cL) (ints (bitsL S t)))); have Hxn := Lib.hid hxn
      have HL6 := Lib.hid hOL.sl.ints
      have HO6 := Lib.hid (hO.out.ext he6)
      obtain ⟨M0, hM0⟩ : ∃ M0, mostR S p t = M0 := ⟨_, rfl⟩
      have hml : M0.length ≤ S := by rw [← hM0]; exact most_len S p t
      have hs1 : mostR S p (t + 1) = if p (bitsL S t) && (decide ((mostR S p t).length < (bitsL S t).length) || (decide ((bitsL S t).length = (mostR S p t).length) && Pow.before (bitsL S t) (mostR S p t))) then bitsL S t else mostR S p t := rfl
      rw [hq, hM0, hxn2] at hs1
      rw [hM0] at HO6
      obtain ⟨A3, c3, rfl⟩ := ownsRow_slice HO6.out
      obtain ⟨mn, hmn⟩ : ∃ mn, (ints M0).length = mn := ⟨_, rfl⟩
      have hmn2 : M0.length = mn := by rw [← hmn]; unfold ints; rw [List.length_map]
      rw [hmn2] at hs1 hml
      have HM6 := Lib.hid HO6.out.sl.ints
      rw [hmn, hxn]
      have Hs1 := Lib.hid hs1; have Hmn := Lib.hid hmn; have Hmn2 := Lib.hid hmn2; have Hxn2 := Lib.hid hxn2
      clear hli hOL hxn hq hs1 k0 k1 hM0 hO hmn hmn2 hxn2
      obtain ⟨k0, k1⟩ := (HM.out.ext heA).c2
      have hkeep : ∀ W', Ext w6 W' → mostR S p (t + 1) = M0 → Hid (OwnI W' W.heap.size 3 (.slice A3 mn c3) (ints (mostR S p (t + 1)))) := fun W' hW e => by
        unfold Hid
        rw [e, ← Hmn.out]
        have := HO6.out.ext hW
        exact this
      have htake : ∀ W', Ext w6 W' → mostR S p (t + 1) = bitsL S t → Hid (OwnI W' W.heap.size 3 (.slice AL xn cL) (ints (mostR S p (t + 1)))) := fun W' hW e => by
        unfold Hid
        rw [e, ← Hxn.out]
        have := HOL.out.ext hW
        exact this
      have Hkeep := Lib.hid hkeep; have Htake := Lib.hid htake
      clear hkeep htake HOL HO6
      cases q with
      | false =>
        have e9 : mostR S p (t + 1) = M0 := Hs1.out
        have E9 := Lib.hid e9
        clear e9 Hs1
        go_wp2_with fail
        refine hpf.out.mono ?_
        rintro e w7 ⟨rfl, he7⟩
        clear hpf k0 k1
        go_wp2_with fail
        go_roundw
        case rel => exact ⟨t + 1, by rw [HP.out]; omega, by go_num, Hkeep.out _ he7 E9.out, heA.trans he7⟩
        case measure => rw [HP.out]; simp [intOf]; omega
      | true =>
        have hst := Hs1.out
        rw [Bool.true_and] at hst
        rcases Nat.lt_trichotomy mn xn with h | h | h
        · have hd1 : decide ((mn : Int) < (xn : Int)) = true := decide_eq_true (by omega)
          have hd1' : decide (mn < xn) = true := decide_eq_true h
          rw [decide_eq_true h, Bool.true_or, if_pos rfl] at hst
          have E9 := Lib.hid hst
          clear hst Hs1
          go_wp2_with fail
          refine hpf.out.mono ?_
          rintro e w7 ⟨rfl, he7⟩
          clear hpf k0 k1
          go_wp2_with fail
          go_roundw
          case rel => exact ⟨t + 1, by rw [HP.out]; omega, by go_num, Htake.out _ he7 E9.out, heA.trans he7⟩
          case measure => rw [HP.out]; simp [intOf]; omega
        · subst h
          have hd1 : decide ((mn : Int) < (mn : Int)) = false := decide_eq_false (by omega)
          have hd1' : decide (mn < mn) = false := decide_eq_false (by omega)
          have hd2 : ((mn : Int) == (mn : Int)) = true := by simp
          have hd2' : (mn == mn) = true := by simp
          obtain ⟨q3, hq3⟩ : ∃ q3, Pow.before (bitsL S t) M0 = q3 := ⟨_, rfl⟩
          rw [decide_eq_false (Nat.lt_irrefl mn), Bool.false_or, decide_eq_true rfl, Bool.true_and, hq3] at hst
          have E9 := Lib.hid hst
          have Hbf := Lib.hid (fun W' (hW : Ext w6 W') => before7_any AL A3 cL c3 mn mn (bitsL S t) M0 Hxn2.out Hmn2.out q3 hq3 W' ⟨by omega, by omega⟩ (HL6.out.ext hW) (HM6.out.ext hW))
          clear hst Hs1 hq3
          cases q3 with
          | true =>
            go_wp2_with fail
            refine hpf.out.mono ?_
            rintro e w7 ⟨rfl, he7⟩
            clear hpf k0 k1
            go_wp2_with fail
            refine (Hbf.out w7 he7).mono ?_
            rintro e w8 ⟨rfl, he8⟩
            clear Hbf
            go_wp2_with fail
            go_roundw
            case rel => exact ⟨t + 1, by rw [HP.out]; omega, by go_num, Htake.out _ (he7.trans he8) (E9.out.trans (by simp)), heA.trans (he7.trans he8)⟩
            case measure => rw [HP.out]; simp [intOf]; omega
          | false =>
            go_wp2_with fail
            refine hpf.out.mono ?_
            rintro e w7 ⟨rfl, he7⟩
            clear hpf k0 k1
            go_wp2_with fail
            refine (Hbf.out w7 he7).mono ?_
            rintro e w8 ⟨rfl, he8⟩
            clear Hbf
            go_wp2_with fail
            go_roundw
            case rel => exact ⟨t + 1, by rw [HP.out]; omega, by go_num, Hkeep.out _ (he7.trans he8) (E9.out.trans (by simp)), heA.trans (he7.trans he8)⟩
            case measure => rw [HP.out]; simp [intOf]; omega
        · have hd1 : decide ((mn : Int) < (xn : Int)) = false := decide_eq_false (by omega)
          have hd1' : decide (mn < xn) = false := decide_eq_false (by omega)
          have hd2 : ((xn : Int) == (mn : Int)) = false := beq_eq_false_iff_ne.2 (by omega)
          have hd2' : (xn == mn) = false := beq_eq_false_iff_ne.2 (by omega)
          rw [decide_eq_false (show ¬ mn < xn by omega), Bool.false_or, decide_eq_false (show ¬ xn = mn by omega), Bool.false_and, if_neg (by decide)] at hst
          have E9 := Lib.hid hst
          clear hst Hs1
          go_wp2_with fail
          refine hpf.out.mono ?_
          rintro e w7 ⟨rfl, he7⟩
          clear hpf k0 k1
          go_wp2_with fail
          go_roundw
          case rel => exact ⟨t + 1, by rw [HP.out]; omega, by go_num, Hkeep.out _ he7 E9.out, heA.trans he7⟩
          case measure => rw [HP.out]; simp [intOf]; omega
    · have hd : decide ((t : Int) < ((pw S : Nat) : Int)) = false := decide_eq_false (by omega)
      have hd' : decide (t < pw S) = false := decide_eq_false hlt
      obtain rfl : t = pw S := by omega
      obtain ⟨P, hP⟩ : ∃ P, pw S = P := ⟨_, rfl⟩
      rw [hP] at hbit hd hd' hO hbS ⊢
      have HP := Lib.hid hP
      clear hlt hP ht
      go_wp2_with fail
      refine hbit.out.mono ?_
      rintro e w5 ⟨rfl, rfl⟩
      clear hbit
      go_wp2_with fail
      go_ret
      rw [HP.out]
      exact ⟨_, rfl, hO.out.mono hszE, hE.trans he⟩
end Go.Proofs.Pet
