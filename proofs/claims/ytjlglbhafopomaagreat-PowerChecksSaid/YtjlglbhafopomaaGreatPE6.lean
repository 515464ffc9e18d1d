/-
  The reference's Use, walked.
-/
import Derived.Test.YtjlglbhafopomaaGreatPE5
import Derived.Test.YtjlglbhafopomaaGreatPBD
namespace Go.Proofs.Pow
/-- does weaver i use power in the hour t, once k does in h, too -/
def hF (m : PM) (k h i t : Nat) : Bool := (m.wv i).hours.contains (t : Int) || (decide (i = k) && decide (t = h))
def hrsW (m : PM) (k h i t : Nat) : List Int := ((List.range t).filter (hF m k h i)).map fun x : Nat => (x : Int)
def newWv (m : PM) (k h i : Nat) : Wv := { shaft := (m.wv i).shaft, hours := hrsW m k h i 24 }
theorem hrsW_succ (m : PM) (k h i t : Nat) : hrsW m k h i (t + 1) = hrsW m k h i t ++ if hF m k h i t = true then [(t : Int)] else [] := by
  unfold hrsW
  rw [List.range_succ, List.filter_append, List.map_append]
  congr 1
  rw [List.filter_cons]
  split <;> rfl
theorem hrsW_len (m : PM) (k h i t : Nat) : (hrsW m k h i t).length ≤ t := by
  unfold hrsW
  rw [List.length_map]
  exact Nat.le_trans (List.length_filter_le _ _) (by rw [List.length_range]; exact Nat.le_refl _)
theorem hours_bits {l : List Int} (hs : l.Pairwise (· < ·)) (hb : ∀ x, x ∈ l → 0 ≤ x ∧ x ≤ 23) : ((List.range 24).filter fun t : Nat => l.contains (t : Int)).map (fun t : Nat => (t : Int)) = l := by
  have e : (l.map Int.toNat).map (fun t : Nat => (t : Int)) = l := by
    rw [List.map_map]
    conv => rhs; rw [← List.map_id l]
    exact List.map_congr_left fun x hx => by have := hb x hx; simp; omega
  have e2 : ((List.range 24).filter fun t : Nat => l.contains (t : Int)) = l.map Int.toNat := by
    refine sorted_ext ((List.pairwise_lt_range).filter _) ?_ fun x => ?_
    · rw [List.pairwise_map]
      refine List.Pairwise.imp_of_mem (fun {a b} ha hb' hab => ?_) hs
      have := hb a ha; have := hb b hb'
      omega
    · rw [List.mem_filter, List.mem_range, List.contains_iff_mem, List.mem_map]
      constructor
      · rintro ⟨_, h2⟩
        exact ⟨_, h2, by simp⟩
      · rintro ⟨a, ha, rfl⟩
        have := hb a ha
        exact ⟨by omega, by rw [Int.toNat_of_nonneg this.1]; exact ha⟩
  rw [e2]
  exact e
theorem newW_use {m : PM} (hm : POk m) {k h : Nat} (hk : k < m.wvs.length) (hh : h < 24) (hn : (m.wv k).hours.contains (h : Int) = false) : (List.range m.wvs.length).map (newWv m k h) = (useP m k (h : Int)).wvs := by
  have hok := use_ok hm hk hh hn
  have hl := useP_len m k (h : Int)
  show _ = (List.range m.wvs.length).map _
  refine List.map_congr_left fun i hi => ?_
  have hi' := List.mem_range.1 hi
  rw [← useP_wv m k (h : Int) hi']
  have h1 := hours_bits (hok.rise i (by omega)) (hok.hour i (by omega))
  have h2 : (fun t : Nat => ((useP m k (h : Int)).wv i).hours.contains (t : Int)) = hF m k h i := by
    funext t
    rw [useP_wv m k (h : Int) hi']
    unfold hF
    by_cases e : i = k
    · rw [if_pos e]
      subst e
      show (sortL _).contains _ = _
      rw [Bool.eq_iff_iff, Bool.or_eq_true, List.contains_iff_mem, List.contains_iff_mem, (sortL_perm _).mem_iff, List.mem_append, List.mem_singleton]
      simp [Int.natCast_inj]
    · rw [if_neg e]; simp [e]
  rw [h2] at h1
  unfold newWv hrsW
  rw [h1]
  have h3 : ((useP m k (h : Int)).wv i).shaft = (m.wv i).shaft := by rw [useP_wv m k h hi']; split <;> rfl
  rw [← h3]
end Go.Proofs.Pow
namespace Go.Proofs.Pet
open Go Go.RowKit Go.Maps Go.Shelf
open Go.Proofs.Pow (PM Sh Wv POk Up)

def useE7 (m : PM) (k : Nat) (h : Int) : Int := if inB h 0 23 = false then 3 else if (m.wv k).hours.contains h = true then 5 else 0
theorem useE_use7 {m : PM} (hm : POk m) {k : Nat} (hk : k < m.wvs.length) (h : Int) : useE m (k : Int) h = useE7 m k h := by
  have : knownE m (k : Int) = 0 := by
    unfold knownE
    rw [if_neg (by rw [(checkP_iff m).2 hm]; decide), if_neg (by simp [inB_iff.2 (show (0 : Int) ≤ (k : Int) ∧ (k : Int) ≤ m.wvs.length - 1 by omega)])]
  unfold useE useE7
  rw [this, if_neg (by decide)]
  rfl
def OwnWvsT (w : World) (base : Nat) (v : Value) (ys : List Wv) : Prop := ∃ cs, w.ownsRow base 104 2 v ys.length cs ∧ WvF (ownW w base) cs ys
theorem OwnWvsT.ext {w w' : World} {base : Nat} {v : Value} {ys : List Wv} (h : OwnWvsT w base v ys) (he : Ext w w') : OwnWvsT w' base v ys := by
  obtain ⟨cs, h1, h2⟩ := h
  exact ⟨cs, ownsRow_ext2 h1 he, h2.map fun _ _ g => OwnI.ext g he⟩
theorem OwnWvsT.apart {w w' : World} {base b : Nat} {v : Value} {ys : List Wv} (h : OwnWvsT w base v ys) (hb : b < base) (ha : Apart b w w') : OwnWvsT w' base v ys := by
  obtain ⟨cs, h1, h2⟩ := h
  exact ⟨cs, ownsRow_apart h1 (fun e => by have := (ownsRow_own h1 b e).1; omega) ha, h2.map fun _ _ g => OwnI.apartB g hb ha⟩
theorem OwnWvsT.at_ {w : World} {base : Nat} {v : Value} {ys : List Wv} (h : OwnWvsT w base v ys) : ∃ A c, v = .slice A ys.length c ∧ ys.length ≤ c ∧ c ≤ maxLen ∧ WvsAt w A ys := by
  obtain ⟨cs, h1, h2⟩ := h
  exact wvRow_at h1 (h2.map fun _ _ g => OwnI.sl g)
/-- what the reference's Use gives: the same shafts, weavers of the call's own -/
def UsedV (w' : World) (base : Nat) (s1 u : Value) (m : PM) (k : Nat) (h r : Int) : Prop := (r ≠ 0 → u = .agg #[.slice none 0 0, .slice none 0 0]) ∧ (r = 0 → ∃ u2, u = .agg #[s1, u2] ∧ OwnWvsT w' base u2 (Pow.useP m k h).wvs)
set_option maxRecDepth 20000 in
set_option maxHeartbeats 16000000 in
theorem use7_any (s1 s2 : Value) (m : PM) (hm : POk m) (k : Nat) (hk : k < m.wvs.length) (h : Int) (r : Int) (hr : useE7 m k h = r) (w : World) (hv : PMVal w (.agg #[s1, s2]) m) :
    Calls Tryz.prog 39 #[.agg #[s1, s2], .int .i64 (k : Int), .int .i64 h] w fun e w' => ∃ u, e = .returned (.tuple #[u, .int .i64 r]) ∧ UsedV w' w.heap.size s1 u m k h r ∧ Ext w w' := by
  obtain ⟨ti, hi, hz0, hz1, hz2⟩ := info_parts info_int
  obtain ⟨ti2, hi2, hy0, hy1, hy2⟩ := info_parts info_weaver7
  obtain ⟨A1, c1, A2, c2, e, -, -, -, -, -, h7⟩ := hv
  simp only [Value.agg.injEq, Array.mk.injEq, List.cons.injEq, and_true] at e
  obtain ⟨rfl, rfl⟩ := e
  have H7 := Lib.hid h7
  have hE1 : Ext w ((w.alloc (.cells #[.slice A1 m.shafts.length c1, .slice A2 m.wvs.length c2] 54)).alloc (.cells #[.slice none 0 0, .slice none 0 0] 54)) := (Ext.alloc _ _).trans (Ext.alloc _ _)
  have hM1 := (Blk.new w 54 #[.slice A1 m.shafts.length c1, .slice A2 m.wvs.length c2]).alloc (.cells #[.slice none 0 0, .slice none 0 0] 54)
  have hT1 := Blk.new (w.alloc (.cells #[.slice A1 m.shafts.length c1, .slice A2 m.wvs.length c2] 54)) 54 #[.slice none 0 0, .slice none 0 0]
  rw [World.size_alloc] at hT1
  obtain ⟨q, hq⟩ : ∃ q, inB h 0 23 = q := ⟨_, rfl⟩
  have Ho := Lib.hid (fun W => off_any h 0 23 q hq W)
  have Hq := Lib.hid hq; have Hr := Lib.hid hr; have Hm := Lib.hid hm
  have hfew := hm.few
  clear h7 hq hr hm
  go_enter Tryz.func39, Tryz.ntmps39
  go_wp2_with fail
  generalize hw1 : (w.alloc _).alloc _ = w1 at *
  have hsz1 : w1.heap.size = w.heap.size + 2 := by rw [← hw1, World.size_alloc, World.size_alloc]
  have Hsz1 := Lib.hid hsz1
  clear hw1 hsz1
  refine (Ho.out _).mono ?_
  rintro e w5 ⟨rfl, rfl⟩
  clear Ho
  cases q with
  | false =>
    obtain rfl : r = 3 := by rw [← Hr.out]; unfold useE7; simp [Hq.out]
    obtain ⟨y0, y1⟩ := hT1.c2
    have f0 := hT1.frozen 0
    have f1 := hT1.frozen 1
    go_wp2_with fail
    have hR9 : Blk ((w1.setCell ⟨w.heap.size + 1, 0, none⟩ (.slice none 0 0)).setCell ⟨w.heap.size + 1, 1, none⟩ (.slice none 0 0)) (w.heap.size + 1) 54 #[.slice none 0 0, .slice none 0 0] := by simpa using (hT1.set_ 0 (.slice none 0 0)).set_ 1 (.slice none 0 0)
    obtain ⟨z0, z1⟩ := hR9.c2
    have hE9 := Below.setCell (Below.setCell hE1 (p := ⟨w.heap.size + 1, 0, none⟩) (by show _ ≤ w.heap.size + 1; omega) (.slice none 0 0)) (p := ⟨w.heap.size + 1, 1, none⟩) (by show _ ≤ w.heap.size + 1; omega) (.slice none 0 0)
    refine bodyPost_ret (v := .tuple #[.agg #[.slice none 0 0, .slice none 0 0], .int .i64 3]) ?_ rfl ⟨_, rfl, ⟨fun _ => rfl, fun e => absurd e (by decide)⟩, hE9⟩
    simp [results, Tryz.results39, go_sem, z0, z1]
  | true =>
    have hh := inB_iff.1 Hq.out
    obtain ⟨hN, rfl⟩ : ∃ hN : Nat, h = hN := ⟨h.toNat, by omega⟩
    obtain ⟨k0, k1⟩ := hM1.c2
    obtain ⟨b2, o2, rfl, A3, c3, hc3, j1, j2, j3⟩ := H7.out.ext hE1 k hk
    rw [show m.wvs[k]?.getD default = m.wv k from rfl] at hc3 j1 j2 j3
    obtain ⟨q2, hq2⟩ : ∃ q2, (m.wv k).hours.contains (hN : Int) = q2 := ⟨_, rfl⟩
    have Hs := Lib.hid (has_any (hN : Int) A3 c3 (m.wv k).hours.length (m.wv k).hours rfl q2 hq2 w1 (Nat.le_trans hc3.1 hc3.2) j3)
    have Hq2 := Lib.hid hq2
    generalize (m.wv k).hours.length = d at *
    clear hq2 j1 j3 hc3
    go_wp2_with fail
    refine Hs.out.mono ?_
    rintro e w5 ⟨rfl, rfl⟩
    clear Hs
    cases q2 with
    | true =>
      obtain rfl : r = 5 := by rw [← Hr.out]; unfold useE7; simp [Hq.out]; exact List.contains_iff_mem.1 Hq2.out
      obtain ⟨y0, y1⟩ := hT1.c2
      have f0 := hT1.frozen 0
      have f1 := hT1.frozen 1
      go_wp2_with fail
      have hR9 : Blk ((w1.setCell ⟨w.heap.size + 1, 0, none⟩ (.slice none 0 0)).setCell ⟨w.heap.size + 1, 1, none⟩ (.slice none 0 0)) (w.heap.size + 1) 54 #[.slice none 0 0, .slice none 0 0] := by simpa using (hT1.set_ 0 (.slice none 0 0)).set_ 1 (.slice none 0 0)
      obtain ⟨z0, z1⟩ := hR9.c2
      have hE9 := Below.setCell (Below.setCell hE1 (p := ⟨w.heap.size + 1, 0, none⟩) (by show _ ≤ w.heap.size + 1; omega) (.slice none 0 0)) (p := ⟨w.heap.size + 1, 1, none⟩) (by show _ ≤ w.heap.size + 1; omega) (.slice none 0 0)
      refine bodyPost_ret (v := .tuple #[.agg #[.slice none 0 0, .slice none 0 0], .int .i64 5]) ?_ rfl ⟨_, rfl, ⟨fun _ => rfl, fun e => absurd e (by decide)⟩, hE9⟩
      simp [results, Tryz.results39, go_sem, z0, z1]
    | false =>
      obtain rfl : r = 0 := by rw [← Hr.out]; unfold useE7; rw [Hq.out, Hq2.out]; rfl
      have hN24 : hN < 24 := by omega
      have Hnew := Lib.hid (Pow.newW_use Hm.out hk hN24 Hq2.out)
      go_wp2_with fail
      have hE2 := hE1.trans (Ext.alloc w1 (.cells #[.slice A1 m.shafts.length c1, .slice none 0 0] 54))
      have hM2 := hM1.alloc (.cells #[.slice A1 m.shafts.length c1, .slice none 0 0] 54)
      have hT2 := hT1.alloc (.cells #[.slice A1 m.shafts.length c1, .slice none 0 0] 54)
      have hO2 := Blk.new w1 54 #[.slice A1 m.shafts.length c1, .slice none 0 0]
      rw [Hsz1.out] at hO2 ⊢
      clear k0 k1 j2 hE1 hM1 hT1 Hq Hq2 Hr
      generalize w1.alloc _ = W at *
      have hO2' : Blk W (w.heap.size + 2) 54 #[.slice A1 m.shafts.length c1, .slice none 0 0] := hO2
      clear hO2
      go_loopw [9] (fun iv wr => ∃ (i : Nat) (ov : Value) (cs : List Value), i ≤ m.wvs.length ∧ iv = .int .i64 i ∧ Ext w wr ∧ Blk wr w.heap.size 54 #[.slice A1 m.shafts.length c1, .slice (some ⟨b2, o2, none⟩) m.wvs.length c2] ∧
          Blk wr (w.heap.size + 1) 54 #[.slice none 0 0, .slice none 0 0] ∧ Blk wr (w.heap.size + 2) 54 #[.slice A1 m.shafts.length c1, ov] ∧
          Hid (wr.ownsRow (w.heap.size + 3) 104 2 ov i cs) ∧ Hid (WvF (ownW wr (w.heap.size + 3)) cs ((List.range i).map (Pow.newWv m k hN)))) (fun iv _ => m.wvs.length - (intOf iv).toNat)
      case atStart => exact ⟨0, .slice none 0 0, [], by omega, rfl, hE2, hM2, hT2, hO2', World.ownsRow_nil _ _ _ _, trivial⟩
      case round =>
        clear hE2 hM2 hT2 hO2'
        obtain ⟨i, ov, cs, hi', rfl, he, hM, hT, hO, hown, hcs⟩ := hrel
        obtain ⟨wo, rfl⟩ : ∃ z, z = wr := ⟨_, rfl⟩
        obtain ⟨k0, k1⟩ := hM.c2
        have hOlt := hO.lt
        by_cases hlt : i < m.wvs.length
        · obtain ⟨b, o, e', A4, c4, hc4, j1, j2, j3⟩ := H7.out.ext he i hlt
          simp only [Option.some.injEq, Addr.mk.injEq, and_true] at e'
          obtain ⟨rfl, rfl⟩ := e'
          rw [show m.wvs[i]?.getD default = m.wv i from rfl] at hc4 j1 j2 j3
          obtain ⟨sh, hsh⟩ : ∃ sh, (m.wv i).shaft = sh := ⟨_, rfl⟩
          rw [hsh] at j1
          have Hsh := Lib.hid hsh
          have J3 := Lib.hid j3
          have Hc4 := Lib.hid (Nat.le_trans hc4.1 hc4.2)
          obtain ⟨hl, hhl⟩ : ∃ hl, (m.wv i).hours.length = hl := ⟨_, rfl⟩
          rw [hhl] at j2
          have Hhl := Lib.hid hhl
          have hd1 : decide ((i : Int) < (m.wvs.length : Int)) = true := decide_eq_true (by omega)
          have hd2 : decide (i < m.wvs.length) = true := decide_eq_true hlt
          clear hsh hhl j3 hc4
          go_wp2_with fail
          have hB := Blk.new wo 104 #[.int .i64 sh, .slice none 0 0]
          have hX := Ext.alloc wo (.cells #[.int .i64 sh, .slice none 0 0] 104)
          have J2 := Lib.hid j2
          have HM := Lib.hid hM
          have HA4 := Lib.hid (fun W' (hW : Ext wo W') (t : Nat) (q : Bool) (hq : (m.wv i).hours.contains (t : Int) = q) => has_any (t : Int) A4 c4 hl (m.wv i).hours Hhl.out q hq W' (by rw [← Hhl.out]; exact Hc4.out) (J3.out.ext hW))
          clear k0 k1 j1 j2
          generalize hR : wo.alloc _ = R at *
          clear hR
          go_loopw [11] (fun tv wz => ∃ (t : Nat) (hvv : Value), t ≤ 24 ∧ tv = .int .i64 t ∧ Ext wo wz ∧ Blk wz wo.heap.size 104 #[.int .i64 sh, hvv] ∧ Hid (OwnI wz (wo.heap.size + 1) 3 hvv (Pow.hrsW m k hN i t))) (fun tv _ => 24 - (intOf tv).toNat)
          case atStart => exact ⟨0, .slice none 0 0, by omega, rfl, hX, hB, Lib.hid (OwnI.nil _ _ _)⟩
          case round =>
            clear hX hB
            obtain ⟨t, hvv, ht, rfl, hz, hB, hOI⟩ := hrel
            obtain ⟨k0, k1⟩ := (HM.out.ext hz).c2
            have j2 := hz.cell J2.out
            by_cases hlt2 : t < 24
            · obtain ⟨q, hq⟩ : ∃ q, (m.wv i).hours.contains (t : Int) = q := ⟨_, rfl⟩
              have Hs := Lib.hid (HA4.out wr hz t q hq)
              have Hq := Lib.hid hq
              clear hq
              go_wp2_with fail
              refine Hs.out.mono ?_
              rintro e w5 ⟨rfl, rfl⟩
              clear Hs
              cases q with
              | true =>
                have hbF : Pow.hF m k hN i t = true := by unfold Pow.hF; rw [Hq.out]; rfl
                have hsucc := Pow.hrsW_succ m k hN i t
                rw [hbF, if_pos rfl] at hsucc
                have hlen := Pow.hrsW_len m k hN i t
                generalize Pow.hrsW m k hN i t = xs at *
                have hXa := Ext.alloc wr (.cells #[.int .i64 (t : Int)] 3)
                have hsrc := Src.one wr (.int .i64 (t : Int)) 3
                have hOX := hOI.out.ext hXa
                obtain ⟨A5, c5, rfl⟩ := ownsRow_slice hOI.out
                have hBX := hB.ext hXa
                have hBne := Lib.hid (ownsRow_ne_blk hOX hBX (by decide))
                have r1 := hB.c2.2
                have Hsucc := Lib.hid hsucc
                have hzs := hz.size
                have hXs := hXa.size
                clear hsucc hbF
                go_wp2_with (at_builtin; refine wpList_app rfl _ _ 31 rfl (wo.heap.size + 1) 3 ti (.int .i64 0) 1 8 Tryz.underlying31 hi hz0 hz1 hz2 rfl (by decide) (.slice A5 xs.length c5) xs.length _ rfl hOX (some ⟨wr.heap.size, 0, none⟩) 1 1 [.int .i64 (t : Int)] rfl rfl hsrc ?c2 ?c3 ?c4 ?c5 ?_; (case c2 => (intro u hu; rw [List.mem_singleton] at hu; subst hu; rfl)); (case c3 => (unfold maxLen; omega)); (case c4 => omega); (case c5 => (have := hB.lt; omega)); intro v' w5 hown5 hg hblk; obtain ⟨AV, cV, rfl⟩ := ownsRow_slice hown5; have hOw := hBX.grown hg hBne.out; have rW := hOw.c2.2; have fW := hOw.frozen 1)
                go_roundw
                case rel =>
                  refine ⟨t + 1, _, by omega, by go_num, Below.setCell (Below.grown (hz.trans hXa) hg (hz.trans hXa).size (fun j hj => by have := (ownsRow_own hOX j hj).1; omega)) (by show _ ≤ wo.heap.size; omega) _, by simpa using hOw.set_ 1 (.slice AV (xs.length + 1) cV), ?_⟩
                  unfold Hid
                  rw [Hsucc.out]
                  have := ownsRow_apart hown5 (fun e => ownsRow_ne_blk hown5 hOw (by decide) e.symm) ((Apart.refl wo.heap.size w5).set_ 1 (.slice AV (xs.length + 1) cV))
                  unfold OwnI
                  rw [List.length_append, List.map_append]
                  exact this
                case measure => simp [intOf]; omega
              | false =>
                by_cases hik : i = k
                · have hb1 : ((i : Int) == (k : Int)) = true := by simp [hik]
                  by_cases hth : t = hN
                  · have hb2 : ((t : Int) == (hN : Int)) = true := by simp [hth]
                    have hbF : Pow.hF m k hN i t = true := by unfold Pow.hF; simp [hik, hth]
                    clear hik hth
                    have hsucc := Pow.hrsW_succ m k hN i t
                    rw [hbF, if_pos rfl] at hsucc
                    have hlen := Pow.hrsW_len m k hN i t
                    generalize Pow.hrsW m k hN i t = xs at *
                    have hXa := Ext.alloc wr (.cells #[.int .i64 (t : Int)] 3)
                    have hsrc := Src.one wr (.int .i64 (t : Int)) 3
                    have hOX := hOI.out.ext hXa
                    obtain ⟨A5, c5, rfl⟩ := ownsRow_slice hOI.out
                    have hBX := hB.ext hXa
                    have hBne := Lib.hid (ownsRow_ne_blk hOX hBX (by decide))
                    have r1 := hB.c2.2
                    have Hsucc := Lib.hid hsucc
                    have hzs := hz.size
                    have hXs := hXa.size
                    clear hsucc hbF
                    go_wp2_with (at_builtin; refine wpList_app rfl _ _ 31 rfl (wo.heap.size + 1) 3 ti (.int .i64 0) 1 8 Tryz.underlying31 hi hz0 hz1 hz2 rfl (by decide) (.slice A5 xs.length c5) xs.length _ rfl hOX (some ⟨wr.heap.size, 0, none⟩) 1 1 [.int .i64 (t : Int)] rfl rfl hsrc ?c2 ?c3 ?c4 ?c5 ?_; (case c2 => (intro u hu; rw [List.mem_singleton] at hu; subst hu; rfl)); (case c3 => (unfold maxLen; omega)); (case c4 => omega); (case c5 => (have := hB.lt; omega)); intro v' w5 hown5 hg hblk; obtain ⟨AV, cV, rfl⟩ := ownsRow_slice hown5; have hOw := hBX.grown hg hBne.out; have rW := hOw.c2.2; have fW := hOw.frozen 1)
                    go_roundw
                    case rel =>
                      refine ⟨t + 1, _, by omega, by go_num, Below.setCell (Below.grown (hz.trans hXa) hg (hz.trans hXa).size (fun j hj => by have := (ownsRow_own hOX j hj).1; omega)) (by show _ ≤ wo.heap.size; omega) _, by simpa using hOw.set_ 1 (.slice AV (xs.length + 1) cV), ?_⟩
                      unfold Hid
                      rw [Hsucc.out]
                      have := ownsRow_apart hown5 (fun e => ownsRow_ne_blk hown5 hOw (by decide) e.symm) ((Apart.refl wo.heap.size w5).set_ 1 (.slice AV (xs.length + 1) cV))
                      unfold OwnI
                      rw [List.length_append, List.map_append]
                      exact this
                    case measure => simp [intOf]; omega
                  · have hb2 : ((t : Int) == (hN : Int)) = false := by simp; omega
                    have hbF : Pow.hF m k hN i t = false := by unfold Pow.hF; rw [Hq.out]; simp [hth]
                    clear hik hth
                    have hsucc := Pow.hrsW_succ m k hN i t
                    rw [hbF] at hsucc
                    have Hsucc := Lib.hid hsucc
                    clear hsucc hbF
                    go_wp2_with fail
                    go_roundw
                    case rel => exact ⟨t + 1, hvv, by omega, by go_num, hz, hB, Lib.hid (by rw [Hsucc.out]; simpa using hOI.out)⟩
                    case measure => simp [intOf]; omega
                · have hb1 : ((i : Int) == (k : Int)) = false := by simp; omega
                  have hbF : Pow.hF m k hN i t = false := by unfold Pow.hF; rw [Hq.out]; simp [hik]
                  clear hik
                  have hsucc := Pow.hrsW_succ m k hN i t
                  rw [hbF] at hsucc
                  have Hsucc := Lib.hid hsucc
                  clear hsucc hbF
                  go_wp2_with fail
                  go_roundw
                  case rel => exact ⟨t + 1, hvv, by omega, by go_num, hz, hB, Lib.hid (by rw [Hsucc.out]; simpa using hOI.out)⟩
                  case measure => simp [intOf]; omega
            · obtain rfl : t = 24 := by omega
              obtain ⟨q0, q1⟩ := hB.c2
              have r2 := (hO.ext hz).c2.2
              obtain ⟨AO, cO, rfl⟩ := ownsRow_slice hown.out
              obtain ⟨A5, c5, rfl⟩ := ownsRow_slice hOI.out
              generalize hxs : Pow.hrsW m k hN i 24 = xs at *
              have hnw : Hid (Pow.newWv m k hN i = ({ shaft := sh, hours := xs } : Wv)) := by unfold Hid Pow.newWv; rw [Hsh.out, hxs]
              have hX2 := Ext.alloc wr (.cells #[.int .i64 sh, .slice A5 xs.length c5] 104)
              have hrow2 := Lib.hid (ownsRow_ext2 hown.out (hz.trans hX2))
              have hsrc := Lib.hid (Src.listP wr [.int .i64 sh, .slice A5 xs.length c5] 104)
              have hOX := hO.ext (hz.trans hX2)
              have hONe := Lib.hid (ownsRow_ne_blk hrow2.out hOX (by decide))
              have hge : Hid (∀ j, (Value.slice AO i cO).ownBlock = some j → w.heap.size + 3 ≤ j) := fun j hj => (ownsRow_own hown.out j hj).1
              have hews := he.trans (hz.trans hX2)
              have hzs := (hz.trans hX2).size
              clear hxs
              go_wp2_with (at_builtin; refine wpList_app rfl _ _ 52 rfl (w.heap.size + 3) 104 ti2 _ 2 32 Tryz.underlying52 hi2 hy0 hy1 hy2 rfl (by decide) _ _ _ rfl hrow2.out (some ⟨wr.heap.size, 0, none⟩) 1 1 [.int .i64 sh, .slice A5 xs.length c5] rfl rfl hsrc.out ?c2 ?c3 ?c4 ?c5 ?_; (case c2 => (intro u hu; simp only [List.mem_cons, List.not_mem_nil, or_false] at hu; rcases hu with rfl | rfl <;> rfl)); (case c3 => (unfold maxLen; omega)); (case c4 => omega); (case c5 => omega); intro v' w5 hown' hg hblk; obtain ⟨AV, cV, rfl⟩ := ownsRow_slice hown'; have hOw := hOX.grown hg hONe.out; have rW := hOw.c2.2; have fW := hOw.frozen 1)
              go_roundw
              case rel =>
                have hMw := (HM.out.ext (hz.trans hX2)).grown hg (ownsRow_ne_blk hrow2.out (HM.out.ext (hz.trans hX2)) (by decide))
                have hTw := (hT.ext (hz.trans hX2)).grown hg (ownsRow_ne_blk hrow2.out (hT.ext (hz.trans hX2)) (by decide))
                have hew : Ext w w5 := Below.grown hews hg hews.size (fun j hj => by have := hge.out j hj; omega)
                have hap : Apart (w.heap.size + 2) w5 (w5.setCell ⟨w.heap.size + 2, 1, none⟩ (.slice AV (i + 1) cV)) := (Apart.refl (w.heap.size + 2) w5).set_ 1 _
                have hgo : ∀ {v : Value} {l : List Int}, OwnI wr (w.heap.size + 3) 3 v l → OwnI (w5.setCell ⟨w.heap.size + 2, 1, none⟩ (.slice AV (i + 1) cV)) (w.heap.size + 3) 3 v l := fun g => ((g.ext hX2).grownT (by decide) hg hrow2.out).apartB (by omega) hap
                refine ⟨i + 1, _, cs ++ [.int .i64 sh, .slice A5 xs.length c5], by omega, by go_num, Below.setCell hew (by show _ ≤ w.heap.size + 2; omega) _, hMw.far (by show _ ≠ w.heap.size + 2; omega) _, hTw.far (by show _ ≠ w.heap.size + 2; omega) _, by simpa using hOw.set_ 1 (.slice AV (i + 1) cV), ?_, ?_⟩
                · exact ownsRow_apart hown' (fun e => ownsRow_ne_blk hown' hOw (by decide) e.symm) hap
                · unfold Hid
                  rw [List.range_succ, List.map_append, List.map_cons, List.map_nil, hnw.out]
                  exact (hcs.out.map fun _ _ g => hgo (OwnI.ext g hz)).append ⟨rfl, hgo (OwnI.mono hOI.out (by omega)), trivial⟩
              case measure => simp [intOf]; omega
        · obtain rfl : i = m.wvs.length := by omega
          obtain ⟨q0, q1⟩ := hO.c2
          obtain ⟨y0, y1⟩ := hT.c2
          have f0 := hT.frozen 0
          have f1 := hT.frozen 1
          obtain ⟨AO, cO, rfl⟩ := ownsRow_slice hown.out
          clear H7 hlt
          go_wp2_with fail
          have hap : Apart (w.heap.size + 1) wo ((wo.setCell ⟨w.heap.size + 1, 0, none⟩ (.slice A1 m.shafts.length c1)).setCell ⟨w.heap.size + 1, 1, none⟩ (.slice AO m.wvs.length cO)) := ((Apart.refl _ wo).set_ 0 _).set_ 1 _
          have hR9 : Blk ((wo.setCell ⟨w.heap.size + 1, 0, none⟩ (.slice A1 m.shafts.length c1)).setCell ⟨w.heap.size + 1, 1, none⟩ (.slice AO m.wvs.length cO)) (w.heap.size + 1) 54 #[.slice A1 m.shafts.length c1, .slice AO m.wvs.length cO] := by simpa using (hT.set_ 0 (.slice A1 m.shafts.length c1)).set_ 1 (.slice AO m.wvs.length cO)
          obtain ⟨z0, z1⟩ := hR9.c2
          have hE9 := Below.setCell (Below.setCell he (p := ⟨w.heap.size + 1, 0, none⟩) (by show _ ≤ w.heap.size + 1; omega) (.slice A1 m.shafts.length c1)) (p := ⟨w.heap.size + 1, 1, none⟩) (by show _ ≤ w.heap.size + 1; omega) (.slice AO m.wvs.length cO)
          have h2 := ownsRow_mono (base' := w.heap.size) (ownsRow_apart hown.out (fun e => ownsRow_ne_blk hown.out hT (by decide) e.symm) hap) (by omega)
          have h3 := hcs.out.map (S := ownW ((wo.setCell ⟨w.heap.size + 1, 0, none⟩ (.slice A1 m.shafts.length c1)).setCell ⟨w.heap.size + 1, 1, none⟩ (.slice AO m.wvs.length cO)) w.heap.size) fun _ _ g => OwnI.mono (OwnI.apartB g (by omega) hap) (by omega)
          rw [Hnew.out] at h3
          have hl := Pow.useP_len m k (hN : Int)
          refine bodyPost_ret (v := .tuple #[.agg #[.slice A1 m.shafts.length c1, .slice AO m.wvs.length cO], .int .i64 0]) ?_ rfl ⟨_, rfl, ⟨fun e => absurd rfl e, fun _ => ⟨_, rfl, cs, by rw [hl]; exact h2, h3⟩⟩, hE9⟩
          simp [results, Tryz.results39, go_sem, z0, z1]
end Go.Proofs.Pet
