/-
  law7's Stopped walked: sights of belts that really slipped.
-/
import Derived.Test.YtjlglbhafopomaaGreatPC3
import Derived.Test.YtjlglbhafopomaaGreatS18
namespace Go.Proofs.Pet
open Go Go.RowKit Go.Maps Go.Shelf
open Go.Proofs.Pow (PM Sh Wv POk Up sightF explB hitL)

theorem info_sight : (Tryz.prog.info? 36).map (fun i => (i.zero, i.size, i.bytes)) = some (some (.int .i64 0), 1, 8) := by kernel_rfl
/-- sights as they are made -/
def SawT (m : PM) (real : List Nat) (l : List Int) : Prop := ∀ k, k < l.length → l[k]?.getD 0 = 0 ∨ l[k]?.getD 0 = if hitL m real k then 2 else 1
theorem SawT.push {m : PM} {real : List Nat} {l : List Int} {y : Int} (h : SawT m real l) (hy : y = 0 ∨ y = if hitL m real l.length then 2 else 1) : SawT m real (l ++ [y]) := by
  intro k hk
  rw [List.length_append, List.length_singleton] at hk
  by_cases e : k < l.length
  · rw [List.getElem?_append_left e]; exact h k e
  · obtain rfl : k = l.length := by omega
    rw [List.getElem?_append_right (Nat.le_refl _), Nat.sub_self]
    exact hy
theorem SawT.in_ {m : PM} {real : List Nat} {l : List Int} (h : SawT m real l) : ∀ x, x ∈ l → 0 ≤ x ∧ x ≤ 2 := by
  intro x hx
  obtain ⟨k, hk, rfl⟩ := List.getElem_of_mem hx
  have := h k hk
  rw [List.getElem?_eq_getElem hk, Option.getD_some] at this
  rcases this with h1 | h1
  · omega
  · rw [h1]; split <;> omega
theorem SawT.expl {m : PM} {real : List Nat} {l : List Int} (h : SawT m real l) (hl : l.length = m.wvs.length) : explB m (sightF l) real = true := by
  unfold explB
  rw [List.all_eq_true]
  intro k hk
  have hkl := List.mem_range.1 hk
  have := h k (by omega)
  unfold sightF
  cases hh : hitL m real k with
  | true =>
    rw [hh] at this
    rcases this with h1 | h1 <;> rw [h1] <;> simp
  | false =>
    rw [hh] at this
    rcases this with h1 | h1 <;> rw [h1] <;> simp
theorem hitL_ints (m : PM) (real : List Nat) (k : Nat) : ((ints real).any fun i => m.drv i.toNat k) = hitL m real k := by
  unfold hitL ints
  rw [List.any_map]
  congr 1
theorem stop1_any (Mb Kb : Nat) (v1 v2 : Value) (m : PM) (hm : POk m) (i k : Nat) (hk : k < m.wvs.length) (w : World) (hv : PMVal w (.agg #[v1, v2]) m) (hMb : Blk w Mb 26 #[v1, v2]) (hKb : Blk w Kb 3 #[.int .i64 (k : Int)]) :
    Tells Tryz.prog w 94 #[] #[.pointer (some ⟨Mb, 0, none⟩), .pointer (some ⟨Kb, 0, none⟩)] IntVal (i : Int) (m.drv i k) := by
  intro W0 v0 hW hv0
  obtain rfl : v0 = .int .i64 (i : Int) := hv0
  obtain ⟨q, hq⟩ : ∃ q, m.drv i k = q := ⟨_, rfl⟩
  rw [hq]
  have hd := Lib.hid (drives_any _ m hm i k hk q hq W0 (hv.ext hW))
  obtain ⟨k0, k1⟩ := (hMb.ext hW).c2
  have e0 := (hKb.ext hW).c1
  clear hv hMb hKb hW hq
  show Calls Tryz.prog 94 #[_, .pointer (some ⟨Mb, 0, none⟩), .pointer (some ⟨Kb, 0, none⟩)] W0 _
  go_enter Tryz.func94, Tryz.ntmps94
  go_wp2_with fail
  refine hd.out.mono ?_
  rintro e w1 ⟨rfl, he⟩
  go_wp2_with fail
  go_ret
  exact ⟨rfl, he⟩
theorem up_push {k : Nat} {real : List Nat} (h : Up k 0 real) : Up (k + 1) 0 (real ++ [k]) := by
  refine ⟨List.pairwise_append.2 ⟨h.1, List.pairwise_singleton _ _, fun a ha b hb => ?_⟩, fun x hx => ?_⟩
  · rw [List.mem_singleton] at hb
    have := h.2 a ha
    omega
  · rcases List.mem_append.1 hx with hx | hx
    · have := h.2 x hx; omega
    · rw [List.mem_singleton] at hx; omega
theorem up_more {k : Nat} {real : List Nat} (h : Up k 0 real) : Up (k + 1) 0 real := ⟨h.1, fun x hx => by have := h.2 x hx; omega⟩
set_option maxRecDepth 100000 in
set_option maxHeartbeats 4000000 in
theorem stopped_any (b k0 : Nat) (hk0 : k0 ≤ 1000) (v : Value) (m : PM) (hm : POk m) (w : World) (hs : SpoolAt w b k0) (hv : ∀ W, Apart b w W → PMVal W v m) :
    Calls Tryz.prog 19 #[.pointer (some ⟨b, 0, none⟩), v] w fun e w' => ∃ u1 u2 l real, e = .returned (.tuple #[u1, u2]) ∧ OwnI w' w.heap.size 36 u1 l ∧ OwnI w' w.heap.size 3 u2 (ints real) ∧ l.length = m.wvs.length ∧ SawT m real l ∧ Up m.shafts.length 0 real ∧ SpoolAt w' b (k0 + 20) ∧ Apart b w w' := by
  obtain ⟨ti, hi, hz0, hz1, hz2⟩ := info_parts info_int
  obtain ⟨ti2, hi2, hy0, hy1, hy2⟩ := info_parts info_sight
  have hmf : ∀ (fn : Fn) (first cap : Array Value) (w : World), (Instr.makeFunc fn first cap).run Tryz.prog w = .ok (.func fn first cap) w := fun _ _ _ _ => rfl
  have Hm := Lib.hid hm
  have hms := hm.sz
  have hml := hm.few
  obtain ⟨A1, c1, A2, c2, rfl, -, -, -, -, -, -⟩ := hv w (Apart.refl _ _)
  have HV := Lib.hid hv
  have hE := Ext.alloc w (.cells #[.slice A1 m.shafts.length c1, .slice A2 m.wvs.length c2] 26)
  have hM := Blk.new w 26 #[.slice A1 m.shafts.length c1, .slice A2 m.wvs.length c2]
  have hsl := hs.lt
  have hs1 := hs.ext hE
  obtain ⟨M, hMe⟩ : ∃ M, w.heap.size = M := ⟨_, rfl⟩
  have hszX : (w.alloc (.cells #[.slice A1 m.shafts.length c1, .slice A2 m.wvs.length c2] 26)).heap.size = w.heap.size + 1 := World.size_alloc ..
  rw [hMe] at hM hszX hsl
  obtain ⟨c0, c1'⟩ := hM.c2
  have hap := Apart.of_ext (b := b) hE
  have HMe := Lib.hid hMe
  clear hs hE hv hm hMe
  go_enter Tryz.func19, Tryz.ntmps19
  go_wp2_with fail
  rw [HMe.out]
  generalize w.alloc _ = w1 at *
  go_loopw [6, 14] (fun u i wr => ∃ (j : Nat) (real : List Nat), j ≤ m.shafts.length ∧ i = .int .i64 (j : Int) ∧ Up j 0 real ∧ Hid (OwnI wr (M + 1) 3 u (ints real)) ∧ Hid (SpoolAt wr b (k0 + j)) ∧ Hid (Blk wr M 26 #[.slice A1 m.shafts.length c1, .slice A2 m.wvs.length c2]) ∧ Hid (Apart b w wr) ∧ Hid (Apart b w1 wr)) (fun _ i _ => m.shafts.length - (intOf i).toNat)
  case atStart => exact ⟨0, [], Nat.zero_le _, rfl, ⟨List.Pairwise.nil, fun x hx => by cases hx⟩, Lib.hid (OwnI.nil _ _ _), Lib.hid hs1, Lib.hid hM, Lib.hid hap, Lib.hid (Apart.refl _ _)⟩
  case round =>
    clear hs1 hM hap c0 c1'
    obtain ⟨j, real, hj, rfl, hup, hO, hs, hM, hap, hap1⟩ := hrel
    by_cases hlt : j < m.shafts.length
    · have hon := Lib.hid (once_any b _ (by omega) 4 (by omega) wr hs.out)
      go_wp2_with fail
      refine hon.out.mono ?_
      rintro e w2 ⟨q, rfl, hs2, ha2⟩
      have hO2 := hO.out.apartB (by omega) ha2
      have hM2 := hM.out.apart (by omega) ha2
      have hapA := hap.out.trans ha2
      have hapB := hap1.out.trans ha2
      clear hon hO hM hap hap1 hs ha2
      cases q with
      | false =>
        have HO2 := Lib.hid hO2; have Hs2 := Lib.hid hs2; have HM2 := Lib.hid hM2; have HA := Lib.hid hapA; have HB := Lib.hid hapB
        clear hO2 hs2 hM2 hapA hapB
        go_wp2_with fail
        go_roundw
        case rel => exact ⟨j + 1, real, by omega, by go_num, up_more hup, HO2, Hs2, HM2, HA, HB⟩
        case measure => simp [intOf]; omega
      | true =>
        have hX := Ext.alloc w2 (.cells #[.int .i64 (j : Int)] 3)
        have hsrc := Src.one w2 (.int .i64 (j : Int)) 3
        have hOX := hO2.ext hX
        have hszX2 := hX.size
        have hM2l := hM2.lt
        have hrl : real.length ≤ 9 := by have := Pow.up_len hup; omega
        obtain ⟨A3, c3, rfl⟩ := ownsRow_slice hO2
        have Hw : Hid (∀ v' w', w'.ownsRow (M + 1) 3 1 v' ((ints real).length + 1) ((ints real).map (Value.int .i64) ++ [.int .i64 (j : Int)]) → (w2.alloc (.cells #[.int .i64 (j : Int)] 3)).grownBy w' (Value.slice A3 (ints real).length c3).ownBlock →
            OwnI w' (M + 1) 3 v' (ints (real ++ [j])) ∧ SpoolAt w' b (k0 + j + 1) ∧ Blk w' M 26 #[.slice A1 m.shafts.length c1, .slice A2 m.wvs.length c2] ∧ Apart b w w' ∧ Apart b w1 w') := by
          intro v' w' hown hg
          have hge : ∀ y, (Value.slice A3 (ints real).length c3).ownBlock = some y → M + 1 ≤ y := fun y hy => (hO2.own_lt y hy).1
          refine ⟨by unfold OwnI; rw [ints_append, List.length_append, List.map_append]; exact hown, (hs2.ext hX).grownP hg (fun y hy => by have := hge y hy; omega), (hM2.ext hX).grown hg (fun e => by have := hge M e.symm; omega), (hapA.trans (Apart.of_ext hX)).grownP hg (fun y hy => by have := hge y hy; have := HMe.out; omega), (hapB.trans (Apart.of_ext hX)).grownP hg (fun y hy => by have := hge y hy; omega)⟩
        have hil : (ints real).length ≤ 9 := by rw [ints_length]; exact hrl
        clear hs2 hM2 hapA hapB hO2
        go_wp2_with (at_builtin; refine wpList_app rfl _ _ 31 rfl (M + 1) 3 ti (.int .i64 0) 1 8 Tryz.underlying31 hi hz0 hz1 hz2 rfl (by decide) (.slice A3 (ints real).length c3) (ints real).length _ rfl hOX (some ⟨w2.heap.size, 0, none⟩) 1 1 [.int .i64 (j : Int)] rfl rfl hsrc ?c2 ?c3 ?c4 ?c5 ?_; (case c2 => (intro u hu; rw [List.mem_singleton] at hu; subst hu; rfl)); (case c3 => (unfold maxLen; omega)); (case c4 => omega); (case c5 => omega); intro v' w5 hown hg hblk; have HO := Lib.hid (Hw.out v' w5 hown hg); clear hown hg hblk)
        go_roundw
        case rel => exact ⟨j + 1, real ++ [j], by omega, by go_num, up_push hup, HO.out.1, HO.out.2.1, HO.out.2.2.1, HO.out.2.2.2.1, HO.out.2.2.2.2⟩
        case measure => simp [intOf]; omega
    · obtain rfl : j = m.shafts.length := by omega
      obtain ⟨AR, cR, rfl⟩ := ownsRow_slice hO.out
      obtain ⟨rn, hrn⟩ : ∃ rn, (ints real).length = rn := ⟨_, rfl⟩
      have hrn9 : rn ≤ 9 := by rw [← hrn, ints_length]; have := Pow.up_len hup; omega
      obtain ⟨k0', k1'⟩ := hM.out.c2
      have HsS := Lib.hid (hs.out.mono (show k0 + m.shafts.length ≤ k0 + 9 by omega))
      have HR := Lib.hid (show OwnI wr (M + 1) 3 (.slice AR rn cR) (ints real) from by rw [← hrn]; exact hO.out)
      have Hup := Lib.hid hup
      have Hrn := Lib.hid hrn
      rw [hrn]
      clear hs hO hup hlt hj hrn
      go_wp2_with fail
      go_loopw [8, 27] (fun u i wq => ∃ (k : Nat) (l : List Int), k ≤ m.wvs.length ∧ i = .int .i64 (k : Int) ∧ Hid (l.length = k) ∧ Hid (SawT m real l) ∧ Hid (OwnI wq (M + 1) 36 u l) ∧ Hid (OwnI wq (M + 1) 3 (.slice AR rn cR) (ints real)) ∧ Hid (SpoolAt wq b (k0 + 9 + k)) ∧ Hid (Blk wq M 26 #[.slice A1 m.shafts.length c1, .slice A2 m.wvs.length c2]) ∧ Hid (Apart b w wq) ∧ Hid (Apart b w1 wq)) (fun _ i _ => m.wvs.length - (intOf i).toNat)
      case atStart => exact ⟨0, [], Nat.zero_le _, rfl, rfl, (fun k hk => absurd hk (by simp)), Lib.hid (OwnI.nil _ _ _), HR, HsS, hM, hap, hap1⟩
      case round =>
        clear HR HsS hM hap hap1 k0' k1'
        obtain ⟨k, l, hk, rfl, hll, hsw, hO, hR, hs, hM, hap, hap1⟩ := hrel
        by_cases hlt : k < m.wvs.length
        · have hX := Ext.alloc wr (.cells #[.int .i64 (k : Int)] 3)
          have hK := Blk.new wr 3 #[.int .i64 (k : Int)]
          obtain ⟨q, hq⟩ : ∃ q, hitL m real k = q := ⟨_, rfl⟩
          obtain ⟨Ar', cr', er, -, -, r3, -, -⟩ := (hR.out.ext hX).open_
          have hr3 : IntsAt (wr.alloc (.cells #[.int .i64 (k : Int)] 3)) AR (ints real) := by
            simp only [Value.slice.injEq] at er
            rw [er.1]; exact r3
          have hcf := containsFuncI 94 #[] #[.pointer (some ⟨M, 0, none⟩), .pointer (some ⟨wr.heap.size, 0, none⟩)] (enters_of Tryz.func94 (by kernel_rfl) rfl) (fun i => m.drv i.toNat k) AR cR (ints real) _ (by rw [Hrn.out]; unfold maxLen; omega) hr3
            (fun y hy => by
              obtain ⟨yy, _, rfl⟩ := ints_mem.1 hy
              exact stop1_any M _ _ _ m Hm.out yy k hlt _ (HV.out _ (hap.out.trans (Apart.of_ext hX))) (hM.out.ext hX) hK)
          rw [Hrn.out, hitL_ints, hq] at hcf
          have Hcf := Lib.hid hcf
          have Hq := Lib.hid hq
          have hszr := hM.out.lt
          have hsz1 := hap1.out.size
          clear hcf hK hq r3 hr3 er
          go_wp2_with fail
          refine Hcf.out.mono ?_
          rintro e w5 ⟨rfl, he5⟩
          have heX := hX.trans he5
          have hO5 := Lib.hid (hO.out.ext heX); have hR5 := Lib.hid (hR.out.ext heX); have hs5 := Lib.hid (hs.out.ext heX); have hM5 := Lib.hid (hM.out.ext heX)
          have hapA := Lib.hid (hap.out.trans (Apart.of_ext heX)); have hapB := Lib.hid (hap1.out.trans (Apart.of_ext heX))
          clear Hcf hO hR hs hM hap hap1 he5 heX hX
          go_upto_if 32 with fail
          go_cut [10] (fun x wx => x = .int .i64 (if q then 2 else 1) ∧ w5 = wx)
          case first =>
            cases q with
            | true =>
              go_wp2_with fail
              go_meet
              exact ⟨rfl, rfl⟩
            | false =>
              go_wp2_with fail
              go_meet
              exact ⟨rfl, rfl⟩
          case rest =>
            obtain ⟨rfl, rfl⟩ := hcut
            have hon := Lib.hid (once_any b _ (by omega) 4 (by omega) w5 hs5.out)
            obtain ⟨y0, hy0⟩ : ∃ y0 : Int, (if q then 2 else 1) = y0 := ⟨_, rfl⟩
            rw [hy0]
            have Hy0 := Lib.hid hy0
            clear hy0
            go_wp2_with fail
            refine hon.out.mono ?_
            rintro e w6 ⟨q2, rfl, hs6, ha6⟩
            have hO6 := Lib.hid (hO5.out.apartB (by omega) ha6); have hR6 := Lib.hid (hR5.out.apartB (by omega) ha6); have hM6 := Lib.hid (hM5.out.apart (by omega) ha6)
            have hapC := Lib.hid (hapA.out.trans ha6); have hapD := Lib.hid (hapB.out.trans ha6); have Hs6 := Lib.hid hs6
            clear hon hO5 hR5 hs5 hM5 hapA hapB ha6 hs6
            go_upto_if 34 with fail
            go_cut [10] (fun x wx => ∃ y : Int, x = .int .i64 y ∧ (y = 0 ∨ y = y0) ∧ w6 = wx)
            case first =>
              cases q2 with
              | true =>
                go_wp2_with fail
                go_meet
                exact ⟨0, rfl, .inl rfl, rfl⟩
              | false =>
                go_wp2_with fail
                go_meet
                exact ⟨y0, rfl, .inr rfl, rfl⟩
            case rest =>
              obtain ⟨y, rfl, hy, rfl⟩ := hcut
              have hXy := Ext.alloc w6 (.cells #[.int .i64 y] 36)
              have hsrc := Src.one w6 (.int .i64 y) 36
              have hOX := hO6.out.ext hXy
              have hszX2 := hXy.size
              have hM6l := hM6.out.lt
              obtain ⟨A3, c3, rfl⟩ := ownsRow_slice hO6.out
              have hpush : Hid (SawT m real (l ++ [y])) := hsw.out.push (by
                rw [hll.out, Hq.out]
                rcases hy with h | h
                · exact .inl h
                · exact .inr (by rw [h, ← Hy0.out]))
              have hlen6 : l.length ≤ 6 := by rw [hll.out]; omega
              have Hw : Hid (∀ v' w', w'.ownsRow (M + 1) 36 1 v' (l.length + 1) (l.map (Value.int .i64) ++ [.int .i64 y]) → (w6.alloc (.cells #[.int .i64 y] 36)).grownBy w' (Value.slice A3 l.length c3).ownBlock →
                  OwnI w' (M + 1) 36 v' (l ++ [y]) ∧ OwnI w' (M + 1) 3 (.slice AR rn cR) (ints real) ∧ SpoolAt w' b (k0 + 9 + (k + 1)) ∧ Blk w' M 26 #[.slice A1 m.shafts.length c1, .slice A2 m.wvs.length c2] ∧ Apart b w w' ∧ Apart b w1 w') := by
                intro v' w' hown hg
                have hge : ∀ y, (Value.slice A3 l.length c3).ownBlock = some y → M + 1 ≤ y := fun y hy => (hO6.out.own_lt y hy).1
                refine ⟨by unfold OwnI; rw [List.length_append, List.map_append]; exact hown, (hR6.out.ext hXy).grownT (by decide) hg hOX, (Hs6.out.ext hXy).grownP hg (fun y hy => by have := hge y hy; omega), (hM6.out.ext hXy).grown hg (fun e => by have := hge M e.symm; omega), (hapC.out.trans (Apart.of_ext hXy)).grownP hg (fun y hy => by have := hge y hy; have := HMe.out; omega), (hapD.out.trans (Apart.of_ext hXy)).grownP hg (fun y hy => by have := hge y hy; omega)⟩
              clear hO6 hR6 hM6 hapC hapD Hs6 hy Hy0 Hq hsw
              go_wp2_with (at_builtin; refine wpList_app rfl _ _ 30 rfl (M + 1) 36 ti2 (.int .i64 0) 1 8 Tryz.underlying30 hi2 hy0 hy1 hy2 rfl (by decide) (.slice A3 l.length c3) l.length _ rfl hOX (some ⟨w6.heap.size, 0, none⟩) 1 1 [.int .i64 y] rfl rfl hsrc ?c2 ?c3 ?c4 ?c5 ?_; (case c2 => (intro u hu; rw [List.mem_singleton] at hu; subst hu; rfl)); (case c3 => (unfold maxLen; omega)); (case c4 => omega); (case c5 => omega); intro v' w7 hown hg hblk; have HO := Lib.hid (Hw.out v' w7 hown hg); clear hown hg hblk)
              go_roundw
              case rel => exact ⟨k + 1, l ++ [y], by omega, by go_num, by rw [List.length_append, hll.out]; rfl, hpush, HO.out.1, HO.out.2.1, HO.out.2.2.1, HO.out.2.2.2.1, HO.out.2.2.2.2.1, HO.out.2.2.2.2.2⟩
              case measure => simp [intOf]; omega
        · obtain rfl : k = m.wvs.length := by omega
          obtain ⟨A3, c3, rfl⟩ := ownsRow_slice hO.out
          go_wp2_with fail
          go_ret2
          refine ⟨_, _, l, real, rfl, hO.out.mono (by have := HMe.out; omega), ?_, hll.out, hsw.out, Hup.out, hs.out.mono (by omega), hap.out⟩
          exact hR.out.mono (by have := HMe.out; omega)
end Go.Proofs.Pet
