/-
  Contracts of functions, each proved once.
-/
import Derived.Test.YtknokjnplbdmeaaGreatP11
namespace Go.Proofs.Pet
open Go Go.RowKit Go.Maps Go.Shelf

theorem nodup_not_take {xs : List Int} (h : xs.Nodup) {k : Nat} (hk : k < xs.length) : (xs.take k).contains (xs[k]?.getD 0) = false := by
  cases hc : (xs.take k).contains (xs[k]?.getD 0)
  · rfl
  · exfalso
    have hm : xs[k]?.getD 0 ∈ xs.take k := by simpa using hc
    obtain ⟨j, hj, he⟩ := List.mem_iff_getElem.1 hm
    rw [List.length_take] at hj
    rw [List.getElem_take] at he
    have h2 := List.pairwise_iff_getElem.1 h j k (by omega) hk (by omega)
    apply h2
    rw [he]; simp [hk]
theorem nodup_ints {l : List Nat} (h : l.Nodup) : (ints l).Nodup := by
  unfold ints
  rw [List.Nodup, List.pairwise_map]
  exact h.imp fun hne e => hne (by omega)
theorem lt_of_bit {n s k : Nat} (hs : s < 2 ^ n) (h : s.testBit k = true) : k < n := by
  have h5 := pow_le_of_testBit h
  exact (Nat.pow_lt_pow_iff_right (by omega : 1 < 2)).1 (by omega)
theorem bits_more {n s : Nat} (hs : s < 2 ^ n) : ∀ d, bits (n + d) s = bits n s
  | 0 => rfl
  | d + 1 => by
    rw [show n + (d + 1) = n + d + 1 by omega, bits_succ, if_neg, bits_more hs d]
    intro h
    have := lt_of_bit hs h
    omega
theorem sortF_bits {n s : Nat} (hn : n ≤ 7) (hs : s < 2 ^ n) : sortF (ints (bits n s)) 7 = ints (bits n s) := by
  unfold sortF
  congr 1
  have h7 : bits 7 s = bits n s := by
    have := bits_more hs (7 - n)
    rwa [show n + (7 - n) = 7 by omega] at this
  rw [← h7]
  unfold bits
  apply List.filter_congr
  intro k hk
  rw [List.mem_range] at hk
  cases hb : s.testBit k
  · cases hc : (ints (bits 7 s)).contains (k : Int)
    · exact hc
    · exfalso
      have hm : (k : Int) ∈ ints (bits 7 s) := by simpa using hc
      obtain ⟨j, hj, he⟩ := List.mem_map.1 hm
      have : j = k := by omega
      subst this
      rw [(mem_bits.1 hj).2] at hb
      exact absurd hb (by simp)
  · have hm : (k : Int) ∈ ints (bits 7 s) := List.mem_map.2 ⟨k, mem_bits.2 ⟨hk, hb⟩, rfl⟩
    have : (ints (bits 7 s)).contains (k : Int) = true := by simpa using hm
    exact this
theorem running_bits (m : Mill) (l s : Nat) (hl : l < m.laced.length) (_hs : s < 2 ^ m.orders.length) : runningE m l (ints (bits m.orders.length s)) = if ((bits m.orders.length s).all fun k => m.weaves l k) = true then 0 else 8 := by
  have h1 : inB l 0 (m.laced.length - 1) = true := by unfold inB; simp; omega
  have h2 : ((ints (bits m.orders.length s)).all fun k => inB k 0 (m.orders.length - 1)) = true := by
    rw [List.all_eq_true]
    intro x hx
    obtain ⟨j, hj, rfl⟩ := List.mem_map.1 hx
    have := (mem_bits.1 hj).1
    unfold inB; simp; omega
  have h3 : twiceB (ints (bits m.orders.length s)) = false := twiceB_false fun k hk => nodup_not_take (nodup_ints (nodup_bits _ _)) hk
  have h4 : listedE m (ints (bits m.orders.length s)) = 0 := by unfold listedE; rw [h2, h3]; rfl
  have h5 : ((ints (bits m.orders.length s)).all fun k => weavesI m l k) = (bits m.orders.length s).all fun k => m.weaves l k := by
    unfold ints; rw [List.all_map]; rfl
  unfold runningE
  rw [if_neg (by rw [h1]; simp), if_neg (by rw [h4]; simp), h5]
  cases (bits m.orders.length s).all fun k => m.weaves l k <;> simp
/-- the row of a loom, of all sets below a number -/
def tabL (m : Mill) (l s : Nat) : List Int := (List.range s).map (tabR m l)
theorem tabL_succ (m : Mill) (l s : Nat) : tabL m l (s + 1) = tabL m l s ++ [tabR m l s] := by
  unfold tabL; rw [List.range_succ, List.map_append]; rfl
theorem tabL_len (m : Mill) (l s : Nat) : (tabL m l s).length = s := by unfold tabL; simp
def tabAll (m : Mill) (N l : Nat) : List (List Int) := (List.range l).map fun i => tabL m i N
theorem tabAll_succ (m : Mill) (N l : Nat) : tabAll m N (l + 1) = tabAll m N l ++ [tabL m l N] := by
  unfold tabAll; rw [List.range_succ, List.map_append]; rfl
theorem tabAll_len (m : Mill) (N l : Nat) : (tabAll m N l).length = l := by unfold tabAll; simp

set_option maxRecDepth 20000 in
set_option maxHeartbeats 2000000 in
theorem table_any (v : Value) (m : Mill) (hch : checkE m = 0) (N : Nat) (hN : N = 2 ^ m.orders.length) (w : World) (hv : MillVal w v m) :
    Calls Tryz.prog 137 #[v] w fun e w' => ∃ r, e = .returned r ∧ OwnR w' w.heap.size r (tabAll m N m.laced.length) ∧ Ext w w' := by
  obtain ⟨ti, hi, hz0, hz1, hz2⟩ := info_parts info_int
  obtain ⟨ti2, hi2, hy0, hy1, hy2⟩ := info_parts info_slI
  have Hv := Lib.hid hv
  obtain ⟨A1, c1, A2, c2, rfl, h2, h3, h4, h5, h6, h7⟩ := hv
  have hE := Ext.alloc w (.cells #[.slice A1 m.laced.length c1, .int .i64 m.change, .slice A2 m.orders.length c2] 35)
  have hM := Blk.new w 35 #[.slice A1 m.laced.length c1, .int .i64 m.change, .slice A2 m.orders.length c2]
  obtain ⟨l1, l2, l3⟩ := check_len hch
  have Hch := Lib.hid hch; clear hch
  have hNb : N ≤ 128 := by
    have h1 : 2 ^ m.orders.length ≤ 2 ^ 7 := Nat.pow_le_pow_right (by omega) l3
    have h2 : (2 : Nat) ^ 7 = 128 := by decide
    omega
  have HN := Lib.hid hN; clear hN
  clear h6 h7 h3 h5
  go_enter Tryz.func137, Tryz.ntmps137
  go_wp2_with fail
  go_loopw [3, 4] (fun ov lv wr => ∃ l : Nat, l ≤ m.laced.length ∧ lv = .int .i64 l ∧ Ext w wr ∧ Blk wr w.heap.size 35 #[.slice A1 m.laced.length c1, .int .i64 m.change, .slice A2 m.orders.length c2] ∧ w.heap.size + 1 ≤ wr.heap.size ∧
      Hid (OwnR wr (w.heap.size + 1) ov (tabAll m N l))) (fun _ lv _ => m.laced.length - (intOf lv).toNat)
  case atStart => exact ⟨0, by omega, rfl, hE, hM, by simp, OwnR.nil _ _⟩
  case round =>
    obtain ⟨l, hl, rfl, he, hM1, hsz, ho⟩ := hrel
    obtain ⟨k0, k1, k2⟩ := hM1.c3
    by_cases hlt : l < m.laced.length
    · go_wp2_with fail
      obtain ⟨w1, hw1⟩ : ∃ w1, w1 = wr := ⟨_, rfl⟩
      rw [← hw1] at he hM1 ho hsz ⊢
      clear hw1 k0 k1 k2
      go_loopw [5, 6] (fun rv sv wr => ∃ s : Nat, s ≤ N ∧ sv = .int .i64 s ∧ Ext w1 wr ∧ Hid (OwnI wr w1.heap.size 3 rv (tabL m l s))) (fun _ sv _ => N - (intOf sv).toNat)
      case atStart => exact ⟨0, by omega, rfl, Ext.refl _, OwnI.nil _ _ _⟩
      case round =>
        obtain ⟨s, hs, rfl, heI, hr⟩ := hrel
        have hMA0 := hM1.ext heI
        obtain ⟨k0, k1, k2⟩ := hMA0.c3
        have hsets := Lib.hid (sets5_any _ m (by omega) N HN.out wr (Hv.out.ext (he.trans heI)))
        go_wp2_with fail
        refine hsets.out.mono ?_
        rintro e w2 ⟨rfl, he2⟩
        have heA := heI.trans he2
        have hMA := hM1.ext heA
        have hrA : Hid (OwnI w2 w1.heap.size 3 u5 (tabL m l s)) := hr.out.ext he2
        clear hMA0 hr heI he2 hsets k0 k1 k2
        obtain ⟨k0, k1, k2⟩ := hMA.c3
        by_cases hlts : s < N
        · have hlist := Lib.hid (list5_any _ m s (by omega) (by omega) w2 (Hv.out.ext (he.trans heA)))
          go_wp2_with fail
          refine hlist.out.mono ?_
          rintro e w3 ⟨r3, rfl, hl3, he3⟩
          obtain ⟨BL, cL, rfl, p1, p2, p3, p4, p5⟩ := hl3.open_
          clear p4 p5 hl3 hlist
          have heB := heA.trans he3
          have hMB := hMA.ext he3
          have hrB : Hid (OwnI w3 w1.heap.size 3 u5 (tabL m l s)) := hrA.out.ext he3
          have hs2 : s < 2 ^ m.orders.length := HN.out ▸ hlts
          have hil : (ints (bits m.orders.length s)).length = (bits m.orders.length s).length := by unfold ints; simp
          have hbl := bits_length_le m.orders.length s
          have Htv0 : Hid (tabR m l s = if ((bits m.orders.length s).all fun k => m.weaves l k) = true then (bestI m l (rowsF (sortF (ints (bits m.orders.length s)) 7).length (sortF (ints (bits m.orders.length s)) 7))).2 else -1) := by
            unfold Hid tabR
            rw [sortF_bits (by omega) hs2, hil]
            rfl
          have hmemb : ∀ x, x ∈ ints (bits m.orders.length s) → 0 ≤ x ∧ x < m.orders.length := by
            intro x hx
            obtain ⟨j, hj, rfl⟩ := List.mem_map.1 hx
            have := (mem_bits.1 hj).1
            omega
          have hrun := running_bits m l s hlt hs2
          obtain ⟨q, hq⟩ : ∃ q, ((bits m.orders.length s).all fun k => m.weaves l k) = q := ⟨_, rfl⟩
          rw [hq] at hrun
          simp only [hq] at Htv0
          obtain ⟨b, hb⟩ : ∃ b, bestI m l (rowsF (sortF (ints (bits m.orders.length s)) 7).length (sortF (ints (bits m.orders.length s)) 7)) = b := ⟨_, rfl⟩
          simp only [hb] at Htv0
          have Hb := Lib.hid hb; clear hb hq
          obtain ⟨ys, hys⟩ : ∃ ys, ints (bits m.orders.length s) = ys := ⟨_, rfl⟩
          simp only [hys] at p1 p3 hil hmemb hrun Hb ⊢
          clear hys
          have hyl : ys.length ≤ 7 := by omega
          clear hil hbl
          have Hmemb := Lib.hid hmemb; clear hmemb
          have Hp3 := Lib.hid p3; clear p3
          clear hMA hrA heA he3
          have hcall := Lib.hid (running5_any _ m l BL cL ys _ hrun w3 (Hv.out.ext (he.trans heB)) p1 p2 Hp3.out)
          clear hrun k0 k1 k2
          obtain ⟨k0, k1, k2⟩ := hMB.c3
          cases q with
          | false =>
            simp only [Bool.false_eq_true, if_false] at hcall Htv0
            go_wp2_with fail
            refine hcall.out.mono ?_
            rintro e W ⟨rfl, he4⟩
            have heE := heB.trans he4
            have hME := hMB.ext he4
            have hrE : Hid (OwnI W w1.heap.size 3 u5 (tabL m l s)) := hrB.out.ext he4
            obtain ⟨tv, htv⟩ : ∃ tv : Int, tv = -1 := ⟨_, rfl⟩
            have Htv : Hid (tabR m l s = tv) := by unfold Hid; rw [Htv0.out, htv]
            clear heB hMB hrB he4 hcall
            subst htv
            obtain ⟨BB, cB, rfl, oo1, oo2, oo3, oo4, oo5⟩ := hrE.out.open_
            have hlen := tabL_len m l s
            rw [hlen] at oo1 hrE ⊢
            have HL := Lib.hid hlen; clear hlen
            have O4 := Lib.hid oo4; clear oo3 oo4 oo5
            have hszE := heE.size
            go_wp2_with (at_builtin; refine wpList_app rfl _ _ 22 rfl w1.heap.size 3 ti (.int .i64 0) 1 8 Tryz.underlying22 hi hz0 hz1 hz2 rfl (by decide) _ _ _ rfl (ownsRow_alloc_of HL.out hrE.out) (some ⟨W.heap.size, 0, none⟩) 1 1 [.int .i64 (-1)] rfl rfl (Src.one _ _ _) ?c2 ?c3 ?c4 ?c5 ?_; (case c2 => (intro u hu; simp at hu; subst hu; rfl)); (case c3 => (unfold maxLen; omega)); (case c4 => omega); (case c5 => (simp; omega)); intro v' w' hown' hg hblk)
            go_roundw
            case rel =>
              have hge := own_ge O4.out (L := s) (c := cB)
              refine ⟨s + 1, by omega, by go_num, ext_grown heE hg (fun j hj => by have := hge j hj; omega), ?_⟩
              · unfold Hid
                rw [tabL_succ, Htv.out]
                unfold OwnI
                rw [List.map_append, List.length_append, HL.out]
                exact hown'
            case measure => simp [intOf]; omega
          | true =>
            simp only [if_true] at hcall Htv0
            go_wp2_with fail
            refine hcall.out.mono ?_
            rintro e w4 ⟨rfl, he4⟩
            have heC := heB.trans he4
            have hMC := hMB.ext he4
            have hrC : Hid (OwnI w4 w1.heap.size 3 u5 (tabL m l s)) := hrB.out.ext he4
            have hbest := Lib.hid (best5_any _ m Hch.out l hlt BL cL ys.length ys rfl ⟨p1, p2⟩ Hmemb.out b Hb.out w4 (Hv.out.ext (he.trans heC)) (Hp3.out.ext he4))
            clear heB hMB hrB he4 hcall k0 k1 k2
            obtain ⟨k0, k1, k2⟩ := hMC.c3
            go_wp2_with fail
            refine hbest.out.mono ?_
            rintro e W ⟨rb, rfl, _, he5⟩
            have heE := heC.trans he5
            have hME := hMC.ext he5
            have hrE : Hid (OwnI W w1.heap.size 3 u5 (tabL m l s)) := hrC.out.ext he5
            clear heC hMC hrC he5 hbest
            obtain ⟨tv, htv⟩ : ∃ tv : Int, b.2 = tv := ⟨_, rfl⟩
            have Htv : Hid (tabR m l s = tv) := by unfold Hid; rw [Htv0.out, htv]
            rw [htv]
            clear htv
            obtain ⟨BB, cB, rfl, oo1, oo2, oo3, oo4, oo5⟩ := hrE.out.open_
            have hlen := tabL_len m l s
            rw [hlen] at oo1 hrE ⊢
            have HL := Lib.hid hlen; clear hlen
            have O4 := Lib.hid oo4; clear oo3 oo4 oo5
            have hszE := heE.size
            go_wp2_with (at_builtin; refine wpList_app rfl _ _ 22 rfl w1.heap.size 3 ti (.int .i64 0) 1 8 Tryz.underlying22 hi hz0 hz1 hz2 rfl (by decide) _ _ _ rfl (ownsRow_alloc_of HL.out hrE.out) (some ⟨W.heap.size, 0, none⟩) 1 1 [.int .i64 tv] rfl rfl (Src.one _ _ _) ?c2 ?c3 ?c4 ?c5 ?_; (case c2 => (intro u hu; simp at hu; subst hu; rfl)); (case c3 => (unfold maxLen; omega)); (case c4 => omega); (case c5 => (simp; omega)); intro v' w' hown' hg hblk)
            go_roundw
            case rel =>
              have hge := own_ge O4.out (L := s) (c := cB)
              refine ⟨s + 1, by omega, by go_num, ext_grown heE hg (fun j hj => by have := hge j hj; omega), ?_⟩
              · unfold Hid
                rw [tabL_succ, Htv.out]
                unfold OwnI
                rw [List.map_append, List.length_append, HL.out]
                exact hown'
            case measure => simp [intOf]; omega
        · have hse : s = N := by omega
          subst hse
          have hMw := hM1.ext heA
          obtain ⟨BB, cB, rfl, oo1, oo2, oo3, oo4, oo5⟩ := hrA.out.open_
          have hlen := tabL_len m l s
          rw [hlen] at oo1 hrA ⊢
          clear oo3 oo4 oo5
          obtain ⟨vs, hv1, hv2, hv3⟩ := ho.out
          have hal := tabAll_len m s l
          rw [hal] at hv1 hv2 hv3
          have Hv1 := Lib.hid hv1; have Hv2 := Lib.hid hv2; have Hv3 := Lib.hid hv3; clear hv1 hv2 hv3
          have Hal := Lib.hid hal; have Hlen := Lib.hid hlen; clear hal hlen
          have hb0 := Blk.new w2 22 #[.slice BB s cB]
          go_wp2_with (at_builtin; refine wpList_app rfl _ _ 30 rfl (w.heap.size + 1) 22 ti2 (.slice none 0 0) 1 24 Tryz.underlying30 hi2 hy0 hy1 hy2 rfl (by decide) _ _ _ rfl (ownsRow_ext2 Hv1.out (heA.trans (Ext.alloc _ _))) (some ⟨w2.heap.size, 0, none⟩) 1 1 [.slice BB s cB] rfl rfl (Src.one _ _ _) ?c2 ?c3 ?c4 ?c5 ?_; (case c2 => (intro u hu; simp at hu; subst hu; rfl)); (case c3 => (unfold maxLen; omega)); (case c4 => omega); (case c5 => (have := heA.size; simp; omega)); intro v' w' hown' hg hblk)
          go_roundw
          case rel =>
            have hsz1 := heA.size
            have hrow := ownsRow_ext2 Hv1.out (heA.trans (Ext.alloc w2 (.cells #[.slice BB s cB] 22)))
            have hge : ∀ j, u3.ownBlock = some j → w.heap.size + 1 ≤ j := by
              obtain ⟨A0, c0, e0, _, _, h5, _⟩ := ho.out.open_
              intro j hj
              rw [e0] at hj
              cases A0 with
              | none => cases hj
              | some a0 =>
                have h6 : a0.block = j := Option.some.inj hj
                have := (h5 a0 rfl).1
                omega
            refine ⟨l + 1, by omega, by go_num, ext_grown (he.trans heA) hg (fun j hj => by have := hge j hj; omega), (hMA.alloc _).grown hg (fun e => by have := hge _ e.symm; omega), ?_, ?_⟩
            · have := hg.size; simp at this; omega
            · unfold Hid
              rw [tabAll_succ]
              refine OwnR.push Hal.out hrow Hv2.out (fun i hi => (Hv3.out i hi).ext (heA.trans (Ext.alloc _ _))) (((hrA.out.ext (Ext.alloc _ _))).mono (by omega)) hown' hg
          case measure => simp [intOf]; omega
    · have hle : l = m.laced.length := by omega
      subst hle
      go_wp2_with fail
      go_ret
      exact ⟨_, rfl, ho.out.mono (by omega), he⟩
end Go.Proofs.Pet

namespace Go.Proofs.Pet
open Go Go.RowKit Go.Maps Go.Shelf

/-- nothing has turned that was there, aside from a block -/
structure Apart (b : Nat) (w W : World) : Prop where
  os : W.os = w.os
  tape : W.tape = w.tape
  output : W.output = w.output
  size : w.heap.size ≤ W.heap.size
  block : ∀ k, k < w.heap.size → k ≠ b → W.heap[k]? = w.heap[k]?
theorem Apart.refl (b : Nat) (w : World) : Apart b w w := ⟨rfl, rfl, rfl, Nat.le_refl _, fun _ _ _ => rfl⟩
theorem Apart.of_ext {b : Nat} {w W : World} (h : Ext w W) : Apart b w W := ⟨h.os, h.tape, h.output, h.size, fun k hk _ => Below.block h k hk⟩
theorem Apart.trans {b : Nat} {w W V : World} (h : Apart b w W) (k : Apart b W V) : Apart b w V :=
  ⟨k.os.trans h.os, k.tape.trans h.tape, k.output.trans h.output, Nat.le_trans h.size k.size, fun j hj hne => (k.block j (Nat.lt_of_lt_of_le hj h.size) hne).trans (h.block j hj hne)⟩
theorem Apart.set_ {b : Nat} {w W : World} (h : Apart b w W) (i : Nat) (v : Value) : Apart b w (W.setCell ⟨b, i, none⟩ v) := by
  have e := Below.setCell (B := b) (Below.refl b W) (p := ⟨b, i, none⟩) (by exact Nat.le_refl _) v
  refine ⟨e.os.trans h.os, e.tape.trans h.tape, e.output.trans h.output, by rw [World.size_setCell]; exact h.size, fun k hk hne => ?_⟩
  rw [Below.heap_setCell W ⟨b, i, none⟩ v k hne]
  exact h.block k hk hne
theorem Apart.ext_of {b : Nat} {w0 w W : World} (h0 : Ext w0 w) (hb : w0.heap.size ≤ b) (h : Apart b w W) : Ext w0 W :=
  ⟨h.os.trans h0.os, h.tape.trans h0.tape, h.output.trans h0.output, Nat.le_trans h0.size h.size, fun k hk => (h.block k (Nat.lt_of_lt_of_le hk h0.size) (by omega)).trans (Below.block h0 k hk)⟩
theorem Row.same {w w' : World} {b N : Nat} {f : Nat → Int} (h : Row w b N f) (h' : Row w' b N f) : w'.heap[b]? = w.heap[b]? := by
  obtain ⟨cs, h1, h2, h3⟩ := h
  obtain ⟨cs', g1, g2, g3⟩ := h'
  have : cs = cs' := by
    apply Array.ext
    · omega
    · intro i hi hi'
      have a := h3 i (by omega)
      have b := g3 i (by omega)
      rw [Array.getElem?_eq_getElem hi] at a
      rw [Array.getElem?_eq_getElem hi'] at b
      rw [← b] at a
      exact Option.some.inj a
  subst this
  exact g1.trans h1.symm
/-- what was turned apart and turned back -/
theorem Apart.back {b N : Nat} {w W : World} {f : Nat → Int} (h : Apart b w W) (h0 : Row w b N f) (h1 : Row W b N f) : Ext w W :=
  ⟨h.os, h.tape, h.output, h.size, fun k hk => by
    by_cases e : k = b
    · subst e; exact h0.same h1
    · exact h.block k hk e⟩
def sumP : List Nat → Nat
  | [] => 0
  | k :: ks => 2 ^ k + sumP ks
theorem sumT_neg (t : Nat → Nat → Int) (own : Nat → Nat) (k : Nat) (h : t k (own k) < 0) : ∀ d, sumT t own (k + 1 + d) = -1
  | 0 => by
    show sumT t own (k + 1) = -1
    unfold sumT
    by_cases e : sumT t own k < 0
    · rw [if_pos e]
    · rw [if_neg e, if_pos h]
  | d + 1 => by
    have ih := sumT_neg t own k h d
    show sumT t own (k + 1 + d + 1) = -1
    rw [sumT, ih]; rfl
theorem sumT_bd (t : Nat → Nat → Int) (own : Nat → Nat) (ht : ∀ i s, t i s ≤ 1000) : ∀ n, -1 ≤ sumT t own n ∧ sumT t own n ≤ 1000 * n
  | 0 => by simp [sumT]
  | n + 1 => by
    have := sumT_bd t own ht n
    have h := ht n (own n)
    unfold sumT
    split
    · omega
    split <;> omega
theorem bestOf_bd {M : Int} (hM : 0 ≤ M) (l : List Int) (h : ∀ x, x ∈ l → x ≤ M) : -1 ≤ bestOf l ∧ bestOf l ≤ M := by
  obtain ⟨h1, h2, h3⟩ := bestOf_least l
  refine ⟨h3, ?_⟩
  by_cases e : 0 ≤ bestOf l
  · exact h _ (h2 e).2
  · omega
theorem shareF_bd (t : Nat → Nat → Int) (n : Nat) (ht : ∀ i s, t i s ≤ 1000) : ∀ (ks : List Nat) (own : Nat → Nat), -1 ≤ shareF t n ks own ∧ shareF t n ks own ≤ 1000 * n
  | [], own => sumT_bd t own ht n
  | k :: ks, own => by
    unfold shareF
    refine bestOf_bd (by omega) _ fun x hx => ?_
    obtain ⟨i, _, rfl⟩ := List.mem_map.1 hx
    exact (shareF_bd t n ht ks (bump own i k)).2
def tabOf (t : Nat → Nat → Int) (N L : Nat) : List (List Int) := (List.range L).map fun i => (List.range N).map (t i)
theorem OwnR.tab {w : World} {base : Nat} {v : Value} {t : Nat → Nat → Int} {N L : Nat} (h : OwnR w base v (tabOf t N L)) {A : Option Addr} {n c : Nat} (hv : v = .slice A n c) {i : Nat} (hi : i < L) :
    ∃ b A' c', A = some ⟨b, 0, none⟩ ∧ n = L ∧ w.cell? ⟨b, i, none⟩ = some (.slice A' N c') ∧ ∀ s, s < N → ∃ b' o', A' = some ⟨b', o', none⟩ ∧ w.cell? ⟨b', o' + s, none⟩ = some (.int .i64 (t i s)) := by
  obtain ⟨A0, c0, e, _, _, _, hr⟩ := h.open_
  have hlen : (tabOf t N L).length = L := by unfold tabOf; simp
  rw [hlen] at e hr
  rw [e] at hv
  simp only [Value.slice.injEq] at hv
  obtain ⟨rfl, rfl, rfl⟩ := hv
  obtain ⟨b, u, e1, e2, e3⟩ := hr i hi
  obtain ⟨A', c', rfl, _, _, h4, _⟩ := e3.open_
  have e5 : (tabOf t N L)[i]?.getD [] = (List.range N).map (t i) := by unfold tabOf; simp [hi]
  rw [e5] at h4 e2
  simp only [List.length_map, List.length_range] at e2
  refine ⟨b, A', c', e1, rfl, e2, fun s hs => ?_⟩
  obtain ⟨b', o', g1, g2⟩ := h4 s (by simpa using hs)
  refine ⟨b', o', g1, ?_⟩
  simpa [hs] using g2

def shR (mv tv lv ov : Value) (ks : List Nat) (b : Nat) (w : World) (sv : Int) : Nat → Value → World → Prop
  | 0 => fun v _ => v = mv
  | 1 => fun v _ => v = tv
  | 2 => fun v _ => v = lv
  | 3 => fun v _ => ∃ A' c', v = .slice A' ks.length c' ∧ ks.length ≤ c' ∧ c' ≤ maxLen ∧ ∀ W, Apart b w W → IntsAt W A' (ints ks)
  | 4 => fun v _ => v = ov
  | 5 => fun v _ => v = .int .i64 sv
  | _ => fun _ _ => True
theorem shR.same {mv tv lv ov : Value} {ks : List Nat} {b : Nat} {w : World} {sv : Int} {w1 w2 : World} (j : Nat) (v : Value) (h : shR mv tv lv ov ks b w sv j v w1) : shR mv tv lv ov ks b w sv j v w2 := by
  match j, h with
  | 0, h | 1, h | 2, h | 3, h | 4, h | 5, h => exact h
  | _ + 6, h => trivial
set_option maxRecDepth 20000 in
set_option maxHeartbeats 4000000 in
theorem shared_any (t : Nat → Nat → Int) (ht : ∀ i s, -1 ≤ t i s ∧ t i s ≤ 1000) (N L : Nat) (hL : L ≤ 3) (hN : N ≤ 1000) (base b cO : Nat) (mv : Value) (m : Mill) (tA : Option Addr) (tc : Nat) :
    ∀ (ks : List Nat), ks.length ≤ 7 → (∀ k, k ∈ ks → k < 7) → ∀ (A : Option Addr) (c : Nat) (own : Nat → Nat) (w : World), ks.length ≤ c → c ≤ maxLen →
      (∀ W, Apart b w W → OwnR W base (.slice tA L tc) (tabOf t N L)) → (∀ W, Apart b w W → IntsAt W A (ints ks)) → (∀ W, Apart b w W → MillVal W mv m) →
      Row w b L (fun i => (own i : Int)) → L ≤ cO → (∀ i, i < L → own i + sumP ks < N) →
      Calls Tryz.prog 63 #[mv, .slice tA L tc, .slice A ks.length c, .slice (some ⟨b, 0, none⟩) L cO] w fun e w' => e = .returned (.int .i64 (shareF t L ks own)) ∧ Ext w w' := by
  intro ks
  induction ks with
  | nil =>
    intro _ _ A c own w hc1 hc2 hT hI hMv hrow hcO hbd
    obtain ⟨A1, c1, A2, c2, rfl, -, -, -, -, -, -⟩ := hMv w (Apart.refl _ _)
    have hE := Ext.alloc w (.cells #[.slice A1 m.laced.length c1, .int .i64 m.change, .slice A2 m.orders.length c2] 35)
    have hT' := Lib.hid (hT w (Apart.refl _ _))
    clear hT hI hMv
    have Hbd := Lib.hid hbd; clear hbd
    have Ht := Lib.hid ht; clear ht
    have hrow1 := hrow.ext hE
    have hT1 : Hid (OwnR _ base (.slice tA L tc) (tabOf t N L)) := hT'.out.ext hE
    clear hrow hT'
    go_enter Tryz.func63, Tryz.ntmps63
    go_wp2_with fail
    generalize w.alloc _ = W at *
    have hszW : w.heap.size ≤ W.heap.size := hE.size
    go_loopw [9, 10] (fun sv lv wr => ∃ (k : Nat) (sm : Int), k ≤ L ∧ lv = .int .i64 k ∧ sv = .int .i64 sm ∧ Hid (sumT t own k = sm) ∧ (0 ≤ sm ∧ sm ≤ 1000 * k) ∧ Ext W wr) (fun _ lv _ => L - (intOf lv).toNat)
    case atStart => exact ⟨0, 0, by omega, rfl, rfl, rfl, by omega, Ext.refl _⟩
    case round =>
      obtain ⟨k, sm, hk, rfl, rfl, hsm, hsb, heW⟩ := hrel
      by_cases hlt : k < L
      · have hown := Hbd.out k hlt
        rw [show sumP [] = 0 from rfl, Nat.add_zero] at hown
        obtain ⟨tb, A', c', rfl, -, q1, q2⟩ := (hT1.out.ext heW).tab rfl hlt
        obtain ⟨b', o', rfl, q3⟩ := q2 (own k) hown
        clear q2
        have hkr := (hrow1.ext heW).cell hlt
        have htb := Ht.out k (own k)
        have hsT : Hid (sumT t own (k + 1) = if t k (own k) < 0 then -1 else sm + t k (own k)) := by
          unfold Hid; rw [sumT, hsm.out, if_neg (by omega)]
        have hneg : Hid (t k (own k) < 0 → sumT t own L = -1) := fun h => by
          have := sumT_neg t own k h (L - (k + 1))
          rwa [show k + 1 + (L - (k + 1)) = L by omega] at this
        obtain ⟨tv, htv⟩ : ∃ tv, t k (own k) = tv := ⟨_, rfl⟩
        rw [htv] at q3 htb
        simp only [htv] at hsT hneg
        clear htv
        obtain ⟨ok, hok⟩ : ∃ ok, own k = ok := ⟨_, rfl⟩
        simp only [hok] at q3 hkr hown
        clear hok
        by_cases h0 : tv < 0
        · go_wp2_with fail
          go_quiet (fail)
          go_wp2_with fail
          go_ret
          exact ⟨congrArg (fun x => Ending.returned (Value.int .i64 x)) (hneg.out h0).symm, hE.trans (heW.trans (Ext.drewN _ _))⟩
        · have hd0 : decide (tv < 0) = false := by simpa using h0
          go_wp2_with fail
          go_quiet (fail)
          go_wp2_with fail
          go_quiet (fail)
          go_wp2_with fail
          go_roundw
          case rel =>
            refine ⟨k + 1, sm + tv, by omega, by go_num, by first | rfl | go_num, by unfold Hid; rw [hsT.out, if_neg (by omega)], by omega, heW.trans (Ext.drewN _ _)⟩
          case measure => simp [intOf]; omega
      · have hke : k = L := by omega
        subst hke
        go_wp2_with fail
        go_ret
        exact ⟨congrArg (fun x => Ending.returned (Value.int .i64 x)) hsm.out.symm, hE.trans heW⟩
  | cons k ks ih =>
    intro h7 hk7 A c own w hc1 hc2 hT hI hMv hrow hcO hbd
    obtain ⟨A1, c1, A2, c2, rfl, -, -, -, -, -, -⟩ := hMv w (Apart.refl _ _)
    have hE := Ext.alloc w (.cells #[.slice A1 m.laced.length c1, .int .i64 m.change, .slice A2 m.orders.length c2] 35)
    have hM := Blk.new w 35 #[.slice A1 m.laced.length c1, .int .i64 m.change, .slice A2 m.orders.length c2]
    have hbw := hrow.lt
    have hrow1 := hrow.ext hE
    have HT := Lib.hid hT; have HI := Lib.hid hI; have HM := Lib.hid hMv; have Hbd := Lib.hid hbd; have Ht := Lib.hid ht; have IH := Lib.hid ih
    have hk := hk7 k (by simp)
    have Hk7 := Lib.hid hk7
    clear hT hI hMv hbd ht ih hrow hk7
    have hl0 : ∃ bl ol, A = some ⟨bl, ol, none⟩ ∧ (w.alloc (.cells #[.slice A1 m.laced.length c1, .int .i64 m.change, .slice A2 m.orders.length c2] 35)).cell? ⟨bl, ol, none⟩ = some (.int .i64 (k : Nat)) := by
      obtain ⟨bl, ol, e1, e2⟩ := HI.out _ (Apart.of_ext hE) 0 (by unfold ints; simp)
      exact ⟨bl, ol, e1, by simpa [ints] using e2⟩
    obtain ⟨bl, ol, rfl, hl0⟩ := hl0
    have hd0 : ((ks.length : Int) + 1 == 0) = false := by simp; omega
    have hlen : (k :: ks).length = ks.length + 1 := rfl
    rw [hlen] at h7 hc1 ⊢
    clear hlen
    have hM0 := hM.c3
    have hsz0 : w.heap.size < (w.alloc (.cells #[.slice A1 m.laced.length c1, .int .i64 m.change, .slice A2 m.orders.length c2] 35)).heap.size := by simp
    go_enter Tryz.func63, Tryz.ntmps63
    go_wp2_with fail
    generalize w.alloc _ = W at *
    clear hM0
    go_loopw [12, 13] (fun bv iv wr => ∃ (j bt : Nat), j ≤ k ∧ iv = .int .i64 j ∧ bv = .int .i64 bt ∧ Hid (bt = 2 ^ j) ∧ bt ≤ 64 ∧ wr = W) (fun _ iv _ => k - (intOf iv).toNat)
    case atStart => exact ⟨0, 1, by omega, rfl, rfl, rfl, by omega, rfl⟩
    case round =>
      obtain ⟨j, bt, hj, rfl, rfl, hbt, hb64, rfl⟩ := hrel
      by_cases hlt : j < k
      · go_wp2_with fail
        go_roundw
        case rel =>
          refine ⟨j + 1, 2 * bt, by omega, by go_num, by go_num, by unfold Hid; rw [hbt.out, Nat.pow_succ]; omega, ?_, trivial⟩
          have h1 : 2 ^ (j + 1) ≤ 2 ^ 6 := Nat.pow_le_pow_right (by omega) (by omega)
          have h2 : (2 : Nat) ^ 6 = 64 := by decide
          have h3 := hbt.out
          rw [Nat.pow_succ] at h1
          omega
        case measure => simp [intOf]; omega
      · have hje : j = k := by omega
        subst hje
        go_wp2_with fail
        obtain ⟨W, hW⟩ : ∃ W, W = wr := ⟨_, rfl⟩
        rw [← hW] at hE hM hrow1 hl0 hsz0 ⊢
        clear hW
        obtain ⟨f, hf⟩ : ∃ f : Nat → Int, (fun i => shareF t L ks (bump own i j)) = f := ⟨_, rfl⟩
        have hfb : ∀ i, -1 ≤ f i ∧ f i ≤ 3000 := fun i => by
          rw [← hf]
          have := shareF_bd t L (fun i s => (Ht.out i s).2) ks (bump own i j)
          dsimp only; omega
        have HF := Lib.hid hf; clear hf
        go_loopw [11, 14] (fun bv lv wr => ∃ (jj : Nat) (bst : Int), jj ≤ L ∧ lv = .int .i64 jj ∧ bv = .int .i64 bst ∧ Hid (bestOf ((List.range jj).map f) = bst) ∧ (-1 ≤ bst ∧ bst ≤ 3000) ∧ Ext W wr) (fun _ lv _ => L - (intOf lv).toNat)
        case atStart => exact ⟨0, -1, by omega, rfl, rfl, rfl, by omega, Ext.refl _⟩
        case round =>
          obtain ⟨jj, bst, hjj, rfl, rfl, hbst, hbb, heW⟩ := hrel
          by_cases hlt : jj < L
          · have heWr := hE.trans heW
            have hrowr := hrow1.ext heW
            have hcx := hrowr.cell hlt
            have hfx := hrowr.frozen jj
            have hox0 := Hbd.out jj hlt
            have hsp : sumP (j :: ks) = bt + sumP ks := by rw [hbt.out]; rfl
            have hap0 : Apart b w (wr.setCell ⟨b, jj, none⟩ (.int .i64 ((own jj : Int) + (bt : Int)))) := (Apart.of_ext heWr).set_ jj _
            have hapr0 : Apart b wr (wr.setCell ⟨b, jj, none⟩ (.int .i64 ((own jj : Int) + (bt : Int)))) := (Apart.refl b wr).set_ jj _
            have hrow2 : Row (wr.setCell ⟨b, jj, none⟩ (.int .i64 ((own jj : Int) + (bt : Int)))) b L (fun i => (bump own jj j i : Nat)) := (hrowr.set_ hlt _).congr fun i _ => by
              unfold bump
              by_cases e : i = jj
              · subst e; simp [hbt.out]
              · simp [e]
            have hM2 := (hM.ext heW).far (p := ⟨b, jj, none⟩) (by show _ ≠ b; omega) (.int .i64 ((own jj : Int) + (bt : Int)))
            have hbW : b < wr.heap.size := hrowr.lt
            go_wp2_with fail
            clear hcx hfx
            generalize wr.setCell _ _ = W1 at *
            obtain ⟨sv, hsv⟩ : ∃ sv, f jj = sv := ⟨_, rfl⟩
            have hsvb := hfb jj
            rw [hsv] at hsvb
            have Hsv := Lib.hid hsv; clear hsv
            have HC : Hid (∀ (W' : World), Ext W1 W' → ∀ (A' : Option Addr) (c' : Nat), ks.length ≤ c' → c' ≤ maxLen → (∀ W, Apart b w W → IntsAt W A' (ints ks)) → Calls Tryz.prog 63 #[.agg #[.slice A1 m.laced.length c1, .int .i64 m.change, .slice A2 m.orders.length c2], .slice tA L tc, .slice A' ks.length c', .slice (some ⟨b, 0, none⟩) L cO] W' fun e w' => e = .returned (.int .i64 sv) ∧ Ext W' w') := fun W' hW' A' c' g1 g2 g3 => by
              have hap1 : Apart b w W' := hap0.trans (Apart.of_ext hW')
              have h := IH.out (by omega) (fun k hk => Hk7.out k (by simp [hk])) A' c' (bump own jj j) W' g1 g2 (fun W h => HT.out W (hap1.trans h)) (fun W h => g3 W (hap1.trans h)) (fun W h => HM.out W (hap1.trans h)) (hrow2.ext hW') hcO (fun i hi => by
                have h1 := Hbd.out i hi
                unfold bump
                have h2 := hbt.out
                split <;> omega)
              have e : shareF t L ks (bump own jj j) = sv := by rw [← Hsv.out, ← HF.out]
              rw [e] at h
              exact h
            go_wp2_with fail
            refine wp_region_facts 6 (by kernel_rfl) (by kernel_rfl) (fun W' => Ext W1 W') (shR (.agg #[.slice A1 m.laced.length c1, .int .i64 m.change, .slice A2 m.orders.length c2]) (.slice tA L tc) (.slice (some ⟨bl, ol, none⟩) (ks.length + 1) c) (.slice (some ⟨b, 0, none⟩) L cO) ks b w sv) (Ext.drew _) ?_ ?_
            · simp only [List.take, AllOps, fill, Act.put, List.setIfInBounds_toArray, List.set_cons_zero, List.set_cons_succ, Nat.reduceAdd, Deps, and_true]
              refine ⟨?_, ?_, ?_, ?_, ?_, ?_⟩
              case refine_4 =>
                intro x W' hG hd K Q hK
                simp only [shR] at hd
                simp only [hd] at hK ⊢
                have HK := Lib.hid hK; clear hK
                by_cases hc1' : c = 1
                · have hks : ks = [] := List.eq_nil_of_length_eq_zero (by omega)
                  have hkl : ks.length = 0 := by omega
                  subst hc1'
                  go_wp2_with fail
                  exact HK.out _ _ ⟨some ⟨bl, ol, none⟩, 0, by rw [hkl], by omega, by simp [maxLen], fun W _ i hi => absurd hi (by rw [hks]; simp [ints])⟩ hG (fun _ _ h => h)
                · have hci : (c == 1) = false := by simp; omega
                  go_wp2_with fail
                  refine HK.out _ _ ⟨some ⟨bl, ol + 1, none⟩, c - 1, by simp, by omega, by omega, fun W h => (HI.out W h).part (i := 1) (fun i hi => ?_)⟩ hG (fun _ _ h => h)
                  unfold ints at hi ⊢
                  rw [List.length_map] at hi
                  refine ⟨by simp; omega, ?_⟩
                  rw [Nat.add_comm 1 i]; simp
              case refine_6 =>
                intro x W' hG hd K Q hK
                simp only [shR] at hd
                obtain ⟨d0, d1, ⟨A', c', d3, g1, g2, g3⟩, d4⟩ := hd
                simp only [d0, d1, d3, d4] at hK ⊢
                have HK := Lib.hid hK; clear hK d0 d1 d3 d4
                have Hg3 := Lib.hid g3; clear g3
                go_wp2_with fail
                refine (HC.out W' hG A' c' g1 g2 Hg3.out).mono ?_
                rintro e w' ⟨rfl, he'⟩
                go_wp2
                exact HK.out _ _ rfl (hG.trans he') shR.same
              all_goals
                intro x W' hG hd K Q hK
                try (simp only [shR] at hd; simp only [hd] at hK ⊢)
                have HK := Lib.hid hK; clear hK
                obtain ⟨k0, k1, k2⟩ := (hM2.ext hG).c3
                go_wp2_with fail
                exact HK.out _ _ rfl hG (fun _ _ h => h)
            intro x W2 he2 hR
            simp only [AllR, shR, true_and] at hR
            obtain ⟨_, r5⟩ := hR
            simp only [List.take, List.drop, fill, Act.put, List.setIfInBounds_toArray, List.set_cons_zero, List.set_cons_succ, Nat.reduceAdd, r5]
            clear r5
            have hrow3 := hrow2.ext he2
            have hapw := hapr0.trans (Apart.of_ext (b := b) he2)
            have hcx := hrow3.cell hlt
            have hbj : (bump own jj j jj : Nat) = own jj + bt := by unfold bump; rw [if_pos rfl, hbt.out]
            rw [hbj] at hcx
            have hfx := hrow3.frozen jj
            have hback : Ext wr (W2.setCell ⟨b, jj, none⟩ (.int .i64 (own jj : Nat))) := by
              refine Apart.back (N := L) (f := fun i => (own i : Int)) (hapw.set_ jj _) hrowr ((hrow3.set_ hlt (own jj : Int)).congr fun i _ => ?_)
              by_cases e : i = jj
              · subst e; simp
              · simp [bump, e]
            have hres : Hid (bestOf ((List.range (jj + 1)).map f) = if 0 ≤ sv ∧ (bst < 0 ∨ sv < bst) then sv else bst) := by
              unfold Hid
              rw [List.range_succ, List.map_append, List.map_singleton, bestOf_snoc, hbst.out, Hsv.out]
            have hox : ((own jj + bt : Nat) : Int) - (bt : Int) = (own jj : Int) := by omega
            have Hback := Lib.hid hback; clear hback
            clear hrow3 hrow2 hM2 hapw hap0 hapr0 he2 HC hbj
            by_cases g0 : 0 ≤ sv
            · by_cases g1 : bst < 0
              · go_wp2_with fail
                go_roundw
                case rel => exact ⟨jj + 1, sv, by omega, by go_num, rfl, by unfold Hid; rw [hres.out, if_pos ⟨g0, .inl g1⟩], by omega, heW.trans (by simpa [hox] using Hback.out)⟩
                case measure => simp [intOf]; omega
              · have hd1 : decide (bst < 0) = false := by simpa using g1
                by_cases g2 : sv < bst
                · go_wp2_with fail
                  go_roundw
                  case rel => exact ⟨jj + 1, sv, by omega, by go_num, rfl, by unfold Hid; rw [hres.out, if_pos ⟨g0, .inr g2⟩], by omega, heW.trans (by simpa [hox] using Hback.out)⟩
                  case measure => simp [intOf]; omega
                · have hd2 : decide (sv < bst) = false := by simpa using g2
                  go_wp2_with fail
                  go_roundw
                  case rel => exact ⟨jj + 1, bst, by omega, by go_num, rfl, by unfold Hid; rw [hres.out, if_neg (by omega)], by omega, heW.trans (by simpa [hox] using Hback.out)⟩
                  case measure => simp [intOf]; omega
            · have hd0' : decide (0 ≤ sv) = false := by simpa using g0
              go_wp2_with fail
              go_roundw
              case rel => exact ⟨jj + 1, bst, by omega, by go_num, rfl, by unfold Hid; rw [hres.out, if_neg (by omega)], by omega, heW.trans (by simpa [hox] using Hback.out)⟩
              case measure => simp [intOf]; omega
          · have hje : jj = L := by omega
            subst hje
            go_wp2_with fail
            go_ret
            refine ⟨congrArg (fun x => Ending.returned (Value.int .i64 x)) ?_, hE.trans heW⟩
            have h := hbst.out
            rw [← HF.out] at h
            exact h.symm
end Go.Proofs.Pet

namespace Go.Proofs.Pet
open Go Go.RowKit Go.Maps Go.Shelf

theorem sumP_mask : ∀ ks : List Nat, sumP ks = maskOf (fun _ => 0) ks 0
  | [] => rfl
  | k :: ks => by rw [sumP, maskOf, if_pos rfl, sumP_mask ks]
theorem sumP_bits {n s : Nat} (hn : n ≤ 60) (hs : s < 2 ^ n) : sumP (bits n s) = s := by
  rw [sumP_mask]
  apply Nat.eq_of_testBit_eq
  intro b
  rw [maskOf_testBit _ _ _ _ (nodup_bits n s) (fun k hk => by have := (mem_bits.1 hk).1; omega)]
  cases hb : s.testBit b
  · rw [decide_eq_false_iff_not]
    rintro ⟨h, _⟩
    rw [(mem_bits.1 h).2] at hb
    exact absurd hb (by simp)
  · rw [decide_eq_true_eq]
    exact ⟨mem_bits.2 ⟨lt_of_bit hs hb, hb⟩, rfl⟩
theorem OwnI.apart {w W : World} {base b : Nat} {e : TypeId} {v : Value} {xs : List Int} (h : OwnI w base e v xs) (hne : v.ownBlock ≠ some b) (ha : Apart b w W) : OwnI W base e v xs := by
  obtain ⟨h1, h2⟩ := h
  refine ⟨h1, ?_⟩
  rcases h2 with h2 | ⟨g, cap, cur, rfl, hg1, hb, r⟩
  · exact .inl h2
  · refine .inr ⟨g, cap, cur, rfl, hg1, ?_, r⟩
    rw [← hb]
    exact ha.block g (Array.getElem?_eq_some_iff.1 hb).1 (fun e => hne (by rw [e]; rfl))
theorem tabAll_tabOf (m : Mill) (N L : Nat) : tabAll m N L = tabOf (tabR m) N L := rfl
theorem tabR_bd {m : Mill} (hch : checkE m = 0) (l s : Nat) : -1 ≤ tabR m l s ∧ tabR m l s ≤ 1000 := by
  obtain ⟨l1, l2, l3⟩ := check_len hch
  unfold tabR
  split
  · obtain ⟨h1, h2, h3⟩ := bestI_least m l (rowsF (bits m.orders.length s).length (intsOf (bits m.orders.length s)))
    refine ⟨h3, ?_⟩
    by_cases e : 0 ≤ (bestI m l (rowsF (bits m.orders.length s).length (intsOf (bits m.orders.length s)))).2
    · obtain ⟨x, hx, _, hc⟩ := h2 e
      have hlen : (intsOf (bits m.orders.length s)).length = (bits m.orders.length s).length := by unfold intsOf; simp
      rw [rowsF_mem _ _ hlen] at hx
      have h4 := chR_bd m l (rvI x)
      have h5 : (rvI x).length = x.length := by unfold rvI; simp
      have h6 := hx.length_eq
      have h7 := bits_length_le m.orders.length s
      rw [hc]
      omega
    · omega
  · omega
def fewS (S N s L M : Nat) (mv tv : Value) (A1 : Option Addr) (c1 Lb n : Nat) (r : Int) : Nat → Value → World → Prop
  | 0 => fun v _ => v = .slice (some ⟨S, 0, none⟩) N N
  | 1 => fun v _ => v = .int .i64 s
  | 2 => fun v _ => v = mv
  | 3 => fun v _ => v = tv
  | 4 => fun v _ => v = mv
  | 5 => fun v _ => v = .int .i64 s
  | 6 => fun v W => OwnI W Lb 3 v (ints (bits n s))
  | 7 => fun v _ => v = .pointer (some ⟨M, 0, none⟩)
  | 8 => fun v _ => v = .slice A1 L c1
  | 9 => fun v _ => v = .int .i64 L
  | 10 => fun v W => ∃ b, v = .slice (some ⟨b, 0, none⟩) L L ∧ Lb ≤ b ∧ Row W b L (fun _ => 0)
  | 11 => fun v _ => v = .int .i64 r
  | _ => fun _ _ => True
theorem fewS.ext {S N s L M : Nat} {mv tv : Value} {A1 : Option Addr} {c1 Lb n : Nat} {r : Int} {w w' : World} (he : Ext w w') (j : Nat) (v : Value) (h : fewS S N s L M mv tv A1 c1 Lb n r j v w) : fewS S N s L M mv tv A1 c1 Lb n r j v w' := by
  match j, h with
  | 0, h | 1, h | 2, h | 3, h | 4, h | 5, h | 7, h | 8, h | 9, h | 11, h => exact h
  | 6, h => exact OwnI.ext h he
  | 10, ⟨b, h1, h2, h3⟩ => exact ⟨b, h1, h2, h3.ext he⟩
  | _ + 12, h => trivial
def fewAp (i : Nat) (u : Value) (j : Nat) (v : Value) : Prop := (i = 6 ∧ j = 10) ∨ (i = 10 ∧ j = 6) → ∀ g, u.ownBlock = some g → v.ownBlock ≠ some g

set_option maxRecDepth 20000 in
set_option maxHeartbeats 4000000 in
theorem fewest_any (v : Value) (m : Mill) (hch : checkE m = 0) (N : Nat) (hN : N = 2 ^ m.orders.length) (w : World) (hv : MillVal w v m) :
    Calls Tryz.prog 88 #[v] w fun e w' => ∃ S, e = .returned (.slice (some ⟨S, 0, none⟩) N N) ∧ w.heap.size ≤ S ∧ Row w' S N (fewR m) ∧ Ext w w' := by
  have Hv := Lib.hid hv
  obtain ⟨A1, c1, A2, c2, rfl, h2, h3, h4, h5, h6, h7⟩ := hv
  have hE := Ext.alloc w (.cells #[.slice A1 m.laced.length c1, .int .i64 m.change, .slice A2 m.orders.length c2] 35)
  have hM := Blk.new w 35 #[.slice A1 m.laced.length c1, .int .i64 m.change, .slice A2 m.orders.length c2]
  obtain ⟨l1, l2, l3⟩ := check_len hch
  have Hch := Lib.hid hch; clear hch
  have hNb : 1 ≤ N ∧ N ≤ 128 := by
    have h1 : 2 ^ m.orders.length ≤ 2 ^ 7 := Nat.pow_le_pow_right (by omega) l3
    have h2 : (2 : Nat) ^ 7 = 128 := by decide
    have h3 := Nat.two_pow_pos m.orders.length
    omega
  have HN := Lib.hid hN; clear hN
  have htab := Lib.hid (table_any _ m Hch.out N HN.out _ (Hv.out.ext hE))
  have hmk : ∀ (K : Nat), K ≤ 128 → ∀ W : World, (Instr.makeSlice 22 (.int .i64 (K : Int)) (.int .i64 (K : Int))).run Tryz.prog W = .ok (.slice (some ⟨W.heap.size, 0, none⟩) K K) (W.alloc (.cells (Array.replicate K (.int .i64 0)) 3)) := by
    intro K hK
    obtain ⟨ti2, hi2, hy0, hy1, hy2⟩ := info_parts info_int
    intro W
    have := run_make (P := Tryz.prog) W 22 3 ti2 _ Tryz.underlying22 hi2 hy0 .i64 .i64 K K (by omega) (by omega) (by rw [hy2]; omega) (by omega)
    have e : madeCells #[Value.int .i64 0] K = Array.replicate K (.int .i64 0) := by
      apply Array.ext
      · simp [madeCells]
      · intro j h1 h2
        simp [madeCells, Nat.mod_one]
    simpa [hy1, Value.cells, e] using this
  have hmkN := hmk N (by omega)
  have hmkL := hmk m.laced.length (by omega)
  clear hmk h6 h7 h3 h5
  obtain ⟨k0, k1, k2⟩ := hM.c3
  go_enter Tryz.func88, Tryz.ntmps88
  go_wp2_with fail
  refine htab.out.mono ?_
  rintro e w1 ⟨tv, rfl, hT, he1⟩
  have hE1 := hE.trans he1
  have hM1 := hM.ext he1
  have hsz1 : w.heap.size + 1 ≤ w1.heap.size := by have := he1.size; simp at this; omega
  clear hM hE he1 k0 k1 k2 htab
  obtain ⟨k0, k1, k2⟩ := hM1.c3
  have hsets := Lib.hid (sets5_any _ m (by omega) N HN.out w1 (Hv.out.ext hE1))
  go_wp2_with fail
  refine hsets.out.mono ?_
  rintro e w2 ⟨rfl, he2⟩
  have hE2 := hE1.trans he2
  have hM2 := hM1.ext he2
  have hT2 := hT.ext he2
  have hsz2 := Nat.le_trans hsz1 he2.size
  clear hM1 hE1 he2 hsets hT hsz1 k0 k1 k2
  rw [tabAll_tabOf] at hT2
  obtain ⟨tA, tc, rfl, t1, t2, t3, t4⟩ := hT2.open_
  have hTl : (tabOf (tabR m) N m.laced.length).length = m.laced.length := by unfold tabOf; simp
  rw [hTl] at hT2 t1 ⊢
  have HT2 := Lib.hid hT2
  clear t3 t4 hT2 hTl
  have hX := Ext.alloc w2 (.cells (Array.replicate N (.int .i64 0)) 3)
  have hR0 := Row.const (Blk.new w2 3 (Array.replicate N (.int .i64 0)))
  go_wp2_with fail
  obtain ⟨S, hS⟩ : ∃ S, w2.heap.size = S := ⟨_, rfl⟩
  rw [hS] at hR0 ⊢
  have hS1 : w.heap.size + 1 ≤ S := by omega
  go_loopw [5] (fun sv wr => ∃ s : Nat, s ≤ N ∧ sv = .int .i64 s ∧ Ext w2 wr ∧ Row wr S N (fun j => if j < s then fewR m j else 0)) (fun sv _ => N - (intOf sv).toNat)
  case atStart => exact ⟨0, by omega, rfl, hX, hR0.congr (fun j _ => by simp)⟩
  case round =>
    clear hX hR0
    obtain ⟨s, hs, rfl, heW, hRow⟩ := hrel
    by_cases hlt : s < N
    · have hMr := hM2.ext heW
      have hs2 : s < 2 ^ m.orders.length := HN.out ▸ hlt
      have hbl := bits_length_le m.orders.length s
      have hil : (ints (bits m.orders.length s)).length = (bits m.orders.length s).length := by unfold ints; simp
      have hcS := hRow.cell hlt
      obtain ⟨r, hr⟩ : ∃ r, fewR m s = r := ⟨_, rfl⟩
      have Hr := Lib.hid hr; clear hr
      have hszr := heW.size
      go_wp2_with fail
      refine wp_region_apart 12 (by kernel_rfl) (by kernel_rfl) (fun W' => Ext wr W') (fewS S N s m.laced.length w.heap.size (.agg #[.slice A1 m.laced.length c1, .int .i64 m.change, .slice A2 m.orders.length c2]) (.slice tA m.laced.length tc) A1 c1 wr.heap.size m.orders.length r) fewAp (Ext.drew _) ?_ ?_
      · simp only [List.take, AllOps2, fill, Act.put, List.setIfInBounds_toArray, List.set_cons_zero, List.set_cons_succ, Nat.reduceAdd, Deps, DepsL, List.filter_cons, List.filter_nil, Region.binds, if_true, and_true]
        refine ⟨?_, ?_, ?_, ?_, ?_, ?_, ?_, ?_, ?_, ?_, ?_, ?_⟩
        all_goals
          intro Ld x W' hG hnl hLR hAp hdl hd K Q hK
        case refine_7 =>
          simp only [fewS] at hd
          simp only [hd] at hK ⊢
          have HK := Lib.hid hK; clear hK
          have HL := Lib.hid hLR; clear hLR hAp hdl
          have hlist := Lib.hid (list5_any _ m s (by omega) (by omega) W' (Hv.out.ext (hE2.trans (heW.trans hG))))
          go_wp2_with fail
          refine hlist.out.mono ?_
          rintro e w' ⟨rv, rfl, hrv, he'⟩
          go_wp2
          refine HK.out _ _ (hrv.mono hG.size) (hG.trans he') (fun j hj => ⟨fewS.ext he' j _ (HL.out j hj), .inl fun h => ?_⟩)
          have hj10 : j = 10 := by omega
          subst hj10
          obtain ⟨b, e1, _, hb⟩ := HL.out 10 hj
          intro g hg e
          rw [e1] at hg
          have h1 : b = g := Option.some.inj hg
          obtain ⟨Ar, cr, e2, _, _, _, h5, _⟩ := hrv.open_
          subst e2
          cases Ar with
          | none => cases e
          | some ar =>
            have h6 : ar.block = g := Option.some.inj e
            have := (h5 ar rfl).1
            have := hb.lt
            omega
        case refine_11 =>
          simp only [fewS] at hd
          simp only [hd] at hK ⊢
          have HK := Lib.hid hK; clear hK
          have HL := Lib.hid hLR; clear hLR hAp hdl hd
          go_wp2_with fail
          refine HK.out _ _ ⟨_, rfl, hG.size, Row.const (Blk.new _ _ _)⟩ (hG.trans (Ext.alloc _ _)) (fun j hj => ⟨fewS.ext (Ext.alloc _ _) j _ (HL.out j hj), .inl fun h => ?_⟩)
          have hj6 : j = 6 := by omega
          subst hj6
          have h2 : OwnI W' wr.heap.size 3 (x 6) (ints (bits m.orders.length s)) := HL.out 6 hj
          obtain ⟨Ar, cr, e2, _, _, _, h5, _⟩ := h2.open_
          intro g hg e
          have h1 : W'.heap.size = g := Option.some.inj e
          rw [e2] at hg
          cases Ar with
          | none => cases hg
          | some ar =>
            have h6 : ar.block = g := Option.some.inj hg
            have := (h5 ar rfl).2.1
            omega
        case refine_12 =>
          have hld : Ld 6 ∧ Ld 10 := by grind
          have hap := hAp 6 10 hld.1 hld.2 (by omega)
          have hx6 : OwnI W' wr.heap.size 3 (x 6) (ints (bits m.orders.length s)) := hLR 6 hld.1
          obtain ⟨b, hx10, hb1, hb2⟩ := hLR 10 hld.2
          have hx2 : x 2 = _ := hd.1
          have hx3 : x 3 = _ := hd.2.1
          obtain ⟨Al, cl, hxl, q1, q2, q3, q4, q5⟩ := hx6.open_
          have hne : (x 6).ownBlock ≠ some b := by
            intro e
            rcases hap with h | h
            · exact h (.inl ⟨rfl, rfl⟩) b e (by rw [hx10]; rfl)
            · exact h (.inr ⟨rfl, rfl⟩) b (by rw [hx10]; rfl) e
          rw [hil] at hxl q1
          have heA := heW.trans hG
          have hcall := Lib.hid (shared_any (tabR m) (tabR_bd Hch.out) N m.laced.length l2 (by omega) _ b m.laced.length (.agg #[.slice A1 m.laced.length c1, .int .i64 m.change, .slice A2 m.orders.length c2]) m tA tc (bits m.orders.length s) (by omega)
            (fun k hk => by have := (mem_bits.1 hk).1; omega) Al cl (fun _ => 0) W' q1 q2 (fun V hV => HT2.out.ext (Apart.ext_of heA (by omega) hV)) (fun V hV => by
              have h := hx6.apart hne hV
              obtain ⟨Al', cl', e', _, _, h3, _⟩ := h.open_
              rw [hxl] at e'
              simp only [Value.slice.injEq] at e'
              rw [e'.1]; exact h3) (fun V hV => Hv.out.ext (hE2.trans (Apart.ext_of heA (by omega) hV)))
            hb2 (Nat.le_refl _) (fun i hi => by rw [sumP_bits (by omega) hs2]; omega))
          have hfr : shareF (tabR m) m.laced.length (bits m.orders.length s) (fun _ => 0) = r := Hr.out
          rw [hfr] at hcall
          simp only [hx2, hx3, hxl, hx10] at hK ⊢
          have HK := Lib.hid hK; clear hK
          have HL := Lib.hid hLR; clear hLR hAp hdl hd hx2 hx3 hx10 hap hx6 hne hb2 q3 q4 q5
          clear hxl
          go_wp2_with fail
          refine hcall.out.mono ?_
          rintro e w' ⟨rfl, he'⟩
          go_wp2
          exact HK.out _ _ rfl (hG.trans he') (fun j hj => ⟨fewS.ext he' j _ (HL.out j hj), .inl fun h => absurd h (by omega)⟩)
        all_goals
          try (simp only [fewS] at hd; simp only [hd] at hK ⊢)
          have HK := Lib.hid hK; clear hK
          have HL := Lib.hid hLR; clear hLR hAp hdl
          obtain ⟨k0, k1, k2⟩ := (hMr.ext hG).c3
          go_wp2_with fail
          exact HK.out _ _ rfl hG (fun j hj => ⟨HL.out j hj, .inl fun h => absurd h (by omega)⟩)
      · intro x W7 hG _ hR
        simp only [AllR, fewS, true_and] at hR
        obtain ⟨⟨⟨⟨⟨⟨⟨⟨⟨⟨⟨r0, r1⟩, _⟩, _⟩, _⟩, _⟩, _⟩, _⟩, _⟩, _⟩, _⟩, r11⟩ := hR
        simp only [List.take, List.drop, fill, Act.put, List.setIfInBounds_toArray, List.set_cons_zero, List.set_cons_succ, Nat.reduceAdd, r0, r1, r11]
        clear r0 r1 r11
        have hR7 := hRow.ext hG
        have hc7 := hR7.cell hlt
        have hf7 := hR7.frozen s
        go_wp2_with fail
        go_roundw
        case rel =>
          refine ⟨s + 1, by omega, by go_num, Below.setCell (heW.trans hG) (by show _ ≤ S; omega) _, (hR7.set_ hlt r).congr fun j _ => ?_⟩
          by_cases e : j = s
          · subst e; simp [Hr.out]
          · by_cases e2 : j < s
            · rw [if_neg e, if_pos e2, if_pos (by omega)]
            · rw [if_neg e, if_neg e2, if_neg (by omega)]
        case measure => simp [intOf]; omega
    · have hse : s = N := by omega
      subst hse
      go_wp2_with fail
      go_ret
      exact ⟨S, rfl, by omega, hRow.congr (fun j hj => by simp [hj]), hE2.trans heW⟩
end Go.Proofs.Pet

namespace Go.Proofs.Pet
open Go Go.RowKit Go.Maps Go.Shelf

theorem aheadB_drop {a b : List Int} {k : Nat} (ha : k < a.length) (hb : k < b.length) : aheadB (a.drop k) (b.drop k) = if a[k]?.getD 0 = b[k]?.getD 0 then aheadB (a.drop (k + 1)) (b.drop (k + 1)) else decide (a[k]?.getD 0 < b[k]?.getD 0) := by
  rw [List.drop_eq_getElem_cons ha, List.drop_eq_getElem_cons hb, aheadB]
  simp [ha, hb]
theorem aheadB_end {a b : List Int} {k : Nat} (ha : k ≤ a.length) (hb : k ≤ b.length) (h : ¬ (k < a.length ∧ k < b.length)) : aheadB (a.drop k) (b.drop k) = decide (a.length < b.length) := by
  by_cases e : k < a.length
  · have e2 : b.length ≤ k := by omega
    rw [List.drop_eq_getElem_cons e, List.drop_of_length_le e2, aheadB]
    simp; omega
  · rw [List.drop_of_length_le (by omega : a.length ≤ k)]
    by_cases e2 : k < b.length
    · rw [List.drop_eq_getElem_cons e2, aheadB]
      simp; omega
    · rw [List.drop_of_length_le (by omega), aheadB]
      simp; omega
set_option maxRecDepth 20000 in
set_option maxHeartbeats 1000000 in
theorem ahead_any (A B : Option Addr) (c d : Nat) (xs ys : List Int) (q : Bool) (hq : aheadB xs ys = q) (w : World) (hb : xs.length ≤ maxLen) (hx : IntsAt w A xs) (hy : IntsAt w B ys) :
    Calls Tryz.prog 129 #[.slice A xs.length c, .slice B ys.length d] w fun e w' => e = .returned (.bool q) ∧ Ext w w' := by
  unfold maxLen at hb
  have Hq := Lib.hid hq; clear hq
  go_enter Tryz.func129, Tryz.ntmps129
  go_wp2
  go_loopw [5] (fun i wr => ∃ k : Nat, k ≤ xs.length ∧ k ≤ ys.length ∧ i = .int .i64 k ∧ Hid (aheadB xs ys = aheadB (xs.drop k) (ys.drop k)) ∧ Ext w wr) (fun i _ => xs.length - (intOf i).toNat)
  case atStart => exact ⟨0, by omega, by omega, rfl, by simp [Hid], Ext.refl _⟩
  case round =>
    obtain ⟨k, hk, hk2, rfl, hm, he⟩ := hrel
    by_cases hlt : k < xs.length
    · by_cases hlt2 : k < ys.length
      · obtain ⟨b, o, rfl, h1⟩ := hx.ext he k hlt
        obtain ⟨b2, o2, rfl, h2⟩ := hy.ext he k hlt2
        have hst : Hid (aheadB xs ys = if xs[k]?.getD 0 = ys[k]?.getD 0 then aheadB (xs.drop (k + 1)) (ys.drop (k + 1)) else decide (xs[k]?.getD 0 < ys[k]?.getD 0)) := by
          unfold Hid; rw [hm.out, aheadB_drop hlt hlt2]
        generalize xs[k]?.getD 0 = x at *
        generalize ys[k]?.getD 0 = y at *
        by_cases hxy : x = y
        · subst hxy
          have hd : (x != x) = false := by simp
          go_wp2_with fail
          go_quiet (fail)
          go_wp2
          go_roundw
          case rel => exact ⟨k + 1, by omega, by omega, by go_num, by unfold Hid; rw [hst.out]; simp, he.trans (Ext.drewN _ _)⟩
          case measure => simp [intOf]; omega
        · have hd : (x != y) = true := by simpa using hxy
          have Hxy := Lib.hid hxy; clear hxy
          go_wp2_with fail
          go_quiet (fail)
          go_wp2_with fail
          go_quiet (fail)
          go_wp2_with fail
          go_ret
          refine ⟨?_, he.trans ((Ext.drewN _ _).trans (Ext.drewN _ _))⟩
          rw [← Hq.out, hst.out, if_neg Hxy.out]; rfl
      · have hd2 : decide ((k : Int) < (ys.length : Int)) = false := by simp; omega
        go_wp2_with fail
        go_ret
        refine ⟨?_, he⟩
        rw [← Hq.out, hm.out, aheadB_end hk hk2 (by omega)]
        have : decide ((xs.length : Int) < (ys.length : Int)) = decide (xs.length < ys.length) := decide_eq_decide.2 (by omega)
        rw [← this]; rfl
    · have hd2 : decide ((k : Int) < (xs.length : Int)) = false := by simp; omega
      go_wp2_with fail
      go_ret
      refine ⟨?_, he⟩
      rw [← Hq.out, hm.out, aheadB_end hk hk2 (by omega)]
      have : decide ((xs.length : Int) < (ys.length : Int)) = decide (xs.length < ys.length) := decide_eq_decide.2 (by omega)
      rw [← this]; rfl
theorem before_any (A B : Option Addr) (c d : Nat) (xs ys : List Int) (q : Bool) (hq : beforeB xs ys = q) (w : World) (hb : xs.length ≤ maxLen) (hx : IntsAt w A xs) (hy : IntsAt w B ys) :
    Calls Tryz.prog 138 #[.slice A xs.length c, .slice B ys.length d] w fun e w' => e = .returned (.bool q) ∧ Ext w w' := by
  by_cases hl : xs.length = ys.length
  · have hc : aheadB xs ys = q := by rw [← hq]; unfold beforeB; rw [if_pos hl]
    have H := Lib.hid (ahead_any A B c d xs ys q hc w hb hx hy)
    have hne : ((xs.length : Int) != (ys.length : Int)) = false := by rw [hl]; simp
    clear hq hc hx hy hl
    go_enter Tryz.func138, Tryz.ntmps138
    go_wp2_with fail
    refine H.out.mono ?_
    rintro e w' ⟨rfl, he⟩
    go_wp2
    go_ret
    exact ⟨rfl, he⟩
  · have hc : decide (xs.length < ys.length) = q := by rw [← hq]; unfold beforeB; rw [if_neg hl]
    have hne : ((xs.length : Int) != (ys.length : Int)) = true := by simp; omega
    have Hc := Lib.hid hc
    clear hq hc hx hy hl
    go_enter Tryz.func138, Tryz.ntmps138
    go_wp2_with fail
    go_ret
    refine ⟨?_, Ext.refl _⟩
    have : decide ((xs.length : Int) < (ys.length : Int)) = decide (xs.length < ys.length) := decide_eq_decide.2 (by omega)
    rw [← Hc.out, ← this]; rfl
def lateItem (m : Mill) (s : Nat) : Bool × List Int := (decide (0 ≤ fewR m s), intsOf (bits m.orders.length (2 ^ m.orders.length - 1 - s)))
theorem range_map_succ {α : Type} (f : Nat → α) (k : Nat) : (List.range (k + 1)).map f = (List.range k).map f ++ [f k] := by
  rw [List.range_succ, List.map_append]; rfl
set_option maxRecDepth 20000 in
set_option maxHeartbeats 1000000 in
theorem late5_any (v : Value) (m : Mill) (hch : checkE m = 0) (N S : Nat) (hN : N = 2 ^ m.orders.length) (w : World) (hv : MillVal w v m) (hR : Row w S N (fewR m)) :
    Calls Tryz.prog 89 #[v, .slice (some ⟨S, 0, none⟩) N N] w fun e w' => ∃ r, e = .returned r ∧ SlI w' r ((lateR m).getD []) ∧ Ext w w' := by
  have Hv := Lib.hid hv
  obtain ⟨A1, c1, A2, c2, rfl, h2, h3, h4, h5, h6, h7⟩ := hv
  have hE := Ext.alloc w (.cells #[.slice A1 m.laced.length c1, .int .i64 m.change, .slice A2 m.orders.length c2] 35)
  have hM := Blk.new w 35 #[.slice A1 m.laced.length c1, .int .i64 m.change, .slice A2 m.orders.length c2]
  obtain ⟨l1, l2, l3⟩ := check_len hch
  have Hch := Lib.hid hch; clear hch
  have hNb : 1 ≤ N ∧ N ≤ 128 := by
    have h1 : 2 ^ m.orders.length ≤ 2 ^ 7 := Nat.pow_le_pow_right (by omega) l3
    have h2 : (2 : Nat) ^ 7 = 128 := by decide
    have h3 := Nat.two_pow_pos m.orders.length
    omega
  have HN := Lib.hid hN; clear hN
  clear h6 h7 h3 h5
  go_enter Tryz.func89, Tryz.ntmps89
  go_wp2_with fail
  go_loopw [5, 6, 7] (fun bv fv sv wr => ∃ (s : Nat) (o : Option (List Int)), s ≤ N ∧ sv = .int .i64 s ∧ fv = .bool o.isSome ∧ Hid (pickB ((List.range s).map (lateItem m)) = o) ∧ Hid (SlI wr bv (o.getD [])) ∧ Ext w wr ∧ Blk wr w.heap.size 35 #[.slice A1 m.laced.length c1, .int .i64 m.change, .slice A2 m.orders.length c2]) (fun _ _ sv _ => N - (intOf sv).toNat)
  case atStart => exact ⟨0, none, by omega, rfl, rfl, rfl, SlI.nil _, hE, hM⟩
  case round =>
    obtain ⟨s, o, hs, rfl, rfl, ho, hb, he, hMr⟩ := hrel
    by_cases hlt : s < N
    · obtain ⟨k0, k1, k2⟩ := hMr.c3
      obtain ⟨off, hoff⟩ : ∃ off : Nat, off = N - 1 - s := ⟨_, rfl⟩
      have hoff2 : (N : Int) - 1 - (s : Int) = (off : Int) := by omega
      have hlist := Lib.hid (list5_any _ m off (by omega) (by omega) wr (Hv.out.ext he))
      have hitem : Hid (lateItem m s = (decide (0 ≤ fewR m s), ints (bits m.orders.length off))) := by
        unfold Hid lateItem; rw [hoff, HN.out]; rfl
      clear hoff
      go_wp2_with fail
      refine hlist.out.mono ?_
      rintro e w2 ⟨r2, rfl, hr2, he2⟩
      have hl := hr2.sl
      obtain ⟨AL, cL, rfl, q1, q2, q3⟩ := hl
      have hil : (ints (bits m.orders.length off)).length ≤ 7 := by unfold ints; have := bits_length_le m.orders.length off; rw [List.length_map]; omega
      have heA := he.trans he2
      have hMA := hMr.ext he2
      have hbA : Hid (SlI w2 u5 (o.getD [])) := hb.out.ext he2
      have hcell := (hR.ext heA).cell hlt
      clear hr2 hlist he2 hb he hMr k0 k1 k2
      obtain ⟨l, hl⟩ : ∃ l, ints (bits m.orders.length off) = l := ⟨_, rfl⟩
      rw [hl] at q1 q3 hil ⊢
      simp only [hl] at hitem
      clear hl
      obtain ⟨t, ht⟩ : ∃ t, fewR m s = t := ⟨_, rfl⟩
      rw [ht] at hcell
      simp only [ht] at hitem
      clear ht
      have hst : Hid (pickB ((List.range (s + 1)).map (lateItem m)) = if decide (0 ≤ t) = true ∧ (∀ b, o = some b → beforeB l b = true) then some l else o) := by
        unfold Hid; rw [range_map_succ, pickB_snoc, ho.out, hitem.out]
      have hsl : Hid (SlI w2 (.slice AL l.length cL) l) := ⟨AL, cL, rfl, q1, q2, q3⟩
      have Hq3 := Lib.hid q3; clear q3
      by_cases h0 : 0 ≤ t
      · cases o with
        | none =>
          simp only [Option.isSome_none]
          go_wp2_with fail
          go_roundw
          case rel => exact ⟨s + 1, some l, by omega, by go_num, rfl, by unfold Hid; rw [hst.out, if_pos ⟨by simpa using h0, by simp⟩], hsl, heA, hMA⟩
          case measure => simp [intOf]; omega
        | some bb =>
          simp only [Option.isSome_some, Option.getD_some] at hbA ⊢
          obtain ⟨AB, cB, rfl, p1, p2, p3⟩ := hbA.out
          obtain ⟨q, hq⟩ : ∃ q, beforeB l bb = q := ⟨_, rfl⟩
          have hbef := Lib.hid (before_any AL AB cL cB l bb q hq w2 (by unfold maxLen; omega) Hq3.out p3)
          have Hq := Lib.hid hq; clear hq p3
          go_wp2_with fail
          refine hbef.out.mono ?_
          rintro e w3 ⟨rfl, he3⟩
          cases q with
          | true =>
            go_wp2_with fail
            go_roundw
            case rel => exact ⟨s + 1, some l, by omega, by go_num, rfl, by unfold Hid; rw [hst.out, if_pos ⟨by simpa using h0, fun b e => by injection e with e; rw [← e]; exact Hq.out⟩], hsl.out.ext he3, heA.trans he3, hMA.ext he3⟩
            case measure => simp [intOf]; omega
          | false =>
            go_wp2_with fail
            go_roundw
            case rel => exact ⟨s + 1, some bb, by omega, by go_num, rfl, by unfold Hid; rw [hst.out, if_neg]; rintro ⟨_, g⟩; have := g bb rfl; rw [Hq.out] at this; exact absurd this (by simp), hbA.out.ext he3, heA.trans he3, hMA.ext he3⟩
            case measure => simp [intOf]; omega
      · have hd0 : decide (0 ≤ t) = false := by simpa using h0
        go_wp2_with fail
        go_roundw
        case rel => exact ⟨s + 1, o, by omega, by go_num, rfl, by unfold Hid; rw [hst.out, if_neg]; rintro ⟨g, _⟩; rw [hd0] at g; exact absurd g (by simp), hbA, heA, hMA⟩
        case measure => simp [intOf]; omega
    · have hse : s = N := by omega
      subst hse
      go_wp2_with fail
      go_ret
      refine ⟨_, rfl, ?_, he⟩
      have h : lateR m = o := by
        have := ho.out
        rw [HN.out] at this
        exact this
      rw [h]; exact hb.out
end Go.Proofs.Pet
