/-
  What weavers add in an order of coming, walked: power's Adds.
-/
import Derived.Test.YtjlglbhafopomaaGreatPBA
namespace Go.Proofs.Pet
set_option linter.unusedSimpArgs false
open Go Go.RowKit Go.Maps Go.Shelf
open Go.Proofs.Pow (PM Sh Wv POk Up)

def natL (g : List Int) : List Nat := g.map Int.toNat
theorem ints_natL {m : PM} {g : List Int} (h : Pow.InG m g) : ints (natL g) = g := by
  unfold ints natL
  rw [List.map_map]
  refine (List.map_congr_left fun x hx => ?_).trans (List.map_id g)
  have := h x hx
  show ((x.toNat : Nat) : Int) = id x
  simp only [id]
  omega
theorem natL_ints (l : List Nat) : natL (ints l) = l := by
  unfold ints natL
  rw [List.map_map]
  exact (List.map_congr_left fun x _ => rfl).trans (List.map_id l)
theorem nodup_all {n : Nat} {l : List Nat} (hn : l.Nodup) (hl : l.length = n) (hb : ∀ x, x ∈ l → x < n) {k : Nat} (hk : k < n) : k ∈ l := by
  by_cases h : k ∈ l
  · exact h
  · have := Pow.nodup_le (r := List.range n) (List.nodup_cons.2 ⟨h, hn⟩) fun x hx => by
      rcases List.mem_cons.1 hx with rfl | hx
      · exact List.mem_range.2 hk
      · exact List.mem_range.2 (hb x hx)
    rw [List.length_cons, List.length_range] at this
    omega
def addsE (m : PM) (g : List Int) : Int := if checkP m ≠ 0 then checkP m else if g.length ≠ m.wvs.length then 2 else groupE m g
/-- what has been written down after i of them -/
def addR (m : PM) (l : List Nat) (i k : Nat) : Int := if (l.take i).contains k then Pow.addF m l (l.findIdx fun x => decide (x = k)) else 0
theorem addR_zero (m : PM) (l : List Nat) (k : Nat) : addR m l 0 k = 0 := by simp [addR]
theorem addR_next {m : PM} {l : List Nat} (hn : l.Nodup) {i : Nat} (hi : i < l.length) (k : Nat) : (if k = l[i] then Pow.addF m l i else addR m l i k) = addR m l (i + 1) k := by
  unfold addR
  have ht : l.take (i + 1) = l.take i ++ [l[i]] := by rw [List.take_add_one, List.getElem?_eq_getElem hi]; rfl
  rw [ht]
  by_cases e : k = l[i]
  · subst e
    rw [if_pos rfl, if_pos (List.contains_iff_mem.2 (List.mem_append.2 (.inr (List.mem_singleton.2 rfl)))), Pow.findIdx_at hn hi]
  · rw [if_neg e]
    have : (l.take i ++ [l[i]]).contains k = (l.take i).contains k := by
      rw [Bool.eq_iff_iff, List.contains_iff_mem, List.contains_iff_mem, List.mem_append, List.mem_singleton]
      exact ⟨fun h => h.resolve_right e, .inl⟩
    rw [this]
theorem addR_all {m : PM} {l : List Nat} (_hl : l.length = m.wvs.length) (hall : ∀ k, k < m.wvs.length → k ∈ l) : (List.range m.wvs.length).map (addR m l l.length) = Pow.addsF m l := by
  unfold Pow.addsF
  refine List.map_congr_left fun k hk => ?_
  unfold addR
  rw [List.take_of_length_le (Nat.le_refl _), if_pos (by rw [List.contains_iff_mem]; exact hall k (List.mem_range.1 hk))]

set_option maxRecDepth 20000 in
set_option maxHeartbeats 1000000 in
theorem Adds_any (v : Value) (m : PM) (A : Option Addr) (c n : Nat) (g : List Int) (hn : g.length = n) (r : Int) (x : List Int) (hr : addsE m g = r) (hx : (if r = 0 then Pow.addsF m (natL g) else []) = x) (w : World) (hv : PMVal w v m) (hl : n ≤ maxLen) (hlc : n ≤ c) (hA : IntsAt w A g) :
    Calls Tryz.prog 41 #[v, .slice A n c] w fun e w' => ∃ u, e = .returned (.tuple #[u, .int .i64 r]) ∧ OwnI w' w.heap.size 3 u x ∧ Ext w w' := by
  obtain ⟨ti, hi, hz0, hz1, hz2⟩ := info_parts info_int
  subst hn
  have hl' := hl
  unfold maxLen at hl'
  have Hv := Lib.hid hv
  obtain ⟨A1, c1, A2, c2, rfl, h2, h3, h4, h5, h6, h7⟩ := hv
  have hwl : m.wvs.length ≤ maxLen := Nat.le_trans h4 h5
  unfold maxLen at hwl
  have hE := Ext.alloc w (.cells #[.slice A1 m.shafts.length c1, .slice A2 m.wvs.length c2] 26)
  have hM := Blk.new w 26 #[.slice A1 m.shafts.length c1, .slice A2 m.wvs.length c2]
  obtain ⟨k0, k1⟩ := hM.c2
  have HM := Lib.hid hM
  have Hr := Lib.hid hr; have Hx := Lib.hid hx
  have hck := pcheck_any _ m _ (Hv.out.ext hE)
  obtain ⟨cp, hcp⟩ : ∃ cp, checkP m = cp := ⟨_, rfl⟩
  rw [hcp] at hck
  have Hck := Lib.hid hck; have Hcp := Lib.hid hcp
  clear h6 h7 hM hr hx hck hcp
  go_enter Tryz.func41, Tryz.ntmps41
  go_wp2_with fail
  refine Hck.out.mono ?_
  rintro e w1 ⟨rfl, he1⟩
  have hE1 := hE.trans he1
  have hM1 := HM.out.ext he1
  clear k0 k1 he1
  obtain ⟨k0, k1⟩ := hM1.c2
  by_cases h0 : cp = 0
  · subst h0
    by_cases hle : g.length = m.wvs.length
    · have Hle := Lib.hid hle
      have hdl : ((g.length : Int) != (m.wvs.length : Int)) = false := by rw [hle]; simp
      clear hle
      obtain ⟨r0, hr0⟩ : ∃ r0, groupE m g = r0 := ⟨_, rfl⟩
      have ho := Lib.hid (grouped_any _ m A c g.length g rfl r0 hr0 w1 (Hv.out.ext hE1) hl hlc (hA.ext hE1))
      have Hr0 := Lib.hid hr0; clear hr0
      obtain rfl : r = r0 := by rw [← Hr.out, ← Hr0.out]; unfold addsE; rw [if_neg (by simp [Hcp.out]), if_neg (by simp [Hle.out])]
      go_wp2_with fail
      refine ho.out.mono ?_
      rintro e w2 ⟨pv, rfl, he2, hop⟩
      have hE2 := hE1.trans he2
      by_cases h0 : r = 0
      · subst h0
        obtain ⟨D, rfl, hD, -⟩ := hop rfl
        obtain ⟨hc, hg, hnd, hl6⟩ := groupE_ok Hr0.out
        have hm := (checkP_iff m).1 hc
        have HD := Lib.hid hD; have HA := Lib.hid (hA.ext hE2); have Hm := Lib.hid hm
        have hgl : ints (natL g) = g := ints_natL hg
        have hnl : (natL g).length = g.length := by simp [natL]
        have hndl : (natL g).Nodup := by
          rw [← hgl] at hnd
          exact (List.pairwise_map.1 hnd).imp fun h e => h (congrArg _ e)
        have Hx' : Hid (Pow.addsF m (natL g) = x) := by unfold Hid; rw [← Hx.out, if_pos rfl]
        have hbl : ∀ k, k ∈ natL g → k < m.wvs.length := fun k hk => by
          unfold natL at hk
          obtain ⟨y, hy, rfl⟩ := List.mem_map.1 hk
          have := hg y hy; omega
        have Hg := Lib.hid hg; have Hgl := Lib.hid hgl; have Hnl := Lib.hid hnl; have Hndl := Lib.hid hndl; have Hbl := Lib.hid hbl
        have hmk : ∀ W : World, (Instr.makeSlice 31 (.int .i64 (g.length : Int)) (.int .i64 (g.length : Int))).run Tryz.prog W = .ok (.slice (some ⟨W.heap.size, 0, none⟩) g.length g.length) (W.alloc (.cells (madeCells #[.int .i64 0] g.length) 3)) := by
          intro W
          have := run_make (P := Tryz.prog) W 31 3 ti _ Tryz.underlying31 hi hz0 .i64 .i64 g.length g.length (by omega) (by omega) (by rw [hz2]; omega) (by omega)
          simpa [hz1, Value.cells] using this
        have hX := Ext.alloc w2 (.cells (madeCells #[.int .i64 0] g.length) 3)
        have hS := Row.made (Blk.new w2 3 (madeCells #[.int .i64 0] g.length))
        clear hD hc hA ho hop hm hgl hnl hndl hbl hg hnd hdl k0 k1
        go_wp2_with fail
        clear hmk
        obtain ⟨S, hSe⟩ : ∃ S, w2.heap.size = S := ⟨_, rfl⟩
        rw [hSe] at hS ⊢
        have hS0 := hS.congr (g := addR m (natL g) 0) fun j _ => (addR_zero m _ j).symm
        generalize w2.alloc _ = w3 at *
        have HSe := Lib.hid hSe
        clear hS hSe
        go_loopw [37] (fun i wr => ∃ k : Nat, k ≤ g.length ∧ i = .int .i64 (k : Int) ∧ Ext w2 wr ∧ Row wr S g.length (addR m (natL g) k)) (fun i _ => g.length - (intOf i).toNat)
        case atStart => exact ⟨0, Nat.zero_le _, rfl, hX, hS0⟩
        case round =>
          clear hX hS0
          obtain ⟨i, hi', rfl, hew, hR⟩ := hrel
          by_cases hlt : i < g.length
          · obtain ⟨b, o, rfl, q1⟩ := HA.out.ext hew i hlt
            have hil : i < (natL g).length := by rw [Hnl.out]; exact hlt
            obtain ⟨kk, hkk⟩ : ∃ kk, (natL g)[i] = kk := ⟨_, rfl⟩
            have hgi : g[i]?.getD 0 = (kk : Int) := by
              rw [← Hgl.out, ints_get _ hil, List.getElem?_eq_getElem hil, ← hkk]; rfl
            rw [hgi] at q1
            have hkl : kk < m.wvs.length := Hbl.out kk (hkk ▸ List.getElem_mem hil)
            have hkl' : kk < g.length := by rw [Hle.out]; exact hkl
            have Hnx : Hid (∀ k, (if k = kk then Pow.addF m (natL g) i else addR m (natL g) i k) = addR m (natL g) (i + 1) k) := fun k => by rw [← hkk]; exact addR_next Hndl.out hil k
            have hca := Pow.cost_bounds Hm.out (Pow.befB (natL g) (i + 1))
            have hcb := Pow.cost_bounds Hm.out (Pow.befB (natL g) i)
            have hck : ∀ j, Pow.costF m (fun k => (g.take j).contains (k : Int)) = Pow.costF m (Pow.befB (natL g) j) := fun j => by
              congr 1
              funext k
              have : g.take j = ints ((natL g).take j) := by
                conv => lhs; rw [← Hgl.out]
                unfold ints; rw [List.map_take]
              rw [this, ints_contains]; rfl
            have Hadd : Hid (Pow.addF m (natL g) i = Pow.costF m (Pow.befB (natL g) (i + 1)) - Pow.costF m (Pow.befB (natL g) i)) := rfl
            obtain ⟨ca, hcae⟩ : ∃ ca, Pow.costF m (Pow.befB (natL g) (i + 1)) = ca := ⟨_, rfl⟩
            obtain ⟨cb, hcbe⟩ : ∃ cb, Pow.costF m (Pow.befB (natL g) i) = cb := ⟨_, rfl⟩
            rw [hcae] at hca Hadd
            rw [hcbe] at hcb Hadd
            have HcA := fun W (hW : Ext w2 W) => cost_any D m Hm.out (some ⟨b, o, none⟩) c (i + 1) (g.take (i + 1)) (by rw [List.length_take]; omega) (fun y hy => Hg.out y (List.mem_of_mem_take hy)) (by omega) ca ((hck _).trans hcae) W (HD.out.ext hW) ((HA.out.ext hW).take (i + 1))
            have HcB := fun W (hW : Ext w2 W) => cost_any D m Hm.out (some ⟨b, o, none⟩) c i (g.take i) (by rw [List.length_take]; omega) (fun y hy => Hg.out y (List.mem_of_mem_take hy)) (by omega) cb ((hck _).trans hcbe) W (HD.out.ext hW) ((HA.out.ext hW).take i)
            have HCA := Lib.hid HcA; have HCB := Lib.hid HcB
            have hic : i + 1 ≤ c := by omega
            clear HcA HcB hck hcae hcbe hkk hgi
            go_upto_region 13 with fail
            clear q1
            refine wp_region_chain 14 [(7, true), (12, true), (13, true)] [] (by kernel_rfl) (by kernel_rfl) (by kernel_rfl) ?_
            simp only [List.take, List.drop, fill, Act.put, List.setIfInBounds_toArray, List.set_cons_zero, List.set_cons_succ, Nat.reduceAdd]
            repeat (first
              | refine Floats.mut rfl ?_
              | (apply Floats.float rfl
                 · intro x W he hd K Q hK
                   try (have he := he (by decide))
                   try simp only [edges, DepsE, List.filter_cons, List.filter_nil, Region.binds, if_true, and_true, true_and, upd, Nat.reduceEqDiff, if_false] at hd
                   try simp only [hd] at hK ⊢
                   have HK := Lib.hid hK; clear hK
                   go_wp2_with fail
                   exact HK.out))
            refine Floats.done fun W he hG => ?_
            refine Chain.cons _ rfl ?_
            intro x hd K Q hK
            try simp only [edges, DepsE, List.filter_cons, List.filter_nil, Region.binds, if_true, and_true, true_and, upd, Nat.reduceEqDiff, if_false] at hd
            try simp only [hd] at hK ⊢
            clear hd
            have HK := Lib.hid hK; clear hK
            go_wp2_with fail
            refine (HCA.out W (hew.trans he)).mono ?_
            rintro e w4 ⟨rfl, he4⟩
            have hA4 := he.trans he4
            go_wp2_with fail
            refine HK.out _ _ (fun _ => hA4) ?_
            clear HK he he4 hG
            refine Chain.cons _ rfl ?_
            intro x hd K Q hK
            try simp only [edges, DepsE, List.filter_cons, List.filter_nil, Region.binds, if_true, and_true, true_and, upd, Nat.reduceEqDiff, if_false] at hd
            try simp only [hd] at hK ⊢
            clear hd
            have HK := Lib.hid hK; clear hK
            go_wp2_with fail
            refine (HCB.out w4 (hew.trans hA4)).mono ?_
            rintro e w5 ⟨rfl, he5⟩
            have hA5 := hA4.trans he5
            go_wp2_with fail
            refine HK.out _ _ (fun _ => hA5) ?_
            clear HK hA4 he5
            refine Chain.cons _ rfl ?_
            intro x hd K Q hK
            try simp only [edges, DepsE, List.filter_cons, List.filter_nil, Region.binds, if_true, and_true, true_and, upd, Nat.reduceEqDiff, if_false] at hd
            try simp only [hd] at hK ⊢
            clear hd
            have HK := Lib.hid hK; clear hK
            go_wp2_with fail
            refine HK.out _ _ (fun _ => hA5) ?_
            clear HK
            refine Chain.nil ?_
            simp only [upd, Nat.reduceEqDiff, if_false, if_true]
            have hR5 := hR.ext hA5
            have hcell := hR5.cell hkl'
            have hfr := hR5.frozen kk
            have hE5 := hew.trans hA5
            go_wp2_with fail
            go_roundw
            case rel =>
              refine ⟨i + 1, by omega, by go_num, Below.setCell hE5 (by show _ ≤ S; have := HSe.out; omega) _, (hR5.set_ hkl' (ca - cb)).congr fun j hj => ?_⟩
              rw [← Hnx.out, Hadd.out]
            case measure => simp [intOf]; omega
          · obtain rfl : i = g.length := by omega
            have hO := hR.own (base := S) (Nat.le_refl _) (by unfold maxLen; omega)
            have hxx : (List.range g.length).map (addR m (natL g) g.length) = x := by
              rw [← Hx'.out, ← addR_all (Hnl.out.trans Hle.out) fun k hk => nodup_all Hndl.out (Hnl.out.trans Hle.out) Hbl.out hk, Hnl.out, Hle.out]
            rw [hxx] at hO
            have HO := Lib.hid hO
            clear hO hxx hR
            go_wp2_with fail
            go_ret2
            exact ⟨_, rfl, HO.out.mono (by have := hE2.size; have := HSe.out; omega), hE2.trans hew⟩
      · obtain rfl : x = [] := by rw [← Hx.out, if_neg h0]
        have hd : (r != 0) = true := by simpa using h0
        clear h0 hop ho
        go_wp2_with fail
        go_ret2
        exact ⟨_, rfl, OwnI.nil _ _ _, hE2⟩
    · obtain rfl : r = 2 := by rw [← Hr.out]; unfold addsE; rw [if_neg (by simp [Hcp.out]), if_pos hle]
      obtain rfl : x = [] := by rw [← Hx.out]; rfl
      have hdl : ((g.length : Int) != (m.wvs.length : Int)) = true := by simp; omega
      go_wp2_with fail
      go_ret2
      exact ⟨_, rfl, OwnI.nil _ _ _, hE1⟩
  · obtain rfl : r = cp := by rw [← Hr.out, ← Hcp.out]; unfold addsE; rw [if_pos (by rw [Hcp.out]; exact h0)]
    obtain rfl : x = [] := by rw [← Hx.out, if_neg h0]
    have hd : (r != 0) = true := by simpa using h0
    clear h0
    go_wp2_with fail
    go_ret2
    exact ⟨_, rfl, OwnI.nil _ _ _, hE1⟩
end Go.Proofs.Pet
