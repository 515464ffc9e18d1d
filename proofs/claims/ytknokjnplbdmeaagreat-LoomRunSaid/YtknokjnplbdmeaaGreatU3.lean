/-
  The reference's test of plans; rows copied and compared.
-/
import Derived.Test.YtknokjnplbdmeaaGreatU2
namespace Go.Proofs.Pet
open Go Go.RowKit Go.Maps Go.Shelf

set_option maxRecDepth 20000 in
set_option maxHeartbeats 2000000 in
theorem planned5_any (v pv : Value) (m : Mill) (hch : checkE m = 0) (xss : List (List Int)) (r : Int) (hr : plE m xss = r) (hb : xss.flatten.length ≤ 1000) (hb2 : xss.length ≤ 1000) (w : World) (hv : MillVal w v m) (hp : RowsI w pv xss) :
    Calls Tryz.prog 85 #[v, pv] w fun e w' => e = .returned (.int .i64 r) ∧ Ext w w' := by
  obtain ⟨ti, hi, hz0, hz1, hz2⟩ := info_parts info_int
  obtain ⟨fl, hfl⟩ : ∃ fl, xss.flatten = fl := ⟨_, rfl⟩
  have Hfb := Lib.hid hb; clear hb
  have Hr := Lib.hid hr; clear hr
  have Hv := Lib.hid hv
  obtain ⟨A1, c1, A2, c2, rfl, h2, h3, h4, h5, h6, h7⟩ := hv
  have Hp := Lib.hid hp
  obtain ⟨PA, pc, rfl, g2, g3, g4⟩ := hp
  have G4 := Lib.hid g4; clear g4
  have Hfl' := Lib.hid (flat_le xss)
  unfold maxLen at g3
  have hE := Ext.alloc w (.cells #[.slice A1 m.laced.length c1, .int .i64 m.change, .slice A2 m.orders.length c2] 35)
  have hM := Blk.new w 35 #[.slice A1 m.laced.length c1, .int .i64 m.change, .slice A2 m.orders.length c2]
  clear h6 h7 h3 h5
  obtain ⟨k0, k1, k2⟩ := hM.c3
  have hr2 : Hid ((if xss.length ≠ m.laced.length then 2 else if listedE m fl ≠ 0 then listedE m fl else if weavesAll m xss = false then 8 else 0) = r) := by
    unfold Hid; rw [← Hr.out]; unfold plE; rw [if_neg (show ¬ (checkE m ≠ 0) by simp [hch]), hfl]
  have Hfl := Lib.hid hfl; clear hfl
  clear hch
  by_cases hlen : xss.length = m.laced.length
  · have hd1 : ((xss.length : Int) != (m.laced.length : Int)) = false := by simp; omega
    have hr3 : Hid ((if listedE m fl ≠ 0 then listedE m fl else if weavesAll m xss = false then 8 else 0) = r) := by
      unfold Hid; rw [← hr2.out, if_neg (show ¬ (xss.length ≠ m.laced.length) by simp [hlen])]
    clear hlen hr2
    obtain ⟨le, hle⟩ : ∃ le, listedE m fl = le := ⟨_, rfl⟩
    simp only [hle] at hr3
    have Hle := Lib.hid hle; clear hle
    go_enter Tryz.func85, Tryz.ntmps85
    go_wp2_with fail
    go_loopw [5, 6] (fun rv iv wr => ∃ k : Nat, k ≤ xss.length ∧ iv = .int .i64 k ∧ Ext w wr ∧ Blk wr w.heap.size 35 #[.slice A1 m.laced.length c1, .int .i64 m.change, .slice A2 m.orders.length c2] ∧ Hid (OwnI wr w.heap.size 3 rv (xss.take k).flatten)) (fun _ iv _ => xss.length - (intOf iv).toNat)
    case atStart => exact ⟨0, by omega, rfl, hE, hM, OwnI.nil _ _ _⟩
    case round =>
      clear k0 k1 k2
      obtain ⟨k, hk, rfl, he, hMr, ho⟩ := hrel
      obtain ⟨k0, k1, k2⟩ := hMr.c3
      by_cases hlt2 : k < xss.length
      · obtain ⟨b, o, u, e0, p1, A', c', rfl, p2, p3, p4⟩ := G4.out k hlt2
        subst e0
        obtain ⟨BB, cB, rfl, o1, o2, o3, o4, o5⟩ := ho.out.open_
        have O4 := Lib.hid o4; clear o3 o4 o5
        have p1' := he.cell p1
        have hn2 : Hid ((xss.take (k + 1)).flatten = (xss.take k).flatten ++ xss[k]?.getD []) := flat_take hlt2
        have hle := Hfl'.out (k + 1)
        rw [hn2.out, List.length_append] at hle
        have hle2 := Hfb.out
        have hsrc : Hid (Src wr A' ((xss[k]?.getD []).map (Value.int .i64))) := (p4.ext he).src
        clear p4
        obtain ⟨ys, hys⟩ : ∃ ys, xss[k]?.getD [] = ys := ⟨_, rfl⟩
        rw [hys] at p1 p1' p2 hle
        simp only [hys] at hn2 hsrc
        clear hys
        generalize hln : (xss.take k).flatten.length = L at *
        have HL := Lib.hid hln; clear hln
        have hszr := he.size
        have hrow : Hid (wr.ownsRow w.heap.size 3 1 (.slice BB L cB) L ((xss.take k).flatten.map (Value.int .i64))) := by
          have := ho.out
          unfold OwnI at this
          rw [HL.out] at this
          exact this
        have hne := ownsRow_ne_blk hrow.out hMr (by decide)
        go_wp2_with (at_builtin; refine wpList_app rfl _ _ 22 rfl w.heap.size 3 ti (.int .i64 0) 1 8 Tryz.underlying22 hi hz0 hz1 hz2 rfl (by decide) _ _ _ rfl hrow.out A' ys.length c' (ys.map (Value.int .i64)) rfl (by simp) hsrc.out one_ints ?c3 ?c4 ?c5 ?_; (case c3 => (unfold maxLen; omega)); (case c4 => omega); (case c5 => omega); intro v' w' hown' hg hblk)
        go_roundw
        case rel =>
          have hge := own_ge O4.out (L := L) (c := cB)
          refine ⟨k + 1, by omega, by go_num, Below.grown he hg hszr (fun j hj => hge j hj), hMr.grown hg hne, ?_⟩
          unfold Hid
          rw [hn2.out]
          unfold OwnI
          rw [List.map_append, List.length_append, HL.out]
          exact hown'
        case measure => simp [intOf]; omega
      · have hke : k = xss.length := by omega
        subst hke
        have h := ho.out
        rw [List.take_length, Hfl.out] at h
        obtain ⟨AF, cF, rfl, f1, f2, f3, _⟩ := h.open_
        have hli := Lib.hid (listed5_any _ m AF cF fl le Hle.out wr (Hv.out.ext he) f1 f2 f3)
        clear ho h f3
        go_wp2_with fail
        refine hli.out.mono ?_
        rintro e w2 ⟨rfl, he2⟩
        have hE2 := he.trans he2
        have hM2 := hMr.ext he2
        clear hE hM he hMr he2 hli k0 k1 k2
        by_cases hl0 : le = 0
        · have hrange := inB_range (listedE_ok (Hle.out.trans hl0)).1
          have Hrange := Lib.hid hrange; clear hrange
          have hr4 : Hid ((if weavesAll m xss = false then (8 : Int) else 0) = r) := by have := hr3.out; unfold Hid; rwa [if_neg (show ¬ (le ≠ 0) by simp [hl0])] at this
          have hdl0 : (le != 0) = false := by simp [hl0]
          clear hl0
          go_wp2_with fail
          go_loopw [8, 9] (fun iv _ wr => ∃ k : Nat, k ≤ xss.length ∧ iv = .int .i64 k ∧ Hid (∀ j, j < k → ((xss[j]?.getD []).all fun x => weavesI m j x) = true) ∧ Ext w wr ∧ Blk wr w.heap.size 35 #[.slice A1 m.laced.length c1, .int .i64 m.change, .slice A2 m.orders.length c2]) (fun iv _ _ => xss.length - (intOf iv).toNat)
          case atStart => exact ⟨0, by omega, rfl, fun j hj => absurd hj (by omega), hE2, hM2⟩
          case round =>
            clear hE2 hM2
            obtain ⟨k, hk, rfl, hall, he, hMr⟩ := hrel
            by_cases hlt : k < xss.length
            · obtain ⟨pb, po, u, e0, q1, hsl⟩ := G4.out k hlt
              subst e0
              obtain ⟨LA, lc, rfl, s1, s2, s3⟩ := hsl
              obtain ⟨ys, hys⟩ : ∃ ys, xss[k]?.getD [] = ys := ⟨_, rfl⟩
              have hin : Hid (∀ x, x ∈ ys → 0 ≤ x ∧ x < m.orders.length) := fun x hx' => Hrange.out x (Hfl.out ▸ mem_flat hlt (by rw [hys]; exact hx'))
              rw [hys] at q1 s1 s3
              have S3 := Lib.hid s3; clear s3
              have Hys := Lib.hid hys; clear hys
              unfold maxLen at s2
              obtain ⟨wo, hwo⟩ : ∃ wo, wo = wr := ⟨_, rfl⟩
              rw [← hwo] at he hMr ⊢
              clear hwo
              go_wp2_with fail
              go_loopw [9] (fun iv wr => ∃ j : Nat, j ≤ ys.length ∧ iv = .int .i64 j ∧ Hid (∀ i, i < j → weavesI m k (ys[i]?.getD 0) = true) ∧ Ext w wr ∧ Blk wr w.heap.size 35 #[.slice A1 m.laced.length c1, .int .i64 m.change, .slice A2 m.orders.length c2]) (fun iv _ => ys.length - (intOf iv).toNat)
              case atStart => exact ⟨0, by omega, rfl, fun j hj => absurd hj (by omega), he, hMr⟩
              case round =>
                clear he hMr
                obtain ⟨j, hj, rfl, hm, he, hMr⟩ := hrel
                obtain ⟨k0, k1, k2⟩ := hMr.c3
                have q1' := he.cell q1
                by_cases hltj : j < ys.length
                · obtain ⟨lb, lo, rfl, y1⟩ := S3.out j hltj
                  have y1' := he.cell y1
                  have hmem0 : (ys[j]?.getD 0) ∈ ys := by simp [hltj]
                  have hmem := Lib.hid hmem0; clear hmem0
                  generalize hgx : ys[j]?.getD 0 = y at *
                  have Hgx := Lib.hid hgx; clear hgx
                  obtain ⟨x, rfl, hx⟩ : ∃ x : Nat, y = x ∧ x < m.orders.length := by
                    have := hin.out y hmem.out
                    exact ⟨y.toNat, by omega, by omega⟩
                  obtain ⟨q, hq⟩ : ∃ q, weavesI m k x = q := ⟨_, rfl⟩
                  have hw := fun W (hW : Ext w W) => weaves5_any _ m k x hx q (by rw [← hq]; unfold weavesI; rw [Int.toNat_natCast]) W (Hv.out.ext hW)
                  have Hw := Lib.hid hw; clear hw
                  have Hq := Lib.hid hq; clear hq
                  go_wp2_with fail
                  go_still_tail 9, (by kernel_rfl)
                  change wpList _ _ _ _ _ wr.drew
                  go_wp2_with fail
                  refine (Hw.out _ (he.trans (Ext.drew _))).mono ?_
                  rintro e w3 ⟨rfl, he3⟩
                  have he4 := (Ext.drew wr).trans he3
                  cases q with
                  | false =>
                    have hr8 : r = 8 := by
                      rw [← hr4.out, weavesAll_false hlt (by rw [Hys.out]; exact all_false (p := fun x => weavesI m k x) hmem.out Hq.out)]; simp
                    subst hr8
                    go_wp2_with fail
                    go_ret
                    exact ⟨rfl, he.trans he4⟩
                  | true =>
                    have k0' := he4.cell k0
                    go_wp2_with fail
                    go_roundw
                    case rel =>
                      refine ⟨j + 1, by omega, by go_num, fun i hi' => ?_, he.trans he4, hMr.ext he4⟩
                      by_cases ei : i = j
                      · subst ei; rw [Hgx.out]; exact Hq.out
                      · exact hm.out i (by omega)
                    case measure => simp [intOf]; omega
                · go_wp2_with fail
                  go_roundw
                  case rel =>
                    refine ⟨k + 1, by omega, by go_num, fun i hi' => ?_, he, hMr⟩
                    by_cases ei : i = k
                    · subst ei
                      rw [Hys.out]
                      exact all_true_of (p := fun x => weavesI m i x) fun i' hi' => hm.out i' (by omega)
                    · exact hall.out i (by omega)
                  case measure => simp [intOf]; omega
            · have hr0 : r = 0 := by rw [← hr4.out, weavesAll_true fun j hj => hall.out j (by omega)]; simp
              subst hr0
              go_wp2_with fail
              go_ret
              exact ⟨rfl, he⟩
        · have hr0 : r = le := by rw [← hr3.out, if_pos hl0]
          have hd : (le != 0) = true := by simpa using hl0
          clear hl0
          subst hr0
          go_wp2_with fail
          go_ret
          exact ⟨rfl, hE2⟩
  · have hd1 : ((xss.length : Int) != (m.laced.length : Int)) = true := by simp; omega
    have hr3 : r = 2 := by rw [← hr2.out, if_pos hlen]
    clear hlen
    subst hr3
    go_enter Tryz.func85, Tryz.ntmps85
    go_wp2_with fail
    go_ret
    exact ⟨rfl, hE⟩
end Go.Proofs.Pet
