/-
  slices.Delete at []power.Weaver, at a list of the call's own.
-/
import Derived.Test.YtjlglbhafopomaaGreatPD9
import Derived.Deep.DeepAppendRoom
namespace Go.Proofs.Pet
set_option linter.unusedSimpArgs false
open Go Go.RowKit Go.Maps Go.Shelf
open Go.Proofs.Pow (PM Sh Wv POk Up)

theorem WvF.take {R : Value → Wv → Prop} : ∀ {cs : List Value} {xs : List Wv} (k : Nat), WvF R cs xs → WvF R (cs.take (k * 2)) (xs.take k)
  | [], [], k, _ => by simp [WvF]
  | _ :: _ :: _, _ :: _, 0, _ => by simp [WvF]
  | s :: u :: cs, x :: xs, k + 1, ⟨h1, h2, h3⟩ => by
    rw [show (k + 1) * 2 = k * 2 + 1 + 1 by omega]
    exact ⟨h1, h2, h3.take k⟩
theorem WvF.drop {R : Value → Wv → Prop} : ∀ {cs : List Value} {xs : List Wv} (k : Nat), WvF R cs xs → WvF R (cs.drop (k * 2)) (xs.drop k)
  | [], [], k, _ => by simp [WvF]
  | _ :: _ :: _, _ :: _, 0, h => h
  | s :: u :: cs, x :: xs, k + 1, ⟨h1, h2, h3⟩ => by
    rw [show (k + 1) * 2 = k * 2 + 1 + 1 by omega]
    exact h3.drop k
theorem WvF.ones {w : World} {base : Nat} {cs : List Value} {xs : List Wv} (h : WvF (ownW w base) cs xs) : ∀ u ∈ cs, u.oneCell' = true := h.one fun _ _ g => OwnI.one g
theorem zero_weaver (w : World) : (zeroValue 82).run Tryz.prog w = .ok (.agg #[.int .i64 0, .slice none 0 0]) w := by kernel_rfl
set_option maxRecDepth 20000 in
set_option maxHeartbeats 1000000 in
theorem deleteWv (base : Nat) (v : Value) (xs : List Wv) (w : World) (h : OwnWvs w base v xs) (hl : xs.length ≤ 1000) (i : Nat) (hi : i < xs.length) :
    Calls Tryz.prog 55 #[v, .int .i64 (i : Int), .int .i64 ((i : Int) + 1)] w fun e w' => ∃ v', e = .returned v' ∧ OwnWvs w' base v' (xs.eraseIdx i) ∧ w.grownBy w' v.ownBlock := by
  obtain ⟨j, hj⟩ : ∃ j, i + 1 = j := ⟨_, rfl⟩
  rw [show (i : Int) + 1 = (j : Int) by omega]
  obtain ⟨ti, hti, hx0, hx1, hx2⟩ := info_parts info_weaver
  obtain ⟨cs, hrow, hcs⟩ := h
  rcases hrow.2 with ⟨-, h0⟩ | ⟨g, cap, cur, rfl, hg, hb, hn, hm, hs, hc⟩
  · omega
  have hcl := hcs.length
  obtain ⟨n, hn'⟩ : ∃ n, xs.length = n := ⟨_, rfl⟩
  rw [hn'] at hn hc hcl hrow hl hi ⊢
  have hne : ((i : Int) == (j : Int)) = false := beq_eq_false_iff_ne.2 (by omega)
  have hr1 : w.ownsRow base 82 2 (.slice (some ⟨g, 0, none⟩) i cap) i (cs.take (i * 2)) :=
    ⟨by rw [List.length_take]; omega, .inr ⟨g, cap, cur, rfl, hg, hb, by omega, hm, hs, by rw [← hc, List.take_take, Nat.min_eq_left (by omega)]⟩⟩
  have hsl0 : ∃ ad : Addr, (∀ W : World, (Instr.slice 24 (.slice (some ⟨g, 0, none⟩) n cap) (some (.int .i64 (j : Int))) none none).run Tryz.prog W = .ok (.slice (some ad) (n - j) (cap - j)) W) ∧ ∀ k u, (cs.drop (j * 2))[k]? = some u → w.cell? (ad.add k) = some u := by
    have hsz : ∀ W : World, (sizeOf 82).run Tryz.prog W = .ok 2 W := fun W => by kernel_rfl
    by_cases hcj : cap = j
    · refine ⟨⟨g, 0, none⟩, fun W => ?_, fun k u hu => ?_⟩
      · rw [run_slice_l W 24 (some ⟨g, 0, none⟩) n cap Tryz.underlying24 .i64 (j : Int) (by omega) (by omega)]
        show Result.andThen ((sizeOf 82).run Tryz.prog W) _ = _
        rw [hsz W]
        show Result.ok (sliced (some ⟨g, 0, none⟩) (j : Int).toNat n cap 2) W = _
        unfold sliced
        rw [Int.toNat_natCast, if_pos hcj]
      · have : (cs.drop (j * 2)).length = 0 := by rw [List.length_drop]; omega
        rw [List.length_eq_zero_iff.1 this] at hu
        simp at hu
    · refine ⟨⟨g, j * 2, none⟩, fun W => ?_, fun k u hu => ?_⟩
      · rw [run_slice_l W 24 (some ⟨g, 0, none⟩) n cap Tryz.underlying24 .i64 (j : Int) (by omega) (by omega)]
        show Result.andThen ((sizeOf 82).run Tryz.prog W) _ = _
        rw [hsz W]
        show Result.ok (sliced (some ⟨g, 0, none⟩) (j : Int).toNat n cap 2) W = _
        unfold sliced
        rw [Int.toNat_natCast, if_neg hcj]
        simp [addr_off]
      · rw [List.getElem?_drop] at hu
        rw [addr_off]
        have := row_cell hb hc (j * 2 + k) u hu
        rwa [Nat.zero_add] at this
  obtain ⟨ad, hsl, hnews⟩ := hsl0
  have hdl : (cs.drop (j * 2)).length = (n - j) * 2 := by rw [List.length_drop]; omega
  have hap : Hid (∀ W, Ext w W → ∃ w', (Builtin.append_ #[24, 24] 24 #[.slice (some ⟨g, 0, none⟩) i cap, .slice (some ad) (n - j) (cap - j)]).run Tryz.prog W = .ok (.slice (some ⟨g, 0, none⟩) (n - 1) cap) w' ∧
      w'.ownsRow base 82 2 (.slice (some ⟨g, 0, none⟩) (n - 1) cap) (n - 1) (cs.take (i * 2) ++ cs.drop (j * 2)) ∧ W.grownBy w' (some g)) := fun W he => by
    have := run_append_own_spare (P := Tryz.prog) (w := W) base 24 24 82 ti 2 Tryz.underlying24 hti hx1 g i cap (cs.take (i * 2)) (ownsRow_ext2 hr1 he) ad (n - j) (cap - j) (cs.drop (j * 2)) hdl (fun k u hu => he.cell (hnews k u hu)) (fun u hu => hcs.ones u (List.mem_of_mem_drop hu)) (by omega)
    rwa [show i + (n - j) = n - 1 by omega] at this
  have Hcs := Lib.hid hcs; have Hj := Lib.hid hj; have Hn := Lib.hid hn'; have Hrow := Lib.hid hrow
  unfold maxLen at hm
  clear hr1 hnews hdl hcs hcl hc hb hs hrow hn'
  have hji : j = i + 1 := hj.symm
  clear hj
  go_enter Tryz.func55, Tryz.ntmps55
  have hij : i < j := by omega
  have hjn : j ≤ n := by omega
  clear hji
  go_upto_region 5 with fail
  refine wp_region_chain 7 [(6, false)] [] (by kernel_rfl) (by kernel_rfl) (by kernel_rfl) ?_
  simp only [List.take, List.drop, fill, Act.put, List.setIfInBounds_toArray, List.set_cons_zero, List.set_cons_succ, Nat.reduceAdd]
  repeat (first
    | refine Floats.mut rfl ?_
    | (apply Floats.float rfl
       · intro x W he hd K Q hK
         try (have he := he (by decide))
         try simp only [edges, DepsE, List.filter_cons, List.filter_nil, Region.binds, if_true, and_true, true_and, upd, Nat.reduceEqDiff, if_false] at hd
         try simp only [hd] at hK ⊢
         have HK := Lib.hid hK; clear hK
         go_wp2_with fail
         exact HK.out))
  refine Floats.done fun W he hG => ?_
  refine Chain.cons _ rfl ?_
  intro x hd K Q hK
  try simp only [edges, DepsE, List.filter_cons, List.filter_nil, Region.binds, if_true, and_true, true_and, upd, Nat.reduceEqDiff, if_false] at hd
  try simp only [hd] at hK ⊢
  clear hd
  have HK := Lib.hid hK; clear hK
  obtain ⟨w1, hrun, hown, hgr⟩ := hap.out W he
  have hfin : ∃ w2, (Builtin.clear_ #[24] 0 #[.slice (some ⟨g, (n - 1) * 2, none⟩) (n - (n - 1)) (cap - (n - 1))]).run Tryz.prog w1 = .ok (.tuple #[]) w2 ∧ OwnWvs w2 base (.slice (some ⟨g, 0, none⟩) (n - 1) cap) (xs.eraseIdx i) ∧ w.grownBy w2 (some g) := by
    rcases hown.2 with ⟨e, -⟩ | ⟨g', cap', cur1, e, hg1, hb1, hn1, hm1, hs1, hc1⟩
    · cases e
    simp only [Value.slice.injEq, Option.some.injEq, Addr.mk.injEq, and_true, true_and] at e
    obtain ⟨rfl, rfl⟩ := e
    obtain ⟨zs, hzs⟩ : ∃ zs, (Builtin.zeroCells (Value.agg #[.int .i64 0, .slice none 0 0]).cells (n - (n - 1))).toList = zs := ⟨_, rfl⟩
    have hn1' : n - (n - 1) = 1 := by omega
    have hz2 : zs = [.int .i64 0, .slice none 0 0] := by rw [← hzs, hn1']; kernel_rfl
    have hst := run_storeCells_at (P := Tryz.prog) g ((n - 1) * 2) 82 zs 0 cur1 w1 hb1 (by rw [hz2, hs1]; show (n - 1) * 2 + 0 + 2 ≤ _; omega) (fun u hu => by rw [hz2] at hu; simp only [List.mem_cons, List.not_mem_nil, or_false] at hu; rcases hu with rfl | rfl <;> rfl)
    simp only [Nat.add_zero] at hst
    refine ⟨w1.setRow g (cur1.toList.take ((n - 1) * 2) ++ zs ++ cur1.toList.drop ((n - 1) * 2 + zs.length)).toArray, ?_, ?_⟩
    · rw [show n - (n - 1) = 1 from hn1'] at hzs ⊢
      simp [Builtin.clear_, run_underlying Tryz.underlying24, zero_weaver w1, hzs, hst]
    · have hgr2 : w1.grownBy (w1.setRow g (cur1.toList.take ((n - 1) * 2) ++ zs ++ cur1.toList.drop ((n - 1) * 2 + zs.length)).toArray) (some g) :=
        ⟨rfl, rfl, rfl, by simp [World.setRow], fun k _ hk => setRow_other w1 g k _ (fun e => hk (by rw [e]))⟩
      have hrow2 : (w1.setRow g (cur1.toList.take ((n - 1) * 2) ++ zs ++ cur1.toList.drop ((n - 1) * 2 + zs.length)).toArray).ownsRow base 82 2 (.slice (some ⟨g, 0, none⟩) (n - 1) cap) (n - 1) (cs.take (i * 2) ++ cs.drop (j * 2)) := by
        refine ⟨hown.1, .inr ⟨g, cap, _, rfl, hg1, setRow_heap w1 g cur1 _ 82 (0, 0) hb1, hn1, hm1, ?_, ?_⟩⟩
        · simp only [List.size_toArray, List.length_append, List.length_take, List.length_drop, Array.length_toList, hz2, List.length_cons, List.length_nil]
          omega
        · rw [← hc1]
          simp only [List.append_assoc]
          rw [List.take_append_of_le_length (by rw [List.length_take, Array.length_toList]; omega), List.take_take, Nat.min_self]
      have hmap : ∀ u (x : Wv), ownW w base u x → ownW (w1.setRow g (cur1.toList.take ((n - 1) * 2) ++ zs ++ cur1.toList.drop ((n - 1) * 2 + zs.length)).toArray) base u x := fun u x h =>
        OwnI.grownT (v := .slice (some ⟨g, 0, none⟩) (n - 1) cap) (OwnI.grownT (v := .slice (some ⟨g, 0, none⟩) n cap) (OwnI.ext h he) (by decide) hgr (ownsRow_ext2 Hrow.out he)) (by decide) hgr2 hown
      refine ⟨⟨cs.take (i * 2) ++ cs.drop (j * 2), ?_, ?_⟩, ?_⟩
      · rw [List.length_eraseIdx, Hn.out, if_pos hi]
        exact hrow2
      · rw [List.eraseIdx_eq_take_drop_succ, Hj.out]
        exact WvF.append ((Hcs.out.take i).map hmap) ((Hcs.out.drop j).map hmap)
      · exact ⟨hgr2.os.trans (hgr.os.trans he.os), hgr2.tape.trans (hgr.tape.trans he.tape), hgr2.output.trans (hgr.output.trans he.output), Nat.le_trans he.size (Nat.le_trans hgr.size hgr2.size), fun k hk hne => (hgr2.block k (Nat.lt_of_lt_of_le hk (Nat.le_trans he.size hgr.size)) hne).trans ((hgr.block k (Nat.lt_of_lt_of_le hk he.size) hne).trans (Below.block he k hk))⟩
  obtain ⟨w2, hclr, hO2, hG2⟩ := hfin
  have HO2 := Lib.hid hO2; have HG2 := Lib.hid hG2
  clear hown hgr hO2 hG2 hG
  refine wpList_app_run rfl _ _ 24 24 rfl _ _ _ _ rfl rfl hrun ?_
  refine HK.out _ _ (fun h => by cases h) ?_
  clear HK hrun hap
  refine Chain.nil ?_
  simp only [upd, Nat.reduceEqDiff, if_false, if_true]
  go_wp2_with fail
  go_ret
  exact ⟨_, rfl, HO2.out, HG2.out⟩
end Go.Proofs.Pet
