/- Joined texts: TDE, RO. -/
import Derived.Test.YtnapmppdjlnbdaaJ10
import Derived.Orders
import Derived.Tactics
namespace Go.Proofs.Pet
set_option linter.unusedSimpArgs false
open Go Go.RowKit Go.Maps Go.Shelf
open Go.Proofs.Pow (PM Sh Wv POk Up spanL addW aloneW addsW)

theorem twice_range {n : Nat} (hn : n ≤ 5) : twiceB (ints (List.range (n + 1))) = false := by
  have h : ∀ n, n ∈ List.range 6 → twiceB (ints (List.range (n + 1))) = false := by decide
  exact h n (List.mem_range.2 (by omega))
theorem work_group {m : PM} {hs : List Int} (h : POk (addW m hs)) (h5 : m.wvs.length ≤ 5) : groupE (addW m hs) [(m.wvs.length : Int)] = 0 ∧ addsE (addW m hs) (ints (List.range (m.wvs.length + 1))) = 0 := by
  have hc := (checkP_iff (addW m hs)).2 h
  have hl := Pow.addW_len m hs
  have ht := twice_range h5
  have e1 : groupE (addW m hs) [(m.wvs.length : Int)] = 0 := by
    unfold groupE
    rw [if_neg (by rw [hc]; simp), if_neg, if_neg]
    · simp [twiceB]
    · rw [hl]; simp [inB]
  have e2 : groupE (addW m hs) (ints (List.range (m.wvs.length + 1))) = 0 := by
    unfold groupE
    rw [if_neg (by rw [hc]; simp), if_neg, if_neg (by rw [ht]; simp)]
    rw [hl]
    have : ((ints (List.range (m.wvs.length + 1))).all fun k => inB k 0 (((m.wvs.length + 1 : Nat) : Int) - 1)) = true := by
      rw [List.all_eq_true]
      intro x hx
      unfold ints at hx
      obtain ⟨y, hy, rfl⟩ := List.mem_map.1 hx
      have := List.mem_range.1 hy
      unfold inB
      simp
      omega
    rw [this]; simp
  refine ⟨e1, ?_⟩
  unfold addsE
  rw [if_neg (by rw [hc]; simp), if_neg (by rw [hl, ints_length, List.length_range]; simp)]
  exact e2
theorem work_adds (m : PM) (hs : List Int) : (Pow.addsF (addW m hs) (natL (ints (List.range (m.wvs.length + 1)))))[m.wvs.length]?.getD 0 = addsW m hs := by
  rw [natL_ints]
  have hi : m.wvs.length < (List.range (m.wvs.length + 1)).length := by rw [List.length_range]; omega
  have := Pow.addsF_at (m := addW m hs) (l := List.range (m.wvs.length + 1)) List.nodup_range hi (by rw [List.getElem_range, Pow.addW_len]; omega)
  rw [List.getElem_range] at this
  exact this
theorem work_len (m : PM) (hs : List Int) (l : List Nat) : (Pow.addsF (addW m hs) l).length = m.wvs.length + 1 := by
  unfold Pow.addsF
  rw [List.length_map, List.length_range, Pow.addW_len]

set_option maxRecDepth 20000 in
set_option maxHeartbeats 8000000 in
theorem work_any (M : Nat) (v1 v2 : Value) (m : PM) (hm : POk m) (h5 : m.wvs.length ≤ 5) (lo hi : Nat) (hlo : lo ≤ 200) (hhi : hi ≤ 200) (w : World) (hB : Blk w M 38 #[v1, v2]) (hv : PMVal w (.agg #[v1, v2]) m) :
    Calls Try.prog 7 #[.int .i64 (lo : Int), .int .i64 (hi : Int), .pointer (some ⟨M, 0, none⟩)] w fun e w' => e = .returned (.tuple #[.int .i64 (aloneW m (spanL lo hi)), .int .i64 (addsW m (spanL lo hi)), .bool true]) ∧ Ext w w' := by
  obtain ⟨ti, hit, hz0, hz1, hz2⟩ := info_parts info_int
  obtain ⟨ti3, hi3, hx0, hx1, hx2⟩ := info_parts info_weaver
  have hsz := hm.sz
  have hmu : POk (addW m (spanL lo hi)) := Pow.addW_ok hm h5 (fun x hx => by have := Pow.mem_spanL.1 hx; omega) (Pow.span_rise lo hi)
  obtain ⟨hg1, hg2⟩ := work_group hmu h5
  have how := Lib.hid (own7_any _ m (by omega) (by omega) (fun k hk => Nat.le_trans (hours_len (hm.rise k hk) (hm.hour k hk)) (by omega)) w hv)
  obtain ⟨A1, c1, A2, c2, e0, -, -, -, -, -, -⟩ := hv
  cases e0
  obtain ⟨m0, m1⟩ := hB.c2
  have HB := Lib.hid hB; have Hmu := Lib.hid hmu; have Hg1 := Lib.hid hg1; have Hg2 := Lib.hid hg2
  clear hB hmu hg1 hg2 hm
  go_enter Try.func7, Try.ntmps7
  go_wp2_with fail
  refine how.out.mono ?_
  rintro e w1 ⟨u, rfl, hu, he1⟩
  obtain ⟨s1, s2, rfl, hs1, hs2⟩ := hu
  have hX := Ext.alloc w1 (.cells #[s1, s2] 38)
  have hU := Blk.new w1 38 #[s1, s2]
  have HS1 := Lib.hid (hs1.ext hX); have HS2 := Lib.hid (hs2.ext hX)
  have HB1 := Lib.hid ((HB.out.ext he1).ext hX)
  have HE1 := Lib.hid (he1.trans hX)
  obtain ⟨A3, c3, hs1e, -, -, -⟩ := hs1.at_
  obtain ⟨A4, c4, hs2e, -, -, -⟩ := hs2.at_
  subst hs1e hs2e
  have hsz1 := he1.size
  clear how m0 m1 hX he1 hs1 hs2
  go_upto_region 2 with fail
  obtain ⟨U, hU0⟩ : ∃ U, w1.heap.size = U := ⟨_, rfl⟩
  have hUw : w.heap.size ≤ U := by omega
  rw [hU0] at hU ⊢
  have HU := Lib.hid hU
  clear hU0 hsz1 hU
  generalize w1.alloc _ = w2 at *
  have hM := HB1.out.c2.1
  obtain ⟨-, hU1⟩ := HU.out.c2
  refine wp_region_chain 13 [(8, true), (9, true), (10, true), (11, false), (12, false)] [] (by kernel_rfl) (by kernel_rfl) (by kernel_rfl) ?_
  simp only [List.take, List.drop, fill, Act.put, List.setIfInBounds_toArray, List.set_cons_zero, List.set_cons_succ, Nat.reduceAdd]
  repeat (first
    | refine Floats.mut rfl ?_
    | (apply Floats.float rfl
       · intro x W he hd K Q hK
         try (have he := he (by decide); have hM := he.cell hM; have hU1 := he.cell hU1)
         try simp only [edges, DepsE, List.filter_cons, List.filter_nil, Region.binds, if_true, and_true, true_and, upd, Nat.reduceEqDiff, if_false] at hd
         try simp only [hd] at hK ⊢
         have HK := Lib.hid hK; clear hK
         go_wp2_with fail
         exact HK.out))
  refine Floats.done fun W he hG => ?_
  have hsp := Lib.hid (span_any lo hi hlo hhi W)
  have hsW := Ext.size he
  clear hM hU1 hG
  refine Chain.cons _ rfl ?_
  intro x hd K Q hK
  try simp only [edges, DepsE, List.filter_cons, List.filter_nil, Region.binds, if_true, and_true, true_and, upd, Nat.reduceEqDiff, if_false] at hd
  try simp only [hd] at hK ⊢
  clear hd
  have HK := Lib.hid hK; clear hK
  go_wp2_with fail
  refine hsp.out.mono ?_
  rintro e w3 ⟨hv, rfl, hO3, he3⟩
  have hE3 := Ext.trans he he3
  obtain ⟨A5, c5, e5, -, -, -, -, -⟩ := hO3.open_
  subst e5
  go_wp2_with fail
  refine HK.out _ _ (fun _ => hE3) ?_
  clear HK hsp
  refine Chain.cons _ rfl ?_
  intro x hd K Q hK
  try simp only [edges, DepsE, List.filter_cons, List.filter_nil, Region.binds, if_true, and_true, true_and, upd, Nat.reduceEqDiff, if_false] at hd
  try simp only [hd] at hK ⊢
  clear hd
  have HK := Lib.hid hK; clear hK
  go_wp2_with fail
  refine HK.out _ _ (fun _ => hE3) ?_
  clear HK
  refine Chain.cons _ rfl ?_
  intro x hd K Q hK
  try simp only [edges, DepsE, List.filter_cons, List.filter_nil, Region.binds, if_true, and_true, true_and, upd, Nat.reduceEqDiff, if_false] at hd
  try simp only [hd] at hK ⊢
  clear hd
  have HK := Lib.hid hK; clear hK
  have hb5 := Ext.alloc w3 (.cells #[.int .i64 ((m.shafts.length : Int) - 1), .slice A5 (spanL lo hi).length c5] 43)
  have hsrc := Src.listP w3 [.int .i64 ((m.shafts.length : Int) - 1), .slice A5 (spanL lo hi).length c5] 43
  have hE4 := hE3.trans hb5
  have hS2 := HS2.out.ext hE4
  have hS1 := HS1.out.ext hE4
  have hU4 := HU.out.ext hE4
  have hB4 := HB1.out.ext hE4
  have hO4 := (hO3.ext hb5).mono (show w.heap.size ≤ W.heap.size by have := HU.out.lt; omega)
  have hEw := HE1.out.trans hE4
  go_wp2_with fail
  refine HK.out _ _ (fun _ => hE4) ?_
  clear HK he he3 hE3 hO3 hb5 hE4
  refine Chain.cons _ rfl ?_
  intro x hd K Q hK
  try simp only [edges, DepsE, List.filter_cons, List.filter_nil, Region.binds, if_true, and_true, true_and, upd, Nat.reduceEqDiff, if_false] at hd
  try simp only [hd] at hK ⊢
  clear hd
  have HK := Lib.hid hK; clear hK
  obtain ⟨cs, hc1, hc2⟩ := hS2
  have hszw : w.heap.size ≤ (w3.alloc (.cells #[.int .i64 ((m.shafts.length : Int) - 1), .slice A5 (spanL lo hi).length c5] 43)).heap.size := hEw.size
  refine wpList_app rfl _ _ 36 rfl w.heap.size 43 ti3 (.agg #[.int .i64 0, .slice none 0 0]) 2 32 Try.underlying36 hi3 hx0 hx1 hx2 rfl (by decide) (.slice A4 m.wvs.length c4) m.wvs.length _ rfl hc1 (some ⟨w3.heap.size, 0, none⟩) 1 _ [.int .i64 ((m.shafts.length : Int) - 1), .slice A5 (spanL lo hi).length c5] rfl rfl hsrc (fun u hu => by
    simp only [List.mem_cons, List.not_mem_nil, or_false] at hu
    rcases hu with rfl | rfl <;> rfl) (by simp only [maxLen]; omega) (by omega) hszw ?_
  intro v' w5 hown hg hblk
  have hge : ∀ j, (Value.slice A4 m.wvs.length c4).ownBlock = some j → w.heap.size ≤ j := fun j hj => (ownsRow_own hc1 j hj).1
  have hneU : some U ≠ (Value.slice A4 m.wvs.length c4).ownBlock := ownsRow_ne_blk hc1 hU4 (by decide)
  have hneM : some M ≠ (Value.slice A4 m.wvs.length c4).ownBlock := ownsRow_ne_blk hc1 hB4 (by decide)
  have HW5 := Lib.hid (OwnWvs.push (x := ⟨(m.shafts.length : Int) - 1, spanL lo hi⟩) hc1 hc2 hO4 hown hg)
  have HS5 := Lib.hid (hS1.grownT (by decide) hg hc1)
  have HU5 := Lib.hid (hU4.grown hg hneU)
  have HB5 := Lib.hid (hB4.grown hg hneM)
  have HE5 := Lib.hid (Below.grown hEw hg hEw.size hge)
  obtain ⟨A6, c6, rfl⟩ := ownsRow_slice hown
  refine HK.out _ _ (fun h => by cases h) ?_
  clear HK hown hg hblk hge hneU hneM hc1 hc2 hO4 hS1 hU4 hB4 hEw hsrc hszw
  refine Chain.cons _ rfl ?_
  intro x hd K Q hK
  try simp only [edges, DepsE, List.filter_cons, List.filter_nil, Region.binds, if_true, and_true, true_and, upd, Nat.reduceEqDiff, if_false] at hd
  try simp only [hd] at hK ⊢
  clear hd
  have HK := Lib.hid hK; clear hK
  go_wp2_with fail
  refine HK.out _ _ (fun h => by cases h) ?_
  clear HK
  refine Chain.nil ?_
  simp only [upd, Nat.reduceEqDiff, if_false, if_true]
  obtain ⟨-, u1⟩ := HU5.out.c2
  have fu1 := HU5.out.frozen 1
  have hMU : M ≠ U := by have := HB.out.lt; omega
  have HU6 := Lib.hid (HU5.out.set_ 1 (.slice A6 (m.wvs.length + 1) c6))
  simp only [List.setIfInBounds_toArray, List.set_cons_succ, List.set_cons_zero] at HU6
  have HS6 := Lib.hid (HS5.out.far HU5.out (.inl (by decide)) 1 (.slice A6 (m.wvs.length + 1) c6))
  have HW6 := Lib.hid (HW5.out.far HU5.out (by decide) (.inl (by decide)) 1 (.slice A6 (m.wvs.length + 1) c6))
  have HE6 := Lib.hid (Below.setCell HE5.out (p := ⟨U, 1, none⟩) hUw (.slice A6 (m.wvs.length + 1) c6))
  clear HU5 HS5 HW5 HE5 HB5
  go_upto_region 3 with fail
  clear u1 fu1
  generalize w5.setCell _ _ = w6 at *
  have HP6 := Lib.hid (show PMVal w6 (.agg #[.slice A3 m.shafts.length c3, .slice A6 (m.wvs.length + 1) c6]) (addW m (spanL lo hi)) from OwnPM.val (base := w.heap.size) ⟨_, _, rfl, HS6.out, HW6.out⟩)
  have HE6 := Lib.hid (show Ext w w6 from HE6.out)
  clear HS6 HW6
  obtain ⟨-, u1⟩ := HU6.out.c2
  obtain ⟨n, hn⟩ : ∃ n, m.wvs.length = n := ⟨_, rfl⟩
  rw [hn] at h5 HU6 u1 HP6 ⊢
  have Hn := Lib.hid hn
  clear hn
  have hk1 : ((n + 1 : Nat) : Int) - 1 = (n : Int) := by omega
  have hmk : ∀ W : World, ∃ Z : Array Value, Z.size = n + 1 ∧ (Instr.makeSlice 28 (.int .i64 0) (.int .i64 ((n : Int) + 1))).run Try.prog W = .ok (.slice (some ⟨W.heap.size, 0, none⟩) 0 (n + 1)) (W.alloc (.cells Z 3)) := by
    intro W
    have := run_make (P := Try.prog) W 28 3 ti _ Try.underlying28 hit hz0 .i64 .i64 0 ((n : Int) + 1) (by omega) (by omega) (by rw [hz2]; omega) (by omega)
    rw [Int.toNat_zero, show ((n : Int) + 1).toNat = n + 1 by omega, hz1, Nat.mul_one] at this
    exact ⟨_, size_madeCells _ _, this⟩
  obtain ⟨Z, hZ, hmk6⟩ := hmk w6
  clear hmk
  go_wp2_with fail
  have hOr : OwnI (w6.alloc (.cells Z 3)) w6.heap.size 3 (.slice (some ⟨w6.heap.size, 0, none⟩) 0 (n + 1)) (ints (List.range 0)) := World.ownsRow_made (w := w6) (e := 3) (size := 1) Z (n + 1) (Nat.le_refl _) (by unfold maxLen; omega) (by rw [hZ, Nat.mul_one])
  have hEr := Ext.alloc w6 (.cells Z 3)
  clear hmk6 u1 hk1
  generalize w6.alloc _ = w7 at *
  have HOr := Lib.hid hOr; have HEr := Lib.hid hEr
  clear hOr hEr
  go_loopw [10, 39] (fun ov iv wr => ∃ k : Nat, ∃ v : Value, k ≤ n + 1 ∧ ov = v ∧ iv = .int .i64 (k : Int) ∧ Hid (OwnI wr w6.heap.size 3 v (ints (List.range k))) ∧ Hid (Ext w6 wr)) (fun _ iv _ => n + 1 - (intOf iv).toNat)
  case atStart => exact ⟨0, _, Nat.zero_le _, rfl, rfl, HOr, HEr⟩
  case round =>
    clear HOr HEr
    obtain ⟨k, v, hk, rfl, rfl, hO, hE⟩ := hrel
    obtain ⟨A, c, hov, -, -, -, -, -⟩ := hO.out.open_
    rw [ints_length, List.length_range] at hov
    subst hov
    by_cases hlt : k < n + 1
    · -- <<A
      have hb5 := Ext.alloc wr (.cells #[.int .i64 (k : Int)] 3)
      have hsrc := Lib.hid (Src.one wr (.int .i64 (k : Int)) 3)
      have hown : (wr.alloc (.cells #[.int .i64 (k : Int)] 3)).ownsRow w6.heap.size 3 1 (.slice A k c) k ((ints (List.range k)).map (Value.int .i64)) := by
        have := hO.out.ext hb5
        unfold OwnI at this
        rwa [ints_length, List.length_range] at this
      have hE5 := Lib.hid (hE.out.trans hb5)
      have hsz5 : w6.heap.size ≤ (wr.alloc (.cells #[.int .i64 (k : Int)] 3)).heap.size := hE5.out.size
      have Hw : Hid (∀ v' w', w'.ownsRow w6.heap.size 3 1 v' (k + 1) ((ints (List.range k)).map (Value.int .i64) ++ [.int .i64 (k : Int)]) → (wr.alloc (.cells #[.int .i64 (k : Int)] 3)).grownBy w' (Value.slice A k c).ownBlock → OwnI w' w6.heap.size 3 v' (ints (List.range (k + 1))) ∧ Ext w6 w') := by
        intro v' w' h1 hg
        refine ⟨?_, Below.grown hE5.out hg hE5.out.size fun j hj => (ownsRow_own hown j hj).1⟩
        unfold OwnI
        rw [ints_length, List.length_range, List.range_succ, ints_append, List.map_append]
        exact h1
      clear hb5 hO hE
      go_wp2_with (at_builtin; refine wpList_app rfl _ _ 28 rfl w6.heap.size 3 ti (.int .i64 0) 1 8 Try.underlying28 hit hz0 hz1 hz2 rfl (by decide) (.slice A k c) k _ rfl hown (some ⟨wr.heap.size, 0, none⟩) 1 1 [.int .i64 (k : Int)] rfl rfl hsrc.out ?c2 ?c3 ?c4 ?c5 ?_; (case c2 => (intro u hu; rw [List.mem_singleton] at hu; subst hu; rfl)); (case c3 => (unfold maxLen; omega)); (case c4 => omega); (case c5 => exact hsz5); intro v' w5' h5' hg hblk; have H5 := Lib.hid (Hw.out v' w5' h5' hg); obtain ⟨A9, c9, rfl⟩ := ownsRow_slice h5'; clear h5' hg hblk)
      go_roundw
      case rel => exact ⟨k + 1, _, by omega, rfl, by go_num, H5.out.1, H5.out.2⟩
      case measure => simp [intOf]; omega
      -- >>
    · -- <<B
      obtain rfl : k = n + 1 := by omega
      obtain ⟨u0, u1⟩ := (HU6.out.ext hE.out).c2
      have hb5 := Ext.alloc wr (.cells #[.int .i64 (n : Int)] 3)
      have hB5 := Blk.new wr 3 #[.int .i64 (n : Int)]
      have hIn : IntsAt (wr.alloc (.cells #[.int .i64 (n : Int)] 3)) (some ⟨wr.heap.size, 0, none⟩) [(n : Int)] := fun k hk => by
        match k, hk with
        | 0, _ => exact ⟨_, 0, rfl, by rw [hB5.cell]; rfl⟩
      have hE5 := Lib.hid (hE.out.trans hb5)
      have hg1 := Hg1.out
      rw [Hn.out] at hg1
      have hco := Lib.hid (Cost_any (.agg #[.slice A3 m.shafts.length c3, .slice A6 (n + 1) c6]) (addW m (spanL lo hi)) (some ⟨wr.heap.size, 0, none⟩) 1 1 [(n : Int)] rfl 0 (aloneW m (spanL lo hi)) hg1 (by rw [if_pos rfl]; unfold aloneW; rw [Hn.out]) _ (HP6.out.ext hE5.out) (by unfold maxLen; omega) (Nat.le_refl _) hIn)
      clear hb5 hB5 hIn hg1
      go_wp2_with fail
      refine hco.out.mono ?_
      rintro e w8 ⟨rfl, he8⟩
      have hE8 := Lib.hid (hE5.out.trans he8)
      have hO8 := Lib.hid ((hO.out.ext (Ext.alloc wr (.cells #[.int .i64 (n : Int)] 3))).ext he8)
      clear u0 u1 hco he8
      obtain ⟨u0, u1⟩ := (HU6.out.ext hE8.out).c2
      obtain ⟨x, hx⟩ : ∃ x, Pow.addsF (addW m (spanL lo hi)) (natL (ints (List.range (n + 1)))) = x := ⟨_, rfl⟩
      have hxl : x.length = n + 1 := by rw [← hx, ← Hn.out]; exact work_len m _ _
      have hxa : x[n]?.getD 0 = addsW m (spanL lo hi) := by rw [← hx, ← Hn.out]; exact work_adds m _
      have hg2 := Hg2.out
      rw [Hn.out] at hg2
      obtain ⟨A7, c7, e7, hlc, hlm, hI7, -, -⟩ := hO8.out.open_
      rw [ints_length, List.length_range] at e7 hlc
      cases e7
      have had := Lib.hid (Adds_any (.agg #[.slice A3 m.shafts.length c3, .slice A6 (n + 1) c6]) (addW m (spanL lo hi)) A c (n + 1) (ints (List.range (n + 1))) (by rw [ints_length, List.length_range]) 0 x hg2 (by rw [if_pos rfl]; exact hx) w8 (HP6.out.ext hE8.out) (by unfold maxLen; omega) hlc hI7)
      have Hxl := Lib.hid hxl; have Hxa := Lib.hid hxa
      clear hx hg2 hI7 hlm hlc hxl hxa
      go_wp2_with fail
      refine had.out.mono ?_
      rintro e w9 ⟨lv, rfl, hO9, he9⟩
      obtain ⟨A8, c8, e8, -, -, hI9, -, -⟩ := hO9.open_
      rw [Hxl.out] at e8
      subst e8
      obtain ⟨xb, xo, rfl, x0⟩ := hI9 n (by rw [Hxl.out]; omega)
      rw [Hxa.out] at x0
      have HEf := Lib.hid (HE6.out.trans (hE8.out.trans he9))
      obtain ⟨al, hal⟩ : ∃ a, aloneW m (spanL lo hi) = a := ⟨_, rfl⟩
      obtain ⟨ad, had'⟩ : ∃ a, addsW m (spanL lo hi) = a := ⟨_, rfl⟩
      rw [had'] at x0
      have Hal := Lib.hid hal; have Had := Lib.hid had'
      clear had hO9 hI9 he9 hO8 u0 u1
      rw [hal]
      clear hal had'
      go_wp2_with fail
      go_quiet (fail)
      go_wp2_with fail
      refine bodyPost_ret (v := .tuple #[.int .i64 al, .int .i64 ad, .bool true]) (by simp [results, Try.results7, go_sem]) rfl ⟨by rw [Hal.out, Had.out], HEf.out.trans (Ext.drewN _ _)⟩
      -- >>
end Go.Proofs.Pet

namespace Go.Proofs.Pet
open Go

/-- ord is the only order -/
def onlyB (ops : Array Oper) : List Nat → Array Bool → Bool
  | [], L => (Region.ready .any ops L).isEmpty
  | i :: r, L => decide (Region.ready .any ops L = [i]) && (ops[i]?).isSome && onlyB ops r (L.setIfInBounds i true)
end Go.Proofs.Pet
