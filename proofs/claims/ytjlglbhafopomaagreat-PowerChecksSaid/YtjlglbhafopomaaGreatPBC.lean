/-
  The line of a weaver as a list, walked: power's Line.
-/
import Derived.Test.YtjlglbhafopomaaGreatPBB
namespace Go.Proofs.Pet
set_option linter.unusedSimpArgs false
open Go Go.RowKit Go.Maps Go.Shelf
open Go.Proofs.Pow (PM Sh Wv POk Up)
attribute [local go_sem] Oper.semAt_some

theorem ownsRow_cellsP {w : World} {base size n : Nat} {e : TypeId} {v : Value} {xs : List Value} (h : w.ownsRow base e size v n xs) (j : Nat) (o : Obj) (hj : v.ownBlock = some j) (ho : w.heap[j]? = some o) : o.isCells = true := by
  rcases h.2 with ⟨rfl, _⟩ | ⟨g, cap, cur, rfl, _, hb, _⟩
  · cases hj
  · have : g = j := Option.some.inj hj
    subst this
    rw [hb] at ho
    cases ho; rfl
set_option maxRecDepth 100000 in
set_option maxHeartbeats 2000000 in
theorem appendLine_any (B n1 : Nat) (m : PM) (hu : Pow.UpOk m) (hB : n1 ≤ B) (A1 : Option Addr) (c1 : Nat) (v2 : Value) (hl : m.shafts.length ≤ 9) (s : Int) (hs : -1 ≤ s ∧ s < m.shafts.length) (w0 W : World) (h0 : Ext w0 W) (hw0 : w0.heap.size ≤ B)
    (hB1 : Blk W B 26 #[.slice A1 m.shafts.length c1, v2]) (hB2 : Blk W (B + 1) 3 #[.int .i64 s]) (hA : ShsAt W A1 m.shafts) (hA1 : ∀ k, k < m.shafts.length → ∀ ad, A1 = some ad → ad.block < n1) (hll : (m.line s).length ≤ 9) :
    Calls Tryz.prog 150 #[.slice none 0 0, .func (.func 177) #[] #[.pointer (some ⟨B + 1, 0, none⟩), .pointer (some ⟨B, 0, none⟩)]] W fun e W' => ∃ r, e = .returned r ∧ OwnI W' W.heap.size 3 r (m.line s) ∧ Ext w0 W' := by
  obtain ⟨ti, hi, hz0, hz1, hz2⟩ := info_parts info_int
  have hml : m.shafts.length ≤ maxLen := by unfold maxLen; omega
  refine (callsIn_wide (n := 5)).1 ?_
  refine callsIn_of_wp_marks Tryz.func150 rfl trivial ?_ rfl
  simp only [Tryz.ntmps150, List.size_toArray, List.length_cons, List.length_nil, Nat.reduceAdd, Nat.reduceSub, Array.replicate_succ, Array.replicate_zero, List.push_toArray, List.append_toArray, List.nil_append, List.cons_append]
  refine wpIn_wide.2 ?_
  have hX := Ext.alloc W (.cells #[.slice none 0 0] 31)
  have hbx := Blk.new W 31 #[.slice none 0 0]
  have hB1X := hB1.ext hX
  have hB2X := hB2.ext hX
  have hAX := hA.ext hX
  have hBlt := hB2.lt
  have hszX : (W.alloc (.cells #[.slice none 0 0] 31)).heap.size = W.heap.size + 1 := World.size_alloc ..
  have heX := h0.trans hX
  obtain ⟨b0, hb0⟩ : ∃ b0, W.heap.size = b0 := ⟨_, rfl⟩
  rw [hb0] at hbx hszX hBlt
  have Hb0 := Lib.hid hb0
  clear hB1 hB2 hA hX hb0
  go_wp2_with fail
  rw [Hb0.out]
  generalize W.alloc _ = W5 at *
  apply wp_line (n1 := n1) (B := B) hu hB hml hs hB1X hB2X hAX hA1 rfl rfl
    (fun pre V => W5.heap.size ≤ V.heap.size ∧ Ext w0 V ∧ ∃ v, Blk V b0 31 #[v] ∧ OwnI V (b0 + 1) 3 v (pre.map fun y : OnLine m s => y.1))
    (fun pre V V' ⟨h1, h2, v, h3, h4⟩ hk => ⟨Nat.le_trans h1 hk.size, h2.loops hk (by have := h0.size; omega), v, h3.loops hk, h4.loops hk⟩)
    (fun pre V V' ⟨h1, h2, v, h3, h4⟩ ht => ?hturn) ⟨Nat.le_refl _, heX, _, hbx, OwnI.nil _ _ _⟩
  case hturn =>
    obtain ⟨u, rfl⟩ := ht
    exact ⟨by rw [World.size_setCell]; exact h1, Below.setCell h2 (by show _ ≤ B + 1; omega) _, v, h3.far (by show b0 ≠ B + 1; omega) _, h4.apartB (b := B + 1) (by omega) ((Apart.refl _ _).set_ 0 u)⟩
  case hassign =>
    intro l x V K hK
    simp only [encO]
    gi_wp2
    exact hK
  case hbody =>
    rintro l pre x V ⟨h1, h2, v, h3, h4⟩ hpl
    have u0 := h3.c1
    have hX := Ext.alloc V (.cells #[.int .i64 x.1] 3)
    have h4X := h4.ext hX
    have h3X := h3.ext hX
    have hb0l := h3.lt
    have hlen : (pre.map fun y : OnLine m s => y.1).length ≤ 9 := by rw [List.length_map]; omega
    have Hmap : Hid ((pre ++ [x]).map (fun y : OnLine m s => y.1) = (pre.map fun y : OnLine m s => y.1) ++ [x.1]) := by unfold Hid; rw [List.map_append, List.map_singleton]
    obtain ⟨ls, hls⟩ : ∃ ls, (pre.map fun y : OnLine m s => y.1) = ls := ⟨_, rfl⟩
    rw [hls] at h4 h4X hlen Hmap
    clear hls
    obtain ⟨xv, hxv⟩ : ∃ xv, x.1 = xv := ⟨_, rfl⟩
    rw [hxv] at hX h4X h3X Hmap ⊢
    have hge : ∀ j, v.ownBlock = some j → b0 + 1 ≤ j := fun j hj => (h4.own_lt j hj).1
    obtain ⟨A0, c0, rfl, -, -, -, -, -⟩ := h4.open_
    gi_wp2_with (gi_at_builtin; refine wpListIn_append_own _ rfl _ _ 31 rfl (b0 + 1) 3 ti (.int .i64 0) 1 8 Tryz.underlying31 hi hz0 hz1 hz2 rfl (by decide) _ _ _ rfl h4X ⟨V.heap.size, 0, none⟩ 1 1 [.int .i64 xv] rfl rfl (cell_one_new _ _ _) (by simp [Value.oneCell']) (by unfold maxLen; omega) (by omega) (by simp; omega) ?_; intro v' w' hown hg hblk; have hB9 := Blk.grown h3X hg (fun e => by have := hge b0 e.symm; omega); have q0 := hB9.c1; have q1 := hB9.frozen 0; obtain ⟨A9, c9, rfl⟩ := ownsRow_slice hown)
    have hO : OwnI w' (b0 + 1) 3 (.slice A9 (ls.length + 1) c9) (ls ++ [xv]) := by
      unfold OwnI; rw [List.length_append, List.map_append]; exact hown
    have hszV : (V.alloc (.cells #[.int .i64 xv] 3)).heap.size = V.heap.size + 1 := World.size_alloc ..
    have hk : ∀ k, k < b0 → (w'.setCell ⟨b0, 0, none⟩ (.slice A9 (ls.length + 1) c9)).heap[k]? = V.heap[k]? := fun k hk => (Below.heap_setCell w' _ _ k (by show k ≠ b0; omega)).trans ((hg.block k (by omega) (fun e => by have := hge k e.symm; omega)).trans (Below.block hX k (by omega)))
    have hsg := hg.size
    refine ⟨(((KeepsOthers.alloc V _).trans (KeepsOthers.of_grownBy hg (ownsRow_cellsP h4X))).trans (KeepsOthers.setCell _ _ _)).from _, ⟨fun k hk1 => hk k (by omega), hk _ (by omega), hk _ (by omega)⟩, ?_, ?_, _, by simpa using hB9.set_ 0 (.slice A9 (ls.length + 1) c9), by rw [Hmap.out]; exact hO.far hB9 (by decide) 0 _⟩
    · rw [World.size_setCell]; omega
    · exact Below.setCell (Below.grown (h2.trans hX) hg (by have := h2.size; omega) (fun j hj => by have := hge j hj; have := h0.size; omega)) (by show _ ≤ b0; have := h0.size; omega) _
  case hdone =>
    intro Dd xs V hDd hxs ⟨h1, h2, v, h3, h4⟩ hdef
    rw [hxs] at h4
    have u0 := h3.c1
    have hm := (Marks.nil V W5.heap.size Dd).push hDd (Nat.le_refl _) hdef
    obtain ⟨A0, c0, rfl, -, -, -, -, -⟩ := h4.open_
    have H4 := Lib.hid h4
    clear h4 hdef
    go_wp2_with fail
    exact leaves_marks' [markOf Dd] V hm (fun W' => results_tmp rfl _ _ _) (fun W' hq => ⟨_, rfl, (H4.out.loops hq.loops).mono (by have := Hb0.out; omega), hq.ext h2 (by have := heX.size; omega)⟩)
theorem collectLine_any (B n1 : Nat) (m : PM) (hu : Pow.UpOk m) (hB : n1 ≤ B) (A1 : Option Addr) (c1 : Nat) (v2 : Value) (hl : m.shafts.length ≤ 9) (s : Int) (hs : -1 ≤ s ∧ s < m.shafts.length) (w0 W : World) (h0 : Ext w0 W) (hw0 : w0.heap.size ≤ B)
    (hB1 : Blk W B 26 #[.slice A1 m.shafts.length c1, v2]) (hB2 : Blk W (B + 1) 3 #[.int .i64 s]) (hA : ShsAt W A1 m.shafts) (hA1 : ∀ k, k < m.shafts.length → ∀ ad, A1 = some ad → ad.block < n1) (hll : (m.line s).length ≤ 9) :
    Calls Tryz.prog 82 #[.func (.func 177) #[] #[.pointer (some ⟨B + 1, 0, none⟩), .pointer (some ⟨B, 0, none⟩)]] W fun e W' => ∃ r, e = .returned r ∧ OwnI W' W.heap.size 3 r (m.line s) ∧ Ext w0 W' := by
  have H := Lib.hid (appendLine_any B n1 m hu hB A1 c1 v2 hl s hs w0 W h0 hw0 hB1 hB2 hA hA1 hll)
  clear hB1 hB2 hA hA1 h0
  go_enter Tryz.func82, Tryz.ntmps82
  go_wp2_with fail
  refine H.out.mono ?_
  rintro e w' ⟨r, rfl, hr, he⟩
  obtain ⟨A1, c1, rfl, _⟩ := hr.open_
  have Hr := Lib.hid hr
  clear hr
  go_wp2
  go_ret
  exact ⟨_, rfl, Hr.out, he⟩
set_option maxRecDepth 20000 in
set_option maxHeartbeats 1000000 in
theorem Line_any (v : Value) (m : PM) (k : Int) (r : Int) (x : List Int) (hr : knownE m k = r) (hx : (if r = 0 then m.line (m.wv k.toNat).shaft else []) = x) (w : World) (hv : PMVal w v m) :
    Calls Tryz.prog 76 #[v, .int .i64 k] w fun e w' => ∃ u, e = .returned (.tuple #[u, .int .i64 r]) ∧ OwnI w' w.heap.size 3 u x ∧ Ext w w' := by
  have Hv := Lib.hid hv
  obtain ⟨A1, c1, A2, c2, rfl, h2, h3, h4, h5, h6, h7⟩ := hv
  have hE := Ext.alloc w (.cells #[.slice A1 m.shafts.length c1, .slice A2 m.wvs.length c2] 26)
  have hM := Blk.new w 26 #[.slice A1 m.shafts.length c1, .slice A2 m.wvs.length c2]
  obtain ⟨k0, k1⟩ := hM.c2
  have HM := Lib.hid hM
  have ho := Lib.hid (known_any _ m k r hr _ (Hv.out.ext hE))
  have H6 := Lib.hid h6; have H7 := Lib.hid h7
  clear h6 h7 hM
  go_enter Tryz.func76, Tryz.ntmps76
  go_wp2_with fail
  refine ho.out.mono ?_
  rintro e w1 ⟨pv, rfl, he1, hop⟩
  have hE1 := hE.trans he1
  have hM1 := HM.out.ext he1
  clear k0 k1 ho
  by_cases h0 : r = 0
  · subst h0
    obtain ⟨D, rfl, hD, -⟩ := hop rfl
    rw [if_pos rfl] at hx
    have hck : checkP m = 0 := by
      unfold knownE at hr
      by_cases h : checkP m = 0
      · exact h
      · rw [if_pos h] at hr; exact hr
    have hkk : 0 ≤ k ∧ k < m.wvs.length := by
      unfold knownE at hr
      rw [if_neg (by simp [hck])] at hr
      by_cases h : inB k 0 (m.wvs.length - 1) = false
      · rw [if_pos h] at hr; exact absurd hr (by decide)
      · have := inB_iff.1 (by simpa using h); omega
    have hm := (checkP_iff m).1 hck
    have hms := hm.sz
    obtain ⟨kk, rfl⟩ : ∃ kk : Nat, k = kk := ⟨k.toNat, by omega⟩
    have hkl : kk < m.wvs.length := by omega
    have hat := hm.at_ kk hkl
    have hx' : m.line (m.wv kk).shaft = x := hx
    have hll : (m.line (m.wv kk).shaft).length ≤ 9 := by
      obtain ⟨z, hz⟩ : ∃ z : Nat, (m.wv kk).shaft = z := ⟨_, (Int.toNat_of_nonneg hat.1).symm⟩
      rw [hz] at hat ⊢
      have := line_len hm.up z (by omega)
      omega
    have HD := Lib.hid hD
    obtain ⟨B1, e1, B2, e2, d0, d1, -, hS1, -⟩ := hD.slices
    have HS1 := Lib.hid hS1
    obtain ⟨b, o, rfl, A3, c3, h3', s1, s2, s3⟩ := H7.out.ext hE1 kk hkl
    have hwv : m.wvs[kk]?.getD default = m.wv kk := rfl
    rw [hwv] at s1
    obtain ⟨-, k1⟩ := hM1.c2
    generalize (m.wv kk).shaft = sf at *
    have Hx := Lib.hid hx'; have Hup := Lib.hid hm.up
    clear hx hx' hr hm hop hD hck s2 s3 h3' hwv hS1
    go_upto_region 4 with fail
    refine wp_region_chain 10 [] [] (by kernel_rfl) (by kernel_rfl) (by kernel_rfl) ?_
    simp only [List.take, List.drop, fill, Act.put, List.setIfInBounds_toArray, List.set_cons_zero, List.set_cons_succ, Nat.reduceAdd]
    repeat (first
      | refine Floats.mut rfl ?_
      | (apply Floats.float rfl
         · intro x W he hd K Q hK
           try (have he := he (by decide); have d0 := he.cell d0; have d1 := he.cell d1; have k1 := he.cell k1; have s1 := he.cell s1)
           try simp only [edges, DepsE, List.filter_cons, List.filter_nil, Region.binds, if_true, and_true, true_and, upd, Nat.reduceEqDiff, if_false] at hd
           try simp only [hd] at hK ⊢
           have HK := Lib.hid hK; clear hK
           go_wp2_with fail
           exact HK.out))
    refine Floats.done fun W he hG => ?_
    refine Chain.nil ?_
    simp only [upd, Nat.reduceEqDiff, if_false, if_true]
    have hline := Lib.hid (pline_any B1 B2 m.shafts.length e1 m.wvs.length e2 sf W)
    go_wp2_with fail
    refine hline.out.mono ?_
    rintro e w2 ⟨rfl, he2, hL1, hL2, hsz2⟩
    have hEW := he.trans he2
    have hlow : ∀ j, j < m.shafts.length → ∀ ad, B1 = some ad → ad.block < w1.heap.size := fun j hj ad e => HS1.out.low_lt j hj ad e
    have hcl := Lib.hid (collectLine_any W.heap.size w1.heap.size m Hup.out he.size B1 e1 _ (by omega) sf (by omega) w1 w2 hEW he.size hL1 hL2 (HS1.out.ext hEW) hlow hll)
    clear hline d0 d1 k1 s1 hL1 hL2 he2
    go_wp2_with fail
    refine hcl.out.mono ?_
    rintro e w3 ⟨u, rfl, hO, he3⟩
    rw [Hx.out] at hO
    obtain ⟨A5, c5, rfl, -, -, -, -, -⟩ := hO.open_
    have HO := Lib.hid hO
    have hsA := hEW.size
    clear hO hcl
    go_wp2_with fail
    go_ret2
    exact ⟨_, rfl, HO.out.mono (by have := hE1.size; omega), hE1.trans he3⟩
  · obtain rfl : x = [] := by rw [← hx, if_neg h0]
    have hd : (r != 0) = true := by simpa using h0
    clear hx hr h0 hop
    go_wp2_with fail
    go_ret2
    exact ⟨_, rfl, OwnI.nil _ _ _, hE1⟩
end Go.Proofs.Pet
