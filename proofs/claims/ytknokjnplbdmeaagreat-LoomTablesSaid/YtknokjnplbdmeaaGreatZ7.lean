/-
  The reference's Least, walked.
-/
import Derived.Test.YtknokjnplbdmeaaGreatZ6
import Derived.Test.YtknokjnplbdmeaaGreatZ41
namespace Go.Proofs.Pet
set_option linter.unusedSimpArgs false
open Go Go.RowKit Go.Maps Go.Shelf

/-- what the reference gives for a loom and a set: less than 0 if there is none -/
def leastN (m : Mill) (T : List (List (List Int))) (l s : Nat) : Int := if numT m.orders.length (tabF T) l s < 99 then numT m.orders.length (tabF T) l s else -1
theorem leastN_bd {m : Mill} {T : List (List (List Int))} (h : TabOk m T) (l s : Nat) : -1 ≤ leastN m T l s ∧ leastN m T l s ≤ 1000 := by
  have := numT_bd (n := m.orders.length) (tabF_nonneg h) l s
  unfold leastN
  split <;> omega
theorem leastN_zero (m : Mill) (T : List (List (List Int))) (l : Nat) : leastN m T l 0 = 0 := by
  unfold leastN numT; simp
theorem leastN_pos (m : Mill) (T : List (List (List Int))) (l : Nat) {s : Nat} (h : s ≠ 0) : leastN m T l s = if accT (tabF T) l s (bits m.orders.length s) < 99 then accT (tabF T) l s (bits m.orders.length s) else -1 := by
  unfold leastN numT accT; rw [if_neg h]
def leastL (m : Mill) (T : List (List (List Int))) (l s : Nat) : List Int := (List.range s).map (leastN m T l)
theorem leastL_succ (m : Mill) (T : List (List (List Int))) (l s : Nat) : leastL m T l (s + 1) = leastL m T l s ++ [leastN m T l s] := by
  unfold leastL; rw [List.range_succ, List.map_append]; rfl
theorem leastL_len (m : Mill) (T : List (List (List Int))) (l s : Nat) : (leastL m T l s).length = s := by unfold leastL; simp
theorem tabOf_succ (t : Nat → Nat → Int) (N l : Nat) : tabOf t N (l + 1) = tabOf t N l ++ [(List.range N).map (t l)] := by
  unfold tabOf; rw [List.range_succ, List.map_append]; rfl
theorem tabOf_len (t : Nat → Nat → Int) (N l : Nat) : (tabOf t N l).length = l := by unfold tabOf; simp
def lstS (N L M : Nat) (mv tv : Value) (A1 : Option Addr) (c1 Lb n : Nat) (r : Int) : Nat → Value → World → Prop
  | 0 => fun v _ => v = mv
  | 1 => fun v _ => v = tv
  | 2 => fun v _ => v = mv
  | 3 => fun v _ => v = mv
  | 4 => fun v _ => v = .int .i64 N
  | 5 => fun v _ => v = .int .i64 ((N : Int) - 1)
  | 6 => fun v W => OwnI W Lb 3 v (ints (bits n (N - 1)))
  | 7 => fun v _ => v = .pointer (some ⟨M, 0, none⟩)
  | 8 => fun v _ => v = .slice A1 L c1
  | 9 => fun v _ => v = .int .i64 L
  | 10 => fun v W => ∃ b, v = .slice (some ⟨b, 0, none⟩) L L ∧ Lb ≤ b ∧ Row W b L (fun _ => 0)
  | 11 => fun v _ => v = .int .i64 r
  | _ => fun _ _ => True
theorem lstS.ext {N L M : Nat} {mv tv : Value} {A1 : Option Addr} {c1 Lb n : Nat} {r : Int} {w w' : World} (he : Ext w w') (j : Nat) (v : Value) (h : lstS N L M mv tv A1 c1 Lb n r j v w) : lstS N L M mv tv A1 c1 Lb n r j v w' := by
  match j, h with
  | 0, h | 1, h | 2, h | 3, h | 4, h | 5, h | 7, h | 8, h | 9, h | 11, h => exact h
  | 6, h => exact OwnI.ext h he
  | 10, ⟨b, h1, h2, h3⟩ => exact ⟨b, h1, h2, h3.ext he⟩
  | _ + 12, h => trivial

set_option maxRecDepth 20000 in
set_option maxHeartbeats 4000000 in
theorem least5_any (v tv : Value) (m : Mill) (T : List (List (List Int))) (hT : TabOk m T) (r : Int) (hr : shareF (leastN m T) m.laced.length (bits m.orders.length (2 ^ m.orders.length - 1)) (fun _ => 0) = r) (w : World) (hv : MillVal w v m) (ht : TabI w tv T) :
    Calls Tryz.prog 16 #[v, tv] w fun e w' => e = .returned (.int .i64 r) ∧ Ext w w' := by
  obtain ⟨ti, hi, hz0, hz1, hz2⟩ := info_parts info_int
  obtain ⟨ti2, hi2, hy0, hy1, hy2⟩ := info_parts info_slI
  have Hv := Lib.hid hv
  have Ht := Lib.hid ht
  have HT := Lib.hid hT
  have Hr := Lib.hid hr
  obtain ⟨A1, c1, A2, c2, rfl, h2, h3, h4, h5, h6, h7⟩ := hv
  obtain ⟨At, ct, rfl, t2, t3, t4⟩ := ht
  obtain ⟨l1, l2, l3⟩ := check_len hT.ok
  have hTl := hT.len
  rw [hTl] at Ht ⊢
  have hE := Ext.alloc w (.cells #[.slice A1 m.laced.length c1, .int .i64 m.change, .slice A2 m.orders.length c2] 35)
  have hM := Blk.new w 35 #[.slice A1 m.laced.length c1, .int .i64 m.change, .slice A2 m.orders.length c2]
  clear h6 h7 t2 t3 t4 h3 h5 hT hTl hr
  obtain ⟨N, hN⟩ : ∃ N, N = 2 ^ m.orders.length := ⟨_, rfl⟩
  have hNb : N ≤ 128 ∧ 1 ≤ N := by
    have h1 : 2 ^ m.orders.length ≤ 2 ^ 7 := Nat.pow_le_pow_right (by omega) l3
    have h2 : (2 : Nat) ^ 7 = 128 := by decide
    have h3 := Nat.two_pow_pos m.orders.length
    omega
  have HN := Lib.hid hN; clear hN
  have hmk : ∀ W : World, (Instr.makeSlice 22 (.int .i64 (m.laced.length : Int)) (.int .i64 (m.laced.length : Int))).run Tryz.prog W = .ok (.slice (some ⟨W.heap.size, 0, none⟩) m.laced.length m.laced.length) (W.alloc (.cells (Array.replicate m.laced.length (.int .i64 0)) 3)) := by
    intro W
    have := run_make (P := Tryz.prog) W 22 3 ti _ Tryz.underlying22 hi hz0 .i64 .i64 m.laced.length m.laced.length (by omega) (by omega) (by rw [hz2]; omega) (by omega)
    have e : madeCells #[Value.int .i64 0] m.laced.length = Array.replicate m.laced.length (.int .i64 0) := by
      apply Array.ext
      · simp [madeCells]
      · intro j h1 h2
        simp [madeCells, Nat.mod_one]
    simpa [hz1, Value.cells, e] using this
  have Hmk := Lib.hid hmk; clear hmk
  go_enter Tryz.func16, Tryz.ntmps16
  go_wp2_with fail
  go_loopw [5, 6] (fun ov lv wr => ∃ l : Nat, l ≤ m.laced.length ∧ lv = .int .i64 l ∧ Ext w wr ∧ Blk wr w.heap.size 35 #[.slice A1 m.laced.length c1, .int .i64 m.change, .slice A2 m.orders.length c2] ∧ w.heap.size + 1 ≤ wr.heap.size ∧
      Hid (OwnR wr (w.heap.size + 1) ov (tabOf (leastN m T) N l))) (fun _ lv _ => m.laced.length - (intOf lv).toNat)
  case atStart => exact ⟨0, by omega, rfl, hE, hM, by simp, OwnR.nil _ _⟩
  case round =>
    obtain ⟨l, hl, rfl, he, hM1, hsz, ho⟩ := hrel
    by_cases hlt : l < m.laced.length
    · go_wp2_with fail
      obtain ⟨w1, hw1⟩ : ∃ w1, w1 = wr := ⟨_, rfl⟩
      rw [← hw1] at he hM1 ho hsz ⊢
      clear hw1
      go_loopw [7, 8] (fun rv sv wr => ∃ s : Nat, s ≤ N ∧ sv = .int .i64 s ∧ Ext w1 wr ∧ Hid (OwnI wr w1.heap.size 3 rv (leastL m T l s))) (fun _ sv _ => N - (intOf sv).toNat)
      case atStart => exact ⟨0, by omega, rfl, Ext.refl _, OwnI.nil _ _ _⟩
      case round =>
        obtain ⟨s, hs, rfl, heI, hr⟩ := hrel
        have hMA0 := hM1.ext heI
        obtain ⟨tA, tc, te, _, _, tt⟩ := Ht.out.ext (he.trans heI)
        injection te with te1 te2 te3
        subst te1; subst te3
        obtain ⟨b, o, u, rfl, g1, A', c', rfl, g2, g3, g4⟩ := tt l (by rw [← te2]; exact hlt)
        rw [HT.out.rows l hlt, ← HN.out] at g1
        rw [HT.out.rows l hlt, ← HN.out] at g2
        unfold maxLen at g3
        clear tt te2 g4
        by_cases hlts : s < N
        · have hs2 : s < 2 ^ m.orders.length := HN.out ▸ hlts
          obtain ⟨k0, k1, k2⟩ := hMA0.c3
          have hlist := Lib.hid (list5_any _ m s (by omega) (by omega) wr (Hv.out.ext (he.trans heI)))
          go_wp2_with fail
          refine hlist.out.mono ?_
          rintro e w3 ⟨r3, rfl, hl3, he3⟩
          obtain ⟨BL, cL, rfl, p1, p2, p3, p4, p5⟩ := hl3.open_
          have hil : (ints (bits m.orders.length s)).length = (bits m.orders.length s).length := by unfold ints; simp
          have hbl := bits_length_le m.orders.length s
          rw [hil] at p1 ⊢
          unfold maxLen at p2
          have Hp3 := Lib.hid p3
          have heB := heI.trans he3
          have hMB := hMA0.ext he3
          have hrB : Hid (OwnI w3 w1.heap.size 3 u7 (leastL m T l s)) := hr.out.ext he3
          clear p3 p4 p5 hl3 hlist hMA0 hr heI he3 k0 k1 k2 hil g1
          go_wp2_with fail
          go_loopw [10, 11] (fun nv iv wr => ∃ (i : Nat) (n : Int), i ≤ (bits m.orders.length s).length ∧ iv = .int .i64 i ∧ nv = .int .i64 n ∧ (0 ≤ n ∧ n ≤ 99) ∧ Hid (accT (tabF T) l s ((bits m.orders.length s).take i) = n) ∧ Ext w3 wr) (fun _ iv _ => (bits m.orders.length s).length - (intOf iv).toNat)
          case atStart => exact ⟨0, 99, by omega, rfl, rfl, by omega, rfl, Ext.refl _⟩
          case round =>
            obtain ⟨i, n, hi', rfl, rfl, hnb, hacc, he4⟩ := hrel
            by_cases hlti : i < (bits m.orders.length s).length
            · obtain ⟨k, hk⟩ : ∃ k, (bits m.orders.length s)[i] = k := ⟨_, rfl⟩
              have hkm : k ∈ bits m.orders.length s := hk ▸ List.getElem_mem hlti
              obtain ⟨hkn, hkb⟩ := mem_bits.1 hkm
              obtain ⟨bl, ol, rfl, x0⟩ := (IntsAt.ext Hp3.out he4) i (by unfold ints; simpa using hlti)
              have ek : (ints (bits m.orders.length s))[i]?.getD 0 = (k : Int) := by unfold ints; simp [hlti, hk]
              rw [ek] at x0
              obtain ⟨tb, tq, tc0, tb1, to1, tc1, tb2, to2, tc2, te, g1, g2', g3'⟩ := (Ht.out.ext (he.trans (heB.trans he4))).get HT.out hlt hs2 hkn
              injection te with te1 _ te3
              injection te1 with te1
              injection te1 with te4 te5
              subst te4; subst te5; subst te3
              rw [← HN.out] at g1
              have htb := HT.out.bd l s k
              obtain ⟨t, ht⟩ : ∃ t, tabF T l s k = t := ⟨_, rfl⟩
              rw [ht] at g3' htb
              have hstep : Hid (accT (tabF T) l s ((bits m.orders.length s).take (i + 1)) = min n t) := by
                unfold Hid
                rw [List.take_succ_eq_append_getElem hlti, accT_snoc, hacc.out, hk, ht]
              obtain ⟨z, hz⟩ : ∃ z, min n t = z := ⟨_, rfl⟩
              have hzb : 0 ≤ z ∧ z ≤ 99 := by omega
              rw [hz] at hstep
              have Hz := Lib.hid hz
              have he0 := he4
              clear hz ht ek hk hkm hkb hacc he4
              by_cases hnt : n ≤ t
              · obtain rfl : n = z := by have := Hz.out; omega
                have hd : decide (t < n) = false := by simpa using hnt
                go_wp2_with fail
                refine wp_region_chain 15 [] [] (by kernel_rfl) (by kernel_rfl) (by kernel_rfl) ?_
                simp only [List.take, List.drop, fill, Act.put, List.setIfInBounds_toArray, List.set_cons_zero, List.set_cons_succ, Nat.reduceAdd]
                repeat (first
                  | refine Floats.mut rfl ?_
                  | (apply Floats.float rfl
                     · intro x W he hd K Q hK
                       try (have he := he (by decide); have x0 := he.cell x0; have g1 := he.cell g1; have g2' := he.cell g2'; have g3' := he.cell g3')
                       try simp only [edges, DepsE, List.filter_cons, List.filter_nil, Region.binds, if_true, and_true, true_and, upd, Nat.reduceEqDiff, if_false] at hd
                       try simp only [hd] at hK ⊢
                       have HK := Lib.hid hK; clear hK
                       go_wp2_with fail
                       exact HK.out))
                refine Floats.done fun W he hG => ?_
                refine Chain.nil ?_
                simp only [upd, Nat.reduceEqDiff, if_false, if_true]
                go_wp2_with fail
                go_roundw
                case rel => exact ⟨i + 1, _, by omega, by go_num, rfl, hzb, hstep, he0.trans he⟩
                case measure => simp [intOf]; omega
              · obtain rfl : t = z := by have := Hz.out; omega
                have hd : decide (n ≤ t) = false := by simpa using hnt
                have hd2 : t < n := by omega
                go_wp2_with fail
                refine wp_region_chain 15 [] [] (by kernel_rfl) (by kernel_rfl) (by kernel_rfl) ?_
                simp only [List.take, List.drop, fill, Act.put, List.setIfInBounds_toArray, List.set_cons_zero, List.set_cons_succ, Nat.reduceAdd]
                repeat (first
                  | refine Floats.mut rfl ?_
                  | (apply Floats.float rfl
                     · intro x W he hd K Q hK
                       try (have he := he (by decide); have x0 := he.cell x0; have g1 := he.cell g1; have g2' := he.cell g2'; have g3' := he.cell g3')
                       try simp only [edges, DepsE, List.filter_cons, List.filter_nil, Region.binds, if_true, and_true, true_and, upd, Nat.reduceEqDiff, if_false] at hd
                       try simp only [hd] at hK ⊢
                       have HK := Lib.hid hK; clear hK
                       go_wp2_with fail
                       exact HK.out))
                refine Floats.done fun W he hG => ?_
                refine Chain.nil ?_
                simp only [upd, Nat.reduceEqDiff, if_false, if_true]
                go_wp2_with fail
                go_roundw
                case rel => exact ⟨i + 1, _, by omega, by go_num, rfl, hzb, hstep, he0.trans he⟩
                case measure => simp [intOf]; omega
            · obtain rfl : i = (bits m.orders.length s).length := by omega
              rw [List.take_length] at hacc
              obtain ⟨W, hW⟩ : ∃ W, W = wr := ⟨_, rfl⟩
              rw [← hW] at he4 ⊢
              clear hW
              have heE := heB.trans he4
              have hME := hMB.ext he4
              have hrE : Hid (OwnI W w1.heap.size 3 u7 (leastL m T l s)) := hrB.out.ext he4
              clear heB hMB hrB he4
              by_cases hs0 : s = 0
              · subst hs0
                have Htv : Hid (leastN m T l 0 = 0) := leastN_zero m T l
                have hn : n = 99 := by
                  have := hacc.out
                  have e : bits m.orders.length 0 = [] := by
                    unfold bits
                    rw [List.filter_eq_nil_iff]
                    intro x _; simp
                  rw [e] at this
                  exact this.symm
                subst hn
                clear hacc
                obtain ⟨BB, cB, rfl, oo1, oo2, oo3, oo4, oo5⟩ := hrE.out.open_
                have hlen := leastL_len m T l 0
                rw [hlen] at oo1 hrE ⊢
                have HL := Lib.hid hlen; clear hlen
                have O4 := Lib.hid oo4; clear oo3 oo4 oo5
                have hszE := heE.size
                go_wp2_with (at_builtin; refine wpList_app rfl _ _ 22 rfl w1.heap.size 3 ti (.int .i64 0) 1 8 Tryz.underlying22 hi hz0 hz1 hz2 rfl (by decide) _ _ _ rfl (ownsRow_alloc_of HL.out hrE.out) (some ⟨W.heap.size, 0, none⟩) 1 1 [.int .i64 0] rfl rfl (Src.one _ _ _) ?c2 ?c3 ?c4 ?c5 ?_; (case c2 => (intro u hu; simp at hu; subst hu; rfl)); (case c3 => (unfold maxLen; omega)); (case c4 => omega); (case c5 => (simp; omega)); intro v' w' hown' hg hblk)
                go_roundw
                case rel =>
                  have hge := own_ge O4.out (L := 0) (c := cB)
                  refine ⟨0 + 1, by omega, by go_num, ext_grown heE hg (fun j hj => by have := hge j hj; omega), ?_⟩
                  · unfold Hid
                    rw [leastL_succ, Htv.out]
                    unfold OwnI
                    rw [List.map_append, List.length_append, HL.out]
                    exact hown'
                case measure => simp [intOf]; omega
              · have hd2 : ((s : Int) == 0) = false := by rw [beq_eq_false_iff_ne]; omega
                by_cases hn : n = 99
                · subst hn
                  have Htv : Hid (leastN m T l s = -1) := by unfold Hid; rw [leastN_pos m T l hs0, hacc.out]; rfl
                  clear hacc
                  obtain ⟨BB, cB, rfl, oo1, oo2, oo3, oo4, oo5⟩ := hrE.out.open_
                  have hlen := leastL_len m T l s
                  rw [hlen] at oo1 hrE ⊢
                  have HL := Lib.hid hlen; clear hlen
                  have O4 := Lib.hid oo4; clear oo3 oo4 oo5
                  have hszE := heE.size
                  go_wp2_with (at_builtin; refine wpList_app rfl _ _ 22 rfl w1.heap.size 3 ti (.int .i64 0) 1 8 Tryz.underlying22 hi hz0 hz1 hz2 rfl (by decide) _ _ _ rfl (ownsRow_alloc_of HL.out hrE.out) (some ⟨W.heap.size, 0, none⟩) 1 1 [.int .i64 (-1)] rfl rfl (Src.one _ _ _) ?c2 ?c3 ?c4 ?c5 ?_; (case c2 => (intro u hu; simp at hu; subst hu; rfl)); (case c3 => (unfold maxLen; omega)); (case c4 => omega); (case c5 => (simp; omega)); intro v' w' hown' hg hblk)
                  go_roundw
                  case rel =>
                    have hge := own_ge O4.out (L := s) (c := cB)
                    refine ⟨s + 1, by omega, by go_num, ext_grown heE hg (fun j hj => by have := hge j hj; omega), ?_⟩
                    · unfold Hid
                      rw [leastL_succ, Htv.out]
                      unfold OwnI
                      rw [List.map_append, List.length_append, HL.out]
                      exact hown'
                  case measure => simp [intOf]; omega
                · have hd : (n == 99) = false := by rw [beq_eq_false_iff_ne]; exact hn
                  have Htv : Hid (leastN m T l s = n) := by unfold Hid; rw [leastN_pos m T l hs0, hacc.out, if_pos (by omega)]
                  clear hacc hn
                  obtain ⟨BB, cB, rfl, oo1, oo2, oo3, oo4, oo5⟩ := hrE.out.open_
                  have hlen := leastL_len m T l s
                  rw [hlen] at oo1 hrE ⊢
                  have HL := Lib.hid hlen; clear hlen
                  have O4 := Lib.hid oo4; clear oo3 oo4 oo5
                  have hszE := heE.size
                  go_wp2_with (at_builtin; refine wpList_app rfl _ _ 22 rfl w1.heap.size 3 ti (.int .i64 0) 1 8 Tryz.underlying22 hi hz0 hz1 hz2 rfl (by decide) _ _ _ rfl (ownsRow_alloc_of HL.out hrE.out) (some ⟨W.heap.size, 0, none⟩) 1 1 [.int .i64 n] rfl rfl (Src.one _ _ _) ?c2 ?c3 ?c4 ?c5 ?_; (case c2 => (intro u hu; simp at hu; subst hu; rfl)); (case c3 => (unfold maxLen; omega)); (case c4 => omega); (case c5 => (simp; omega)); intro v' w' hown' hg hblk)
                  go_roundw
                  case rel =>
                    have hge := own_ge O4.out (L := s) (c := cB)
                    refine ⟨s + 1, by omega, by go_num, ext_grown heE hg (fun j hj => by have := hge j hj; omega), ?_⟩
                    · unfold Hid
                      rw [leastL_succ, Htv.out]
                      unfold OwnI
                      rw [List.map_append, List.length_append, HL.out]
                      exact hown'
                  case measure => simp [intOf]; omega
        · obtain rfl : s = N := by omega
          have heA := heI
          obtain ⟨BB, cB, rfl, oo1, oo2, oo3, oo4, oo5⟩ := hr.out.open_
          have hlen := leastL_len m T l s
          rw [hlen] at oo1 hr ⊢
          clear oo3 oo4 oo5
          obtain ⟨vs, hv1, hv2, hv3⟩ := ho.out
          have hal := tabOf_len (leastN m T) s l
          rw [hal] at hv1 hv2 hv3
          have Hv1 := Lib.hid hv1; have Hv2 := Lib.hid hv2; have Hv3 := Lib.hid hv3; clear hv1 hv2 hv3
          have Hal := Lib.hid hal; have Hlen := Lib.hid hlen; clear hal hlen
          obtain ⟨w2, hw2⟩ : ∃ w2, w2 = wr := ⟨_, rfl⟩
          rw [← hw2] at heA hMA0 hr g1 ⊢
          clear hw2 heI
          go_wp2_with (at_builtin; refine wpList_app rfl _ _ 30 rfl (w.heap.size + 1) 22 ti2 (.slice none 0 0) 1 24 Tryz.underlying30 hi2 hy0 hy1 hy2 rfl (by decide) _ _ _ rfl (ownsRow_ext2 Hv1.out (heA.trans (Ext.alloc _ _))) (some ⟨w2.heap.size, 0, none⟩) 1 1 [.slice BB s cB] rfl rfl (Src.one _ _ _) ?c2 ?c3 ?c4 ?c5 ?_; (case c2 => (intro u hu; simp at hu; subst hu; rfl)); (case c3 => (unfold maxLen; omega)); (case c4 => omega); (case c5 => (have := heA.size; simp; omega)); intro v' w' hown' hg hblk)
          go_roundw
          case rel =>
            have hsz1 := heA.size
            have hrow := ownsRow_ext2 Hv1.out (heA.trans (Ext.alloc w2 (.cells #[.slice BB s cB] 22)))
            have hge : ∀ j, u5.ownBlock = some j → w.heap.size + 1 ≤ j := by
              obtain ⟨A0, c0, e0, _, _, h5, _⟩ := ho.out.open_
              intro j hj
              rw [e0] at hj
              cases A0 with
              | none => cases hj
              | some a0 =>
                have h6 : a0.block = j := Option.some.inj hj
                have := (h5 a0 rfl).1
                omega
            refine ⟨l + 1, by omega, by go_num, ext_grown (he.trans heA) hg (fun j hj => by have := hge j hj; omega), (hMA0.alloc _).grown hg (fun e => by have := hge _ e.symm; omega), ?_, ?_⟩
            · have := hg.size; simp at this; omega
            · unfold Hid
              rw [tabOf_succ]
              refine OwnR.push Hal.out hrow Hv2.out (fun i hi => (Hv3.out i hi).ext (heA.trans (Ext.alloc _ _))) ((OwnI.ext hr.out (Ext.alloc _ _)).mono (by omega)) hown' hg
          case measure => simp [intOf]; omega
    · obtain rfl : l = m.laced.length := by omega
      have hb2 := ho.out
      obtain ⟨tA, tc, rfl, q1, q2, q3, q4⟩ := hb2.open_
      have hTl2 := tabOf_len (leastN m T) N m.laced.length
      rw [hTl2] at ho q1 ⊢
      clear q3 q4 hb2 hTl2
      have hMr := hM1
      have hmv := Hv.out.ext he
      have hszr := he.size
      have hbits : (bits m.orders.length (N - 1)).length ≤ 7 := by have := bits_length_le m.orders.length (N - 1); omega
      have hil : (ints (bits m.orders.length (N - 1))).length = (bits m.orders.length (N - 1)).length := by unfold ints; simp
      have hr2 : Hid (shareF (leastN m T) m.laced.length (bits m.orders.length (N - 1)) (fun _ => 0) = r) := by unfold Hid; rw [HN.out]; exact Hr.out
      have Hmv := Lib.hid hmv
      have hN1 : N - 1 < 2 ^ m.orders.length := by rw [← HN.out]; omega
      clear hmv Hr
      go_wp2_with fail
      refine wp_region_apart 12 (by kernel_rfl) (by kernel_rfl) (fun W' => Ext wr W') (lstS N m.laced.length w.heap.size (.agg #[.slice A1 m.laced.length c1, .int .i64 m.change, .slice A2 m.orders.length c2]) (.slice tA m.laced.length tc) A1 c1 wr.heap.size m.orders.length r) fewAp (Ext.drew _) ?_ ?_
      · simp only [List.take, AllOps2, fill, Act.put, List.setIfInBounds_toArray, List.set_cons_zero, List.set_cons_succ, Nat.reduceAdd, Deps, DepsL, List.filter_cons, List.filter_nil, Region.binds, if_true, and_true]
        refine ⟨?_, ?_, ?_, ?_, ?_, ?_, ?_, ?_, ?_, ?_, ?_, ?_⟩
        all_goals
          intro Ld x W' hG hnl hLR hAp hdl hd K Q hK
        case refine_5 =>
          simp only [lstS] at hd
          simp only [hd] at hK ⊢
          have HK := Lib.hid hK; clear hK
          have HL := Lib.hid hLR; clear hLR hAp hdl
          have hse := Lib.hid (sets5_any _ m (by omega) N HN.out W' (Hmv.out.ext hG))
          go_wp2_with fail
          refine hse.out.mono ?_
          rintro e w' ⟨rfl, he'⟩
          go_wp2
          exact HK.out _ _ rfl (hG.trans he') (fun j hj => ⟨lstS.ext he' j _ (HL.out j hj), .inl fun h => absurd h (by omega)⟩)
        case refine_7 =>
          simp only [lstS] at hd
          simp only [hd] at hK ⊢
          have HK := Lib.hid hK; clear hK
          have HL := Lib.hid hLR; clear hLR hAp hdl
          have hlist := Lib.hid (list5_any _ m (N - 1) (by omega) (by omega) W' (Hmv.out.ext hG))
          have hnc : ((N - 1 : Nat) : Int) = (N : Int) - 1 := by omega
          rw [hnc] at hlist
          clear hnc
          go_wp2_with fail
          refine hlist.out.mono ?_
          rintro e w' ⟨rv, rfl, hrv, he'⟩
          go_wp2
          refine HK.out _ _ (hrv.mono hG.size) (hG.trans he') (fun j hj => ⟨lstS.ext he' j _ (HL.out j hj), .inl fun h => ?_⟩)
          have hj10 : j = 10 := by omega
          subst hj10
          obtain ⟨b, e1, _, hb⟩ := HL.out 10 hj
          intro g hg e
          rw [e1] at hg
          have h1 : b = g := Option.some.inj hg
          obtain ⟨Ar, cr, e2, _, _, _, h5, _⟩ := hrv.open_
          subst e2
          cases Ar with
          | none => cases e
          | some ar =>
            have h6 : ar.block = g := Option.some.inj e
            have := (h5 ar rfl).1
            have := hb.lt
            omega
        case refine_11 =>
          simp only [lstS] at hd
          simp only [hd] at hK ⊢
          have HK := Lib.hid hK; clear hK
          have HL := Lib.hid hLR; clear hLR hAp hdl hd
          have hmk := Hmk.out
          go_wp2_with fail
          refine HK.out _ _ ⟨_, rfl, hG.size, Row.const (Blk.new _ _ _)⟩ (hG.trans (Ext.alloc _ _)) (fun j hj => ⟨lstS.ext (Ext.alloc _ _) j _ (HL.out j hj), .inl fun h => ?_⟩)
          have hj6 : j = 6 := by omega
          subst hj6
          have h2 : OwnI W' wr.heap.size 3 (x 6) (ints (bits m.orders.length (N - 1))) := HL.out 6 hj
          obtain ⟨Ar, cr, e2, _, _, _, h5, _⟩ := h2.open_
          intro g hg e
          have h1 : W'.heap.size = g := Option.some.inj e
          rw [e2] at hg
          cases Ar with
          | none => cases hg
          | some ar =>
            have h6 : ar.block = g := Option.some.inj hg
            have := (h5 ar rfl).2.1
            omega
        case refine_12 =>
          have hld : Ld 6 ∧ Ld 10 := by grind
          have hap := hAp 6 10 hld.1 hld.2 (by omega)
          have hx6 : OwnI W' wr.heap.size 3 (x 6) (ints (bits m.orders.length (N - 1))) := hLR 6 hld.1
          obtain ⟨b, hx10, hb1, hb2⟩ := hLR 10 hld.2
          have hx0 : x 0 = _ := hd.1
          have hx1 : x 1 = _ := hd.2.1
          obtain ⟨Al, cl, hxl, p1, p2, p3, p4, p5⟩ := hx6.open_
          have hne : (x 6).ownBlock ≠ some b := by
            intro e
            rcases hap with h | h
            · exact h (.inl ⟨rfl, rfl⟩) b e (by rw [hx10]; rfl)
            · exact h (.inr ⟨rfl, rfl⟩) b (by rw [hx10]; rfl) e
          rw [hil] at hxl p1
          have hcall := Lib.hid (shared_any (leastN m T) (leastN_bd HT.out) N m.laced.length l2 (by omega) _ b m.laced.length (.agg #[.slice A1 m.laced.length c1, .int .i64 m.change, .slice A2 m.orders.length c2]) m tA tc (bits m.orders.length (N - 1)) (by omega)
            (fun k hk => by have := (mem_bits.1 hk).1; omega) Al cl (fun _ => 0) W' p1 p2 (fun V hV => ho.out.ext (Apart.ext_of hG (by omega) hV)) (fun V hV => by
              have h := hx6.apart hne hV
              obtain ⟨Al', cl', e', _, _, h3, _⟩ := h.open_
              rw [hxl] at e'
              simp only [Value.slice.injEq] at e'
              rw [e'.1]; exact h3) (fun V hV => Hmv.out.ext (Apart.ext_of hG (by omega) hV))
            hb2 (Nat.le_refl _) (fun i hi => by rw [sumP_bits (by omega) hN1]; omega))
          rw [hr2.out] at hcall
          simp only [hx0, hx1, hxl, hx10] at hK ⊢
          have HK := Lib.hid hK; clear hK
          have HL := Lib.hid hLR; clear hLR hAp hdl hd hx0 hx1 hx10 hap hx6 hne hb2 p3 p4 p5
          clear hxl
          go_wp2_with fail
          refine hcall.out.mono ?_
          rintro e w' ⟨rfl, he'⟩
          go_wp2
          exact HK.out _ _ rfl (hG.trans he') (fun j hj => ⟨lstS.ext he' j _ (HL.out j hj), .inl fun h => absurd h (by omega)⟩)
        all_goals
          try (simp only [lstS] at hd; simp only [hd] at hK ⊢)
          have HK := Lib.hid hK; clear hK
          have HL := Lib.hid hLR; clear hLR hAp hdl
          obtain ⟨k0, k1, k2⟩ := (hMr.ext hG).c3
          go_wp2_with fail
          exact HK.out _ _ rfl hG (fun j hj => ⟨HL.out j hj, .inl fun h => absurd h (by omega)⟩)
      · intro x W7 hG _ hR
        simp only [AllR, lstS, true_and] at hR
        have r11 := hR.2
        simp only [List.take, List.drop, fill, Act.put, List.setIfInBounds_toArray, List.set_cons_zero, List.set_cons_succ, Nat.reduceAdd, r11]
        clear r11 hR
        go_wp2_with fail
        go_ret
        exact ⟨rfl, he.trans hG⟩
end Go.Proofs.Pet
