/-
  The reference's Slipped, walked.
-/
import Derived.Test.YtjlglbhafopomaaGreatPG2
namespace Go.Proofs.Pet
open Go Go.RowKit Go.Maps Go.Shelf
open Go.Proofs.Pow (PM Sh Wv POk Up sightF clrB explB bitsL pickF bothF)

theorem filter_take_succ {L : List Int} {p : Int → Bool} {k : Nat} (hk : k < L.length) : (L.take (k + 1)).filter p = (L.take k).filter p ++ if p (L[k]?.getD 0) = true then [L[k]?.getD 0] else [] := by
  rw [List.take_succ_eq_append_getElem hk, List.filter_append]
  simp only [List.getElem?_eq_getElem hk, Option.getD_some]
  cases h : p L[k] <;> simp [h]
theorem ints_filter (l r : List Nat) : (ints l).filter (fun x => (ints r).contains x) = ints (l.filter fun x => r.contains x) := by
  unfold ints
  rw [List.filter_map]
  congr 1
  refine List.filter_congr fun x _ => ?_
  exact ints_contains r x
/-- what a search has found -/
def FndI (W : World) (base : Nat) (v : Value) (o : Option (List Nat)) : Prop := (o = none → v = .slice none 0 0) ∧ ∀ l, o = some l → OwnI W base 3 v (ints l)
theorem FndI.ext {W W' : World} {base : Nat} {v : Value} {o : Option (List Nat)} (h : FndI W base v o) (he : Ext W W') : FndI W' base v o := ⟨h.1, fun l e => (h.2 l e).ext he⟩
theorem FndI.own {W : World} {base : Nat} {v : Value} {o : Option (List Nat)} (h : FndI W base v o) : OwnI W base 3 v (ints (o.getD [])) := by
  cases o with
  | none => rw [h.1 rfl]; exact OwnI.nil _ _ _
  | some l => exact h.2 l rfl
theorem bits_len (n s : Nat) : (bitsL n s).length ≤ n := by
  unfold bitsL
  exact Nat.le_trans (List.length_filter_le _ _) (by simp)
theorem both_len {n : Nat} {p : List Nat → Bool} : ∀ {s : Nat} {b : List Nat}, bothF n p s = some b → b.length ≤ n
  | s + 1, b, h => by
    unfold bothF at h
    split at h
    · cases hb : bothF n p s with
      | none =>
        rw [hb] at h
        simp only [Option.some.injEq] at h
        subst h
        exact Nat.le_trans (List.length_filter_le _ _) (bits_len n s)
      | some c =>
        rw [hb] at h
        simp only [Option.some.injEq] at h
        subst h
        exact Nat.le_trans (List.length_filter_le _ _) (both_len hb)
    · exact both_len h
theorem list_bits7 {n s : Nat} (hn : n ≤ 14) (hs : s < pw n) (w : World) : Calls Tryz.prog 120 #[.int .i64 (s : Int)] w fun e w' => ∃ v, e = .returned v ∧ OwnI w' w.heap.size 3 v (ints (bitsL n s)) ∧ Ext w w' := by
  have hs2 : s < 2 ^ n := by rw [← pw_pow]; exact hs
  have hb := pw_le hn
  have hl := listL_len (k := 0) hs2
  have := list7_any s (by omega) (by omega) w
  rwa [listL_bits hs2] at this
set_option maxRecDepth 20000 in
set_option maxHeartbeats 4000000 in
theorem slipped7_any (v : Value) (m : PM) (hm : POk m) (A : Option Addr) (c n : Nat) (l : List Int) (hn : l.length = n) (hnw : n = m.wvs.length) (w : World) (hv : PMVal w v m) (hx : IntsAt w A l) :
    Calls Tryz.prog 61 #[v, .slice A n c] w fun e w' => ∃ u1 u2, e = .returned (.tuple #[u1, u2, .bool (pickF m.shafts.length (explB m (sightF l)) (2 ^ m.shafts.length)).isSome]) ∧
      OwnI w' w.heap.size 3 u1 (ints ((pickF m.shafts.length (explB m (sightF l)) (2 ^ m.shafts.length)).getD [])) ∧ OwnI w' w.heap.size 3 u2 (ints ((bothF m.shafts.length (explB m (sightF l)) (2 ^ m.shafts.length)).getD [])) ∧ Ext w w' := by
  obtain ⟨ti, hi, ht0, ht1, ht2⟩ := info_parts info_int
  rw [← pw_pow]
  have Hv := Lib.hid hv
  have Hn := Lib.hid hn; have Hnw := Lib.hid hnw
  have hfew := hm.few; have hsz9 := hm.sz
  have hn6 : n ≤ 6 := by omega
  obtain ⟨A1, c1, A2, c2, rfl, -, -, -, -, -, -⟩ := hv
  have hE := Ext.alloc w (.cells #[.slice A1 m.shafts.length c1, .slice A2 m.wvs.length c2] 54)
  have HM := Lib.hid (Blk.new w 54 #[.slice A1 m.shafts.length c1, .slice A2 m.wvs.length c2])
  have HX := Lib.hid (hx.ext hE)
  have HV := Lib.hid (Hv.out.ext hE)
  have Hm := Lib.hid hm
  have hszE := hE.size
  obtain ⟨p, hp⟩ : ∃ p, explB m (sightF l) = p := ⟨_, rfl⟩
  obtain ⟨S, hS⟩ : ∃ S, m.shafts.length = S := ⟨_, rfl⟩
  have Hex := Lib.hid (fun (t : Nat) (B : Option Addr) (d n2 : Nat) (hg : (ints (bitsL S t)).length = n2) (hn2 : n2 ≤ 1000) (q : Bool) (hq : p (bitsL S t) = q) (W : World) (hW : Ext (w.alloc (.cells #[.slice A1 m.shafts.length c1, .slice A2 m.wvs.length c2] 54)) W) (hB : IntsAt W B (ints (bitsL S t))) =>
    explains7_any _ m hm A c n l hn hnw B d n2 _ hg hn2 q (by rw [explG_ints hm, hp]; exact hq) W (HV.out.ext hW) (HX.out.ext hW) hB)
  rw [hp, hS]
  rw [hS] at hsz9 HM hE hszE Hex HX HV
  clear hx hn hnw hm Hv hp hS Hn Hnw
  go_enter Tryz.func61, Tryz.ntmps61
  go_wp2_with fail
  generalize w.alloc _ = W at *
  have hbS := pw_le (k := S) (by omega)
  go_loopw [7, 8, 9, 10] (fun u1 u2 f i wr => ∃ t : Nat, t ≤ pw S ∧ i = .int .i64 t ∧ f = .bool (pickF S p t).isSome ∧ Hid (FndI wr W.heap.size u1 (pickF S p t)) ∧ Hid (FndI wr W.heap.size u2 (bothF S p t)) ∧ Ext W wr) (fun _ _ _ i _ => pw S - (intOf i).toNat)
  case atStart => exact ⟨0, by omega, rfl, rfl, ⟨fun _ => rfl, fun l e => by cases e⟩, ⟨fun _ => rfl, fun l e => by cases e⟩, Ext.refl _⟩
  case round =>
    obtain ⟨t, ht, rfl, rfl, hF1, hF2, he⟩ := hrel
    obtain ⟨wo, rfl⟩ : ∃ z, z = wr := ⟨_, rfl⟩
    obtain ⟨k0, k1⟩ := (HM.out.ext he).c2
    have hbit := Lib.hid (bit7_any S (by omega) wo)
    by_cases hlt : t < pw S
    · have hd : decide ((t : Int) < ((pw S : Nat) : Int)) = true := decide_eq_true (by omega)
      have hd' : decide (t < pw S) = true := decide_eq_true hlt
      obtain ⟨P, hP⟩ : ∃ P, pw S = P := ⟨_, rfl⟩
      have hli := Lib.hid (list_bits7 (show S ≤ 14 by omega) hlt wo)
      rw [hP] at hbit hd hd' ht hlt hbS
      have HP := Lib.hid hP
      clear hP
      go_wp2_with fail
      refine hbit.out.mono ?_
      rintro e w5 ⟨rfl, rfl⟩
      clear hbit
      go_wp2_with fail
      refine hli.out.mono ?_
      rintro e w6 ⟨uL, rfl, hOL, he6⟩
      obtain ⟨AL, cL, rfl⟩ := ownsRow_slice hOL
      have heA := he.trans he6
      obtain ⟨xn, hxn⟩ : ∃ xn, (ints (bitsL S t)).length = xn := ⟨_, rfl⟩
      have hxn14 : xn ≤ 14 := by
        rw [← hxn]; unfold ints; rw [List.length_map]
        exact Nat.le_trans (bits_len S t) (by omega)
      obtain ⟨q, hq⟩ : ∃ q, p (bitsL S t) = q := ⟨_, rfl⟩
      have hexp := Lib.hid (Hex.out t AL cL xn hxn (by omega) q hq w6 heA hOL.sl.ints)
      have HOL := Lib.hid hOL; have Hxn := Lib.hid hxn
      rw [hxn]
      have hs1 : pickF S p (t + 1) = if p (bitsL S t) && (match pickF S p t with | none => true | some x => Pow.before (bitsL S t) x) then some (bitsL S t) else pickF S p t := rfl
      have hs2 : bothF S p (t + 1) = if p (bitsL S t) then some (match bothF S p t with | none => (bitsL S t).filter fun x => (bitsL S t).contains x | some b => b.filter fun x => (bitsL S t).contains x) else bothF S p t := rfl
      rw [hq] at hs1 hs2
      have Hs1 := Lib.hid hs1; have Hs2 := Lib.hid hs2
      clear hli hOL hxn hq hs1 hs2 k0 k1
      obtain ⟨k0, k1⟩ := (HM.out.ext heA).c2
      cases q with
      | false =>
        go_wp2_with fail
        refine hexp.out.mono ?_
        rintro e w7 ⟨rfl, he7⟩
        have heB := heA.trans he7
        have hF1' := Lib.hid (hF1.out.ext (he6.trans he7)); have hF2' := Lib.hid (hF2.out.ext (he6.trans he7))
        clear hexp k0 k1 hF1 hF2
        go_wp2_with fail
        go_roundw
        case rel => exact ⟨t + 1, by rw [HP.out]; omega, by go_num, by rw [Hs1.out]; rfl, Lib.hid (by rw [Hs1.out]; exact hF1'.out), Lib.hid (by rw [Hs2.out]; exact hF2'.out), heB⟩
        case measure => rw [HP.out]; simp [intOf]; omega
      | true =>
        obtain ⟨o1, ho1⟩ : ∃ o1, pickF S p t = o1 := ⟨_, rfl⟩
        obtain ⟨o2, ho2⟩ : ∃ o2, bothF S p t = o2 := ⟨_, rfl⟩
        have hoo : o2 = none ↔ o1 = none := by rw [← ho1, ← ho2]; exact Pow.both_pick t
        have hbl : ∀ b, o2 = some b → b.length ≤ S := fun b e => both_len (ho2.trans e)
        have hpl : ∀ b, o1 = some b → b.length ≤ S := fun b e => by
          obtain ⟨_, ⟨t', _, rfl⟩, _⟩ := Pow.pickF_some (ho1.trans e)
          exact bits_len _ _
        rw [ho1] at hF1 Hs1
        rw [ho2] at hF2 Hs2
        rw [ho1]
        have Hbl := Lib.hid hbl; have Hpl := Lib.hid hpl; have Hoo := Lib.hid hoo
        clear ho1 ho2 hbl hpl hoo
        go_wp2_with fail
        refine hexp.out.mono ?_
        rintro e w7 ⟨rfl, he7⟩
        have he67 := he6.trans he7
        have heB := heA.trans he7
        clear hexp k0 k1
        have HOL7 := Lib.hid ((HOL.out.mono he.size).ext he7)
        have hF1' := Lib.hid (hF1.out.ext he67); have hF2' := Lib.hid (hF2.out.ext he67)
        clear hF1 hF2 HOL
        -- the list that is kept: sure, or the first one
        obtain ⟨zs, hzs⟩ : ∃ zs : List Nat, o2.getD (bitsL S t) = zs := ⟨_, rfl⟩
        have hzl : zs.length ≤ S := by
          cases o2 with
          | none => rw [← hzs]; exact bits_len _ _
          | some b => rw [← hzs]; exact Hbl.out b rfl
        have hs2' : Hid (bothF S p (t + 1) = some (zs.filter fun x => (bitsL S t).contains x)) := by
          unfold Hid
          have h := Hs2.out
          simp only [if_true] at h
          rw [h, ← hzs]
          cases o2 <;> rfl
        go_upto_if 30 with fail
        go_cut [8] (fun a wx => Hid (OwnI wx W.heap.size 3 a (ints zs)) ∧ w7 = wx)
        case first =>
          cases o1 with
          | none =>
            have e2 := Hoo.out.2 rfl
            subst e2
            have hb : ((none : Option (List Nat)).isSome) = false := rfl
            have HZ : Hid (OwnI w7 W.heap.size 3 (.slice AL xn cL) (ints zs)) := by
              unfold Hid
              rw [← hzs, ← Hxn.out]
              exact HOL7.out
            clear hzs hzl hs2' Hs1 Hs2 hF1' hF2' Hbl Hpl Hoo
            go_wp2_with fail
            go_meet
            exact ⟨HZ, rfl⟩
          | some x1 =>
            obtain ⟨b, rfl⟩ : ∃ b, o2 = some b := by
              cases o2 with
              | none => have := Hoo.out.1 rfl; cases this
              | some b => exact ⟨b, rfl⟩
            have hb : ((some x1 : Option (List Nat)).isSome) = true := rfl
            have HZ := Lib.hid (hF2'.out.2 b rfl)
            have e : b = zs := hzs
            subst e
            clear hzs hzl hs2' Hs1 Hs2 hF1' hF2' Hbl Hpl Hoo
            go_wp2_with fail
            go_meet
            exact ⟨HZ, rfl⟩
        case rest =>
          obtain ⟨hO8, rfl⟩ := hcut
          obtain ⟨A8, c8, rfl⟩ := ownsRow_slice hO8.out
          obtain ⟨zi, hzi⟩ : ∃ zi, ints zs = zi := ⟨_, rfl⟩
          rw [hzi] at hO8 ⊢
          obtain ⟨zn, hzn⟩ : ∃ zn, zi.length = zn := ⟨_, rfl⟩
          have hznl : zn ≤ S := by rw [← hzn, ← hzi]; unfold ints; rw [List.length_map]; exact hzl
          have HZ := Lib.hid hO8.out.sl.ints
          rw [hzn]
          have Hzn := Lib.hid hzn; have Hzi := Lib.hid hzi
          have HL7 := Lib.hid HOL7.out.sl.ints
          clear hzn hzi hzl hzs hO8
          go_wp2_with fail
          go_loopw [12, 13] (fun u i wr => ∃ (j : Nat) (xs : List Int), j ≤ zn ∧ xs.length ≤ j ∧ i = .int .i64 j ∧ Hid ((zi.take j).filter (fun x => (ints (bitsL S t)).contains x) = xs) ∧ Hid (OwnI wr w7.heap.size 3 u xs) ∧ Ext w7 wr) (fun _ i _ => zn - (intOf i).toNat)
          case atStart => exact ⟨0, [], by omega, by simp, rfl, rfl, Lib.hid (OwnI.nil _ _ _), Ext.refl _⟩
          case round =>
            obtain ⟨j, xs, hj, hxl, rfl, hxs, hO, he2⟩ := hrel
            have heC := heB.trans he2
            by_cases hlj : j < zn
            · have hjl : Hid (j < zi.length) := by rw [Hzn.out]; exact hlj
              have hsc := filter_take_succ (p := fun x => (ints (bitsL S t)).contains x) hjl.out
              obtain ⟨b, o, rfl, q1⟩ := HZ.out.ext he2 j hjl.out
              obtain ⟨y, hy⟩ : ∃ y, zi[j]?.getD 0 = y := ⟨_, rfl⟩
              rw [hy] at q1 hsc
              obtain ⟨q2, hq2⟩ : ∃ q2, (ints (bitsL S t)).contains y = q2 := ⟨_, rfl⟩
              rw [hxs.out, hq2] at hsc
              have hha := Lib.hid (has_any y AL cL xn (ints (bitsL S t)) Hxn.out q2 hq2 wr (by unfold maxLen; omega) (HL7.out.ext he2))
              have Hsc := Lib.hid hsc
              clear hsc hy hjl hxs hq2
              cases q2 with
              | true =>
                have hX := Ext.alloc wr (.cells #[.int .i64 y] 3)
                have hsrc := Src.one wr (.int .i64 y) 3
                have hOX := hO.out.ext hX
                have hsz := he2.size
                have hszX := hX.size
                obtain ⟨A4, c4, rfl⟩ := ownsRow_slice hO.out
                have Hw : Hid (∀ v' w', w'.ownsRow w7.heap.size 3 1 v' (xs.length + 1) (xs.map (Value.int .i64) ++ [.int .i64 y]) → (wr.alloc (.cells #[.int .i64 y] 3)).grownBy w' (Value.slice A4 xs.length c4).ownBlock → OwnI w' w7.heap.size 3 v' (xs ++ [y]) ∧ Ext w7 w') := by
                  intro v' w' hown hg
                  exact ⟨by unfold OwnI; rw [List.length_append, List.map_append]; exact hown, ext_grown he2 hg fun j hj => (hO.out.own_lt j hj).1⟩
                clear hO
                go_wp2_with fail
                refine hha.out.mono ?_
                rintro e w9 ⟨rfl, rfl⟩
                clear hha
                go_wp2_with (at_builtin; refine wpList_app rfl _ _ 31 rfl w7.heap.size 3 ti (.int .i64 0) 1 8 Tryz.underlying31 hi ht0 ht1 ht2 rfl (by decide) (.slice A4 xs.length c4) xs.length _ rfl hOX (some ⟨wr.heap.size, 0, none⟩) 1 1 [.int .i64 y] rfl rfl hsrc ?c2 ?c3 ?c4 ?c5 ?_; (case c2 => (intro u hu; rw [List.mem_singleton] at hu; subst hu; rfl)); (case c3 => (unfold maxLen; omega)); (case c4 => omega); (case c5 => omega); intro v' w5 hown hg hblk; have HO := Lib.hid (Hw.out v' w5 hown hg); clear hown hg hblk)
                go_roundw
                case rel => exact ⟨j + 1, xs ++ [y], by omega, by simp; omega, by go_num, Lib.hid (by rw [Hsc.out]; simp), HO.out.1, HO.out.2⟩
                case measure => simp [intOf]; omega
              | false =>
                go_wp2_with fail
                refine hha.out.mono ?_
                rintro e w9 ⟨rfl, rfl⟩
                clear hha
                go_wp2_with fail
                go_roundw
                case rel => exact ⟨j + 1, xs, by omega, by omega, by go_num, Lib.hid (by rw [Hsc.out]; simp), hO, he2⟩
                case measure => simp [intOf]; omega
            · obtain rfl : j = zn := by omega
              have hful : xs = ints (zs.filter fun x => (bitsL S t).contains x) := by
                rw [← hxs.out, List.take_of_length_le (by rw [Hzn.out]; omega), ← Hzi.out]
                exact ints_filter zs (bitsL S t)
              obtain ⟨A5, c5, rfl⟩ := ownsRow_slice hO.out
              have hBF : Hid (FndI wr W.heap.size (.slice A5 xs.length c5) (bothF S p (t + 1))) := ⟨fun e => (by rw [hs2'.out] at e; cases e), fun l e => by
                rw [hs2'.out, Option.some.injEq] at e
                rw [← e, ← hful]
                exact hO.out.mono heB.size⟩
              have hF9 := Lib.hid (hF1'.out.ext he2)
              have HL9 := Lib.hid (HL7.out.ext he2)
              have hOLr := Lib.hid (HOL7.out.ext he2)
              rw [Hxn.out] at hOLr
              have hxn2 : Hid ((bitsL S t).length = xn) := by
                have := Hxn.out
                unfold ints at this
                rwa [List.length_map] at this
              clear hO hxs hful hs2' hF1' hF2' HL7 HOL7 HZ Hzn Hzi hlj
              cases o1 with
              | none =>
                have hb : ((none : Option (List Nat)).isSome) = false := rfl
                have HN : Hid (pickF S p (t + 1) = some (bitsL S t)) := by unfold Hid; rw [Hs1.out]; rfl
                clear Hs1 Hs2 Hbl Hpl Hoo
                go_wp2_with fail
                go_roundw
                case rel => exact ⟨t + 1, by rw [HP.out]; omega, by go_num, by rw [HN.out]; rfl, ⟨fun e => (by rw [HN.out] at e; cases e), fun l e => by rw [HN.out, Option.some.injEq] at e; rw [← e]; exact hOLr.out⟩, hBF, heC⟩
                case measure => rw [HP.out]; simp [intOf]; omega
              | some x1 =>
                have hb : ((some x1 : Option (List Nat)).isSome) = true := rfl
                have hx1 := hF9.out.2 x1 rfl
                obtain ⟨A3, c3, rfl⟩ := ownsRow_slice hx1
                have hxl1 := Hpl.out x1 rfl
                obtain ⟨q3, hq3⟩ : ∃ q3, Pow.before (bitsL S t) x1 = q3 := ⟨_, rfl⟩
                obtain ⟨n3, hn3⟩ : ∃ n3, (ints x1).length = n3 := ⟨_, rfl⟩
                have hn3' : x1.length = n3 := by rw [← hn3]; unfold ints; rw [List.length_map]
                have hax := hx1.sl.ints
                have hHP := Hs1.out
                rw [hn3]
                have hbf := Lib.hid (before7_any AL A3 cL c3 xn n3 (bitsL S t) x1 hxn2.out hn3' q3 hq3 wr ⟨by omega, by omega⟩ HL9.out hax)
                simp only [hq3, Bool.true_and] at hHP
                have HHP := Lib.hid hHP
                have Hn3 := Lib.hid hn3
                clear Hs1 Hs2 Hbl Hpl Hoo hx1 hxl1 hq3 hn3 hn3' hax hHP
                cases q3 with
                | true =>
                  have HN : Hid (pickF S p (t + 1) = some (bitsL S t)) := by unfold Hid; rw [HHP.out]; simp
                  clear HHP
                  go_wp2_with fail
                  refine hbf.out.mono ?_
                  rintro e w9 ⟨rfl, he9⟩
                  clear hbf
                  go_wp2_with fail
                  go_roundw
                  case rel => exact ⟨t + 1, by rw [HP.out]; omega, by go_num, by rw [HN.out]; rfl, ⟨fun e => (by rw [HN.out] at e; cases e), fun l e => by rw [HN.out, Option.some.injEq] at e; rw [← e]; exact hOLr.out.ext he9⟩, Lib.hid (hBF.out.ext he9), heC.trans he9⟩
                  case measure => rw [HP.out]; simp [intOf]; omega
                | false =>
                  have HN : Hid (pickF S p (t + 1) = some x1) := by unfold Hid; rw [HHP.out]; simp
                  clear HHP
                  go_wp2_with fail
                  refine hbf.out.mono ?_
                  rintro e w9 ⟨rfl, he9⟩
                  clear hbf
                  have hF9' := Lib.hid (hF9.out.ext he9)
                  rw [Hn3.out] at hF9'
                  go_wp2_with fail
                  go_roundw
                  case rel => exact ⟨t + 1, by rw [HP.out]; omega, by go_num, by rw [HN.out]; rfl, Lib.hid (by rw [HN.out]; exact hF9'.out), Lib.hid (hBF.out.ext he9), heC.trans he9⟩
                  case measure => rw [HP.out]; simp [intOf]; omega
    · have hd : decide ((t : Int) < ((pw S : Nat) : Int)) = false := decide_eq_false (by omega)
      have hd' : decide (t < pw S) = false := decide_eq_false hlt
      obtain rfl : t = pw S := by omega
      obtain ⟨P, hP⟩ : ∃ P, pw S = P := ⟨_, rfl⟩
      rw [hP] at hbit hd hd' hF1 hF2 hbS ⊢
      have HP := Lib.hid hP
      clear hlt hP ht
      go_wp2_with fail
      refine hbit.out.mono ?_
      rintro e w5 ⟨rfl, rfl⟩
      clear hbit
      go_wp2_with fail
      go_ret3
      rw [HP.out]
      exact ⟨_, _, rfl, hF1.out.own.mono hszE, hF2.out.own.mono hszE, hE.trans he⟩
end Go.Proofs.Pet
