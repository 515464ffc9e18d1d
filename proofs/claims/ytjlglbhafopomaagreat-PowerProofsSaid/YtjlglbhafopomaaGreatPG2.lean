/-
  The reference's Cleared and Explains, walked.
-/
import Derived.Test.YtjlglbhafopomaaGreatPG1
import Derived.Test.YtjlglbhafopomaaGreatS19
import Derived.Test.YtjlglbhafopomaaGreatPBH
namespace Go.Proofs.Pet
open Go Go.RowKit Go.Maps Go.Shelf
open Go.Proofs.Pow (PM Sh Wv POk Up sightF clrB explB)

/-- cleared by one of the first k -/
def clrK (m : PM) (s : Nat → Int) (i k : Nat) : Bool := (List.range k).any fun j => decide (s j = 1) && m.drv i j
theorem clrK_succ (m : PM) (s : Nat → Int) (i k : Nat) : clrK m s i (k + 1) = (clrK m s i k || (decide (s k = 1) && m.drv i k)) := by
  unfold clrK
  rw [List.range_succ, List.any_append]
  simp
theorem clrK_full (m : PM) (s : Nat → Int) (i : Nat) : clrK m s i m.wvs.length = clrB m s i := rfl
set_option maxHeartbeats 1000000 in
theorem cleared7_any (v : Value) (m : PM) (hm : POk m) (A : Option Addr) (c n : Nat) (l : List Int) (hn : l.length = n) (hnw : n = m.wvs.length) (w : World) (hv : PMVal w v m) (hx : IntsAt w A l) :
    Calls Tryz.prog 68 #[v, .slice A n c] w fun e w' => ∃ u, e = .returned u ∧ OwnI w' w.heap.size 3 u (clrL m l m.shafts.length) ∧ Ext w w' := by
  obtain ⟨ti, hi, ht0, ht1, ht2⟩ := info_parts info_int
  have Hv := Lib.hid hv
  have Hn := Lib.hid hn; have Hnw := Lib.hid hnw
  have hfew := hm.few; have hsz9 := hm.sz
  have hn6 : n ≤ 6 := by omega
  obtain ⟨A1, c1, A2, c2, rfl, -, -, -, -, -, -⟩ := hv
  have hE := Ext.alloc w (.cells #[.slice A1 m.shafts.length c1, .slice A2 m.wvs.length c2] 54)
  have HM := Lib.hid (Blk.new w 54 #[.slice A1 m.shafts.length c1, .slice A2 m.wvs.length c2])
  have HX := Lib.hid (hx.ext hE)
  have HV := Lib.hid (Hv.out.ext hE)
  have Hm := Lib.hid hm
  have hszE := hE.size
  clear hx hn hnw hm Hv
  go_enter Tryz.func68, Tryz.ntmps68
  go_wp2_with fail
  generalize w.alloc _ = W at *
  go_loopw [5, 6] (fun u i wr => ∃ k : Nat, k ≤ m.shafts.length ∧ i = .int .i64 k ∧ Hid (OwnI wr W.heap.size 3 u (clrL m l k)) ∧ Ext W wr) (fun _ i _ => m.shafts.length - (intOf i).toNat)
  case atStart => exact ⟨0, by omega, rfl, Lib.hid (OwnI.nil _ _ _), Ext.refl _⟩
  case round =>
    obtain ⟨i, hi9, rfl, hO, he⟩ := hrel
    obtain ⟨k0, k1⟩ := (HM.out.ext he).c2
    by_cases hlt : i < m.shafts.length
    · obtain ⟨wo, rfl⟩ : ∃ z, z = wr := ⟨_, rfl⟩
      obtain ⟨A9, c9, rfl⟩ := ownsRow_slice hO.out
      have hxl := clrL_len m l i
      have hsucc := clrL_succ m l i
      obtain ⟨xs, hxs⟩ : ∃ xs, clrL m l i = xs := ⟨_, rfl⟩
      rw [hxs] at hO hxl hsucc
      rw [hxs]
      have Hsucc := Lib.hid hsucc
      have hd : decide ((i : Int) < (m.shafts.length : Int)) = true := decide_eq_true (by omega)
      have hd' : decide (i < m.shafts.length) = true := decide_eq_true hlt
      clear hsucc hxs
      go_wp2_with fail
      clear k0 k1
      go_loopw [7, 8] (fun b j wr => ∃ k : Nat, k ≤ n ∧ j = .int .i64 k ∧ b = .bool (clrK m (sightF l) i k) ∧ Ext wo wr) (fun _ j _ => n - (intOf j).toNat)
      case atStart => exact ⟨0, by omega, rfl, rfl, Ext.refl _⟩
      case round =>
        obtain ⟨k, hk, rfl, rfl, he2⟩ := hrel
        have heW := he.trans he2
        have hks := clrK_succ m (sightF l) i k
        by_cases hlk : k < n
        · obtain ⟨k0, k1⟩ := (HM.out.ext heW).c2
          have hkl : Hid (k < l.length) := by rw [Hn.out]; exact hlk
          obtain ⟨b, o, rfl, q1⟩ := HX.out.ext heW k hkl.out
          obtain ⟨y, hy⟩ : ∃ y, l[k]?.getD 0 = y := ⟨_, rfl⟩
          have hsk : sightF l k = y := hy
          rw [hy] at q1
          rw [hsk] at hks
          obtain ⟨q, hq⟩ : ∃ q, clrK m (sightF l) i k = q := ⟨_, rfl⟩
          rw [hq] at hks
          rw [hq]
          clear hq hsk hkl hy
          cases q with
          | true =>
            have Hks := Lib.hid hks
            clear hks
            go_wp2_with fail
            go_roundw
            case rel => exact ⟨k + 1, by omega, by go_num, by rw [Hks.out]; rfl, he2⟩
            case measure => simp [intOf]; omega
          | false =>
            rw [Bool.false_or] at hks
            by_cases h1 : y = 1
            · have hb : (y == 1) = true := beq_iff_eq.2 h1
              have hkw : Hid (k < m.wvs.length) := by rw [← Hnw.out]; exact hlk
              rw [decide_eq_true h1, Bool.true_and] at hks
              have Hks := Lib.hid hks
              have hln := Lib.hid (line7_any _ m Hm.out k hkw.out wr (HV.out.ext heW))
              clear hks h1
              go_wp2_with fail
              refine hln.out.mono ?_
              rintro e w5 ⟨uL, rfl, hOL, he5⟩
              obtain ⟨AL, cL, rfl⟩ := ownsRow_slice hOL
              obtain ⟨L, hL⟩ : ∃ L, m.line (m.wv k).shaft = L := ⟨_, rfl⟩
              have hdr : m.drv i k = L.contains (i : Int) := by rw [← hL]; rfl
              rw [hL] at hOL ⊢
              obtain ⟨xn, hxn⟩ : ∃ xn, L.length = xn := ⟨_, rfl⟩
              obtain ⟨q2, hq2⟩ : ∃ q2, L.contains (i : Int) = q2 := ⟨_, rfl⟩
              rw [hq2] at hdr
              have hax := hOL.sl.ints
              have hlm := hOL.sl.len_le
              rw [hxn] at hlm ⊢
              have hha := Lib.hid (has_any (i : Int) AL cL xn L hxn q2 hq2 w5 hlm hax)
              have Hdr := Lib.hid hdr
              clear hln hL hOL hxn hq2 hax hlm hdr
              go_wp2_with fail
              refine hha.out.mono ?_
              rintro e w6 ⟨rfl, rfl⟩
              clear hha
              go_wp2_with fail
              go_roundw
              case rel => exact ⟨k + 1, by omega, by go_num, by rw [Hks.out, Hdr.out], he2.trans he5⟩
              case measure => simp [intOf]; omega
            · have hb : (y == 1) = false := beq_eq_false_iff_ne.2 h1
              rw [decide_eq_false h1, Bool.false_and] at hks
              have Hks := Lib.hid hks
              clear hks h1
              go_wp2_with fail
              go_roundw
              case rel => exact ⟨k + 1, by omega, by go_num, by rw [Hks.out], he2⟩
              case measure => simp [intOf]; omega
        · obtain rfl : k = n := by omega
          have hful : clrK m (sightF l) i k = clrB m (sightF l) i := by rw [Hnw.out]; exact clrK_full m _ i
          obtain ⟨q, hq⟩ : ∃ q, clrB m (sightF l) i = q := ⟨_, rfl⟩
          rw [hful, hq]
          have Hs := Hsucc.out
          rw [hq] at Hs
          clear hful hq hks
          cases q with
          | true =>
            rw [if_pos rfl] at Hs
            have HS := Lib.hid Hs
            have hX := Ext.alloc wr (.cells #[.int .i64 (i : Int)] 3)
            have hsrc := Src.one wr (.int .i64 (i : Int)) 3
            have hOI := hO.out.ext he2
            have hOX := hOI.ext hX
            have hszW := heW.size
            have hszX := hX.size
            have Hw : Hid (∀ v' w', w'.ownsRow W.heap.size 3 1 v' (xs.length + 1) (xs.map (Value.int .i64) ++ [.int .i64 (i : Int)]) → (wr.alloc (.cells #[.int .i64 (i : Int)] 3)).grownBy w' (Value.slice A9 xs.length c9).ownBlock → OwnI w' W.heap.size 3 v' (xs ++ [(i : Int)]) ∧ Ext W w') := by
              intro v' w' hown hg
              exact ⟨by unfold OwnI; rw [List.length_append, List.map_append]; exact hown, ext_grown heW hg fun j hj => (hOI.own_lt j hj).1⟩
            clear Hs hOI Hsucc
            go_wp2_with (at_builtin; refine wpList_app rfl _ _ 31 rfl W.heap.size 3 ti (.int .i64 0) 1 8 Tryz.underlying31 hi ht0 ht1 ht2 rfl (by decide) (.slice A9 xs.length c9) xs.length _ rfl hOX (some ⟨wr.heap.size, 0, none⟩) 1 1 [.int .i64 (i : Int)] rfl rfl hsrc ?c2 ?c3 ?c4 ?c5 ?_; (case c2 => (intro u hu; rw [List.mem_singleton] at hu; subst hu; rfl)); (case c3 => (unfold maxLen; omega)); (case c4 => omega); (case c5 => omega); intro v' w5 hown hg hblk; have HO := Lib.hid (Hw.out v' w5 hown hg); clear hown hg hblk)
            go_roundw
            case rel => exact ⟨i + 1, by omega, by go_num, Lib.hid (by rw [HS.out]; exact HO.out.1), HO.out.2⟩
            case measure => simp [intOf]; omega
          | false =>
            rw [if_neg (by decide)] at Hs
            have HS := Lib.hid Hs
            have HOI := Lib.hid (hO.out.ext he2)
            clear Hs Hsucc
            go_wp2_with fail
            go_roundw
            case rel => exact ⟨i + 1, by omega, by go_num, Lib.hid (by rw [HS.out]; exact HOI.out), heW⟩
            case measure => simp [intOf]; omega
    · obtain rfl : i = m.shafts.length := by omega
      clear hlt
      go_wp2_with fail
      go_ret
      exact ⟨_, rfl, hO.out.mono hszE, hE.trans he⟩
/-- whether one of the listed shafts stops the weaver -/
def hitG (m : PM) (g : List Int) (k : Nat) : Bool := (m.line (m.wv k).shaft).any fun x => g.contains x
def okG (m : PM) (s : Nat → Int) (g : List Int) (k : Nat) : Bool := !(decide (s k = 1) && hitG m g k) && !(decide (s k = 2) && !hitG m g k)
def explG (m : PM) (s : Nat → Int) (g : List Int) : Bool := (List.range m.wvs.length).all (okG m s g)
theorem explG_ints {m : PM} (hm : POk m) (s : Nat → Int) (l : List Nat) : explG m s (ints l) = explB m s l := by
  have e : ∀ k, k ∈ List.range m.wvs.length → okG m s (ints l) k = (!(decide (s k = 1) && Pow.hitL m l k) && !(decide (s k = 2) && !Pow.hitL m l k)) := fun k hk => by
    have hk := List.mem_range.1 hk
    have : hitG m (ints l) k = Pow.hitL m l k := by rw [Pow.expl_line hm hk]; rfl
    unfold okG
    rw [this]
  unfold explG explB
  rw [Bool.eq_iff_iff, List.all_eq_true, List.all_eq_true]
  exact ⟨fun h k hk => by rw [← e k hk]; exact h k hk, fun h k hk => by rw [e k hk]; exact h k hk⟩
theorem explG_false {m : PM} {s : Nat → Int} {g : List Int} {k : Nat} (hk : k < m.wvs.length) (h : okG m s g k = false) : explG m s g = false := by
  unfold explG
  rw [List.all_eq_false]
  exact ⟨k, List.mem_range.2 hk, by simp [h]⟩
theorem explG_true {m : PM} {s : Nat → Int} {g : List Int} (h : ∀ k, k < m.wvs.length → okG m s g k = true) : explG m s g = true :=
  List.all_eq_true.2 fun k hk => h k (List.mem_range.1 hk)
theorem any_take_succ {L : List Int} {p : Int → Bool} {k : Nat} (hk : k < L.length) : (L.take (k + 1)).any p = ((L.take k).any p || p (L[k]?.getD 0)) := by
  rw [List.take_succ_eq_append_getElem hk, List.any_append]
  simp [hk]
set_option maxHeartbeats 1000000 in
theorem explains7_any (v : Value) (m : PM) (hm : POk m) (A : Option Addr) (c n : Nat) (l : List Int) (hn : l.length = n) (hnw : n = m.wvs.length) (B : Option Addr) (d n2 : Nat) (g : List Int) (hg : g.length = n2) (hg2 : n2 ≤ 1000) (q : Bool) (hq : explG m (sightF l) g = q) (w : World) (hv : PMVal w v m) (hx : IntsAt w A l) (hy : IntsAt w B g) :
    Calls Tryz.prog 70 #[v, .slice A n c, .slice B n2 d] w fun e w' => e = .returned (.bool q) ∧ Ext w w' := by
  have Hv := Lib.hid hv
  have Hn := Lib.hid hn; have Hnw := Lib.hid hnw; have Hg := Lib.hid hg; have Hqq := Lib.hid hq
  have hfew := hm.few; have hsz9 := hm.sz
  have hn6 : n ≤ 6 := by omega
  have hgm : n2 ≤ maxLen := by unfold maxLen; omega
  obtain ⟨A1, c1, A2, c2, rfl, -, -, -, -, -, -⟩ := hv
  have hE := Ext.alloc w (.cells #[.slice A1 m.shafts.length c1, .slice A2 m.wvs.length c2] 54)
  have HM := Lib.hid (Blk.new w 54 #[.slice A1 m.shafts.length c1, .slice A2 m.wvs.length c2])
  have HX := Lib.hid (hx.ext hE)
  have HY := Lib.hid (hy.ext hE)
  have HV := Lib.hid (Hv.out.ext hE)
  have Hm := Lib.hid hm
  have Hgm := Lib.hid hgm
  clear hx hy hn hnw hm Hv hg hq hgm
  go_enter Tryz.func70, Tryz.ntmps70
  go_wp2_with fail
  generalize w.alloc _ = W at *
  go_loopw [7] (fun i wr => ∃ k : Nat, k ≤ n ∧ i = .int .i64 k ∧ Hid (∀ j, j < k → okG m (sightF l) g j = true) ∧ Ext W wr) (fun i _ => n - (intOf i).toNat)
  case atStart => exact ⟨0, by omega, rfl, fun j hj => absurd hj (by omega), Ext.refl _⟩
  case round =>
    obtain ⟨k, hk, rfl, hok, he⟩ := hrel
    by_cases hlt : k < n
    · obtain ⟨k0, k1⟩ := (HM.out.ext he).c2
      have hkw : Hid (k < m.wvs.length) := by rw [← Hnw.out]; exact hlt
      have hd : decide ((k : Int) < (n : Int)) = true := decide_eq_true (by omega)
      have hd' : decide (k < n) = true := decide_eq_true hlt
      have hln := Lib.hid (line7_any _ m Hm.out k hkw.out wr (HV.out.ext he))
      go_wp2_with fail
      refine hln.out.mono ?_
      rintro e w5 ⟨uL, rfl, hOL, he5⟩
      obtain ⟨AL, cL, rfl⟩ := ownsRow_slice hOL
      obtain ⟨L, hL⟩ : ∃ L, m.line (m.wv k).shaft = L := ⟨_, rfl⟩
      have hhit : Hid (hitG m g k = L.any fun x => g.contains x) := by unfold Hid hitG; rw [hL]
      rw [hL] at hOL ⊢
      obtain ⟨xn, hxn⟩ : ∃ xn, L.length = xn := ⟨_, rfl⟩
      have HAX := Lib.hid hOL.sl.ints
      have hlm := hOL.sl.len_le
      rw [hxn] at hlm ⊢
      have Hxn := Lib.hid hxn
      have heA := he.trans he5
      unfold maxLen at hlm
      clear hln hL hOL hxn k0 k1
      go_wp2_with fail
      go_loopw [9, 10] (fun b i wr => ∃ j : Nat, j ≤ xn ∧ i = .int .i64 j ∧ b = .bool ((L.take j).any fun x => g.contains x) ∧ Ext w5 wr) (fun _ i _ => xn - (intOf i).toNat)
      case atStart => exact ⟨0, by omega, rfl, rfl, Ext.refl _⟩
      case round =>
        obtain ⟨j, hj, rfl, rfl, he2⟩ := hrel
        by_cases hlj : j < xn
        · have hjl : Hid (j < L.length) := by rw [Hxn.out]; exact hlj
          have hsc := any_take_succ (p := fun x => g.contains x) hjl.out
          obtain ⟨b, o, rfl, q1⟩ := HAX.out.ext he2 j hjl.out
          obtain ⟨y, hy⟩ : ∃ y, L[j]?.getD 0 = y := ⟨_, rfl⟩
          rw [hy] at q1 hsc
          obtain ⟨qt, hqt⟩ : ∃ qt, ((L.take j).any fun x => g.contains x) = qt := ⟨_, rfl⟩
          rw [hqt] at hsc
          rw [hqt]
          have Hsc := Lib.hid hsc
          clear hqt hsc hy hjl
          cases qt with
          | true =>
            go_wp2_with fail
            go_roundw
            case rel => exact ⟨j + 1, by omega, by go_num, by rw [Hsc.out]; rfl, he2⟩
            case measure => simp [intOf]; omega
          | false =>
            obtain ⟨q2, hq2⟩ : ∃ q2, g.contains y = q2 := ⟨_, rfl⟩
            have hha := Lib.hid (has_any y B d n2 g Hg.out q2 hq2 wr Hgm.out (HY.out.ext (heA.trans he2)))
            have Hq2 := Lib.hid hq2
            clear hq2
            go_wp2_with fail
            refine hha.out.mono ?_
            rintro e w6 ⟨rfl, rfl⟩
            clear hha
            go_wp2_with fail
            go_roundw
            case rel => exact ⟨j + 1, by omega, by go_num, by rw [Hsc.out, Hq2.out]; rfl, he2⟩
            case measure => simp [intOf]; omega
        · obtain rfl : j = xn := by omega
          have hful : ((L.take j).any fun x => g.contains x) = hitG m g k := by rw [hhit.out, List.take_of_length_le (by rw [Hxn.out]; omega)]
          obtain ⟨qh, hqh⟩ : ∃ qh, hitG m g k = qh := ⟨_, rfl⟩
          rw [hful, hqh]
          have heB := heA.trans he2
          have hkl : Hid (k < l.length) := by rw [Hn.out]; exact hlt
          obtain ⟨b, o, rfl, q1⟩ := HX.out.ext heB k hkl.out
          obtain ⟨y, hy⟩ : ∃ y, l[k]?.getD 0 = y := ⟨_, rfl⟩
          have hsk : sightF l k = y := hy
          rw [hy] at q1
          have hokk : okG m (sightF l) g k = (!(decide (y = 1) && qh) && !(decide (y = 2) && !qh)) := by unfold okG; rw [hsk, hqh]
          have Hokk := Lib.hid hokk
          have hbad : Hid (okG m (sightF l) g k = false → q = false) := fun h => by rw [← Hqq.out]; exact explG_false hkw.out h
          have hgood : Hid (okG m (sightF l) g k = true → ∀ j, j < k + 1 → okG m (sightF l) g j = true) := fun h j hj => by
            by_cases e : j = k
            · subst e; exact h
            · exact hok.out j (by omega)
          clear hful hqh hkl hy hsk hokk hhit hok
          by_cases h1 : y = 1
          · have hb1 : (y == 1) = true := beq_iff_eq.2 h1
            have hb2 : (y == 2) = false := beq_eq_false_iff_ne.2 (by omega)
            have ho := Hokk.out
            rw [decide_eq_true h1, decide_eq_false (show ¬ y = 2 by omega)] at ho
            have HO := Lib.hid ho
            clear ho h1 Hokk
            cases qh with
            | true =>
              have hqf := hbad.out HO.out
              subst hqf
              clear hbad hgood HO
              go_wp2_with fail
              go_ret
              exact ⟨rfl, hE.trans heB⟩
            | false =>
              have HG := Lib.hid (hgood.out HO.out)
              clear hbad hgood HO
              go_wp2_with fail
              go_roundw
              case rel => exact ⟨k + 1, by omega, by go_num, HG, heB⟩
              case measure => simp [intOf]; omega
          · have hb1 : (y == 1) = false := beq_eq_false_iff_ne.2 h1
            by_cases h2 : y = 2
            · have hb2 : (y == 2) = true := beq_iff_eq.2 h2
              have ho := Hokk.out
              rw [decide_eq_false h1, decide_eq_true h2] at ho
              have HO := Lib.hid ho
              clear ho h1 h2 Hokk
              cases qh with
              | true =>
                have HG := Lib.hid (hgood.out HO.out)
                clear hbad hgood HO
                go_wp2_with fail
                go_roundw
                case rel => exact ⟨k + 1, by omega, by go_num, HG, heB⟩
                case measure => simp [intOf]; omega
              | false =>
                have hqf := hbad.out HO.out
                subst hqf
                clear hbad hgood HO
                go_wp2_with fail
                go_ret
                exact ⟨rfl, hE.trans heB⟩
            · have hb2 : (y == 2) = false := beq_eq_false_iff_ne.2 h2
              have ho := Hokk.out
              rw [decide_eq_false h1, decide_eq_false h2] at ho
              have HG := Lib.hid (hgood.out ho)
              clear ho h1 h2 Hokk hbad hgood
              go_wp2_with fail
              go_roundw
              case rel => exact ⟨k + 1, by omega, by go_num, HG, heB⟩
              case measure => simp [intOf]; omega
    · have hqt : q = true := by
        rw [← Hqq.out]
        exact explG_true fun j hj => hok.out j (by rw [← Hnw.out] at hj; omega)
      subst hqt
      clear hok
      go_wp2_with fail
      go_ret
      exact ⟨rfl, hE.trans he⟩
end Go.Proofs.Pet
