/-
  The reference's Sighted and Shared, the law's seen and shaft, walked.
-/
import Derived.Test.YtjlglbhafopomaaGreatPF0
namespace Go.Proofs.Pet
open Go Go.RowKit Go.Maps Go.Shelf
open Go.Proofs.Pow (PM Sh Wv POk Up)

/-- a list of as many numbers as there are weavers, each from 0 to hi -/
def rangE (m : PM) (l : List Int) (hi : Int) : Int := if l.length ≠ m.wvs.length then 2 else if (l.all fun x => inB x 0 hi) = false then 3 else 0
set_option maxHeartbeats 1000000 in
theorem sighted7_any (v : Value) (m : PM) (A : Option Addr) (c n : Nat) (l : List Int) (hn : l.length = n) (r : Int) (hr : rangE m l 2 = r) (w : World) (hv : PMVal w v m) (hl : n ≤ 1000) (hx : IntsAt w A l) :
    Calls Tryz.prog 59 #[v, .slice A n c] w fun e w' => e = .returned (.int .i64 r) ∧ Ext w w' := by
  unfold rangE at hr
  rw [hn] at hr
  have Hr := Lib.hid hr; have Hn := Lib.hid hn
  clear hr hn
  obtain ⟨A1, c1, A2, c2, rfl, -, -, -, h5, -, -⟩ := hv
  have hE := Ext.alloc w (.cells #[.slice A1 m.shafts.length c1, .slice A2 m.wvs.length c2] 54)
  have hM := Blk.new w 54 #[.slice A1 m.shafts.length c1, .slice A2 m.wvs.length c2]
  have HX := Lib.hid (hx.ext hE)
  obtain ⟨N, hN⟩ : ∃ N, m.wvs.length = N := ⟨_, rfl⟩
  rw [hN] at hM Hr ⊢
  rw [hN] at hE HX
  obtain ⟨k0, k1⟩ := hM.c2
  clear hM hx h5 hN
  go_enter Tryz.func59, Tryz.ntmps59
  by_cases hne : n = N
  · have hd : ((n : Int) != (N : Int)) = false := by rw [hne]; simp
    have Hne := Lib.hid hne
    clear hne
    go_wp2_with fail
    clear k0 k1 hd
    generalize w.alloc _ = W at *
    go_loopw [5] (fun i wr => ∃ k : Nat, k ≤ n ∧ i = .int .i64 k ∧ Ext W wr ∧ Hid (∀ j, j < k → inB (l[j]?.getD 0) 0 2 = true)) (fun i _ => n - (intOf i).toNat)
    case atStart => exact ⟨0, by omega, rfl, Ext.refl _, fun j hj => absurd hj (by omega)⟩
    case round =>
      obtain ⟨k, hk, rfl, he, hm⟩ := hrel
      by_cases hlt : k < n
      · have hkl : Hid (k < l.length) := by rw [Hn.out]; exact hlt
        obtain ⟨b, o, rfl, q1⟩ := HX.out.ext he k hkl.out
        obtain ⟨y, hy⟩ : ∃ y, l[k]?.getD 0 = y := ⟨_, rfl⟩
        rw [hy] at q1
        obtain ⟨q, hq⟩ : ∃ q, inB y 0 2 = q := ⟨_, rfl⟩
        have Ho := Lib.hid (off_any y 0 2 q hq wr)
        have Hq := Lib.hid hq; have Hy := Lib.hid hy
        clear hq hy
        cases q with
        | false =>
          have hres : Hid (r = 3) := by
            unfold Hid
            rw [← Hr.out, if_neg (by rw [Hne.out]; simp), if_pos (all_false (x := y) (by rw [← Hy.out]; simp [hkl.out]) Hq.out)]
          clear hm hkl
          go_wp2_with fail
          refine Ho.out.mono ?_
          rintro e w5 ⟨rfl, rfl⟩
          clear Ho
          go_wp2_with fail
          go_ret
          exact ⟨by rw [hres.out]; rfl, hE.trans he⟩
        | true =>
          clear hkl
          go_wp2_with fail
          refine Ho.out.mono ?_
          rintro e w5 ⟨rfl, rfl⟩
          clear Ho
          go_wp2_with fail
          go_roundw
          case rel =>
            refine ⟨k + 1, by omega, by go_num, he, fun j hj => ?_⟩
            by_cases ej : j = k
            · subst ej; rw [Hy.out]; exact Hq.out
            · exact hm.out j (by omega)
          case measure => simp [intOf]; omega
      · have hres : Hid (r = 0) := by
          unfold Hid
          rw [← Hr.out, if_neg (by rw [Hne.out]; simp), all_true_of (p := fun x => inB x 0 2) (xs := l) fun j hj => hm.out j (by rw [Hn.out] at hj; omega)]
          rfl
        clear hm
        go_wp2_with fail
        go_ret
        exact ⟨by rw [hres.out]; rfl, hE.trans he⟩
  · have hd : ((n : Int) != (N : Int)) = true := bne_iff_ne.2 (by omega)
    have hres : Hid (r = 2) := by
      unfold Hid
      rw [← Hr.out, if_pos hne]
    clear hne
    go_wp2_with fail
    go_ret
    exact ⟨by rw [hres.out]; rfl, hE⟩
theorem seen7_any (A : Option Addr) (c n : Nat) (l : List Int) (hn : l.length = n) (w : World) (hl : n ≤ 1000) (hx : IntsAt w A l) :
    Calls Tryz.prog 60 #[.slice A n c] w fun e w' => ∃ u, e = .returned u ∧ OwnI w' w.heap.size 3 u l ∧ Ext w w' := by
  obtain ⟨ti, hi, ht0, ht1, ht2⟩ := info_parts info_int
  have Hn := Lib.hid hn; have HX := Lib.hid hx
  clear hn hx
  go_enter Tryz.func60, Tryz.ntmps60
  go_wp2_with fail
  go_loopw [3, 8] (fun u i wr => ∃ (k : Nat) (xs : List Int), k ≤ n ∧ xs.length ≤ k ∧ i = .int .i64 k ∧ Hid (l.take k = xs) ∧ Hid (OwnI wr w.heap.size 3 u xs) ∧ Ext w wr) (fun _ i _ => n - (intOf i).toNat)
  case atStart => exact ⟨0, [], by omega, by simp, rfl, rfl, Lib.hid (OwnI.nil _ _ _), Ext.refl _⟩
  case round =>
    obtain ⟨k, xs, hk, hxl, rfl, hxs, hO, he⟩ := hrel
    by_cases hlt : k < n
    · have hkl : Hid (k < l.length) := by rw [Hn.out]; exact hlt
      obtain ⟨b, o, rfl, q1⟩ := HX.out.ext he k hkl.out
      obtain ⟨y, hy⟩ : ∃ y, l[k]?.getD 0 = y := ⟨_, rfl⟩
      rw [hy] at q1
      have hsucc : Hid (l.take (k + 1) = xs ++ [y]) := by
        unfold Hid
        rw [List.take_succ_eq_append_getElem hkl.out, hxs.out, ← hy]
        simp [hkl.out]
      have hX := Ext.alloc wr (.cells #[.int .i64 y] 3)
      have hsrc := Src.one wr (.int .i64 y) 3
      have hOX := hO.out.ext hX
      have hsz := he.size
      have hszX := hX.size
      obtain ⟨A4, c4, rfl⟩ := ownsRow_slice hO.out
      have Hw : Hid (∀ v' w', w'.ownsRow w.heap.size 3 1 v' (xs.length + 1) (xs.map (Value.int .i64) ++ [.int .i64 y]) → (wr.alloc (.cells #[.int .i64 y] 3)).grownBy w' (Value.slice A4 xs.length c4).ownBlock → OwnI w' w.heap.size 3 v' (xs ++ [y]) ∧ Ext w w') := by
        intro v' w' hown hg
        exact ⟨by unfold OwnI; rw [List.length_append, List.map_append]; exact hown, ext_grown he hg fun j hj => (hO.out.own_lt j hj).1⟩
      clear hO hxs hkl hy
      go_wp2_with (at_builtin; refine wpList_app rfl _ _ 31 rfl w.heap.size 3 ti (.int .i64 0) 1 8 Tryz.underlying31 hi ht0 ht1 ht2 rfl (by decide) (.slice A4 xs.length c4) xs.length _ rfl hOX (some ⟨wr.heap.size, 0, none⟩) 1 1 [.int .i64 y] rfl rfl hsrc ?c2 ?c3 ?c4 ?c5 ?_; (case c2 => (intro u hu; rw [List.mem_singleton] at hu; subst hu; rfl)); (case c3 => (unfold maxLen; omega)); (case c4 => omega); (case c5 => omega); intro v' w5 hown hg hblk; have HO := Lib.hid (Hw.out v' w5 hown hg); clear hown hg hblk)
      go_roundw
      case rel => exact ⟨k + 1, xs ++ [y], by omega, by simp; omega, by go_num, hsucc, HO.out.1, HO.out.2⟩
      case measure => simp [intOf]; omega
    · have hall : Hid (xs = l) := by
        unfold Hid
        rw [← hxs.out, List.take_of_length_le (by rw [Hn.out]; omega)]
      clear hxs
      go_wp2_with fail
      go_ret
      exact ⟨_, rfl, by rw [← hall.out]; exact hO.out, he⟩
theorem SlI.len_le {w : World} {v : Value} {xs : List Int} (h : SlI w v xs) : xs.length ≤ maxLen := by
  obtain ⟨_, _, e, h1, h2, _⟩ := h
  exact Nat.le_trans h1 h2
def shaftE (m : PM) (l : List Int) : Int := if (l.all fun k => inB k 0 (m.shafts.length - 1)) = false then 1 else if twiceB l = true then 5 else 0
/-- whether one of the first k stands before it, too -/
def dblB (l : List Int) (k : Nat) : Bool := (List.range k).any fun i => (l.take i).contains (l[i]?.getD 0)
theorem dblB_succ (l : List Int) (k : Nat) : dblB l (k + 1) = (dblB l k || (l.take k).contains (l[k]?.getD 0)) := by
  unfold dblB
  rw [List.range_succ, List.any_append]
  simp
set_option maxHeartbeats 1000000 in
theorem shaft7_any (v : Value) (m : PM) (A : Option Addr) (c n : Nat) (l : List Int) (hn : l.length = n) (r : Int) (hr : shaftE m l = r) (w : World) (hv : PMVal w v m) (hsl : m.shafts.length ≤ 1000) (hl : n ≤ 1000) (hx : IntsAt w A l) :
    Calls Tryz.prog 69 #[v, .slice A n c] w fun e w' => e = .returned (.int .i64 r) ∧ Ext w w' := by
  have Hr := Lib.hid hr; have Hn := Lib.hid hn
  clear hr hn
  obtain ⟨A1, c1, A2, c2, rfl, -, -, -, h5, -, -⟩ := hv
  have hE := Ext.alloc w (.cells #[.slice A1 m.shafts.length c1, .slice A2 m.wvs.length c2] 54)
  have hM := Blk.new w 54 #[.slice A1 m.shafts.length c1, .slice A2 m.wvs.length c2]
  have HX := Lib.hid (hx.ext hE)
  clear hx h5
  go_enter Tryz.func69, Tryz.ntmps69
  go_upto_region 1 with fail
  generalize w.alloc _ = W at *
  have hmm := @run_makeMap Tryz.prog
  have hg0 := GoneMap.made W
  have hXM := Ext.alloc W (.map #[] 0)
  go_upto_region 2 with fail
  clear hmm
  obtain ⟨MP, hMP⟩ : ∃ MP, W.heap.size = MP := ⟨_, rfl⟩
  rw [hMP] at hg0 ⊢
  have hWM : W.heap.size ≤ MP := by omega
  have HG0 := Lib.hid hg0
  have HM := Lib.hid (show ∀ wr, Ext W wr → Blk wr w.heap.size 54 #[.slice A1 m.shafts.length c1, .slice A2 m.wvs.length c2] from fun wr h => hM.ext h)
  have HXW := Lib.hid (show ∀ wr, Ext W wr → IntsAt wr A l from fun wr h => HX.out.ext h)
  clear hg0 hM HX hMP
  generalize W.alloc _ = W2 at *
  go_wp2_with fail
  go_loopw [6, 12] (fun ev i wr => ∃ k : Nat, k ≤ n ∧ i = .int .i64 k ∧ ev = .int .i64 (if dblB l k = true then 5 else 0) ∧ Ext W wr ∧ Hid (GoneMap wr MP k (fun s => (l.take k).contains (s : Int))) ∧ Hid (∀ j, j < k → inB (l[j]?.getD 0) 0 (m.shafts.length - 1) = true)) (fun _ i _ => n - (intOf i).toNat)
  case atStart => exact ⟨0, by omega, rfl, rfl, hXM, HG0.out, fun j hj => absurd hj (by omega)⟩
  case round =>
    obtain ⟨k, hk, rfl, rfl, he, hgm, hm⟩ := hrel
    by_cases hlt : k < n
    · have hkl : Hid (k < l.length) := by rw [Hn.out]; exact hlt
      obtain ⟨b, o, rfl, q1⟩ := HXW.out _ he k hkl.out
      obtain ⟨y, hy⟩ : ∃ y, l[k]?.getD 0 = y := ⟨_, rfl⟩
      rw [hy] at q1
      obtain ⟨k0, k1⟩ := (HM.out _ he).c2
      obtain ⟨q, hq⟩ : ∃ q, inB y 0 (m.shafts.length - 1) = q := ⟨_, rfl⟩
      have Hq := Lib.hid hq; have Hy := Lib.hid hy
      clear hq hy
      cases q with
      | false =>
        have hres : Hid (r = 1) := by
          unfold Hid
          rw [← Hr.out]
          unfold shaftE
          rw [if_pos (all_false (x := y) (by rw [← Hy.out]; simp [hkl.out]) Hq.out)]
        have hEr := hE.trans he
        by_cases hneg : y < 0
        · have hd1 : decide (y < 0) = true := decide_eq_true hneg
          clear hm hkl hgm hneg
          generalize (if dblB l k = true then (5 : Int) else 0) = ev
          go_wp2_with fail
          go_ret
          exact ⟨by rw [hres.out]; rfl, hEr⟩
        · have hd1 : decide (y < 0) = false := decide_eq_false hneg
          have hd2 : decide ((m.shafts.length : Int) ≤ y) = true := decide_eq_true (by
            by_cases h : (m.shafts.length : Int) ≤ y
            · exact h
            · have := Hq.out; rw [inB_iff.2 (by omega)] at this; cases this)
          clear hm hkl hgm hneg
          generalize (if dblB l k = true then (5 : Int) else 0) = ev
          go_wp2_with fail
          go_ret
          exact ⟨by rw [hres.out]; rfl, hEr⟩
      | true =>
        obtain ⟨g1, g2⟩ := inB_iff.1 Hq.out
        obtain ⟨s, rfl⟩ : ∃ s : Nat, y = s := ⟨y.toNat, by omega⟩
        have hd1 : decide ((s : Int) < 0) = false := decide_eq_false (by omega)
        have hd2 : decide ((m.shafts.length : Int) ≤ (s : Int)) = false := decide_eq_false (by omega)
        have hd2' : decide (m.shafts.length ≤ s) = false := decide_eq_false (by omega)
        have hsucc : Hid (l.take (k + 1) = l.take k ++ [(s : Int)]) := by
          unfold Hid
          rw [List.take_succ_eq_append_getElem hkl.out]
          have := Hy.out
          rw [List.getElem?_eq_getElem hkl.out, Option.getD_some] at this
          rw [this]
        have hin : Hid (∀ j, j < k + 1 → inB (l[j]?.getD 0) 0 (m.shafts.length - 1) = true) := fun j hj => by
          by_cases ej : j = k
          · subst ej; rw [Hy.out]; exact Hq.out
          · exact hm.out j (by omega)
        have hdb := dblB_succ l k
        rw [Hy.out] at hdb
        have hlk := hgm.out.look s (by omega)
        obtain ⟨w', hrun, hmap', hg'⟩ := hgm.out.store s (by omega) (by omega) true
        obtain ⟨q2, hq2⟩ : ∃ q2, (l.take k).contains (s : Int) = q2 := ⟨_, rfl⟩
        rw [hq2] at hdb hlk
        have Hdb := Lib.hid hdb
        have Hmap := Lib.hid hmap'
        have Hg' := Lib.hid hg'
        clear hmap' hg' hgm hm hkl hq2 hdb g1 g2
        have hrel2 : Hid (Ext W w' ∧ GoneMap w' MP (k + 1) (fun s => (l.take (k + 1)).contains (s : Int))) := by
          refine ⟨Below.grown he Hg'.out he.size (fun j e => by cases e; exact hWM), ?_⟩
          have e : (fun x : Nat => if x = s then true else (l.take k).contains (x : Int)) = fun x : Nat => (l.take (k + 1)).contains (x : Int) := by
            funext x
            rw [hsucc.out, Bool.eq_iff_iff, List.contains_iff_mem, List.mem_append, List.mem_singleton]
            by_cases e : x = s
            · subst e; simp
            · rw [if_neg e, List.contains_iff_mem]
              exact ⟨.inl, fun h => h.resolve_right (by omega)⟩
          rw [← e]; exact Hmap.out
        generalize hev : (if dblB l k = true then (5 : Int) else 0) = ev
        have Hev := Lib.hid hev
        clear hev Hmap Hg' hsucc
        cases q2 with
        | true =>
          go_wp2_with fail
          go_roundw
          case rel => exact ⟨k + 1, by omega, by go_num, by rw [Hdb.out]; simp, hrel2.out.1, hrel2.out.2, hin⟩
          case measure => simp [intOf]; omega
        | false =>
          go_wp2_with fail
          go_roundw
          case rel => exact ⟨k + 1, by omega, by go_num, by rw [Hdb.out, Bool.or_false, Hev.out], hrel2.out.1, hrel2.out.2, hin⟩
          case measure => simp [intOf]; omega
    · obtain rfl : k = n := by omega
      have hres : Hid ((if dblB l k = true then (5 : Int) else 0) = r) := by
        unfold Hid
        rw [← Hr.out]
        unfold shaftE
        rw [all_true_of (p := fun x => inB x 0 (m.shafts.length - 1)) (xs := l) fun j hj => hm.out j (by rw [Hn.out] at hj; omega)]
        have : dblB l k = twiceB l := by unfold dblB twiceB; rw [Hn.out]
        rw [this]
        rfl
      clear hm hgm
      generalize (if dblB l k = true then (5 : Int) else 0) = ev at *
      go_wp2_with fail
      go_ret
      exact ⟨by rw [hres.out]; rfl, hE.trans he⟩
end Go.Proofs.Pet
