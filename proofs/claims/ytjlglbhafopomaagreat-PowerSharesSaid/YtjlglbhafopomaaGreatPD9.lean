/-
  law7's Own walked: a copy of a mill.
-/
import Derived.Test.YtjlglbhafopomaaGreatPBD
import Derived.Test.YtjlglbhafopomaaGreatPCJ
namespace Go.Proofs.Pet
set_option linter.unusedSimpArgs false
open Go Go.RowKit Go.Maps Go.Shelf
open Go.Proofs.Pow (PM Sh Wv POk Up)

set_option maxHeartbeats 400000 in
theorem dupSh (A : Option Addr) (c : Nat) (xs : List Sh) (w : World) (hb : xs.length ≤ 1000) (hx : ShsAt w A xs) :
    Calls Tryz.prog 107 #[.slice A xs.length c] w fun e w' => ∃ v, e = .returned v ∧ OwnShs w' w.heap.size v xs ∧ Ext w w' := by
  obtain ⟨i, hi, hz0, hz1, hz2⟩ := info_parts info_shaft
  have hmk : ∀ W : World, (Instr.makeSlice 23 (.int .i64 0) (.int .i64 (xs.length : Int))).run Tryz.prog W = .ok (.slice (some ⟨W.heap.size, 0, none⟩) 0 xs.length) (W.alloc (.cells (madeCells #[.int .i64 0, .int .i64 0] (xs.length * 2)) 105)) := by
    intro W
    have := run_make (P := Tryz.prog) W 23 105 i _ Tryz.underlying23 hi hz0 .i64 .i64 0 xs.length (by omega) (by omega) (by rw [hz2]; omega) (by omega)
    simpa [hz1, Value.cells] using this
  have hE := Ext.alloc w (.cells (madeCells #[.int .i64 0, .int .i64 0] (xs.length * 2)) 105)
  have hsrc := Lib.hid (ShsAt.src (hx.ext hE))
  have hlen := Lib.hid (shFlat_len xs)
  have hone := Lib.hid (shFlat_one xs)
  have hown := Lib.hid (World.ownsRow_made (w := w) (e := 105) (size := 2) (madeCells #[.int .i64 0, .int .i64 0] (xs.length * 2)) xs.length (Nat.le_refl _) (by unfold maxLen; omega) (by simp [madeCells]))
  clear hx
  go_enter Tryz.func107, Tryz.ntmps107
  go_wp2_with (at_builtin; go_must (refine wpList_app rfl _ _ 23 rfl w.heap.size 105 i (.agg #[.int .i64 0, .int .i64 0]) 2 16 Tryz.underlying23 hi hz0 hz1 hz2 rfl (by decide) _ _ _ rfl hown.out A xs.length c (shFlat xs) rfl ?c1 hsrc.out ?c2 ?c3 ?c4 ?c5 ?_); (case c1 => exact hlen.out); (case c2 => exact hone.out); (case c3 => (unfold maxLen; omega)); (case c4 => omega); (case c5 => simp); intro v' w' hown' hg hblk)
  go_ret
  refine ⟨_, rfl, ?_, ext_alloc_grown hg (fun k hk => Nat.le_of_eq (Option.some.inj hk))⟩
  simp only [Nat.zero_add, List.nil_append] at hown'
  exact hown'
set_option maxHeartbeats 400000 in
theorem dupWv (A : Option Addr) (c : Nat) (xs : List Wv) (w0 w : World) (hb : xs.length ≤ 1000) (hx : WvsAt w0 A xs) (h0 : Ext w0 w) :
    Calls Tryz.prog 108 #[.slice A xs.length c] w fun e w' => ∃ v, e = .returned v ∧ (∃ cs, w'.ownsRow w.heap.size 82 2 v xs.length cs ∧ WvF (rdW w0) cs xs) ∧ Ext w w' := by
  obtain ⟨i, hi, hz0, hz1, hz2⟩ := info_parts info_weaver
  have hmk : ∀ W : World, (Instr.makeSlice 24 (.int .i64 0) (.int .i64 (xs.length : Int))).run Tryz.prog W = .ok (.slice (some ⟨W.heap.size, 0, none⟩) 0 xs.length) (W.alloc (.cells (madeCells #[.int .i64 0, .slice none 0 0] (xs.length * 2)) 82)) := by
    intro W
    have := run_make (P := Tryz.prog) W 24 82 i _ Tryz.underlying24 hi hz0 .i64 .i64 0 xs.length (by omega) (by omega) (by rw [hz2]; omega) (by omega)
    simpa [hz1, Value.cells] using this
  have hE := Ext.alloc w (.cells (madeCells #[.int .i64 0, .slice none 0 0] (xs.length * 2)) 82)
  obtain ⟨cs, hcs, hsrc0⟩ := hx.src
  have hsrc := Lib.hid (hsrc0.ext (h0.trans hE))
  have hlen := Lib.hid hcs.length
  have hone := Lib.hid (hcs.one rdW_one)
  have Hcs := Lib.hid hcs
  clear hcs hsrc0
  have hown := Lib.hid (World.ownsRow_made (w := w) (e := 82) (size := 2) (madeCells #[.int .i64 0, .slice none 0 0] (xs.length * 2)) xs.length (Nat.le_refl _) (by unfold maxLen; omega) (by simp [madeCells]))
  clear hx
  go_enter Tryz.func108, Tryz.ntmps108
  go_wp2_with (at_builtin; go_must (refine wpList_app rfl _ _ 24 rfl w.heap.size 82 i (.agg #[.int .i64 0, .slice none 0 0]) 2 32 Tryz.underlying24 hi hz0 hz1 hz2 rfl (by decide) _ _ _ rfl hown.out A xs.length c cs rfl ?c1 hsrc.out ?c2 ?c3 ?c4 ?c5 ?_); (case c1 => exact hlen.out); (case c2 => exact hone.out); (case c3 => (unfold maxLen; omega)); (case c4 => omega); (case c5 => simp); intro v' w' hown' hg hblk)
  go_ret
  refine ⟨_, rfl, ?_, ext_alloc_grown hg (fun k hk => Nat.le_of_eq (Option.some.inj hk))⟩
  simp only [Nat.zero_add, List.nil_append] at hown'
  exact ⟨cs, hown', Hcs.out⟩
set_option maxRecDepth 20000 in
set_option maxHeartbeats 2000000 in
theorem own7_any (v : Value) (m : PM) (hb1 : m.shafts.length ≤ 1000) (hb2 : m.wvs.length ≤ 1000) (hb3 : ∀ k, k < m.wvs.length → (m.wv k).hours.length ≤ 1000) (w : World) (hv : PMVal w v m) :
    Calls Tryz.prog 32 #[v] w fun e w' => ∃ u, e = .returned u ∧ OwnPM w' w.heap.size u m ∧ Ext w w' := by
  obtain ⟨A1, c1, A2, c2, rfl, h2, h3, h4, h5, h6, h7⟩ := hv
  have hE1 : Ext w ((w.alloc (.cells #[.slice A1 m.shafts.length c1, .slice A2 m.wvs.length c2] 26)).alloc (.cells #[.slice none 0 0, .slice none 0 0] 26)) := (Ext.alloc _ _).trans (Ext.alloc _ _)
  have hM := (Blk.new w 26 #[.slice A1 m.shafts.length c1, .slice A2 m.wvs.length c2]).alloc (.cells #[.slice none 0 0, .slice none 0 0] 26)
  have hR := Blk.new (w.alloc (.cells #[.slice A1 m.shafts.length c1, .slice A2 m.wvs.length c2] 26)) 26 #[.slice none 0 0, .slice none 0 0]
  rw [World.size_alloc] at hR
  have HM := Lib.hid hM; have HR := Lib.hid hR
  have HA1 := Lib.hid (h6.ext hE1)
  have HA2 := Lib.hid (h7.ext hE1)
  have hsz1 : ((w.alloc (.cells #[.slice A1 m.shafts.length c1, .slice A2 m.wvs.length c2] 26)).alloc (.cells #[.slice none 0 0, .slice none 0 0] 26)).heap.size = w.heap.size + 2 := by rw [World.size_alloc, World.size_alloc]
  have Hb3 := Lib.hid hb3
  clear h6 h7 hM hR hb3
  go_enter Tryz.func32, Tryz.ntmps32
  go_upto_region 1 with fail
  generalize (w.alloc _).alloc _ = w1 at *
  have Hcs := Lib.hid (dupSh A1 c1 m.shafts)
  have Hcw := Lib.hid (dupWv A2 c2 m.wvs w1)
  obtain ⟨k0, k1⟩ := HM.out.c2
  refine wp_region_tree 8 [(2, true), (5, true), (7, true)] [] (by kernel_rfl) (by kernel_rfl) (by kernel_rfl) (ds := [0, 1, 3, 4]) (by kernel_rfl) ?_
  simp only [List.take, List.drop, fill, Act.put, List.setIfInBounds_toArray, List.set_cons_zero, List.set_cons_succ, Nat.reduceAdd]
  repeat (first
    | (apply Unlock.float rfl
       · intro x W he hd K Qr hK
         try (have he := he (by decide); have k0 := he.cell k0; have k1 := he.cell k1)
         try simp only [edges, DepsE, List.filter_cons, List.filter_nil, Region.binds, if_true, and_true, true_and, upd, Nat.reduceEqDiff, if_false] at hd
         try simp only [hd] at hK ⊢
         have HK := Lib.hid hK; clear hK
         go_wp2_with fail
         exact HK.out))
  refine Unlock.nil ?_
  intro W he hG
  refine Tree.cut (f' := 0) (rem' := []) (fun y y' W6 => ∃ (a1 : Option Addr) (d1 : Nat) (a2 : Option Addr) (d2 : Nat) (p : Nat) (cs : List Value), y' = upd (upd (upd (upd y 2 (.slice a1 m.shafts.length d1)) 5 (.slice a2 m.wvs.length d2)) 6 (.agg #[.slice a1 m.shafts.length d1, .slice a2 m.wvs.length d2])) 7 (.pointer (some ⟨p, 0, none⟩)) ∧ Ext w1 W6 ∧ OwnShs W6 w1.heap.size (.slice a1 m.shafts.length d1) m.shafts ∧ W6.ownsRow w1.heap.size 82 2 (.slice a2 m.wvs.length d2) m.wvs.length cs ∧ WvF (rdW w1) cs m.wvs ∧ Blk W6 p 26 #[.slice none 0 0, .slice none 0 0] ∧ w1.heap.size ≤ p) ?_ ?_
  · rintro y' W6 ⟨a1, d1, a2, d2, p, cs, rfl, he6, hO1, hO2, hcs, hp, hpl⟩
    clear hG he
    refine Tree.nil (by kernel_rfl) ?_
    simp only [upd, Nat.reduceEqDiff, if_false, if_true]
    have hap : Apart p W6 ((W6.setCell ⟨p, 0, none⟩ (.slice a1 m.shafts.length d1)).setCell ⟨p, 1, none⟩ (.slice a2 m.wvs.length d2)) := ((Apart.refl p W6).set_ 0 _).set_ 1 _
    have hp7 : Blk ((W6.setCell ⟨p, 0, none⟩ (.slice a1 m.shafts.length d1)).setCell ⟨p, 1, none⟩ (.slice a2 m.wvs.length d2)) p 26 #[.slice a1 m.shafts.length d1, .slice a2 m.wvs.length d2] := by simpa using (hp.set_ 0 (.slice a1 m.shafts.length d1)).set_ 1 (.slice a2 m.wvs.length d2)
    have hO17 : OwnShs _ _ _ _ := ownsRow_apart hO1 (fun e => ownsRow_ne_blk hO1 hp (by decide) e.symm) hap
    have hO27 := ownsRow_apart hO2 (fun e => ownsRow_ne_blk hO2 hp (by decide) e.symm) hap
    have he7 := hap.ext_of he6 hpl
    obtain ⟨p0, p1⟩ := hp.c2
    have pf0 := hp.frozen 0
    have pf1 := hp.frozen 1
    obtain ⟨-, k1'⟩ := (HM.out.ext he7).c2
    have HO17 := Lib.hid hO17; have HO27 := Lib.hid hO27; have Hcs0 := Lib.hid hcs
    clear hO1 hO2 hO17 hO27 hcs hap he6 k0 k1 Hcs Hcw
    go_wp2_with fail
    clear p0 p1 pf0 pf1 k1'
    generalize (W6.setCell _ _).setCell _ _ = W7 at *
    go_loopw [16] (fun iv wr => ∃ i : Nat, i ≤ m.wvs.length ∧ iv = .int .i64 (i : Int) ∧ Ext w1 wr ∧ Blk wr p 26 #[.slice a1 m.shafts.length d1, .slice a2 m.wvs.length d2] ∧ Hid (OwnShs wr w1.heap.size (.slice a1 m.shafts.length d1) m.shafts) ∧
      ∃ ds es, Hid (wr.ownsRow w1.heap.size 82 2 (.slice a2 m.wvs.length d2) m.wvs.length (ds ++ es)) ∧ Hid (WvF (ownW wr w1.heap.size) ds (m.wvs.take i)) ∧ Hid (WvF (rdW w1) es (m.wvs.drop i))) (fun iv _ => m.wvs.length - (intOf iv).toNat)
    case atStart => exact ⟨0, Nat.zero_le _, rfl, he7, hp7, HO17, [], _, HO27, trivial, Hcs0⟩
    case round =>
      clear hp7 he7 HO17 HO27 Hcs0
      obtain ⟨i, hi', rfl, he, hpB, hOs, ds, es, hrow, hds, hes⟩ := hrel
      by_cases hlt : i < m.wvs.length
      · have hes1 := hes.out
        rw [List.drop_eq_getElem_cons hlt, show m.wvs[i] = m.wv i by unfold PM.wv; rw [List.getElem?_eq_getElem hlt]; rfl] at hes1
        obtain ⟨u, es', rfl, hu, hes2⟩ := hes1.get
        have hdl : ds.length = i * 2 := by
          rw [WvF.length hds.out, List.length_take]; congr 1; omega
        obtain ⟨g, rfl⟩ : ∃ g, a2 = some ⟨g, 0, none⟩ := by
          rcases hrow.out.2 with ⟨e, h9⟩ | ⟨g, cap, cur, e, _⟩
          · omega
          · simp only [Value.slice.injEq] at e
            exact ⟨g, e.1⟩
        obtain ⟨-, -, q2, q3, hgl, cur, hgB⟩ := ownsRow_set (u' := u) hrow.out
        rw [hdl] at q2 q3
        obtain ⟨b, o, rfl, A3, c3, h3', j1, j2, j3⟩ := HA2.out.ext he i hlt
        have hwv : m.wvs[i]?.getD default = m.wv i := rfl
        rw [hwv] at j1 j2 j3
        have hh := Hb3.out i hlt
        obtain ⟨wvi, hwvi⟩ : ∃ x, m.wv i = x := ⟨_, rfl⟩
        rw [hwvi] at j1 j2 j3 hh
        obtain ⟨sh, hshe⟩ : ∃ sh, wvi.shaft = sh := ⟨_, rfl⟩
        obtain ⟨hrs, hhrs⟩ : ∃ hrs, wvi.hours = hrs := ⟨_, rfl⟩
        rw [hshe] at j1
        rw [hhrs] at j2 j3 hh
        have hmw : Hid (m.wv i = ({ shaft := sh, hours := hrs } : Wv)) := by unfold Hid; rw [hwvi, ← hshe, ← hhrs]
        have hX := Ext.alloc wr (.cells #[.int .i64 sh, .slice A3 hrs.length c3] 82)
        have hK := Blk.new wr 82 #[.int .i64 sh, .slice A3 hrs.length c3]
        have HJ3 := Lib.hid (j3.ext hX)
        have Hdl := Lib.hid hdl; have Hes2 := Lib.hid hes2
        have HP := Lib.hid (hpB.ext hX)
        have Hrow := Lib.hid (ownsRow_ext2 hrow.out hX); have Hos := Lib.hid (OwnShs.ext hOs.out hX); have Hds := Lib.hid (hds.out.map fun u x gg => OwnI.ext gg hX)
        have HeX := Lib.hid (he.trans hX)
        have hpg : p ≠ g := hpB.ne_ hgB (by decide)
        obtain ⟨-, p1⟩ := HP.out.c2
        obtain ⟨-, t1⟩ := hK.c2
        have hwz := he.size
        have hwz2 := hX.size
        clear hes1 hu hes2 hdl hwvi hshe hhrs hes hK hX he hpB hOs hrow hds j3 hgB q2 q3 hwv
        go_upto_region 5 with fail
        clear j1 j2
        obtain ⟨K0, hK0⟩ : ∃ K0, wr.heap.size = K0 := ⟨_, rfl⟩
        rw [hK0] at t1 ⊢
        have hw1K : w1.heap.size ≤ K0 := by omega
        clear hK0 hwz
        generalize wr.alloc _ = w2 at *
        refine wp_region_chain 6 [(5, true)] [] (by kernel_rfl) (by kernel_rfl) (by kernel_rfl) ?_
        simp only [List.take, List.drop, fill, Act.put, List.setIfInBounds_toArray, List.set_cons_zero, List.set_cons_succ, Nat.reduceAdd]
        repeat (first
          | refine Floats.mut rfl ?_
          | (apply Floats.float rfl
             · intro x W he hd K Q hK
               try (have he := he (by decide); have p1 := he.cell p1; have t1 := he.cell t1)
               try simp only [edges, DepsE, List.filter_cons, List.filter_nil, Region.binds, if_true, and_true, true_and, upd, Nat.reduceEqDiff, if_false] at hd
               try simp only [hd] at hK ⊢
               have HK := Lib.hid hK; clear hK
               go_wp2_with fail
               exact HK.out))
        refine Floats.done fun W he hG => ?_
        have hdu := Lib.hid (dupI A3 c3 hrs W (by omega) (HJ3.out.ext he))
        have hszW := he.size
        clear hG
        refine Chain.cons _ rfl ?_
        intro x hd K Q hK
        try simp only [edges, DepsE, List.filter_cons, List.filter_nil, Region.binds, if_true, and_true, true_and, upd, Nat.reduceEqDiff, if_false] at hd
        try simp only [hd] at hK ⊢
        clear hd
        have HK := Lib.hid hK; clear hK
        go_wp2_with fail
        refine hdu.out.mono ?_
        rintro e w9 ⟨v9, rfl, hO9, he9⟩
        obtain ⟨A9, c9, rfl⟩ := ownsRow_slice hO9
        have heA := he.trans he9
        go_wp2_with fail
        refine HK.out _ _ (fun _ => heA) ?_
        clear HK
        refine Chain.nil ?_
        simp only [upd, Nat.reduceEqDiff, if_false, if_true]
        have row9 := ownsRow_ext2 Hrow.out heA
        obtain ⟨t1', -, q2, q3, hgl9, cur9, hg9⟩ := ownsRow_set (u' := (.slice A9 hrs.length c9)) row9
        rw [Hdl.out] at t1' q2 q3
        have hos9 := OwnShs.ext Hos.out heA
        have hlen2 : (m.wvs.length : Int) ≤ 1000 := by omega
        have hO9' := OwnI.mono (base' := w1.heap.size) hO9 (by have := HeX.out.size; omega)
        have Hfin : Hid (Ext w1 (w9.setCell ⟨g, i * 2 + 1, none⟩ (.slice A9 hrs.length c9)) ∧ Blk (w9.setCell ⟨g, i * 2 + 1, none⟩ (.slice A9 hrs.length c9)) p 26 #[.slice a1 m.shafts.length d1, .slice (some ⟨g, 0, none⟩) m.wvs.length d2] ∧ Hid (OwnShs (w9.setCell ⟨g, i * 2 + 1, none⟩ (.slice A9 hrs.length c9)) w1.heap.size (.slice a1 m.shafts.length d1) m.shafts) ∧
            ∃ ds es, Hid ((w9.setCell ⟨g, i * 2 + 1, none⟩ (.slice A9 hrs.length c9)).ownsRow w1.heap.size 82 2 (.slice (some ⟨g, 0, none⟩) m.wvs.length d2) m.wvs.length (ds ++ es)) ∧ Hid (WvF (ownW (w9.setCell ⟨g, i * 2 + 1, none⟩ (.slice A9 hrs.length c9)) w1.heap.size) ds (m.wvs.take (i + 1))) ∧ Hid (WvF (rdW w1) es (m.wvs.drop (i + 1)))) := by
          have htk : m.wvs.take (i + 1) = m.wvs.take i ++ [({ shaft := sh, hours := hrs } : Wv)] := by
            rw [List.take_add_one, List.getElem?_eq_getElem hlt]
            have := hmw.out
            unfold PM.wv at this
            rw [List.getElem?_eq_getElem hlt, Option.getD_some] at this
            rw [this]; rfl
          have e1 : (m.wv i).shaft = sh := by rw [hmw.out]
          rw [e1] at t1'
          refine ⟨Below.setCell (HeX.out.trans heA) (by show _ ≤ g; omega) _, (HP.out.ext heA).far (by show p ≠ g; exact hpg) _, Lib.hid (ownsRow_apart hos9 (fun e => ownsRow_ne_blk hos9 hg9 (by decide) e.symm) ((Apart.refl g w9).set_ _ (.slice A9 hrs.length c9))), ds ++ [.int .i64 sh, .slice A9 hrs.length c9], es', ?_, ?_, Hes2⟩
          · unfold Hid
            rw [List.append_assoc]
            exact t1'
          · rw [htk]
            refine WvF.append (Hds.out.map fun u x gg => OwnI.far (OwnI.ext gg heA) hg9 (by decide) _ _) ⟨rfl, ?_, trivial⟩
            exact OwnI.far hO9' hg9 (by decide) _ _
        have hone := hO9.one
        clear t1' hos9 hO9' row9 Hes2 Hds Hos Hrow hO9 hdu heA HJ3 HP hmw p1 t1
        go_wp2_with fail
        go_roundw
        case rel => exact ⟨i + 1, by omega, by go_num, Hfin.out⟩
        case measure => simp [intOf]; omega
      · obtain rfl : i = m.wvs.length := by omega
        have hds0 := hds.out
        rw [List.take_length] at hds0
        have hes0 : es = [] := by
          have := hes.out
          rw [List.drop_eq_nil_of_le (Nat.le_refl _)] at this
          have := WvF.length this
          exact List.length_eq_zero_iff.1 (by simpa using this)
        subst hes0
        have hrow0 := hrow.out
        rw [List.append_nil] at hrow0
        have hR2 := HR.out.ext he
        obtain ⟨p0, p1⟩ := hpB.c2
        obtain ⟨y0, y1⟩ := hR2.c2
        have f0 := hR2.frozen 0
        have f1 := hR2.frozen 1
        have hap : Apart (w.heap.size + 1) wr ((wr.setCell ⟨w.heap.size + 1, 0, none⟩ (.slice a1 m.shafts.length d1)).setCell ⟨w.heap.size + 1, 1, none⟩ (.slice a2 m.wvs.length d2)) := ((Apart.refl _ wr).set_ 0 _).set_ 1 _
        have hR9 : Blk ((wr.setCell ⟨w.heap.size + 1, 0, none⟩ (.slice a1 m.shafts.length d1)).setCell ⟨w.heap.size + 1, 1, none⟩ (.slice a2 m.wvs.length d2)) (w.heap.size + 1) 26 #[.slice a1 m.shafts.length d1, .slice a2 m.wvs.length d2] := by simpa using (hR2.set_ 0 (.slice a1 m.shafts.length d1)).set_ 1 (.slice a2 m.wvs.length d2)
        have g1 : OwnShs _ w1.heap.size _ _ := ownsRow_apart hOs.out (fun e => ownsRow_ne_blk hOs.out hR2 (by decide) e.symm) hap
        have g2 := ownsRow_apart hrow0 (fun e => ownsRow_ne_blk hrow0 hR2 (by decide) e.symm) hap
        have g3 := hds0.map fun u x (g : OwnI wr w1.heap.size 3 u x.hours) => OwnI.apart g (fun e => g.ne_blk hR2 (by decide) e.symm) hap
        have hE9 := hap.ext_of (hE1.trans he) (by omega)
        have hszw := hE1.size
        have Hown : Hid (OwnPM _ w.heap.size (.agg #[.slice a1 m.shafts.length d1, .slice a2 m.wvs.length d2]) m) := ⟨_, _, rfl, g1.mono hszw, ds, ownsRow_mono g2 hszw, g3.map fun _ _ g => OwnI.mono g hszw⟩
        have HR9 := Lib.hid hR9; have HE9 := Lib.hid hE9
        clear g1 g2 g3 hap hR9 hE9 hrow0 hds0 hrow hds hes hOs
        go_wp2_with fail
        obtain ⟨t0, t1⟩ := HR9.out.c2
        refine bodyPost_ret (v := .agg #[.slice a1 m.shafts.length d1, .slice a2 m.wvs.length d2]) ?_ rfl ⟨_, rfl, Hown.out, HE9.out⟩
        simp [results, Tryz.results32, go_sem, t0, t1]
  · intro hcut
    have Hcut := Lib.hid hcut
    clear hcut hG
    refine Tree.next (ks := [(2, true), (7, true)]) (by kernel_rfl) ?_
    refine TSteps.cons _ rfl ?_ (TSteps.cons _ rfl ?_ trivial)
    · intro x hd K Qr hK
      try simp only [edges, DepsE, List.filter_cons, List.filter_nil, Region.binds, if_true, and_true, true_and, upd, Nat.reduceEqDiff, if_false] at hd
      try simp only [hd] at hK ⊢
      clear hd
      have HK := Lib.hid hK; clear hK
      go_wp2_with fail
      refine (Hcs.out W (by omega) (HA1.out.ext he)).mono ?_
      rintro e W5 ⟨v1, rfl, hO1, he5⟩
      obtain ⟨a1, d1, rfl⟩ := ownsRow_slice hO1
      have heA := he.trans he5
      have hszA := he.size
      go_wp2_with fail
      refine HK.out _ _ (fun _ => heA) ?_
      refine Unlock.of (ds := []) (by kernel_rfl) ?_
      repeat (first
        | (apply Unlock.float rfl
           · intro x W he hd K Qr hK
             try (have he := he (by decide))
             try simp only [edges, DepsE, List.filter_cons, List.filter_nil, Region.binds, if_true, and_true, true_and, upd, Nat.reduceEqDiff, if_false] at hd
             try simp only [hd] at hK ⊢
             have HK := Lib.hid hK; clear hK
             go_wp2_with fail
             exact HK.out))
      refine Unlock.nil ?_
      clear HK
      refine Tree.next (ks := [(5, true), (7, true)]) (by kernel_rfl) ?_
      refine TSteps.cons _ rfl ?_ (TSteps.cons _ rfl ?_ trivial)
      · intro x hd K Qr hK
        try simp only [edges, DepsE, List.filter_cons, List.filter_nil, Region.binds, if_true, and_true, true_and, upd, Nat.reduceEqDiff, if_false] at hd
        try simp only [hd] at hK ⊢
        clear hd
        have HK := Lib.hid hK; clear hK
        go_wp2_with fail
        refine (Hcw.out W5 (by omega) HA2.out heA).mono ?_
        rintro e W6 ⟨v2, rfl, ⟨cs, hO2, hcs⟩, he6⟩
        obtain ⟨a2, d2, rfl⟩ := ownsRow_slice hO2
        have heB := heA.trans he6
        have hszB := heA.size
        go_wp2_with fail
        refine HK.out _ _ (fun _ => heB) ?_
        refine Unlock.of (ds := [6]) (by kernel_rfl) ?_
        repeat (first
          | (apply Unlock.float rfl
             · intro x W he hd K Qr hK
               try (have he := he (by decide))
               try simp only [edges, DepsE, List.filter_cons, List.filter_nil, Region.binds, if_true, and_true, true_and, upd, Nat.reduceEqDiff, if_false] at hd
               try simp only [hd] at hK ⊢
               have HK := Lib.hid hK; clear hK
               go_wp2_with fail
               exact HK.out))
        refine Unlock.nil ?_
        clear HK
        refine Tree.next (ks := [(7, true)]) (by kernel_rfl) ?_
        refine TSteps.cons _ rfl ?_ trivial
        intro x hd K Qr hK
        try simp only [edges, DepsE, List.filter_cons, List.filter_nil, Region.binds, if_true, and_true, true_and, upd, Nat.reduceEqDiff, if_false] at hd
        try simp only [hd] at hK ⊢
        clear hd
        have HK := Lib.hid hK; clear hK
        go_wp2_with fail
        have hX := Ext.alloc W6 (.cells #[.slice none 0 0, .slice none 0 0] 26)
        have hszX := heB.size
        refine HK.out _ _ (fun _ => heB.trans hX) ?_
        refine Unlock.of (ds := []) (by kernel_rfl) ?_
        repeat (first
          | (apply Unlock.float rfl
             · intro x W he hd K Qr hK
               try (have he := he (by decide))
               try simp only [edges, DepsE, List.filter_cons, List.filter_nil, Region.binds, if_true, and_true, true_and, upd, Nat.reduceEqDiff, if_false] at hd
               try simp only [hd] at hK ⊢
               have HK := Lib.hid hK; clear hK
               go_wp2_with fail
               exact HK.out))
        refine Unlock.nil ?_
        exact Tree.eq (by kernel_rfl) (Hcut.out _ _ ⟨a1, d1, a2, d2, _, cs, rfl, heB.trans hX, ((hO1.ext he6).ext hX).mono (by omega), ownsRow_ext2 (ownsRow_mono hO2 (by omega)) hX, hcs, Blk.new _ _ _, hszX⟩)
      · intro x hd K Qr hK
        try simp only [edges, DepsE, List.filter_cons, List.filter_nil, Region.binds, if_true, and_true, true_and, upd, Nat.reduceEqDiff, if_false] at hd
        try simp only [hd] at hK ⊢
        clear hd
        have HK := Lib.hid hK; clear hK
        go_wp2_with fail
        have hX := Ext.alloc W5 (.cells #[.slice none 0 0, .slice none 0 0] 26)
        have hp := Blk.new W5 26 #[.slice none 0 0, .slice none 0 0]
        have hszX := heA.size
        refine HK.out _ _ (fun _ => heA.trans hX) ?_
        refine Unlock.of (ds := []) (by kernel_rfl) ?_
        repeat (first
          | (apply Unlock.float rfl
             · intro x W he hd K Qr hK
               try (have he := he (by decide))
               try simp only [edges, DepsE, List.filter_cons, List.filter_nil, Region.binds, if_true, and_true, true_and, upd, Nat.reduceEqDiff, if_false] at hd
               try simp only [hd] at hK ⊢
               have HK := Lib.hid hK; clear hK
               go_wp2_with fail
               exact HK.out))
        refine Unlock.nil ?_
        clear HK
        obtain ⟨pp, hpp⟩ : ∃ pp, W5.heap.size = pp := ⟨_, rfl⟩
        rw [hpp] at hp hszX ⊢
        have heX := heA.trans hX
        have hO1X := OwnShs.ext hO1 hX
        generalize W5.alloc _ = W7 at *
        clear hX hpp
        refine Tree.next (ks := [(5, true)]) (by kernel_rfl) ?_
        refine TSteps.cons _ rfl ?_ trivial
        intro x hd K Qr hK
        try simp only [edges, DepsE, List.filter_cons, List.filter_nil, Region.binds, if_true, and_true, true_and, upd, Nat.reduceEqDiff, if_false] at hd
        try simp only [hd] at hK ⊢
        clear hd
        have HK := Lib.hid hK; clear hK
        go_wp2_with fail
        refine (Hcw.out W7 (by omega) HA2.out heX).mono ?_
        rintro e W6 ⟨v2, rfl, ⟨cs, hO2, hcs⟩, he6⟩
        obtain ⟨a2, d2, rfl⟩ := ownsRow_slice hO2
        have heB := heX.trans he6
        have hszB := heX.size
        go_wp2_with fail
        refine HK.out _ _ (fun _ => heB) ?_
        refine Unlock.of (ds := [6]) (by kernel_rfl) ?_
        repeat (first
          | (apply Unlock.float rfl
             · intro x W he hd K Qr hK
               try (have he := he (by decide))
               try simp only [edges, DepsE, List.filter_cons, List.filter_nil, Region.binds, if_true, and_true, true_and, upd, Nat.reduceEqDiff, if_false] at hd
               try simp only [hd] at hK ⊢
               have HK := Lib.hid hK; clear hK
               go_wp2_with fail
               exact HK.out))
        refine Unlock.nil ?_
        exact Tree.eq (by kernel_rfl) (Hcut.out _ _ ⟨a1, d1, a2, d2, pp, cs, upd_257 _ _ _ _ _, heB, (OwnShs.ext hO1X he6).mono (by omega), ownsRow_mono hO2 (by omega), hcs, hp.ext he6, hszX⟩)
    · intro x hd K Qr hK
      try simp only [edges, DepsE, List.filter_cons, List.filter_nil, Region.binds, if_true, and_true, true_and, upd, Nat.reduceEqDiff, if_false] at hd
      try simp only [hd] at hK ⊢
      clear hd
      have HK := Lib.hid hK; clear hK
      go_wp2_with fail
      have hX := Ext.alloc W (.cells #[.slice none 0 0, .slice none 0 0] 26)
      have hp := Blk.new W 26 #[.slice none 0 0, .slice none 0 0]
      have hszX := he.size
      have heX := he.trans hX
      refine HK.out _ _ (fun _ => heX) ?_
      refine Unlock.of (ds := []) (by kernel_rfl) ?_
      repeat (first
        | (apply Unlock.float rfl
           · intro x W he hd K Qr hK
             try (have he := he (by decide))
             try simp only [edges, DepsE, List.filter_cons, List.filter_nil, Region.binds, if_true, and_true, true_and, upd, Nat.reduceEqDiff, if_false] at hd
             try simp only [hd] at hK ⊢
             have HK := Lib.hid hK; clear hK
             go_wp2_with fail
             exact HK.out))
      refine Unlock.nil ?_
      clear HK
      obtain ⟨pp, hpp⟩ : ∃ pp, W.heap.size = pp := ⟨_, rfl⟩
      rw [hpp] at hp hszX ⊢
      generalize W.alloc _ = W7 at *
      clear hX hpp he
      refine Tree.next (ks := [(2, true)]) (by kernel_rfl) ?_
      refine TSteps.cons _ rfl ?_ trivial
      intro x hd K Qr hK
      try simp only [edges, DepsE, List.filter_cons, List.filter_nil, Region.binds, if_true, and_true, true_and, upd, Nat.reduceEqDiff, if_false] at hd
      try simp only [hd] at hK ⊢
      clear hd
      have HK := Lib.hid hK; clear hK
      go_wp2_with fail
      refine (Hcs.out W7 (by omega) (HA1.out.ext heX)).mono ?_
      rintro e W5 ⟨v1, rfl, hO1, he5⟩
      obtain ⟨a1, d1, rfl⟩ := ownsRow_slice hO1
      have heA := heX.trans he5
      have hszA := heX.size
      go_wp2_with fail
      refine HK.out _ _ (fun _ => heA) ?_
      refine Unlock.of (ds := []) (by kernel_rfl) ?_
      repeat (first
        | (apply Unlock.float rfl
           · intro x W he hd K Qr hK
             try (have he := he (by decide))
             try simp only [edges, DepsE, List.filter_cons, List.filter_nil, Region.binds, if_true, and_true, true_and, upd, Nat.reduceEqDiff, if_false] at hd
             try simp only [hd] at hK ⊢
             have HK := Lib.hid hK; clear hK
             go_wp2_with fail
             exact HK.out))
      refine Unlock.nil ?_
      clear HK
      refine Tree.next (ks := [(5, true)]) (by kernel_rfl) ?_
      refine TSteps.cons _ rfl ?_ trivial
      intro x hd K Qr hK
      try simp only [edges, DepsE, List.filter_cons, List.filter_nil, Region.binds, if_true, and_true, true_and, upd, Nat.reduceEqDiff, if_false] at hd
      try simp only [hd] at hK ⊢
      clear hd
      have HK := Lib.hid hK; clear hK
      go_wp2_with fail
      refine (Hcw.out W5 (by omega) HA2.out heA).mono ?_
      rintro e W6 ⟨v2, rfl, ⟨cs, hO2, hcs⟩, he6⟩
      obtain ⟨a2, d2, rfl⟩ := ownsRow_slice hO2
      have heB := heA.trans he6
      have hszB := heA.size
      go_wp2_with fail
      refine HK.out _ _ (fun _ => heB) ?_
      refine Unlock.of (ds := [6]) (by kernel_rfl) ?_
      repeat (first
        | (apply Unlock.float rfl
           · intro x W he hd K Qr hK
             try (have he := he (by decide))
             try simp only [edges, DepsE, List.filter_cons, List.filter_nil, Region.binds, if_true, and_true, true_and, upd, Nat.reduceEqDiff, if_false] at hd
             try simp only [hd] at hK ⊢
             have HK := Lib.hid hK; clear hK
             go_wp2_with fail
             exact HK.out))
      refine Unlock.nil ?_
      exact Tree.eq (by kernel_rfl) (Hcut.out _ _ ⟨a1, d1, a2, d2, pp, cs, upd_725 _ _ _ _ _, heB, (OwnShs.ext hO1 he6).mono (by omega), ownsRow_mono hO2 (by omega), hcs, (hp.ext he5).ext he6, hszX⟩)
end Go.Proofs.Pet
