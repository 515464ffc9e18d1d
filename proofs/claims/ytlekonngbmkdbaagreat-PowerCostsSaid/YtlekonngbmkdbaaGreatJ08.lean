/- Joined texts: PD9, S16, S17, S18, PE1, PC3, PC4, PC5, PD1, PD2, PD3, PE2, PE3. -/
import Derived.Test.YtlekonngbmkdbaaGreatJ06
import Derived.Test.YtlekonngbmkdbaaGreatJ07
import Derived.Test.YtlekonngbmkdbaaGreatJ03
import Derived.Lib.SlicesCompact
import Derived.Shelf.Spec.SlicesInsertGrow
import Derived.Test.YtlekonngbmkdbaaGreatJ04
namespace Go.Proofs.Pet
set_option linter.unusedSimpArgs false
open Go Go.RowKit Go.Maps Go.Shelf
open Go.Proofs.Pow (PM Sh Wv POk Up)

set_option maxHeartbeats 400000 in
theorem dupSh (A : Option Addr) (c : Nat) (xs : List Sh) (w : World) (hb : xs.length ≤ 1000) (hx : ShsAt w A xs) :
    Calls Tryz.prog 102 #[.slice A xs.length c] w fun e w' => ∃ v, e = .returned v ∧ OwnShs w' w.heap.size v xs ∧ Ext w w' := by
  obtain ⟨i, hi, hz0, hz1, hz2⟩ := info_parts info_shaft
  have hmk : ∀ W : World, (Instr.makeSlice 53 (.int .i64 0) (.int .i64 (xs.length : Int))).run Tryz.prog W = .ok (.slice (some ⟨W.heap.size, 0, none⟩) 0 xs.length) (W.alloc (.cells (madeCells #[.int .i64 0, .int .i64 0] (xs.length * 2)) 84)) := by
    intro W
    have := run_make (P := Tryz.prog) W 53 84 i _ Tryz.underlying53 hi hz0 .i64 .i64 0 xs.length (by omega) (by omega) (by rw [hz2]; omega) (by omega)
    simpa [hz1, Value.cells] using this
  have hE := Ext.alloc w (.cells (madeCells #[.int .i64 0, .int .i64 0] (xs.length * 2)) 84)
  have hsrc := Lib.hid (ShsAt.src (hx.ext hE))
  have hlen := Lib.hid (shFlat_len xs)
  have hone := Lib.hid (shFlat_one xs)
  have hown := Lib.hid (World.ownsRow_made (w := w) (e := 84) (size := 2) (madeCells #[.int .i64 0, .int .i64 0] (xs.length * 2)) xs.length (Nat.le_refl _) (by unfold maxLen; omega) (by simp [madeCells]))
  clear hx
  go_enter Tryz.func102, Tryz.ntmps102
  go_wp2_with (at_builtin; go_must (refine wpList_app rfl _ _ 53 rfl w.heap.size 84 i (.agg #[.int .i64 0, .int .i64 0]) 2 16 Tryz.underlying53 hi hz0 hz1 hz2 rfl (by decide) _ _ _ rfl hown.out A xs.length c (shFlat xs) rfl ?c1 hsrc.out ?c2 ?c3 ?c4 ?c5 ?_); (case c1 => exact hlen.out); (case c2 => exact hone.out); (case c3 => (unfold maxLen; omega)); (case c4 => omega); (case c5 => simp); intro v' w' hown' hg hblk)
  go_ret
  refine ⟨_, rfl, ?_, ext_alloc_grown hg (fun k hk => Nat.le_of_eq (Option.some.inj hk))⟩
  simp only [Nat.zero_add, List.nil_append] at hown'
  exact hown'
set_option maxHeartbeats 400000 in
theorem dupWv (A : Option Addr) (c : Nat) (xs : List Wv) (w0 w : World) (hb : xs.length ≤ 1000) (hx : WvsAt w0 A xs) (h0 : Ext w0 w) :
    Calls Tryz.prog 103 #[.slice A xs.length c] w fun e w' => ∃ v, e = .returned v ∧ (∃ cs, w'.ownsRow w.heap.size 86 2 v xs.length cs ∧ WvF (rdW w0) cs xs) ∧ Ext w w' := by
  obtain ⟨i, hi, hz0, hz1, hz2⟩ := info_parts info_weaver
  have hmk : ∀ W : World, (Instr.makeSlice 54 (.int .i64 0) (.int .i64 (xs.length : Int))).run Tryz.prog W = .ok (.slice (some ⟨W.heap.size, 0, none⟩) 0 xs.length) (W.alloc (.cells (madeCells #[.int .i64 0, .slice none 0 0] (xs.length * 2)) 86)) := by
    intro W
    have := run_make (P := Tryz.prog) W 54 86 i _ Tryz.underlying54 hi hz0 .i64 .i64 0 xs.length (by omega) (by omega) (by rw [hz2]; omega) (by omega)
    simpa [hz1, Value.cells] using this
  have hE := Ext.alloc w (.cells (madeCells #[.int .i64 0, .slice none 0 0] (xs.length * 2)) 86)
  obtain ⟨cs, hcs, hsrc0⟩ := hx.src
  have hsrc := Lib.hid (hsrc0.ext (h0.trans hE))
  have hlen := Lib.hid hcs.length
  have hone := Lib.hid (hcs.one rdW_one)
  have Hcs := Lib.hid hcs
  clear hcs hsrc0
  have hown := Lib.hid (World.ownsRow_made (w := w) (e := 86) (size := 2) (madeCells #[.int .i64 0, .slice none 0 0] (xs.length * 2)) xs.length (Nat.le_refl _) (by unfold maxLen; omega) (by simp [madeCells]))
  clear hx
  go_enter Tryz.func103, Tryz.ntmps103
  go_wp2_with (at_builtin; go_must (refine wpList_app rfl _ _ 54 rfl w.heap.size 86 i (.agg #[.int .i64 0, .slice none 0 0]) 2 32 Tryz.underlying54 hi hz0 hz1 hz2 rfl (by decide) _ _ _ rfl hown.out A xs.length c cs rfl ?c1 hsrc.out ?c2 ?c3 ?c4 ?c5 ?_); (case c1 => exact hlen.out); (case c2 => exact hone.out); (case c3 => (unfold maxLen; omega)); (case c4 => omega); (case c5 => simp); intro v' w' hown' hg hblk)
  go_ret
  refine ⟨_, rfl, ?_, ext_alloc_grown hg (fun k hk => Nat.le_of_eq (Option.some.inj hk))⟩
  simp only [Nat.zero_add, List.nil_append] at hown'
  exact ⟨cs, hown', Hcs.out⟩
set_option maxRecDepth 20000 in
set_option maxHeartbeats 2000000 in
theorem own7_any (v : Value) (m : PM) (hb1 : m.shafts.length ≤ 1000) (hb2 : m.wvs.length ≤ 1000) (hb3 : ∀ k, k < m.wvs.length → (m.wv k).hours.length ≤ 1000) (w : World) (hv : PMVal w v m) :
    Calls Tryz.prog 23 #[v] w fun e w' => ∃ u, e = .returned u ∧ OwnPM w' w.heap.size u m ∧ Ext w w' := by
  obtain ⟨A1, c1, A2, c2, rfl, h2, h3, h4, h5, h6, h7⟩ := hv
  have hE1 : Ext w ((w.alloc (.cells #[.slice A1 m.shafts.length c1, .slice A2 m.wvs.length c2] 56)).alloc (.cells #[.slice none 0 0, .slice none 0 0] 56)) := (Ext.alloc _ _).trans (Ext.alloc _ _)
  have hM := (Blk.new w 56 #[.slice A1 m.shafts.length c1, .slice A2 m.wvs.length c2]).alloc (.cells #[.slice none 0 0, .slice none 0 0] 56)
  have hR := Blk.new (w.alloc (.cells #[.slice A1 m.shafts.length c1, .slice A2 m.wvs.length c2] 56)) 56 #[.slice none 0 0, .slice none 0 0]
  rw [World.size_alloc] at hR
  have HM := Lib.hid hM; have HR := Lib.hid hR
  have HA1 := Lib.hid (h6.ext hE1)
  have HA2 := Lib.hid (h7.ext hE1)
  have hsz1 : ((w.alloc (.cells #[.slice A1 m.shafts.length c1, .slice A2 m.wvs.length c2] 56)).alloc (.cells #[.slice none 0 0, .slice none 0 0] 56)).heap.size = w.heap.size + 2 := by rw [World.size_alloc, World.size_alloc]
  have Hb3 := Lib.hid hb3
  clear h6 h7 hM hR hb3
  go_enter Tryz.func23, Tryz.ntmps23
  go_upto_region 1 with fail
  generalize (w.alloc _).alloc _ = w1 at *
  have Hcs := Lib.hid (dupSh A1 c1 m.shafts)
  have Hcw := Lib.hid (dupWv A2 c2 m.wvs w1)
  obtain ⟨k0, k1⟩ := HM.out.c2
  refine wp_region_tree 8 [(2, true), (5, true), (7, true)] [] (by kernel_rfl) (by kernel_rfl) (by kernel_rfl) (ds := [0, 1, 3, 4]) (by kernel_rfl) ?_
  simp only [List.take, List.drop, fill, Act.put, List.setIfInBounds_toArray, List.set_cons_zero, List.set_cons_succ, Nat.reduceAdd]
  repeat (first
    | (apply Unlock.float rfl
       · intro x W he hd K Qr hK
         try (have he := he (by decide); have k0 := he.cell k0; have k1 := he.cell k1)
         try simp only [edges, DepsE, List.filter_cons, List.filter_nil, Region.binds, if_true, and_true, true_and, upd, Nat.reduceEqDiff, if_false] at hd
         try simp only [hd] at hK ⊢
         have HK := Lib.hid hK; clear hK
         go_wp2_with fail
         exact HK.out))
  refine Unlock.nil ?_
  intro W he hG
  refine Tree.cut (f' := 0) (rem' := []) (fun y y' W6 => ∃ (a1 : Option Addr) (d1 : Nat) (a2 : Option Addr) (d2 : Nat) (p : Nat) (cs : List Value), y' = upd (upd (upd (upd y 2 (.slice a1 m.shafts.length d1)) 5 (.slice a2 m.wvs.length d2)) 6 (.agg #[.slice a1 m.shafts.length d1, .slice a2 m.wvs.length d2])) 7 (.pointer (some ⟨p, 0, none⟩)) ∧ Ext w1 W6 ∧ OwnShs W6 w1.heap.size (.slice a1 m.shafts.length d1) m.shafts ∧ W6.ownsRow w1.heap.size 86 2 (.slice a2 m.wvs.length d2) m.wvs.length cs ∧ WvF (rdW w1) cs m.wvs ∧ Blk W6 p 56 #[.slice none 0 0, .slice none 0 0] ∧ w1.heap.size ≤ p) ?_ ?_
  · rintro y' W6 ⟨a1, d1, a2, d2, p, cs, rfl, he6, hO1, hO2, hcs, hp, hpl⟩
    clear hG he
    refine Tree.nil (by kernel_rfl) ?_
    simp only [upd, Nat.reduceEqDiff, if_false, if_true]
    have hap : Apart p W6 ((W6.setCell ⟨p, 0, none⟩ (.slice a1 m.shafts.length d1)).setCell ⟨p, 1, none⟩ (.slice a2 m.wvs.length d2)) := ((Apart.refl p W6).set_ 0 _).set_ 1 _
    have hp7 : Blk ((W6.setCell ⟨p, 0, none⟩ (.slice a1 m.shafts.length d1)).setCell ⟨p, 1, none⟩ (.slice a2 m.wvs.length d2)) p 56 #[.slice a1 m.shafts.length d1, .slice a2 m.wvs.length d2] := by simpa using (hp.set_ 0 (.slice a1 m.shafts.length d1)).set_ 1 (.slice a2 m.wvs.length d2)
    have hO17 : OwnShs _ _ _ _ := ownsRow_apart hO1 (fun e => ownsRow_ne_blk hO1 hp (by decide) e.symm) hap
    have hO27 := ownsRow_apart hO2 (fun e => ownsRow_ne_blk hO2 hp (by decide) e.symm) hap
    have he7 := hap.ext_of he6 hpl
    obtain ⟨p0, p1⟩ := hp.c2
    have pf0 := hp.frozen 0
    have pf1 := hp.frozen 1
    obtain ⟨-, k1'⟩ := (HM.out.ext he7).c2
    have HO17 := Lib.hid hO17; have HO27 := Lib.hid hO27; have Hcs0 := Lib.hid hcs
    clear hO1 hO2 hO17 hO27 hcs hap he6 k0 k1 Hcs Hcw
    go_wp2_with fail
    clear p0 p1 pf0 pf1 k1'
    generalize (W6.setCell _ _).setCell _ _ = W7 at *
    go_loopw [16] (fun iv wr => ∃ i : Nat, i ≤ m.wvs.length ∧ iv = .int .i64 (i : Int) ∧ Ext w1 wr ∧ Blk wr p 56 #[.slice a1 m.shafts.length d1, .slice a2 m.wvs.length d2] ∧ Hid (OwnShs wr w1.heap.size (.slice a1 m.shafts.length d1) m.shafts) ∧
      ∃ ds es, Hid (wr.ownsRow w1.heap.size 86 2 (.slice a2 m.wvs.length d2) m.wvs.length (ds ++ es)) ∧ Hid (WvF (ownW wr w1.heap.size) ds (m.wvs.take i)) ∧ Hid (WvF (rdW w1) es (m.wvs.drop i))) (fun iv _ => m.wvs.length - (intOf iv).toNat)
    case atStart => exact ⟨0, Nat.zero_le _, rfl, he7, hp7, HO17, [], _, HO27, trivial, Hcs0⟩
    case round =>
      clear hp7 he7 HO17 HO27 Hcs0
      obtain ⟨i, hi', rfl, he, hpB, hOs, ds, es, hrow, hds, hes⟩ := hrel
      by_cases hlt : i < m.wvs.length
      · have hes1 := hes.out
        rw [List.drop_eq_getElem_cons hlt, show m.wvs[i] = m.wv i by unfold PM.wv; rw [List.getElem?_eq_getElem hlt]; rfl] at hes1
        obtain ⟨u, es', rfl, hu, hes2⟩ := hes1.get
        have hdl : ds.length = i * 2 := by
          rw [WvF.length hds.out, List.length_take]; congr 1; omega
        obtain ⟨g, rfl⟩ : ∃ g, a2 = some ⟨g, 0, none⟩ := by
          rcases hrow.out.2 with ⟨e, h9⟩ | ⟨g, cap, cur, e, _⟩
          · omega
          · simp only [Value.slice.injEq] at e
            exact ⟨g, e.1⟩
        obtain ⟨-, -, q2, q3, hgl, cur, hgB⟩ := ownsRow_set (u' := u) hrow.out
        rw [hdl] at q2 q3
        obtain ⟨b, o, rfl, A3, c3, h3', j1, j2, j3⟩ := HA2.out.ext he i hlt
        have hwv : m.wvs[i]?.getD default = m.wv i := rfl
        rw [hwv] at j1 j2 j3
        have hh := Hb3.out i hlt
        obtain ⟨wvi, hwvi⟩ : ∃ x, m.wv i = x := ⟨_, rfl⟩
        rw [hwvi] at j1 j2 j3 hh
        obtain ⟨sh, hshe⟩ : ∃ sh, wvi.shaft = sh := ⟨_, rfl⟩
        obtain ⟨hrs, hhrs⟩ : ∃ hrs, wvi.hours = hrs := ⟨_, rfl⟩
        rw [hshe] at j1
        rw [hhrs] at j2 j3 hh
        have hmw : Hid (m.wv i = ({ shaft := sh, hours := hrs } : Wv)) := by unfold Hid; rw [hwvi, ← hshe, ← hhrs]
        have hX := Ext.alloc wr (.cells #[.int .i64 sh, .slice A3 hrs.length c3] 86)
        have hK := Blk.new wr 86 #[.int .i64 sh, .slice A3 hrs.length c3]
        have HJ3 := Lib.hid (j3.ext hX)
        have Hdl := Lib.hid hdl; have Hes2 := Lib.hid hes2
        have HP := Lib.hid (hpB.ext hX)
        have Hrow := Lib.hid (ownsRow_ext2 hrow.out hX); have Hos := Lib.hid (OwnShs.ext hOs.out hX); have Hds := Lib.hid (hds.out.map fun u x gg => OwnI.ext gg hX)
        have HeX := Lib.hid (he.trans hX)
        have hpg : p ≠ g := hpB.ne_ hgB (by decide)
        obtain ⟨-, p1⟩ := HP.out.c2
        obtain ⟨-, t1⟩ := hK.c2
        have hwz := he.size
        have hwz2 := hX.size
        clear hes1 hu hes2 hdl hwvi hshe hhrs hes hK hX he hpB hOs hrow hds j3 hgB q2 q3 hwv
        go_upto_region 5 with fail
        clear j1 j2
        obtain ⟨K0, hK0⟩ : ∃ K0, wr.heap.size = K0 := ⟨_, rfl⟩
        rw [hK0] at t1 ⊢
        have hw1K : w1.heap.size ≤ K0 := by omega
        clear hK0 hwz
        generalize wr.alloc _ = w2 at *
        refine wp_region_chain 6 [(5, true)] [] (by kernel_rfl) (by kernel_rfl) (by kernel_rfl) ?_
        simp only [List.take, List.drop, fill, Act.put, List.setIfInBounds_toArray, List.set_cons_zero, List.set_cons_succ, Nat.reduceAdd]
        repeat (first
          | refine Floats.mut rfl ?_
          | (apply Floats.float rfl
             · intro x W he hd K Q hK
               try (have he := he (by decide); have p1 := he.cell p1; have t1 := he.cell t1)
               try simp only [edges, DepsE, List.filter_cons, List.filter_nil, Region.binds, if_true, and_true, true_and, upd, Nat.reduceEqDiff, if_false] at hd
               try simp only [hd] at hK ⊢
               have HK := Lib.hid hK; clear hK
               go_wp2_with fail
               exact HK.out))
        refine Floats.done fun W he hG => ?_
        have hdu := Lib.hid (dupI A3 c3 hrs W (by omega) (HJ3.out.ext he))
        have hszW := he.size
        clear hG
        refine Chain.cons _ rfl ?_
        intro x hd K Q hK
        try simp only [edges, DepsE, List.filter_cons, List.filter_nil, Region.binds, if_true, and_true, true_and, upd, Nat.reduceEqDiff, if_false] at hd
        try simp only [hd] at hK ⊢
        clear hd
        have HK := Lib.hid hK; clear hK
        go_wp2_with fail
        refine hdu.out.mono ?_
        rintro e w9 ⟨v9, rfl, hO9, he9⟩
        obtain ⟨A9, c9, rfl⟩ := ownsRow_slice hO9
        have heA := he.trans he9
        go_wp2_with fail
        refine HK.out _ _ (fun _ => heA) ?_
        clear HK
        refine Chain.nil ?_
        simp only [upd, Nat.reduceEqDiff, if_false, if_true]
        have row9 := ownsRow_ext2 Hrow.out heA
        obtain ⟨t1', -, q2, q3, hgl9, cur9, hg9⟩ := ownsRow_set (u' := (.slice A9 hrs.length c9)) row9
        rw [Hdl.out] at t1' q2 q3
        have hos9 := OwnShs.ext Hos.out heA
        have hlen2 : (m.wvs.length : Int) ≤ 1000 := by omega
        have hO9' := OwnI.mono (base' := w1.heap.size) hO9 (by have := HeX.out.size; omega)
        have Hfin : Hid (Ext w1 (w9.setCell ⟨g, i * 2 + 1, none⟩ (.slice A9 hrs.length c9)) ∧ Blk (w9.setCell ⟨g, i * 2 + 1, none⟩ (.slice A9 hrs.length c9)) p 56 #[.slice a1 m.shafts.length d1, .slice (some ⟨g, 0, none⟩) m.wvs.length d2] ∧ Hid (OwnShs (w9.setCell ⟨g, i * 2 + 1, none⟩ (.slice A9 hrs.length c9)) w1.heap.size (.slice a1 m.shafts.length d1) m.shafts) ∧
            ∃ ds es, Hid ((w9.setCell ⟨g, i * 2 + 1, none⟩ (.slice A9 hrs.length c9)).ownsRow w1.heap.size 86 2 (.slice (some ⟨g, 0, none⟩) m.wvs.length d2) m.wvs.length (ds ++ es)) ∧ Hid (WvF (ownW (w9.setCell ⟨g, i * 2 + 1, none⟩ (.slice A9 hrs.length c9)) w1.heap.size) ds (m.wvs.take (i + 1))) ∧ Hid (WvF (rdW w1) es (m.wvs.drop (i + 1)))) := by
          have htk : m.wvs.take (i + 1) = m.wvs.take i ++ [({ shaft := sh, hours := hrs } : Wv)] := by
            rw [List.take_add_one, List.getElem?_eq_getElem hlt]
            have := hmw.out
            unfold PM.wv at this
            rw [List.getElem?_eq_getElem hlt, Option.getD_some] at this
            rw [this]; rfl
          have e1 : (m.wv i).shaft = sh := by rw [hmw.out]
          rw [e1] at t1'
          refine ⟨Below.setCell (HeX.out.trans heA) (by show _ ≤ g; omega) _, (HP.out.ext heA).far (by show p ≠ g; exact hpg) _, Lib.hid (ownsRow_apart hos9 (fun e => ownsRow_ne_blk hos9 hg9 (by decide) e.symm) ((Apart.refl g w9).set_ _ (.slice A9 hrs.length c9))), ds ++ [.int .i64 sh, .slice A9 hrs.length c9], es', ?_, ?_, Hes2⟩
          · unfold Hid
            rw [List.append_assoc]
            exact t1'
          · rw [htk]
            refine WvF.append (Hds.out.map fun u x gg => OwnI.far (OwnI.ext gg heA) hg9 (by decide) _ _) ⟨rfl, ?_, trivial⟩
            exact OwnI.far hO9' hg9 (by decide) _ _
        have hone := hO9.one
        clear t1' hos9 hO9' row9 Hes2 Hds Hos Hrow hO9 hdu heA HJ3 HP hmw p1 t1
        go_wp2_with fail
        go_roundw
        case rel => exact ⟨i + 1, by omega, by go_num, Hfin.out⟩
        case measure => simp [intOf]; omega
      · obtain rfl : i = m.wvs.length := by omega
        have hds0 := hds.out
        rw [List.take_length] at hds0
        have hes0 : es = [] := by
          have := hes.out
          rw [List.drop_eq_nil_of_le (Nat.le_refl _)] at this
          have := WvF.length this
          exact List.length_eq_zero_iff.1 (by simpa using this)
        subst hes0
        have hrow0 := hrow.out
        rw [List.append_nil] at hrow0
        have hR2 := HR.out.ext he
        obtain ⟨p0, p1⟩ := hpB.c2
        obtain ⟨y0, y1⟩ := hR2.c2
        have f0 := hR2.frozen 0
        have f1 := hR2.frozen 1
        have hap : Apart (w.heap.size + 1) wr ((wr.setCell ⟨w.heap.size + 1, 0, none⟩ (.slice a1 m.shafts.length d1)).setCell ⟨w.heap.size + 1, 1, none⟩ (.slice a2 m.wvs.length d2)) := ((Apart.refl _ wr).set_ 0 _).set_ 1 _
        have hR9 : Blk ((wr.setCell ⟨w.heap.size + 1, 0, none⟩ (.slice a1 m.shafts.length d1)).setCell ⟨w.heap.size + 1, 1, none⟩ (.slice a2 m.wvs.length d2)) (w.heap.size + 1) 56 #[.slice a1 m.shafts.length d1, .slice a2 m.wvs.length d2] := by simpa using (hR2.set_ 0 (.slice a1 m.shafts.length d1)).set_ 1 (.slice a2 m.wvs.length d2)
        have g1 : OwnShs _ w1.heap.size _ _ := ownsRow_apart hOs.out (fun e => ownsRow_ne_blk hOs.out hR2 (by decide) e.symm) hap
        have g2 := ownsRow_apart hrow0 (fun e => ownsRow_ne_blk hrow0 hR2 (by decide) e.symm) hap
        have g3 := hds0.map fun u x (g : OwnI wr w1.heap.size 3 u x.hours) => OwnI.apart g (fun e => g.ne_blk hR2 (by decide) e.symm) hap
        have hE9 := hap.ext_of (hE1.trans he) (by omega)
        have hszw := hE1.size
        have Hown : Hid (OwnPM _ w.heap.size (.agg #[.slice a1 m.shafts.length d1, .slice a2 m.wvs.length d2]) m) := ⟨_, _, rfl, g1.mono hszw, ds, ownsRow_mono g2 hszw, g3.map fun _ _ g => OwnI.mono g hszw⟩
        have HR9 := Lib.hid hR9; have HE9 := Lib.hid hE9
        clear g1 g2 g3 hap hR9 hE9 hrow0 hds0 hrow hds hes hOs
        go_wp2_with fail
        obtain ⟨t0, t1⟩ := HR9.out.c2
        refine bodyPost_ret (v := .agg #[.slice a1 m.shafts.length d1, .slice a2 m.wvs.length d2]) ?_ rfl ⟨_, rfl, Hown.out, HE9.out⟩
        simp [results, Tryz.results23, go_sem, t0, t1]
  · intro hcut
    have Hcut := Lib.hid hcut
    clear hcut hG
    refine Tree.next (ks := [(2, true), (7, true)]) (by kernel_rfl) ?_
    refine TSteps.cons _ rfl ?_ (TSteps.cons _ rfl ?_ trivial)
    · intro x hd K Qr hK
      try simp only [edges, DepsE, List.filter_cons, List.filter_nil, Region.binds, if_true, and_true, true_and, upd, Nat.reduceEqDiff, if_false] at hd
      try simp only [hd] at hK ⊢
      clear hd
      have HK := Lib.hid hK; clear hK
      go_wp2_with fail
      refine (Hcs.out W (by omega) (HA1.out.ext he)).mono ?_
      rintro e W5 ⟨v1, rfl, hO1, he5⟩
      obtain ⟨a1, d1, rfl⟩ := ownsRow_slice hO1
      have heA := he.trans he5
      have hszA := he.size
      go_wp2_with fail
      refine HK.out _ _ (fun _ => heA) ?_
      refine Unlock.of (ds := []) (by kernel_rfl) ?_
      repeat (first
        | (apply Unlock.float rfl
           · intro x W he hd K Qr hK
             try (have he := he (by decide))
             try simp only [edges, DepsE, List.filter_cons, List.filter_nil, Region.binds, if_true, and_true, true_and, upd, Nat.reduceEqDiff, if_false] at hd
             try simp only [hd] at hK ⊢
             have HK := Lib.hid hK; clear hK
             go_wp2_with fail
             exact HK.out))
      refine Unlock.nil ?_
      clear HK
      refine Tree.next (ks := [(5, true), (7, true)]) (by kernel_rfl) ?_
      refine TSteps.cons _ rfl ?_ (TSteps.cons _ rfl ?_ trivial)
      · intro x hd K Qr hK
        try simp only [edges, DepsE, List.filter_cons, List.filter_nil, Region.binds, if_true, and_true, true_and, upd, Nat.reduceEqDiff, if_false] at hd
        try simp only [hd] at hK ⊢
        clear hd
        have HK := Lib.hid hK; clear hK
        go_wp2_with fail
        refine (Hcw.out W5 (by omega) HA2.out heA).mono ?_
        rintro e W6 ⟨v2, rfl, ⟨cs, hO2, hcs⟩, he6⟩
        obtain ⟨a2, d2, rfl⟩ := ownsRow_slice hO2
        have heB := heA.trans he6
        have hszB := heA.size
        go_wp2_with fail
        refine HK.out _ _ (fun _ => heB) ?_
        refine Unlock.of (ds := [6]) (by kernel_rfl) ?_
        repeat (first
          | (apply Unlock.float rfl
             · intro x W he hd K Qr hK
               try (have he := he (by decide))
               try simp only [edges, DepsE, List.filter_cons, List.filter_nil, Region.binds, if_true, and_true, true_and, upd, Nat.reduceEqDiff, if_false] at hd
               try simp only [hd] at hK ⊢
               have HK := Lib.hid hK; clear hK
               go_wp2_with fail
               exact HK.out))
        refine Unlock.nil ?_
        clear HK
        refine Tree.next (ks := [(7, true)]) (by kernel_rfl) ?_
        refine TSteps.cons _ rfl ?_ trivial
        intro x hd K Qr hK
        try simp only [edges, DepsE, List.filter_cons, List.filter_nil, Region.binds, if_true, and_true, true_and, upd, Nat.reduceEqDiff, if_false] at hd
        try simp only [hd] at hK ⊢
        clear hd
        have HK := Lib.hid hK; clear hK
        go_wp2_with fail
        have hX := Ext.alloc W6 (.cells #[.slice none 0 0, .slice none 0 0] 56)
        have hszX := heB.size
        refine HK.out _ _ (fun _ => heB.trans hX) ?_
        refine Unlock.of (ds := []) (by kernel_rfl) ?_
        repeat (first
          | (apply Unlock.float rfl
             · intro x W he hd K Qr hK
               try (have he := he (by decide))
               try simp only [edges, DepsE, List.filter_cons, List.filter_nil, Region.binds, if_true, and_true, true_and, upd, Nat.reduceEqDiff, if_false] at hd
               try simp only [hd] at hK ⊢
               have HK := Lib.hid hK; clear hK
               go_wp2_with fail
               exact HK.out))
        refine Unlock.nil ?_
        exact Tree.eq (by kernel_rfl) (Hcut.out _ _ ⟨a1, d1, a2, d2, _, cs, rfl, heB.trans hX, ((hO1.ext he6).ext hX).mono (by omega), ownsRow_ext2 (ownsRow_mono hO2 (by omega)) hX, hcs, Blk.new _ _ _, hszX⟩)
      · intro x hd K Qr hK
        try simp only [edges, DepsE, List.filter_cons, List.filter_nil, Region.binds, if_true, and_true, true_and, upd, Nat.reduceEqDiff, if_false] at hd
        try simp only [hd] at hK ⊢
        clear hd
        have HK := Lib.hid hK; clear hK
        go_wp2_with fail
        have hX := Ext.alloc W5 (.cells #[.slice none 0 0, .slice none 0 0] 56)
        have hp := Blk.new W5 56 #[.slice none 0 0, .slice none 0 0]
        have hszX := heA.size
        refine HK.out _ _ (fun _ => heA.trans hX) ?_
        refine Unlock.of (ds := []) (by kernel_rfl) ?_
        repeat (first
          | (apply Unlock.float rfl
             · intro x W he hd K Qr hK
               try (have he := he (by decide))
               try simp only [edges, DepsE, List.filter_cons, List.filter_nil, Region.binds, if_true, and_true, true_and, upd, Nat.reduceEqDiff, if_false] at hd
               try simp only [hd] at hK ⊢
               have HK := Lib.hid hK; clear hK
               go_wp2_with fail
               exact HK.out))
        refine Unlock.nil ?_
        clear HK
        obtain ⟨pp, hpp⟩ : ∃ pp, W5.heap.size = pp := ⟨_, rfl⟩
        rw [hpp] at hp hszX ⊢
        have heX := heA.trans hX
        have hO1X := OwnShs.ext hO1 hX
        generalize W5.alloc _ = W7 at *
        clear hX hpp
        refine Tree.next (ks := [(5, true)]) (by kernel_rfl) ?_
        refine TSteps.cons _ rfl ?_ trivial
        intro x hd K Qr hK
        try simp only [edges, DepsE, List.filter_cons, List.filter_nil, Region.binds, if_true, and_true, true_and, upd, Nat.reduceEqDiff, if_false] at hd
        try simp only [hd] at hK ⊢
        clear hd
        have HK := Lib.hid hK; clear hK
        go_wp2_with fail
        refine (Hcw.out W7 (by omega) HA2.out heX).mono ?_
        rintro e W6 ⟨v2, rfl, ⟨cs, hO2, hcs⟩, he6⟩
        obtain ⟨a2, d2, rfl⟩ := ownsRow_slice hO2
        have heB := heX.trans he6
        have hszB := heX.size
        go_wp2_with fail
        refine HK.out _ _ (fun _ => heB) ?_
        refine Unlock.of (ds := [6]) (by kernel_rfl) ?_
        repeat (first
          | (apply Unlock.float rfl
             · intro x W he hd K Qr hK
               try (have he := he (by decide))
               try simp only [edges, DepsE, List.filter_cons, List.filter_nil, Region.binds, if_true, and_true, true_and, upd, Nat.reduceEqDiff, if_false] at hd
               try simp only [hd] at hK ⊢
               have HK := Lib.hid hK; clear hK
               go_wp2_with fail
               exact HK.out))
        refine Unlock.nil ?_
        exact Tree.eq (by kernel_rfl) (Hcut.out _ _ ⟨a1, d1, a2, d2, pp, cs, upd_257 _ _ _ _ _, heB, (OwnShs.ext hO1X he6).mono (by omega), ownsRow_mono hO2 (by omega), hcs, hp.ext he6, hszX⟩)
    · intro x hd K Qr hK
      try simp only [edges, DepsE, List.filter_cons, List.filter_nil, Region.binds, if_true, and_true, true_and, upd, Nat.reduceEqDiff, if_false] at hd
      try simp only [hd] at hK ⊢
      clear hd
      have HK := Lib.hid hK; clear hK
      go_wp2_with fail
      have hX := Ext.alloc W (.cells #[.slice none 0 0, .slice none 0 0] 56)
      have hp := Blk.new W 56 #[.slice none 0 0, .slice none 0 0]
      have hszX := he.size
      have heX := he.trans hX
      refine HK.out _ _ (fun _ => heX) ?_
      refine Unlock.of (ds := []) (by kernel_rfl) ?_
      repeat (first
        | (apply Unlock.float rfl
           · intro x W he hd K Qr hK
             try (have he := he (by decide))
             try simp only [edges, DepsE, List.filter_cons, List.filter_nil, Region.binds, if_true, and_true, true_and, upd, Nat.reduceEqDiff, if_false] at hd
             try simp only [hd] at hK ⊢
             have HK := Lib.hid hK; clear hK
             go_wp2_with fail
             exact HK.out))
      refine Unlock.nil ?_
      clear HK
      obtain ⟨pp, hpp⟩ : ∃ pp, W.heap.size = pp := ⟨_, rfl⟩
      rw [hpp] at hp hszX ⊢
      generalize W.alloc _ = W7 at *
      clear hX hpp he
      refine Tree.next (ks := [(2, true)]) (by kernel_rfl) ?_
      refine TSteps.cons _ rfl ?_ trivial
      intro x hd K Qr hK
      try simp only [edges, DepsE, List.filter_cons, List.filter_nil, Region.binds, if_true, and_true, true_and, upd, Nat.reduceEqDiff, if_false] at hd
      try simp only [hd] at hK ⊢
      clear hd
      have HK := Lib.hid hK; clear hK
      go_wp2_with fail
      refine (Hcs.out W7 (by omega) (HA1.out.ext heX)).mono ?_
      rintro e W5 ⟨v1, rfl, hO1, he5⟩
      obtain ⟨a1, d1, rfl⟩ := ownsRow_slice hO1
      have heA := heX.trans he5
      have hszA := heX.size
      go_wp2_with fail
      refine HK.out _ _ (fun _ => heA) ?_
      refine Unlock.of (ds := []) (by kernel_rfl) ?_
      repeat (first
        | (apply Unlock.float rfl
           · intro x W he hd K Qr hK
             try (have he := he (by decide))
             try simp only [edges, DepsE, List.filter_cons, List.filter_nil, Region.binds, if_true, and_true, true_and, upd, Nat.reduceEqDiff, if_false] at hd
             try simp only [hd] at hK ⊢
             have HK := Lib.hid hK; clear hK
             go_wp2_with fail
             exact HK.out))
      refine Unlock.nil ?_
      clear HK
      refine Tree.next (ks := [(5, true)]) (by kernel_rfl) ?_
      refine TSteps.cons _ rfl ?_ trivial
      intro x hd K Qr hK
      try simp only [edges, DepsE, List.filter_cons, List.filter_nil, Region.binds, if_true, and_true, true_and, upd, Nat.reduceEqDiff, if_false] at hd
      try simp only [hd] at hK ⊢
      clear hd
      have HK := Lib.hid hK; clear hK
      go_wp2_with fail
      refine (Hcw.out W5 (by omega) HA2.out heA).mono ?_
      rintro e W6 ⟨v2, rfl, ⟨cs, hO2, hcs⟩, he6⟩
      obtain ⟨a2, d2, rfl⟩ := ownsRow_slice hO2
      have heB := heA.trans he6
      have hszB := heA.size
      go_wp2_with fail
      refine HK.out _ _ (fun _ => heB) ?_
      refine Unlock.of (ds := [6]) (by kernel_rfl) ?_
      repeat (first
        | (apply Unlock.float rfl
           · intro x W he hd K Qr hK
             try (have he := he (by decide))
             try simp only [edges, DepsE, List.filter_cons, List.filter_nil, Region.binds, if_true, and_true, true_and, upd, Nat.reduceEqDiff, if_false] at hd
             try simp only [hd] at hK ⊢
             have HK := Lib.hid hK; clear hK
             go_wp2_with fail
             exact HK.out))
      refine Unlock.nil ?_
      exact Tree.eq (by kernel_rfl) (Hcut.out _ _ ⟨a1, d1, a2, d2, pp, cs, upd_725 _ _ _ _ _, heB, (OwnShs.ext hO1 he6).mono (by omega), ownsRow_mono hO2 (by omega), hcs, (hp.ext he5).ext he6, hszX⟩)
end Go.Proofs.Pet

namespace Go.Proofs.Pow
theorem addsF_bd {m : PM} (hm : POk m) {l : List Nat} (hl : l.Perm (List.range m.wvs.length)) {k : Nat} (hk : k < m.wvs.length) : 0 ≤ (addsF m l)[k]?.getD 0 ∧ (addsF m l)[k]?.getD 0 ≤ 12960 := by
  have hn : l.Nodup := hl.symm.nodup List.nodup_range
  have hkl : k ∈ l := hl.mem_iff.2 (List.mem_range.2 hk)
  obtain ⟨i, hi, rfl⟩ := List.getElem_of_mem hkl
  rw [addsF_at hn hi hk]
  refine ⟨addF_nonneg hm hi hk, ?_⟩
  have h1 := (cost_bounds hm (befB l (i + 1))).2
  have h2 := (cost_bounds hm (befB l i)).1
  unfold addF
  omega
/-- what is added in the orders of a list -/
def sumA (m : PM) (L : List (List Nat)) (k : Nat) : Int := (L.map fun l => (addsF m l)[k]?.getD 0).sum
end Go.Proofs.Pow

namespace Go.Proofs.Pow
/-- what surely slipped, as a list without doubles -/
def sureC (m : PM) (s : Nat → Int) : List Int := Lib.compact (sortL (sureL m s))
/-- all that belts which really slipped bring about -/
structure FoundP (m : PM) (s : Nat → Int) (real few prf : List Nat) : Prop where
  clash : clashB m s = false
  few_ : firstF m.shafts.length (explB m s) = some few
  prf_ : proveF m.wvs.length (proofB m s) = prf
  fewUp : Up m.shafts.length 0 few
  prfUp : Up m.wvs.length 0 prf
  fewOk : explB m s few = true
  prfOk : proofB m s prf = true
  le : few.length ≤ real.length
  same : few.length = prf.length
  sure : ∀ x, x ∈ sureC m s → ∃ i : Nat, x = i ∧ i ∈ real ∧ i ∈ few
  clr : ∀ i, clrB m s i = true → i ∉ real ∧ i ∉ few
  apart : ∀ a b, a ∈ prf → b ∈ prf → a ≠ b → ∀ v, m.drv v a = true → m.drv v b = true → clrB m s v = true
end Go.Proofs.Pow

namespace Go.Proofs.Pow
/-- a group of one weaver, who ran, and whom a shaft drives -/
def ranB (m : PM) (s : Nat → Int) (i : Nat) (l : List Nat) : Bool := decide (l.length = 1) && (decide (s (l[0]?.getD 0) = 1) && m.drv i (l[0]?.getD 0))
/-- is a shaft that is not cleared met among the first ones? -/
def freeT (m : PM) (s : Nat → Int) (k t : Nat) : Bool := (List.range t).any fun i => m.drv i k && !clrB m s i
/-- is a loom that stopped without such a shaft met among the first ones? -/
def clashT (m : PM) (s : Nat → Int) (t : Nat) : Bool := (List.range t).any fun k => decide (s k = 2) && (opnS m s k).isEmpty
end Go.Proofs.Pow

namespace Go.Proofs.Pet
set_option linter.unusedSimpArgs false
open Go Go.RowKit Go.Maps Go.Shelf
open Go.Proofs.Pow (PM Sh Wv POk Up)

theorem off_anyP (n lo hi : Int) (q : Bool) (hq : inB n lo hi = q) (w : World) : Calls Tryz.prog 104 #[.int .i64 n, .int .i64 lo, .int .i64 hi] w fun e w' => e = .returned (.bool (!q)) ∧ w = w' := by
  unfold inB at hq
  go_enter Tryz.func104, Tryz.ntmps104
  by_cases h1 : n < lo
  · have : q = false := by rw [← hq]; simp; omega
    subst this
    clear hq
    go_wp2_with fail
    go_ret
    exact ⟨rfl, rfl⟩
  · by_cases h2 : hi < n
    · have : q = false := by rw [← hq]; simp; omega
      subst this
      clear hq
      go_wp2_with fail
      go_ret
      exact ⟨rfl, rfl⟩
    · have : q = true := by rw [← hq]; simp; omega
      subst this
      clear hq
      go_wp2_with fail
      go_ret
      exact ⟨rfl, rfl⟩
set_option maxRecDepth 20000 in
set_option maxHeartbeats 1000000 in
theorem has_anyP (k : Int) (A : Option Addr) (c n : Nat) (xs : List Int) (hn : xs.length = n) (q : Bool) (hq : xs.contains k = q) (w : World) (hl : n ≤ maxLen) (hA : IntsAt w A xs) :
    Calls Tryz.prog 106 #[.slice A n c, .int .i64 k] w fun e w' => e = .returned (.bool q) ∧ w = w' := by
  have Hn := Lib.hid hn; have Hq := Lib.hid hq; have HA := Lib.hid hA
  unfold maxLen at hl
  clear hn hq hA
  go_enter Tryz.func106, Tryz.ntmps106
  go_wp2_with fail
  go_loopw [5] (fun i wr => ∃ j : Nat, j ≤ n ∧ i = .int .i64 (j : Int) ∧ Hid ((xs.drop j).contains k = q) ∧ w = wr) (fun i _ => n - (intOf i).toNat)
  case atStart => exact ⟨0, Nat.zero_le _, rfl, Hq, rfl⟩
  case round =>
    clear Hq
    obtain ⟨j, hj, rfl, hq, rfl⟩ := hrel
    by_cases hlt : j < n
    · have hl1 : j < xs.length := by rw [Hn.out]; exact hlt
      obtain ⟨b, o, rfl, l1⟩ := HA.out j hl1
      rw [List.getElem?_eq_getElem hl1, Option.getD_some] at l1
      have hq2 := hq.out
      rw [List.drop_eq_getElem_cons hl1, List.contains_cons] at hq2
      obtain ⟨x, hx⟩ : ∃ x, xs[j] = x := ⟨_, rfl⟩
      rw [hx] at l1 hq2
      clear hx hq
      by_cases hxk : x = k
      · have ht : (x == k) = true := by simp [hxk]
        have : q = true := by rw [← hq2, hxk]; simp
        subst this
        clear hq2 hxk
        go_wp2_with fail
        go_ret
        exact ⟨rfl, rfl⟩
      · have ht : (x == k) = false := beq_eq_false_iff_ne.2 hxk
        have hq3 : Hid ((xs.drop (j + 1)).contains k = q) := by
          rw [beq_eq_false_iff_ne.2 (fun e => hxk e.symm), Bool.false_or] at hq2
          exact hq2
        clear hq2 hxk
        go_wp2_with fail
        go_roundw
        case rel => exact ⟨j + 1, by omega, by go_num, hq3, by trivial⟩
        case measure => simp [intOf]; omega
    · obtain rfl : j = n := by omega
      have : q = false := by rw [← hq.out, show xs.drop j = [] from List.drop_of_length_le (by rw [Hn.out]; exact Nat.le_refl _)]; rfl
      subst this
      clear hq
      go_wp2_with fail
      go_ret
      exact ⟨rfl, rfl⟩
theorem rising_at {xs : List Int} {q : Bool} (hq : risingB xs = q) : (q = true → ∀ i, 0 < i → i < xs.length → xs[i - 1]?.getD 0 < xs[i]?.getD 0) ∧ (q = false → ∃ i, 0 < i ∧ i < xs.length ∧ ¬ xs[i - 1]?.getD 0 < xs[i]?.getD 0) := by
  subst hq
  constructor
  · intro h i h1 h2
    have := (risingB_iff xs).1 h
    exact this i h1 h2
  · intro h
    apply Classical.byContradiction
    intro hn
    have : risingB xs = true := (risingB_iff xs).2 fun i h1 h2 => by
      apply Classical.byContradiction
      intro h3
      exact hn ⟨i, h1, h2, h3⟩
    rw [this] at h
    cases h
set_option maxRecDepth 20000 in
set_option maxHeartbeats 1000000 in
theorem rising7_any (A : Option Addr) (c n : Nat) (xs : List Int) (hn : xs.length = n) (q : Bool) (hq : risingB xs = q) (w : World) (hl : n ≤ maxLen) (hA : IntsAt w A xs) :
    Calls Tryz.prog 105 #[.slice A n c] w fun e w' => e = .returned (.bool q) ∧ Ext w w' := by
  obtain ⟨h1, h2⟩ := rising_at hq
  have Hn := Lib.hid hn; have H1 := Lib.hid h1; have H2 := Lib.hid h2; have HA := Lib.hid hA
  unfold maxLen at hl
  clear hn hq hA h1 h2
  go_enter Tryz.func105, Tryz.ntmps105
  go_wp2_with fail
  go_loopw [3] (fun i wr => ∃ k : Int, 1 ≤ k ∧ (k ≤ n ∨ k = 1) ∧ i = .int .i64 k ∧ Hid (∀ i : Nat, 0 < i → (i : Int) < k → i < n → xs[i - 1]?.getD 0 < xs[i]?.getD 0) ∧ Ext w wr) (fun i _ => (n + 1 - intOf i).toNat)
  case atStart => exact ⟨1, Int.le_refl _, .inr rfl, rfl, (fun i h1 h2 => by omega), Ext.refl _⟩
  case round =>
    obtain ⟨k, hk1, hk2, rfl, hm, he⟩ := hrel
    by_cases hlt : k < n
    · obtain ⟨jj, rfl⟩ : ∃ jj : Nat, k = (jj : Int) + 1 := ⟨(k - 1).toNat, by omega⟩
      obtain ⟨b, o, rfl, l1⟩ := HA.out (jj + 1) (by rw [Hn.out]; omega)
      obtain ⟨b', o', e', l2⟩ := HA.out jj (by rw [Hn.out]; omega)
      cases e'
      obtain ⟨x, hx⟩ : ∃ x, xs[jj + 1]?.getD 0 = x := ⟨_, rfl⟩
      obtain ⟨y, hy⟩ : ∃ y, xs[jj]?.getD 0 = y := ⟨_, rfl⟩
      rw [hx] at l1
      rw [hy] at l2
      have r1 := he.cell l1
      have r2 := he.cell l2
      have Hx := Lib.hid hx; have Hy := Lib.hid hy
      have he0 := he
      clear hx hy he hk2 l1 l2
      obtain ⟨z, hz⟩ : ∃ z, decide (x ≤ y) = z := ⟨_, rfl⟩
      have Hz := Lib.hid hz
      cases z with
      | false =>
        have hm2 : Hid (∀ i : Nat, 0 < i → (i : Int) < (jj : Int) + 1 + 1 → i < n → xs[i - 1]?.getD 0 < xs[i]?.getD 0) := fun i h1 h2 h3 => by
          by_cases e : i = jj + 1
          · subst e
            rw [Nat.add_sub_cancel, Hx.out, Hy.out]
            have := Hz.out
            rw [decide_eq_false_iff_not] at this
            omega
          · exact hm.out i h1 (by omega) h3
        clear hm Hx Hy
        go_upto_region 4 with fail
        refine wp_region_chain 10 [] [] (by kernel_rfl) (by kernel_rfl) (by kernel_rfl) ?_
        simp only [List.take, List.drop, fill, Act.put, List.setIfInBounds_toArray, List.set_cons_zero, List.set_cons_succ, Nat.reduceAdd]
        repeat (first
          | refine Floats.mut rfl ?_
          | (apply Floats.float rfl
             · intro x W he hd K Q hK
               try (have he := he (by decide); have r1 := he.cell r1; have r2 := he.cell r2)
               try simp only [edges, DepsE, List.filter_cons, List.filter_nil, Region.binds, if_true, and_true, true_and, upd, Nat.reduceEqDiff, if_false] at hd
               try simp only [hd] at hK ⊢
               have HK := Lib.hid hK; clear hK
               go_wp2_with fail
               exact HK.out))
        refine Floats.done fun W he hG => ?_
        refine Chain.nil ?_
        simp only [upd, Nat.reduceEqDiff, if_false, if_true]
        go_wp2_with fail
        go_roundw
        case rel => exact ⟨(jj : Int) + 1 + 1, by omega, .inl (by omega), by go_num, hm2, he0.trans he⟩
        case measure => simp [intOf]; omega
      | true =>
        have : q = false := by
          cases q with
          | false => rfl
          | true =>
            have := H1.out rfl (jj + 1) (by omega) (by rw [Hn.out]; omega)
            rw [Nat.add_sub_cancel, Hx.out, Hy.out] at this
            have h2 := Hz.out
            rw [decide_eq_true_eq] at h2
            omega
        subst this
        clear hm Hx Hy H1 H2 Hz HA Hn hk1
        go_upto_region 4 with fail
        refine wp_region_chain 10 [] [] (by kernel_rfl) (by kernel_rfl) (by kernel_rfl) ?_
        simp only [List.take, List.drop, fill, Act.put, List.setIfInBounds_toArray, List.set_cons_zero, List.set_cons_succ, Nat.reduceAdd]
        repeat (first
          | refine Floats.mut rfl ?_
          | (apply Floats.float rfl
             · intro x W he hd K Q hK
               try (have he := he (by decide); have r1 := he.cell r1; have r2 := he.cell r2)
               try simp only [edges, DepsE, List.filter_cons, List.filter_nil, Region.binds, if_true, and_true, true_and, upd, Nat.reduceEqDiff, if_false] at hd
               try simp only [hd] at hK ⊢
               have HK := Lib.hid hK; clear hK
               go_wp2_with fail
               exact HK.out))
        refine Floats.done fun W he hG => ?_
        refine Chain.nil ?_
        simp only [upd, Nat.reduceEqDiff, if_false, if_true]
        go_wp2_with fail
        go_ret
        exact ⟨rfl, he0.trans he⟩
    · have : q = true := by
        cases q with
        | true => rfl
        | false =>
          obtain ⟨i, h1, h2, h3⟩ := H2.out rfl
          have h4 := hm.out i h1 (by have := Hn.out; omega) (by have := Hn.out; omega); omega
      subst this
      clear hm hk2
      go_wp2_with fail
      go_ret
      exact ⟨rfl, he⟩
/-- the numbers that the bits of a number say -/
def listL (s k : Nat) : List Int := if _h : s = 0 then [] else (if s % 2 = 1 then [(k : Int)] else []) ++ listL (s / 2) (k + 1)
termination_by s
decreasing_by omega
end Go.Proofs.Pet

namespace Go.Proofs
open Go.Shelf
end Go.Proofs

namespace Go.Proofs.Pet
open Go Go.RowKit Go.Maps Go.Shelf

end Go.Proofs.Pet
namespace Go.Proofs.Pet
open Go Go.RowKit Go.Maps Go.Shelf Go.Sort
end Go.Proofs.Pet

namespace Go.Proofs.Pow
end Go.Proofs.Pow

namespace Go.Proofs.Pet
open Go Go.RowKit Go.Maps Go.Shelf
open Go.Proofs.Pow (PM Sh Wv POk Up)

/-- an order in which one comes later -/
def laterL (l : List Int) (i k : Nat) : List Int := (l.take i ++ l.drop (i + 1)).take k ++ l[i]?.getD 0 :: (l.take i ++ l.drop (i + 1)).drop k
end Go.Proofs.Pet

namespace Go.Proofs.Pet
open Go Go.RowKit Go.Maps Go.Shelf
open Go.Proofs.Pow (PM Sh Wv POk Up)

/-- all groups, as lists of ints -/
def groupsI (n : Nat) : List (List Int) := (Pow.groupsF n).map ints
/-- a number put into a list -/
def insI (k : Nat) (l : List Int) (a : Nat) : List Int := l.take a ++ (k : Int) :: l.drop a
def insL (k : Nat) (l : List Int) : List (List Int) := (List.range (l.length + 1)).map (insI k l)
/-- all orders, as lists of ints -/
def permsI (n : Nat) : List (List Int) := (Pow.permsF n).map ints
end Go.Proofs.Pet

namespace Go.Proofs.Pet
open Go Go.RowKit Go.Maps Go.Shelf
open Go.Proofs.Pow (PM Sh Wv POk Up)

/-- what the shares of the first ones of a list come to -/
def shT (f : Nat → Int) (l : List Int) (t : Nat) : Int := ((l.take t).map fun k => f k.toNat).sum
theorem shT_succ {f : Nat → Int} {l : List Int} {t : Nat} {x : Int} (h : l[t]? = some x) : shT f l (t + 1) = shT f l t + f x.toNat := by
  unfold shT
  rw [List.take_add_one, h]
  simp
/-- the shares of the mill as a list -/
def shareL (m : PM) : List Int := (List.range m.wvs.length).map (Pow.shareP m)
end Go.Proofs.Pet

namespace Go.Proofs.Pet
open Go Go.RowKit Go.Maps Go.Shelf
open Go.Proofs.Pow (PM Sh Wv POk Up)
attribute [local go_sem] Oper.semAt_some

def cmpI (a b : Int) : Int := if a < b then -1 else if b < a then 1 else 0
def cmpL : List Int → List Int → Int
  | [], [] => 0
  | [], _ :: _ => -1
  | _ :: _, [] => 1
  | a :: l, b :: r => if cmpI a b = 0 then cmpL l r else cmpI a b
/-! All weavers, collected. -/
def encK1 (x : Int) : Array Value := #[.int .i64 x]
end Go.Proofs.Pet

namespace Go.Proofs.Pet
set_option linter.unusedSimpArgs false
open Go Go.RowKit Go.Maps Go.Shelf
open Go.Proofs.Pow (PM Sh Wv POk Up)

def pw : Nat → Nat
  | 0 => 1
  | k + 1 => 2 * pw k
set_option maxRecDepth 20000 in
set_option maxHeartbeats 1000000 in
theorem all7_any (v : Value) (m : PM) (hml : m.wvs.length ≤ 1000) (w : World) (hv : PMVal w v m) :
    Calls Tryz.prog 29 #[v] w fun e w' => ∃ u, e = .returned u ∧ OwnI w' w.heap.size 3 u (Pow.allI m.wvs.length) ∧ Ext w w' := by
  obtain ⟨ti, hi, hz0, hz1, hz2⟩ := info_parts info_int
  obtain ⟨A1, c1, A2, c2, rfl, -, -, -, -, -, -⟩ := hv
  have hE := Ext.alloc w (.cells #[.slice A1 m.shafts.length c1, .slice A2 m.wvs.length c2] 62)
  have hM := Blk.new w 62 #[.slice A1 m.shafts.length c1, .slice A2 m.wvs.length c2]
  have hszE := hE.size
  have HM := Lib.hid hM
  clear hM
  go_enter Tryz.func29, Tryz.ntmps29
  go_wp2_with fail
  generalize w.alloc _ = w1 at *
  go_loopw [3, 4] (fun v i wr => ∃ k : Nat, k ≤ m.wvs.length ∧ i = .int .i64 k ∧ Hid (OwnI wr w1.heap.size 3 v (Pow.allI k)) ∧ Ext w1 wr) (fun _ i _ => m.wvs.length - (intOf i).toNat)
  case atStart => exact ⟨0, Nat.zero_le _, rfl, Lib.hid (OwnI.nil _ _ _), Ext.refl _⟩
  case round =>
    obtain ⟨k, hk, rfl, hO, he⟩ := hrel
    obtain ⟨k0, k1⟩ := (HM.out.ext he).c2
    by_cases hlt : k < m.wvs.length
    · have hX := Ext.alloc wr (.cells #[.int .i64 (k : Int)] 3)
      have hsrc := Src.one wr (.int .i64 (k : Int)) 3
      have hOX := hO.out.ext hX
      have hsz := he.size
      have hszX := hX.size
      obtain ⟨A3, c3, rfl, r1, r2, r3, r4, r5⟩ := hO.out.open_
      have hlen := allI_len k
      have Hw : Hid (∀ v' w', w'.ownsRow w1.heap.size 3 1 v' ((Pow.allI k).length + 1) ((Pow.allI k).map (Value.int .i64) ++ [.int .i64 (k : Int)]) → (wr.alloc (.cells #[.int .i64 (k : Int)] 3)).grownBy w' (Value.slice A3 (Pow.allI k).length c3).ownBlock → OwnI w' w1.heap.size 3 v' (Pow.allI (k + 1)) ∧ Ext w1 w') := by
        intro v' w' hown hg
        refine ⟨by unfold OwnI; rw [allI_succ, List.length_append, List.map_append]; exact hown, ext_grown he hg fun j hj => (hO.out.own_lt j hj).1⟩
      clear r3 r4 r5 hO
      go_wp2_with (at_builtin; refine wpList_app rfl _ _ 22 rfl w1.heap.size 3 ti (.int .i64 0) 1 8 Tryz.underlying22 hi hz0 hz1 hz2 rfl (by decide) (.slice A3 (Pow.allI k).length c3) (Pow.allI k).length _ rfl hOX (some ⟨wr.heap.size, 0, none⟩) 1 1 [.int .i64 (k : Int)] rfl rfl hsrc ?c2 ?c3 ?c4 ?c5 ?_; (case c2 => (intro u hu; rw [List.mem_singleton] at hu; subst hu; rfl)); (case c3 => (unfold maxLen; omega)); (case c4 => omega); (case c5 => omega); intro v' w5 hown hg hblk; have HO := Lib.hid (Hw.out v' w5 hown hg); clear hown hg hblk)
      go_roundw
      case rel => exact ⟨k + 1, by omega, by go_num, HO.out.1, HO.out.2⟩
      case measure => simp [intOf]; omega
    · obtain rfl : k = m.wvs.length := by omega
      go_wp2_with fail
      go_ret
      exact ⟨_, rfl, hO.out.mono hszE, hE.trans he⟩
set_option maxRecDepth 20000 in
set_option maxHeartbeats 1000000 in
theorem line7_any (v : Value) (m : PM) (hm : POk m) (k : Nat) (hk : k < m.wvs.length) (w : World) (hv : PMVal w v m) :
    Calls Tryz.prog 122 #[v, .int .i64 (k : Int)] w fun e w' => ∃ u, e = .returned u ∧ OwnI w' w.heap.size 3 u (m.line (m.wv k).shaft) ∧ Ext w w' := by
  obtain ⟨ti, hi, hz0, hz1, hz2⟩ := info_parts info_int
  obtain ⟨A1, c1, A2, c2, rfl, -, -, -, -, h6, h7⟩ := hv
  have hE := Ext.alloc w (.cells #[.slice A1 m.shafts.length c1, .slice A2 m.wvs.length c2] 62)
  have hM := Blk.new w 62 #[.slice A1 m.shafts.length c1, .slice A2 m.wvs.length c2]
  have hszE := hE.size
  have HM := Lib.hid hM
  have H6 := Lib.hid (h6.ext hE)
  obtain ⟨b2, o2, rfl, A3, c3, h3', j1, j2, j3⟩ := h7.ext hE k hk
  have hwv : m.wvs[k]?.getD default = m.wv k := rfl
  rw [hwv] at j1
  have hat := hm.at_ k hk
  obtain ⟨z, hz⟩ : ∃ z : Nat, (m.wv k).shaft = z := ⟨_, (Int.toNat_of_nonneg hat.1).symm⟩
  rw [hz] at j1 hat ⊢
  obtain ⟨L, hL⟩ : ∃ L, m.line z = L := ⟨_, rfl⟩
  have hzl : z < m.shafts.length := by omega
  have hLl : L.length ≤ 100 := by
    have := line_len hm.up z hzl
    have := hm.sz
    rw [hL] at *
    omega
  have hL0 : Hid ([] ++ m.line z = L) := hL
  have Hup := Lib.hid hm.up
  have hsz9 := hm.sz
  obtain ⟨k0, k1⟩ := hM.c2
  rw [hL]
  clear hL hM hz hwv j2 j3 h3' h6 h7 hm
  go_enter Tryz.func122, Tryz.ntmps122
  go_wp2_with fail
  generalize w.alloc _ = w1 at *
  clear k0 k1 j1
  go_loopw [5, 6] (fun u x wr => ∃ (y : Int) (acc : List Int), -1 ≤ y ∧ y < m.shafts.length ∧ x = .int .i64 y ∧ Hid (acc ++ m.line y = L) ∧ Hid (OwnI wr w1.heap.size 3 u acc) ∧ Ext w1 wr) (fun _ x _ => (intOf x + 1).toNat)
  case atStart => exact ⟨(z : Int), [], by omega, by omega, rfl, hL0, Lib.hid (OwnI.nil _ _ _), Ext.refl _⟩
  case round =>
    clear hL0
    obtain ⟨y, acc, hy1, hy2, rfl, hacc, hO, he⟩ := hrel
    by_cases h1 : y = -1
    · subst h1
      have e := hacc.out
      rw [Pow.line_neg m (by decide), List.append_nil] at e
      subst e
      go_wp2_with fail
      go_ret
      exact ⟨_, rfl, hO.out.mono hszE, hE.trans he⟩
    · obtain ⟨yy, rfl⟩ : ∃ yy : Nat, y = yy := ⟨y.toNat, by omega⟩
      have hyl : yy < m.shafts.length := by omega
      have hl := Pow.line_cons m Hup.out hyl
      have hup := Hup.out yy hyl
      have hl2 := hacc.out
      rw [hl, ← List.singleton_append, ← List.append_assoc] at hl2
      have hal : acc.length ≤ 100 := by
        have := congrArg List.length hacc.out
        rw [List.length_append] at this
        omega
      have hX := Ext.alloc wr (.cells #[.int .i64 (yy : Int)] 3)
      have hsrc := Src.one wr (.int .i64 (yy : Int)) 3
      have hOX := hO.out.ext hX
      have hsz := he.size
      have hszX := hX.size
      obtain ⟨A4, c4, rfl⟩ := ownsRow_slice hO.out
      obtain ⟨u, hu⟩ : ∃ u, (m.sh yy).up = u := ⟨_, rfl⟩
      rw [hu] at hl2 hup
      have Hl2 := Lib.hid hl2
      have Hw : Hid (∀ v' w', w'.ownsRow w1.heap.size 3 1 v' (acc.length + 1) (acc.map (Value.int .i64) ++ [.int .i64 (yy : Int)]) → (wr.alloc (.cells #[.int .i64 (yy : Int)] 3)).grownBy w' (Value.slice A4 acc.length c4).ownBlock → OwnI w' w1.heap.size 3 v' (acc ++ [(yy : Int)]) ∧ Ext w1 w') := by
        intro v' w' hown hg
        exact ⟨by unfold OwnI; rw [List.length_append, List.map_append]; exact hown, ext_grown he hg fun j hj => (hO.out.own_lt j hj).1⟩
      have Hu := Lib.hid hu
      clear hl hl2 hacc hO hu
      go_wp2_with (at_builtin; refine wpList_app rfl _ _ 22 rfl w1.heap.size 3 ti (.int .i64 0) 1 8 Tryz.underlying22 hi hz0 hz1 hz2 rfl (by decide) (.slice A4 acc.length c4) acc.length _ rfl hOX (some ⟨wr.heap.size, 0, none⟩) 1 1 [.int .i64 (yy : Int)] rfl rfl hsrc ?c2 ?c3 ?c4 ?c5 ?_; (case c2 => (intro u hu; rw [List.mem_singleton] at hu; subst hu; rfl)); (case c3 => (unfold maxLen; omega)); (case c4 => omega); (case c5 => omega); intro v' w5 hown hg hblk; have HO := Lib.hid (Hw.out v' w5 hown hg); obtain ⟨k0, k1⟩ := (HM.out.ext HO.out.2).c2; obtain ⟨b1, o1, e1, s1, s2⟩ := H6.out.ext HO.out.2 yy hyl; rw [show m.shafts[yy]?.getD default = m.sh yy from rfl, Hu.out] at s1; subst e1; clear hown hg hblk s2)
      go_roundw
      case rel => exact ⟨u, acc ++ [(yy : Int)], by omega, by omega, rfl, Hl2, HO.out.1, HO.out.2⟩
      case measure => simp [intOf]; omega
end Go.Proofs.Pet

namespace Go.Proofs.Pet
set_option linter.unusedSimpArgs false
open Go Go.RowKit Go.Maps Go.Shelf
open Go.Proofs.Pow (PM Sh Wv POk Up)

set_option maxRecDepth 20000 in
set_option maxHeartbeats 1000000 in
theorem runs7_any (v : Value) (m : PM) (hm : POk m) (A : Option Addr) (c n : Nat) (g : List Int) (hn : g.length = n) (hg : Pow.InG m g) (hl : n ≤ 100) (s h : Nat) (q : Bool) (hq : Pow.mkG m g s h = q) (w : World) (hv : PMVal w v m) (hA : IntsAt w A g) :
    Calls Tryz.prog 107 #[v, .slice A n c, .int .i64 (s : Int), .int .i64 (h : Int)] w fun e w' => e = .returned (.bool q) ∧ Ext w w' := by
  -- <<R
  have Hv := Lib.hid hv
  obtain ⟨A1, c1, A2, c2, rfl, -, -, -, -, -, h7⟩ := hv
  have hE := Ext.alloc w (.cells #[.slice A1 m.shafts.length c1, .slice A2 m.wvs.length c2] 62)
  have HM := Lib.hid (Blk.new w 62 #[.slice A1 m.shafts.length c1, .slice A2 m.wvs.length c2])
  have H7 := Lib.hid (h7.ext hE)
  have HA := Lib.hid (hA.ext hE)
  replace Hv := Lib.hid (Hv.out.ext hE)
  have Hn := Lib.hid hn
  have hsz := hm.sz
  have hfew := hm.few
  have Hm := Lib.hid hm
  have Hg := Lib.hid hg
  unfold Pow.mkG at hq
  have Hq : Hid ((g.drop 0).any (Pow.usesI m s h) = q) := hq
  clear hq h7 hA hn hm hg
  go_enter Tryz.func107, Tryz.ntmps107
  go_wp2_with fail
  generalize w.alloc _ = w1 at *
  go_loopw [9] (fun i wr => ∃ j : Nat, j ≤ n ∧ i = .int .i64 (j : Int) ∧ Hid ((g.drop j).any (Pow.usesI m s h) = q) ∧ Ext w1 wr) (fun i _ => n - (intOf i).toNat)
  case atStart => exact ⟨0, Nat.zero_le _, rfl, Hq, Ext.refl _⟩
  case round =>
    clear Hq
    obtain ⟨j, hj, rfl, hq, he⟩ := hrel
    by_cases hlt : j < n
    · have hl1 : j < g.length := by rw [Hn.out]; exact hlt
      obtain ⟨b, o, rfl, l1⟩ := HA.out.ext he j hl1
      rw [List.getElem?_eq_getElem hl1, Option.getD_some] at l1
      have hq2 := hq.out
      rw [List.drop_eq_getElem_cons hl1, List.any_cons] at hq2
      have hx := Hg.out g[j] (List.getElem_mem hl1)
      obtain ⟨k, hk⟩ : ∃ k : Nat, g[j] = k := ⟨_, (Int.toNat_of_nonneg hx.1).symm⟩
      rw [hk] at l1 hq2 hx
      have hkl : k < m.wvs.length := by omega
      obtain ⟨k0, k1⟩ := (HM.out.ext he).c2
      obtain ⟨b2, o2, rfl, A3, c3, hc3, j1, j2, j3⟩ := H7.out.ext he k hkl
      rw [show m.wvs[k]?.getD default = m.wv k from rfl] at hc3 j1 j2 j3
      obtain ⟨hs, hhs⟩ : ∃ hs, (m.wv k).hours = hs := ⟨_, rfl⟩
      obtain ⟨hd, hhd⟩ : ∃ d, hs.length = d := ⟨_, rfl⟩
      obtain ⟨q1, hq1⟩ : ∃ q1, hs.contains (h : Int) = q1 := ⟨_, rfl⟩
      obtain ⟨L, hL⟩ : ∃ L, m.line (m.wv k).shaft = L := ⟨_, rfl⟩
      obtain ⟨q3, hq3⟩ : ∃ q3, L.contains (s : Int) = q3 := ⟨_, rfl⟩
      have hu : Pow.usesI m s h (k : Int) = (q3 && q1) := by
        unfold Pow.usesI
        rw [Int.toNat_natCast, hL, hhs, hq1, hq3]
      rw [hu] at hq2
      rw [hhs, hhd] at hc3 j2
      rw [hhs] at j3
      have Hs := Lib.hid (fun W => has_anyP (h : Int) A3 c3 hd hs hhd q1 hq1 W (by omega))
      have J3 := Lib.hid j3
      have Hln := Lib.hid (fun W (hW : Ext wr W) => line7_any _ m Hm.out k hkl W (Hv.out.ext (he.trans hW)))
      have Hql : Hid (∀ W A4 c4, IntsAt W A4 L → Calls Tryz.prog 106 #[.slice A4 L.length c4, .int .i64 (s : Int)] W fun e w' => e = .returned (.bool q3) ∧ W = w') := fun W A4 c4 h4 => has_anyP (s : Int) A4 c4 L.length L rfl q3 hq3 W (by
        have h1 := (Hm.out.at_ k hkl)
        obtain ⟨z, hz⟩ : ∃ z : Nat, (m.wv k).shaft = z := ⟨_, (Int.toNat_of_nonneg h1.1).symm⟩
        rw [hz] at h1 hL
        have h2 := line_len Hm.out.up z (by omega)
        rw [hL] at h2
        unfold maxLen; omega) h4
      rw [hL] at Hln
      have Hq2 := Lib.hid hq2
      clear hk hhs hhd hq1 hL hq3 hu hq2 hq hx hl1 j1 j3 hsz hc3
      have hew := he
      clear he
      cases q1 with
      | true =>
        go_upto_region 6 with fail
        refine wp_region_tree 20 [(10, true), (17, true), (19, true)] [] (by kernel_rfl) (by kernel_rfl) (by kernel_rfl) (ds := [0, 1, 2, 3, 4, 5, 6, 7, 8, 9]) (by kernel_rfl) ?_
        simp only [List.take, List.drop, fill, Act.put, List.setIfInBounds_toArray, List.set_cons_zero, List.set_cons_succ, Nat.reduceAdd]
        repeat (first
          | (apply Unlock.float rfl
             · intro x W he hd K Qr hK
               try (have he := he (by decide); have k0 := he.cell k0; have k1 := he.cell k1; have l1 := he.cell l1; have j2 := he.cell j2)
               try simp only [edges, DepsE, List.filter_cons, List.filter_nil, Region.binds, if_true, and_true, true_and, upd, Nat.reduceEqDiff, if_false] at hd
               try simp only [hd] at hK ⊢
               have HK := Lib.hid hK; clear hK
               go_wp2_with fail
               exact HK.out))
        refine Unlock.nil ?_
        intro W he hG
        refine Tree.next (ks := [(10, true)]) (by kernel_rfl) ?_
        refine TSteps.cons _ rfl ?_ trivial
        intro x hd K Qr hK
        try simp only [edges, DepsE, List.filter_cons, List.filter_nil, Region.binds, if_true, and_true, true_and, upd, Nat.reduceEqDiff, if_false] at hd
        try simp only [hd] at hK ⊢
        clear hd
        have HK := Lib.hid hK; clear hK
        go_wp2_with fail
        refine (Hs.out W (J3.out.ext he)).mono ?_
        rintro e w5 ⟨rfl, rfl⟩
        go_wp2_with fail
        refine HK.out _ _ (fun _ => he) ?_
        clear HK
        refine Unlock.of (ds := [11, 12, 13, 14, 15, 16, 18]) (by kernel_rfl) ?_
        repeat (first
          | (apply Unlock.float rfl
             · intro x W he hd K Qr hK
               try (have he := he (by decide); have k0 := he.cell k0; have k1 := he.cell k1; have l1 := he.cell l1)
               try simp only [edges, DepsE, List.filter_cons, List.filter_nil, Region.binds, if_true, and_true, true_and, upd, Nat.reduceEqDiff, if_false] at hd
               try simp only [hd] at hK ⊢
               have HK := Lib.hid hK; clear hK
               go_wp2_with fail
               exact HK.out))
        refine Unlock.nil ?_
        refine Tree.next (ks := [(17, true)]) (by kernel_rfl) ?_
        refine TSteps.cons _ rfl ?_ trivial
        intro x hd K Qr hK
        try simp only [edges, DepsE, List.filter_cons, List.filter_nil, Region.binds, if_true, and_true, true_and, upd, Nat.reduceEqDiff, if_false] at hd
        try simp only [hd] at hK ⊢
        clear hd
        have HK := Lib.hid hK; clear hK
        go_wp2_with fail
        refine (Hln.out W he).mono ?_
        rintro e w5 ⟨v9, rfl, hO, he5⟩
        obtain ⟨A9, c9, rfl, -, -, y3, -, -⟩ := hO.open_
        have heA := he.trans he5
        have hI9 := Lib.hid (Hql.out w5 A9 c9 y3)
        clear y3 hO
        go_wp2_with fail
        refine HK.out _ _ (fun _ => heA) ?_
        clear HK
        refine Unlock.of (ds := []) (by kernel_rfl) ?_
        repeat (first
          | (apply Unlock.float rfl
             · intro x W he hd K Qr hK
               try (have he := he (by decide); skip)
               try simp only [edges, DepsE, List.filter_cons, List.filter_nil, Region.binds, if_true, and_true, true_and, upd, Nat.reduceEqDiff, if_false] at hd
               try simp only [hd] at hK ⊢
               have HK := Lib.hid hK; clear hK
               go_wp2_with fail
               exact HK.out))
        refine Unlock.nil ?_
        refine Tree.next (ks := [(19, true)]) (by kernel_rfl) ?_
        refine TSteps.cons _ rfl ?_ trivial
        intro x hd K Qr hK
        try simp only [edges, DepsE, List.filter_cons, List.filter_nil, Region.binds, if_true, and_true, true_and, upd, Nat.reduceEqDiff, if_false] at hd
        try simp only [hd] at hK ⊢
        clear hd
        have HK := Lib.hid hK; clear hK
        go_wp2_with fail
        refine hI9.out.mono ?_
        rintro e w5 ⟨rfl, rfl⟩
        go_wp2_with fail
        refine HK.out _ _ (fun _ => heA) ?_
        clear HK hI9
        cases q3 with
        | true =>
          refine Tree.nil (by kernel_rfl) ?_
          simp only [upd, Nat.reduceEqDiff, if_false, if_true]
          go_wp2_with fail
          go_ret
          exact ⟨by rw [← Hq2.out]; rfl, hE.trans (hew.trans heA)⟩
        | false =>
          refine Tree.nil (by kernel_rfl) ?_
          simp only [upd, Nat.reduceEqDiff, if_false, if_true]
          go_wp2_with fail
          go_roundw
          case rel => exact ⟨j + 1, by omega, by go_num, Lib.hid (by simpa using Hq2.out), hew.trans heA⟩
          case measure => simp [intOf]; omega
      | false =>
        go_upto_region 6 with fail
        refine wp_region_tree 20 [(10, true), (17, true), (19, true)] [] (by kernel_rfl) (by kernel_rfl) (by kernel_rfl) (ds := [0, 1, 2, 3, 4, 5, 6, 7, 8, 9]) (by kernel_rfl) ?_
        simp only [List.take, List.drop, fill, Act.put, List.setIfInBounds_toArray, List.set_cons_zero, List.set_cons_succ, Nat.reduceAdd]
        repeat (first
          | (apply Unlock.float rfl
             · intro x W he hd K Qr hK
               try (have he := he (by decide); have k0 := he.cell k0; have k1 := he.cell k1; have l1 := he.cell l1; have j2 := he.cell j2)
               try simp only [edges, DepsE, List.filter_cons, List.filter_nil, Region.binds, if_true, and_true, true_and, upd, Nat.reduceEqDiff, if_false] at hd
               try simp only [hd] at hK ⊢
               have HK := Lib.hid hK; clear hK
               go_wp2_with fail
               exact HK.out))
        refine Unlock.nil ?_
        intro W he hG
        refine Tree.next (ks := [(10, true)]) (by kernel_rfl) ?_
        refine TSteps.cons _ rfl ?_ trivial
        intro x hd K Qr hK
        try simp only [edges, DepsE, List.filter_cons, List.filter_nil, Region.binds, if_true, and_true, true_and, upd, Nat.reduceEqDiff, if_false] at hd
        try simp only [hd] at hK ⊢
        clear hd
        have HK := Lib.hid hK; clear hK
        go_wp2_with fail
        refine (Hs.out W (J3.out.ext he)).mono ?_
        rintro e w5 ⟨rfl, rfl⟩
        go_wp2_with fail
        refine HK.out _ _ (fun _ => he) ?_
        clear HK
        refine Unlock.of (ds := [11, 12, 13, 14, 15, 16, 18]) (by kernel_rfl) ?_
        repeat (first
          | (apply Unlock.float rfl
             · intro x W he hd K Qr hK
               try (have he := he (by decide); skip)
               try simp only [edges, DepsE, List.filter_cons, List.filter_nil, Region.binds, if_true, and_true, true_and, upd, Nat.reduceEqDiff, if_false] at hd
               try simp only [hd] at hK ⊢
               have HK := Lib.hid hK; clear hK
               go_wp2_with fail
               exact HK.out))
        refine Unlock.nil ?_
        refine Tree.next (ks := [(17, true)]) (by kernel_rfl) ?_
        refine TSteps.cons _ rfl ?_ trivial
        intro x hd K Qr hK
        try simp only [edges, DepsE, List.filter_cons, List.filter_nil, Region.binds, if_true, and_true, true_and, upd, Nat.reduceEqDiff, if_false] at hd
        try simp only [hd] at hK ⊢
        clear hd
        have HK := Lib.hid hK; clear hK
        go_wp2_with fail
        refine HK.out _ _ (fun _ => he) ?_
        clear HK
        refine Unlock.of (ds := []) (by kernel_rfl) ?_
        repeat (first
          | (apply Unlock.float rfl
             · intro x W he hd K Qr hK
               try (have he := he (by decide); skip)
               try simp only [edges, DepsE, List.filter_cons, List.filter_nil, Region.binds, if_true, and_true, true_and, upd, Nat.reduceEqDiff, if_false] at hd
               try simp only [hd] at hK ⊢
               have HK := Lib.hid hK; clear hK
               go_wp2_with fail
               exact HK.out))
        refine Unlock.nil ?_
        refine Tree.next (ks := [(19, true)]) (by kernel_rfl) ?_
        refine TSteps.cons _ rfl ?_ trivial
        intro x hd K Qr hK
        try simp only [edges, DepsE, List.filter_cons, List.filter_nil, Region.binds, if_true, and_true, true_and, upd, Nat.reduceEqDiff, if_false] at hd
        try simp only [hd] at hK ⊢
        clear hd
        have HK := Lib.hid hK; clear hK
        go_wp2_with fail
        refine HK.out _ _ (fun _ => he) ?_
        clear HK
        refine Tree.nil (by kernel_rfl) ?_
        simp only [upd, Nat.reduceEqDiff, if_false, if_true]
        go_wp2_with fail
        go_roundw
        case rel => exact ⟨j + 1, by omega, by go_num, Lib.hid (by simpa using Hq2.out), hew.trans he⟩
        case measure => simp [intOf]; omega
    · obtain rfl : j = n := by omega
      have : q = false := by rw [← hq.out, show g.drop j = [] from List.drop_of_length_le (by rw [Hn.out]; exact Nat.le_refl _)]; rfl
      subst this
      clear hq
      go_wp2_with fail
      go_ret
      exact ⟨rfl, hE.trans he⟩
  -- >>
/-- the error of a group at a mill that is fit -/
def grpE (m : PM) (g : List Int) : Int := if (g.all fun k => inB k 0 (m.wvs.length - 1)) = false then 1 else if twiceB g = true then 5 else 0
theorem groupE_grp {m : PM} (hm : POk m) (g : List Int) : groupE m g = grpE m g := by
  unfold groupE grpE
  rw [if_neg (by rw [(checkP_iff m).2 hm]; decide)]
theorem grpE_in {m : PM} {g : List Int} (h : grpE m g = 0) : Pow.InG m g := by
  unfold grpE at h
  by_cases h1 : (g.all fun k => inB k 0 (m.wvs.length - 1)) = false
  · rw [if_pos h1] at h; exact absurd h (by decide)
  · intro k hk
    have := List.all_eq_true.1 (by simpa using h1 : (g.all fun k => inB k 0 (m.wvs.length - 1)) = true) k hk
    have := inB_iff.1 this
    omega
set_option maxHeartbeats 1000000 in
theorem grouped7_any (v : Value) (m : PM) (A : Option Addr) (c n : Nat) (l : List Int) (hn : l.length = n) (r : Int) (hr : grpE m l = r) (w : World) (hv : PMVal w v m) (hlc : n ≤ c) (hl : n ≤ 1000) (hwl : m.wvs.length ≤ 1000) (hx : IntsAt w A l) :
    Calls Tryz.prog 27 #[v, .slice A n c] w fun e w' => e = .returned (.int .i64 r) ∧ Ext w w' := by
  -- <<G
  subst hn
  have Hr := Lib.hid hr; clear hr
  obtain ⟨A1, c1, A2, c2, rfl, h2, h3, h4, h5, h6, h7⟩ := hv
  unfold maxLen at h5
  have hE := Ext.alloc w (.cells #[.slice A1 m.shafts.length c1, .slice A2 m.wvs.length c2] 62)
  have hM := Blk.new w 62 #[.slice A1 m.shafts.length c1, .slice A2 m.wvs.length c2]
  clear h6 h7
  go_enter Tryz.func27, Tryz.ntmps27
  go_wp2
  generalize w.alloc _ = W at *
  go_loopw [5] (fun i wr => ∃ k : Nat, k ≤ l.length ∧ i = .int .i64 k ∧ Ext w wr ∧ Blk wr w.heap.size 62 #[.slice A1 m.shafts.length c1, .slice A2 m.wvs.length c2] ∧
      Hid (∀ j, j < k → inB (l[j]?.getD 0) 0 (m.wvs.length - 1) = true)) (fun i _ => l.length - (intOf i).toNat)
  case atStart => exact ⟨0, by omega, rfl, hE, hM, fun j hj => absurd hj (by omega)⟩
  case round =>
    obtain ⟨k, hk, rfl, he, hM', hm⟩ := hrel
    obtain ⟨k0, k1⟩ := hM'.c2
    by_cases hlt : k < l.length
    · obtain ⟨b, o, rfl, q1⟩ := hx.ext he k hlt
      have hmem0 : (l[k]?.getD 0) ∈ l := by simp [hlt]
      have hmem := Lib.hid hmem0; clear hmem0
      generalize hgx : l[k]?.getD 0 = y at *
      have Hgx := Lib.hid hgx; clear hgx
      obtain ⟨q, hq⟩ : ∃ q, inB y 0 (m.wvs.length - 1) = q := ⟨_, rfl⟩
      have Ho := Lib.hid (off_anyP y 0 (m.wvs.length - 1) q hq)
      have Hq := Lib.hid hq; clear hq
      go_wp2_with fail
      cases q with
      | false =>
        go_quiet ((go_at_call 104; exact quiet_same (Ho.out _)))
        go_wp2
        go_ret
        exact ⟨by rw [← Hr.out]; unfold grpE; rw [if_pos (all_false hmem.out Hq.out)]; rfl, he.trans (Ext.drewN _ _)⟩
      | true =>
        go_quiet ((go_at_call 104; exact quiet_same (Ho.out _)))
        go_wp2
        go_roundw
        case rel =>
          refine ⟨k + 1, by omega, by go_num, he.trans (Ext.drewN _ _), hM', fun j hj => ?_⟩
          by_cases ej : j = k
          · subst ej; rw [Hgx.out]; exact Hq.out
          · exact hm.out j (by omega)
        case measure => simp [intOf]; omega
    · have hall := Lib.hid (all_true_of (p := fun k => inB k 0 (m.wvs.length - 1)) (xs := l) fun j hj => hm.out j (by omega))
      clear hm
      go_wp2
      obtain ⟨w2, hw2⟩ : ∃ w2, w2 = wr := ⟨_, rfl⟩
      rw [← hw2] at he hM' ⊢
      clear hw2
      go_loopw [6] (fun i wr => ∃ k : Nat, k ≤ l.length ∧ i = .int .i64 k ∧ Ext w wr ∧ Hid (∀ j, j < k → (l.take j).contains (l[j]?.getD 0) = false)) (fun i _ => l.length - (intOf i).toNat)
      case atStart => exact ⟨0, by omega, rfl, he, fun j hj => absurd hj (by omega)⟩
      case round =>
        obtain ⟨k, hk, rfl, he2, hm⟩ := hrel
        by_cases hlt : k < l.length
        · obtain ⟨b, o, rfl, q1⟩ := hx.ext he2 k hlt
          obtain ⟨q, hq⟩ : ∃ q, (l.take k).contains (l[k]?.getD 0) = q := ⟨_, rfl⟩
          have hlk : (l.take k).length = k := by rw [List.length_take]; omega
          have Ho := fun W (hW : Ext w W) => has_anyP (l[k]?.getD 0) (some ⟨b, o, none⟩) c k (l.take k) hlk q hq W (by unfold maxLen; omega) ((hx.ext hW).take k)
          have Ho' := Lib.hid Ho; clear Ho
          have Hq := Lib.hid hq; clear hq hlk
          generalize hgx : l[k]?.getD 0 = y at *
          have Hgx := Lib.hid hgx; clear hgx
          go_wp2_with fail
          cases q with
          | true =>
            go_quiet ((go_at_call 106; exact quiet_same (Ho'.out _ (he2.trans (Ext.drewN _ _)))))
            go_wp2
            go_ret
            refine ⟨?_, he2.trans (Ext.drewN _ _)⟩
            rw [← Hr.out]
            unfold grpE
            rw [hall.out, twiceB_true hlt (by rw [Hgx.out]; exact Hq.out)]; rfl
          | false =>
            go_quiet ((go_at_call 106; exact quiet_same (Ho'.out _ (he2.trans (Ext.drewN _ _)))))
            go_wp2
            go_roundw
            case rel =>
              refine ⟨k + 1, by omega, by go_num, he2.trans (Ext.drewN _ _), fun j hj => ?_⟩
              by_cases ej : j = k
              · subst ej; rw [Hgx.out]; exact Hq.out
              · exact hm.out j (by omega)
            case measure => simp [intOf]; omega
        · go_wp2
          go_ret
          refine ⟨?_, he2⟩
          rw [← Hr.out]
          unfold grpE
          rw [hall.out, twiceB_false fun j hj => hm.out j (by omega)]; rfl
  -- >>
/-- the sum of the hours before h, and of the shafts before s in the hour h -/
def sumS (m : PM) (mk : Nat → Nat → Bool) (h s : Nat) : Int := ((List.range s).map fun i => if mk i h then (m.sh i).price else 0).sum
def sumH (m : PM) (mk : Nat → Nat → Bool) (h : Nat) : Int := ((List.range h).map fun t => sumS m mk t m.shafts.length).sum
theorem sumS_succ (m : PM) (mk : Nat → Nat → Bool) (h s : Nat) : sumS m mk h (s + 1) = sumS m mk h s + if mk s h then (m.sh s).price else 0 := by
  unfold sumS
  rw [List.range_succ, List.map_append, List.sum_append]
  simp
theorem sumH_succ (m : PM) (mk : Nat → Nat → Bool) (h : Nat) : sumH m mk (h + 1) = sumH m mk h + sumS m mk h m.shafts.length := by
  unfold sumH
  rw [List.range_succ, List.map_append, List.sum_append]
  simp
theorem sumH_sumM (m : PM) (mk : Nat → Nat → Bool) : sumH m mk 24 = Pow.sumM m mk := by
  unfold Pow.sumM
  rw [Pow.sum_flat']
  rfl
set_option maxRecDepth 20000 in
set_option maxHeartbeats 1000000 in
theorem cost7_any (v : Value) (m : PM) (hm : POk m) (A : Option Addr) (c n : Nat) (g : List Int) (hn : g.length = n) (hg : Pow.InG m g) (hl : n ≤ 100) (r : Int) (hr : Pow.costF m (fun k => g.contains (k : Int)) = r) (w : World) (hv : PMVal w v m) (hA : IntsAt w A g) :
    Calls Tryz.prog 28 #[v, .slice A n c] w fun e w' => e = .returned (.int .i64 r) ∧ Ext w w' := by
  -- <<C
  have Hv := Lib.hid hv
  obtain ⟨A1, c1, A2, c2, rfl, -, -, -, -, h6, -⟩ := hv
  have hE := Ext.alloc w (.cells #[.slice A1 m.shafts.length c1, .slice A2 m.wvs.length c2] 62)
  have HM := Lib.hid (Blk.new w 62 #[.slice A1 m.shafts.length c1, .slice A2 m.wvs.length c2])
  have H6 := Lib.hid (h6.ext hE)
  have HR := Lib.hid (fun (s h : Nat) (q : Bool) (hq : Pow.mkG m g s h = q) (W : World) (hW : Ext (w.alloc (.cells #[.slice A1 m.shafts.length c1, .slice A2 m.wvs.length c2] 62)) W) => runs7_any _ m hm A c n g hn hg hl s h q hq W (Hv.out.ext (hE.trans hW)) (hA.ext (hE.trans hW)))
  have hsz := hm.sz
  have Hp := Lib.hid hm.price
  rw [← Pow.cost_mkG hg, ← sumH_sumM] at hr
  obtain ⟨mk, hmk⟩ : ∃ mk, Pow.mkG m g = mk := ⟨_, rfl⟩
  rw [hmk] at hr HR
  have Hr := Lib.hid hr
  clear hr h6 hA hn hm hg hmk Hv hl
  go_enter Tryz.func28, Tryz.ntmps28
  go_wp2_with fail
  generalize w.alloc _ = w1 at *
  go_loopw [5, 6] (fun a i wr => ∃ (j : Nat) (x : Int), j ≤ 24 ∧ i = .int .i64 (j : Int) ∧ a = .int .i64 x ∧ 0 ≤ x ∧ x ≤ 600 * j ∧ Hid (sumH m mk j = x) ∧ Ext w1 wr) (fun _ i _ => 24 - (intOf i).toNat)
  case atStart => exact ⟨0, 0, by omega, rfl, rfl, by omega, by omega, Lib.hid rfl, Ext.refl _⟩
  case round =>
    obtain ⟨j, x, hj, rfl, rfl, hx0, hx1, hx, he⟩ := hrel
    by_cases hlt : j < 24
    · have hd9 : decide ((j : Int) < 24) = true := decide_eq_true (by omega)
      go_wp2_with fail
      go_loopw [5, 7] (fun a i wr => ∃ (s : Nat) (y : Int), s ≤ m.shafts.length ∧ i = .int .i64 (s : Int) ∧ a = .int .i64 (x + y) ∧ 0 ≤ y ∧ y ≤ 60 * s ∧ Hid (sumS m mk j s = y) ∧ Ext w1 wr) (fun _ i _ => m.shafts.length - (intOf i).toNat)
      case atStart => exact ⟨0, 0, by omega, rfl, by rw [Int.add_zero], by omega, by omega, Lib.hid rfl, he⟩
      case round =>
        obtain ⟨s, y, hs, rfl, rfl, hy0, hy1, hy, he2⟩ := hrel
        obtain ⟨k0, k1⟩ := (HM.out.ext he2).c2
        by_cases hls : s < m.shafts.length
        · obtain ⟨b1, o1, rfl, s1, s2⟩ := H6.out.ext he2 s hls
          rw [show m.shafts[s]?.getD default = m.sh s from rfl] at s2
          have hp := Hp.out s hls
          obtain ⟨q, hq⟩ : ∃ q, mk s j = q := ⟨_, rfl⟩
          have hy' := sumS_succ m mk j s
          rw [hq, hy.out] at hy'
          obtain ⟨p, hpp⟩ : ∃ p, (m.sh s).price = p := ⟨_, rfl⟩
          rw [hpp] at hy' s2 hp
          have HY := Lib.hid hy'
          have hc := Lib.hid (HR.out s j q hq wr he2)
          have Hpp := Lib.hid hpp
          clear hq hy hy' hpp s1 s2
          cases q with
          | true =>
            go_wp2_with fail
            refine hc.out.mono ?_
            rintro e w5 ⟨rfl, he5⟩
            have he3 := he2.trans he5
            clear hc k0 k1
            obtain ⟨k0, k1⟩ := (HM.out.ext he3).c2
            obtain ⟨b1, o1, e1, s1, s2⟩ := H6.out.ext he3 s hls
            cases e1
            rw [show m.shafts[s]?.getD default = m.sh s from rfl, Hpp.out] at s2
            clear s1
            go_wp2_with fail
            go_roundw
            case rel => exact ⟨s + 1, y + p, by omega, by go_num, by rw [Int.add_assoc], by omega, by omega, Lib.hid (by simpa using HY.out), he3⟩
            case measure => simp [intOf]; omega
          | false =>
            go_wp2_with fail
            refine hc.out.mono ?_
            rintro e w5 ⟨rfl, he5⟩
            clear hc
            go_wp2_with fail
            go_roundw
            case rel => exact ⟨s + 1, y, by omega, by go_num, rfl, by omega, by omega, Lib.hid (by simpa using HY.out), he2.trans he5⟩
            case measure => simp [intOf]; omega
        · obtain rfl : s = m.shafts.length := by omega
          have hxs := sumH_succ m mk j
          rw [hx.out, hy.out] at hxs
          have Hxs := Lib.hid hxs
          clear hxs hx hy
          go_wp2_with fail
          go_roundw
          case rel => exact ⟨j + 1, x + y, by omega, by go_num, rfl, by omega, by omega, Hxs, he2⟩
          case measure => simp [intOf]; omega
    · obtain rfl : j = 24 := by omega
      have : x = r := by rw [← hx.out, Hr.out]
      subst this
      clear hx Hr
      go_wp2_with fail
      go_ret
      exact ⟨rfl, hE.trans he⟩
  -- >>
end Go.Proofs.Pet
