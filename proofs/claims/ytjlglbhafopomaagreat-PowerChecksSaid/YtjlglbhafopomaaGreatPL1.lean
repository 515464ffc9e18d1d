/-
  Mills of power made of numbers, walked.
-/
import Derived.Test.YtjlglbhafopomaaGreatPBL
import Derived.Test.YtjlglbhafopomaaGreatO0
import Derived.Deep.DeepCutAuto
namespace Go.Proofs.Pet
set_option linter.unusedSimpArgs false
open Go Go.RowKit Go.Maps Go.Shelf
open Go.Proofs.Pow (PM Sh Wv POk Up)

theorem OwnShs.push {w' : World} {base : Nat} {v' : Value} {xs : List Sh} {x : Sh} (hown : w'.ownsRow base 105 2 v' (xs.length + 1) (shFlat xs ++ [.int .i64 x.up, .int .i64 x.price])) : OwnShs w' base v' (xs ++ [x]) := by
  unfold OwnShs
  rw [List.length_append, shFlat_append]
  exact hown
theorem OwnWvs.push {w w' : World} {base : Nat} {v v' s : Value} {cs : List Value} {xs : List Wv} {x : Wv} (h1 : w.ownsRow base 82 2 v xs.length cs) (h2 : WvF (ownW w base) cs xs) (hs : OwnI w base 3 s x.hours)
    (hown : w'.ownsRow base 82 2 v' (xs.length + 1) (cs ++ [.int .i64 x.shaft, s])) (hg : w.grownBy w' v.ownBlock) : OwnWvs w' base v' (xs ++ [x]) := by
  refine ⟨_, by rw [List.length_append]; exact hown, ?_⟩
  exact WvF.map (fun _ _ g => OwnI.grownT g (by decide) hg h1) (h2.append ⟨rfl, hs, trivial⟩)
theorem OwnShs.far {w : World} {base g : Nat} {t : TypeId} {cs : Array Value} {u : Value} {xs : List Sh} (h : OwnShs w base u xs) (hb : Blk w g t cs) (h2 : t ≠ 105 ∨ g < base) (i : Nat) (v : Value) : OwnShs (w.setCell ⟨g, i, none⟩ v) base u xs := by
  refine ownsRow_apart h (fun e => ?_) ((Apart.refl g w).set_ i v)
  rcases h2 with h2 | h2
  · exact ownsRow_ne_blk h hb h2 e.symm
  · have := (ownsRow_own h g e).1; omega
theorem OwnWvs.far {w : World} {base g : Nat} {t : TypeId} {cs : Array Value} {u : Value} {xs : List Wv} (h : OwnWvs w base u xs) (hb : Blk w g t cs) (h1 : t ≠ 3) (h2 : t ≠ 82 ∨ g < base) (i : Nat) (v : Value) : OwnWvs (w.setCell ⟨g, i, none⟩ v) base u xs := by
  obtain ⟨cs', g1, g2⟩ := h
  refine ⟨cs', ownsRow_apart g1 (fun e => ?_) ((Apart.refl g w).set_ i v), g2.map fun _ _ g => OwnI.far g hb h1 i v⟩
  rcases h2 with h2 | h2
  · exact ownsRow_ne_blk g1 hb h2 e.symm
  · have := (ownsRow_own g1 g e).1; omega
/-- a row of another type grows -/
theorem OwnShs.grownT {w w' : World} {base base' size n : Nat} {e : TypeId} {u v : Value} {xs : List Sh} {vs : List Value} (h : OwnShs w base u xs) (hne : e ≠ 105) (hg : w.grownBy w' v.ownBlock) (hv : w.ownsRow base' e size v n vs) : OwnShs w' base u xs := by
  obtain ⟨h1, h2⟩ := h
  refine ⟨h1, ?_⟩
  rcases h2 with h2 | ⟨g, cap, cur, rfl, hg1, hb, r⟩
  · exact .inl h2
  · refine .inr ⟨g, cap, cur, rfl, hg1, ?_, r⟩
    rw [← hb]
    refine hg.block g (Array.getElem?_eq_some_iff.1 hb).1 fun e' => ?_
    exact ownsRow_ne_blk hv (show Blk w g 105 cur from hb) (fun h => hne h.symm) e'
def zeroPM : Array Value := #[.slice none 0 0, .slice none 0 0]
/-- a mill being made: w0 is the world at first, b the spool's block, R the result's, M the mill's -/
structure MkP (w0 : World) (b R M B0 : Nat) (ss : List Sh) (ws : List Wv) (k : Nat) (v1 v2 : Value) (W : World) : Prop where
  ap : Apart b w0 W
  sp : SpoolAt W b k
  br : Blk W R 26 zeroPM
  bm : Blk W M 26 #[v1, v2]
  o1 : OwnShs W B0 v1 ss
  o2 : OwnWvs W B0 v2 ws
  lt : b < w0.heap.size ∧ w0.heap.size ≤ R ∧ R < M ∧ M < B0
section
variable {w0 W W' : World} {b R M B0 k k' : Nat} {ss : List Sh} {ws : List Wv} {v1 v2 : Value}
theorem MkP.turn (h : MkP w0 b R M B0 ss ws k v1 v2 W) (ha : Apart b W W') (hs : SpoolAt W' b k') : MkP w0 b R M B0 ss ws k' v1 v2 W' := by
  obtain ⟨h1, h2, h3, h4, h5, h6, g1, g2, g3, g4⟩ := h
  exact ⟨h1.trans ha, hs, h3.apart (by omega) ha, h4.apart (by omega) ha, h5.apart (by omega) ha, h6.apart (by omega) ha, g1, g2, g3, g4⟩
theorem MkP.ext (h : MkP w0 b R M B0 ss ws k v1 v2 W) (he : Ext W W') : MkP w0 b R M B0 ss ws k v1 v2 W' := h.turn (Apart.of_ext he) (h.sp.ext he)
theorem MkP.monoK (h : MkP w0 b R M B0 ss ws k v1 v2 W) (hk : k ≤ k') : MkP w0 b R M B0 ss ws k' v1 v2 W := h.turn (Apart.refl _ _) (h.sp.mono hk)
theorem Apart.grownP {w1 : World} {v : Value} (h : Apart b w0 w1) (hg : w1.grownBy W' v.ownBlock) (hr : ∀ j, v.ownBlock = some j → w0.heap.size ≤ j) : Apart b w0 W' := by
  obtain ⟨g1, g2, g3, g4, g5⟩ := h
  refine ⟨hg.os.trans g1, hg.tape.trans g2, hg.output.trans g3, Nat.le_trans g4 hg.size, fun j hj hne => ?_⟩
  rw [hg.block j (by omega) (fun e => by have := hr j e.symm; omega)]
  exact g5 j hj hne
theorem SpoolAt.grownP {v : Value} (h : SpoolAt W b k) (hg : W.grownBy W' v.ownBlock) (hr : ∀ j, v.ownBlock = some j → b < j) : SpoolAt W' b k := by
  obtain ⟨A, n, c, st, a, h1, h2, h3, h4, h5⟩ := h
  refine ⟨A, n, c, st, a, h1.grown hg (fun e => by have := hr b e.symm; omega), h2, h3, h4, fun j hj => ?_⟩
  obtain ⟨b', o, u, rfl, g2, g3⟩ := h5 j hj
  refine ⟨b', o, u, rfl, g2, ?_⟩
  have hlt := cell_lt g3
  unfold World.cell? at g3 ⊢
  rw [hg.block b' hlt (fun e => by have := hr b' e.symm; omega)]
  exact g3
theorem Src.listP (w : World) (cs : List Value) (t : TypeId) : Src (w.alloc (.cells cs.toArray t)) (some ⟨w.heap.size, 0, none⟩) cs := .inr ⟨_, rfl, fun j u hj => by
  have hb := Blk.new w t cs.toArray
  rw [addr_off, Nat.zero_add, hb.cell, List.getElem?_toArray]
  exact hj⟩
theorem MkP.pushS {v1' : Value} {x : Sh} (h : MkP w0 b R M B0 ss [] k v1 (.slice none 0 0) W) (hown : W'.ownsRow B0 105 2 v1' (ss.length + 1) (shFlat ss ++ [.int .i64 x.up, .int .i64 x.price])) (hg : W.grownBy W' v1.ownBlock) :
    W'.cell? ⟨M, 0, none⟩ = some v1 ∧ W'.frozen? ⟨M, 0, none⟩ = false ∧ MkP w0 b R M B0 (ss ++ [x]) [] k v1' (.slice none 0 0) (W'.setCell ⟨M, 0, none⟩ v1') := by
  obtain ⟨h1, h2, h3, h4, h5, h6, g1, g2, g3, g4⟩ := h
  have hge : ∀ j, v1.ownBlock = some j → B0 ≤ j := fun j hj => (ownsRow_own h5 j hj).1
  have hM := h4.grown hg (fun e => by have := hge M e.symm; omega)
  have hR := h3.grown hg (fun e => by have := hge R e.symm; omega)
  have h2' := h2.grownP hg (fun j hj => by have := hge j hj; omega)
  exact ⟨hM.c2.1, hM.frozen 0, ((h1.grownP hg (fun j hj => by have := hge j hj; omega)).above (by show w0.heap.size ≤ M; omega) _), h2'.apart (by omega : b < M) ((Apart.refl M W').set_ 0 v1'), hR.far (by show R ≠ M; omega) _, by simpa using hM.set_ 0 v1', (OwnShs.push hown).far hM (.inl (by decide)) 0 v1', OwnWvs.nil, g1, g2, g3, g4⟩
theorem MkP.pushW {v2' s : Value} {cs : List Value} {x : Wv} (h : MkP w0 b R M B0 ss ws k v1 v2 W) (o1 : W.ownsRow B0 82 2 v2 ws.length cs) (o2 : WvF (ownW W B0) cs ws) (hs : OwnI W B0 3 s x.hours)
    (hown : W'.ownsRow B0 82 2 v2' (ws.length + 1) (cs ++ [.int .i64 x.shaft, s])) (hg : W.grownBy W' v2.ownBlock) :
    W'.cell? ⟨M, 1, none⟩ = some v2 ∧ W'.frozen? ⟨M, 1, none⟩ = false ∧ MkP w0 b R M B0 ss (ws ++ [x]) k v1 v2' (W'.setCell ⟨M, 1, none⟩ v2') := by
  obtain ⟨h1, h2, h3, h4, h5, h6, g1, g2, g3, g4⟩ := h
  have hge : ∀ j, v2.ownBlock = some j → B0 ≤ j := fun j hj => (ownsRow_own o1 j hj).1
  have hM := h4.grown hg (fun e => by have := hge M e.symm; omega)
  have hR := h3.grown hg (fun e => by have := hge R e.symm; omega)
  have h2' := h2.grownP hg (fun j hj => by have := hge j hj; omega)
  have hO := OwnWvs.push o1 o2 hs hown hg
  have hL := h5.grownT (by decide) hg o1
  exact ⟨hM.c2.2, hM.frozen 1, ((h1.grownP hg (fun j hj => by have := hge j hj; omega)).above (by show w0.heap.size ≤ M; omega) _), h2'.apart (by omega : b < M) ((Apart.refl M W').set_ 1 v2'), hR.far (by show R ≠ M; omega) _, by simpa using hM.set_ 1 v2', hL.far hM (.inl (by decide)) 1 v2', hO.far hM (by decide) (.inl (by decide)) 1 v2', g1, g2, g3, g4⟩
end
/-- shafts as they are made -/
def SsOk (ss : List Sh) : Prop := ∀ j, j < ss.length → (-1 ≤ (ss[j]?.getD default).up ∧ (ss[j]?.getD default).up < j) ∧ (0 ≤ (ss[j]?.getD default).price ∧ (ss[j]?.getD default).price ≤ 20)
theorem SsOk.push {ss : List Sh} {x : Sh} (h : SsOk ss) (h1 : -1 ≤ x.up ∧ x.up < ss.length) (h2 : 0 ≤ x.price ∧ x.price ≤ 20) : SsOk (ss ++ [x]) := by
  intro j hj
  rw [List.length_append, List.length_singleton] at hj
  by_cases e : j < ss.length
  · rw [List.getElem?_append_left e]; exact h j e
  · obtain rfl : j = ss.length := by omega
    rw [List.getElem?_append_right (Nat.le_refl _), Nat.sub_self]
    exact ⟨h1, h2⟩
/-- a weaver as it is made -/
def WvOk (n : Nat) (x : Wv) : Prop := (0 ≤ x.shaft ∧ x.shaft < n) ∧ (∀ h, h ∈ x.hours → 0 ≤ h ∧ h ≤ 11) ∧ x.hours.Pairwise (· < ·)
def MadeOk (m : PM) : Prop := POk m ∧ ∀ k, k < m.wvs.length → ∀ h, h ∈ (m.wv k).hours → h ≤ 11
theorem made_ok {ss : List Sh} {ws : List Wv} (h1 : 1 ≤ ss.length ∧ ss.length ≤ 9) (h2 : ws.length ≤ 6) (h3 : SsOk ss) (h4 : ∀ x, x ∈ ws → WvOk ss.length x) : MadeOk ⟨ss, ws⟩ := by
  have hw : ∀ k, k < ws.length → WvOk ss.length ((⟨ss, ws⟩ : PM).wv k) := fun k hk => by
    refine h4 _ ?_
    show ws[k]?.getD default ∈ ws
    rw [List.getElem?_eq_getElem hk]
    exact List.getElem_mem _
  refine ⟨⟨h1, h2, fun s hs => ?_, fun k hk h hh => ?_, fun s hs => (h3 s hs).1, fun k hk => (hw k hk).1, fun k hk => (hw k hk).2.2⟩, fun k hk h hh => ((hw k hk).2.1 h hh).2⟩
  · have := (h3 s hs).2
    exact ⟨this.1, by show (ss[s]?.getD default).price ≤ 60; omega⟩
  · have := (hw k hk).2.1 h hh
    omega
set_option maxRecDepth 100000 in
set_option maxHeartbeats 4000000 in
theorem made7_any (b k : Nat) (hk : k ≤ 1000) (wv : Int) (ho : 0 ≤ wv ∧ wv ≤ 6) (w : World) (hs : SpoolAt w b k) :
    Calls Tryz.prog 17 #[.pointer (some ⟨b, 0, none⟩), .int .i64 9, .int .i64 wv] w fun e w' => ∃ v m, e = .returned v ∧ OwnPM w' w.heap.size v m ∧ MadeOk m ∧ m.wvs.length ≤ wv ∧ SpoolAt w' b 2000 ∧ Apart b w w' := by
  obtain ⟨ti, hi, hz0, hz1, hz2⟩ := info_parts info_int
  obtain ⟨ti2, hi2, hy0, hy1, hy2⟩ := info_parts info_shaft
  obtain ⟨ti3, hi3, hx0, hx1, hx2⟩ := info_parts info_weaver
  have hX : Ext w ((w.alloc (.cells zeroPM 26)).alloc (.cells zeroPM 26)) := (Ext.alloc _ _).trans (Ext.alloc _ _)
  have hR := (Blk.new w 26 zeroPM).alloc (.cells zeroPM 26)
  have hM := Blk.new (w.alloc (.cells zeroPM 26)) 26 zeroPM
  rw [World.size_alloc] at hM
  have hsp := hs.ext hX
  have hbl := hs.lt
  have hS : MkP w b w.heap.size (w.heap.size + 1) (w.heap.size + 2) [] [] k (.slice none 0 0) (.slice none 0 0) ((w.alloc (.cells zeroPM 26)).alloc (.cells zeroPM 26)) :=
    ⟨Apart.of_ext hX, hsp, hR, hM, OwnShs.nil, OwnWvs.nil, hbl, Nat.le_refl _, by omega, by omega⟩
  have hfr := Lib.hid (from_any b k (by omega) 1 9 (by omega) 9 (by omega) _ hsp)
  clear hX hR hM hsp
  go_enter Tryz.func17, Tryz.ntmps17
  go_wp2_with fail
  refine hfr.out.mono ?_
  rintro e w1 ⟨L, rfl, hL1, hL2, hs1, ha1⟩
  have hS1 := hS.turn ha1 hs1
  clear hfr ha1 hs1 hS
  obtain ⟨Ln, rfl⟩ : ∃ Ln : Nat, L = (Ln : Int) := ⟨L.toNat, by omega⟩
  go_wp2_with fail
  go_loopw [15] (fun iv wr => ∃ i : Nat, ∃ ss v1, i ≤ Ln ∧ iv = .int .i64 (i : Int) ∧ ss.length = i ∧ Hid (SsOk ss) ∧ Hid (MkP w b w.heap.size (w.heap.size + 1) (w.heap.size + 2) ss [] (k + 1 + 3 * i) v1 (.slice none 0 0) wr)) (fun iv _ => Ln - (intOf iv).toNat)
  case atStart => exact ⟨0, [], _, by omega, rfl, rfl, fun j hj => absurd hj (by simp), Lib.hid hS1⟩
  case round =>
    clear hS1
    obtain ⟨i, ss, v1, hi', rfl, hss, hok, hS⟩ := hrel
    subst hss
    by_cases hlt : ss.length < Ln
    · have Hok := Lib.hid hok.out
      clear hok
      go_upto_region 6 with fail
      go_cut [24] (fun u wx => ∃ q : Bool, u = .bool q ∧ (q = true → 0 < ss.length) ∧ Hid (MkP w b w.heap.size (w.heap.size + 1) (w.heap.size + 2) ss [] (k + 1 + 3 * ss.length + 1) v1 (.slice none 0 0) wx))
      case first =>
        by_cases h0 : ss.length = 0
        · have hd : decide (0 < (ss.length : Int)) = false := by simp [h0]
          have HS := Lib.hid (hS.out.monoK (k' := k + 1 + 3 * ss.length + 1) (by omega))
          clear hS
          go_wp2_with fail
          go_meet
          exact ⟨false, rfl, fun h => absurd h (by simp), HS⟩
        · have hd : decide (0 < (ss.length : Int)) = true := by simp; omega
          have hoc := Lib.hid (once_any b _ (by omega) 4 (by omega) wr hS.out.sp)
          go_wp2_with fail
          refine hoc.out.mono ?_
          rintro e w2 ⟨q, rfl, hs2, ha2⟩
          have HS := Lib.hid (hS.out.turn ha2 hs2)
          clear hoc hs2 ha2 hS
          go_wp2_with fail
          go_meet
          exact ⟨!q, rfl, fun _ => by omega, HS⟩
      case rest =>
      clear hS
      obtain ⟨q, rfl, hq0, hS⟩ := hcut
      go_upto_if 24 with fail
      go_cut [9] (fun u wx => ∃ up : Int, u = .int .i64 up ∧ (-1 ≤ up ∧ up < ss.length) ∧ Hid (MkP w b w.heap.size (w.heap.size + 1) (w.heap.size + 2) ss [] (k + 1 + 3 * ss.length + 2) v1 (.slice none 0 0) wx))
      case first =>
        cases q with
        | false =>
          have HS := Lib.hid (hS.out.monoK (k' := k + 1 + 3 * ss.length + 2) (by omega))
          clear hS
          go_wp2_with fail
          go_meet
          exact ⟨-1, rfl, by omega, HS⟩
        | true =>
          have h0 := hq0 rfl
          have hup := Lib.hid (upto_any b _ (by omega) ((ss.length : Int) - 1) (by omega) ((ss.length : Int) - 1) (by omega) wc hS.out.sp)
          go_wp2_with fail
          refine hup.out.mono ?_
          rintro e w3 ⟨u, rfl, hu1, hu2, hs3, ha3⟩
          have HS := Lib.hid (hS.out.turn ha3 hs3)
          clear hup hs3 ha3 hS
          go_wp2_with fail
          go_meet
          exact ⟨u, rfl, by omega, HS⟩
      case rest =>
        clear hS
        obtain ⟨up, rfl, hup, hS⟩ := hcut
        obtain ⟨A1, c1, rfl⟩ := ownsRow_slice hS.out.o1
        obtain ⟨k0, k1⟩ := hS.out.bm.c2
        have hlb := hS.out.lt
        have hszM := hS.out.bm.lt
        go_upto_region 8 with fail
        refine wp_region_chainG (fun W => W.cell? ⟨w.heap.size + 1, 0, none⟩ = some (.slice A1 ss.length c1)) (k0) 8 [(4, true), (5, true), (6, true), (7, false)] [] (by kernel_rfl) (by kernel_rfl) (by kernel_rfl) ?_
        simp only [List.take, List.drop, fill, Act.put, List.setIfInBounds_toArray, List.set_cons_zero, List.set_cons_succ, Nat.reduceAdd]
        repeat (first
          | refine Floats.mut rfl ?_
          | (apply Floats.float rfl
             · intro x W he hd K Q hK
               try (have he := he (by decide); have k0 : W.cell? _ = some _ := he)
               try simp only [edges, DepsE, List.filter_cons, List.filter_nil, Region.binds, if_true, and_true, true_and, upd, Nat.reduceEqDiff, if_false] at hd
               try simp only [hd] at hK ⊢
               have HK := Lib.hid hK; clear hK
               go_wp2_with fail
               exact HK.out))
        refine Floats.done fun W he hG => ?_
        have hS1 := hS.out.ext he
        have hfr := Lib.hid (upto_any b _ (by omega) 20 (by omega) 20 (by omega) W hS1.sp)
        clear hG k0
        refine Chain.cons _ rfl ?_
        intro x hd K Q hK
        try simp only [edges, DepsE, List.filter_cons, List.filter_nil, Region.binds, if_true, and_true, true_and, upd, Nat.reduceEqDiff, if_false] at hd
        try simp only [hd] at hK ⊢
        clear hd
        have HK := Lib.hid hK; clear hK
        go_wp2_with fail
        refine hfr.out.mono ?_
        rintro e w4 ⟨xv, rfl, hx1, hx2, hs4, ha4⟩
        have hS2 := hS1.turn ha4 hs4
        clear hfr hS1 ha4 hs4
        go_wp2_with fail
        refine HK.out _ _ (fun _ => hS2.bm.c2.1) ?_
        clear HK
        refine Chain.cons _ rfl ?_
        intro x hd K Q hK
        try simp only [edges, DepsE, List.filter_cons, List.filter_nil, Region.binds, if_true, and_true, true_and, upd, Nat.reduceEqDiff, if_false] at hd
        try simp only [hd] at hK ⊢
        clear hd
        have HK := Lib.hid hK; clear hK
        go_wp2_with fail
        refine HK.out _ _ (fun _ => hS2.bm.c2.1) ?_
        clear HK
        refine Chain.cons _ rfl ?_
        intro x hd K Q hK
        try simp only [edges, DepsE, List.filter_cons, List.filter_nil, Region.binds, if_true, and_true, true_and, upd, Nat.reduceEqDiff, if_false] at hd
        try simp only [hd] at hK ⊢
        clear hd
        have HK := Lib.hid hK; clear hK
        have hb5 := Ext.alloc w4 (.cells #[.int .i64 up, .int .i64 xv] 105)
        have hS3 := hS2.ext hb5
        have hsrc := Src.listP w4 [.int .i64 up, .int .i64 xv] 105
        go_wp2_with fail
        refine HK.out _ _ (fun _ => hS3.bm.c2.1) ?_
        clear HK
        refine Chain.cons _ rfl ?_
        intro x hd K Q hK
        try simp only [edges, DepsE, List.filter_cons, List.filter_nil, Region.binds, if_true, and_true, true_and, upd, Nat.reduceEqDiff, if_false] at hd
        try simp only [hd] at hK ⊢
        clear hd
        have HK := Lib.hid hK; clear hK
        have hsz5 := hS3.bm.lt
        refine wpList_app rfl _ _ 23 rfl (w.heap.size + 2) 105 ti2 (.agg #[.int .i64 0, .int .i64 0]) 2 16 Tryz.underlying23 hi2 hy0 hy1 hy2 rfl (by decide) (.slice A1 ss.length c1) ss.length _ rfl hS3.o1 (some ⟨w4.heap.size, 0, none⟩) 1 _ [.int .i64 up, .int .i64 xv] rfl rfl hsrc (fun u hu => by
          simp only [List.mem_cons, List.not_mem_nil, or_false] at hu
          rcases hu with rfl | rfl <;> rfl) (by simp only [maxLen]; omega) (by omega) (by omega) ?_
        intro v' w5 hown hg hblk
        obtain ⟨q0, q1, hS6⟩ := hS3.pushS (x := ⟨up, xv⟩) hown hg
        have HS6 := Lib.hid hS6; clear hS6
        obtain ⟨A9, c9, rfl⟩ := ownsRow_slice hown
        refine HK.out _ _ (fun h => by cases h) ?_
        clear HK
        refine Chain.nil ?_
        simp only [upd, Nat.reduceEqDiff, if_false, if_true]
        go_wp2_with fail
        go_roundw
        case rel =>
          refine ⟨ss.length + 1, ss ++ [⟨up, xv⟩], _, by omega, by go_num, by simp, Lib.hid (Hok.out.push hup ⟨hx1, hx2⟩), Lib.hid (HS6.out.monoK (by omega))⟩
        case measure => simp [intOf]; omega
    · obtain rfl : ss.length = Ln := by omega
      have hup := Lib.hid (upto_any b _ (by omega) wv (by omega) wv (by omega) wr hS.out.sp)
      go_wp2_with fail
      refine hup.out.mono ?_
      rintro e w4 ⟨N, rfl, hN1, hN2, hs4, ha4⟩
      have hS4 := hS.out.turn ha4 hs4
      clear hup hs4 ha4 hS
      obtain ⟨Nn, rfl⟩ : ∃ Nn : Nat, N = (Nn : Int) := ⟨N.toNat, by omega⟩
      go_wp2_with fail
      go_loopw [42] (fun iv wr => ∃ i : Nat, ∃ ws v2, i ≤ Nn ∧ iv = .int .i64 (i : Int) ∧ ws.length = i ∧ Hid (∀ x, x ∈ ws → WvOk ss.length x) ∧ Hid (MkP w b w.heap.size (w.heap.size + 1) (w.heap.size + 2) ss ws (k + 40 + 20 * i) v1 v2 wr)) (fun iv _ => Nn - (intOf iv).toNat)
      case atStart => exact ⟨0, [], _, by omega, rfl, rfl, fun x hx => by simp at hx, Lib.hid (hS4.monoK (by omega))⟩
      case round =>
        clear hS4
        obtain ⟨i, ws, v2, hi', rfl, hws, hwx, hS⟩ := hrel
        subst hws
        by_cases hlt : ws.length < Nn
        · obtain ⟨A1, c1, e1⟩ := ownsRow_slice hS.out.o1
          subst e1
          obtain ⟨k0, -⟩ := hS.out.bm.c2
          have hup := Lib.hid (upto_any b _ (by omega) ((ss.length : Int) - 1) (by omega) ((ss.length : Int) - 1) (by omega) wr hS.out.sp)
          go_wp2_with fail
          refine hup.out.mono ?_
          rintro e w6 ⟨sf, rfl, hf1, hf2, hs6, ha6⟩
          have hS6 := hS.out.turn ha6 hs6
          clear hup hs6 ha6 hS k0
          have hX8 := Ext.alloc w6 (.cells #[.int .i64 sf, .slice none 0 0] 82)
          have hO8 := Blk.new w6 82 #[.int .i64 sf, .slice none 0 0]
          have hA8 : Apart b w6 _ := Apart.of_ext hX8
          have hsp8 := hS6.sp.ext hX8
          have hbs := hS6.bm.lt
          have hblt := hS6.lt
          go_wp2_with fail
          obtain ⟨O, hOe⟩ : ∃ O, w6.heap.size = O := ⟨_, rfl⟩
          rw [hOe] at hO8 ⊢
          generalize w6.alloc _ = W9 at *
          have HOe := Lib.hid hOe; clear hOe
          have HSe := Lib.hid hS6
          clear hX8 hS6
          go_loopw [51] (fun iv wr => ∃ j : Nat, ∃ on v3, j ≤ 12 ∧ iv = .int .i64 (j : Int) ∧ on.length ≤ j ∧ Hid (∀ x, x ∈ on → (0 : Int) ≤ x ∧ x < j) ∧ Hid (on.Pairwise (· < ·)) ∧ Apart b w6 wr ∧ SpoolAt wr b (k + 40 + 20 * ws.length + 1 + j) ∧ Blk wr O 82 #[.int .i64 sf, v3] ∧ OwnI wr (O + 1) 3 v3 on) (fun iv _ => 12 - (intOf iv).toNat)
          case atStart => exact ⟨0, [], _, by omega, rfl, Nat.le_refl _, fun x hx => by simp at hx, List.Pairwise.nil, hA8, hsp8, hO8, OwnI.nil _ _ _⟩
          case round =>
            clear hA8 hsp8 hO8
            obtain ⟨j, on, v3, hj, rfl, honl, honr, honu, hA, hsp, hO, hon⟩ := hrel
            have hszO := hO.lt
            by_cases hltj : j < 12
            · have hoc := Lib.hid (once_any b _ (by omega) 3 (by omega) wr hsp)
              go_wp2_with fail
              refine hoc.out.mono ?_
              rintro e w10 ⟨q, rfl, hs10, ha10⟩
              have hO := hO.apart (by have := HOe.out; omega) ha10
              have hon := hon.apartB (by have := HOe.out; omega) ha10
              have hA := hA.trans ha10
              have hsp := hs10
              clear hoc hs10 ha10
              cases q with
              | false =>
                go_wp2_with fail
                go_roundw
                case rel => exact ⟨j + 1, on, v3, by omega, by go_num, by omega, fun x hx => by have := honr.out x hx; omega, honu, hA, by rw [← Nat.add_assoc]; exact hsp, hO, hon⟩
                case measure => simp [intOf]; omega
              | true =>
                obtain ⟨A3, c3, rfl, r1, r2, r3, r4, r5⟩ := hon.open_
                obtain ⟨p0, p1⟩ := hO.c2
                have hX := Ext.alloc w10 (.cells #[.int .i64 (j : Int)] 3)
                have hsrc := Src.one w10 (.int .i64 (j : Int)) 3
                have honX := hon.ext hX
                have hOX := hO.ext hX
                have hszX := hOX.lt
                have hAX := hA.trans (Apart.of_ext hX)
                have hspX := hsp.ext hX
                have HonX := Lib.hid honX
                clear r3 r4 r5
                have hOe := HOe.out
                have hbO : b < O := by omega
                have Hon11 : ∀ v' w11, w11.ownsRow (O + 1) 3 1 v' (on.length + 1) (on.map (Value.int .i64) ++ [.int .i64 (j : Int)]) → (w10.alloc (.cells #[.int .i64 (j : Int)] 3)).grownBy w11 (Value.slice A3 on.length c3).ownBlock →
                    Blk w11 O 82 #[.int .i64 sf, .slice A3 on.length c3] ∧ Apart b w6 (w11.setCell ⟨O, 1, none⟩ v') ∧ SpoolAt (w11.setCell ⟨O, 1, none⟩ v') b (k + 40 + 20 * ws.length + 1 + j + 1) ∧ Blk (w11.setCell ⟨O, 1, none⟩ v') O 82 #[.int .i64 sf, v'] ∧ OwnI (w11.setCell ⟨O, 1, none⟩ v') (O + 1) 3 v' (on ++ [(j : Int)]) := by
                  intro v' w11 hown hg
                  have hge := fun g hg' => (HonX.out.own_lt g hg').1
                  have hO11 := hOX.grown hg (ownsRow_ne_blk honX hOX (by decide))
                  have hA11 := hAX.grownP hg (fun g hg' => by have := hge g hg'; omega)
                  have hsp11 := hspX.grownP hg (fun g hg' => by have := hge g hg'; omega)
                  have hon11 : OwnI w11 (O + 1) 3 v' (on ++ [(j : Int)]) := by unfold OwnI; rw [List.length_append, List.map_append]; exact hown
                  exact ⟨hO11, hA11.above (by show w6.heap.size ≤ O; omega) _, hsp11.apart hbO ((Apart.refl O w11).set_ 1 _), by simpa using hO11.set_ 1 v', hon11.far hO11 (by decide) 1 v'⟩
                have Hon12 := Lib.hid Hon11
                clear Hon11 hOe
                go_wp2_with (at_builtin; refine wpList_app rfl _ _ 31 rfl (O + 1) 3 ti (.int .i64 0) 1 8 Tryz.underlying31 hi hz0 hz1 hz2 rfl (by decide) (.slice A3 on.length c3) on.length _ rfl honX (some ⟨w10.heap.size, 0, none⟩) 1 1 [.int .i64 (j : Int)] rfl rfl hsrc ?c2 ?c3 ?c4 ?c5 ?_; (case c2 => (intro u hu; rw [List.mem_singleton] at hu; subst hu; rfl)); (case c3 => (unfold maxLen; omega)); (case c4 => omega); (case c5 => omega); intro v' w11 hown hg hblk; obtain ⟨hO11, hrest⟩ := Hon12.out v' w11 hown hg; obtain ⟨A9, c9, rfl⟩ := ownsRow_slice hown; have Hrest := Lib.hid hrest; clear hrest hsrc; obtain ⟨z0, z1⟩ := hO11.c2; have zf := hO11.frozen 1)
                go_roundw
                case rel =>
                  refine ⟨j + 1, on ++ [(j : Int)], _, by omega, by go_num, by rw [List.length_append, List.length_singleton]; omega, ?_, ?_, Hrest.out⟩
                  · intro y hy
                    rcases List.mem_append.1 hy with h | h
                    · have := honr.out y h; omega
                    · rw [List.mem_singleton] at h; subst h; omega
                  · refine List.pairwise_append.2 ⟨honu.out, List.pairwise_singleton _ _, fun x hx y hy => ?_⟩
                    rw [List.mem_singleton] at hy; subst hy
                    exact (honr.out x hx).2
                case measure => simp [intOf]; omega
            · obtain rfl : j = 12 := by omega
              have hS9 := HSe.out.turn hA hsp
              obtain ⟨cs, o1, o2⟩ := hS9.o2
              obtain ⟨A2, c2, rfl⟩ := ownsRow_slice o1
              obtain ⟨A4, c4, rfl, r1, r2, r3, r4, r5⟩ := hon.open_
              obtain ⟨p0, p1⟩ := hO.c2
              obtain ⟨k0, k1⟩ := hS9.bm.c2
              have hX9 := Ext.alloc wr (.cells #[.int .i64 sf, .slice A4 on.length c4] 82)
              have hsrc := Src.listP wr [.int .i64 sf, .slice A4 on.length c4] 82
              have hpO := fun v2' w' => MkP.pushW (W' := w') (v2' := v2') (x := ⟨sf, on⟩) (hS9.ext hX9) (ownsRow_ext2 o1 hX9) (o2.map fun _ _ g => OwnI.ext g hX9) ((hon.ext hX9).mono (by have := HOe.out; omega))
              have o1x := ownsRow_ext2 o1 hX9
              have hszM := (hS9.ext hX9).bm.lt
              have HpO := Lib.hid hpO
              have Honr := Lib.hid honr; have Honu := Lib.hid honu
              clear hpO r3 r4 r5 o2 o1
              go_wp2_with (at_builtin; refine wpList_app rfl _ _ 24 rfl (w.heap.size + 2) 82 ti3 (.agg #[.int .i64 0, .slice none 0 0]) 2 32 Tryz.underlying24 hi3 hx0 hx1 hx2 rfl (by decide) (.slice A2 ws.length c2) ws.length cs rfl o1x (some ⟨wr.heap.size, 0, none⟩) 1 1 [.int .i64 sf, .slice A4 on.length c4] rfl rfl hsrc ?c2 ?c3 ?c4 ?c5 ?_; (case c2 => (intro u hu; simp only [List.mem_cons, List.not_mem_nil, or_false] at hu; rcases hu with rfl | rfl <;> rfl)); (case c3 => (unfold maxLen; omega)); (case c4 => omega); (case c5 => omega); intro v' w12 hown hg hblk; obtain ⟨q0, q1, hS12⟩ := HpO.out v' w12 hown hg; obtain ⟨A9, c9, rfl⟩ := ownsRow_slice hown; have HS12 := Lib.hid hS12; clear hS12 hsrc)
              go_roundw
              case rel =>
                refine ⟨ws.length + 1, ws ++ [⟨sf, on⟩], _, by omega, by go_num, by simp, ?_, Lib.hid (HS12.out.monoK (by omega))⟩
                intro x hx
                rcases List.mem_append.1 hx with h | h
                · exact hwx.out x h
                · rw [List.mem_singleton] at h; subst h
                  exact ⟨⟨hf1, by show sf < _; omega⟩, fun h hh => by have := Honr.out.out h hh; omega, Honu.out.out⟩
              case measure => simp [intOf]; omega
        · obtain rfl : ws.length = Nn := by omega
          have hS9 := hS.out
          obtain ⟨A1, c1, e1⟩ := ownsRow_slice hS9.o1
          obtain ⟨cs0, o1, -⟩ := hS9.o2
          obtain ⟨A2, c2, e2⟩ := ownsRow_slice o1
          subst e1
          subst e2
          obtain ⟨k0, k1⟩ := hS9.bm.c2
          obtain ⟨y0, y1⟩ := hS9.br.c2
          have f0 := hS9.br.frozen 0
          have f1 := hS9.br.frozen 1
          have hap : Apart w.heap.size wr ((wr.setCell ⟨w.heap.size, 0, none⟩ (.slice A1 ss.length c1)).setCell ⟨w.heap.size, 1, none⟩ (.slice A2 ws.length c2)) := ((Apart.refl _ wr).set_ 0 _).set_ 1 _
          have hR9 : Blk ((wr.setCell ⟨w.heap.size, 0, none⟩ (.slice A1 ss.length c1)).setCell ⟨w.heap.size, 1, none⟩ (.slice A2 ws.length c2)) w.heap.size 26 #[.slice A1 ss.length c1, .slice A2 ws.length c2] := by simpa [zeroPM] using (hS9.br.set_ 0 (.slice A1 ss.length c1)).set_ 1 (.slice A2 ws.length c2)
          have hown : OwnPM ((wr.setCell ⟨w.heap.size, 0, none⟩ (.slice A1 ss.length c1)).setCell ⟨w.heap.size, 1, none⟩ (.slice A2 ws.length c2)) w.heap.size (.agg #[.slice A1 ss.length c1, .slice A2 ws.length c2]) ⟨ss, ws⟩ := ⟨_, _, rfl, (hS9.o1.apart (b := w.heap.size) (by omega) hap).mono (by omega), (hS9.o2.apart (b := w.heap.size) (by omega) hap).mono (by omega)⟩
          have hok2 := made_ok (ss := ss) (ws := ws) ⟨by omega, by omega⟩ (by omega) hok.out hwx.out
          have hsp9 := (hS9.sp.apart hbl hap).mono (k' := 2000) (by omega)
          have hap9 := (hS9.ap.above (p := ⟨w.heap.size, 0, none⟩) (Nat.le_refl _) (.slice A1 ss.length c1)).above (p := ⟨w.heap.size, 1, none⟩) (Nat.le_refl _) (.slice A2 ws.length c2)
          have HR9 := Lib.hid hR9
          have Hfin := Lib.hid (And.intro hown (And.intro hok2 (And.intro hsp9 hap9)))
          clear hap hown hok2 hsp9 hap9 hS hS9 hR9 o1
          go_wp2_with fail
          obtain ⟨t0, t1⟩ := HR9.out.c2
          obtain ⟨g1, g2, g3, g4⟩ := Hfin.out
          refine bodyPost_ret (v := .agg #[.slice A1 ss.length c1, .slice A2 ws.length c2]) ?_ rfl ⟨_, ⟨ss, ws⟩, rfl, g1, g2, by show (ws.length : Int) ≤ _; omega, g3, g4⟩
          simp [results, Tryz.results17, go_sem, t0, t1]
end Go.Proofs.Pet
