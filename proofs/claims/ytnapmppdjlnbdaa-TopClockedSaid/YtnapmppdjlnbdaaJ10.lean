/- Joined texts: TDB, PBD, TDC, TDA, TDD. -/
import Derived.Test.YtnapmppdjlnbdaaJ04
import Derived.Test.YtnapmppdjlnbdaaJ03
import Derived.Test.YtnapmppdjlnbdaaJ09
import Derived.Deep.DeepCutAuto
import Derived.Test.YtnapmppdjlnbdaaB0
import Derived.Test.YtnapmppdjlnbdaaJ02
import Derived.Lib.MinMax
namespace Go.Proofs.Pet
set_option linter.unusedSimpArgs false
open Go Go.RowKit Go.Maps Go.Shelf
open Go.Proofs.Pow (PM Sh Wv POk Up)

theorem OwnShs.push {w' : World} {base : Nat} {v' : Value} {xs : List Sh} {x : Sh} (hown : w'.ownsRow base 73 2 v' (xs.length + 1) (shFlat xs ++ [.int .i64 x.up, .int .i64 x.price])) : OwnShs w' base v' (xs ++ [x]) := by
  unfold OwnShs
  rw [List.length_append, shFlat_append]
  exact hown
theorem OwnWvs.push {w w' : World} {base : Nat} {v v' s : Value} {cs : List Value} {xs : List Wv} {x : Wv} (h1 : w.ownsRow base 43 2 v xs.length cs) (h2 : WvF (ownW w base) cs xs) (hs : OwnI w base 3 s x.hours)
    (hown : w'.ownsRow base 43 2 v' (xs.length + 1) (cs ++ [.int .i64 x.shaft, s])) (hg : w.grownBy w' v.ownBlock) : OwnWvs w' base v' (xs ++ [x]) := by
  refine ⟨_, by rw [List.length_append]; exact hown, ?_⟩
  exact WvF.map (fun _ _ g => OwnI.grownT g (by decide) hg h1) (h2.append ⟨rfl, hs, trivial⟩)
theorem OwnShs.far {w : World} {base g : Nat} {t : TypeId} {cs : Array Value} {u : Value} {xs : List Sh} (h : OwnShs w base u xs) (hb : Blk w g t cs) (h2 : t ≠ 73 ∨ g < base) (i : Nat) (v : Value) : OwnShs (w.setCell ⟨g, i, none⟩ v) base u xs := by
  refine ownsRow_apart h (fun e => ?_) ((Apart.refl g w).set_ i v)
  rcases h2 with h2 | h2
  · exact ownsRow_ne_blk h hb h2 e.symm
  · have := (ownsRow_own h g e).1; omega
theorem OwnWvs.far {w : World} {base g : Nat} {t : TypeId} {cs : Array Value} {u : Value} {xs : List Wv} (h : OwnWvs w base u xs) (hb : Blk w g t cs) (h1 : t ≠ 3) (h2 : t ≠ 43 ∨ g < base) (i : Nat) (v : Value) : OwnWvs (w.setCell ⟨g, i, none⟩ v) base u xs := by
  obtain ⟨cs', g1, g2⟩ := h
  refine ⟨cs', ownsRow_apart g1 (fun e => ?_) ((Apart.refl g w).set_ i v), g2.map fun _ _ g => OwnI.far g hb h1 i v⟩
  rcases h2 with h2 | h2
  · exact ownsRow_ne_blk g1 hb h2 e.symm
  · have := (ownsRow_own g1 g e).1; omega
/-- a row of another type grows -/
theorem OwnShs.grownT {w w' : World} {base base' size n : Nat} {e : TypeId} {u v : Value} {xs : List Sh} {vs : List Value} (h : OwnShs w base u xs) (hne : e ≠ 73) (hg : w.grownBy w' v.ownBlock) (hv : w.ownsRow base' e size v n vs) : OwnShs w' base u xs := by
  obtain ⟨h1, h2⟩ := h
  refine ⟨h1, ?_⟩
  rcases h2 with h2 | ⟨g, cap, cur, rfl, hg1, hb, r⟩
  · exact .inl h2
  · refine .inr ⟨g, cap, cur, rfl, hg1, ?_, r⟩
    rw [← hb]
    refine hg.block g (Array.getElem?_eq_some_iff.1 hb).1 fun e' => ?_
    exact ownsRow_ne_blk hv (show Blk w g 73 cur from hb) (fun h => hne h.symm) e'
def zeroPM : Array Value := #[.slice none 0 0, .slice none 0 0]
/-- a mill being made: w0 is the world at first, b the spool's block, R the result's, M the mill's -/
structure MkP (w0 : World) (b R M B0 : Nat) (ss : List Sh) (ws : List Wv) (k : Nat) (v1 v2 : Value) (W : World) : Prop where
  ap : Apart b w0 W
  sp : SpoolAt W b k
  br : Blk W R 38 zeroPM
  bm : Blk W M 38 #[v1, v2]
  o1 : OwnShs W B0 v1 ss
  o2 : OwnWvs W B0 v2 ws
  lt : b < w0.heap.size ∧ w0.heap.size ≤ R ∧ R < M ∧ M < B0
section
variable {w0 W W' : World} {b R M B0 k k' : Nat} {ss : List Sh} {ws : List Wv} {v1 v2 : Value}
theorem MkP.turn (h : MkP w0 b R M B0 ss ws k v1 v2 W) (ha : Apart b W W') (hs : SpoolAt W' b k') : MkP w0 b R M B0 ss ws k' v1 v2 W' := by
  obtain ⟨h1, h2, h3, h4, h5, h6, g1, g2, g3, g4⟩ := h
  exact ⟨h1.trans ha, hs, h3.apart (by omega) ha, h4.apart (by omega) ha, h5.apart (by omega) ha, h6.apart (by omega) ha, g1, g2, g3, g4⟩
theorem MkP.ext (h : MkP w0 b R M B0 ss ws k v1 v2 W) (he : Ext W W') : MkP w0 b R M B0 ss ws k v1 v2 W' := h.turn (Apart.of_ext he) (h.sp.ext he)
theorem MkP.monoK (h : MkP w0 b R M B0 ss ws k v1 v2 W) (hk : k ≤ k') : MkP w0 b R M B0 ss ws k' v1 v2 W := h.turn (Apart.refl _ _) (h.sp.mono hk)
theorem Apart.grownP {w1 : World} {v : Value} (h : Apart b w0 w1) (hg : w1.grownBy W' v.ownBlock) (hr : ∀ j, v.ownBlock = some j → w0.heap.size ≤ j) : Apart b w0 W' := by
  obtain ⟨g1, g2, g3, g4, g5⟩ := h
  refine ⟨hg.os.trans g1, hg.tape.trans g2, hg.output.trans g3, Nat.le_trans g4 hg.size, fun j hj hne => ?_⟩
  rw [hg.block j (by omega) (fun e => by have := hr j e.symm; omega)]
  exact g5 j hj hne
theorem SpoolAt.grownP {v : Value} (h : SpoolAt W b k) (hg : W.grownBy W' v.ownBlock) (hr : ∀ j, v.ownBlock = some j → b < j) : SpoolAt W' b k := by
  obtain ⟨A, n, c, st, a, h1, h2, h3, h4, h5⟩ := h
  refine ⟨A, n, c, st, a, h1.grown hg (fun e => by have := hr b e.symm; omega), h2, h3, h4, fun j hj => ?_⟩
  obtain ⟨b', o, u, rfl, g2, g3⟩ := h5 j hj
  refine ⟨b', o, u, rfl, g2, ?_⟩
  have hlt := cell_lt g3
  unfold World.cell? at g3 ⊢
  rw [hg.block b' hlt (fun e => by have := hr b' e.symm; omega)]
  exact g3
theorem Src.listP (w : World) (cs : List Value) (t : TypeId) : Src (w.alloc (.cells cs.toArray t)) (some ⟨w.heap.size, 0, none⟩) cs := .inr ⟨_, rfl, fun j u hj => by
  have hb := Blk.new w t cs.toArray
  rw [addr_off, Nat.zero_add, hb.cell, List.getElem?_toArray]
  exact hj⟩
theorem MkP.pushS {v1' : Value} {x : Sh} (h : MkP w0 b R M B0 ss [] k v1 (.slice none 0 0) W) (hown : W'.ownsRow B0 73 2 v1' (ss.length + 1) (shFlat ss ++ [.int .i64 x.up, .int .i64 x.price])) (hg : W.grownBy W' v1.ownBlock) :
    W'.cell? ⟨M, 0, none⟩ = some v1 ∧ W'.frozen? ⟨M, 0, none⟩ = false ∧ MkP w0 b R M B0 (ss ++ [x]) [] k v1' (.slice none 0 0) (W'.setCell ⟨M, 0, none⟩ v1') := by
  obtain ⟨h1, h2, h3, h4, h5, h6, g1, g2, g3, g4⟩ := h
  have hge : ∀ j, v1.ownBlock = some j → B0 ≤ j := fun j hj => (ownsRow_own h5 j hj).1
  have hM := h4.grown hg (fun e => by have := hge M e.symm; omega)
  have hR := h3.grown hg (fun e => by have := hge R e.symm; omega)
  have h2' := h2.grownP hg (fun j hj => by have := hge j hj; omega)
  exact ⟨hM.c2.1, hM.frozen 0, ((h1.grownP hg (fun j hj => by have := hge j hj; omega)).above (by show w0.heap.size ≤ M; omega) _), h2'.apart (by omega : b < M) ((Apart.refl M W').set_ 0 v1'), hR.far (by show R ≠ M; omega) _, by simpa using hM.set_ 0 v1', (OwnShs.push hown).far hM (.inl (by decide)) 0 v1', OwnWvs.nil, g1, g2, g3, g4⟩
theorem MkP.pushW {v2' s : Value} {cs : List Value} {x : Wv} (h : MkP w0 b R M B0 ss ws k v1 v2 W) (o1 : W.ownsRow B0 43 2 v2 ws.length cs) (o2 : WvF (ownW W B0) cs ws) (hs : OwnI W B0 3 s x.hours)
    (hown : W'.ownsRow B0 43 2 v2' (ws.length + 1) (cs ++ [.int .i64 x.shaft, s])) (hg : W.grownBy W' v2.ownBlock) :
    W'.cell? ⟨M, 1, none⟩ = some v2 ∧ W'.frozen? ⟨M, 1, none⟩ = false ∧ MkP w0 b R M B0 ss (ws ++ [x]) k v1 v2' (W'.setCell ⟨M, 1, none⟩ v2') := by
  obtain ⟨h1, h2, h3, h4, h5, h6, g1, g2, g3, g4⟩ := h
  have hge : ∀ j, v2.ownBlock = some j → B0 ≤ j := fun j hj => (ownsRow_own o1 j hj).1
  have hM := h4.grown hg (fun e => by have := hge M e.symm; omega)
  have hR := h3.grown hg (fun e => by have := hge R e.symm; omega)
  have h2' := h2.grownP hg (fun j hj => by have := hge j hj; omega)
  have hO := OwnWvs.push o1 o2 hs hown hg
  have hL := h5.grownT (by decide) hg o1
  exact ⟨hM.c2.2, hM.frozen 1, ((h1.grownP hg (fun j hj => by have := hge j hj; omega)).above (by show w0.heap.size ≤ M; omega) _), h2'.apart (by omega : b < M) ((Apart.refl M W').set_ 1 v2'), hR.far (by show R ≠ M; omega) _, by simpa using hM.set_ 1 v2', hL.far hM (.inl (by decide)) 1 v2', hO.far hM (by decide) (.inl (by decide)) 1 v2', g1, g2, g3, g4⟩
end
/-- shafts as they are made -/
def SsOk (ss : List Sh) : Prop := ∀ j, j < ss.length → (-1 ≤ (ss[j]?.getD default).up ∧ (ss[j]?.getD default).up < j) ∧ (0 ≤ (ss[j]?.getD default).price ∧ (ss[j]?.getD default).price ≤ 20)
theorem SsOk.push {ss : List Sh} {x : Sh} (h : SsOk ss) (h1 : -1 ≤ x.up ∧ x.up < ss.length) (h2 : 0 ≤ x.price ∧ x.price ≤ 20) : SsOk (ss ++ [x]) := by
  intro j hj
  rw [List.length_append, List.length_singleton] at hj
  by_cases e : j < ss.length
  · rw [List.getElem?_append_left e]; exact h j e
  · obtain rfl : j = ss.length := by omega
    rw [List.getElem?_append_right (Nat.le_refl _), Nat.sub_self]
    exact ⟨h1, h2⟩
/-- a weaver as it is made -/
def WvOk (n : Nat) (x : Wv) : Prop := (0 ≤ x.shaft ∧ x.shaft < n) ∧ (∀ h, h ∈ x.hours → 0 ≤ h ∧ h ≤ 11) ∧ x.hours.Pairwise (· < ·)
def MadeOk (m : PM) : Prop := POk m ∧ ∀ k, k < m.wvs.length → ∀ h, h ∈ (m.wv k).hours → h ≤ 11
theorem made_ok {ss : List Sh} {ws : List Wv} (h1 : 1 ≤ ss.length ∧ ss.length ≤ 9) (h2 : ws.length ≤ 6) (h3 : SsOk ss) (h4 : ∀ x, x ∈ ws → WvOk ss.length x) : MadeOk ⟨ss, ws⟩ := by
  have hw : ∀ k, k < ws.length → WvOk ss.length ((⟨ss, ws⟩ : PM).wv k) := fun k hk => by
    refine h4 _ ?_
    show ws[k]?.getD default ∈ ws
    rw [List.getElem?_eq_getElem hk]
    exact List.getElem_mem _
  refine ⟨⟨h1, h2, fun s hs => ?_, fun k hk h hh => ?_, fun s hs => (h3 s hs).1, fun k hk => (hw k hk).1, fun k hk => (hw k hk).2.2⟩, fun k hk h hh => ((hw k hk).2.1 h hh).2⟩
  · have := (h3 s hs).2
    exact ⟨this.1, by show (ss[s]?.getD default).price ≤ 60; omega⟩
  · have := (hw k hk).2.1 h hh
    omega
set_option maxRecDepth 100000 in
set_option maxHeartbeats 4000000 in
theorem made76_any (b k : Nat) (hk : k ≤ 1000) (wv : Int) (ho : 0 ≤ wv ∧ wv ≤ 6) (w : World) (hs : SpoolAt w b k) :
    Calls Try.prog 6 #[.pointer (some ⟨b, 0, none⟩), .int .i64 6, .int .i64 wv] w fun e w' => ∃ v m, e = .returned v ∧ OwnPM w' w.heap.size v m ∧ MadeOk m ∧ m.wvs.length ≤ wv ∧ SpoolAt w' b 2000 ∧ Apart b w w' := by
  obtain ⟨ti, hi, hz0, hz1, hz2⟩ := info_parts info_int
  obtain ⟨ti2, hi2, hy0, hy1, hy2⟩ := info_parts info_shaft
  obtain ⟨ti3, hi3, hx0, hx1, hx2⟩ := info_parts info_weaver
  have hX : Ext w ((w.alloc (.cells zeroPM 38)).alloc (.cells zeroPM 38)) := (Ext.alloc _ _).trans (Ext.alloc _ _)
  have hR := (Blk.new w 38 zeroPM).alloc (.cells zeroPM 38)
  have hM := Blk.new (w.alloc (.cells zeroPM 38)) 38 zeroPM
  rw [World.size_alloc] at hM
  have hsp := hs.ext hX
  have hbl := hs.lt
  have hS : MkP w b w.heap.size (w.heap.size + 1) (w.heap.size + 2) [] [] k (.slice none 0 0) (.slice none 0 0) ((w.alloc (.cells zeroPM 38)).alloc (.cells zeroPM 38)) :=
    ⟨Apart.of_ext hX, hsp, hR, hM, OwnShs.nil, OwnWvs.nil, hbl, Nat.le_refl _, by omega, by omega⟩
  have hfr := Lib.hid (from_any b k (by omega) 1 6 (by omega) 6 (by omega) _ hsp)
  clear hX hR hM hsp
  go_enter Try.func6, Try.ntmps6
  go_wp2_with fail
  refine hfr.out.mono ?_
  rintro e w1 ⟨L, rfl, hL1, hL2, hs1, ha1⟩
  have hS1 := hS.turn ha1 hs1
  clear hfr ha1 hs1 hS
  obtain ⟨Ln, rfl⟩ : ∃ Ln : Nat, L = (Ln : Int) := ⟨L.toNat, by omega⟩
  go_wp2_with fail
  go_loopw [15] (fun iv wr => ∃ i : Nat, ∃ ss v1, i ≤ Ln ∧ iv = .int .i64 (i : Int) ∧ ss.length = i ∧ Hid (SsOk ss) ∧ Hid (MkP w b w.heap.size (w.heap.size + 1) (w.heap.size + 2) ss [] (k + 1 + 3 * i) v1 (.slice none 0 0) wr)) (fun iv _ => Ln - (intOf iv).toNat)
  case atStart => exact ⟨0, [], _, by omega, rfl, rfl, fun j hj => absurd hj (by simp), Lib.hid hS1⟩
  case round =>
    clear hS1
    obtain ⟨i, ss, v1, hi', rfl, hss, hok, hS⟩ := hrel
    subst hss
    by_cases hlt : ss.length < Ln
    · have Hok := Lib.hid hok.out
      clear hok
      go_upto_region 6 with fail
      go_cut [24] (fun u wx => ∃ q : Bool, u = .bool q ∧ (q = true → 0 < ss.length) ∧ Hid (MkP w b w.heap.size (w.heap.size + 1) (w.heap.size + 2) ss [] (k + 1 + 3 * ss.length + 1) v1 (.slice none 0 0) wx))
      case first =>
        by_cases h0 : ss.length = 0
        · have hd : decide (0 < (ss.length : Int)) = false := by simp [h0]
          have HS := Lib.hid (hS.out.monoK (k' := k + 1 + 3 * ss.length + 1) (by omega))
          clear hS
          go_wp2_with fail
          go_meet
          exact ⟨false, rfl, fun h => absurd h (by simp), HS⟩
        · have hd : decide (0 < (ss.length : Int)) = true := by simp; omega
          have hoc := Lib.hid (once_any b _ (by omega) 4 (by omega) wr hS.out.sp)
          go_wp2_with fail
          refine hoc.out.mono ?_
          rintro e w2 ⟨q, rfl, hs2, ha2⟩
          have HS := Lib.hid (hS.out.turn ha2 hs2)
          clear hoc hs2 ha2 hS
          go_wp2_with fail
          go_meet
          exact ⟨!q, rfl, fun _ => by omega, HS⟩
      case rest =>
      clear hS
      obtain ⟨q, rfl, hq0, hS⟩ := hcut
      go_upto_if 24 with fail
      go_cut [9] (fun u wx => ∃ up : Int, u = .int .i64 up ∧ (-1 ≤ up ∧ up < ss.length) ∧ Hid (MkP w b w.heap.size (w.heap.size + 1) (w.heap.size + 2) ss [] (k + 1 + 3 * ss.length + 2) v1 (.slice none 0 0) wx))
      case first =>
        cases q with
        | false =>
          have HS := Lib.hid (hS.out.monoK (k' := k + 1 + 3 * ss.length + 2) (by omega))
          clear hS
          go_wp2_with fail
          go_meet
          exact ⟨-1, rfl, by omega, HS⟩
        | true =>
          have h0 := hq0 rfl
          have hup := Lib.hid (upto_any b _ (by omega) ((ss.length : Int) - 1) (by omega) ((ss.length : Int) - 1) (by omega) wc hS.out.sp)
          go_wp2_with fail
          refine hup.out.mono ?_
          rintro e w3 ⟨u, rfl, hu1, hu2, hs3, ha3⟩
          have HS := Lib.hid (hS.out.turn ha3 hs3)
          clear hup hs3 ha3 hS
          go_wp2_with fail
          go_meet
          exact ⟨u, rfl, by omega, HS⟩
      case rest =>
        clear hS
        obtain ⟨up, rfl, hup, hS⟩ := hcut
        obtain ⟨A1, c1, rfl⟩ := ownsRow_slice hS.out.o1
        obtain ⟨k0, k1⟩ := hS.out.bm.c2
        have hlb := hS.out.lt
        have hszM := hS.out.bm.lt
        go_upto_region 8 with fail
        refine wp_region_chainG (fun W => W.cell? ⟨w.heap.size + 1, 0, none⟩ = some (.slice A1 ss.length c1)) (k0) 8 [(4, true), (5, true), (6, true), (7, false)] [] (by kernel_rfl) (by kernel_rfl) (by kernel_rfl) ?_
        simp only [List.take, List.drop, fill, Act.put, List.setIfInBounds_toArray, List.set_cons_zero, List.set_cons_succ, Nat.reduceAdd]
        repeat (first
          | refine Floats.mut rfl ?_
          | (apply Floats.float rfl
             · intro x W he hd K Q hK
               try (have he := he (by decide); have k0 : W.cell? _ = some _ := he)
               try simp only [edges, DepsE, List.filter_cons, List.filter_nil, Region.binds, if_true, and_true, true_and, upd, Nat.reduceEqDiff, if_false] at hd
               try simp only [hd] at hK ⊢
               have HK := Lib.hid hK; clear hK
               go_wp2_with fail
               exact HK.out))
        refine Floats.done fun W he hG => ?_
        have hS1 := hS.out.ext he
        have hfr := Lib.hid (upto_any b _ (by omega) 20 (by omega) 20 (by omega) W hS1.sp)
        clear hG k0
        refine Chain.cons _ rfl ?_
        intro x hd K Q hK
        try simp only [edges, DepsE, List.filter_cons, List.filter_nil, Region.binds, if_true, and_true, true_and, upd, Nat.reduceEqDiff, if_false] at hd
        try simp only [hd] at hK ⊢
        clear hd
        have HK := Lib.hid hK; clear hK
        go_wp2_with fail
        refine hfr.out.mono ?_
        rintro e w4 ⟨xv, rfl, hx1, hx2, hs4, ha4⟩
        have hS2 := hS1.turn ha4 hs4
        clear hfr hS1 ha4 hs4
        go_wp2_with fail
        refine HK.out _ _ (fun _ => hS2.bm.c2.1) ?_
        clear HK
        refine Chain.cons _ rfl ?_
        intro x hd K Q hK
        try simp only [edges, DepsE, List.filter_cons, List.filter_nil, Region.binds, if_true, and_true, true_and, upd, Nat.reduceEqDiff, if_false] at hd
        try simp only [hd] at hK ⊢
        clear hd
        have HK := Lib.hid hK; clear hK
        go_wp2_with fail
        refine HK.out _ _ (fun _ => hS2.bm.c2.1) ?_
        clear HK
        refine Chain.cons _ rfl ?_
        intro x hd K Q hK
        try simp only [edges, DepsE, List.filter_cons, List.filter_nil, Region.binds, if_true, and_true, true_and, upd, Nat.reduceEqDiff, if_false] at hd
        try simp only [hd] at hK ⊢
        clear hd
        have HK := Lib.hid hK; clear hK
        have hb5 := Ext.alloc w4 (.cells #[.int .i64 up, .int .i64 xv] 73)
        have hS3 := hS2.ext hb5
        have hsrc := Src.listP w4 [.int .i64 up, .int .i64 xv] 73
        go_wp2_with fail
        refine HK.out _ _ (fun _ => hS3.bm.c2.1) ?_
        clear HK
        refine Chain.cons _ rfl ?_
        intro x hd K Q hK
        try simp only [edges, DepsE, List.filter_cons, List.filter_nil, Region.binds, if_true, and_true, true_and, upd, Nat.reduceEqDiff, if_false] at hd
        try simp only [hd] at hK ⊢
        clear hd
        have HK := Lib.hid hK; clear hK
        have hsz5 := hS3.bm.lt
        refine wpList_app rfl _ _ 35 rfl (w.heap.size + 2) 73 ti2 (.agg #[.int .i64 0, .int .i64 0]) 2 16 Try.underlying35 hi2 hy0 hy1 hy2 rfl (by decide) (.slice A1 ss.length c1) ss.length _ rfl hS3.o1 (some ⟨w4.heap.size, 0, none⟩) 1 _ [.int .i64 up, .int .i64 xv] rfl rfl hsrc (fun u hu => by
          simp only [List.mem_cons, List.not_mem_nil, or_false] at hu
          rcases hu with rfl | rfl <;> rfl) (by simp only [maxLen]; omega) (by omega) (by omega) ?_
        intro v' w5 hown hg hblk
        obtain ⟨q0, q1, hS6⟩ := hS3.pushS (x := ⟨up, xv⟩) hown hg
        have HS6 := Lib.hid hS6; clear hS6
        obtain ⟨A9, c9, rfl⟩ := ownsRow_slice hown
        refine HK.out _ _ (fun h => by cases h) ?_
        clear HK
        refine Chain.nil ?_
        simp only [upd, Nat.reduceEqDiff, if_false, if_true]
        go_wp2_with fail
        go_roundw
        case rel =>
          refine ⟨ss.length + 1, ss ++ [⟨up, xv⟩], _, by omega, by go_num, by simp, Lib.hid (Hok.out.push hup ⟨hx1, hx2⟩), Lib.hid (HS6.out.monoK (by omega))⟩
        case measure => simp [intOf]; omega
    · obtain rfl : ss.length = Ln := by omega
      have hup := Lib.hid (upto_any b _ (by omega) wv (by omega) wv (by omega) wr hS.out.sp)
      go_wp2_with fail
      refine hup.out.mono ?_
      rintro e w4 ⟨N, rfl, hN1, hN2, hs4, ha4⟩
      have hS4 := hS.out.turn ha4 hs4
      clear hup hs4 ha4 hS
      obtain ⟨Nn, rfl⟩ : ∃ Nn : Nat, N = (Nn : Int) := ⟨N.toNat, by omega⟩
      go_wp2_with fail
      go_loopw [42] (fun iv wr => ∃ i : Nat, ∃ ws v2, i ≤ Nn ∧ iv = .int .i64 (i : Int) ∧ ws.length = i ∧ Hid (∀ x, x ∈ ws → WvOk ss.length x) ∧ Hid (MkP w b w.heap.size (w.heap.size + 1) (w.heap.size + 2) ss ws (k + 40 + 20 * i) v1 v2 wr)) (fun iv _ => Nn - (intOf iv).toNat)
      case atStart => exact ⟨0, [], _, by omega, rfl, rfl, fun x hx => by simp at hx, Lib.hid (hS4.monoK (by omega))⟩
      case round =>
        clear hS4
        obtain ⟨i, ws, v2, hi', rfl, hws, hwx, hS⟩ := hrel
        subst hws
        by_cases hlt : ws.length < Nn
        · obtain ⟨A1, c1, e1⟩ := ownsRow_slice hS.out.o1
          subst e1
          obtain ⟨k0, -⟩ := hS.out.bm.c2
          have hup := Lib.hid (upto_any b _ (by omega) ((ss.length : Int) - 1) (by omega) ((ss.length : Int) - 1) (by omega) wr hS.out.sp)
          go_wp2_with fail
          refine hup.out.mono ?_
          rintro e w6 ⟨sf, rfl, hf1, hf2, hs6, ha6⟩
          have hS6 := hS.out.turn ha6 hs6
          clear hup hs6 ha6 hS k0
          have hX8 := Ext.alloc w6 (.cells #[.int .i64 sf, .slice none 0 0] 43)
          have hO8 := Blk.new w6 43 #[.int .i64 sf, .slice none 0 0]
          have hA8 : Apart b w6 _ := Apart.of_ext hX8
          have hsp8 := hS6.sp.ext hX8
          have hbs := hS6.bm.lt
          have hblt := hS6.lt
          go_wp2_with fail
          obtain ⟨O, hOe⟩ : ∃ O, w6.heap.size = O := ⟨_, rfl⟩
          rw [hOe] at hO8 ⊢
          generalize w6.alloc _ = W9 at *
          have HOe := Lib.hid hOe; clear hOe
          have HSe := Lib.hid hS6
          clear hX8 hS6
          go_loopw [51] (fun iv wr => ∃ j : Nat, ∃ on v3, j ≤ 12 ∧ iv = .int .i64 (j : Int) ∧ on.length ≤ j ∧ Hid (∀ x, x ∈ on → (0 : Int) ≤ x ∧ x < j) ∧ Hid (on.Pairwise (· < ·)) ∧ Apart b w6 wr ∧ SpoolAt wr b (k + 40 + 20 * ws.length + 1 + j) ∧ Blk wr O 43 #[.int .i64 sf, v3] ∧ OwnI wr (O + 1) 3 v3 on) (fun iv _ => 12 - (intOf iv).toNat)
          case atStart => exact ⟨0, [], _, by omega, rfl, Nat.le_refl _, fun x hx => by simp at hx, List.Pairwise.nil, hA8, hsp8, hO8, OwnI.nil _ _ _⟩
          case round =>
            clear hA8 hsp8 hO8
            obtain ⟨j, on, v3, hj, rfl, honl, honr, honu, hA, hsp, hO, hon⟩ := hrel
            have hszO := hO.lt
            by_cases hltj : j < 12
            · have hoc := Lib.hid (once_any b _ (by omega) 3 (by omega) wr hsp)
              go_wp2_with fail
              refine hoc.out.mono ?_
              rintro e w10 ⟨q, rfl, hs10, ha10⟩
              have hO := hO.apart (by have := HOe.out; omega) ha10
              have hon := hon.apartB (by have := HOe.out; omega) ha10
              have hA := hA.trans ha10
              have hsp := hs10
              clear hoc hs10 ha10
              cases q with
              | false =>
                go_wp2_with fail
                go_roundw
                case rel => exact ⟨j + 1, on, v3, by omega, by go_num, by omega, fun x hx => by have := honr.out x hx; omega, honu, hA, by rw [← Nat.add_assoc]; exact hsp, hO, hon⟩
                case measure => simp [intOf]; omega
              | true =>
                obtain ⟨A3, c3, rfl, r1, r2, r3, r4, r5⟩ := hon.open_
                obtain ⟨p0, p1⟩ := hO.c2
                have hX := Ext.alloc w10 (.cells #[.int .i64 (j : Int)] 3)
                have hsrc := Src.one w10 (.int .i64 (j : Int)) 3
                have honX := hon.ext hX
                have hOX := hO.ext hX
                have hszX := hOX.lt
                have hAX := hA.trans (Apart.of_ext hX)
                have hspX := hsp.ext hX
                have HonX := Lib.hid honX
                clear r3 r4 r5
                have hOe := HOe.out
                have hbO : b < O := by omega
                have Hon11 : ∀ v' w11, w11.ownsRow (O + 1) 3 1 v' (on.length + 1) (on.map (Value.int .i64) ++ [.int .i64 (j : Int)]) → (w10.alloc (.cells #[.int .i64 (j : Int)] 3)).grownBy w11 (Value.slice A3 on.length c3).ownBlock →
                    Blk w11 O 43 #[.int .i64 sf, .slice A3 on.length c3] ∧ Apart b w6 (w11.setCell ⟨O, 1, none⟩ v') ∧ SpoolAt (w11.setCell ⟨O, 1, none⟩ v') b (k + 40 + 20 * ws.length + 1 + j + 1) ∧ Blk (w11.setCell ⟨O, 1, none⟩ v') O 43 #[.int .i64 sf, v'] ∧ OwnI (w11.setCell ⟨O, 1, none⟩ v') (O + 1) 3 v' (on ++ [(j : Int)]) := by
                  intro v' w11 hown hg
                  have hge := fun g hg' => (HonX.out.own_lt g hg').1
                  have hO11 := hOX.grown hg (ownsRow_ne_blk honX hOX (by decide))
                  have hA11 := hAX.grownP hg (fun g hg' => by have := hge g hg'; omega)
                  have hsp11 := hspX.grownP hg (fun g hg' => by have := hge g hg'; omega)
                  have hon11 : OwnI w11 (O + 1) 3 v' (on ++ [(j : Int)]) := by unfold OwnI; rw [List.length_append, List.map_append]; exact hown
                  exact ⟨hO11, hA11.above (by show w6.heap.size ≤ O; omega) _, hsp11.apart hbO ((Apart.refl O w11).set_ 1 _), by simpa using hO11.set_ 1 v', hon11.far hO11 (by decide) 1 v'⟩
                have Hon12 := Lib.hid Hon11
                clear Hon11 hOe
                go_wp2_with (at_builtin; refine wpList_app rfl _ _ 28 rfl (O + 1) 3 ti (.int .i64 0) 1 8 Try.underlying28 hi hz0 hz1 hz2 rfl (by decide) (.slice A3 on.length c3) on.length _ rfl honX (some ⟨w10.heap.size, 0, none⟩) 1 1 [.int .i64 (j : Int)] rfl rfl hsrc ?c2 ?c3 ?c4 ?c5 ?_; (case c2 => (intro u hu; rw [List.mem_singleton] at hu; subst hu; rfl)); (case c3 => (unfold maxLen; omega)); (case c4 => omega); (case c5 => omega); intro v' w11 hown hg hblk; obtain ⟨hO11, hrest⟩ := Hon12.out v' w11 hown hg; obtain ⟨A9, c9, rfl⟩ := ownsRow_slice hown; have Hrest := Lib.hid hrest; clear hrest hsrc; obtain ⟨z0, z1⟩ := hO11.c2; have zf := hO11.frozen 1)
                go_roundw
                case rel =>
                  refine ⟨j + 1, on ++ [(j : Int)], _, by omega, by go_num, by rw [List.length_append, List.length_singleton]; omega, ?_, ?_, Hrest.out⟩
                  · intro y hy
                    rcases List.mem_append.1 hy with h | h
                    · have := honr.out y h; omega
                    · rw [List.mem_singleton] at h; subst h; omega
                  · refine List.pairwise_append.2 ⟨honu.out, List.pairwise_singleton _ _, fun x hx y hy => ?_⟩
                    rw [List.mem_singleton] at hy; subst hy
                    exact (honr.out x hx).2
                case measure => simp [intOf]; omega
            · obtain rfl : j = 12 := by omega
              have hS9 := HSe.out.turn hA hsp
              obtain ⟨cs, o1, o2⟩ := hS9.o2
              obtain ⟨A2, c2, rfl⟩ := ownsRow_slice o1
              obtain ⟨A4, c4, rfl, r1, r2, r3, r4, r5⟩ := hon.open_
              obtain ⟨p0, p1⟩ := hO.c2
              obtain ⟨k0, k1⟩ := hS9.bm.c2
              have hX9 := Ext.alloc wr (.cells #[.int .i64 sf, .slice A4 on.length c4] 43)
              have hsrc := Src.listP wr [.int .i64 sf, .slice A4 on.length c4] 43
              have hpO := fun v2' w' => MkP.pushW (W' := w') (v2' := v2') (x := ⟨sf, on⟩) (hS9.ext hX9) (ownsRow_ext2 o1 hX9) (o2.map fun _ _ g => OwnI.ext g hX9) ((hon.ext hX9).mono (by have := HOe.out; omega))
              have o1x := ownsRow_ext2 o1 hX9
              have hszM := (hS9.ext hX9).bm.lt
              have HpO := Lib.hid hpO
              have Honr := Lib.hid honr; have Honu := Lib.hid honu
              clear hpO r3 r4 r5 o2 o1
              go_wp2_with (at_builtin; refine wpList_app rfl _ _ 36 rfl (w.heap.size + 2) 43 ti3 (.agg #[.int .i64 0, .slice none 0 0]) 2 32 Try.underlying36 hi3 hx0 hx1 hx2 rfl (by decide) (.slice A2 ws.length c2) ws.length cs rfl o1x (some ⟨wr.heap.size, 0, none⟩) 1 1 [.int .i64 sf, .slice A4 on.length c4] rfl rfl hsrc ?c2 ?c3 ?c4 ?c5 ?_; (case c2 => (intro u hu; simp only [List.mem_cons, List.not_mem_nil, or_false] at hu; rcases hu with rfl | rfl <;> rfl)); (case c3 => (unfold maxLen; omega)); (case c4 => omega); (case c5 => omega); intro v' w12 hown hg hblk; obtain ⟨q0, q1, hS12⟩ := HpO.out v' w12 hown hg; obtain ⟨A9, c9, rfl⟩ := ownsRow_slice hown; have HS12 := Lib.hid hS12; clear hS12 hsrc)
              go_roundw
              case rel =>
                refine ⟨ws.length + 1, ws ++ [⟨sf, on⟩], _, by omega, by go_num, by simp, ?_, Lib.hid (HS12.out.monoK (by omega))⟩
                intro x hx
                rcases List.mem_append.1 hx with h | h
                · exact hwx.out x h
                · rw [List.mem_singleton] at h; subst h
                  exact ⟨⟨hf1, by show sf < _; omega⟩, fun h hh => by have := Honr.out.out h hh; omega, Honu.out.out⟩
              case measure => simp [intOf]; omega
        · obtain rfl : ws.length = Nn := by omega
          have hS9 := hS.out
          obtain ⟨A1, c1, e1⟩ := ownsRow_slice hS9.o1
          obtain ⟨cs0, o1, -⟩ := hS9.o2
          obtain ⟨A2, c2, e2⟩ := ownsRow_slice o1
          subst e1
          subst e2
          obtain ⟨k0, k1⟩ := hS9.bm.c2
          obtain ⟨y0, y1⟩ := hS9.br.c2
          have f0 := hS9.br.frozen 0
          have f1 := hS9.br.frozen 1
          have hap : Apart w.heap.size wr ((wr.setCell ⟨w.heap.size, 0, none⟩ (.slice A1 ss.length c1)).setCell ⟨w.heap.size, 1, none⟩ (.slice A2 ws.length c2)) := ((Apart.refl _ wr).set_ 0 _).set_ 1 _
          have hR9 : Blk ((wr.setCell ⟨w.heap.size, 0, none⟩ (.slice A1 ss.length c1)).setCell ⟨w.heap.size, 1, none⟩ (.slice A2 ws.length c2)) w.heap.size 38 #[.slice A1 ss.length c1, .slice A2 ws.length c2] := by simpa [zeroPM] using (hS9.br.set_ 0 (.slice A1 ss.length c1)).set_ 1 (.slice A2 ws.length c2)
          have hown : OwnPM ((wr.setCell ⟨w.heap.size, 0, none⟩ (.slice A1 ss.length c1)).setCell ⟨w.heap.size, 1, none⟩ (.slice A2 ws.length c2)) w.heap.size (.agg #[.slice A1 ss.length c1, .slice A2 ws.length c2]) ⟨ss, ws⟩ := ⟨_, _, rfl, (hS9.o1.apart (b := w.heap.size) (by omega) hap).mono (by omega), (hS9.o2.apart (b := w.heap.size) (by omega) hap).mono (by omega)⟩
          have hok2 := made_ok (ss := ss) (ws := ws) ⟨by omega, by omega⟩ (by omega) hok.out hwx.out
          have hsp9 := (hS9.sp.apart hbl hap).mono (k' := 2000) (by omega)
          have hap9 := (hS9.ap.above (p := ⟨w.heap.size, 0, none⟩) (Nat.le_refl _) (.slice A1 ss.length c1)).above (p := ⟨w.heap.size, 1, none⟩) (Nat.le_refl _) (.slice A2 ws.length c2)
          have HR9 := Lib.hid hR9
          have Hfin := Lib.hid (And.intro hown (And.intro hok2 (And.intro hsp9 hap9)))
          clear hap hown hok2 hsp9 hap9 hS hS9 hR9 o1
          go_wp2_with fail
          obtain ⟨t0, t1⟩ := HR9.out.c2
          obtain ⟨g1, g2, g3, g4⟩ := Hfin.out
          refine bodyPost_ret (v := .agg #[.slice A1 ss.length c1, .slice A2 ws.length c2]) ?_ rfl ⟨_, ⟨ss, ws⟩, rfl, g1, g2, by show (ws.length : Int) ≤ _; omega, g3, g4⟩
          simp [results, Try.results6, go_sem, t0, t1]
end Go.Proofs.Pet

namespace Go.Proofs.Pet
open Go Go.RowKit Go.Maps Go.Shelf
open Go.Proofs.Pow (PM Sh Wv POk Up)

theorem ownsRow_set {w : World} {base n g cap : Nat} {e : TypeId} {ds es : List Value} {s u u' : Value} (h : w.ownsRow base e 2 (.slice (some ⟨g, 0, none⟩) n cap) n (ds ++ s :: u :: es)) : (w.setCell ⟨g, ds.length + 1, none⟩ u').ownsRow base e 2 (.slice (some ⟨g, 0, none⟩) n cap) n (ds ++ s :: u' :: es) ∧ w.cell? ⟨g, ds.length, none⟩ = some s ∧ w.cell? ⟨g, ds.length + 1, none⟩ = some u ∧ w.frozen? ⟨g, ds.length + 1, none⟩ = false ∧ base ≤ g ∧ ∃ cur, Blk w g e cur := by
  obtain ⟨h1, h2⟩ := h
  rcases h2 with ⟨h2, _⟩ | ⟨g', cap', cur, h3, hg, hb, hn, hm, hs, hc⟩
  · cases h2
  · simp only [Value.slice.injEq, Option.some.injEq, Addr.mk.injEq, and_true, true_and] at h3
    obtain ⟨rfl, rfl⟩ := h3
    have hB : Blk w g e cur := hb
    have hl : ds.length + 1 < n * 2 := by rw [← h1]; simp
    have hat : ∀ j, j < n * 2 → cur[j]? = (ds ++ s :: u :: es)[j]? := fun j hj => by rw [← hc, List.getElem?_take, if_pos hj, Array.getElem?_toList]
    refine ⟨⟨by rw [← h1]; simp, .inr ⟨g, cap, cur.setIfInBounds (ds.length + 1) u', rfl, hg, hB.set_ _ u', hn, hm, by simpa using hs, ?_⟩⟩, ?_, ?_, hB.frozen _, hg, cur, hB⟩
    · apply List.ext_getElem?
      intro j
      by_cases hj : j < n * 2
      · rw [List.getElem?_take, if_pos hj, Array.getElem?_toList, Array.getElem?_setIfInBounds]
        by_cases e1 : ds.length + 1 = j
        · subst e1
          rw [if_pos rfl, if_pos (by omega), List.getElem?_append_right (by omega)]
          simp
        · rw [if_neg e1, hat j hj]
          rcases Nat.lt_or_ge j ds.length with h5 | h5
          · rw [List.getElem?_append_left h5, List.getElem?_append_left h5]
          · rw [List.getElem?_append_right h5, List.getElem?_append_right h5]
            match hd : j - ds.length with
            | 0 => rfl
            | 1 => omega
            | k + 2 => rfl
      · have hl2 : (ds ++ s :: u' :: es).length = n * 2 := by rw [← h1]; simp
        rw [List.getElem?_eq_none (by rw [List.length_take]; omega), List.getElem?_eq_none (by omega)]
    · rw [hB.cell, hat _ (by omega), List.getElem?_append_right (Nat.le_refl _), Nat.sub_self]; rfl
    · rw [hB.cell, hat _ hl, List.getElem?_append_right (by omega)]; simp
theorem upd_257 (y : Nat → Value) (a b c d : Value) : upd (upd (upd (upd y 2 a) 7 d) 5 b) 6 c = upd (upd (upd (upd y 2 a) 5 b) 6 c) 7 d := by
  rw [upd_comm (show (7 : Nat) ≠ 5 by decide), upd_comm (show (7 : Nat) ≠ 6 by decide)]
theorem upd_725 (y : Nat → Value) (a b c d : Value) : upd (upd (upd (upd y 7 d) 2 a) 5 b) 6 c = upd (upd (upd (upd y 2 a) 5 b) 6 c) 7 d := by
  rw [upd_comm (show (7 : Nat) ≠ 2 by decide), upd_257]
def useE (m : PM) (k h : Int) : Int := if knownE m k ≠ 0 then knownE m k else if inB h 0 23 = false then 3 else if (m.wv k.toNat).hours.contains h then 5 else 0
def useM (m : PM) (k h : Int) : PM := if useE m k h = 0 then Pow.useP m k.toNat h else ⟨[], []⟩
end Go.Proofs.Pet

namespace Go.Proofs.Pet
set_option linter.unusedSimpArgs false
open Go Go.RowKit Go.Maps Go.Shelf
open Go.Proofs.Pow (PM Sh Wv POk Up)

set_option maxHeartbeats 400000 in
theorem dupSh (A : Option Addr) (c : Nat) (xs : List Sh) (w : World) (hb : xs.length ≤ 1000) (hx : ShsAt w A xs) :
    Calls Try.prog 19 #[.slice A xs.length c] w fun e w' => ∃ v, e = .returned v ∧ OwnShs w' w.heap.size v xs ∧ Ext w w' := by
  obtain ⟨i, hi, hz0, hz1, hz2⟩ := info_parts info_shaft
  have hmk : ∀ W : World, (Instr.makeSlice 35 (.int .i64 0) (.int .i64 (xs.length : Int))).run Try.prog W = .ok (.slice (some ⟨W.heap.size, 0, none⟩) 0 xs.length) (W.alloc (.cells (madeCells #[.int .i64 0, .int .i64 0] (xs.length * 2)) 73)) := by
    intro W
    have := run_make (P := Try.prog) W 35 73 i _ Try.underlying35 hi hz0 .i64 .i64 0 xs.length (by omega) (by omega) (by rw [hz2]; omega) (by omega)
    simpa [hz1, Value.cells] using this
  have hE := Ext.alloc w (.cells (madeCells #[.int .i64 0, .int .i64 0] (xs.length * 2)) 73)
  have hsrc := Lib.hid (ShsAt.src (hx.ext hE))
  have hlen := Lib.hid (shFlat_len xs)
  have hone := Lib.hid (shFlat_one xs)
  have hown := Lib.hid (World.ownsRow_made (w := w) (e := 73) (size := 2) (madeCells #[.int .i64 0, .int .i64 0] (xs.length * 2)) xs.length (Nat.le_refl _) (by unfold maxLen; omega) (by simp [madeCells]))
  clear hx
  go_enter Try.func19, Try.ntmps19
  go_wp2_with (at_builtin; go_must (refine wpList_app rfl _ _ 35 rfl w.heap.size 73 i (.agg #[.int .i64 0, .int .i64 0]) 2 16 Try.underlying35 hi hz0 hz1 hz2 rfl (by decide) _ _ _ rfl hown.out A xs.length c (shFlat xs) rfl ?c1 hsrc.out ?c2 ?c3 ?c4 ?c5 ?_); (case c1 => exact hlen.out); (case c2 => exact hone.out); (case c3 => (unfold maxLen; omega)); (case c4 => omega); (case c5 => simp); intro v' w' hown' hg hblk)
  go_ret
  refine ⟨_, rfl, ?_, ext_alloc_grown hg (fun k hk => Nat.le_of_eq (Option.some.inj hk))⟩
  simp only [Nat.zero_add, List.nil_append] at hown'
  exact hown'
set_option maxHeartbeats 400000 in
theorem dupWv (A : Option Addr) (c : Nat) (xs : List Wv) (w0 w : World) (hb : xs.length ≤ 1000) (hx : WvsAt w0 A xs) (h0 : Ext w0 w) :
    Calls Try.prog 20 #[.slice A xs.length c] w fun e w' => ∃ v, e = .returned v ∧ (∃ cs, w'.ownsRow w.heap.size 43 2 v xs.length cs ∧ WvF (rdW w0) cs xs) ∧ Ext w w' := by
  obtain ⟨i, hi, hz0, hz1, hz2⟩ := info_parts info_weaver
  have hmk : ∀ W : World, (Instr.makeSlice 36 (.int .i64 0) (.int .i64 (xs.length : Int))).run Try.prog W = .ok (.slice (some ⟨W.heap.size, 0, none⟩) 0 xs.length) (W.alloc (.cells (madeCells #[.int .i64 0, .slice none 0 0] (xs.length * 2)) 43)) := by
    intro W
    have := run_make (P := Try.prog) W 36 43 i _ Try.underlying36 hi hz0 .i64 .i64 0 xs.length (by omega) (by omega) (by rw [hz2]; omega) (by omega)
    simpa [hz1, Value.cells] using this
  have hE := Ext.alloc w (.cells (madeCells #[.int .i64 0, .slice none 0 0] (xs.length * 2)) 43)
  obtain ⟨cs, hcs, hsrc0⟩ := hx.src
  have hsrc := Lib.hid (hsrc0.ext (h0.trans hE))
  have hlen := Lib.hid hcs.length
  have hone := Lib.hid (hcs.one rdW_one)
  have Hcs := Lib.hid hcs
  clear hcs hsrc0
  have hown := Lib.hid (World.ownsRow_made (w := w) (e := 43) (size := 2) (madeCells #[.int .i64 0, .slice none 0 0] (xs.length * 2)) xs.length (Nat.le_refl _) (by unfold maxLen; omega) (by simp [madeCells]))
  clear hx
  go_enter Try.func20, Try.ntmps20
  go_wp2_with (at_builtin; go_must (refine wpList_app rfl _ _ 36 rfl w.heap.size 43 i (.agg #[.int .i64 0, .slice none 0 0]) 2 32 Try.underlying36 hi hz0 hz1 hz2 rfl (by decide) _ _ _ rfl hown.out A xs.length c cs rfl ?c1 hsrc.out ?c2 ?c3 ?c4 ?c5 ?_); (case c1 => exact hlen.out); (case c2 => exact hone.out); (case c3 => (unfold maxLen; omega)); (case c4 => omega); (case c5 => simp); intro v' w' hown' hg hblk)
  go_ret
  refine ⟨_, rfl, ?_, ext_alloc_grown hg (fun k hk => Nat.le_of_eq (Option.some.inj hk))⟩
  simp only [Nat.zero_add, List.nil_append] at hown'
  exact ⟨cs, hown', Hcs.out⟩
set_option maxRecDepth 20000 in
set_option maxHeartbeats 2000000 in
theorem own7_any (v : Value) (m : PM) (hb1 : m.shafts.length ≤ 1000) (hb2 : m.wvs.length ≤ 1000) (hb3 : ∀ k, k < m.wvs.length → (m.wv k).hours.length ≤ 1000) (w : World) (hv : PMVal w v m) :
    Calls Try.prog 8 #[v] w fun e w' => ∃ u, e = .returned u ∧ OwnPM w' w.heap.size u m ∧ Ext w w' := by
  obtain ⟨A1, c1, A2, c2, rfl, h2, h3, h4, h5, h6, h7⟩ := hv
  have hE1 : Ext w ((w.alloc (.cells #[.slice A1 m.shafts.length c1, .slice A2 m.wvs.length c2] 38)).alloc (.cells #[.slice none 0 0, .slice none 0 0] 38)) := (Ext.alloc _ _).trans (Ext.alloc _ _)
  have hM := (Blk.new w 38 #[.slice A1 m.shafts.length c1, .slice A2 m.wvs.length c2]).alloc (.cells #[.slice none 0 0, .slice none 0 0] 38)
  have hR := Blk.new (w.alloc (.cells #[.slice A1 m.shafts.length c1, .slice A2 m.wvs.length c2] 38)) 38 #[.slice none 0 0, .slice none 0 0]
  rw [World.size_alloc] at hR
  have HM := Lib.hid hM; have HR := Lib.hid hR
  have HA1 := Lib.hid (h6.ext hE1)
  have HA2 := Lib.hid (h7.ext hE1)
  have hsz1 : ((w.alloc (.cells #[.slice A1 m.shafts.length c1, .slice A2 m.wvs.length c2] 38)).alloc (.cells #[.slice none 0 0, .slice none 0 0] 38)).heap.size = w.heap.size + 2 := by rw [World.size_alloc, World.size_alloc]
  have Hb3 := Lib.hid hb3
  clear h6 h7 hM hR hb3
  go_enter Try.func8, Try.ntmps8
  go_upto_region 1 with fail
  generalize (w.alloc _).alloc _ = w1 at *
  have Hcs := Lib.hid (dupSh A1 c1 m.shafts)
  have Hcw := Lib.hid (dupWv A2 c2 m.wvs w1)
  obtain ⟨k0, k1⟩ := HM.out.c2
  refine wp_region_tree 8 [(2, true), (5, true), (7, true)] [] (by kernel_rfl) (by kernel_rfl) (by kernel_rfl) (ds := [0, 1, 3, 4]) (by kernel_rfl) ?_
  simp only [List.take, List.drop, fill, Act.put, List.setIfInBounds_toArray, List.set_cons_zero, List.set_cons_succ, Nat.reduceAdd]
  repeat (first
    | (apply Unlock.float rfl
       · intro x W he hd K Qr hK
         try (have he := he (by decide); have k0 := he.cell k0; have k1 := he.cell k1)
         try simp only [edges, DepsE, List.filter_cons, List.filter_nil, Region.binds, if_true, and_true, true_and, upd, Nat.reduceEqDiff, if_false] at hd
         try simp only [hd] at hK ⊢
         have HK := Lib.hid hK; clear hK
         go_wp2_with fail
         exact HK.out))
  refine Unlock.nil ?_
  intro W he hG
  refine Tree.cut (f' := 0) (rem' := []) (fun y y' W6 => ∃ (a1 : Option Addr) (d1 : Nat) (a2 : Option Addr) (d2 : Nat) (p : Nat) (cs : List Value), y' = upd (upd (upd (upd y 2 (.slice a1 m.shafts.length d1)) 5 (.slice a2 m.wvs.length d2)) 6 (.agg #[.slice a1 m.shafts.length d1, .slice a2 m.wvs.length d2])) 7 (.pointer (some ⟨p, 0, none⟩)) ∧ Ext w1 W6 ∧ OwnShs W6 w1.heap.size (.slice a1 m.shafts.length d1) m.shafts ∧ W6.ownsRow w1.heap.size 43 2 (.slice a2 m.wvs.length d2) m.wvs.length cs ∧ WvF (rdW w1) cs m.wvs ∧ Blk W6 p 38 #[.slice none 0 0, .slice none 0 0] ∧ w1.heap.size ≤ p) ?_ ?_
  · rintro y' W6 ⟨a1, d1, a2, d2, p, cs, rfl, he6, hO1, hO2, hcs, hp, hpl⟩
    clear hG he
    refine Tree.nil (by kernel_rfl) ?_
    simp only [upd, Nat.reduceEqDiff, if_false, if_true]
    have hap : Apart p W6 ((W6.setCell ⟨p, 0, none⟩ (.slice a1 m.shafts.length d1)).setCell ⟨p, 1, none⟩ (.slice a2 m.wvs.length d2)) := ((Apart.refl p W6).set_ 0 _).set_ 1 _
    have hp7 : Blk ((W6.setCell ⟨p, 0, none⟩ (.slice a1 m.shafts.length d1)).setCell ⟨p, 1, none⟩ (.slice a2 m.wvs.length d2)) p 38 #[.slice a1 m.shafts.length d1, .slice a2 m.wvs.length d2] := by simpa using (hp.set_ 0 (.slice a1 m.shafts.length d1)).set_ 1 (.slice a2 m.wvs.length d2)
    have hO17 : OwnShs _ _ _ _ := ownsRow_apart hO1 (fun e => ownsRow_ne_blk hO1 hp (by decide) e.symm) hap
    have hO27 := ownsRow_apart hO2 (fun e => ownsRow_ne_blk hO2 hp (by decide) e.symm) hap
    have he7 := hap.ext_of he6 hpl
    obtain ⟨p0, p1⟩ := hp.c2
    have pf0 := hp.frozen 0
    have pf1 := hp.frozen 1
    obtain ⟨-, k1'⟩ := (HM.out.ext he7).c2
    have HO17 := Lib.hid hO17; have HO27 := Lib.hid hO27; have Hcs0 := Lib.hid hcs
    clear hO1 hO2 hO17 hO27 hcs hap he6 k0 k1 Hcs Hcw
    go_wp2_with fail
    clear p0 p1 pf0 pf1 k1'
    generalize (W6.setCell _ _).setCell _ _ = W7 at *
    go_loopw [16] (fun iv wr => ∃ i : Nat, i ≤ m.wvs.length ∧ iv = .int .i64 (i : Int) ∧ Ext w1 wr ∧ Blk wr p 38 #[.slice a1 m.shafts.length d1, .slice a2 m.wvs.length d2] ∧ Hid (OwnShs wr w1.heap.size (.slice a1 m.shafts.length d1) m.shafts) ∧
      ∃ ds es, Hid (wr.ownsRow w1.heap.size 43 2 (.slice a2 m.wvs.length d2) m.wvs.length (ds ++ es)) ∧ Hid (WvF (ownW wr w1.heap.size) ds (m.wvs.take i)) ∧ Hid (WvF (rdW w1) es (m.wvs.drop i))) (fun iv _ => m.wvs.length - (intOf iv).toNat)
    case atStart => exact ⟨0, Nat.zero_le _, rfl, he7, hp7, HO17, [], _, HO27, trivial, Hcs0⟩
    case round =>
      clear hp7 he7 HO17 HO27 Hcs0
      obtain ⟨i, hi', rfl, he, hpB, hOs, ds, es, hrow, hds, hes⟩ := hrel
      by_cases hlt : i < m.wvs.length
      · have hes1 := hes.out
        rw [List.drop_eq_getElem_cons hlt, show m.wvs[i] = m.wv i by unfold PM.wv; rw [List.getElem?_eq_getElem hlt]; rfl] at hes1
        obtain ⟨u, es', rfl, hu, hes2⟩ := hes1.get
        have hdl : ds.length = i * 2 := by
          rw [WvF.length hds.out, List.length_take]; congr 1; omega
        obtain ⟨g, rfl⟩ : ∃ g, a2 = some ⟨g, 0, none⟩ := by
          rcases hrow.out.2 with ⟨e, h9⟩ | ⟨g, cap, cur, e, _⟩
          · omega
          · simp only [Value.slice.injEq] at e
            exact ⟨g, e.1⟩
        obtain ⟨-, -, q2, q3, hgl, cur, hgB⟩ := ownsRow_set (u' := u) hrow.out
        rw [hdl] at q2 q3
        obtain ⟨b, o, rfl, A3, c3, h3', j1, j2, j3⟩ := HA2.out.ext he i hlt
        have hwv : m.wvs[i]?.getD default = m.wv i := rfl
        rw [hwv] at j1 j2 j3
        have hh := Hb3.out i hlt
        obtain ⟨wvi, hwvi⟩ : ∃ x, m.wv i = x := ⟨_, rfl⟩
        rw [hwvi] at j1 j2 j3 hh
        obtain ⟨sh, hshe⟩ : ∃ sh, wvi.shaft = sh := ⟨_, rfl⟩
        obtain ⟨hrs, hhrs⟩ : ∃ hrs, wvi.hours = hrs := ⟨_, rfl⟩
        rw [hshe] at j1
        rw [hhrs] at j2 j3 hh
        have hmw : Hid (m.wv i = ({ shaft := sh, hours := hrs } : Wv)) := by unfold Hid; rw [hwvi, ← hshe, ← hhrs]
        have hX := Ext.alloc wr (.cells #[.int .i64 sh, .slice A3 hrs.length c3] 43)
        have hK := Blk.new wr 43 #[.int .i64 sh, .slice A3 hrs.length c3]
        have HJ3 := Lib.hid (j3.ext hX)
        have Hdl := Lib.hid hdl; have Hes2 := Lib.hid hes2
        have HP := Lib.hid (hpB.ext hX)
        have Hrow := Lib.hid (ownsRow_ext2 hrow.out hX); have Hos := Lib.hid (OwnShs.ext hOs.out hX); have Hds := Lib.hid (hds.out.map fun u x gg => OwnI.ext gg hX)
        have HeX := Lib.hid (he.trans hX)
        have hpg : p ≠ g := hpB.ne_ hgB (by decide)
        obtain ⟨-, p1⟩ := HP.out.c2
        obtain ⟨-, t1⟩ := hK.c2
        have hwz := he.size
        have hwz2 := hX.size
        clear hes1 hu hes2 hdl hwvi hshe hhrs hes hK hX he hpB hOs hrow hds j3 hgB q2 q3 hwv
        go_upto_region 5 with fail
        clear j1 j2
        obtain ⟨K0, hK0⟩ : ∃ K0, wr.heap.size = K0 := ⟨_, rfl⟩
        rw [hK0] at t1 ⊢
        have hw1K : w1.heap.size ≤ K0 := by omega
        clear hK0 hwz
        generalize wr.alloc _ = w2 at *
        refine wp_region_chain 6 [(5, true)] [] (by kernel_rfl) (by kernel_rfl) (by kernel_rfl) ?_
        simp only [List.take, List.drop, fill, Act.put, List.setIfInBounds_toArray, List.set_cons_zero, List.set_cons_succ, Nat.reduceAdd]
        repeat (first
          | refine Floats.mut rfl ?_
          | (apply Floats.float rfl
             · intro x W he hd K Q hK
               try (have he := he (by decide); have p1 := he.cell p1; have t1 := he.cell t1)
               try simp only [edges, DepsE, List.filter_cons, List.filter_nil, Region.binds, if_true, and_true, true_and, upd, Nat.reduceEqDiff, if_false] at hd
               try simp only [hd] at hK ⊢
               have HK := Lib.hid hK; clear hK
               go_wp2_with fail
               exact HK.out))
        refine Floats.done fun W he hG => ?_
        have hdu := Lib.hid (dupI A3 c3 hrs W (by omega) (HJ3.out.ext he))
        have hszW := he.size
        clear hG
        refine Chain.cons _ rfl ?_
        intro x hd K Q hK
        try simp only [edges, DepsE, List.filter_cons, List.filter_nil, Region.binds, if_true, and_true, true_and, upd, Nat.reduceEqDiff, if_false] at hd
        try simp only [hd] at hK ⊢
        clear hd
        have HK := Lib.hid hK; clear hK
        go_wp2_with fail
        refine hdu.out.mono ?_
        rintro e w9 ⟨v9, rfl, hO9, he9⟩
        obtain ⟨A9, c9, rfl⟩ := ownsRow_slice hO9
        have heA := he.trans he9
        go_wp2_with fail
        refine HK.out _ _ (fun _ => heA) ?_
        clear HK
        refine Chain.nil ?_
        simp only [upd, Nat.reduceEqDiff, if_false, if_true]
        have row9 := ownsRow_ext2 Hrow.out heA
        obtain ⟨t1', -, q2, q3, hgl9, cur9, hg9⟩ := ownsRow_set (u' := (.slice A9 hrs.length c9)) row9
        rw [Hdl.out] at t1' q2 q3
        have hos9 := OwnShs.ext Hos.out heA
        have hlen2 : (m.wvs.length : Int) ≤ 1000 := by omega
        have hO9' := OwnI.mono (base' := w1.heap.size) hO9 (by have := HeX.out.size; omega)
        have Hfin : Hid (Ext w1 (w9.setCell ⟨g, i * 2 + 1, none⟩ (.slice A9 hrs.length c9)) ∧ Blk (w9.setCell ⟨g, i * 2 + 1, none⟩ (.slice A9 hrs.length c9)) p 38 #[.slice a1 m.shafts.length d1, .slice (some ⟨g, 0, none⟩) m.wvs.length d2] ∧ Hid (OwnShs (w9.setCell ⟨g, i * 2 + 1, none⟩ (.slice A9 hrs.length c9)) w1.heap.size (.slice a1 m.shafts.length d1) m.shafts) ∧
            ∃ ds es, Hid ((w9.setCell ⟨g, i * 2 + 1, none⟩ (.slice A9 hrs.length c9)).ownsRow w1.heap.size 43 2 (.slice (some ⟨g, 0, none⟩) m.wvs.length d2) m.wvs.length (ds ++ es)) ∧ Hid (WvF (ownW (w9.setCell ⟨g, i * 2 + 1, none⟩ (.slice A9 hrs.length c9)) w1.heap.size) ds (m.wvs.take (i + 1))) ∧ Hid (WvF (rdW w1) es (m.wvs.drop (i + 1)))) := by
          have htk : m.wvs.take (i + 1) = m.wvs.take i ++ [({ shaft := sh, hours := hrs } : Wv)] := by
            rw [List.take_add_one, List.getElem?_eq_getElem hlt]
            have := hmw.out
            unfold PM.wv at this
            rw [List.getElem?_eq_getElem hlt, Option.getD_some] at this
            rw [this]; rfl
          have e1 : (m.wv i).shaft = sh := by rw [hmw.out]
          rw [e1] at t1'
          refine ⟨Below.setCell (HeX.out.trans heA) (by show _ ≤ g; omega) _, (HP.out.ext heA).far (by show p ≠ g; exact hpg) _, Lib.hid (ownsRow_apart hos9 (fun e => ownsRow_ne_blk hos9 hg9 (by decide) e.symm) ((Apart.refl g w9).set_ _ (.slice A9 hrs.length c9))), ds ++ [.int .i64 sh, .slice A9 hrs.length c9], es', ?_, ?_, Hes2⟩
          · unfold Hid
            rw [List.append_assoc]
            exact t1'
          · rw [htk]
            refine WvF.append (Hds.out.map fun u x gg => OwnI.far (OwnI.ext gg heA) hg9 (by decide) _ _) ⟨rfl, ?_, trivial⟩
            exact OwnI.far hO9' hg9 (by decide) _ _
        have hone := hO9.one
        clear t1' hos9 hO9' row9 Hes2 Hds Hos Hrow hO9 hdu heA HJ3 HP hmw p1 t1
        go_wp2_with fail
        go_roundw
        case rel => exact ⟨i + 1, by omega, by go_num, Hfin.out⟩
        case measure => simp [intOf]; omega
      · obtain rfl : i = m.wvs.length := by omega
        have hds0 := hds.out
        rw [List.take_length] at hds0
        have hes0 : es = [] := by
          have := hes.out
          rw [List.drop_eq_nil_of_le (Nat.le_refl _)] at this
          have := WvF.length this
          exact List.length_eq_zero_iff.1 (by simpa using this)
        subst hes0
        have hrow0 := hrow.out
        rw [List.append_nil] at hrow0
        have hR2 := HR.out.ext he
        obtain ⟨p0, p1⟩ := hpB.c2
        obtain ⟨y0, y1⟩ := hR2.c2
        have f0 := hR2.frozen 0
        have f1 := hR2.frozen 1
        have hap : Apart (w.heap.size + 1) wr ((wr.setCell ⟨w.heap.size + 1, 0, none⟩ (.slice a1 m.shafts.length d1)).setCell ⟨w.heap.size + 1, 1, none⟩ (.slice a2 m.wvs.length d2)) := ((Apart.refl _ wr).set_ 0 _).set_ 1 _
        have hR9 : Blk ((wr.setCell ⟨w.heap.size + 1, 0, none⟩ (.slice a1 m.shafts.length d1)).setCell ⟨w.heap.size + 1, 1, none⟩ (.slice a2 m.wvs.length d2)) (w.heap.size + 1) 38 #[.slice a1 m.shafts.length d1, .slice a2 m.wvs.length d2] := by simpa using (hR2.set_ 0 (.slice a1 m.shafts.length d1)).set_ 1 (.slice a2 m.wvs.length d2)
        have g1 : OwnShs _ w1.heap.size _ _ := ownsRow_apart hOs.out (fun e => ownsRow_ne_blk hOs.out hR2 (by decide) e.symm) hap
        have g2 := ownsRow_apart hrow0 (fun e => ownsRow_ne_blk hrow0 hR2 (by decide) e.symm) hap
        have g3 := hds0.map fun u x (g : OwnI wr w1.heap.size 3 u x.hours) => OwnI.apart g (fun e => g.ne_blk hR2 (by decide) e.symm) hap
        have hE9 := hap.ext_of (hE1.trans he) (by omega)
        have hszw := hE1.size
        have Hown : Hid (OwnPM _ w.heap.size (.agg #[.slice a1 m.shafts.length d1, .slice a2 m.wvs.length d2]) m) := ⟨_, _, rfl, g1.mono hszw, ds, ownsRow_mono g2 hszw, g3.map fun _ _ g => OwnI.mono g hszw⟩
        have HR9 := Lib.hid hR9; have HE9 := Lib.hid hE9
        clear g1 g2 g3 hap hR9 hE9 hrow0 hds0 hrow hds hes hOs
        go_wp2_with fail
        obtain ⟨t0, t1⟩ := HR9.out.c2
        refine bodyPost_ret (v := .agg #[.slice a1 m.shafts.length d1, .slice a2 m.wvs.length d2]) ?_ rfl ⟨_, rfl, Hown.out, HE9.out⟩
        simp [results, Try.results8, go_sem, t0, t1]
  · intro hcut
    have Hcut := Lib.hid hcut
    clear hcut hG
    refine Tree.next (ks := [(2, true), (7, true)]) (by kernel_rfl) ?_
    refine TSteps.cons _ rfl ?_ (TSteps.cons _ rfl ?_ trivial)
    · intro x hd K Qr hK
      try simp only [edges, DepsE, List.filter_cons, List.filter_nil, Region.binds, if_true, and_true, true_and, upd, Nat.reduceEqDiff, if_false] at hd
      try simp only [hd] at hK ⊢
      clear hd
      have HK := Lib.hid hK; clear hK
      go_wp2_with fail
      refine (Hcs.out W (by omega) (HA1.out.ext he)).mono ?_
      rintro e W5 ⟨v1, rfl, hO1, he5⟩
      obtain ⟨a1, d1, rfl⟩ := ownsRow_slice hO1
      have heA := he.trans he5
      have hszA := he.size
      go_wp2_with fail
      refine HK.out _ _ (fun _ => heA) ?_
      refine Unlock.of (ds := []) (by kernel_rfl) ?_
      repeat (first
        | (apply Unlock.float rfl
           · intro x W he hd K Qr hK
             try (have he := he (by decide))
             try simp only [edges, DepsE, List.filter_cons, List.filter_nil, Region.binds, if_true, and_true, true_and, upd, Nat.reduceEqDiff, if_false] at hd
             try simp only [hd] at hK ⊢
             have HK := Lib.hid hK; clear hK
             go_wp2_with fail
             exact HK.out))
      refine Unlock.nil ?_
      clear HK
      refine Tree.next (ks := [(5, true), (7, true)]) (by kernel_rfl) ?_
      refine TSteps.cons _ rfl ?_ (TSteps.cons _ rfl ?_ trivial)
      · intro x hd K Qr hK
        try simp only [edges, DepsE, List.filter_cons, List.filter_nil, Region.binds, if_true, and_true, true_and, upd, Nat.reduceEqDiff, if_false] at hd
        try simp only [hd] at hK ⊢
        clear hd
        have HK := Lib.hid hK; clear hK
        go_wp2_with fail
        refine (Hcw.out W5 (by omega) HA2.out heA).mono ?_
        rintro e W6 ⟨v2, rfl, ⟨cs, hO2, hcs⟩, he6⟩
        obtain ⟨a2, d2, rfl⟩ := ownsRow_slice hO2
        have heB := heA.trans he6
        have hszB := heA.size
        go_wp2_with fail
        refine HK.out _ _ (fun _ => heB) ?_
        refine Unlock.of (ds := [6]) (by kernel_rfl) ?_
        repeat (first
          | (apply Unlock.float rfl
             · intro x W he hd K Qr hK
               try (have he := he (by decide))
               try simp only [edges, DepsE, List.filter_cons, List.filter_nil, Region.binds, if_true, and_true, true_and, upd, Nat.reduceEqDiff, if_false] at hd
               try simp only [hd] at hK ⊢
               have HK := Lib.hid hK; clear hK
               go_wp2_with fail
               exact HK.out))
        refine Unlock.nil ?_
        clear HK
        refine Tree.next (ks := [(7, true)]) (by kernel_rfl) ?_
        refine TSteps.cons _ rfl ?_ trivial
        intro x hd K Qr hK
        try simp only [edges, DepsE, List.filter_cons, List.filter_nil, Region.binds, if_true, and_true, true_and, upd, Nat.reduceEqDiff, if_false] at hd
        try simp only [hd] at hK ⊢
        clear hd
        have HK := Lib.hid hK; clear hK
        go_wp2_with fail
        have hX := Ext.alloc W6 (.cells #[.slice none 0 0, .slice none 0 0] 38)
        have hszX := heB.size
        refine HK.out _ _ (fun _ => heB.trans hX) ?_
        refine Unlock.of (ds := []) (by kernel_rfl) ?_
        repeat (first
          | (apply Unlock.float rfl
             · intro x W he hd K Qr hK
               try (have he := he (by decide))
               try simp only [edges, DepsE, List.filter_cons, List.filter_nil, Region.binds, if_true, and_true, true_and, upd, Nat.reduceEqDiff, if_false] at hd
               try simp only [hd] at hK ⊢
               have HK := Lib.hid hK; clear hK
               go_wp2_with fail
               exact HK.out))
        refine Unlock.nil ?_
        exact Tree.eq (by kernel_rfl) (Hcut.out _ _ ⟨a1, d1, a2, d2, _, cs, rfl, heB.trans hX, ((hO1.ext he6).ext hX).mono (by omega), ownsRow_ext2 (ownsRow_mono hO2 (by omega)) hX, hcs, Blk.new _ _ _, hszX⟩)
      · intro x hd K Qr hK
        try simp only [edges, DepsE, List.filter_cons, List.filter_nil, Region.binds, if_true, and_true, true_and, upd, Nat.reduceEqDiff, if_false] at hd
        try simp only [hd] at hK ⊢
        clear hd
        have HK := Lib.hid hK; clear hK
        go_wp2_with fail
        have hX := Ext.alloc W5 (.cells #[.slice none 0 0, .slice none 0 0] 38)
        have hp := Blk.new W5 38 #[.slice none 0 0, .slice none 0 0]
        have hszX := heA.size
        refine HK.out _ _ (fun _ => heA.trans hX) ?_
        refine Unlock.of (ds := []) (by kernel_rfl) ?_
        repeat (first
          | (apply Unlock.float rfl
             · intro x W he hd K Qr hK
               try (have he := he (by decide))
               try simp only [edges, DepsE, List.filter_cons, List.filter_nil, Region.binds, if_true, and_true, true_and, upd, Nat.reduceEqDiff, if_false] at hd
               try simp only [hd] at hK ⊢
               have HK := Lib.hid hK; clear hK
               go_wp2_with fail
               exact HK.out))
        refine Unlock.nil ?_
        clear HK
        obtain ⟨pp, hpp⟩ : ∃ pp, W5.heap.size = pp := ⟨_, rfl⟩
        rw [hpp] at hp hszX ⊢
        have heX := heA.trans hX
        have hO1X := OwnShs.ext hO1 hX
        generalize W5.alloc _ = W7 at *
        clear hX hpp
        refine Tree.next (ks := [(5, true)]) (by kernel_rfl) ?_
        refine TSteps.cons _ rfl ?_ trivial
        intro x hd K Qr hK
        try simp only [edges, DepsE, List.filter_cons, List.filter_nil, Region.binds, if_true, and_true, true_and, upd, Nat.reduceEqDiff, if_false] at hd
        try simp only [hd] at hK ⊢
        clear hd
        have HK := Lib.hid hK; clear hK
        go_wp2_with fail
        refine (Hcw.out W7 (by omega) HA2.out heX).mono ?_
        rintro e W6 ⟨v2, rfl, ⟨cs, hO2, hcs⟩, he6⟩
        obtain ⟨a2, d2, rfl⟩ := ownsRow_slice hO2
        have heB := heX.trans he6
        have hszB := heX.size
        go_wp2_with fail
        refine HK.out _ _ (fun _ => heB) ?_
        refine Unlock.of (ds := [6]) (by kernel_rfl) ?_
        repeat (first
          | (apply Unlock.float rfl
             · intro x W he hd K Qr hK
               try (have he := he (by decide))
               try simp only [edges, DepsE, List.filter_cons, List.filter_nil, Region.binds, if_true, and_true, true_and, upd, Nat.reduceEqDiff, if_false] at hd
               try simp only [hd] at hK ⊢
               have HK := Lib.hid hK; clear hK
               go_wp2_with fail
               exact HK.out))
        refine Unlock.nil ?_
        exact Tree.eq (by kernel_rfl) (Hcut.out _ _ ⟨a1, d1, a2, d2, pp, cs, upd_257 _ _ _ _ _, heB, (OwnShs.ext hO1X he6).mono (by omega), ownsRow_mono hO2 (by omega), hcs, hp.ext he6, hszX⟩)
    · intro x hd K Qr hK
      try simp only [edges, DepsE, List.filter_cons, List.filter_nil, Region.binds, if_true, and_true, true_and, upd, Nat.reduceEqDiff, if_false] at hd
      try simp only [hd] at hK ⊢
      clear hd
      have HK := Lib.hid hK; clear hK
      go_wp2_with fail
      have hX := Ext.alloc W (.cells #[.slice none 0 0, .slice none 0 0] 38)
      have hp := Blk.new W 38 #[.slice none 0 0, .slice none 0 0]
      have hszX := he.size
      have heX := he.trans hX
      refine HK.out _ _ (fun _ => heX) ?_
      refine Unlock.of (ds := []) (by kernel_rfl) ?_
      repeat (first
        | (apply Unlock.float rfl
           · intro x W he hd K Qr hK
             try (have he := he (by decide))
             try simp only [edges, DepsE, List.filter_cons, List.filter_nil, Region.binds, if_true, and_true, true_and, upd, Nat.reduceEqDiff, if_false] at hd
             try simp only [hd] at hK ⊢
             have HK := Lib.hid hK; clear hK
             go_wp2_with fail
             exact HK.out))
      refine Unlock.nil ?_
      clear HK
      obtain ⟨pp, hpp⟩ : ∃ pp, W.heap.size = pp := ⟨_, rfl⟩
      rw [hpp] at hp hszX ⊢
      generalize W.alloc _ = W7 at *
      clear hX hpp he
      refine Tree.next (ks := [(2, true)]) (by kernel_rfl) ?_
      refine TSteps.cons _ rfl ?_ trivial
      intro x hd K Qr hK
      try simp only [edges, DepsE, List.filter_cons, List.filter_nil, Region.binds, if_true, and_true, true_and, upd, Nat.reduceEqDiff, if_false] at hd
      try simp only [hd] at hK ⊢
      clear hd
      have HK := Lib.hid hK; clear hK
      go_wp2_with fail
      refine (Hcs.out W7 (by omega) (HA1.out.ext heX)).mono ?_
      rintro e W5 ⟨v1, rfl, hO1, he5⟩
      obtain ⟨a1, d1, rfl⟩ := ownsRow_slice hO1
      have heA := heX.trans he5
      have hszA := heX.size
      go_wp2_with fail
      refine HK.out _ _ (fun _ => heA) ?_
      refine Unlock.of (ds := []) (by kernel_rfl) ?_
      repeat (first
        | (apply Unlock.float rfl
           · intro x W he hd K Qr hK
             try (have he := he (by decide))
             try simp only [edges, DepsE, List.filter_cons, List.filter_nil, Region.binds, if_true, and_true, true_and, upd, Nat.reduceEqDiff, if_false] at hd
             try simp only [hd] at hK ⊢
             have HK := Lib.hid hK; clear hK
             go_wp2_with fail
             exact HK.out))
      refine Unlock.nil ?_
      clear HK
      refine Tree.next (ks := [(5, true)]) (by kernel_rfl) ?_
      refine TSteps.cons _ rfl ?_ trivial
      intro x hd K Qr hK
      try simp only [edges, DepsE, List.filter_cons, List.filter_nil, Region.binds, if_true, and_true, true_and, upd, Nat.reduceEqDiff, if_false] at hd
      try simp only [hd] at hK ⊢
      clear hd
      have HK := Lib.hid hK; clear hK
      go_wp2_with fail
      refine (Hcw.out W5 (by omega) HA2.out heA).mono ?_
      rintro e W6 ⟨v2, rfl, ⟨cs, hO2, hcs⟩, he6⟩
      obtain ⟨a2, d2, rfl⟩ := ownsRow_slice hO2
      have heB := heA.trans he6
      have hszB := heA.size
      go_wp2_with fail
      refine HK.out _ _ (fun _ => heB) ?_
      refine Unlock.of (ds := [6]) (by kernel_rfl) ?_
      repeat (first
        | (apply Unlock.float rfl
           · intro x W he hd K Qr hK
             try (have he := he (by decide))
             try simp only [edges, DepsE, List.filter_cons, List.filter_nil, Region.binds, if_true, and_true, true_and, upd, Nat.reduceEqDiff, if_false] at hd
             try simp only [hd] at hK ⊢
             have HK := Lib.hid hK; clear hK
             go_wp2_with fail
             exact HK.out))
      refine Unlock.nil ?_
      exact Tree.eq (by kernel_rfl) (Hcut.out _ _ ⟨a1, d1, a2, d2, pp, cs, upd_725 _ _ _ _ _, heB, (OwnShs.ext hO1 he6).mono (by omega), ownsRow_mono hO2 (by omega), hcs, (hp.ext he5).ext he6, hszX⟩)
end Go.Proofs.Pet

namespace Go.Proofs.Pow

/-- a mill with a weaver more, at its last shaft -/
def addW (m : PM) (hs : List Int) : PM := ⟨m.shafts, m.wvs ++ [⟨(m.shafts.length : Int) - 1, hs⟩]⟩
theorem addW_len (m : PM) (hs : List Int) : (addW m hs).wvs.length = m.wvs.length + 1 := by unfold addW; rw [List.length_append]; rfl
theorem addW_old (m : PM) (hs : List Int) {k : Nat} (hk : k < m.wvs.length) : (addW m hs).wv k = m.wv k := by
  unfold addW PM.wv
  rw [List.getElem?_append_left hk]
theorem addW_new (m : PM) (hs : List Int) : (addW m hs).wv m.wvs.length = ⟨(m.shafts.length : Int) - 1, hs⟩ := by
  unfold addW PM.wv
  rw [List.getElem?_append_right (Nat.le_refl _), Nat.sub_self]
  rfl
theorem addW_line (m : PM) (hs : List Int) (s : Int) : (addW m hs).line s = m.line s := line_shafts (m' := addW m hs) (m := m) rfl s
theorem addW_uses_old (m : PM) (hs : List Int) (s h : Nat) {k : Nat} (hk : k < m.wvs.length) : usesB (addW m hs) s h k = usesB m s h k := by
  unfold usesB PM.drv
  rw [addW_old m hs hk, addW_line]
theorem addW_uses_new (m : PM) (hs : List Int) (s h : Nat) : usesB (addW m hs) s h m.wvs.length = ((m.line ((m.shafts.length : Int) - 1)).contains (s : Int) && hs.contains (h : Int)) := by
  unfold usesB PM.drv
  rw [addW_new, addW_line]
theorem addW_uses_mono {m : PM} {hs hs' : List Int} (hsub : ∀ x, x ∈ hs → x ∈ hs') (s h : Nat) {k : Nat} (hk : k < m.wvs.length + 1) (e : usesB (addW m hs) s h k = true) : usesB (addW m hs') s h k = true := by
  rcases Nat.lt_or_ge k m.wvs.length with hl | hl
  · rw [addW_uses_old m _ s h hl] at e ⊢; exact e
  · obtain rfl : k = m.wvs.length := by omega
    rw [addW_uses_new] at e ⊢
    rw [Bool.and_eq_true] at e ⊢
    exact ⟨e.1, List.contains_iff_mem.2 (hsub _ (List.contains_iff_mem.1 e.2))⟩
theorem cost_more {m : PM} (hp : ∀ s, s < m.shafts.length → 0 ≤ (m.sh s).price) {hs hs' : List Int} (hsub : ∀ x, x ∈ hs → x ∈ hs') (p : Nat → Bool) : costF (addW m hs) p ≤ costF (addW m hs') p := by
  unfold costF costQ spots
  rw [List.map_map, List.map_map]
  refine sum_le _ _ _ fun x hx => ?_
  have hx1 := (mem_spotL.1 (show (x.1, x.2) ∈ spotL m.shafts.length from hx)).1
  show (if hitQ (addW m hs).wvs.length (usesB (addW m hs) x.1 x.2) p then ((addW m hs).sh x.1).price else 0) ≤ (if hitQ (addW m hs').wvs.length (usesB (addW m hs') x.1 x.2) p then ((addW m hs').sh x.1).price else 0)
  rw [addW_len, addW_len]
  have h0 : 0 ≤ (m.sh x.1).price := hp _ hx1
  have e1 : ((addW m hs).sh x.1).price = (m.sh x.1).price := rfl
  have e2 : ((addW m hs').sh x.1).price = (m.sh x.1).price := rfl
  rw [e1, e2]
  by_cases hh : hitQ (m.wvs.length + 1) (usesB (addW m hs) x.1 x.2) p = true
  · obtain ⟨k, hk, h1, h2⟩ := hitQ_iff.1 hh
    rw [if_pos hh, if_pos (hitQ_iff.2 ⟨k, hk, addW_uses_mono hsub _ _ hk h1, h2⟩)]
    exact Int.le_refl _
  · rw [if_neg hh]
    split
    · exact h0
    · exact Int.le_refl _
theorem cost_same {m : PM} (hs hs' : List Int) {p : Nat → Bool} (hp : p m.wvs.length = false) : costF (addW m hs) p = costF (addW m hs') p := by
  unfold costF costQ spots
  rw [List.map_map, List.map_map]
  refine sum_eq _ _ _ fun x _ => ?_
  show (if hitQ (addW m hs).wvs.length (usesB (addW m hs) x.1 x.2) p then ((addW m hs).sh x.1).price else 0) = (if hitQ (addW m hs').wvs.length (usesB (addW m hs') x.1 x.2) p then ((addW m hs').sh x.1).price else 0)
  rw [addW_len, addW_len]
  have e : hitQ (m.wvs.length + 1) (usesB (addW m hs) x.1 x.2) p = hitQ (m.wvs.length + 1) (usesB (addW m hs') x.1 x.2) p := by
    rw [Bool.eq_iff_iff, hitQ_iff, hitQ_iff]
    have key : ∀ k, k < m.wvs.length + 1 → p k = true → usesB (addW m hs) x.1 x.2 k = usesB (addW m hs') x.1 x.2 k := fun k hk hpk => by
      rcases Nat.lt_or_ge k m.wvs.length with hl | hl
      · rw [addW_uses_old m _ _ _ hl, addW_uses_old m _ _ _ hl]
      · obtain rfl : k = m.wvs.length := by omega
        rw [hp] at hpk; cases hpk
    constructor
    · rintro ⟨k, hk, h1, h2⟩; exact ⟨k, hk, by rw [← key k hk h2]; exact h1, h2⟩
    · rintro ⟨k, hk, h1, h2⟩; exact ⟨k, hk, by rw [key k hk h2]; exact h1, h2⟩
  rw [e]
  rfl
/-- what the weaver pays alone, and adds to all others -/
def aloneW (m : PM) (hs : List Int) : Int := costF (addW m hs) fun k => ([(m.wvs.length : Int)] : List Int).contains (k : Int)
def addsW (m : PM) (hs : List Int) : Int := addF (addW m hs) (List.range (m.wvs.length + 1)) m.wvs.length
theorem alone_mono {m : PM} (hp : ∀ s, s < m.shafts.length → 0 ≤ (m.sh s).price) {hs hs' : List Int} (hsub : ∀ x, x ∈ hs → x ∈ hs') : aloneW m hs ≤ aloneW m hs' := cost_more hp hsub _
theorem adds_mono {m : PM} (hp : ∀ s, s < m.shafts.length → 0 ≤ (m.sh s).price) {hs hs' : List Int} (hsub : ∀ x, x ∈ hs → x ∈ hs') : addsW m hs ≤ addsW m hs' := by
  unfold addsW addF
  have h1 := cost_more hp hsub (befB (List.range (m.wvs.length + 1)) (m.wvs.length + 1))
  have h2 := cost_same (m := m) hs hs' (p := befB (List.range (m.wvs.length + 1)) m.wvs.length) (by
    unfold befB
    rw [List.take_range, Nat.min_eq_left (by omega)]
    cases h : (List.range m.wvs.length).contains m.wvs.length with
    | false => rfl
    | true => rw [List.contains_iff_mem, List.mem_range] at h; omega)
  omega
theorem addW_ok {m : PM} (h : POk m) (h5 : m.wvs.length ≤ 5) {hs : List Int} (h1 : ∀ x, x ∈ hs → 0 ≤ x ∧ x ≤ 23) (h2 : hs.Pairwise (· < ·)) : POk (addW m hs) where
  sz := h.sz
  few := by rw [addW_len]; omega
  price := h.price
  hour := fun k hk x hx => by
    rw [addW_len] at hk
    rcases Nat.lt_or_ge k m.wvs.length with hl | hl
    · rw [addW_old m hs hl] at hx; exact h.hour k hl x hx
    · obtain rfl : k = m.wvs.length := by omega
      rw [addW_new] at hx; exact h1 x hx
  up := h.up
  at_ := fun k hk => by
    rw [addW_len] at hk
    rcases Nat.lt_or_ge k m.wvs.length with hl | hl
    · rw [addW_old m hs hl]; exact h.at_ k hl
    · obtain rfl : k = m.wvs.length := by omega
      rw [addW_new]
      have := h.sz
      show 0 ≤ (m.shafts.length : Int) - 1 ∧ (m.shafts.length : Int) - 1 < (m.shafts.length : Int)
      omega
  rise := fun k hk => by
    rw [addW_len] at hk
    rcases Nat.lt_or_ge k m.wvs.length with hl | hl
    · rw [addW_old m hs hl]; exact h.rise k hl
    · obtain rfl : k = m.wvs.length := by omega
      rw [addW_new]; exact h2
/-- the hours from one minute to another one -/
def spanL (lo hi : Nat) : List Int := (List.range (hi / 10 + 1 - lo / 10)).map fun i : Nat => ((lo / 10 + i : Nat) : Int)
theorem mem_spanL {lo hi : Nat} {x : Int} : x ∈ spanL lo hi ↔ ((lo / 10 : Nat) : Int) ≤ x ∧ x ≤ ((hi / 10 : Nat) : Int) := by
  unfold spanL
  rw [List.mem_map]
  constructor
  · rintro ⟨i, hi, rfl⟩
    have := List.mem_range.1 hi
    omega
  · intro h
    refine ⟨(x - ((lo / 10 : Nat) : Int)).toNat, List.mem_range.2 (by omega), by omega⟩
theorem span_sub {lo hi lo' hi' : Nat} (h1 : lo' ≤ lo) (h2 : hi ≤ hi') : ∀ x, x ∈ spanL lo hi → x ∈ spanL lo' hi' := by
  intro x hx
  rw [mem_spanL] at hx ⊢
  have := Nat.div_le_div_right (c := 10) h1
  have := Nat.div_le_div_right (c := 10) h2
  omega
theorem span_rise (lo hi : Nat) : (spanL lo hi).Pairwise (· < ·) := by
  unfold spanL
  rw [List.pairwise_map]
  exact List.pairwise_lt_range.imp fun h => by omega
end Go.Proofs.Pow

namespace Go.Proofs.Pet
open Go Go.RowKit Go.Maps Go.Shelf
open Go.Proofs.Pow (PM Sh Wv POk Up spanL)

set_option maxRecDepth 20000 in
set_option maxHeartbeats 4000000 in
theorem span_any (lo hi : Nat) (hlo : lo ≤ 200) (hhi : hi ≤ 200) (w : World) :
    Calls Try.prog 9 #[.int .i64 (lo : Int), .int .i64 (hi : Int)] w fun e w' => ∃ v, e = .returned v ∧ OwnI w' w.heap.size 3 v (spanL lo hi) ∧ Ext w w' := by
  obtain ⟨ti, hit, hz0, hz1, hz2⟩ := info_parts info_int
  obtain ⟨p, hp⟩ : ∃ p, lo / 10 = p := ⟨_, rfl⟩
  obtain ⟨r, hr⟩ : ∃ r, hi / 10 = r := ⟨_, rfl⟩
  have hp2 : Hid ((lo : Int) / 10 = (p : Int)) := by unfold Hid; omega
  have hr2 : Hid ((hi : Int) / 10 = (r : Int)) := by unfold Hid; omega
  have hq1 : p ≤ 20 := by omega
  have hq2 : r ≤ 20 := by omega
  have Hp := Lib.hid hp; have Hr := Lib.hid hr
  clear hp hr
  go_enter Try.func9, Try.ntmps9
  go_wp2_with fail
  go_loopw [5, 6] (fun ov hv wr => ∃ k : Nat, ∃ v : Value, k ≤ r + 1 - p ∧ ov = v ∧ hv = .int .i64 ((p : Int) + (k : Int)) ∧ Hid (OwnI wr w.heap.size 3 v ((List.range k).map fun i : Nat => ((p + i : Nat) : Int))) ∧ Hid (Ext w wr)) (fun _ hv _ => ((r : Int) + 1 - intOf hv).toNat)
  case atStart => exact ⟨0, _, Nat.zero_le _, rfl, by have := hp2.out; congr 1 <;> omega, Lib.hid (OwnI.nil _ _ _), Lib.hid (Ext.refl _)⟩
  case round =>
    obtain ⟨k, v, hk, rfl, rfl, hO, hE⟩ := hrel
    obtain ⟨A, c, hov, -, -, -, -, -⟩ := hO.out.open_
    rw [List.length_map, List.length_range] at hov
    subst hov
    by_cases hlt : p + k ≤ r
    · -- <<A
      have hd : decide ((p : Int) + (k : Int) ≤ (hi : Int) / 10) = true := by have := hr2.out; simp; omega
      have hd' : (p : Int) + (k : Int) ≤ (hi : Int) / 10 := by have := hr2.out; omega
      have hd2 : decide ((p : Int) + (k : Int) ≤ 23) = true := by simp; omega
      have hb5 := Ext.alloc wr (.cells #[.int .i64 ((p : Int) + (k : Int))] 3)
      have hO5 := hO.out.ext hb5
      have hsrc := Lib.hid (Src.one wr (.int .i64 ((p : Int) + (k : Int))) 3)
      have hown : (wr.alloc (.cells #[.int .i64 ((p : Int) + (k : Int))] 3)).ownsRow w.heap.size 3 1 (.slice A k c) k (((List.range k).map fun i : Nat => ((p + i : Nat) : Int)).map (Value.int .i64)) := by
        have := hO5
        unfold OwnI at this
        rwa [List.length_map, List.length_range] at this
      have hE5 := Lib.hid (hE.out.trans hb5)
      have hsz5 : w.heap.size ≤ (wr.alloc (.cells #[.int .i64 ((p : Int) + (k : Int))] 3)).heap.size := hE5.out.size
      have Hw : Hid (∀ v' w', w'.ownsRow w.heap.size 3 1 v' (k + 1) (((List.range k).map fun i : Nat => ((p + i : Nat) : Int)).map (Value.int .i64) ++ [.int .i64 ((p : Int) + (k : Int))]) → (wr.alloc (.cells #[.int .i64 ((p : Int) + (k : Int))] 3)).grownBy w' (Value.slice A k c).ownBlock → OwnI w' w.heap.size 3 v' ((List.range (k + 1)).map fun i : Nat => ((p + i : Nat) : Int)) ∧ Ext w w') := by
        intro v' w' h1 hg
        refine ⟨?_, Below.grown hE5.out hg hE5.out.size fun j hj => (ownsRow_own hown j hj).1⟩
        unfold OwnI
        rw [List.length_map, List.length_range, List.range_succ, List.map_append, List.map_append]
        have e : (([k].map fun i : Nat => ((p + i : Nat) : Int)).map (Value.int .i64)) = [.int .i64 ((p : Int) + (k : Int))] := by
          show [Value.int .i64 ((p + k : Nat) : Int)] = _
          rw [Int.natCast_add]
        rw [e]
        exact h1
      clear hb5 hO5 hO hE
      go_wp2_with (at_builtin; refine wpList_app rfl _ _ 28 rfl w.heap.size 3 ti (.int .i64 0) 1 8 Try.underlying28 hit hz0 hz1 hz2 rfl (by decide) (.slice A k c) k _ rfl hown (some ⟨wr.heap.size, 0, none⟩) 1 1 [.int .i64 ((p : Int) + (k : Int))] rfl rfl hsrc.out ?c2 ?c3 ?c4 ?c5 ?_; (case c2 => (intro u hu; rw [List.mem_singleton] at hu; subst hu; rfl)); (case c3 => (unfold maxLen; omega)); (case c4 => omega); (case c5 => exact hsz5); intro v' w5 h5 hg hblk; have H5 := Lib.hid (Hw.out v' w5 h5 hg); obtain ⟨A9, c9, rfl⟩ := ownsRow_slice h5; clear h5 hg hblk)
      go_roundw
      case rel => exact ⟨k + 1, _, by omega, rfl, by congr 1 <;> omega, H5.out.1, H5.out.2⟩
      case measure => simp [intOf]; omega
      -- >>
    · -- <<B
      have hd : decide ((p : Int) + (k : Int) ≤ (hi : Int) / 10) = false := by have := hr2.out; simp; omega
      have hd' : ¬ (p : Int) + (k : Int) ≤ (hi : Int) / 10 := by have := hr2.out; omega
      have hke : k = r + 1 - p := by omega
      have hfin : Hid ((List.range k).map (fun i : Nat => ((p + i : Nat) : Int)) = spanL lo hi) := by
        unfold Hid spanL; rw [Hp.out, Hr.out, ← hke]
      clear hke
      go_wp2_with fail
      go_ret
      exact ⟨_, rfl, by rw [← hfin.out]; exact hO.out, hE.out⟩
      -- >>
end Go.Proofs.Pet
