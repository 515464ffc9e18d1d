/- Joined texts: PBB, PBC, PO, O0, TC1, TC2. -/
import Derived.Test.YtnapmppdjlnbdaaJ03
import Derived.Test.YtnapmppdjlnbdaaJ02
import Derived.Test.YtnapmppdjlnbdaaB0
import Derived.KernelRfl
namespace Go.Proofs.Pet
set_option linter.unusedSimpArgs false
open Go Go.RowKit Go.Maps Go.Shelf
open Go.Proofs.Pow (PM Sh Wv POk Up)

def natL (g : List Int) : List Nat := g.map Int.toNat
theorem ints_natL {m : PM} {g : List Int} (h : Pow.InG m g) : ints (natL g) = g := by
  unfold ints natL
  rw [List.map_map]
  refine (List.map_congr_left fun x hx => ?_).trans (List.map_id g)
  have := h x hx
  show ((x.toNat : Nat) : Int) = id x
  simp only [id]
  omega
theorem natL_ints (l : List Nat) : natL (ints l) = l := by
  unfold ints natL
  rw [List.map_map]
  exact (List.map_congr_left fun x _ => rfl).trans (List.map_id l)
theorem nodup_all {n : Nat} {l : List Nat} (hn : l.Nodup) (hl : l.length = n) (hb : ∀ x, x ∈ l → x < n) {k : Nat} (hk : k < n) : k ∈ l := by
  by_cases h : k ∈ l
  · exact h
  · have := Pow.nodup_le (r := List.range n) (List.nodup_cons.2 ⟨h, hn⟩) fun x hx => by
      rcases List.mem_cons.1 hx with rfl | hx
      · exact List.mem_range.2 hk
      · exact List.mem_range.2 (hb x hx)
    rw [List.length_cons, List.length_range] at this
    omega
def addsE (m : PM) (g : List Int) : Int := if checkP m ≠ 0 then checkP m else if g.length ≠ m.wvs.length then 2 else groupE m g
/-- what has been written down after i of them -/
def addR (m : PM) (l : List Nat) (i k : Nat) : Int := if (l.take i).contains k then Pow.addF m l (l.findIdx fun x => decide (x = k)) else 0
theorem addR_zero (m : PM) (l : List Nat) (k : Nat) : addR m l 0 k = 0 := by simp [addR]
theorem addR_next {m : PM} {l : List Nat} (hn : l.Nodup) {i : Nat} (hi : i < l.length) (k : Nat) : (if k = l[i] then Pow.addF m l i else addR m l i k) = addR m l (i + 1) k := by
  unfold addR
  have ht : l.take (i + 1) = l.take i ++ [l[i]] := by rw [List.take_add_one, List.getElem?_eq_getElem hi]; rfl
  rw [ht]
  by_cases e : k = l[i]
  · subst e
    rw [if_pos rfl, if_pos (List.contains_iff_mem.2 (List.mem_append.2 (.inr (List.mem_singleton.2 rfl)))), Pow.findIdx_at hn hi]
  · rw [if_neg e]
    have : (l.take i ++ [l[i]]).contains k = (l.take i).contains k := by
      rw [Bool.eq_iff_iff, List.contains_iff_mem, List.contains_iff_mem, List.mem_append, List.mem_singleton]
      exact ⟨fun h => h.resolve_right e, .inl⟩
    rw [this]
theorem addR_all {m : PM} {l : List Nat} (_hl : l.length = m.wvs.length) (hall : ∀ k, k < m.wvs.length → k ∈ l) : (List.range m.wvs.length).map (addR m l l.length) = Pow.addsF m l := by
  unfold Pow.addsF
  refine List.map_congr_left fun k hk => ?_
  unfold addR
  rw [List.take_of_length_le (Nat.le_refl _), if_pos (by rw [List.contains_iff_mem]; exact hall k (List.mem_range.1 hk))]

set_option maxRecDepth 20000 in
set_option maxHeartbeats 1000000 in
theorem Adds_any (v : Value) (m : PM) (A : Option Addr) (c n : Nat) (g : List Int) (hn : g.length = n) (r : Int) (x : List Int) (hr : addsE m g = r) (hx : (if r = 0 then Pow.addsF m (natL g) else []) = x) (w : World) (hv : PMVal w v m) (hl : n ≤ maxLen) (hlc : n ≤ c) (hA : IntsAt w A g) :
    Calls Try.prog 11 #[v, .slice A n c] w fun e w' => ∃ u, e = .returned (.tuple #[u, .int .i64 r]) ∧ OwnI w' w.heap.size 3 u x ∧ Ext w w' := by
  obtain ⟨ti, hi, hz0, hz1, hz2⟩ := info_parts info_int
  subst hn
  have hl' := hl
  unfold maxLen at hl'
  have Hv := Lib.hid hv
  obtain ⟨A1, c1, A2, c2, rfl, h2, h3, h4, h5, h6, h7⟩ := hv
  have hwl : m.wvs.length ≤ maxLen := Nat.le_trans h4 h5
  unfold maxLen at hwl
  have hE := Ext.alloc w (.cells #[.slice A1 m.shafts.length c1, .slice A2 m.wvs.length c2] 38)
  have hM := Blk.new w 38 #[.slice A1 m.shafts.length c1, .slice A2 m.wvs.length c2]
  obtain ⟨k0, k1⟩ := hM.c2
  have HM := Lib.hid hM
  have Hr := Lib.hid hr; have Hx := Lib.hid hx
  have hck := pcheck_any _ m _ (Hv.out.ext hE)
  obtain ⟨cp, hcp⟩ : ∃ cp, checkP m = cp := ⟨_, rfl⟩
  rw [hcp] at hck
  have Hck := Lib.hid hck; have Hcp := Lib.hid hcp
  clear h6 h7 hM hr hx hck hcp
  go_enter Try.func11, Try.ntmps11
  go_wp2_with fail
  refine Hck.out.mono ?_
  rintro e w1 ⟨rfl, he1⟩
  have hE1 := hE.trans he1
  have hM1 := HM.out.ext he1
  clear k0 k1 he1
  obtain ⟨k0, k1⟩ := hM1.c2
  by_cases h0 : cp = 0
  · subst h0
    by_cases hle : g.length = m.wvs.length
    · have Hle := Lib.hid hle
      have hdl : ((g.length : Int) != (m.wvs.length : Int)) = false := by rw [hle]; simp
      clear hle
      obtain ⟨r0, hr0⟩ : ∃ r0, groupE m g = r0 := ⟨_, rfl⟩
      have ho := Lib.hid (grouped_any _ m A c g.length g rfl r0 hr0 w1 (Hv.out.ext hE1) hl hlc (hA.ext hE1))
      have Hr0 := Lib.hid hr0; clear hr0
      obtain rfl : r = r0 := by rw [← Hr.out, ← Hr0.out]; unfold addsE; rw [if_neg (by simp [Hcp.out]), if_neg (by simp [Hle.out])]
      go_wp2_with fail
      refine ho.out.mono ?_
      rintro e w2 ⟨pv, rfl, he2, hop⟩
      have hE2 := hE1.trans he2
      by_cases h0 : r = 0
      · subst h0
        obtain ⟨D, rfl, hD, -⟩ := hop rfl
        obtain ⟨hc, hg, hnd, hl6⟩ := groupE_ok Hr0.out
        have hm := (checkP_iff m).1 hc
        have HD := Lib.hid hD; have HA := Lib.hid (hA.ext hE2); have Hm := Lib.hid hm
        have hgl : ints (natL g) = g := ints_natL hg
        have hnl : (natL g).length = g.length := by simp [natL]
        have hndl : (natL g).Nodup := by
          rw [← hgl] at hnd
          exact (List.pairwise_map.1 hnd).imp fun h e => h (congrArg _ e)
        have Hx' : Hid (Pow.addsF m (natL g) = x) := by unfold Hid; rw [← Hx.out, if_pos rfl]
        have hbl : ∀ k, k ∈ natL g → k < m.wvs.length := fun k hk => by
          unfold natL at hk
          obtain ⟨y, hy, rfl⟩ := List.mem_map.1 hk
          have := hg y hy; omega
        have Hg := Lib.hid hg; have Hgl := Lib.hid hgl; have Hnl := Lib.hid hnl; have Hndl := Lib.hid hndl; have Hbl := Lib.hid hbl
        have hmk : ∀ W : World, (Instr.makeSlice 28 (.int .i64 (g.length : Int)) (.int .i64 (g.length : Int))).run Try.prog W = .ok (.slice (some ⟨W.heap.size, 0, none⟩) g.length g.length) (W.alloc (.cells (madeCells #[.int .i64 0] g.length) 3)) := by
          intro W
          have := run_make (P := Try.prog) W 28 3 ti _ Try.underlying28 hi hz0 .i64 .i64 g.length g.length (by omega) (by omega) (by rw [hz2]; omega) (by omega)
          simpa [hz1, Value.cells] using this
        have hX := Ext.alloc w2 (.cells (madeCells #[.int .i64 0] g.length) 3)
        have hS := Row.made (Blk.new w2 3 (madeCells #[.int .i64 0] g.length))
        clear hD hc hA ho hop hm hgl hnl hndl hbl hg hnd hdl k0 k1
        go_wp2_with fail
        clear hmk
        obtain ⟨S, hSe⟩ : ∃ S, w2.heap.size = S := ⟨_, rfl⟩
        rw [hSe] at hS ⊢
        have hS0 := hS.congr (g := addR m (natL g) 0) fun j _ => (addR_zero m _ j).symm
        generalize w2.alloc _ = w3 at *
        have HSe := Lib.hid hSe
        clear hS hSe
        go_loopw [37] (fun i wr => ∃ k : Nat, k ≤ g.length ∧ i = .int .i64 (k : Int) ∧ Ext w2 wr ∧ Row wr S g.length (addR m (natL g) k)) (fun i _ => g.length - (intOf i).toNat)
        case atStart => exact ⟨0, Nat.zero_le _, rfl, hX, hS0⟩
        case round =>
          clear hX hS0
          obtain ⟨i, hi', rfl, hew, hR⟩ := hrel
          by_cases hlt : i < g.length
          · obtain ⟨b, o, rfl, q1⟩ := HA.out.ext hew i hlt
            have hil : i < (natL g).length := by rw [Hnl.out]; exact hlt
            obtain ⟨kk, hkk⟩ : ∃ kk, (natL g)[i] = kk := ⟨_, rfl⟩
            have hgi : g[i]?.getD 0 = (kk : Int) := by
              rw [← Hgl.out, ints_get _ hil, List.getElem?_eq_getElem hil, ← hkk]; rfl
            rw [hgi] at q1
            have hkl : kk < m.wvs.length := Hbl.out kk (hkk ▸ List.getElem_mem hil)
            have hkl' : kk < g.length := by rw [Hle.out]; exact hkl
            have Hnx : Hid (∀ k, (if k = kk then Pow.addF m (natL g) i else addR m (natL g) i k) = addR m (natL g) (i + 1) k) := fun k => by rw [← hkk]; exact addR_next Hndl.out hil k
            have hca := Pow.cost_bounds Hm.out (Pow.befB (natL g) (i + 1))
            have hcb := Pow.cost_bounds Hm.out (Pow.befB (natL g) i)
            have hck : ∀ j, Pow.costF m (fun k => (g.take j).contains (k : Int)) = Pow.costF m (Pow.befB (natL g) j) := fun j => by
              congr 1
              funext k
              have : g.take j = ints ((natL g).take j) := by
                conv => lhs; rw [← Hgl.out]
                unfold ints; rw [List.map_take]
              rw [this, ints_contains]; rfl
            have Hadd : Hid (Pow.addF m (natL g) i = Pow.costF m (Pow.befB (natL g) (i + 1)) - Pow.costF m (Pow.befB (natL g) i)) := rfl
            obtain ⟨ca, hcae⟩ : ∃ ca, Pow.costF m (Pow.befB (natL g) (i + 1)) = ca := ⟨_, rfl⟩
            obtain ⟨cb, hcbe⟩ : ∃ cb, Pow.costF m (Pow.befB (natL g) i) = cb := ⟨_, rfl⟩
            rw [hcae] at hca Hadd
            rw [hcbe] at hcb Hadd
            have HcA := fun W (hW : Ext w2 W) => cost_anyP D m Hm.out (some ⟨b, o, none⟩) c (i + 1) (g.take (i + 1)) (by rw [List.length_take]; omega) (fun y hy => Hg.out y (List.mem_of_mem_take hy)) (by omega) ca ((hck _).trans hcae) W (HD.out.ext hW) ((HA.out.ext hW).take (i + 1))
            have HcB := fun W (hW : Ext w2 W) => cost_anyP D m Hm.out (some ⟨b, o, none⟩) c i (g.take i) (by rw [List.length_take]; omega) (fun y hy => Hg.out y (List.mem_of_mem_take hy)) (by omega) cb ((hck _).trans hcbe) W (HD.out.ext hW) ((HA.out.ext hW).take i)
            have HCA := Lib.hid HcA; have HCB := Lib.hid HcB
            have hic : i + 1 ≤ c := by omega
            clear HcA HcB hck hcae hcbe hkk hgi
            go_upto_region 13 with fail
            clear q1
            refine wp_region_chain 14 [(7, true), (12, true), (13, true)] [] (by kernel_rfl) (by kernel_rfl) (by kernel_rfl) ?_
            simp only [List.take, List.drop, fill, Act.put, List.setIfInBounds_toArray, List.set_cons_zero, List.set_cons_succ, Nat.reduceAdd]
            repeat (first
              | refine Floats.mut rfl ?_
              | (apply Floats.float rfl
                 · intro x W he hd K Q hK
                   try (have he := he (by decide))
                   try simp only [edges, DepsE, List.filter_cons, List.filter_nil, Region.binds, if_true, and_true, true_and, upd, Nat.reduceEqDiff, if_false] at hd
                   try simp only [hd] at hK ⊢
                   have HK := Lib.hid hK; clear hK
                   go_wp2_with fail
                   exact HK.out))
            refine Floats.done fun W he hG => ?_
            refine Chain.cons _ rfl ?_
            intro x hd K Q hK
            try simp only [edges, DepsE, List.filter_cons, List.filter_nil, Region.binds, if_true, and_true, true_and, upd, Nat.reduceEqDiff, if_false] at hd
            try simp only [hd] at hK ⊢
            clear hd
            have HK := Lib.hid hK; clear hK
            go_wp2_with fail
            refine (HCA.out W (hew.trans he)).mono ?_
            rintro e w4 ⟨rfl, he4⟩
            have hA4 := he.trans he4
            go_wp2_with fail
            refine HK.out _ _ (fun _ => hA4) ?_
            clear HK he he4 hG
            refine Chain.cons _ rfl ?_
            intro x hd K Q hK
            try simp only [edges, DepsE, List.filter_cons, List.filter_nil, Region.binds, if_true, and_true, true_and, upd, Nat.reduceEqDiff, if_false] at hd
            try simp only [hd] at hK ⊢
            clear hd
            have HK := Lib.hid hK; clear hK
            go_wp2_with fail
            refine (HCB.out w4 (hew.trans hA4)).mono ?_
            rintro e w5 ⟨rfl, he5⟩
            have hA5 := hA4.trans he5
            go_wp2_with fail
            refine HK.out _ _ (fun _ => hA5) ?_
            clear HK hA4 he5
            refine Chain.cons _ rfl ?_
            intro x hd K Q hK
            try simp only [edges, DepsE, List.filter_cons, List.filter_nil, Region.binds, if_true, and_true, true_and, upd, Nat.reduceEqDiff, if_false] at hd
            try simp only [hd] at hK ⊢
            clear hd
            have HK := Lib.hid hK; clear hK
            go_wp2_with fail
            refine HK.out _ _ (fun _ => hA5) ?_
            clear HK
            refine Chain.nil ?_
            simp only [upd, Nat.reduceEqDiff, if_false, if_true]
            have hR5 := hR.ext hA5
            have hcell := hR5.cell hkl'
            have hfr := hR5.frozen kk
            have hE5 := hew.trans hA5
            go_wp2_with fail
            go_roundw
            case rel =>
              refine ⟨i + 1, by omega, by go_num, Below.setCell hE5 (by show _ ≤ S; have := HSe.out; omega) _, (hR5.set_ hkl' (ca - cb)).congr fun j hj => ?_⟩
              rw [← Hnx.out, Hadd.out]
            case measure => simp [intOf]; omega
          · obtain rfl : i = g.length := by omega
            have hO := hR.own (base := S) (Nat.le_refl _) (by unfold maxLen; omega)
            have hxx : (List.range g.length).map (addR m (natL g) g.length) = x := by
              rw [← Hx'.out, ← addR_all (Hnl.out.trans Hle.out) fun k hk => nodup_all Hndl.out (Hnl.out.trans Hle.out) Hbl.out hk, Hnl.out, Hle.out]
            rw [hxx] at hO
            have HO := Lib.hid hO
            clear hO hxx hR
            go_wp2_with fail
            go_ret2
            exact ⟨_, rfl, HO.out.mono (by have := hE2.size; have := HSe.out; omega), hE2.trans hew⟩
      · obtain rfl : x = [] := by rw [← Hx.out, if_neg h0]
        have hd : (r != 0) = true := by simpa using h0
        clear h0 hop ho
        go_wp2_with fail
        go_ret2
        exact ⟨_, rfl, OwnI.nil _ _ _, hE2⟩
    · obtain rfl : r = 2 := by rw [← Hr.out]; unfold addsE; rw [if_neg (by simp [Hcp.out]), if_pos hle]
      obtain rfl : x = [] := by rw [← Hx.out]; rfl
      have hdl : ((g.length : Int) != (m.wvs.length : Int)) = true := by simp; omega
      go_wp2_with fail
      go_ret2
      exact ⟨_, rfl, OwnI.nil _ _ _, hE1⟩
  · obtain rfl : r = cp := by rw [← Hr.out, ← Hcp.out]; unfold addsE; rw [if_pos (by rw [Hcp.out]; exact h0)]
    obtain rfl : x = [] := by rw [← Hx.out, if_neg h0]
    have hd : (r != 0) = true := by simpa using h0
    clear h0
    go_wp2_with fail
    go_ret2
    exact ⟨_, rfl, OwnI.nil _ _ _, hE1⟩
end Go.Proofs.Pet

namespace Go.Proofs.Pet
open Go Go.RowKit Go.Maps Go.Shelf
open Go.Proofs.Pow (PM Sh Wv POk Up)
attribute [local go_sem] Oper.semAt_some

theorem ownsRow_cellsP {w : World} {base size n : Nat} {e : TypeId} {v : Value} {xs : List Value} (h : w.ownsRow base e size v n xs) (j : Nat) (o : Obj) (hj : v.ownBlock = some j) (ho : w.heap[j]? = some o) : o.isCells = true := by
  rcases h.2 with ⟨rfl, _⟩ | ⟨g, cap, cur, rfl, _, hb, _⟩
  · cases hj
  · have : g = j := Option.some.inj hj
    subst this
    rw [hb] at ho
    cases ho; rfl
end Go.Proofs.Pet

namespace Go.Proofs.Pet
open Go Go.RowKit Go.Maps Go.Shelf
open Go.Proofs.Pow (PM Sh Wv POk Up)

def shFlat : List Sh → List Value
  | [] => []
  | x :: xs => .int .i64 x.up :: .int .i64 x.price :: shFlat xs
theorem shFlat_len : ∀ xs : List Sh, (shFlat xs).length = xs.length * 2
  | [] => rfl
  | x :: xs => by simp [shFlat, shFlat_len xs]; omega
theorem shFlat_one : ∀ (xs : List Sh), ∀ u ∈ shFlat xs, u.oneCell' = true
  | [], u, h => by cases h
  | x :: xs, u, h => by
    simp only [shFlat, List.mem_cons] at h
    rcases h with rfl | rfl | h
    · rfl
    · rfl
    · exact shFlat_one xs u h
theorem shFlat_append : ∀ xs ys : List Sh, shFlat (xs ++ ys) = shFlat xs ++ shFlat ys
  | [], _ => rfl
  | x :: xs, ys => by simp [shFlat, shFlat_append xs ys]
theorem shFlat_at : ∀ (xs : List Sh) (k : Nat), k < xs.length → (shFlat xs)[k * 2]? = some (.int .i64 (xs[k]?.getD default).up) ∧ (shFlat xs)[k * 2 + 1]? = some (.int .i64 (xs[k]?.getD default).price)
  | x :: xs, 0, _ => ⟨rfl, rfl⟩
  | x :: xs, k + 1, h => by
    have := shFlat_at xs k (by simpa using h)
    rw [show (k + 1) * 2 = k * 2 + 1 + 1 by omega]
    simpa [shFlat] using this
/-- weavers as cells, R says what their hours are -/
def WvF (R : Value → Wv → Prop) : List Value → List Wv → Prop
  | [], [] => True
  | s :: u :: cs, x :: xs => s = .int .i64 x.shaft ∧ R u x ∧ WvF R cs xs
  | _, _ => False
theorem WvF.map {R S : Value → Wv → Prop} (f : ∀ u x, R u x → S u x) : ∀ {cs : List Value} {xs : List Wv}, WvF R cs xs → WvF S cs xs
  | [], [], _ => trivial
  | _ :: _ :: _, _ :: _, ⟨h1, h2, h3⟩ => ⟨h1, f _ _ h2, h3.map f⟩
theorem WvF.append {R : Value → Wv → Prop} : ∀ {cs : List Value} {xs : List Wv} {ds : List Value} {ys : List Wv}, WvF R cs xs → WvF R ds ys → WvF R (cs ++ ds) (xs ++ ys)
  | [], [], _, _, _, h => h
  | _ :: _ :: _, _ :: _, _, _, ⟨h1, h2, h3⟩, h => ⟨h1, h2, h3.append h⟩
theorem WvF.length {R : Value → Wv → Prop} : ∀ {cs : List Value} {xs : List Wv}, WvF R cs xs → cs.length = xs.length * 2
  | [], [], _ => rfl
  | _ :: _ :: _, _ :: _, ⟨_, _, h3⟩ => by have := h3.length; simp; omega
theorem WvF.one {R : Value → Wv → Prop} (hR : ∀ u x, R u x → u.oneCell' = true) : ∀ {cs : List Value} {xs : List Wv}, WvF R cs xs → ∀ u ∈ cs, u.oneCell' = true
  | [], [], _, u, h => by cases h
  | _ :: _ :: _, _ :: _, ⟨h1, h2, h3⟩, u, h => by
    subst h1
    simp only [List.mem_cons] at h
    rcases h with rfl | rfl | h
    · rfl
    · exact hR _ _ h2
    · exact h3.one hR u h
theorem WvF.at_ {R : Value → Wv → Prop} : ∀ {cs : List Value} {xs : List Wv}, WvF R cs xs → ∀ k, k < xs.length → cs[k * 2]? = some (.int .i64 (xs[k]?.getD default).shaft) ∧ ∃ u, cs[k * 2 + 1]? = some u ∧ R u (xs[k]?.getD default)
  | [], [], _, k, h => absurd h (by simp)
  | _ :: _ :: _, _ :: _, ⟨h1, h2, h3⟩, 0, _ => ⟨by rw [h1]; rfl, _, rfl, h2⟩
  | _ :: _ :: cs, _ :: xs, ⟨h1, h2, h3⟩, k + 1, h => by
    obtain ⟨g1, u, g2, g3⟩ := h3.at_ k (by simpa using h)
    rw [show (k + 1) * 2 = k * 2 + 1 + 1 by omega]
    exact ⟨by simpa using g1, u, by simpa using g2, by simpa using g3⟩
theorem WvF.get {R : Value → Wv → Prop} : ∀ {cs : List Value} {x : Wv} {xs : List Wv}, WvF R cs (x :: xs) → ∃ u es, cs = .int .i64 x.shaft :: u :: es ∧ R u x ∧ WvF R es xs
  | _ :: u :: es, _, _, ⟨h1, h2, h3⟩ => ⟨u, es, by rw [h1], h2, h3⟩
/-- hours that can be read -/
def rdW (w : World) (u : Value) (x : Wv) : Prop := SlI w u x.hours
def ownW (w : World) (base : Nat) (u : Value) (x : Wv) : Prop := OwnI w base 3 u x.hours
def OwnShs (w : World) (base : Nat) (v : Value) (xs : List Sh) : Prop := w.ownsRow base 73 2 v xs.length (shFlat xs)
def OwnWvs (w : World) (base : Nat) (v : Value) (xs : List Wv) : Prop := ∃ cs, w.ownsRow base 43 2 v xs.length cs ∧ WvF (ownW w base) cs xs
section
variable {w w' : World} {base base' b : Nat} {v : Value} {xs : List Sh} {ys : List Wv}
theorem OwnShs.nil : OwnShs w base (.slice none 0 0) [] := World.ownsRow_nil _ _ _ _
theorem OwnWvs.nil : OwnWvs w base (.slice none 0 0) [] := ⟨[], World.ownsRow_nil _ _ _ _, trivial⟩
theorem OwnShs.ext (h : OwnShs w base v xs) (he : Ext w w') : OwnShs w' base v xs := ownsRow_ext2 h he
theorem OwnWvs.ext (h : OwnWvs w base v ys) (he : Ext w w') : OwnWvs w' base v ys := by
  obtain ⟨cs, h1, h2⟩ := h
  exact ⟨cs, ownsRow_ext2 h1 he, h2.map fun _ _ g => OwnI.ext g he⟩
theorem OwnShs.mono (h : OwnShs w base v xs) (hb : base' ≤ base) : OwnShs w base' v xs := ownsRow_mono h hb
theorem OwnWvs.mono (h : OwnWvs w base v ys) (hb : base' ≤ base) : OwnWvs w base' v ys := by
  obtain ⟨cs, h1, h2⟩ := h
  exact ⟨cs, ownsRow_mono h1 hb, h2.map fun _ _ g => OwnI.mono g hb⟩
theorem OwnShs.apart (h : OwnShs w base v xs) (hb : b < base) (ha : Apart b w w') : OwnShs w' base v xs := ownsRow_apart h (fun e => by have := (ownsRow_own h b e).1; omega) ha
theorem OwnWvs.apart (h : OwnWvs w base v ys) (hb : b < base) (ha : Apart b w w') : OwnWvs w' base v ys := by
  obtain ⟨cs, h1, h2⟩ := h
  exact ⟨cs, ownsRow_apart h1 (fun e => by have := (ownsRow_own h1 b e).1; omega) ha, h2.map fun _ _ g => OwnI.apartB g hb ha⟩
theorem OwnShs.at_ (h : OwnShs w base v xs) : ∃ A c, v = .slice A xs.length c ∧ xs.length ≤ c ∧ c ≤ maxLen ∧ ShsAt w A xs := by
  rcases h.2 with ⟨rfl, h0⟩ | ⟨g, cap, cur, rfl, hg, hb, hn, hm, hs, hc⟩
  · have : xs = [] := List.length_eq_zero_iff.1 h0
    subst this
    exact ⟨none, 0, rfl, Nat.le_refl _, by unfold maxLen; omega, fun k hk => by simp at hk⟩
  · refine ⟨_, cap, rfl, hn, hm, fun k hk => ⟨g, 0, rfl, ?_⟩⟩
    obtain ⟨g1, g2⟩ := shFlat_at xs k hk
    rw [← hc, List.getElem?_take, if_pos (by omega), Array.getElem?_toList] at g1 g2
    have hB : Blk w g 73 cur := hb
    refine ⟨?_, ?_⟩
    · rw [Nat.zero_add, hB.cell]; exact g1
    · rw [Nat.zero_add, hB.cell]; exact g2
theorem OwnWvs.at_ (h : OwnWvs w base v ys) : ∃ A c, v = .slice A ys.length c ∧ ys.length ≤ c ∧ c ≤ maxLen ∧ WvsAt w A ys := by
  obtain ⟨cs, h, h2⟩ := h
  rcases h.2 with ⟨rfl, h0⟩ | ⟨g, cap, cur, rfl, hg, hb, hn, hm, hs, hc⟩
  · have : ys = [] := List.length_eq_zero_iff.1 h0
    subst this
    exact ⟨none, 0, rfl, Nat.le_refl _, by unfold maxLen; omega, fun k hk => by simp at hk⟩
  · refine ⟨_, cap, rfl, hn, hm, fun k hk => ⟨g, 0, rfl, ?_⟩⟩
    obtain ⟨g1, u, g2, g3⟩ := h2.at_ k hk
    obtain ⟨A, c, rfl, r1, r2, r3, -, -⟩ := OwnI.open_ g3
    rw [← hc, List.getElem?_take, if_pos (by omega), Array.getElem?_toList] at g1 g2
    have hB : Blk w g 43 cur := hb
    refine ⟨A, c, ⟨r1, r2⟩, ?_, ?_, r3⟩
    · rw [Nat.zero_add, hB.cell]; exact g1
    · rw [Nat.zero_add, hB.cell]; exact g2
end
/-- a mill of the call's own -/
def OwnPM (w : World) (base : Nat) (v : Value) (m : PM) : Prop := ∃ s1 s2, v = .agg #[s1, s2] ∧ OwnShs w base s1 m.shafts ∧ OwnWvs w base s2 m.wvs
section
variable {w w' : World} {base base' b : Nat} {v : Value} {m : PM}
theorem OwnPM.ext (h : OwnPM w base v m) (he : Ext w w') : OwnPM w' base v m := by
  obtain ⟨s1, s2, e, h1, h2⟩ := h
  exact ⟨s1, s2, e, h1.ext he, h2.ext he⟩
theorem OwnPM.mono (h : OwnPM w base v m) (hb : base' ≤ base) : OwnPM w base' v m := by
  obtain ⟨s1, s2, e, h1, h2⟩ := h
  exact ⟨s1, s2, e, h1.mono hb, h2.mono hb⟩
theorem OwnPM.apart (h : OwnPM w base v m) (hb : b < base) (ha : Apart b w w') : OwnPM w' base v m := by
  obtain ⟨s1, s2, e, h1, h2⟩ := h
  exact ⟨s1, s2, e, h1.apart hb ha, h2.apart hb ha⟩
theorem OwnPM.val (h : OwnPM w base v m) : PMVal w v m := by
  obtain ⟨s1, s2, e, h1, h2⟩ := h
  obtain ⟨A1, c1, e1, g1, g2, g3⟩ := h1.at_
  obtain ⟨A2, c2, e2, g4, g5, g6⟩ := h2.at_
  exact ⟨A1, c1, A2, c2, by rw [e, e1, e2], g1, g2, g4, g5, g3, g6⟩
instance : Lift (OwnPM w b v m) w w' (OwnPM w' b v m) := ⟨fun he h => h.ext he⟩
end
/-! Copies. -/
theorem addr_off (b o j : Nat) : (⟨b, o, none⟩ : Addr).add j = ⟨b, o + j, none⟩ := by unfold Addr.add; split <;> simp_all
theorem ShsAt.src {w : World} {A : Option Addr} {xs : List Sh} (h : ShsAt w A xs) : Src w A (shFlat xs) := by
  cases xs with
  | nil => exact .inl rfl
  | cons x l =>
    obtain ⟨b, o, rfl, _⟩ := h 0 (by simp)
    refine .inr ⟨_, rfl, fun j u hu => ?_⟩
    rw [addr_off]
    have hj : j < (shFlat (x :: l)).length := (List.getElem?_eq_some_iff.1 hu).1
    rw [shFlat_len] at hj
    obtain ⟨k, hjk⟩ : ∃ k, j = k * 2 ∨ j = k * 2 + 1 := ⟨j / 2, by omega⟩
    have hk : k < (x :: l).length := by omega
    obtain ⟨b', o', e, h1, h2⟩ := h k hk
    simp only [Option.some.injEq, Addr.mk.injEq, and_true] at e
    obtain ⟨rfl, rfl⟩ := e
    obtain ⟨g1, g2⟩ := shFlat_at (x :: l) k hk
    rcases hjk with rfl | rfl
    · rw [g1] at hu
      rw [h1, ← hu]
    · rw [g2] at hu
      rw [show o + (k * 2 + 1) = o + k * 2 + 1 by omega, h2, ← hu]
theorem wv_cells {w : World} {b : Nat} : ∀ (xs : List Wv) (o : Nat), (∀ k, k < xs.length → WvCells w b (o + k * 2) (xs[k]?.getD default)) → ∃ cs, WvF (rdW w) cs xs ∧ ∀ j u, cs[j]? = some u → w.cell? ⟨b, o + j, none⟩ = some u
  | [], _, _ => ⟨[], trivial, fun j u h => by simp at h⟩
  | x :: xs, o, h => by
    obtain ⟨cs, h1, h2⟩ := wv_cells xs (o + 2) fun k hk => by
      have := h (k + 1) (by simpa using hk)
      rw [show o + (k + 1) * 2 = o + 2 + k * 2 by omega] at this
      simpa using this
    obtain ⟨A, c, hc, k0, k1, k2⟩ := h 0 (by simp)
    simp only [Nat.zero_mul, Nat.add_zero, List.getElem?_cons_zero, Option.getD_some] at k0 k1 k2 hc
    refine ⟨_ :: _ :: cs, ⟨rfl, ⟨A, c, rfl, hc.1, hc.2, k2⟩, h1⟩, fun j u hj => ?_⟩
    rcases j with _ | _ | j
    · simp at hj; subst hj; simpa using k0
    · simp at hj; subst hj; exact k1
    · have := h2 j u (by simpa using hj)
      rw [show o + (j + 1 + 1) = o + 2 + j by omega]
      exact this
theorem WvsAt.src {w : World} {A : Option Addr} {xs : List Wv} (h : WvsAt w A xs) : ∃ cs, WvF (rdW w) cs xs ∧ Src w A cs := by
  cases xs with
  | nil => exact ⟨[], trivial, .inl rfl⟩
  | cons x l =>
    obtain ⟨b, o, rfl, _⟩ := h 0 (by simp)
    obtain ⟨cs, h1, h2⟩ := wv_cells (w := w) (b := b) (x :: l) o fun k hk => by
      obtain ⟨b', o', e, hc⟩ := h k hk
      simp only [Option.some.injEq, Addr.mk.injEq, and_true] at e
      obtain ⟨rfl, rfl⟩ := e
      exact hc
    exact ⟨cs, h1, .inr ⟨_, rfl, fun j u hu => by rw [addr_off]; exact h2 j u hu⟩⟩
theorem rdW_one {w : World} (u : Value) (x : Wv) (h : rdW w u x) : u.oneCell' = true := by
  obtain ⟨A, c, rfl, _⟩ := h
  rfl
theorem info_shaft : (Try.prog.info? 73).map (fun i => (i.zero, i.size, i.bytes)) = some (some (.agg #[.int .i64 0, .int .i64 0]), 2, 16) := by kernel_rfl
theorem info_weaver : (Try.prog.info? 43).map (fun i => (i.zero, i.size, i.bytes)) = some (some (.agg #[.int .i64 0, .slice none 0 0]), 2, 32) := by kernel_rfl
end Go.Proofs.Pet

namespace Go.Proofs.Pet
set_option linter.unusedSimpArgs false
open Go Go.RowKit Go.Maps Go.Shelf

/-- bytes that can be read, all of them ahead of the block b -/
def BytesAt (w : World) (b : Nat) (A : Option Addr) (n : Nat) : Prop :=
  ∀ j, j < n → ∃ b' o u, A = some ⟨b', o, none⟩ ∧ b' < b ∧ w.cell? ⟨b', o + j, none⟩ = some (.int .u8 u)
/-- a spool, of which at most k numbers have been wound off -/
def SpoolAt (w : World) (b k : Nat) : Prop :=
  ∃ A n c st, ∃ at_ : Nat, Blk w b 70 #[.slice A n c, .int .i64 (at_ : Int), .int .u64 st] ∧ n ≤ c ∧ c ≤ maxLen ∧ at_ ≤ k ∧ BytesAt w b A n
theorem BytesAt.ext {w w' : World} {b n : Nat} {A : Option Addr} (h : BytesAt w b A n) (he : Ext w w') : BytesAt w' b A n := fun j hj => by
  obtain ⟨b', o, u, h1, h2, h3⟩ := h j hj
  exact ⟨b', o, u, h1, h2, he.cell h3⟩
theorem BytesAt.apart {w w' : World} {b n : Nat} {A : Option Addr} (h : BytesAt w b A n) (he : Apart b w w') : BytesAt w' b A n := fun j hj => by
  obtain ⟨b', o, u, h1, h2, h3⟩ := h j hj
  refine ⟨b', o, u, h1, h2, ?_⟩
  have hlt := cell_lt h3
  unfold World.cell? at h3 ⊢
  rw [he.block b' hlt (Nat.ne_of_lt h2)]
  exact h3
theorem SpoolAt.ext {w w' : World} {b k : Nat} (h : SpoolAt w b k) (he : Ext w w') : SpoolAt w' b k := by
  obtain ⟨A, n, c, st, a, h1, h2, h3, h4, h5⟩ := h
  exact ⟨A, n, c, st, a, h1.ext he, h2, h3, h4, h5.ext he⟩
theorem SpoolAt.mono {w : World} {b k k' : Nat} (h : SpoolAt w b k) (hk : k ≤ k') : SpoolAt w b k' := by
  obtain ⟨A, n, c, st, a, h1, h2, h3, h4, h5⟩ := h
  exact ⟨A, n, c, st, a, h1, h2, h3, by omega, h5⟩
instance {w w' : World} {b k : Nat} : Lift (SpoolAt w b k) w w' (SpoolAt w' b k) := ⟨fun he h => h.ext he⟩
theorem SpoolAt.lt {w : World} {b k : Nat} (h : SpoolAt w b k) : b < w.heap.size := by
  obtain ⟨A, n, c, st, a, h1, _⟩ := h
  exact h1.lt
theorem mask_bd (x : Int) : 0 ≤ Go.bits .and .i64 x 65535 ∧ Go.bits .and .i64 x 65535 ≤ 65535 := by
  have h16 : (BitVec.ofInt 64 65535).toNat = 2 ^ 16 - 1 := by decide
  have key : (BitVec.ofInt 64 x &&& BitVec.ofInt 64 65535).toNat = (x % ((2 ^ 64 : Nat) : Int)).toNat % 2 ^ 16 := by
    rw [BitVec.toNat_and, BitVec.toNat_ofInt, h16, Nat.and_two_pow_sub_one_eq_mod]
  have e : Go.bits .and .i64 x 65535 = IntKind.i64.wrap ((BitVec.ofInt 64 x &&& BitVec.ofInt 64 65535).toNat : Nat) := rfl
  rw [e, key, IntKind.wrap_i64]
  omega
/-- a number of a spool in its bounds, and the spool goes on -/
def Turned (b k : Nat) (lo hi : Int) (w : World) (e : Ending) (w' : World) : Prop :=
  ∃ r : Int, e = .returned (.int .i64 r) ∧ lo ≤ r ∧ r ≤ hi ∧ SpoolAt w' b (k + 1) ∧ Apart b w w'
set_option maxRecDepth 20000 in
set_option maxHeartbeats 4000000 in
theorem turn_any (b k : Nat) (hk : k ≤ 1000000) (w : World) (hs : SpoolAt w b k) :
    Calls Try.prog 31 #[.pointer (some ⟨b, 0, none⟩)] w (Turned b k 0 65535 w) := by
  obtain ⟨A, n, c, st, a, hb, h2, h3, h4, h5⟩ := hs
  obtain ⟨k0, k1, k2⟩ := hb.c3
  have f1 := hb.frozen 1; have f2 := hb.frozen 2
  unfold maxLen at h3
  have H5 := Lib.hid h5; clear h5
  have Hb := Lib.hid hb; clear hb
  by_cases hn : 0 < n
  · have hm : a % n < n := Nat.mod_lt _ hn
    obtain ⟨b', o, u, rfl, hne, hu⟩ := H5.out (a % n) hm
    have hmod : (a : Int).tmod n = ((a % n : Nat) : Int) := by rw [Int.tmod_eq_emod_of_nonneg (by omega)]; rfl
    have hn0 : ((n : Int) == 0) = false := by simp; omega
    go_enter Try.func31, Try.ntmps31
    go_wp2_with fail
    refine wp_region_chain 25 [] [] (by kernel_rfl) (by kernel_rfl) (by kernel_rfl) ?_
    simp only [List.take, List.drop, fill, Act.put, List.setIfInBounds_toArray, List.set_cons_zero, List.set_cons_succ, Nat.reduceAdd]
    repeat (first
      | refine Floats.mut rfl ?_
      | (apply Floats.float rfl
         · intro x W he hd K Q hK
           try (have he := he (by decide); have k0 := he.cell k0; have k1 := he.cell k1; have k2 := he.cell k2; have hu := he.cell hu)
           try simp only [edges, DepsE, List.filter_cons, List.filter_nil, Region.binds, if_true, and_true, true_and, upd, Nat.reduceEqDiff, if_false] at hd
           try simp only [hd] at hK ⊢
           have HK := Lib.hid hK; clear hK
           go_wp2_with fail
           exact HK.out))
    refine Floats.done fun W he hG => ?_
    have hbW := Hb.out.ext he
    obtain ⟨k0, k1, k2⟩ := hbW.c3
    have f1 := hbW.frozen 1; have f2 := hbW.frozen 2
    refine Chain.nil ?_
    simp only [upd, Nat.reduceEqDiff, if_false, if_true]
    go_wp2_with fail
    have hb1 := (hbW.set_ 2 (.int .u64 (IntKind.u64.wrap (st + IntKind.u64.wrap (IntKind.u64.wrap u * 977))))).set_ 1 (.int .i64 ((a : Int) + 1))
    have hbX : Blk ((W.setCell ⟨b, 2, none⟩ (.int .u64 (IntKind.u64.wrap (st + IntKind.u64.wrap (IntKind.u64.wrap u * 977))))).setCell ⟨b, 1, none⟩ (.int .i64 ((a : Int) + 1))) b 70 #[.slice (some ⟨b', o, none⟩) n c, .int .i64 ((a : Int) + 1), .int .u64 (IntKind.u64.wrap (st + IntKind.u64.wrap (IntKind.u64.wrap u * 977)))] := hb1
    have haX : Apart b w ((W.setCell ⟨b, 2, none⟩ (.int .u64 (IntKind.u64.wrap (st + IntKind.u64.wrap (IntKind.u64.wrap u * 977))))).setCell ⟨b, 1, none⟩ (.int .i64 ((a : Int) + 1))) := ((Apart.of_ext he).set_ 2 _).set_ 1 _
    have ha1 : ((a : Int) + 1) = ((a + 1 : Nat) : Int) := by omega
    rw [ha1] at hbX haX ⊢
    generalize (W.setCell ⟨b, 2, none⟩ (.int .u64 (IntKind.u64.wrap (st + IntKind.u64.wrap (IntKind.u64.wrap u * 977))))).setCell ⟨b, 1, none⟩ (.int .i64 ((a + 1 : Nat) : Int)) = W4 at *
    generalize IntKind.u64.wrap (st + IntKind.u64.wrap (IntKind.u64.wrap u * 977)) = st4 at *
    obtain ⟨a1, ha2⟩ : ∃ a1, a + 1 = a1 := ⟨_, rfl⟩
    rw [ha2] at hbX ⊢
    have ha3 : a1 ≤ k + 1 := by omega
    clear ha1 ha2 he hG hbW k0 k1 k2 f1 f2 hb1 hu
    clear hn0 hmod
    obtain ⟨k0, k1, k2⟩ := hbX.c3
    have f2 := hbX.frozen 2
    have HbX := Lib.hid hbX; clear hbX
    by_cases hgt : n < a1
    · go_wp2_with fail
      refine wp_region_chain 10 [] [] (by kernel_rfl) (by kernel_rfl) (by kernel_rfl) ?_
      simp only [List.take, List.drop, fill, Act.put, List.setIfInBounds_toArray, List.set_cons_zero, List.set_cons_succ, Nat.reduceAdd]
      repeat (first
        | refine Floats.mut rfl ?_
        | (apply Floats.float rfl
           · intro x W he hd K Q hK
             try (have he := he (by decide); have k0 := he.cell k0; have k1 := he.cell k1)
             try simp only [edges, DepsE, List.filter_cons, List.filter_nil, Region.binds, if_true, and_true, true_and, upd, Nat.reduceEqDiff, if_false] at hd
             try simp only [hd] at hK ⊢
             have HK := Lib.hid hK; clear hK
             go_wp2_with fail
             exact HK.out))
      refine Floats.done fun W he hG => ?_
      obtain ⟨k0, k1, k2⟩ := (HbX.out.ext he).c3
      have f2 := (HbX.out.ext he).frozen 2
      have hb6 := (HbX.out.ext he).set_ 2 (.int .u64 (IntKind.u64.wrap (IntKind.u64.wrap (st4 * 1103515245) + 12345)))
      have ha6 := (haX.trans (Apart.of_ext he)).set_ 2 (.int .u64 (IntKind.u64.wrap (IntKind.u64.wrap (st4 * 1103515245) + 12345)))
      have HB6 := Lib.hid hb6; clear hb6
      refine Chain.nil ?_
      simp only [upd, Nat.reduceEqDiff, if_false, if_true]
      go_wp2_with fail
      clear k0 k1 k2 f2 he hG
      obtain ⟨k0, k1, k2⟩ := HB6.out.c3
      refine wp_region_chain 13 [] [] (by kernel_rfl) (by kernel_rfl) (by kernel_rfl) ?_
      simp only [List.take, List.drop, fill, Act.put, List.setIfInBounds_toArray, List.set_cons_zero, List.set_cons_succ, Nat.reduceAdd]
      repeat (first
        | refine Floats.mut rfl ?_
        | (apply Floats.float rfl
           · intro x W he hd K Q hK
             try (have he := he (by decide); have k0 := he.cell k0; have k1 := he.cell k1; have k2 := he.cell k2)
             try simp only [edges, DepsE, List.filter_cons, List.filter_nil, Region.binds, if_true, and_true, true_and, upd, Nat.reduceEqDiff, if_false] at hd
             try simp only [hd] at hK ⊢
             have HK := Lib.hid hK; clear hK
             go_wp2_with fail
             exact HK.out))
      refine Floats.done fun W he hG => ?_
      have hb9 := HB6.out.ext he
      have ha9 := ha6.trans (Apart.of_ext he)
      refine Chain.nil ?_
      simp only [upd, Nat.reduceEqDiff, if_false, if_true]
      go_wp2_with fail
      go_ret
      exact ⟨_, rfl, (mask_bd _).1, (mask_bd _).2, ⟨_, n, c, _, a1, hb9, h2, by unfold maxLen; omega, ha3, H5.out.apart ha9⟩, ha9⟩
    · go_wp2_with fail
      refine wp_region_chain 10 [] [] (by kernel_rfl) (by kernel_rfl) (by kernel_rfl) ?_
      simp only [List.take, List.drop, fill, Act.put, List.setIfInBounds_toArray, List.set_cons_zero, List.set_cons_succ, Nat.reduceAdd]
      repeat (first
        | refine Floats.mut rfl ?_
        | (apply Floats.float rfl
           · intro x W he hd K Q hK
             try (have he := he (by decide); have k0 := he.cell k0; have k1 := he.cell k1)
             try simp only [edges, DepsE, List.filter_cons, List.filter_nil, Region.binds, if_true, and_true, true_and, upd, Nat.reduceEqDiff, if_false] at hd
             try simp only [hd] at hK ⊢
             have HK := Lib.hid hK; clear hK
             go_wp2_with fail
             exact HK.out))
      refine Floats.done fun W he hG => ?_
      have hb6 := HbX.out.ext he
      have ha6 := haX.trans (Apart.of_ext he)
      have HB6 := Lib.hid hb6; clear hb6
      refine Chain.nil ?_
      simp only [upd, Nat.reduceEqDiff, if_false, if_true]
      go_wp2_with fail
      clear k0 k1 k2 f2 he hG
      obtain ⟨k0, k1, k2⟩ := HB6.out.c3
      refine wp_region_chain 13 [] [] (by kernel_rfl) (by kernel_rfl) (by kernel_rfl) ?_
      simp only [List.take, List.drop, fill, Act.put, List.setIfInBounds_toArray, List.set_cons_zero, List.set_cons_succ, Nat.reduceAdd]
      repeat (first
        | refine Floats.mut rfl ?_
        | (apply Floats.float rfl
           · intro x W he hd K Q hK
             try (have he := he (by decide); have k0 := he.cell k0; have k1 := he.cell k1; have k2 := he.cell k2)
             try simp only [edges, DepsE, List.filter_cons, List.filter_nil, Region.binds, if_true, and_true, true_and, upd, Nat.reduceEqDiff, if_false] at hd
             try simp only [hd] at hK ⊢
             have HK := Lib.hid hK; clear hK
             go_wp2_with fail
             exact HK.out))
      refine Floats.done fun W he hG => ?_
      have hb9 := HB6.out.ext he
      have ha9 := ha6.trans (Apart.of_ext he)
      refine Chain.nil ?_
      simp only [upd, Nat.reduceEqDiff, if_false, if_true]
      go_wp2_with fail
      go_ret
      exact ⟨_, rfl, (mask_bd _).1, (mask_bd _).2, ⟨_, n, c, _, a1, hb9, h2, by unfold maxLen; omega, ha3, H5.out.apart ha9⟩, ha9⟩
  · have hn0 : n = 0 := by omega
    subst hn0
    go_enter Try.func31, Try.ntmps31
    go_wp2_with fail
    have hbX := Hb.out.set_ 1 (.int .i64 ((a : Int) + 1))
    have haX : Apart b w (w.setCell ⟨b, 1, none⟩ (.int .i64 ((a : Int) + 1))) := (Apart.refl b w).set_ 1 _
    have hbX : Blk (w.setCell ⟨b, 1, none⟩ (.int .i64 ((a : Int) + 1))) b 70 #[.slice A 0 c, .int .i64 ((a : Int) + 1), .int .u64 st] := hbX
    have ha1 : ((a : Int) + 1) = ((a + 1 : Nat) : Int) := by omega
    rw [ha1] at hbX haX ⊢
    generalize w.setCell ⟨b, 1, none⟩ (.int .i64 ((a + 1 : Nat) : Int)) = W4 at *
    obtain ⟨a1, ha2⟩ : ∃ a1, a + 1 = a1 := ⟨_, rfl⟩
    rw [ha2] at hbX ⊢
    have ha3 : a1 ≤ k + 1 := by omega
    clear ha1 ha2 k0 k1 k2 f1 f2
    obtain ⟨k0, k1, k2⟩ := hbX.c3
    have f2 := hbX.frozen 2
    have HbX := Lib.hid hbX; clear hbX
    by_cases hgt : 0 < a1
    · go_wp2_with fail
      refine wp_region_chain 10 [] [] (by kernel_rfl) (by kernel_rfl) (by kernel_rfl) ?_
      simp only [List.take, List.drop, fill, Act.put, List.setIfInBounds_toArray, List.set_cons_zero, List.set_cons_succ, Nat.reduceAdd]
      repeat (first
        | refine Floats.mut rfl ?_
        | (apply Floats.float rfl
           · intro x W he hd K Q hK
             try (have he := he (by decide); have k0 := he.cell k0; have k1 := he.cell k1)
             try simp only [edges, DepsE, List.filter_cons, List.filter_nil, Region.binds, if_true, and_true, true_and, upd, Nat.reduceEqDiff, if_false] at hd
             try simp only [hd] at hK ⊢
             have HK := Lib.hid hK; clear hK
             go_wp2_with fail
             exact HK.out))
      refine Floats.done fun W he hG => ?_
      obtain ⟨k0, k1, k2⟩ := (HbX.out.ext he).c3
      have f2 := (HbX.out.ext he).frozen 2
      have hb6 := (HbX.out.ext he).set_ 2 (.int .u64 (IntKind.u64.wrap (IntKind.u64.wrap (st * 1103515245) + 12345)))
      have ha6 := (haX.trans (Apart.of_ext he)).set_ 2 (.int .u64 (IntKind.u64.wrap (IntKind.u64.wrap (st * 1103515245) + 12345)))
      have HB6 := Lib.hid hb6; clear hb6
      refine Chain.nil ?_
      simp only [upd, Nat.reduceEqDiff, if_false, if_true]
      go_wp2_with fail
      clear k0 k1 k2 f2 he hG
      obtain ⟨k0, k1, k2⟩ := HB6.out.c3
      refine wp_region_chain 13 [] [] (by kernel_rfl) (by kernel_rfl) (by kernel_rfl) ?_
      simp only [List.take, List.drop, fill, Act.put, List.setIfInBounds_toArray, List.set_cons_zero, List.set_cons_succ, Nat.reduceAdd]
      repeat (first
        | refine Floats.mut rfl ?_
        | (apply Floats.float rfl
           · intro x W he hd K Q hK
             try (have he := he (by decide); have k0 := he.cell k0; have k1 := he.cell k1; have k2 := he.cell k2)
             try simp only [edges, DepsE, List.filter_cons, List.filter_nil, Region.binds, if_true, and_true, true_and, upd, Nat.reduceEqDiff, if_false] at hd
             try simp only [hd] at hK ⊢
             have HK := Lib.hid hK; clear hK
             go_wp2_with fail
             exact HK.out))
      refine Floats.done fun W he hG => ?_
      have hb9 := HB6.out.ext he
      have ha9 := ha6.trans (Apart.of_ext he)
      refine Chain.nil ?_
      simp only [upd, Nat.reduceEqDiff, if_false, if_true]
      go_wp2_with fail
      go_ret
      exact ⟨_, rfl, (mask_bd _).1, (mask_bd _).2, ⟨_, 0, c, _, a1, hb9, h2, by unfold maxLen; omega, ha3, H5.out.apart ha9⟩, ha9⟩
    · go_wp2_with fail
      refine wp_region_chain 10 [] [] (by kernel_rfl) (by kernel_rfl) (by kernel_rfl) ?_
      simp only [List.take, List.drop, fill, Act.put, List.setIfInBounds_toArray, List.set_cons_zero, List.set_cons_succ, Nat.reduceAdd]
      repeat (first
        | refine Floats.mut rfl ?_
        | (apply Floats.float rfl
           · intro x W he hd K Q hK
             try (have he := he (by decide); have k0 := he.cell k0; have k1 := he.cell k1)
             try simp only [edges, DepsE, List.filter_cons, List.filter_nil, Region.binds, if_true, and_true, true_and, upd, Nat.reduceEqDiff, if_false] at hd
             try simp only [hd] at hK ⊢
             have HK := Lib.hid hK; clear hK
             go_wp2_with fail
             exact HK.out))
      refine Floats.done fun W he hG => ?_
      have hb6 := HbX.out.ext he
      have ha6 := haX.trans (Apart.of_ext he)
      have HB6 := Lib.hid hb6; clear hb6
      refine Chain.nil ?_
      simp only [upd, Nat.reduceEqDiff, if_false, if_true]
      go_wp2_with fail
      clear k0 k1 k2 f2 he hG
      obtain ⟨k0, k1, k2⟩ := HB6.out.c3
      refine wp_region_chain 13 [] [] (by kernel_rfl) (by kernel_rfl) (by kernel_rfl) ?_
      simp only [List.take, List.drop, fill, Act.put, List.setIfInBounds_toArray, List.set_cons_zero, List.set_cons_succ, Nat.reduceAdd]
      repeat (first
        | refine Floats.mut rfl ?_
        | (apply Floats.float rfl
           · intro x W he hd K Q hK
             try (have he := he (by decide); have k0 := he.cell k0; have k1 := he.cell k1; have k2 := he.cell k2)
             try simp only [edges, DepsE, List.filter_cons, List.filter_nil, Region.binds, if_true, and_true, true_and, upd, Nat.reduceEqDiff, if_false] at hd
             try simp only [hd] at hK ⊢
             have HK := Lib.hid hK; clear hK
             go_wp2_with fail
             exact HK.out))
      refine Floats.done fun W he hG => ?_
      have hb9 := HB6.out.ext he
      have ha9 := ha6.trans (Apart.of_ext he)
      refine Chain.nil ?_
      simp only [upd, Nat.reduceEqDiff, if_false, if_true]
      go_wp2_with fail
      go_ret
      exact ⟨_, rfl, (mask_bd _).1, (mask_bd _).2, ⟨_, 0, c, _, a1, hb9, h2, by unfold maxLen; omega, ha3, H5.out.apart ha9⟩, ha9⟩
theorem upto_any (b k : Nat) (hk : k ≤ 1000000) (n : Int) (hn : -1000000 ≤ n ∧ n ≤ 1000000) (hi : Int) (hhi : max 0 n = hi) (w : World) (hs : SpoolAt w b k) :
    Calls Try.prog 15 #[.pointer (some ⟨b, 0, none⟩), .int .i64 n] w (Turned b k 0 hi w) := by
  have ht := Lib.hid (turn_any b k hk w hs)
  have Hhi := Lib.hid hhi; clear hhi
  go_enter Try.func15, Try.ntmps15
  go_wp2_with fail
  refine ht.out.mono ?_
  rintro e w1 ⟨r, rfl, h1, h2, h3, h4⟩
  clear ht
  go_wp2_with fail
  all_goals
    go_ret
    refine ⟨_, rfl, ?_, ?_, h3, h4⟩
  all_goals have := Hhi.out
  all_goals first
    | exact Int.le_refl _
    | omega
    | exact Int.emod_nonneg _ (by omega)
    | (have h9 := Int.emod_lt_of_pos r (show 0 < n + 1 by omega); omega)
    | (have h9 := Int.emod_lt_of_pos r (show 0 < max 1 (n + 1) by omega); omega)
theorem from_any (b k : Nat) (hk : k ≤ 1000000) (lo hi : Int) (hn : -1000 ≤ lo ∧ lo ≤ 1000 ∧ -1000 ≤ hi ∧ hi ≤ 1000) (h' : Int) (hh : max lo hi = h') (w : World) (hs : SpoolAt w b k) :
    Calls Try.prog 14 #[.pointer (some ⟨b, 0, none⟩), .int .i64 lo, .int .i64 hi] w (Turned b k lo h' w) := by
  have ht := Lib.hid (upto_any b k hk (hi - lo) (by omega) _ rfl w hs)
  have Hh := Lib.hid hh; clear hh
  go_enter Try.func14, Try.ntmps14
  go_wp2_with fail
  refine ht.out.mono ?_
  rintro e w1 ⟨r, rfl, h1, h2, h3, h4⟩
  clear ht
  have h2' : r ≤ 2000 := by omega
  have H2 := Lib.hid h2; clear h2
  go_wp2_with fail
  go_ret
  have := Hh.out; have := H2.out
  exact ⟨_, rfl, by omega, by omega, h3, h4⟩
/-- a yes or no of a spool -/
def TurnedB (b k : Nat) (w : World) (e : Ending) (w' : World) : Prop :=
  ∃ q : Bool, e = .returned (.bool q) ∧ SpoolAt w' b (k + 1) ∧ Apart b w w'
theorem once_any (b k : Nat) (hk : k ≤ 1000000) (n : Int) (hn : -1000 ≤ n ∧ n ≤ 1000) (w : World) (hs : SpoolAt w b k) :
    Calls Try.prog 18 #[.pointer (some ⟨b, 0, none⟩), .int .i64 n] w (TurnedB b k w) := by
  have ht := Lib.hid (upto_any b k hk (n - 1) (by omega) _ rfl w hs)
  go_enter Try.func18, Try.ntmps18
  go_wp2_with fail
  refine ht.out.mono ?_
  rintro e w1 ⟨r, rfl, h1, h2, h3, h4⟩
  clear ht
  have H2 := Lib.hid h2; clear h2
  go_wp2_with fail
  go_ret
  exact ⟨_, rfl, h3, h4⟩
/-- bytes that can be read -/
def BytesIn (w : World) (v : Value) : Prop := ∃ A n c, v = .slice A n c ∧ n ≤ c ∧ c ≤ maxLen ∧ ∀ j, j < n → ∃ b' o u, A = some ⟨b', o, none⟩ ∧ w.cell? ⟨b', o + j, none⟩ = some (.int .u8 u)
theorem BytesIn.ext {w w' : World} {v : Value} (h : BytesIn w v) (he : Ext w w') : BytesIn w' v := by
  obtain ⟨A, n, c, h1, h2, h3, h4⟩ := h
  exact ⟨A, n, c, h1, h2, h3, fun j hj => by obtain ⟨b', o, u, g1, g2⟩ := h4 j hj; exact ⟨b', o, u, g1, he.cell g2⟩⟩
instance {w w' : World} {v : Value} : Lift (BytesIn w v) w w' (BytesIn w' v) := ⟨fun he h => h.ext he⟩
theorem wound_any (v : Value) (w : World) (hv : BytesIn w v) :
    Calls Try.prog 5 #[v] w fun e w' => e = .returned (.pointer (some ⟨w.heap.size, 0, none⟩)) ∧ SpoolAt w' w.heap.size 0 ∧ Ext w w' := by
  obtain ⟨A, n, c, rfl, h2, h3, h4⟩ := hv
  have H4 := Lib.hid h4; clear h4
  go_enter Try.func5, Try.ntmps5
  go_wp2_with fail
  go_ret
  refine ⟨rfl, ⟨A, n, c, _, 0, Blk.new w 70 _, h2, h3, Nat.le_refl _, fun j hj => ?_⟩, Ext.alloc _ _⟩
  obtain ⟨b', o, u, e1, e2⟩ := H4.out j hj
  have hlt := cell_lt e2
  exact ⟨b', o, u, e1, hlt, (Ext.alloc w _).cell e2⟩
/-- an order of the numbers below n -/
def PermOf (n : Nat) (l : List Int) : Prop := l.Perm (ints (List.range n))
theorem SpoolAt.apart {w W : World} {b k g : Nat} (h : SpoolAt w b k) (hg : b < g) (ha : Apart g w W) : SpoolAt W b k := by
  obtain ⟨A, n, c, st, a, h1, h2, h3, h4, h5⟩ := h
  refine ⟨A, n, c, st, a, h1.apart (Nat.ne_of_lt hg) ha, h2, h3, h4, fun j hj => ?_⟩
  obtain ⟨b', o, u, rfl, g2, g3⟩ := h5 j hj
  refine ⟨b', o, u, rfl, g2, ?_⟩
  have hlt := cell_lt g3
  unfold World.cell? at g3 ⊢
  rw [ha.block b' hlt (by show b' ≠ g; omega)]
  exact g3
end Go.Proofs.Pet

namespace Go.Proofs.Clk

/-- distances are twenty-five numbers, five rows of five -/
def atD (f : List Int) (a b : Nat) : Int := f[5 * a + b]?.getD 0
def setD (f : List Int) (a b : Nat) (v : Int) : List Int := f.set (5 * a + b) v
def minD (f : List Int) (a b : Nat) (v : Int) : List Int := setD f a b (min (atD f a b) v)
theorem setD_len (f : List Int) (a b : Nat) (v : Int) : (setD f a b v).length = f.length := by unfold setD; rw [List.length_set]
theorem minD_len (f : List Int) (a b : Nat) (v : Int) : (minD f a b v).length = f.length := setD_len _ _ _ _
theorem atD_set {f : List Int} (hf : f.length = 25) {a b x y : Nat} (ha : a < 5) (hb : b < 5) (hy : y < 5) (v : Int) : atD (setD f a b v) x y = if x = a ∧ y = b then v else atD f x y := by
  unfold atD setD
  rw [List.getElem?_set]
  by_cases e : x = a ∧ y = b
  · obtain ⟨rfl, rfl⟩ := e
    rw [if_pos rfl, if_pos (by omega), if_pos ⟨rfl, rfl⟩]; rfl
  · rw [if_neg e, if_neg (by omega)]
def LeD (f g : List Int) : Prop := ∀ a b, a < 5 → b < 5 → atD f a b ≤ atD g a b
theorem LeD.refl (f : List Int) : LeD f f := fun _ _ _ _ => Int.le_refl _
theorem LeD.trans {f g h : List Int} (h1 : LeD f g) (h2 : LeD g h) : LeD f h := fun a b ha hb => Int.le_trans (h1 a b ha hb) (h2 a b ha hb)
theorem LeD.antisymm {f g : List Int} (hf : f.length = 25) (hg : g.length = 25) (h1 : LeD f g) (h2 : LeD g f) : f = g := by
  refine List.ext_getElem (by rw [hf, hg]) fun i hi hj => ?_
  have e1 := h1 (i / 5) (i % 5) (by omega) (by omega)
  have e2 := h2 (i / 5) (i % 5) (by omega) (by omega)
  unfold atD at e1 e2
  rw [show 5 * (i / 5) + i % 5 = i by omega, List.getElem?_eq_getElem hi, List.getElem?_eq_getElem hj] at e1 e2
  exact Int.le_antisymm e1 e2
theorem minD_le {f : List Int} (hf : f.length = 25) {a b : Nat} (ha : a < 5) (hb : b < 5) (v : Int) : LeD (minD f a b v) f := fun x y _ hy => by
  unfold minD
  rw [atD_set hf ha hb hy]
  split
  · rename_i e; obtain ⟨rfl, rfl⟩ := e; omega
  · exact Int.le_refl _
theorem minD_mono {f g : List Int} (hf : f.length = 25) (hg : g.length = 25) (h : LeD f g) {a b : Nat} (ha : a < 5) (hb : b < 5) {v u : Int} (hv : v ≤ u) : LeD (minD f a b v) (minD g a b u) := fun x y hx hy => by
  unfold minD
  rw [atD_set hf ha hb hy, atD_set hg ha hb hy]
  have h1 := h a b ha hb
  have h2 := h x y hx hy
  split <;> omega
def relax (f : List Int) (m a b : Nat) : List Int := minD f a b (atD f a m + atD f m b)
theorem relax_len (f : List Int) (m a b : Nat) : (relax f m a b).length = f.length := minD_len _ _ _ _
theorem relax_mono {f g : List Int} (hf : f.length = 25) (hg : g.length = 25) (h : LeD f g) {m a b : Nat} (hm : m < 5) (ha : a < 5) (hb : b < 5) : LeD (relax f m a b) (relax g m a b) :=
  minD_mono hf hg h ha hb (by have := h a m ha hm; have := h m b hm hb; omega)
/-- the first k steps of going over all -/
def passT (f : List Int) : Nat → List Int
  | 0 => f
  | k + 1 => relax (passT f k) (k / 25) (k / 5 % 5) (k % 5)
def pass (f : List Int) : List Int := passT f 125
theorem passT_len (f : List Int) : ∀ k, (passT f k).length = f.length
  | 0 => rfl
  | k + 1 => by rw [passT, relax_len, passT_len f k]
theorem passT_step {f : List Int} (m a b : Nat) (ha : a < 5) (hb : b < 5) : passT f (25 * m + 5 * a + b + 1) = relax (passT f (25 * m + 5 * a + b)) m a b := by
  rw [passT, show (25 * m + 5 * a + b) / 25 = m by omega, show (25 * m + 5 * a + b) / 5 % 5 = a by omega, show (25 * m + 5 * a + b) % 5 = b by omega]
theorem passT_le {f : List Int} (hf : f.length = 25) : ∀ (d k : Nat), k + d ≤ 125 → LeD (passT f (k + d)) (passT f k)
  | 0, k, _ => LeD.refl _
  | d + 1, k, h => by
    refine LeD.trans ?_ (passT_le hf d k (by omega))
    rw [← Nat.add_assoc, passT]
    exact minD_le (by rw [passT_len, hf]) (by omega) (by omega) _
theorem pass_le {f : List Int} (hf : f.length = 25) : LeD (pass f) f := by
  have := passT_le hf 125 0 (by omega)
  rwa [Nat.zero_add] at this
theorem passT_mono {f g : List Int} (hf : f.length = 25) (hg : g.length = 25) (h : LeD f g) : ∀ k, k ≤ 125 → LeD (passT f k) (passT g k)
  | 0, _ => h
  | k + 1, hk => by
    rw [passT, passT]
    exact relax_mono (by rw [passT_len, hf]) (by rw [passT_len, hg]) (passT_mono hf hg h k (by omega)) (by omega) (by omega) (by omega)
theorem pass_mono {f g : List Int} (hf : f.length = 25) (hg : g.length = 25) (h : LeD f g) : LeD (pass f) (pass g) := passT_mono hf hg h 125 (Nat.le_refl _)
theorem pass_diag {f : List Int} (hf : f.length = 25) {a b : Nat} (ha : a < 5) (hb : b < 5) : atD (pass f) a a ≤ atD f a b + atD f b a := by
  have h1 := passT_le hf (125 - (25 * b + 5 * a + a + 1)) (25 * b + 5 * a + a + 1) (by omega) a a ha ha
  rw [show 25 * b + 5 * a + a + 1 + (125 - (25 * b + 5 * a + a + 1)) = 125 by omega] at h1
  refine Int.le_trans h1 ?_
  rw [passT_step b a a ha ha]
  unfold relax minD
  have hl : (passT f (25 * b + 5 * a + a)).length = 25 := by rw [passT_len, hf]
  rw [atD_set hl ha ha ha, if_pos ⟨rfl, rfl⟩]
  have h2 := passT_le hf (25 * b + 5 * a + a) 0 (by omega)
  rw [Nat.zero_add] at h2
  have h3 := h2 a b ha hb
  have h4 := h2 b a hb ha
  rw [show passT f 0 = f from rfl] at h3 h4
  omega
/- how low a number can come in one go -/
def scale (c : Int) (f : List Int) : List Int := f.map (c * ·)
theorem atD_scale (c : Int) (f : List Int) (a b : Nat) : atD (scale c f) a b = c * atD f a b := by
  unfold atD scale
  rw [List.getElem?_map]
  cases f[5 * a + b]? with
  | none => show 0 = c * 0; rw [Int.mul_zero]
  | some x => rfl
theorem min_scale {c : Int} (hc : 0 ≤ c) (x y : Int) : min (c * x) (c * y) = c * min x y := by
  rcases Int.le_total x y with h | h
  · rw [Int.min_eq_left h, Int.min_eq_left (Int.mul_le_mul_of_nonneg_left h hc)]
  · rw [Int.min_eq_right h, Int.min_eq_right (Int.mul_le_mul_of_nonneg_left h hc)]
theorem scale_relax {c : Int} (hc : 0 ≤ c) (f : List Int) (m a b : Nat) : relax (scale c f) m a b = scale c (relax f m a b) := by
  unfold relax minD
  rw [atD_scale, atD_scale, atD_scale, ← Int.mul_add, min_scale hc]
  unfold setD scale
  rw [List.map_set]
theorem scale_passT {c : Int} (hc : 0 ≤ c) (f : List Int) : ∀ k, passT (scale c f) k = scale c (passT f k)
  | 0 => rfl
  | k + 1 => by rw [passT, passT, scale_passT hc f k, scale_relax hc]
def lowU : List Int := List.replicate 25 (-1)
theorem low_pass : (passT lowU 125).all (fun x => decide (-7776 ≤ x)) = true := by decide +kernel
theorem passT_low {f : List Int} (hf : f.length = 25) {c : Int} (hc : 0 ≤ c) (h : ∀ a b, a < 5 → b < 5 → -c ≤ atD f a b) {k : Nat} (hk : k ≤ 125) {a b : Nat} (ha : a < 5) (hb : b < 5) : -(7776 * c) ≤ atD (passT f k) a b := by
  have h1 : LeD (scale c lowU) f := fun x y hx hy => by
    rw [atD_scale]
    have : atD lowU x y = -1 := by
      unfold atD lowU
      rw [List.getElem?_replicate, if_pos (by omega)]; rfl
    rw [this]
    have := h x y hx hy
    omega
  have h2 := passT_mono (by unfold scale; rw [List.length_map]; rfl) hf h1 125 (Nat.le_refl _)
  rw [scale_passT hc] at h2
  have h3 := passT_le hf (125 - k) k (by omega)
  rw [show k + (125 - k) = 125 by omega] at h3
  have h4 := h2 a b ha hb
  rw [atD_scale] at h4
  have h5 := h3 a b ha hb
  have h6 : -7776 ≤ atD (passT lowU 125) a b := by
    have hl : (passT lowU 125).length = 25 := passT_len _ _
    have hx := List.all_eq_true.1 low_pass ((passT lowU 125)[5 * a + b]'(by omega)) (List.getElem_mem _)
    unfold atD
    rw [List.getElem?_eq_getElem (by omega)]
    exact of_decide_eq_true hx
  have h7 : c * (-7776) ≤ c * atD (passT lowU 125) a b := Int.mul_le_mul_of_nonneg_left h6 hc
  omega
/- what a truth that fits bounds -/
def PotD (p : Nat → Int) (f : List Int) : Prop := ∀ a b, a < 5 → b < 5 → p b - p a ≤ atD f a b
theorem PotD.min_ {p : Nat → Int} {f : List Int} (hf : f.length = 25) (h : PotD p f) {a b : Nat} (ha : a < 5) (hb : b < 5) {v : Int} (hv : p b - p a ≤ v) : PotD p (minD f a b v) := fun x y hx hy => by
  unfold minD
  rw [atD_set hf ha hb hy]
  split
  · rename_i e; obtain ⟨rfl, rfl⟩ := e
    have := h x y hx hy
    omega
  · exact h x y hx hy
theorem PotD.passT {p : Nat → Int} {f : List Int} (hf : f.length = 25) (h : PotD p f) : ∀ k, k ≤ 125 → PotD p (Clk.passT f k)
  | 0, _ => h
  | k + 1, hk => by
    have ih := PotD.passT hf h k (by omega)
    rw [Clk.passT]
    unfold relax
    refine ih.min_ (by rw [passT_len, hf]) (by omega) (by omega) ?_
    have h1 := ih (k / 5 % 5) (k / 25) (by omega) (by omega)
    have h2 := ih (k / 25) (k % 5) (by omega) (by omega)
    omega
theorem PotD.pass {p : Nat → Int} {f : List Int} (hf : f.length = 25) (h : PotD p f) : PotD p (Clk.pass f) := h.passT hf 125 (Nat.le_refl _)
/-- going over all again and again -/
def iter (f : List Int) : Nat → List Int
  | 0 => f
  | n + 1 => pass (iter f n)
theorem iter_len (f : List Int) : ∀ n, (iter f n).length = f.length
  | 0 => rfl
  | n + 1 => by rw [iter, pass, passT_len, iter_len f n]
theorem iter_le {f : List Int} (hf : f.length = 25) : ∀ n, LeD (iter f n) f
  | 0 => LeD.refl _
  | n + 1 => (pass_le (by rw [iter_len, hf])).trans (iter_le hf n)
/-- what the closing of distances comes to -/
structure Closed (f g : List Int) (q : Bool) : Prop where
  it : ∃ n, g = iter f n
  yes : q = true → pass g = g ∧ ∀ a, a < 5 → 0 ≤ atD g a a
  no : q = false → ∃ a, a < 5 ∧ atD g a a < 0
theorem Closed.len {f g : List Int} {q : Bool} (h : Closed f g q) (hf : f.length = 25) : g.length = 25 := by
  obtain ⟨n, rfl⟩ := h.it
  rw [iter_len, hf]
theorem Closed.le {f g : List Int} {q : Bool} (h : Closed f g q) (hf : f.length = 25) : LeD g f := by
  obtain ⟨n, rfl⟩ := h.it
  exact iter_le hf n
/-- closer distances that can be are so of wider ones -/
theorem Closed.mono {f f' g g' : List Int} {q : Bool} (h : Closed f g q) (h' : Closed f' g' true) (hf : f.length = 25) (hf' : f'.length = 25) (hl : LeD f' f) : q = true ∧ LeD g' g := by
  obtain ⟨n, hn⟩ := h.it
  have hg' := h'.len hf'
  have key : ∀ k, LeD g' (iter f k) := by
    intro k
    induction k with
    | zero => exact (h'.le hf').trans hl
    | succ k ih =>
      have := pass_mono hg' (by rw [iter_len, hf]) ih
      rwa [(h'.yes rfl).1] at this
  have hle : LeD g' g := by rw [hn]; exact key n
  refine ⟨?_, hle⟩
  cases q with
  | true => rfl
  | false =>
    obtain ⟨a, ha, hneg⟩ := h.no rfl
    have h1 := hle a a ha ha
    have h2 := (h'.yes rfl).2 a ha
    omega
theorem Closed.uniq {f g g' : List Int} (h : Closed f g true) (h' : Closed f g' true) (hf : f.length = 25) : g = g' :=
  LeD.antisymm (h.len hf) (h'.len hf) (h'.mono h hf hf (LeD.refl _)).2 (h.mono h' hf hf (LeD.refl _)).2
/-- distances that fit a truth can be -/
theorem Closed.pot {f g : List Int} {q : Bool} (h : Closed f g q) (hf : f.length = 25) {p : Nat → Int} (hp : PotD p f) : q = true ∧ PotD p g := by
  obtain ⟨n, hn⟩ := h.it
  have key : ∀ k, PotD p (iter f k) := by
    intro k
    induction k with
    | zero => exact hp
    | succ k ih => exact ih.pass (by rw [iter_len, hf])
  have hg : PotD p g := by rw [hn]; exact key n
  refine ⟨?_, hg⟩
  cases q with
  | true => rfl
  | false =>
    obtain ⟨a, ha, hneg⟩ := h.no rfl
    have := hg a a ha ha
    omega
/-- how far one can go on: each time the sum falls -/
theorem sum_lt : ∀ {f g : List Int}, f.length = g.length → (∀ i : Nat, f[i]?.getD 0 ≤ g[i]?.getD 0) → f ≠ g → f.sum < g.sum
  | [], [], _, _, h => absurd rfl h
  | x :: f, y :: g, hl, h, hne => by
    have h0 : x ≤ y := h 0
    have ht : ∀ i : Nat, f[i]?.getD 0 ≤ g[i]?.getD 0 := fun i => h (i + 1)
    rw [List.sum_cons, List.sum_cons]
    by_cases e : f = g
    · subst e
      have : x ≠ y := fun e => hne (by rw [e])
      omega
    · have := sum_lt (by simpa using hl) ht e
      omega
theorem pass_sum {f : List Int} (hf : f.length = 25) (h : pass f ≠ f) : (pass f).sum < f.sum := by
  have hl : (pass f).length = 25 := by unfold pass; rw [passT_len, hf]
  refine sum_lt (by rw [hl, hf]) (fun i => ?_) h
  by_cases hi : i < 25
  · have := pass_le hf (i / 5) (i % 5) (by omega) (by omega)
    unfold atD at this
    rwa [show 5 * (i / 5) + i % 5 = i by omega] at this
  · rw [List.getElem?_eq_none (by omega), List.getElem?_eq_none (by omega)]
    exact Int.le_refl _
theorem sum_ge {c : Int} : ∀ {f : List Int}, (∀ x, x ∈ f → c ≤ x) → (f.length : Int) * c ≤ f.sum
  | [], _ => by simp
  | x :: f, h => by
    have h0 := h x (by simp)
    have := sum_ge (f := f) fun y hy => h y (by simp [hy])
    rw [List.sum_cons, List.length_cons, Int.natCast_add, Int.add_mul]
    omega
end Go.Proofs.Clk

namespace Go.Proofs.Clk

structure Cl where
  sl : Int
  sh : Int
  gl : Int
  gh : Int
deriving Inhabited, DecidableEq
structure Rd where
  clock : Int
  event : Int
  shows : Int
deriving Inhabited, DecidableEq
structure Gp where
  src : Int
  dst : Int
  lo : Int
  hi : Int
deriving Inhabited, DecidableEq
structure Att where
  minutes : Int
  events : Int
  clocks : List Cl
  reads : List Rd
  gaps : List Gp
/-- what a clock shows at a minute -/
def shF (s g m : Int) : Int := s + m + m * g / 60
/-- the first and the last minute before k at which it shows a number -/
def whenT (s g n : Int) : Nat → Int × Int
  | 0 => (1, 0)
  | k + 1 => if shF s g k ≠ n then whenT s g n k else if (whenT s g n k).1 > (whenT s g n k).2 then ((k : Int), (k : Int)) else ((whenT s g n k).1, (k : Int))
theorem whenT_has {s g n : Int} : ∀ {k m : Nat}, m < k → shF s g m = n → (whenT s g n k).1 ≤ m ∧ (m : Int) ≤ (whenT s g n k).2
  | k + 1, m, h, e => by
    rw [whenT]
    by_cases hm : m = k
    · subst hm
      rw [if_neg (by rw [e]; simp)]
      split
      · exact ⟨Int.le_refl _, Int.le_refl _⟩
      · rename_i h1
        have hb : (whenT s g n m).1 ≤ m := by
          have := whenT_bd s g n m
          omega
        exact ⟨hb, Int.le_refl _⟩
    · have ih := whenT_has (k := k) (m := m) (by omega) e
      split
      · exact ih
      · split
        · omega
        · exact ⟨ih.1, by show (m : Int) ≤ (k : Int); omega⟩
where whenT_bd (s g n : Int) : ∀ k : Nat, (whenT s g n k).1 ≤ (whenT s g n k).2 → (whenT s g n k).2 < k
  | 0, h => by rw [whenT] at h; exact absurd h (by decide)
  | k + 1, h => by
    rw [whenT] at h ⊢
    split
    · rename_i h1
      rw [if_pos h1] at h
      have := whenT_bd s g n k h
      omega
    · split
      · show (k : Int) < _; omega
      · show (k : Int) < _; omega
theorem whenT_lo (s g n : Int) : ∀ k : Nat, 0 ≤ (whenT s g n k).1 ∧ (whenT s g n k).1 ≤ k + 1 ∧ 0 ≤ (whenT s g n k).2 ∧ (whenT s g n k).2 ≤ k
  | 0 => by rw [whenT]; decide
  | k + 1 => by
    have ih := whenT_lo s g n k
    rw [whenT]
    split
    · omega
    · split
      · show 0 ≤ (k : Int) ∧ (k : Int) ≤ _ ∧ 0 ≤ (k : Int) ∧ (k : Int) ≤ _; omega
      · show 0 ≤ (whenT s g n k).1 ∧ (whenT s g n k).1 ≤ _ ∧ 0 ≤ (k : Int) ∧ (k : Int) ≤ _; omega
def whenF (a : Att) (s g n : Int) : Int × Int := whenT s g n (a.minutes + 1).toNat
/-- the distances without gaps -/
def free0 (m : Int) : List Int := (List.range 25).map fun i => if i % 5 = 4 ∨ i % 5 = i / 5 then 0 else m
theorem free0_len (m : Int) : (free0 m).length = 25 := by unfold free0; rw [List.length_map, List.length_range]
theorem free0_at (m : Int) {a b : Nat} (ha : a < 5) (hb : b < 5) : atD (free0 m) a b = if b = 4 ∨ b = a then 0 else m := by
  unfold atD free0
  rw [List.getElem?_map, List.getElem?_range (by omega)]
  show (if (5 * a + b) % 5 = 4 ∨ (5 * a + b) % 5 = (5 * a + b) / 5 then (0 : Int) else m) = _
  rw [show (5 * a + b) % 5 = b by omega, show (5 * a + b) / 5 = a by omega]
def gapD (f : List Int) (g : Gp) : List Int := minD (minD f g.src.toNat g.dst.toNat g.hi) g.dst.toNat g.src.toNat (-g.lo)
theorem gapD_len (f : List Int) (g : Gp) : (gapD f g).length = f.length := by unfold gapD; rw [minD_len, minD_len]
def gapsD (f : List Int) (l : List Gp) : List Int := l.foldl gapD f
theorem gapsD_len (l : List Gp) : ∀ f : List Int, (gapsD f l).length = f.length := by
  induction l with
  | nil => intro f; rfl
  | cons g l ih => intro f; exact (ih (gapD f g)).trans (gapD_len f g)
def freeD (a : Att) : List Int := gapsD (free0 a.minutes) a.gaps
theorem freeD_len (a : Att) : (freeD a).length = 25 := by unfold freeD; rw [gapsD_len, free0_len]
/-- the readings of a clock that was set to s and gains g -/
def readL (a : Att) (c s g : Int) : List Rd → List Int → Option (List Int)
  | [], f => some f
  | r :: rs, f => if r.clock ≠ c then readL a c s g rs f else
    if (whenF a s g r.shows).1 > (whenF a s g r.shows).2 then none else
      readL a c s g rs (minD (minD f 4 r.event.toNat (whenF a s g r.shows).2) r.event.toNat 4 (-(whenF a s g r.shows).1))
open Classical in
/-- closed distances, if they can be -/
noncomputable def closedO (f : List Int) : Option (List Int) := if h : ∃ g, Closed f g true then some h.choose else none
theorem closedO_some {f g : List Int} (hf : f.length = 25) : closedO f = some g ↔ Closed f g true := by
  unfold closedO
  constructor
  · intro h
    split at h
    · rename_i he
      rw [← Option.some.inj h]
      exact he.choose_spec
    · cases h
  · intro h
    have he : ∃ g, Closed f g true := ⟨g, h⟩
    rw [dif_pos he, he.choose_spec.uniq h hf]
theorem closedO_of {f g : List Int} {q : Bool} (hf : f.length = 25) (h : Closed f g q) : closedO f = if q = true then some g else none := by
  cases q with
  | true => rw [if_pos rfl]; exact (closedO_some hf).2 h
  | false =>
    rw [if_neg (by decide)]
    cases hc : closedO f with
    | none => rfl
    | some g' =>
      have := (h.mono ((closedO_some hf).1 hc) hf hf (LeD.refl _)).1
      cases this
noncomputable def nextD (a : Att) (c s g : Int) (f : List Int) : Option (List Int) := (readL a c s g a.reads f).bind closedO
def upTo (lo hi : Int) : List Int := (List.range (hi + 1 - lo).toNat).map fun i : Nat => lo + i
theorem mem_upTo {lo hi x : Int} : x ∈ upTo lo hi ↔ lo ≤ x ∧ x ≤ hi := by
  unfold upTo
  rw [List.mem_map]
  constructor
  · rintro ⟨i, hi, rfl⟩
    have := List.mem_range.1 hi
    omega
  · intro h
    exact ⟨(x - lo).toNat, List.mem_range.2 (by omega), by omega⟩
/-- all cases of the clocks from c on, n of them: the distances -/
noncomputable def casesF (a : Att) : Nat → Nat → List Int → List (List Int)
  | 0, _, f => [f]
  | n + 1, c, f => (upTo (a.clocks[c]?.getD default).sl (a.clocks[c]?.getD default).sh).flatMap fun s => (upTo (a.clocks[c]?.getD default).gl (a.clocks[c]?.getD default).gh).flatMap fun g =>
      match nextD a c s g f with
      | none => []
      | some f' => casesF a n (c + 1) f'
noncomputable def foundL (a : Att) : List (List Int) := match closedO (freeD a) with
  | none => []
  | some f => casesF a a.clocks.length 0 f
/-- an attic as it should be, in what is needed here -/
structure AOk (a : Att) : Prop where
  ev : ∀ r, r ∈ a.reads → 0 ≤ r.event ∧ r.event < 4
  gp : ∀ g, g ∈ a.gaps → (0 ≤ g.src ∧ g.src < 4) ∧ (0 ≤ g.dst ∧ g.dst < 4)
theorem readL_len {a : Att} {c s g : Int} : ∀ {rs : List Rd} {f h : List Int}, readL a c s g rs f = some h → h.length = f.length
  | [], f, h, e => by cases e; rfl
  | r :: rs, f, h, e => by
    rw [readL] at e
    split at e
    · exact readL_len e
    · split at e
      · cases e
      · rw [readL_len e, minD_len, minD_len]
theorem readL_le {a : Att} {c s g : Int} : ∀ {rs : List Rd} (_ : ∀ r, r ∈ rs → 0 ≤ r.event ∧ r.event < 4) {f h : List Int} (_ : f.length = 25), readL a c s g rs f = some h → LeD h f
  | [], _, f, h, _, e => by cases e; exact LeD.refl _
  | r :: rs, hr, f, h, hf, e => by
    have hr0 := hr r (by simp)
    have hrs : ∀ r, r ∈ rs → 0 ≤ r.event ∧ r.event < 4 := fun r hr' => hr r (by simp [hr'])
    rw [readL] at e
    split at e
    · exact readL_le hrs hf e
    · split at e
      · cases e
      · exact (readL_le hrs (by rw [minD_len, minD_len, hf]) e).trans ((minD_le (by rw [minD_len, hf]) (by omega) (by omega) _).trans (minD_le hf (by omega) (by omega) _))
theorem readL_mono {a a' : Att} (hm : a'.minutes = a.minutes) {c s g : Int} : ∀ {rs : List Rd} (_ : ∀ r, r ∈ rs → 0 ≤ r.event ∧ r.event < 4) {f f' h' : List Int} (_ : f.length = 25) (_ : f'.length = 25) (_ : LeD f' f), readL a' c s g rs f' = some h' → ∃ h, readL a c s g rs f = some h ∧ LeD h' h
  | [], _, f, f', h', _, _, hl, e => by cases e; exact ⟨f, rfl, hl⟩
  | r :: rs, hr, f, f', h', hf, hf', hl, e => by
    have hr0 := hr r (by simp)
    have hrs : ∀ r, r ∈ rs → 0 ≤ r.event ∧ r.event < 4 := fun r hr' => hr r (by simp [hr'])
    have hw : whenF a' s g r.shows = whenF a s g r.shows := by unfold whenF; rw [hm]
    rw [readL, hw] at e
    rw [readL]
    split at e
    · rename_i h1
      rw [if_pos h1]
      exact readL_mono hm hrs hf hf' hl e
    · rename_i h1
      rw [if_neg h1]
      split at e
      · cases e
      · rename_i h2
        rw [if_neg h2]
        exact readL_mono hm hrs (by rw [minD_len, minD_len, hf]) (by rw [minD_len, minD_len, hf']) (minD_mono (by rw [minD_len, hf']) (by rw [minD_len, hf]) (minD_mono hf' hf hl (by omega) (by omega) (Int.le_refl _)) (by omega) (by omega) (Int.le_refl _)) e
/-- a truth: the time of each event, and of the beginning -/
structure Fits (a : Att) (S G : Nat → Int) (T : Nat → Int) : Prop where
  clk : ∀ c, c < a.clocks.length → ((a.clocks[c]?.getD default).sl ≤ S c ∧ S c ≤ (a.clocks[c]?.getD default).sh) ∧ ((a.clocks[c]?.getD default).gl ≤ G c ∧ G c ≤ (a.clocks[c]?.getD default).gh)
  tim : ∀ e, e < 4 → 0 ≤ T e ∧ T e ≤ a.minutes
  rds : ∀ r, r ∈ a.reads → shF (S r.clock.toNat) (G r.clock.toNat) (T r.event.toNat) = r.shows
  gps : ∀ g, g ∈ a.gaps → g.lo ≤ T g.dst.toNat - T g.src.toNat ∧ T g.dst.toNat - T g.src.toNat ≤ g.hi
/-- the minutes with the beginning -/
def potT (T : Nat → Int) (e : Nat) : Int := if e = 4 then 0 else T e
theorem pot_gaps {p : Nat → Int} : ∀ {l : List Gp} {f : List Int} (_ : f.length = 25), PotD p f → (∀ g, g ∈ l → ((0 ≤ g.src ∧ g.src < 5) ∧ (0 ≤ g.dst ∧ g.dst < 5)) ∧ g.lo ≤ p g.dst.toNat - p g.src.toNat ∧ p g.dst.toNat - p g.src.toNat ≤ g.hi) → PotD p (gapsD f l)
  | [], _, _, h, _ => h
  | g :: l, f, hf, h, hg => by
    have h0 := hg g (by simp)
    refine pot_gaps (f := gapD f g) (by rw [gapD_len, hf]) ?_ fun x hx => hg x (by simp [hx])
    unfold gapD
    exact (h.min_ hf (by omega) (by omega) h0.2.2).min_ (by rw [minD_len, hf]) (by omega) (by omega) (by omega)
theorem Fits.free {a : Att} {S G T : Nat → Int} (h : Fits a S G T) (ha : AOk a) : PotD (potT T) (freeD a) := by
  refine pot_gaps (free0_len _) (fun x y hx hy => ?_) fun g hg => ?_
  · rw [free0_at _ hx hy]
    have hb : ∀ e, e < 5 → 0 ≤ potT T e ∧ potT T e ≤ a.minutes := fun e he => by
      unfold potT
      have h0 := h.tim 0 (by omega)
      by_cases e4 : e = 4
      · rw [if_pos e4]; omega
      · rw [if_neg e4]; exact h.tim e (by omega)
    have h1 := hb x hx
    have h2 := hb y hy
    by_cases e1 : y = 4 ∨ y = x
    · rw [if_pos e1]
      rcases e1 with e1 | e1
      · have : potT T y = 0 := by unfold potT; rw [if_pos e1]
        omega
      · rw [e1]; omega
    · rw [if_neg e1]; omega
  · have h1 := ha.gp g hg
    have h2 := h.gps g hg
    unfold potT
    rw [if_neg (by omega), if_neg (by omega)]
    exact ⟨⟨⟨by omega, by omega⟩, ⟨by omega, by omega⟩⟩, h2⟩
theorem Fits.read {a : Att} {S G T : Nat → Int} (h : Fits a S G T) (ha : AOk a) {c : Int} : ∀ {rs : List Rd}, (∀ r, r ∈ rs → r ∈ a.reads) → ∀ {f : List Int} (_ : f.length = 25), PotD (potT T) f → ∃ g, readL a c (S c.toNat) (G c.toNat) rs f = some g ∧ PotD (potT T) g
  | [], _, f, _, hp => ⟨f, rfl, hp⟩
  | r :: rs, hm, f, hf, hp => by
    have hr0 := ha.ev r (hm r (by simp))
    have hrs : ∀ r, r ∈ rs → r ∈ a.reads := fun r hr => hm r (by simp [hr])
    rw [readL]
    by_cases e : r.clock ≠ c
    · rw [if_pos e]; exact h.read ha hrs hf hp
    · rw [if_neg e]
      have ec : r.clock = c := Decidable.not_not.1 e
      have ht := h.tim r.event.toNat (by omega)
      have hs := h.rds r (hm r (by simp))
      rw [ec] at hs
      have hw : (whenF a (S c.toNat) (G c.toNat) r.shows).1 ≤ T r.event.toNat ∧ T r.event.toNat ≤ (whenF a (S c.toNat) (G c.toNat) r.shows).2 := by
        have h1 := whenT_has (s := S c.toNat) (g := G c.toNat) (n := r.shows) (k := (a.minutes + 1).toNat) (m := (T r.event.toNat).toNat) (by omega) (by rw [show (((T r.event.toNat).toNat : Nat) : Int) = T r.event.toNat by omega]; exact hs)
        rw [show (((T r.event.toNat).toNat : Nat) : Int) = T r.event.toNat by omega] at h1
        exact h1
      rw [if_neg (by omega)]
      refine h.read ha hrs (by rw [minD_len, minD_len, hf]) ?_
      refine (hp.min_ hf (by omega) (by omega) ?_).min_ (by rw [minD_len, hf]) (by omega) (by omega) ?_
      · have e1 : potT T r.event.toNat = T r.event.toNat := by unfold potT; rw [if_neg (by omega)]
        have e2 : potT T 4 = 0 := by unfold potT; rw [if_pos rfl]
        omega
      · have e1 : potT T r.event.toNat = T r.event.toNat := by unfold potT; rw [if_neg (by omega)]
        have e2 : potT T 4 = 0 := by unfold potT; rw [if_pos rfl]
        omega
theorem potI (f : List Int) (hf : f.length = 25) (p : Nat → Int) (hp : PotD p f) : ∀ n, PotD p (iter f n)
  | 0 => hp
  | n + 1 => (potI f hf p hp n).pass (by rw [iter_len, hf])
theorem low (f : List Int) (hf : f.length = 25) (p : Nat → Int) (hp : PotD p f) : ((List.range 25).map fun i => p (i % 5) - p (i / 5)).sum ≤ f.sum := by
  have key : ∀ (l : List Int) (o : Nat), (∀ i, i < l.length → p ((o + i) % 5) - p ((o + i) / 5) ≤ l[i]?.getD 0) → ((List.range l.length).map fun i => p ((o + i) % 5) - p ((o + i) / 5)).sum ≤ l.sum := by
    intro l
    induction l with
    | nil => intro o _; exact Int.le_refl _
    | cons x l ih =>
      intro o h
      rw [List.length_cons, List.range_succ_eq_map, List.map_cons, List.sum_cons, List.sum_cons, List.map_map]
      have h0 := h 0 (by simp)
      have h1 := ih (o + 1) fun i hi => by
        have := h (i + 1) (by simpa using hi)
        rw [show o + 1 + i = o + (i + 1) by omega]
        exact this
      have e : ((List.range l.length).map ((fun i => p ((o + i) % 5) - p ((o + i) / 5)) ∘ Nat.succ)).sum = ((List.range l.length).map fun i => p ((o + 1 + i) % 5) - p ((o + 1 + i) / 5)).sum := by
        congr 1
        refine List.map_congr_left fun i _ => ?_
        show p ((o + (i + 1)) % 5) - p ((o + (i + 1)) / 5) = _
        rw [show o + (i + 1) = o + 1 + i by omega]
      rw [e]
      have h2 : p ((o + 0) % 5) - p ((o + 0) / 5) ≤ x := h0
      omega
  have := key f 0 fun i hi => by
    rw [Nat.zero_add]
    have h1 := hp (i / 5) (i % 5) (by omega) (by omega)
    unfold atD at h1
    rwa [show 5 * (i / 5) + i % 5 = i by omega] at h1
  rw [hf] at this
  simp only [Nat.zero_add] at this
  exact this
/-- distances that fit a truth close -/
theorem closes (f : List Int) (hf : f.length = 25) (p : Nat → Int) (hp : PotD p f) : ∃ g q, Closed f g q := by
  -- the sum falls, and is never below what the truth bounds
  have hstop : ∀ (d : Nat) (n : Nat), ((iter f n).sum - ((List.range 25).map fun i => p (i % 5) - p (i / 5)).sum).toNat ≤ d → ∃ k, pass (iter f k) = iter f k := by
    intro d
    induction d with
    | zero =>
      intro n hn
      refine ⟨n, Decidable.byContradiction fun hne => ?_⟩
      have hl : (iter f n).length = 25 := by rw [iter_len, hf]
      have h1 := pass_sum hl hne
      have h2 := low (iter f (n + 1)) (by rw [iter_len, hf]) p (potI f hf p hp (n + 1))
      rw [iter] at h2
      omega
    | succ d ih =>
      intro n hn
      by_cases hne : pass (iter f n) = iter f n
      · exact ⟨n, hne⟩
      · have hl : (iter f n).length = 25 := by rw [iter_len, hf]
        have h1 := pass_sum hl hne
        have h2 := low (iter f n) hl p (potI f hf p hp n)
        refine ih (n + 1) ?_
        rw [iter]
        omega
  obtain ⟨k, hk⟩ := hstop _ 0 (Nat.le_refl _)
  refine ⟨iter f k, true, ⟨k, rfl⟩, fun _ => ⟨hk, fun a ha => ?_⟩, fun h => by cases h⟩
  have := potI f hf p hp k a a ha ha
  omega
theorem Fits.cases {a : Att} {S G T : Nat → Int} (h : Fits a S G T) (ha : AOk a) : ∀ (n c : Nat) {f : List Int} (_ : f.length = 25), c + n = a.clocks.length → PotD (potT T) f → ∃ g, g ∈ casesF a n c f ∧ PotD (potT T) g
  | 0, _, f, _, _, hp => ⟨f, by rw [casesF]; simp, hp⟩
  | n + 1, c, f, hf, hn, hp => by
    obtain ⟨h1, h2⟩ := h.clk c (by omega)
    obtain ⟨g1, e1, p1⟩ := h.read ha (c := (c : Int)) (rs := a.reads) (fun r hr => hr) hf hp
    rw [Int.toNat_natCast] at e1
    have hl1 : g1.length = 25 := by rw [readL_len e1, hf]
    -- what it comes to when it is closed
    have hcl : ∃ g2, closedO g1 = some g2 ∧ PotD (potT T) g2 := by
      obtain ⟨g2, q, hc⟩ := closes g1 hl1 (potT T) p1
      obtain ⟨hq, hp2⟩ := hc.pot hl1 p1
      subst hq
      exact ⟨g2, (closedO_some hl1).2 hc, hp2⟩
    obtain ⟨g2, e2, p2⟩ := hcl
    have hl2 : g2.length = 25 := ((closedO_some hl1).1 e2).len hl1
    obtain ⟨g3, m3, p3⟩ := h.cases ha n (c + 1) hl2 (by omega) p2
    refine ⟨g3, ?_, p3⟩
    rw [casesF, List.mem_flatMap]
    refine ⟨S c, mem_upTo.2 h1, ?_⟩
    rw [List.mem_flatMap]
    refine ⟨G c, mem_upTo.2 h2, ?_⟩
    have e3 : nextD a c (S c) (G c) f = some g2 := by
      unfold nextD
      rw [e1]
      exact e2
    rw [e3]
    exact m3
theorem Fits.found {a : Att} {S G T : Nat → Int} (h : Fits a S G T) (ha : AOk a) : ∃ g, g ∈ foundL a ∧ PotD (potT T) g := by
  have hp := h.free ha
  obtain ⟨g, q, hc⟩ := closes (freeD a) (freeD_len a) _ hp
  obtain ⟨hq, hp2⟩ := hc.pot (freeD_len a) hp
  subst hq
  have e := (closedO_some (freeD_len a)).2 hc
  unfold foundL
  rw [e]
  exact h.cases ha _ 0 (hc.len (freeD_len a)) (by omega) hp2
/- all cases -/
theorem cases_le {a : Att} (ha : AOk a) : ∀ (n c : Nat) {f g : List Int} (_ : f.length = 25), g ∈ casesF a n c f → LeD g f ∧ g.length = 25
  | 0, _, f, g, hf, h => by
    rw [casesF, List.mem_singleton] at h
    subst h
    exact ⟨LeD.refl _, hf⟩
  | n + 1, c, f, g, hf, h => by
    rw [casesF, List.mem_flatMap] at h
    obtain ⟨s, _, h⟩ := h
    rw [List.mem_flatMap] at h
    obtain ⟨t, _, h⟩ := h
    cases hx : nextD a c s t f with
    | none => rw [hx] at h; cases h
    | some f' =>
      rw [hx] at h
      unfold nextD at hx
      cases hr : readL a c s t a.reads f with
      | none => rw [hr] at hx; cases hx
      | some f1 =>
        rw [hr] at hx
        have hl1 : f1.length = 25 := by rw [readL_len hr, hf]
        have hc := (closedO_some hl1).1 hx
        have ih := cases_le ha n (c + 1) (hc.len hl1) h
        exact ⟨ih.1.trans ((hc.le hl1).trans (readL_le (fun r hr => ha.ev r hr) hf hr)), ih.2⟩
theorem gaps_le {l : List Gp} (hl : ∀ g, g ∈ l → (0 ≤ g.src ∧ g.src < 4) ∧ (0 ≤ g.dst ∧ g.dst < 4)) {f : List Int} (hf : f.length = 25) : LeD (gapsD f l) f := by
  induction l generalizing f with
  | nil => exact LeD.refl _
  | cons g l ih =>
    have h0 := hl g (by simp)
    refine (ih (fun x hx => hl x (by simp [hx])) (f := gapD f g) (by rw [gapD_len, hf])).trans ?_
    unfold gapD
    exact (minD_le (by rw [minD_len, hf]) (by omega) (by omega) _).trans (minD_le hf (by omega) (by omega) _)
theorem found_le {a : Att} (ha : AOk a) {g : List Int} (h : g ∈ foundL a) : g.length = 25 ∧ ∀ e, e < 4 → atD g e 4 ≤ 0 ∧ atD g 4 e ≤ a.minutes := by
  unfold foundL at h
  cases hc : closedO (freeD a) with
  | none => rw [hc] at h; cases h
  | some f =>
    rw [hc] at h
    have hcl := (closedO_some (freeD_len a)).1 hc
    have h1 := cases_le ha _ 0 (hcl.len (freeD_len a)) h
    have h2 := h1.1.trans ((hcl.le (freeD_len a)).trans (gaps_le ha.gp (free0_len a.minutes)))
    refine ⟨h1.2, fun e he => ⟨?_, ?_⟩⟩
    · have := h2 e 4 (by omega) (by omega)
      rwa [free0_at _ (by omega) (by omega), if_pos (.inl rfl)] at this
    · have := h2 4 e (by omega) (by omega)
      rwa [free0_at _ (by omega) (by omega), if_neg (by omega)] at this
/-- wider distances close if closer ones do: the sum falls, and never below that of the closer ones -/
theorem closeO_mono {f f' g' : List Int} (hf : f.length = 25) (hf' : f'.length = 25) (hl : LeD f' f) (h' : Closed f' g' true) : ∃ g, Closed f g true ∧ LeD g' g := by
  have hg' := h'.len hf'
  have key : ∀ k, LeD g' (iter f k) := by
    intro k
    induction k with
    | zero => exact (h'.le hf').trans hl
    | succ k ih =>
      have := pass_mono hg' (by rw [iter_len, hf]) ih
      rwa [(h'.yes rfl).1] at this
  have hsum : ∀ k, g'.sum ≤ (iter f k).sum := fun k => by
    by_cases e : g' = iter f k
    · rw [e]; exact Int.le_refl _
    · refine Int.le_of_lt (sum_lt (by rw [hg', iter_len, hf]) (fun i => ?_) e)
      by_cases hi : i < 25
      · have := key k (i / 5) (i % 5) (by omega) (by omega)
        unfold atD at this
        rwa [show 5 * (i / 5) + i % 5 = i by omega] at this
      · rw [List.getElem?_eq_none (by omega), List.getElem?_eq_none (by rw [iter_len]; omega)]
        exact Int.le_refl _
  have hstop : ∀ (d : Nat) (n : Nat), ((iter f n).sum - g'.sum).toNat ≤ d → ∃ k, pass (iter f k) = iter f k := by
    intro d
    induction d with
    | zero =>
      intro n hn
      refine ⟨n, Decidable.byContradiction fun hne => ?_⟩
      have h1 := pass_sum (by rw [iter_len, hf]) hne
      have h2 := hsum (n + 1)
      rw [iter] at h2
      omega
    | succ d ih =>
      intro n hn
      by_cases hne : pass (iter f n) = iter f n
      · exact ⟨n, hne⟩
      · have h1 := pass_sum (by rw [iter_len, hf]) hne
        have h2 := hsum n
        refine ih (n + 1) ?_
        rw [iter]
        omega
  obtain ⟨k, hk⟩ := hstop _ 0 (Nat.le_refl _)
  refine ⟨iter f k, ⟨⟨k, rfl⟩, fun _ => ⟨hk, fun a ha => ?_⟩, fun h => by cases h⟩, key k⟩
  have h1 := key k a a ha ha
  have h2 := (h'.yes rfl).2 a ha
  omega
theorem cases_mono {a a' : Att} (ha : AOk a) (hm : a'.minutes = a.minutes) (hcl : a'.clocks = a.clocks) (hrd : a'.reads = a.reads) : ∀ (n c : Nat) {f f' g' : List Int} (_ : f.length = 25) (_ : f'.length = 25) (_ : LeD f' f), g' ∈ casesF a' n c f' → ∃ g, g ∈ casesF a n c f ∧ LeD g' g
  | 0, _, f, f', g', _, _, hl, h => by
    rw [casesF, List.mem_singleton] at h
    subst h
    exact ⟨f, by rw [casesF]; simp, hl⟩
  | n + 1, c, f, f', g', hf, hf', hl, h => by
    rw [casesF, List.mem_flatMap] at h
    obtain ⟨s, hs, h⟩ := h
    rw [List.mem_flatMap] at h
    obtain ⟨t, ht, h⟩ := h
    rw [hcl] at hs ht
    cases hx : nextD a' c s t f' with
    | none => rw [hx] at h; cases h
    | some h' =>
      rw [hx] at h
      unfold nextD at hx
      rw [hrd] at hx
      cases hr : readL a' c s t a.reads f' with
      | none => rw [hr] at hx; cases hx
      | some f1' =>
        rw [hr] at hx
        have hl1' : f1'.length = 25 := by rw [readL_len hr, hf']
        obtain ⟨f1, hr1, hle1⟩ := readL_mono hm (fun r hr => ha.ev r hr) hf hf' hl hr
        have hl1 : f1.length = 25 := by rw [readL_len hr1, hf]
        have hc' := (closedO_some hl1').1 hx
        -- the wider ones close, too
        obtain ⟨f2, hc2, hle2⟩ := closeO_mono hl1 hl1' hle1 hc'
        obtain ⟨g, hg, hle⟩ := cases_mono ha hm hcl hrd n (c + 1) (hc2.len hl1) (hc'.len hl1') hle2 h
        refine ⟨g, ?_, hle⟩
        rw [casesF, List.mem_flatMap]
        refine ⟨s, hs, ?_⟩
        rw [List.mem_flatMap]
        refine ⟨t, ht, ?_⟩
        have e : nextD a c s t f = some f2 := by
          unfold nextD
          rw [hr1]
          exact (closedO_some hl1).2 hc2
        rw [e]
        exact hg
/-- the attic with one gap more -/
def Att.more (a : Att) (g : Gp) : Att := { a with gaps := a.gaps ++ [g] }
theorem found_more {a : Att} (ha : AOk a) {g : Gp} (hg : (0 ≤ g.src ∧ g.src < 4) ∧ (0 ≤ g.dst ∧ g.dst < 4)) {f' : List Int} (h : f' ∈ foundL (a.more g)) : ∃ f, f ∈ foundL a ∧ LeD f' f := by
  unfold foundL at h
  cases hc : closedO (freeD (a.more g)) with
  | none => rw [hc] at h; cases h
  | some h' =>
    rw [hc] at h
    have hcl := (closedO_some (freeD_len _)).1 hc
    have hle : LeD (freeD (a.more g)) (freeD a) := by
      have e : freeD (a.more g) = gapD (freeD a) g := by
        unfold freeD gapsD Att.more
        rw [List.foldl_append]; rfl
      rw [e]
      unfold gapD
      exact (minD_le (by rw [minD_len, freeD_len]) (by omega) (by omega) _).trans (minD_le (freeD_len a) (by omega) (by omega) _)
    obtain ⟨f2, hc2, hle2⟩ := closeO_mono (freeD_len a) (freeD_len _) hle hcl
    obtain ⟨f, hf, hl⟩ := cases_mono ha (a' := a.more g) rfl rfl rfl a.clocks.length 0 (hc2.len (freeD_len a)) (hcl.len (freeD_len _)) hle2 h
    refine ⟨f, ?_, hl⟩
    unfold foundL
    rw [(closedO_some (freeD_len a)).2 hc2]
    exact hf
/- the least and the greatest minute of an event -/
def loF (l : List (List Int)) (e : Nat) : Int := l.foldl (fun n f => min n (-atD f e 4)) (-atD (l[0]?.getD []) e 4)
def hiF (l : List (List Int)) (e : Nat) : Int := l.foldl (fun n f => max n (atD f 4 e)) (atD (l[0]?.getD []) 4 e)
theorem fold_min (h : List Int → Int) : ∀ (l : List (List Int)) (n : Int), (∀ c, (∀ f, f ∈ l → c ≤ h f) → c ≤ n → c ≤ l.foldl (fun n f => min n (h f)) n) ∧ (∀ f, f ∈ l → l.foldl (fun n f => min n (h f)) n ≤ h f) ∧ l.foldl (fun n f => min n (h f)) n ≤ n
  | [], n => ⟨fun _ _ h => h, fun _ h => (by cases h), Int.le_refl _⟩
  | f :: l, n => by
    obtain ⟨h1, h2, h3⟩ := fold_min h l (min n (h f))
    refine ⟨fun c hc hn => h1 c (fun g hg => hc g (by simp [hg])) (by have := hc f (by simp); omega), fun g hg => ?_, ?_⟩
    · rcases List.mem_cons.1 hg with rfl | hg
      · rw [List.foldl_cons]; omega
      · exact h2 g hg
    · rw [List.foldl_cons]; omega
theorem fold_max (h : List Int → Int) : ∀ (l : List (List Int)) (n : Int), (∀ c, (∀ f, f ∈ l → h f ≤ c) → n ≤ c → l.foldl (fun n f => max n (h f)) n ≤ c) ∧ (∀ f, f ∈ l → h f ≤ l.foldl (fun n f => max n (h f)) n) ∧ n ≤ l.foldl (fun n f => max n (h f)) n
  | [], n => ⟨fun _ _ h => h, fun _ h => (by cases h), Int.le_refl _⟩
  | f :: l, n => by
    obtain ⟨h1, h2, h3⟩ := fold_max h l (max n (h f))
    refine ⟨fun c hc hn => h1 c (fun g hg => hc g (by simp [hg])) (by have := hc f (by simp); omega), fun g hg => ?_, ?_⟩
    · rcases List.mem_cons.1 hg with rfl | hg
      · rw [List.foldl_cons]; omega
      · exact h2 g hg
    · rw [List.foldl_cons]; omega
theorem head_mem {l : List (List Int)} (h : l ≠ []) : l[0]?.getD [] ∈ l := by
  cases l with
  | nil => exact absurd rfl h
  | cons x l => simp
theorem lo_le {l : List (List Int)} {f : List Int} (h : f ∈ l) (e : Nat) : loF l e ≤ -atD f e 4 := (fold_min (fun f => -atD f e 4) l _).2.1 f h
theorem le_lo {l : List (List Int)} (hl : l ≠ []) {e : Nat} {c : Int} (h : ∀ f, f ∈ l → c ≤ -atD f e 4) : c ≤ loF l e := (fold_min (fun f => -atD f e 4) l _).1 c h (h _ (head_mem hl))
theorem le_hi {l : List (List Int)} {f : List Int} (h : f ∈ l) (e : Nat) : atD f 4 e ≤ hiF l e := (fold_max (fun f => atD f 4 e) l _).2.1 f h
theorem hi_le {l : List (List Int)} (hl : l ≠ []) {e : Nat} {c : Int} (h : ∀ f, f ∈ l → atD f 4 e ≤ c) : hiF l e ≤ c := (fold_max (fun f => atD f 4 e) l _).1 c h (h _ (head_mem hl))
/-- between which minutes an event is: a truth that fits is among them, and one gap more never widens them -/
theorem time_law {a : Att} (ha : AOk a) {S G T : Nat → Int} (h : Fits a S G T) : foundL a ≠ [] ∧ ∀ e, e < 4 → (0 ≤ loF (foundL a) e ∧ loF (foundL a) e ≤ T e) ∧ (T e ≤ hiF (foundL a) e ∧ hiF (foundL a) e ≤ a.minutes) := by
  obtain ⟨g, hg, hp⟩ := h.found ha
  have hne : foundL a ≠ [] := fun e => by rw [e] at hg; cases hg
  refine ⟨hne, fun e he => ⟨⟨le_lo hne fun f hf => ?_, ?_⟩, ?_, hi_le hne fun f hf => ((found_le ha hf).2 e he).2⟩⟩
  · have := ((found_le ha hf).2 e he).1
    omega
  · have h1 := lo_le hg e
    have h2 := hp e 4 (by omega) (by omega)
    unfold potT at h2
    rw [if_pos rfl, if_neg (by omega)] at h2
    omega
  · have h1 := le_hi hg e
    have h2 := hp 4 e (by omega) (by omega)
    unfold potT at h2
    rw [if_pos rfl, if_neg (by omega)] at h2
    omega
theorem more_law {a : Att} (ha : AOk a) {g : Gp} (hg : (0 ≤ g.src ∧ g.src < 4) ∧ (0 ≤ g.dst ∧ g.dst < 4)) (hne : foundL (a.more g) ≠ []) {e : Nat} (he : e < 4) : loF (foundL a) e ≤ loF (foundL (a.more g)) e ∧ hiF (foundL (a.more g)) e ≤ hiF (foundL a) e := by
  refine ⟨le_lo hne fun f' hf' => ?_, hi_le hne fun f' hf' => ?_⟩
  · obtain ⟨f, hf, hl⟩ := found_more ha hg hf'
    have h1 := lo_le hf e
    have h2 := hl e 4 (by omega) (by omega)
    omega
  · obtain ⟨f, hf, hl⟩ := found_more ha hg hf'
    have h1 := le_hi hf e
    have h2 := hl 4 e (by omega) (by omega)
    omega
end Go.Proofs.Clk
