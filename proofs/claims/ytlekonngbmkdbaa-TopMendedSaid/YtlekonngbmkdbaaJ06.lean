/- Joined texts: UA, V0, P17. -/
import Derived.Test.YtlekonngbmkdbaaJ05
import Derived.Test.YtlekonngbmkdbaaP01
namespace Go.Proofs.Pet
open Go Go.RowKit Go.Maps Go.Shelf

def lst (f : Nat → Int) (n : Nat) : List Int := (List.range n).map f
theorem lst_succ (f : Nat → Int) (n : Nat) : lst f (n + 1) = lst f n ++ [f n] := by unfold lst; rw [List.range_succ, List.map_append]; rfl
theorem OwnI.own_lt {w : World} {base : Nat} {e : TypeId} {v : Value} {xs : List Int} (h : OwnI w base e v xs) (b : Nat) (hb : v.ownBlock = some b) : base ≤ b ∧ b < w.heap.size := by
  obtain ⟨A, c, rfl, _, _, _, h5, _⟩ := h.open_
  cases A with
  | none => cases hb
  | some ad =>
    obtain ⟨h6, h7, h8⟩ := h5 ad rfl
    rw [h8] at hb
    have := Option.some.inj hb
    omega
theorem Row.made {w : World} {S n : Nat} (h : Blk w S 3 (madeCells #[.int .i64 0] n)) : Row w S n (fun _ => 0) := by
  have e : madeCells #[Value.int .i64 0] n = Array.replicate n (.int .i64 0) := by
    apply Array.toList_inj.1
    simp [madeCells, Nat.mod_one, List.map_const']
  rw [e] at h
  exact Row.const h
end Go.Proofs.Pet

namespace Go.Proofs.Pet
open Go Go.RowKit Go.Maps Go.Shelf

def setJ (f : Nat → Int) (l es : List Int) : Nat → Nat → Int
  | 0 => f
  | j + 1 => fun k => if k = (l[j]?.getD 0).toNat then es[j]?.getD 0 else setJ f l es j k
/-- the ends that the first runs of a plan give -/
def endsUp (m : Mill) (xss : List (List Int)) : Nat → Nat → Int
  | 0 => fun _ => -1
  | i + 1 => setJ (endsUp m xss i) (xss[i]?.getD []) (endsF m i (xss[i]?.getD []) (xss[i]?.getD []).length) (xss[i]?.getD []).length
def endsL (m : Mill) (xss : List (List Int)) : List Int := (List.range m.orders.length).map (endsUp m xss xss.length)
theorem Row.ints {w : World} {b N : Nat} {f : Nat → Int} (h : Row w b N f) : IntsAt w (some ⟨b, 0, none⟩) ((List.range N).map f) := by
  intro k hk
  rw [List.length_map, List.length_range] at hk
  refine ⟨b, 0, rfl, ?_⟩
  rw [Nat.zero_add, h.cell hk, List.getElem?_map, List.getElem?_range hk]
  rfl
theorem plE_ok {m : Mill} {xss : List (List Int)} (h : plE m xss = 0) : checkE m = 0 ∧ xss.length = m.laced.length ∧ listedE m xss.flatten = 0 ∧ weavesAll m xss = true := by
  unfold plE at h
  by_cases a1 : checkE m ≠ 0
  · rw [if_pos a1] at h; exact absurd h a1
  rw [if_neg a1] at h
  by_cases a2 : xss.length ≠ m.laced.length
  · rw [if_pos a2] at h; omega
  rw [if_neg a2] at h
  by_cases a3 : listedE m xss.flatten ≠ 0
  · rw [if_pos a3] at h; exact absurd h a3
  rw [if_neg a3] at h
  by_cases a4 : weavesAll m xss = false
  · rw [if_pos a4] at h; omega
  exact ⟨by omega, by omega, by omega, by simpa using a4⟩
set_option maxRecDepth 20000 in
set_option maxHeartbeats 1000000 in
theorem ends_any (v pv : Value) (m : Mill) (xss : List (List Int)) (e0 : Int) (he0 : plE m xss = e0) (hb : xss.flatten.length ≤ 100) (hb2 : xss.length ≤ 1000) (w : World) (hv : MillVal w v m) (hp : RowsI w pv xss) :
    Calls Try.prog 55 #[v, pv] w fun e w' => ∃ r, e = .returned (.tuple #[r, .int .i64 e0]) ∧ SlI w' r (if e0 = 0 then endsL m xss else []) ∧ Ext w w' := by
  have Hv := Lib.hid hv
  have Hp := Lib.hid hp
  have Hlen : Hid (∀ j, j < xss.length → (xss[j]?.getD []).length ≤ 100) := fun j hj => by
    have h1 := flat_take hj
    have h2 := flat_le xss (j + 1)
    rw [h1, List.length_append] at h2
    omega
  obtain ⟨A1, c1, A2, c2, rfl, h2, h3, h4, h5, h6, h7⟩ := hv
  obtain ⟨PA, pc, rfl, g2, g3, g4⟩ := hp
  have G4 := Lib.hid g4; clear g4
  unfold maxLen at g3
  have hE := Ext.alloc w (.cells #[.slice A1 m.laced.length c1, .int .i64 m.change, .slice A2 m.orders.length c2] 64)
  have hM := Blk.new w 64 #[.slice A1 m.laced.length c1, .int .i64 m.change, .slice A2 m.orders.length c2]
  have hpl := Lib.hid (planned_any _ _ m xss e0 he0 (by omega) hb2 _ (Hv.out.ext hE) (Hp.out.ext hE))
  have He0 := Lib.hid he0; clear he0
  clear h6 h7 h3 h5 hb
  obtain ⟨k0, k1, k2⟩ := hM.c3
  go_enter Try.func55, Try.ntmps55
  go_wp2_with fail
  refine hpl.out.mono ?_
  rintro e w1 ⟨rfl, he1⟩
  have hE1 := hE.trans he1
  have hM1 := hM.ext he1
  clear hM hE he1 hpl k0 k1 k2
  by_cases h0 : e0 = 0
  · subst h0
    have hck := Lib.hid (plE_ok He0.out)
    have Hrange := Lib.hid (inB_range (listedE_ok hck.out.2.2.1).1)
    obtain ⟨l1, l2, l3⟩ := check_len hck.out.1
    have hX := Ext.alloc w1 (.cells #[.int .i64 (-1)] 3)
    have hB := Blk.new w1 3 #[.int .i64 (-1)]
    have hB1 : IntsAt (w1.alloc (.cells #[.int .i64 (-1)] 3)) (some ⟨w1.heap.size, 0, none⟩) [-1] := fun k hk => by
      match k, hk with
      | 0, _ => exact ⟨_, 0, rfl, hB.cell 0⟩
    have hrep := Lib.hid (repeat_any (-1) (some ⟨w1.heap.size, 0, none⟩) 1 m.orders.length (by omega) _ hB1 ⟨Nat.le_refl _, by simp [maxLen]⟩)
    have hM2 := hM1.alloc (.cells #[.int .i64 (-1)] 3)
    have hE2 := hE1.trans hX
    obtain ⟨k0, k1, k2⟩ := hM2.c3
    clear hM1 hE1 hX hB hB1
    go_wp2_with fail
    refine hrep.out.mono ?_
    rintro e w3 ⟨S, rfl, hS1, hS2, he3⟩
    have hE3 := hE2.trans he3
    have hM3 := hM2.ext he3
    have hR3 := Row.const hS2
    have hSw : w.heap.size < S := by have := hM2.lt; omega
    clear hM2 hE2 he3 hrep hS2 k0 k1 k2 hS1
    go_wp2_with fail
    go_loopw [27] (fun iv wr => ∃ k : Nat, k ≤ xss.length ∧ iv = .int .i64 k ∧ Ext w wr ∧ Blk wr w.heap.size 64 #[.slice A1 m.laced.length c1, .int .i64 m.change, .slice A2 m.orders.length c2] ∧ Hid (Row wr S m.orders.length (endsUp m xss k))) (fun iv _ => xss.length - (intOf iv).toNat)
    case atStart => exact ⟨0, by omega, rfl, hE3, hM3, hR3⟩
    case round =>
      clear hE3 hM3 hR3
      obtain ⟨k, hk, rfl, he, hMr, hR⟩ := hrel
      obtain ⟨k0, k1, k2⟩ := hMr.c3
      by_cases hlt : k < xss.length
      · obtain ⟨pb, po, u, e1, q1, hsl⟩ := G4.out k hlt
        subst e1
        have q1' := he.cell q1
        obtain ⟨LA, lc, rfl, s1, s2, s3⟩ := hsl
        have hst : Hid (endsUp m xss (k + 1) = setJ (endsUp m xss k) (xss[k]?.getD []) (endsF m k (xss[k]?.getD []) (xss[k]?.getD []).length) (xss[k]?.getD []).length) := rfl
        have hran := Lib.hid (ran_any _ m hck.out.1 k (by have := hck.out.2.1; omega) LA lc (xss[k]?.getD []).length (xss[k]?.getD []) rfl (Hlen.out k hlt) (fun x hx => Hrange.out x (mem_flat hlt hx)) wr (Hv.out.ext he) (s3.ext he))
        have Hmem : Hid (∀ x, x ∈ xss[k]?.getD [] → 0 ≤ x ∧ x < m.orders.length) := fun x hx => Hrange.out x (mem_flat hlt hx)
        have hyl := Hlen.out k hlt
        have S3 := Lib.hid s3; clear s3
        have hRlt := hR.out.lt
        generalize (xss[k]?.getD []) = ys at *
        obtain ⟨es, hes⟩ : ∃ es, endsF m k ys ys.length = es := ⟨_, rfl⟩
        have hesl : es.length = ys.length := by rw [← hes, endsF_len]
        rw [hes] at hran hst
        have Hes := Lib.hid hes; clear hes
        have Hesl := Lib.hid hesl; clear hesl
        generalize chR m k (rvI ys) = cc at *
        go_wp2_with fail
        refine hran.out.mono ?_
        rintro e w4 ⟨rr, rfl, hrr, he4⟩
        have hE4 := he.trans he4
        have hM4 := hMr.ext he4
        have hR4 : Hid (Row w4 S m.orders.length (endsUp m xss k)) := hR.out.ext he4
        have Hrr := Lib.hid hrr
        obtain ⟨Ar, cr, rfl, _, _, _, ho5, _⟩ := hrr.open_
        have hne : (Value.slice Ar es.length cr).ownBlock ≠ some S := by
          intro h
          cases hA : Ar with
          | none => rw [hA] at h; cases h
          | some ad =>
            have h1 := ho5 ad hA
            rw [h1.2.2] at h
            have := Option.some.inj h
            omega
        have Hne := Lib.hid hne
        clear he he4 hMr hR hran hrr ho5 hne k0 k1 k2 q1'
        go_wp2_with fail
        go_loopw [41] (fun jv w2 => ∃ j : Nat, j ≤ ys.length ∧ jv = .int .i64 j ∧ Ext w w2 ∧ Blk w2 w.heap.size 64 #[.slice A1 m.laced.length c1, .int .i64 m.change, .slice A2 m.orders.length c2] ∧ Hid (Row w2 S m.orders.length (setJ (endsUp m xss k) ys es j)) ∧ Hid (OwnI w2 w.heap.size 3 (.slice Ar es.length cr) es)) (fun jv _ => ys.length - (intOf jv).toNat)
        case atStart => exact ⟨0, by omega, rfl, hE4, hM4, hR4, Hrr.out.mono (by omega)⟩
        case round =>
          clear hE4 hM4 hR4
          obtain ⟨j, hj, rfl, heJ, hMJ, hRJ, hrJ⟩ := hrel
          by_cases hltj : j < ys.length
          · obtain ⟨bb, oo, rfl, cy⟩ := S3.out.ext heJ j hltj
            obtain ⟨ko, hko⟩ : ∃ ko : Nat, ys[j]?.getD 0 = (ko : Int) ∧ ko < m.orders.length := by
              have h1 := Hmem.out (ys[j]?.getD 0) (by simp [hltj])
              exact ⟨(ys[j]?.getD 0).toNat, by omega, by omega⟩
            obtain ⟨hko1, hko2⟩ := hko
            rw [hko1] at cy
            obtain ⟨Ae, ce, ee, _, _, ho3, _⟩ := hrJ.out.open_
            injection ee with ee1 _ ee2
            subst ee1; subst ee2
            obtain ⟨be, oe, rfl, ce'⟩ := ho3 j (by rw [Hesl.out]; exact hltj)
            obtain ⟨ev, hev⟩ : ∃ ev, es[j]?.getD 0 = ev := ⟨_, rfl⟩
            rw [hev] at ce'
            have hrc := hRJ.out.cell hko2
            have hrf := hRJ.out.frozen ko
            have hRN : Hid (Row (wr.setCell ⟨S, ko, none⟩ (.int .i64 ev)) S m.orders.length (setJ (endsUp m xss k) ys es (j + 1))) := by
              have := hRJ.out.set_ hko2 ev
              refine this.congr fun q _ => ?_
              show (if q = ko then ev else _) = if q = (ys[j]?.getD 0).toNat then es[j]?.getD 0 else _
              rw [hko1, hev, Int.toNat_natCast]
            have hEN := Lib.hid (Below.setCell heJ (p := ⟨S, ko, none⟩) (by show _ ≤ S; omega) (.int .i64 ev))
            have hMN := Lib.hid (hMJ.far (p := ⟨S, ko, none⟩) (by show w.heap.size ≠ S; omega) (.int .i64 ev))
            have hrN := Lib.hid (hrJ.out.apart (b := S) Hne.out ((Apart.refl S wr).set_ ko (.int .i64 ev)))
            have hel : j < es.length := by rw [Hesl.out]; exact hltj
            clear hko1 hev ho3 hRJ hMJ hrJ heJ
            go_wp2_with fail
            go_roundw
            case rel => exact ⟨j + 1, by omega, by go_num, hEN.out, hMN.out, hRN, hrN⟩
            case measure => simp [intOf]; omega
          · obtain rfl : j = ys.length := by omega
            go_wp2_with fail
            go_roundw
            case rel => exact ⟨k + 1, by omega, by go_num, heJ, hMJ, by unfold Hid; rw [hst.out]; exact hRJ.out⟩
            case measure => simp [intOf]; omega
      · obtain rfl : k = xss.length := by omega
        go_wp2_with fail
        go_ret2
        refine ⟨_, rfl, ?_, he⟩
        exact ⟨some ⟨S, 0, none⟩, m.orders.length, by unfold endsL; simp, by unfold endsL; simp, by unfold maxLen; omega, hR.out.ints⟩
  · have hd : (e0 != 0) = true := by simpa using h0
    have H0 := Lib.hid h0; clear h0
    go_wp2_with fail
    go_ret2
    refine ⟨_, rfl, ?_, hE1⟩
    exact ⟨none, 0, rfl, Nat.le_refl _, Nat.zero_le _, fun k hk => by cases hk⟩
end Go.Proofs.Pet

namespace Go.Proofs.Pet
open Go Go.RowKit Go.Maps Go.Shelf

def keepK (m : Mill) (f : Nat → Int) (k : Nat) : Bool := !decide (f k = -1) && decide (f k ≤ m.byy k)
def keepsB (m : Mill) (xss : List (List Int)) : Bool := (List.range m.orders.length).all (keepK m (endsUp m xss xss.length))
theorem endsL_len (m : Mill) (xss : List (List Int)) : (endsL m xss).length = m.orders.length := by unfold endsL; simp
theorem endsL_get (m : Mill) (xss : List (List Int)) {k : Nat} (hk : k < m.orders.length) : (endsL m xss)[k]?.getD 0 = endsUp m xss xss.length k := by
  unfold endsL; rw [List.getElem?_map, List.getElem?_range hk]; rfl
set_option maxRecDepth 20000 in
theorem keeps_any (v pv : Value) (m : Mill) (xss : List (List Int)) (e0 : Int) (he0 : plE m xss = e0) (q : Bool) (hq : (if e0 = 0 then keepsB m xss else false) = q) (hb : xss.flatten.length ≤ 100) (hb2 : xss.length ≤ 1000) (w : World) (hv : MillVal w v m) (hp : RowsI w pv xss) :
    Calls Try.prog 22 #[v, pv] w fun e w' => e = .returned (.tuple #[.bool q, .int .i64 e0]) ∧ Ext w w' := by
  have Hv := Lib.hid hv
  have Hp := Lib.hid hp
  obtain ⟨A1, c1, A2, c2, rfl, h2, h3, h4, h5, h6, h7⟩ := hv
  obtain ⟨PA, pc, rfl, g2, g3, g4⟩ := hp
  have H7 := Lib.hid h7
  have hE := Ext.alloc w (.cells #[.slice A1 m.laced.length c1, .int .i64 m.change, .slice A2 m.orders.length c2] 64)
  have hM := Blk.new w 64 #[.slice A1 m.laced.length c1, .int .i64 m.change, .slice A2 m.orders.length c2]
  have hen := Lib.hid (ends_any _ _ m xss e0 he0 hb hb2 _ (Hv.out.ext hE) (Hp.out.ext hE))
  have He0 := Lib.hid he0; clear he0
  clear h6 h7 h3 h2 hb g4 g2 g3
  obtain ⟨k0, k1, k2⟩ := hM.c3
  go_enter Try.func22, Try.ntmps22
  go_wp2_with fail
  refine hen.out.mono ?_
  rintro e w1 ⟨r, rfl, hr, he1⟩
  have hE1 := hE.trans he1
  have hM1 := hM.ext he1
  clear hE hM he1 hen k0 k1 k2
  by_cases h0 : e0 = 0
  · subst h0
    simp only [if_true] at hr hq
    have Hq := Lib.hid hq; clear hq
    have hck := (plE_ok He0.out).1
    obtain ⟨l1, l2, l3⟩ := check_len hck
    have hel := endsL_len m xss
    obtain ⟨Ar, cr, rfl, r1, r2, r3⟩ := hr
    have Hget : Hid (∀ k, k < m.orders.length → (endsL m xss)[k]?.getD 0 = endsUp m xss xss.length k) := fun k hk => endsL_get m xss hk
    generalize endsL m xss = es at *
    have Hel := Lib.hid hel
    rw [hel] at r1 ⊢
    have R3 := Lib.hid r3; clear r3 hel hck
    clear r1 r2
    go_wp2_with fail
    go_loopw [21] (fun iv wr => ∃ k : Nat, k ≤ m.orders.length ∧ iv = .int .i64 k ∧ wr = w1 ∧ Hid (∀ j, j < k → keepK m (endsUp m xss xss.length) j = true)) (fun iv _ => m.orders.length - (intOf iv).toNat)
    case atStart => exact ⟨0, by omega, rfl, rfl, fun j hj => absurd hj (by omega)⟩
    case round =>
      obtain ⟨k, hk, rfl, rfl, hno⟩ := hrel
      by_cases hlt : k < m.orders.length
      · obtain ⟨be, oe, rfl, ce⟩ := R3.out k (by rw [Hel.out]; exact hlt)
        rw [Hget.out k hlt] at ce
        obtain ⟨b2, o2, rfl, A', ca, hca, p1, p2, p3, p4, p5⟩ := H7.out.ext hE1 k hlt
        have hby : (m.orders[k]?.getD default).by_ = m.byy k := rfl
        rw [hby] at p3
        have hkk : Hid (keepK m (endsUp m xss xss.length) k = (!decide (endsUp m xss xss.length k = -1) && decide (endsUp m xss xss.length k ≤ m.byy k))) := rfl
        obtain ⟨ev, hev⟩ : ∃ ev, endsUp m xss xss.length k = ev := ⟨_, rfl⟩
        rw [hev] at ce hkk
        clear p1 p2 p4 p5 hca hby hev
        generalize m.byy k = yb at *
        have HF : keepK m (endsUp m xss xss.length) k = false → Hid (q = false) := fun h => by
          unfold Hid; rw [← Hq.out]; unfold keepsB
          rw [List.all_eq_false]
          exact ⟨k, List.mem_range.2 hlt, by rw [h]; simp⟩
        have HF' := Lib.hid HF; clear HF
        obtain ⟨k0, k1, k2⟩ := hM1.c3
        by_cases h1 : ev = -1
        · subst h1
          have hqf := HF'.out (by rw [hkk.out]; simp)
          go_wp2_with fail
          go_ret2
          exact ⟨by rw [hqf.out]; rfl, hE1⟩
        · have hd1 : (ev == -1) = false := by simpa using h1
          by_cases h2 : yb < ev
          · have hqf := HF'.out (by rw [hkk.out]; simp; omega)
            clear h1
            go_wp2_with fail
            go_ret2
            exact ⟨by rw [hqf.out]; rfl, hE1⟩
          · have hd2 : decide (yb < ev) = false := by simpa using h2
            have hok : Hid (keepK m (endsUp m xss xss.length) k = true) := by unfold Hid; rw [hkk.out]; simp; exact ⟨h1, by omega⟩
            clear h1 h2
            go_wp2_with fail
            go_roundw
            case rel =>
              refine ⟨k + 1, by omega, by go_num, trivial, fun j hj => ?_⟩
              by_cases e : j = k
              · subst e; exact hok.out
              · exact hno.out j (by omega)
            case measure => simp [intOf]; omega
      · obtain rfl : k = m.orders.length := by omega
        have hqt : Hid (q = true) := by
          unfold Hid; rw [← Hq.out]; unfold keepsB
          rw [List.all_eq_true]
          exact fun j hj => hno.out j (List.mem_range.1 hj)
        go_wp2_with fail
        go_ret2
        exact ⟨by rw [hqt.out]; rfl, hE1⟩
  · have hd : (e0 != 0) = true := by simpa using h0
    rw [if_neg h0] at hq
    subst hq
    rw [if_neg h0] at hr
    obtain ⟨Ar, cr, rfl, _⟩ := hr
    clear h0
    go_wp2_with fail
    go_ret2
    exact ⟨rfl, hE1⟩
end Go.Proofs.Pet

namespace Go.Proofs.Pet
open Go Go.RowKit Go.Maps Go.Shelf

end Go.Proofs.Pet

namespace Go.Proofs.Pet
open Go Go.RowKit Go.Maps Go.Shelf

end Go.Proofs.Pet

namespace Go.Proofs.Pet
open Go Go.RowKit Go.Maps Go.Shelf

theorem nodup_of_twice {xs : List Int} (h : twiceB xs = false) : xs.Nodup := by
  rw [List.nodup_iff_pairwise_ne, List.pairwise_iff_getElem]
  intro i j hi hj hij e
  unfold twiceB at h
  rw [List.any_eq_false] at h
  have := h j (List.mem_range.2 hj)
  refine this ?_
  have e1 : xs[j]?.getD 0 = xs[j] := by simp [hj]
  rw [e1, List.contains_iff_mem, List.mem_take_iff_getElem]
  exact ⟨i, by omega, e⟩
theorem setJ_last (f : Nat → Int) (l es : List Int) (k : Nat) : ∀ n, (setJ f l es n k = f k ∧ ∀ j, j < n → (l[j]?.getD 0).toNat ≠ k) ∨ ∃ j, j < n ∧ (l[j]?.getD 0).toNat = k ∧ setJ f l es n k = es[j]?.getD 0
  | 0 => .inl ⟨rfl, fun j h => absurd h (by omega)⟩
  | n + 1 => by
    by_cases e : k = (l[n]?.getD 0).toNat
    · exact .inr ⟨n, by omega, e.symm, if_pos e⟩
    · rcases setJ_last f l es k n with ⟨h1, h2⟩ | ⟨j, h1, h2, h3⟩
      · refine .inl ⟨(if_neg e).trans h1, fun j hj => ?_⟩
        by_cases ej : j = n
        · subst ej; exact fun h => e h.symm
        · exact h2 j (by omega)
      · exact .inr ⟨j, by omega, h2, (if_neg e).trans h3⟩
theorem endsF_get (m : Mill) (l : Nat) (xs : List Int) {j : Nat} (hj : j < xs.length) : (endsF m l xs xs.length)[j]?.getD 0 = dyR m l (rvI (xs.take (j + 1))) := by
  unfold endsF; rw [List.getElem?_map, List.getElem?_range hj]; rfl
/-- the end of an order is that of the last place where it stands -/
theorem endsUp_last (m : Mill) (xss : List (List Int)) (k : Nat) : ∀ n, (endsUp m xss n k = -1 ∧ ∀ i j, i < n → j < (xss[i]?.getD []).length → ((xss[i]?.getD [])[j]?.getD 0).toNat ≠ k) ∨
    ∃ i j, i < n ∧ j < (xss[i]?.getD []).length ∧ ((xss[i]?.getD [])[j]?.getD 0).toNat = k ∧ endsUp m xss n k = dyR m i (rvI ((xss[i]?.getD []).take (j + 1)))
  | 0 => .inl ⟨rfl, fun i j h => absurd h (by omega)⟩
  | n + 1 => by
    rcases setJ_last (endsUp m xss n) (xss[n]?.getD []) (endsF m n (xss[n]?.getD []) (xss[n]?.getD []).length) k (xss[n]?.getD []).length with ⟨h1, h2⟩ | ⟨j, h1, h2, h3⟩
    · rcases endsUp_last m xss k n with ⟨g1, g2⟩ | ⟨i, j, g1, g2, g3, g4⟩
      · refine .inl ⟨h1.trans g1, fun i j hi hj => ?_⟩
        by_cases ei : i = n
        · subst ei; exact h2 j hj
        · exact g2 i j (by omega) hj
      · exact .inr ⟨i, j, by omega, g2, g3, h1.trans g4⟩
    · exact .inr ⟨n, j, by omega, h1, h2, by rw [← endsF_get m n _ h1]; exact h3⟩
theorem tmR_iff (m : Mill) (l : Nat) (xs : List Int) : ∀ k, k ≤ xs.length → (tmR m l (rvI (xs.take k)) = true ↔ ∀ j, j < k → dyR m l (rvI (xs.take (j + 1))) ≤ m.byy (xs[j]?.getD 0).toNat)
  | 0, _ => by simp [rvI, tmR]
  | k + 1, hk => by
    have ih := tmR_iff m l xs k (by omega)
    have e := rvI_take (xs := xs) (k := k) (by omega)
    rw [e, tmR, Bool.and_eq_true, ih, decide_eq_true_eq, ← e]
    constructor
    · rintro ⟨h1, h2⟩ j hj
      by_cases ej : j = k
      · subst ej; exact h2
      · exact h1 j (by omega)
    · intro h
      exact ⟨fun j hj => h j (by omega), h k (by omega)⟩
def tmU (m : Mill) (xss : List (List Int)) : Nat → Bool
  | 0 => true
  | k + 1 => tmU m xss k && tmR m k (rvI (xss[k]?.getD []))
theorem tmU_iff (m : Mill) (xss : List (List Int)) : ∀ k, tmU m xss k = true ↔ ∀ i, i < k → tmR m i (rvI (xss[i]?.getD [])) = true
  | 0 => by simp [tmU]
  | k + 1 => by
    rw [tmU, Bool.and_eq_true, tmU_iff m xss k]
    constructor
    · rintro ⟨h1, h2⟩ j hj
      by_cases ej : j = k
      · subst ej; exact h2
      · exact h1 j (by omega)
    · intro h
      exact ⟨fun j hj => h j (by omega), h k (by omega)⟩
/-- no order below n is without an end -/
def allSet (f : Nat → Int) (q : Bool) : Nat → Bool
  | 0 => q
  | k + 1 => allSet f q k && !decide (f k = -1)
theorem allSet_iff (f : Nat → Int) (q : Bool) : ∀ k, allSet f q k = true ↔ q = true ∧ ∀ i, i < k → f i ≠ -1
  | 0 => by simp [allSet]
  | k + 1 => by
    rw [allSet, Bool.and_eq_true, allSet_iff f q k]
    constructor
    · rintro ⟨⟨h0, h1⟩, h2⟩
      refine ⟨h0, fun j hj => ?_⟩
      by_cases ej : j = k
      · subst ej; simpa using h2
      · exact h1 j (by omega)
    · rintro ⟨h0, h⟩
      exact ⟨⟨h0, fun j hj => h j (by omega)⟩, by have := h k (by omega); simpa using this⟩
theorem nodup_place {xss : List (List Int)} (h : xss.flatten.Nodup) {i j i' j' : Nat} (hi : i < xss.length) (hi' : i' < xss.length) (hj : j < (xss[i]?.getD []).length) (hj' : j' < (xss[i']?.getD []).length)
    (e : (xss[i]?.getD [])[j]?.getD 0 = (xss[i']?.getD [])[j']?.getD 0) : i = i' ∧ j = j' := by
  rw [List.nodup_iff_pairwise_ne, List.pairwise_flatten] at h
  obtain ⟨h1, h2⟩ := h
  have e1 : xss[i]?.getD [] = xss[i] := by simp [hi]
  have e2 : xss[i']?.getD [] = xss[i'] := by simp [hi']
  rw [e1] at hj e; rw [e2] at hj' e
  have f1 : xss[i][j]?.getD 0 = xss[i][j] := by simp [hj]
  have f2 : xss[i'][j']?.getD 0 = xss[i'][j'] := by simp [hj']
  rw [f1, f2] at e
  rw [List.pairwise_iff_getElem] at h2
  have m1 : xss[i][j] ∈ xss[i] := List.getElem_mem hj
  have m2 : xss[i'][j'] ∈ xss[i'] := List.getElem_mem hj'
  by_cases ei : i = i'
  · subst ei
    refine ⟨rfl, ?_⟩
    exact (List.getElem_inj (List.nodup_iff_pairwise_ne.2 (h1 _ (List.getElem_mem hi)))).1 e
  · exfalso
    rcases Nat.lt_or_ge i i' with hl | hg
    · exact h2 i i' hi hi' hl _ m1 _ m2 e
    · exact h2 i' i hi' hi (by omega) _ m2 _ m1 e.symm
theorem keeps_law {m : Mill} {xss : List (List Int)} (h : plE m xss = 0) : allSet (endsUp m xss xss.length) (tmU m xss xss.length) m.orders.length = keepsB m xss := by
  obtain ⟨_, _, h3, _⟩ := plE_ok h
  obtain ⟨g1, g2⟩ := listedE_ok h3
  have hnd := nodup_of_twice g2
  have hr := inB_range g1
  rw [Bool.eq_iff_iff, allSet_iff, tmU_iff]
  unfold keepsB keepK
  rw [List.all_eq_true]
  simp only [List.mem_range, Bool.and_eq_true, Bool.not_eq_true', decide_eq_false_iff_not, decide_eq_true_eq]
  constructor
  · rintro ⟨ht, hs⟩ k hk
    refine ⟨hs k hk, ?_⟩
    rcases endsUp_last m xss k xss.length with ⟨e1, _⟩ | ⟨i, j, e1, e2, e3, e4⟩
    · exact absurd e1 (hs k hk)
    · rw [e4, ← e3]
      have := ht i e1
      rw [← List.take_length (l := xss[i]?.getD []), tmR_iff m i _ _ (Nat.le_refl _)] at this
      exact this j e2
  · intro hk
    refine ⟨fun i hi => ?_, fun k hkk => (hk k hkk).1⟩
    rw [← List.take_length (l := xss[i]?.getD []), tmR_iff m i _ _ (Nat.le_refl _)]
    intro j hj
    have hm0 : (xss[i]?.getD [])[j]?.getD 0 ∈ xss[i]?.getD [] := by simp [hj]
    have hb := hr _ (mem_flat hi hm0)
    have hkb := (hk ((xss[i]?.getD [])[j]?.getD 0).toNat (by omega)).2
    rcases endsUp_last m xss ((xss[i]?.getD [])[j]?.getD 0).toNat xss.length with ⟨_, e2⟩ | ⟨i', j', e1, e2, e3, e4⟩
    · exact absurd rfl (e2 i j hi hj)
    · have hm1 : (xss[i']?.getD [])[j']?.getD 0 ∈ xss[i']?.getD [] := by simp [e2]
      have hb' := hr _ (mem_flat e1 hm1)
      obtain ⟨rfl, rfl⟩ := nodup_place hnd hi e1 hj e2 (by omega)
      rw [e4] at hkb
      exact hkb
end Go.Proofs.Pet

namespace Go.Proofs.Pet
open Go Go.RowKit

def edges (o : Oper) : List Edge := o.after.toList.filter (Region.binds .any)
def DepsE (y x : Nat → Value) : List Edge → Prop
  | [] => True
  | e :: l => x e.on = y e.on ∧ DepsE y x l
def closeB (l : List Oper) : Nat → List Nat → List Nat
  | 0, s => s
  | i + 1, s => closeB l i (if s.contains i then s ++ ((l[i]?.map edges).getD []).map (·.on) else s)
/-- what must be done before an operation -/
def anc (l : List Oper) (k : Nat) : List Nat := closeB l k (((l[k]?.map edges).getD []).map (·.on))
def chainOrd (l : List Oper) : List (Nat × Bool) → Bool
  | [] => true
  | [_] => true
  | p :: q :: r => (anc l q.1).contains p.1 && chainOrd l (q :: r)
/-- all but ms (the second says: it only makes memory) float, those of rs in whatever memory -/
def chainB2 (l : List Oper) (n : Nat) (ms : List (Nat × Bool)) (rs : List Nat) : Bool :=
  ((List.range n).all fun k => ms.any (fun p => p.1 == k) || ((l[k]?.map edges).getD []).all fun e => !(ms.any fun p => p.1 == e.on)) && chainOrd l ms &&
    ms.all fun p => decide (p.1 < n) && (p.2 || (List.range n).all fun j => ms.any (fun q => q.1 == j) || rs.contains j || (anc l p.1).contains j)
theorem depsE_mk {y x : Nat → Value} : ∀ {l : List Edge}, (∀ e ∈ l, x e.on = y e.on) → DepsE y x l
  | [], _ => trivial
  | e :: _, h => ⟨h e (by simp), depsE_mk fun e' he => h e' (by simp [he])⟩
theorem depsL_mem {Ld : Nat → Prop} : ∀ {l : List Edge}, DepsL Ld l → ∀ e ∈ l, Ld e.on
  | _ :: _, h, e', he => by
    rcases List.mem_cons.1 he with h1 | h1
    · subst h1; exact h.1
    · exact depsL_mem h.2 e' h1
theorem Closed.at_ {Ld : Nat → Prop} : ∀ (l : List Oper) (k : Nat), Closed Ld l k → ∀ i o, l[i]? = some o → Ld (k + i) → DepsL Ld (edges o)
  | [], _, _, i, o, hi, _ => by simp at hi
  | o :: l, k, h, i, o', hi, hl => by
    rcases i with _ | i
    · simp only [List.getElem?_cons_zero, Option.some.injEq] at hi
      subst hi
      exact h.1 hl
    · exact Closed.at_ l (k + 1) h.2 i o' (by simpa using hi) (by rwa [show k + 1 + i = k + (i + 1) by omega])
theorem closeB_ok {l : List Oper} {n : Nat} {Ld : Nat → Prop} (hcl : Closed Ld (l.take n) 0) : ∀ {i : Nat} {s : List Nat}, i ≤ n → (∀ j ∈ s, Ld j) → ∀ j, (closeB l i s).contains j = true → Ld j
  | 0, s, _, h, j, hj => h j (by simpa [closeB] using hj)
  | i + 1, s, hi, h, j, hj => by
    unfold closeB at hj
    refine closeB_ok hcl (by omega) ?_ j hj
    intro j hj
    split at hj
    · rename_i hs
      rcases List.mem_append.1 hj with h1 | h1
      · exact h j h1
      · obtain ⟨e, he, rfl⟩ := List.mem_map.1 h1
        cases ho : l[i]? with
        | none => rw [ho] at he; simp at he
        | some o =>
          rw [ho] at he
          simp only [Option.map_some, Option.getD_some] at he
          have hLi : Ld (0 + i) := by rw [Nat.zero_add]; exact h i (by simpa using hs)
          exact depsL_mem (hcl.at_ _ _ i o (by rw [List.getElem?_take]; simp [show i < n by omega, ho]) hLi) e he
    · exact h j hj
theorem chainOrd_suffix {l : List Oper} : ∀ (pre : List (Nat × Bool)) {s : List (Nat × Bool)}, chainOrd l (pre ++ s) = true → chainOrd l s = true
  | [], _, h => h
  | [p], s, h => by
    cases s with
    | nil => rfl
    | cons q r =>
      simp only [List.cons_append, List.nil_append, chainOrd, Bool.and_eq_true] at h
      exact h.2
  | p :: q :: r, s, h => by
    simp only [List.cons_append, chainOrd, Bool.and_eq_true] at h
    exact chainOrd_suffix (q :: r) h.2
theorem chainOrd_pred {l : List Oper} : ∀ {r : List (Nat × Bool)} {p q : Nat × Bool}, chainOrd l (p :: r) = true → q ∈ r → ∃ p', p' ∈ p :: r ∧ (anc l q.1).contains p'.1 = true
  | q' :: r, p, q, h, hq => by
    simp only [chainOrd, Bool.and_eq_true] at h
    rcases List.mem_cons.1 hq with h1 | h1
    · subst h1; exact ⟨p, by simp, h.1⟩
    · obtain ⟨p', hp, hc⟩ := chainOrd_pred h.2 h1
      exact ⟨p', by simp only [List.mem_cons] at hp ⊢; exact .inr hp, hc⟩
theorem fill_congr' (l : List Oper) : ∀ (k : Nat) (x y : Nat → Value) (a : Act), (∀ j, k ≤ j → j < k + l.length → x j = y j) → fill l k x a = fill l k y a := by
  induction l with
  | nil => intro k x y a _; rfl
  | cons o l ih =>
    intro k x y a h
    simp only [fill]
    rw [h k (Nat.le_refl _) (by simp)]
    exact ih (k + 1) x y _ fun j h1 h2 => h j (by omega) (by simp; omega)

def Chain (P : Program) (ops : Array Oper) (G : World → Prop) (hd tl : List Oper) (fr : (Nat → Value) → Act) (Q : Exit → Act → World → Prop) : List (Nat × Bool) → (Nat → Value) → World → Prop
  | [], y, W => wpList P ops Q tl (fr y) W
  | (k, e) :: ms, y, W => ∀ x, DepsE y x ((hd[k]?.map edges).getD []) → ∀ (K : Act → World → Prop) (Q' : Exit → Act → World → Prop),
      (∀ v W', (e = true → G W') → Chain P ops G hd tl fr Q ms (upd y k v) W' → K ((fr x).put ((hd[k]?.map (·.dst)).getD none) v) W') → wpList P ops (Exit.then K Q') ((hd[k]?.map fun o => [o]).getD []) (fr x) W
def FloatOk (P : Program) (ops : Array Oper) (G : World → Prop) (fr : (Nat → Value) → Act) (reg : Bool) (o : Oper) (y : Nat → Value) (v : Value) : Prop :=
  ∀ (x : Nat → Value) (W : World), (reg = false → G W) → DepsE y x (edges o) → ∀ (K : Act → World → Prop) (Q : Exit → Act → World → Prop), K ((fr x).put o.dst v) W → wpList P ops (Exit.then K Q) [o] (fr x) W
def Floats (P : Program) (ops : Array Oper) (w : World) (G : World → Prop) (hd tl : List Oper) (fr : (Nat → Value) → Act) (Q : Exit → Act → World → Prop) (ms : List (Nat × Bool)) (rs : List Nat) : List Oper → Nat → (Nat → Value) → Prop
  | [], _, y => ∀ W, Ext w W → G W → Chain P ops G hd tl fr Q ms y W
  | o :: l, k, y => if ms.any (fun p => p.1 == k) then Floats P ops w G hd tl fr Q ms rs l (k + 1) y else ∃ v, FloatOk P ops G fr (rs.contains k) o y v ∧ Floats P ops w G hd tl fr Q ms rs l (k + 1) (upd y k v)
theorem DepsE.congr {y z x : Nat → Value} : ∀ {l : List Edge}, (∀ e ∈ l, y e.on = z e.on) → DepsE y x l → DepsE z x l
  | [], _, _ => trivial
  | e :: l, h, hd => ⟨by rw [← h e (by simp)]; exact hd.1, DepsE.congr (fun e' he => h e' (by simp [he])) hd.2⟩
theorem Floats.split {P : Program} {ops : Array Oper} {w : World} {G : World → Prop} {hd tl : List Oper} {fr : (Nat → Value) → Act} {Q : Exit → Act → World → Prop} {ms : List (Nat × Bool)} {rs : List Nat} :
    ∀ (l : List Oper) (k : Nat) (y : Nat → Value), (∀ i o, l[i]? = some o → ∀ e ∈ edges o, e.on < k + i) → Floats P ops w G hd tl fr Q ms rs l k y →
      ∃ z, (∀ j, j < k → z j = y j) ∧ (∀ i o, l[i]? = some o → ms.any (fun p => p.1 == k + i) = false → FloatOk P ops G fr (rs.contains (k + i)) o z (z (k + i))) ∧ ∀ W, Ext w W → G W → Chain P ops G hd tl fr Q ms z W
  | [], k, y, _, h => ⟨y, fun _ _ => rfl, fun i o hi => by simp at hi, h⟩
  | o :: l, k, y, hlow, h => by
    have hlow' : ∀ i o', l[i]? = some o' → ∀ e ∈ edges o', e.on < k + 1 + i := fun i o' hi e he => by
      have := hlow (i + 1) o' (by simpa using hi) e he
      omega
    unfold Floats at h
    by_cases hm : ms.any (fun p => p.1 == k) = true
    · rw [if_pos hm] at h
      obtain ⟨z, h1, h2, h3⟩ := Floats.split l (k + 1) y hlow' h
      refine ⟨z, fun j hj => h1 j (by omega), fun i o' hi hf => ?_, h3⟩
      rcases i with _ | i
      · rw [Nat.add_zero, hm] at hf; cases hf
      · rw [show k + (i + 1) = k + 1 + i by omega] at hf ⊢
        exact h2 i o' (by simpa using hi) hf
    · rw [if_neg hm] at h
      obtain ⟨v, hv, h⟩ := h
      obtain ⟨z, h1, h2, h3⟩ := Floats.split l (k + 1) _ hlow' h
      have hzk : z k = v := by rw [h1 k (by omega)]; simp [upd]
      refine ⟨z, fun j hj => by rw [h1 j (by omega)]; unfold upd; rw [if_neg (by omega)], fun i o' hi hf => ?_, h3⟩
      rcases i with _ | i
      · simp only [List.getElem?_cons_zero, Option.some.injEq] at hi
        subst hi
        rw [Nat.add_zero, hzk]
        intro x W he hd' K Q' hK
        refine hv x W he (DepsE.congr (fun e he => ?_) hd') K Q' hK
        have hlt := hlow 0 o rfl e he
        rw [h1 e.on (by omega)]; unfold upd; rw [if_neg (by omega)]
      · rw [show k + (i + 1) = k + 1 + i by omega] at hf ⊢
        exact h2 i o' (by simpa using hi) hf
/-- what is known while a region with floating operations and a forced chain goes on -/
def ChainS (P : Program) (ops : Array Oper) (G : World → Prop) (hd tl : List Oper) (fr : (Nat → Value) → Act) (Q : Exit → Act → World → Prop) (ms : List (Nat × Bool)) (rs : List Nat) (n : Nat) (z : Nat → Value) (Ld : Nat → Prop) (x : Nat → Value) (W : World) : Prop :=
  (∀ i, i < n → ms.any (fun p => p.1 == i) = false → Ld i → x i = z i) ∧ ∃ pre ms' y, ms = pre ++ ms' ∧ (∀ p ∈ pre, Ld p.1) ∧ (∀ p ∈ ms', ¬ Ld p.1) ∧ (∀ i, ms.any (fun p => p.1 == i) = false → y i = z i) ∧ (∀ p ∈ pre, x p.1 = y p.1) ∧
    Chain P ops G hd tl fr Q ms' y W ∧ ((∀ p ∈ pre, p.2 = true) → G W) ∧ ((∀ p ∈ pre, p.2 = true) ∨ ∀ j, j < n → ms.any (fun p => p.1 == j) = false → rs.contains j = false → Ld j)
section
variable {P : Program} {ops : Array Oper} {w : World} {G : World → Prop} {hd tl : List Oper} {fr : (Nat → Value) → Act} {Q : Exit → Act → World → Prop} {ms : List (Nat × Bool)} {rs : List Nat} {l : List Oper} {o : Oper} {k : Nat} {y : Nat → Value} {e : Bool} {W : World}
theorem Floats.mut (hk : ms.any (fun p => p.1 == k) = true) (h : Floats P ops w G hd tl fr Q ms rs l (k + 1) y) : Floats P ops w G hd tl fr Q ms rs (o :: l) k y := by
  unfold Floats; rw [if_pos hk]; exact h
theorem Floats.float {v : Value} (hk : ms.any (fun p => p.1 == k) = false) (hf : FloatOk P ops G fr (rs.contains k) o y v) (h : Floats P ops w G hd tl fr Q ms rs l (k + 1) (upd y k v)) : Floats P ops w G hd tl fr Q ms rs (o :: l) k y := by
  unfold Floats; rw [if_neg (by rw [hk]; decide)]; exact ⟨v, hf, h⟩
theorem Floats.done (h : ∀ W, Ext w W → G W → Chain P ops G hd tl fr Q ms y W) : Floats P ops w G hd tl fr Q ms rs [] k y := h
theorem Chain.cons (o : Oper) (ho : hd[k]? = some o) (h : ∀ x, DepsE y x (edges o) → ∀ (K : Act → World → Prop) (Q' : Exit → Act → World → Prop),
      (∀ v W', (e = true → G W') → Chain P ops G hd tl fr Q ms (upd y k v) W' → K ((fr x).put o.dst v) W') → wpList P ops (Exit.then K Q') [o] (fr x) W) : Chain P ops G hd tl fr Q ((k, e) :: ms) y W := by
  unfold Chain; rw [ho]; exact h
theorem Chain.nil (h : wpList P ops Q tl (fr y) W) : Chain P ops G hd tl fr Q [] y W := h
end
theorem allOps3_mk {P : Program} {ops : Array Oper} {hd : List Oper} {S : (Nat → Prop) → (Nat → Value) → World → Prop} {R : Nat → Value → Prop} {fr : (Nat → Value) → Act} : ∀ (l : List Oper) (k : Nat),
    (∀ (i : Nat) (o : Oper), l[i]? = some o → ∀ (Ld : Nat → Prop) (x : Nat → Value) (w : World), S Ld x w → Closed Ld hd 0 → ¬ Ld (k + i) → DepsL Ld (o.after.toList.filter (Region.binds .any)) → DepsV R x (o.after.toList.filter (Region.binds .any)) → ∀ (K : Act → World → Prop) (Q : Exit → Act → World → Prop),
      (∀ v w', R (k + i) v → S (fun j => Ld j ∨ j = k + i) (upd x (k + i) v) w' → K ((fr x).put o.dst v) w') → wpList P ops (Exit.then K Q) [o] (fr x) w) → AllOps3 P ops hd S R fr l k
  | [], _, _ => trivial
  | o :: l, k, h => ⟨h 0 o rfl, allOps3_mk l (k + 1) fun i o' hi => by
      have := h (i + 1) o' (by simpa using hi)
      rw [show k + (i + 1) = k + 1 + i by omega] at this
      exact this⟩
theorem wp_region_chainG {P : Program} {id : Nat} {Q : Exit → Act → World → Prop} {a : Act} {w : World} {l : List Oper} (G : World → Prop) (hG : G w.drew) (n : Nat) (ms : List (Nat × Bool)) (rs : List Nat) (hm : P.follows .mixedOrders = true) (hB : headB2 l n = true) (hC : chainB2 l n ms rs = true)
    (h : Floats P l.toArray w G (l.take n) (l.drop n) (fun x => fill (l.take n) 0 x a) Q ms rs (l.take n) 0 (fun _ => undef)) :
    (Code.region id l.toArray true).wp P Q a w := by
  have hB' := hB
  simp only [headB2, Bool.and_eq_true, decide_eq_true_eq, Bool.or_eq_true, List.all_eq_true, List.mem_range] at hB'
  obtain ⟨⟨⟨⟨hn, hdist⟩, _⟩, _⟩, hlow⟩ := hB'
  have hlow2 : ∀ i o, (l.take n)[i]? = some o → ∀ e ∈ edges o, e.on < 0 + i := fun i o hi e he => by
    have hin : i < n := by have := (List.getElem?_eq_some_iff.1 hi).1; simp at this; omega
    have ho : l[i]? = some o := by rw [List.getElem?_take] at hi; simpa [hin] using hi
    have h1 := hlow i hin
    rw [ho] at h1
    obtain ⟨he, hbe⟩ := List.mem_filter.1 he
    have h2 := Array.all_eq_true'.1 h1 e (by simpa using he)
    simp only [hbe, Bool.not_true, Bool.false_or, decide_eq_true_eq] at h2
    omega
  obtain ⟨z, _, hfl, hch⟩ := Floats.split (l.take n) 0 _ hlow2 h
  simp only [chainB2, Bool.and_eq_true, List.all_eq_true, List.mem_range] at hC
  obtain ⟨⟨hc1, hc2⟩, hc3⟩ := hC
  refine wp_region_stage n hm hB (ChainS P l.toArray G (l.take n) (l.drop n) (fun x => fill (l.take n) 0 x a) Q ms rs n z) (fun _ _ => True)
    (fun x => ⟨fun i _ _ h => h.elim, [], ms, z, rfl, fun p hp => by simp at hp, fun p _ h => h, fun _ _ => rfl, fun p hp => by simp at hp, hch _ (Ext.drew w) hG, fun _ => hG, .inl fun p hp => by simp at hp⟩) ?_ ?_
  · refine allOps3_mk (l.take n) 0 fun i o hi Ld x W hS hcl hnl hdl _ K Q' hK => ?_
    rw [Nat.zero_add] at hnl hK
    have hin : i < n := by have := (List.getElem?_eq_some_iff.1 hi).1; simp at this; omega
    have ho : l[i]? = some o := by rw [List.getElem?_take] at hi; simpa [hin] using hi
    obtain ⟨hxf, pre, ms', y, hms, hpre, hsuf, hyz, hxy, hchn, hext, hrd⟩ := hS
    have hanc : ∀ j, (anc l i).contains j = true → Ld j := fun j hj => by
      unfold anc at hj
      rw [ho] at hj
      refine closeB_ok (l := l) (n := n) hcl (by omega) ?_ j hj
      intro j hj
      simp only [Option.map_some, Option.getD_some, List.mem_map] at hj
      obtain ⟨e, he, rfl⟩ := hj
      exact depsL_mem hdl e he
    by_cases hmi : ms.any (fun p => p.1 == i) = true
    · -- an operation of the chain
      obtain ⟨⟨i', e⟩, hp, hpi⟩ := List.any_eq_true.1 hmi
      simp only [beq_iff_eq] at hpi
      subst hpi
      have hps : (i', e) ∈ ms' := by
        rw [hms] at hp
        rcases List.mem_append.1 hp with h1 | h1
        · exact absurd (hpre _ h1) hnl
        · exact h1
      obtain ⟨⟨k0, e0⟩, r, rfl⟩ : ∃ p r, ms' = p :: r := by cases ms' with | nil => simp at hps | cons p r => exact ⟨p, r, rfl⟩
      have hk0 : (i', e) = (k0, e0) := by
        rcases List.mem_cons.1 hps with h1 | h1
        · exact h1
        · exfalso
          obtain ⟨p, hp1, hp2⟩ := chainOrd_pred (chainOrd_suffix pre (hms ▸ hc2)) h1
          exact hsuf p hp1 (hanc _ hp2)
      simp only [Prod.mk.injEq] at hk0
      obtain ⟨rfl, rfl⟩ := hk0
      have hdeps : DepsE y x ((((l.take n)[i']?).map edges).getD []) := by
        rw [hi]
        refine depsE_mk fun e' he' => ?_
        have hld := depsL_mem hdl e' he'
        by_cases hmj : ms.any (fun p => p.1 == e'.on) = true
        · obtain ⟨p, hpm, hpe⟩ := List.any_eq_true.1 hmj
          simp only [beq_iff_eq] at hpe
          rw [hms] at hpm
          rcases List.mem_append.1 hpm with h1 | h1
          · rw [← hpe]; exact hxy p h1
          · exact absurd (hpe ▸ hld) (hsuf p h1)
        · have hmj' : ms.any (fun p => p.1 == e'.on) = false := Bool.eq_false_iff.2 hmj
          have hlt : e'.on < n := by have := hlow2 i' o hi e' he'; omega
          rw [hyz _ hmj', hxf _ hlt hmj' hld]
      have hrun := hchn x hdeps K Q'
      rw [hi] at hrun
      simp only [Option.map_some, Option.getD_some] at hrun
      refine hrun fun v W' hev hrest => hK v W' trivial ?_
      have hnd : ∀ p ∈ r, p.1 ≠ i' := fun p hp hpe => by
        obtain ⟨q, hq1, hq2⟩ := chainOrd_pred (chainOrd_suffix pre (hms ▸ hc2)) hp
        have : (anc l i').contains q.1 = true := hpe ▸ hq2
        exact hsuf q hq1 (hanc _ this)
      refine ⟨fun j hj hmj hl => ?_, pre ++ [(i', e)], r, upd y i' v, by simp [hms], ?_, ?_, ?_, ?_, hrest, ?_, ?_⟩
      · have hji : j ≠ i' := fun h => by subst h; rw [hmj] at hmi; cases hmi
        unfold upd; rw [if_neg hji]
        exact hxf j hj hmj (hl.resolve_right hji)
      · intro p hp
        rcases List.mem_append.1 hp with h1 | h1
        · exact .inl (hpre p h1)
        · rw [List.mem_singleton] at h1; subst h1; exact .inr rfl
      · intro p hp h1
        exact h1.elim (hsuf p (by simp [hp])) (hnd p hp)
      · intro j hmj
        have hji : j ≠ i' := fun h => by subst h; rw [hmj] at hmi; cases hmi
        unfold upd; rw [if_neg hji]; exact hyz j hmj
      · intro p hp
        rcases List.mem_append.1 hp with h1 | h1
        · have hpi : p.1 ≠ i' := fun h => hnl (h ▸ hpre p h1)
          unfold upd; rw [if_neg hpi, if_neg hpi]; exact hxy p h1
        · rw [List.mem_singleton] at h1; subst h1; simp [upd]
      · intro hall
        exact hev (hall (i', e) (by simp))
      · cases e with
        | true =>
          rcases hrd with h1 | h1
          · refine .inl fun p hp => ?_
            rcases List.mem_append.1 hp with h2 | h2
            · exact h1 p h2
            · rw [List.mem_singleton] at h2; subst h2; rfl
          · exact .inr fun j hj hmj hrj => .inl (h1 j hj hmj hrj)
        | false =>
          refine .inr fun j hj hmj hrj => .inl ?_
          have h4 := hc3 (i', false) (hms ▸ by simp)
          simp only [Bool.false_or, List.all_eq_true, List.mem_range, decide_eq_true_eq] at h4
          have h5 := h4.2 j hj
          rw [hmj, hrj] at h5
          exact hanc j (by simpa using h5)
    · -- a floating one
      have hmi' : ms.any (fun p => p.1 == i) = false := Bool.eq_false_iff.2 hmi
      have hf := hfl i o hi (by rw [Nat.zero_add]; exact hmi')
      rw [Nat.zero_add] at hf
      refine hf x W (fun hr => ?_) (depsE_mk fun e he => ?_) K Q' (hK (z i) W trivial ⟨fun j hj hmj hl => ?_, pre, ms', y, hms, fun p hp => .inl (hpre p hp), fun p hp h1 => ?_, hyz, fun p hp => ?_, hchn, hext, hrd.imp (fun h => h) fun h1 j hj hmj hrj => .inl (h1 j hj hmj hrj)⟩)
      · rcases hrd with h1 | h1
        · exact hext h1
        · exact absurd (h1 i hin hmi' hr) hnl
      · have hlt : e.on < n := by have := hlow2 i o hi e he; omega
        have h4 := hc1 i hin
        rw [hmi', ho] at h4
        simp only [Bool.false_or, List.all_eq_true] at h4
        have h5 := h4 e he
        exact hxf _ hlt (by simpa using h5) (depsL_mem hdl e he)
      · by_cases hji : j = i
        · subst hji; simp [upd]
        · unfold upd; rw [if_neg hji]; exact hxf j hj hmj (hl.resolve_right hji)
      · refine h1.elim (hsuf p hp) fun h2 => ?_
        have : ms.any (fun q => q.1 == i) = true := List.any_eq_true.2 ⟨p, hms ▸ by simp [hp], by simp [h2]⟩
        rw [hmi'] at this; cases this
      · have hpi : p.1 ≠ i := fun h2 => by
          have : ms.any (fun q => q.1 == i) = true := List.any_eq_true.2 ⟨p, hms ▸ by simp [hp], by simp [h2]⟩
          rw [hmi'] at this; cases this
        unfold upd; rw [if_neg hpi]; exact hxy p hp
  · intro x W hS _
    obtain ⟨hxf, pre, ms', y, hms, hpre, hsuf, hyz, hxy, hchn, _, _⟩ := hS
    have hnil : ms' = [] := by
      cases ms' with
      | nil => rfl
      | cons p r =>
        have h4 := hc3 p (hms ▸ by simp)
        simp only [decide_eq_true_eq] at h4
        exact absurd h4.1 (hsuf p (by simp))
    subst hnil
    rw [List.append_nil] at hms
    subst hms
    have hxy' : ∀ j, j < n → x j = y j := fun j hj => by
      by_cases hmj : ms.any (fun p => p.1 == j) = true
      · obtain ⟨p, hpm, hpe⟩ := List.any_eq_true.1 hmj
        simp only [beq_iff_eq] at hpe
        rw [← hpe]; exact hxy p hpm
      · have hmj' : ms.any (fun p => p.1 == j) = false := Bool.eq_false_iff.2 hmj
        rw [hyz _ hmj']; exact hxf j hj hmj' hj
    rw [fill_congr' (l.take n) 0 x y a fun j _ hj => hxy' j (by simp at hj; omega)]
    exact hchn
theorem wp_region_chain {P : Program} {id : Nat} {Q : Exit → Act → World → Prop} {a : Act} {w : World} {l : List Oper} (n : Nat) (ms : List (Nat × Bool)) (rs : List Nat) (hm : P.follows .mixedOrders = true) (hB : headB2 l n = true) (hC : chainB2 l n ms rs = true)
    (h : Floats P l.toArray w (Ext w) (l.take n) (l.drop n) (fun x => fill (l.take n) 0 x a) Q ms rs (l.take n) 0 (fun _ => undef)) :
    (Code.region id l.toArray true).wp P Q a w := wp_region_chainG (Ext w) (Ext.drew w) n ms rs hm hB hC h


def ChainIn (F : Fence) (n0 : Nat) (P : Program) (ops : Array Oper) (G : World → Prop) (hd tl : List Oper) (fr : (Nat → Value) → Act) (Q : Exit → Act → World → Prop) : List (Nat × Bool) → (Nat → Value) → World → Prop
  | [], y, W => wpListIn F n0 P ops Q tl (fr y) W
  | (k, e) :: ms, y, W => ∀ x, DepsE y x ((hd[k]?.map edges).getD []) → ∀ (K : Act → World → Prop) (Q' : Exit → Act → World → Prop),
      (∀ v W', (e = true → G W') → ChainIn F n0 P ops G hd tl fr Q ms (upd y k v) W' → K ((fr x).put ((hd[k]?.map (·.dst)).getD none) v) W') → wpListIn F n0 P ops (Exit.then K Q') ((hd[k]?.map fun o => [o]).getD []) (fr x) W
def FloatOkIn (F : Fence) (n0 : Nat) (P : Program) (ops : Array Oper) (G : World → Prop) (fr : (Nat → Value) → Act) (reg : Bool) (o : Oper) (y : Nat → Value) (v : Value) : Prop :=
  ∀ (x : Nat → Value) (W : World), (reg = false → G W) → DepsE y x (edges o) → ∀ (K : Act → World → Prop) (Q : Exit → Act → World → Prop), K ((fr x).put o.dst v) W → wpListIn F n0 P ops (Exit.then K Q) [o] (fr x) W
def FloatsIn (F : Fence) (n0 : Nat) (P : Program) (ops : Array Oper) (w : World) (G : World → Prop) (hd tl : List Oper) (fr : (Nat → Value) → Act) (Q : Exit → Act → World → Prop) (ms : List (Nat × Bool)) (rs : List Nat) : List Oper → Nat → (Nat → Value) → Prop
  | [], _, y => ∀ W, Ext w W → G W → ChainIn F n0 P ops G hd tl fr Q ms y W
  | o :: l, k, y => if ms.any (fun p => p.1 == k) then FloatsIn F n0 P ops w G hd tl fr Q ms rs l (k + 1) y else ∃ v, FloatOkIn F n0 P ops G fr (rs.contains k) o y v ∧ FloatsIn F n0 P ops w G hd tl fr Q ms rs l (k + 1) (upd y k v)
theorem DepsE.congrIn {y z x : Nat → Value} : ∀ {l : List Edge}, (∀ e ∈ l, y e.on = z e.on) → DepsE y x l → DepsE z x l
  | [], _, _ => trivial
  | e :: l, h, hd => ⟨by rw [← h e (by simp)]; exact hd.1, DepsE.congrIn (fun e' he => h e' (by simp [he])) hd.2⟩
/-- what is known while a region with floating operations and a forced chain goes on -/
def ChainSIn (F : Fence) (n0 : Nat) (P : Program) (ops : Array Oper) (G : World → Prop) (hd tl : List Oper) (fr : (Nat → Value) → Act) (Q : Exit → Act → World → Prop) (ms : List (Nat × Bool)) (rs : List Nat) (n : Nat) (z : Nat → Value) (Ld : Nat → Prop) (x : Nat → Value) (W : World) : Prop :=
  (∀ i, i < n → ms.any (fun p => p.1 == i) = false → Ld i → x i = z i) ∧ ∃ pre ms' y, ms = pre ++ ms' ∧ (∀ p ∈ pre, Ld p.1) ∧ (∀ p ∈ ms', ¬ Ld p.1) ∧ (∀ i, ms.any (fun p => p.1 == i) = false → y i = z i) ∧ (∀ p ∈ pre, x p.1 = y p.1) ∧
    ChainIn F n0 P ops G hd tl fr Q ms' y W ∧ ((∀ p ∈ pre, p.2 = true) → G W) ∧ ((∀ p ∈ pre, p.2 = true) ∨ ∀ j, j < n → ms.any (fun p => p.1 == j) = false → rs.contains j = false → Ld j)
end Go.Proofs.Pet

namespace Go.Proofs.Pet
open Go Go.RowKit Go.Maps Go.Shelf

/-- whether all looms of an order are in a list, and it must be done by a day -/
def aloneB (o : Ord) (looms : List Int) (by_ : Int) : Bool := decide (o.by_ ≤ by_) && o.on.all fun k => looms.contains k
def overF (m : Mill) (looms : List Int) (by_ : Int) : Nat → Int
  | 0 => -by_ * looms.length
  | k + 1 => overF m looms by_ k + if aloneB (m.orders[k]?.getD default) looms by_ = true then (m.orders[k]?.getD default).days else 0
end Go.Proofs.Pet

namespace Go.Proofs.Pet
open Go Go.RowKit Go.Maps Go.Shelf

/-- the first set of looms that has too much to do by a day, in the order of lists; 0 if there is none -/
def crIn (m : Mill) (b : Int) : Nat → Nat
  | 0 => 0
  | k + 1 => if 0 < overF m (ints (bits 8 (k + 1))) b m.orders.length ∧ (crIn m b k = 0 ∨ aheadB (ints (bits 8 (k + 1))) (ints (bits 8 (crIn m b k))) = true) then k + 1 else crIn m b k
/-- the first crowd: day and set; (0, 0) if there is none by day k -/
def crBy (m : Mill) (N : Nat) : Nat → Nat × Nat
  | 0 => (0, 0)
  | k + 1 => if crBy m N k = (0, 0) then (if crIn m (k + 1 : Nat) N = 0 then (0, 0) else (k + 1, crIn m (k + 1 : Nat) N)) else crBy m N k
def crA (mv : Value) (s b _cb _z Lb : Nat) (ov : Int) (_c3 : Bool) : Nat → Value → World → Prop
  | 0 => fun v _ => v = mv
  | 1 => fun v _ => v = .int .i64 s
  | 2 => fun v W => OwnI W Lb 3 v (ints (bits 8 s))
  | 3 => fun v _ => v = .int .i64 ((b : Int) + 1)
  | 4 => fun v _ => v = .int .i64 ov
  | 5 => fun v _ => v = .bool false
  | 6 => fun v _ => v = .bool false
  | 7 => fun v _ => v = undef
  | 8 => fun v _ => v = undef
  | 9 => fun v _ => v = undef
  | 10 => fun v _ => v = undef
  | 11 => fun v _ => v = undef
  | 12 => fun v _ => v = undef
  | 13 => fun v _ => v = undef
  | 14 => fun v _ => v = undef
  | 15 => fun v _ => v = undef
  | 16 => fun v _ => v = undef
  | 17 => fun v _ => v = undef
  | 18 => fun v _ => v = undef
  | 19 => fun v _ => v = .bool false
  | _ => fun _ _ => True
def crB (mv : Value) (s b _cb _z Lb : Nat) (ov : Int) (_c3 : Bool) : Nat → Value → World → Prop
  | 0 => fun v _ => v = mv
  | 1 => fun v _ => v = .int .i64 s
  | 2 => fun v W => OwnI W Lb 3 v (ints (bits 8 s))
  | 3 => fun v _ => v = .int .i64 ((b : Int) + 1)
  | 4 => fun v _ => v = .int .i64 ov
  | 5 => fun v _ => v = .bool true
  | 6 => fun v _ => v = .bool true
  | 7 => fun v _ => v = .agg #[.int .i64 0, .int .i64 0]
  | 8 => fun v _ => v = .agg #[.int .i64 0, .int .i64 0]
  | 9 => fun v _ => v = .bool true
  | 10 => fun v _ => v = .bool true
  | 11 => fun v _ => v = undef
  | 12 => fun v _ => v = undef
  | 13 => fun v _ => v = undef
  | 14 => fun v _ => v = undef
  | 15 => fun v _ => v = undef
  | 16 => fun v _ => v = undef
  | 17 => fun v _ => v = undef
  | 18 => fun v _ => v = .bool true
  | 19 => fun v _ => v = .bool true
  | _ => fun _ _ => True
def crC (mv : Value) (s b cb z Lb : Nat) (ov : Int) (c3 : Bool) : Nat → Value → World → Prop
  | 0 => fun v _ => v = mv
  | 1 => fun v _ => v = .int .i64 s
  | 2 => fun v W => OwnI W Lb 3 v (ints (bits 8 s))
  | 3 => fun v _ => v = .int .i64 ((b : Int) + 1)
  | 4 => fun v _ => v = .int .i64 ov
  | 5 => fun v _ => v = .bool true
  | 6 => fun v _ => v = .bool true
  | 7 => fun v _ => v = .agg #[.int .i64 ((b : Int) + 1), .int .i64 z]
  | 8 => fun v _ => v = .agg #[.int .i64 0, .int .i64 0]
  | 9 => fun v _ => v = .bool false
  | 10 => fun v _ => v = .bool false
  | 11 => fun v _ => v = .int .i64 s
  | 12 => fun v W => OwnI W Lb 3 v (ints (bits 8 s))
  | 13 => fun v _ => v = .pointer (some ⟨cb, 1, none⟩)
  | 14 => fun v _ => v = .int .i64 z
  | 15 => fun v W => OwnI W Lb 3 v (ints (bits 8 z))
  | 16 => fun v _ => ∃ r : Int, v = .int .i64 r ∧ decide (r < 0) = c3
  | 17 => fun v _ => v = .bool c3
  | 18 => fun v _ => v = .bool c3
  | 19 => fun v _ => v = .bool c3
  | _ => fun _ _ => True
def crD (y z cb Lb : Nat) : Nat → Value → World → Prop
  | 0 => fun v _ => v = .pointer (some ⟨cb, 1, none⟩)
  | 1 => fun v _ => v = .int .i64 z
  | 2 => fun v W => OwnI W Lb 3 v (ints (bits 8 z))
  | 3 => fun v _ => v = .pointer (some ⟨cb, 0, none⟩)
  | 4 => fun v _ => v = .int .i64 y
  | 5 => fun v W => ∃ r, v = .agg #[r, .int .i64 y] ∧ OwnI W Lb 3 r (ints (bits 8 z))
  | _ => fun _ _ => True
end Go.Proofs.Pet
