/-
  Rows of ints of the call's own, in which one is set.
  The ends of runs and plans, and whether a plan keeps.
  The reference's test of plans; rows copied and compared.
  Rows copied and compared.
  What a plan keeps, said two ways.
-/
import Derived.Test.YtfglamdbnclcaaaGreatP16
namespace Go.Proofs.Pet
open Go Go.RowKit Go.Maps Go.Shelf

def lst (f : Nat → Int) (n : Nat) : List Int := (List.range n).map f
theorem lst_len (f : Nat → Int) (n : Nat) : (lst f n).length = n := by unfold lst; simp
theorem lst_succ (f : Nat → Int) (n : Nat) : lst f (n + 1) = lst f n ++ [f n] := by unfold lst; rw [List.range_succ, List.map_append]; rfl
theorem lst_get (f : Nat → Int) {n k : Nat} (hk : k < n) : (lst f n)[k]?.getD 0 = f k := by unfold lst; rw [List.getElem?_map, List.getElem?_range hk]; rfl
theorem OwnI.own_lt {w : World} {base : Nat} {e : TypeId} {v : Value} {xs : List Int} (h : OwnI w base e v xs) (b : Nat) (hb : v.ownBlock = some b) : base ≤ b ∧ b < w.heap.size := by
  obtain ⟨A, c, rfl, _, _, _, h5, _⟩ := h.open_
  cases A with
  | none => cases hb
  | some ad =>
    obtain ⟨h6, h7, h8⟩ := h5 ad rfl
    rw [h8] at hb
    have := Option.some.inj hb
    omega
theorem Row.made {w : World} {S n : Nat} (h : Blk w S 3 (madeCells #[.int .i64 0] n)) : Row w S n (fun _ => 0) := by
  have e : madeCells #[Value.int .i64 0] n = Array.replicate n (.int .i64 0) := by
    apply Array.toList_inj.1
    simp [madeCells, Nat.mod_one, List.map_const']
  rw [e] at h
  exact Row.const h
end Go.Proofs.Pet

namespace Go.Proofs.Pet
open Go Go.RowKit Go.Maps Go.Shelf

def setJ (f : Nat → Int) (l es : List Int) : Nat → Nat → Int
  | 0 => f
  | j + 1 => fun k => if k = (l[j]?.getD 0).toNat then es[j]?.getD 0 else setJ f l es j k
/-- the ends that the first runs of a plan give -/
def endsUp (m : Mill) (xss : List (List Int)) : Nat → Nat → Int
  | 0 => fun _ => -1
  | i + 1 => setJ (endsUp m xss i) (xss[i]?.getD []) (endsF m i (xss[i]?.getD []) (xss[i]?.getD []).length) (xss[i]?.getD []).length
def endsL (m : Mill) (xss : List (List Int)) : List Int := (List.range m.orders.length).map (endsUp m xss xss.length)
theorem Row.ints {w : World} {b N : Nat} {f : Nat → Int} (h : Row w b N f) : IntsAt w (some ⟨b, 0, none⟩) ((List.range N).map f) := by
  intro k hk
  rw [List.length_map, List.length_range] at hk
  refine ⟨b, 0, rfl, ?_⟩
  rw [Nat.zero_add, h.cell hk, List.getElem?_map, List.getElem?_range hk]
  rfl
theorem plE_ok {m : Mill} {xss : List (List Int)} (h : plE m xss = 0) : checkE m = 0 ∧ xss.length = m.laced.length ∧ listedE m xss.flatten = 0 ∧ weavesAll m xss = true := by
  unfold plE at h
  by_cases a1 : checkE m ≠ 0
  · rw [if_pos a1] at h; exact absurd h a1
  rw [if_neg a1] at h
  by_cases a2 : xss.length ≠ m.laced.length
  · rw [if_pos a2] at h; omega
  rw [if_neg a2] at h
  by_cases a3 : listedE m xss.flatten ≠ 0
  · rw [if_pos a3] at h; exact absurd h a3
  rw [if_neg a3] at h
  by_cases a4 : weavesAll m xss = false
  · rw [if_pos a4] at h; omega
  exact ⟨by omega, by omega, by omega, by simpa using a4⟩
set_option maxRecDepth 20000 in
set_option maxHeartbeats 1000000 in
theorem ends_any (v pv : Value) (m : Mill) (xss : List (List Int)) (e0 : Int) (he0 : plE m xss = e0) (hb : xss.flatten.length ≤ 100) (hb2 : xss.length ≤ 1000) (w : World) (hv : MillVal w v m) (hp : RowsI w pv xss) :
    Calls Tryz.prog 62 #[v, pv] w fun e w' => ∃ r, e = .returned (.tuple #[r, .int .i64 e0]) ∧ SlI w' r (if e0 = 0 then endsL m xss else []) ∧ Ext w w' := by
  have Hv := Lib.hid hv
  have Hp := Lib.hid hp
  have Hlen : Hid (∀ j, j < xss.length → (xss[j]?.getD []).length ≤ 100) := fun j hj => by
    have h1 := flat_take hj
    have h2 := flat_le xss (j + 1)
    rw [h1, List.length_append] at h2
    omega
  obtain ⟨A1, c1, A2, c2, rfl, h2, h3, h4, h5, h6, h7⟩ := hv
  obtain ⟨PA, pc, rfl, g2, g3, g4⟩ := hp
  have G4 := Lib.hid g4; clear g4
  unfold maxLen at g3
  have hE := Ext.alloc w (.cells #[.slice A1 m.laced.length c1, .int .i64 m.change, .slice A2 m.orders.length c2] 25)
  have hM := Blk.new w 25 #[.slice A1 m.laced.length c1, .int .i64 m.change, .slice A2 m.orders.length c2]
  have hpl := Lib.hid (planned_any _ _ m xss e0 he0 (by omega) hb2 _ (Hv.out.ext hE) (Hp.out.ext hE))
  have He0 := Lib.hid he0; clear he0
  clear h6 h7 h3 h5 hb
  obtain ⟨k0, k1, k2⟩ := hM.c3
  go_enter Tryz.func62, Tryz.ntmps62
  go_wp2_with fail
  refine hpl.out.mono ?_
  rintro e w1 ⟨rfl, he1⟩
  have hE1 := hE.trans he1
  have hM1 := hM.ext he1
  clear hM hE he1 hpl k0 k1 k2
  by_cases h0 : e0 = 0
  · subst h0
    have hck := Lib.hid (plE_ok He0.out)
    have Hrange := Lib.hid (inB_range (listedE_ok hck.out.2.2.1).1)
    obtain ⟨l1, l2, l3⟩ := check_len hck.out.1
    have hX := Ext.alloc w1 (.cells #[.int .i64 (-1)] 3)
    have hB := Blk.new w1 3 #[.int .i64 (-1)]
    have hB1 : IntsAt (w1.alloc (.cells #[.int .i64 (-1)] 3)) (some ⟨w1.heap.size, 0, none⟩) [-1] := fun k hk => by
      match k, hk with
      | 0, _ => exact ⟨_, 0, rfl, hB.cell 0⟩
    have hrep := Lib.hid (repeat_any (-1) (some ⟨w1.heap.size, 0, none⟩) 1 m.orders.length (by omega) _ hB1 ⟨Nat.le_refl _, by simp [maxLen]⟩)
    have hM2 := hM1.alloc (.cells #[.int .i64 (-1)] 3)
    have hE2 := hE1.trans hX
    obtain ⟨k0, k1, k2⟩ := hM2.c3
    clear hM1 hE1 hX hB hB1
    go_wp2_with fail
    refine hrep.out.mono ?_
    rintro e w3 ⟨S, rfl, hS1, hS2, he3⟩
    have hE3 := hE2.trans he3
    have hM3 := hM2.ext he3
    have hR3 := Row.const hS2
    have hSw : w.heap.size < S := by have := hM2.lt; omega
    clear hM2 hE2 he3 hrep hS2 k0 k1 k2 hS1
    go_wp2_with fail
    go_loopw [27] (fun iv wr => ∃ k : Nat, k ≤ xss.length ∧ iv = .int .i64 k ∧ Ext w wr ∧ Blk wr w.heap.size 25 #[.slice A1 m.laced.length c1, .int .i64 m.change, .slice A2 m.orders.length c2] ∧ Hid (Row wr S m.orders.length (endsUp m xss k))) (fun iv _ => xss.length - (intOf iv).toNat)
    case atStart => exact ⟨0, by omega, rfl, hE3, hM3, hR3⟩
    case round =>
      clear hE3 hM3 hR3
      obtain ⟨k, hk, rfl, he, hMr, hR⟩ := hrel
      obtain ⟨k0, k1, k2⟩ := hMr.c3
      by_cases hlt : k < xss.length
      · obtain ⟨pb, po, u, e1, q1, hsl⟩ := G4.out k hlt
        subst e1
        have q1' := he.cell q1
        obtain ⟨LA, lc, rfl, s1, s2, s3⟩ := hsl
        have hst : Hid (endsUp m xss (k + 1) = setJ (endsUp m xss k) (xss[k]?.getD []) (endsF m k (xss[k]?.getD []) (xss[k]?.getD []).length) (xss[k]?.getD []).length) := rfl
        have hran := Lib.hid (ran_any _ m hck.out.1 k (by have := hck.out.2.1; omega) LA lc (xss[k]?.getD []).length (xss[k]?.getD []) rfl (Hlen.out k hlt) (fun x hx => Hrange.out x (mem_flat hlt hx)) wr (Hv.out.ext he) (s3.ext he))
        have Hmem : Hid (∀ x, x ∈ xss[k]?.getD [] → 0 ≤ x ∧ x < m.orders.length) := fun x hx => Hrange.out x (mem_flat hlt hx)
        have hyl := Hlen.out k hlt
        have S3 := Lib.hid s3; clear s3
        have hRlt := hR.out.lt
        generalize (xss[k]?.getD []) = ys at *
        obtain ⟨es, hes⟩ : ∃ es, endsF m k ys ys.length = es := ⟨_, rfl⟩
        have hesl : es.length = ys.length := by rw [← hes, endsF_len]
        rw [hes] at hran hst
        have Hes := Lib.hid hes; clear hes
        have Hesl := Lib.hid hesl; clear hesl
        generalize chR m k (rvI ys) = cc at *
        go_wp2_with fail
        refine hran.out.mono ?_
        rintro e w4 ⟨rr, rfl, hrr, he4⟩
        have hE4 := he.trans he4
        have hM4 := hMr.ext he4
        have hR4 : Hid (Row w4 S m.orders.length (endsUp m xss k)) := hR.out.ext he4
        have Hrr := Lib.hid hrr
        obtain ⟨Ar, cr, rfl, _, _, _, ho5, _⟩ := hrr.open_
        have hne : (Value.slice Ar es.length cr).ownBlock ≠ some S := by
          intro h
          cases hA : Ar with
          | none => rw [hA] at h; cases h
          | some ad =>
            have h1 := ho5 ad hA
            rw [h1.2.2] at h
            have := Option.some.inj h
            omega
        have Hne := Lib.hid hne
        clear he he4 hMr hR hran hrr ho5 hne k0 k1 k2 q1'
        go_wp2_with fail
        go_loopw [41] (fun jv w2 => ∃ j : Nat, j ≤ ys.length ∧ jv = .int .i64 j ∧ Ext w w2 ∧ Blk w2 w.heap.size 25 #[.slice A1 m.laced.length c1, .int .i64 m.change, .slice A2 m.orders.length c2] ∧ Hid (Row w2 S m.orders.length (setJ (endsUp m xss k) ys es j)) ∧ Hid (OwnI w2 w.heap.size 3 (.slice Ar es.length cr) es)) (fun jv _ => ys.length - (intOf jv).toNat)
        case atStart => exact ⟨0, by omega, rfl, hE4, hM4, hR4, Hrr.out.mono (by omega)⟩
        case round =>
          clear hE4 hM4 hR4
          obtain ⟨j, hj, rfl, heJ, hMJ, hRJ, hrJ⟩ := hrel
          by_cases hltj : j < ys.length
          · obtain ⟨bb, oo, rfl, cy⟩ := S3.out.ext heJ j hltj
            obtain ⟨ko, hko⟩ : ∃ ko : Nat, ys[j]?.getD 0 = (ko : Int) ∧ ko < m.orders.length := by
              have h1 := Hmem.out (ys[j]?.getD 0) (by simp [hltj])
              exact ⟨(ys[j]?.getD 0).toNat, by omega, by omega⟩
            obtain ⟨hko1, hko2⟩ := hko
            rw [hko1] at cy
            obtain ⟨Ae, ce, ee, _, _, ho3, _⟩ := hrJ.out.open_
            injection ee with ee1 _ ee2
            subst ee1; subst ee2
            obtain ⟨be, oe, rfl, ce'⟩ := ho3 j (by rw [Hesl.out]; exact hltj)
            obtain ⟨ev, hev⟩ : ∃ ev, es[j]?.getD 0 = ev := ⟨_, rfl⟩
            rw [hev] at ce'
            have hrc := hRJ.out.cell hko2
            have hrf := hRJ.out.frozen ko
            have hRN : Hid (Row (wr.setCell ⟨S, ko, none⟩ (.int .i64 ev)) S m.orders.length (setJ (endsUp m xss k) ys es (j + 1))) := by
              have := hRJ.out.set_ hko2 ev
              refine this.congr fun q _ => ?_
              show (if q = ko then ev else _) = if q = (ys[j]?.getD 0).toNat then es[j]?.getD 0 else _
              rw [hko1, hev, Int.toNat_natCast]
            have hEN := Lib.hid (Below.setCell heJ (p := ⟨S, ko, none⟩) (by show _ ≤ S; omega) (.int .i64 ev))
            have hMN := Lib.hid (hMJ.far (p := ⟨S, ko, none⟩) (by show w.heap.size ≠ S; omega) (.int .i64 ev))
            have hrN := Lib.hid (hrJ.out.apart (b := S) Hne.out ((Apart.refl S wr).set_ ko (.int .i64 ev)))
            have hel : j < es.length := by rw [Hesl.out]; exact hltj
            clear hko1 hev ho3 hRJ hMJ hrJ heJ
            go_wp2_with fail
            go_roundw
            case rel => exact ⟨j + 1, by omega, by go_num, hEN.out, hMN.out, hRN, hrN⟩
            case measure => simp [intOf]; omega
          · obtain rfl : j = ys.length := by omega
            go_wp2_with fail
            go_roundw
            case rel => exact ⟨k + 1, by omega, by go_num, heJ, hMJ, by unfold Hid; rw [hst.out]; exact hRJ.out⟩
            case measure => simp [intOf]; omega
      · obtain rfl : k = xss.length := by omega
        go_wp2_with fail
        go_ret2
        refine ⟨_, rfl, ?_, he⟩
        exact ⟨some ⟨S, 0, none⟩, m.orders.length, by unfold endsL; simp, by unfold endsL; simp, by unfold maxLen; omega, hR.out.ints⟩
  · have hd : (e0 != 0) = true := by simpa using h0
    have H0 := Lib.hid h0; clear h0
    go_wp2_with fail
    go_ret2
    refine ⟨_, rfl, ?_, hE1⟩
    exact ⟨none, 0, rfl, Nat.le_refl _, Nat.zero_le _, fun k hk => by cases hk⟩
end Go.Proofs.Pet

namespace Go.Proofs.Pet
open Go Go.RowKit Go.Maps Go.Shelf

def keepK (m : Mill) (f : Nat → Int) (k : Nat) : Bool := !decide (f k = -1) && decide (f k ≤ m.byy k)
def keepsB (m : Mill) (xss : List (List Int)) : Bool := (List.range m.orders.length).all (keepK m (endsUp m xss xss.length))
theorem endsL_len (m : Mill) (xss : List (List Int)) : (endsL m xss).length = m.orders.length := by unfold endsL; simp
theorem endsL_get (m : Mill) (xss : List (List Int)) {k : Nat} (hk : k < m.orders.length) : (endsL m xss)[k]?.getD 0 = endsUp m xss xss.length k := by
  unfold endsL; rw [List.getElem?_map, List.getElem?_range hk]; rfl
set_option maxRecDepth 20000 in
theorem keeps_any (v pv : Value) (m : Mill) (xss : List (List Int)) (e0 : Int) (he0 : plE m xss = e0) (q : Bool) (hq : (if e0 = 0 then keepsB m xss else false) = q) (hb : xss.flatten.length ≤ 100) (hb2 : xss.length ≤ 1000) (w : World) (hv : MillVal w v m) (hp : RowsI w pv xss) :
    Calls Tryz.prog 34 #[v, pv] w fun e w' => e = .returned (.tuple #[.bool q, .int .i64 e0]) ∧ Ext w w' := by
  have Hv := Lib.hid hv
  have Hp := Lib.hid hp
  obtain ⟨A1, c1, A2, c2, rfl, h2, h3, h4, h5, h6, h7⟩ := hv
  obtain ⟨PA, pc, rfl, g2, g3, g4⟩ := hp
  have H7 := Lib.hid h7
  have hE := Ext.alloc w (.cells #[.slice A1 m.laced.length c1, .int .i64 m.change, .slice A2 m.orders.length c2] 25)
  have hM := Blk.new w 25 #[.slice A1 m.laced.length c1, .int .i64 m.change, .slice A2 m.orders.length c2]
  have hen := Lib.hid (ends_any _ _ m xss e0 he0 hb hb2 _ (Hv.out.ext hE) (Hp.out.ext hE))
  have He0 := Lib.hid he0; clear he0
  clear h6 h7 h3 h2 hb g4 g2 g3
  obtain ⟨k0, k1, k2⟩ := hM.c3
  go_enter Tryz.func34, Tryz.ntmps34
  go_wp2_with fail
  refine hen.out.mono ?_
  rintro e w1 ⟨r, rfl, hr, he1⟩
  have hE1 := hE.trans he1
  have hM1 := hM.ext he1
  clear hE hM he1 hen k0 k1 k2
  by_cases h0 : e0 = 0
  · subst h0
    simp only [if_true] at hr hq
    have Hq := Lib.hid hq; clear hq
    have hck := (plE_ok He0.out).1
    obtain ⟨l1, l2, l3⟩ := check_len hck
    have hel := endsL_len m xss
    obtain ⟨Ar, cr, rfl, r1, r2, r3⟩ := hr
    have Hget : Hid (∀ k, k < m.orders.length → (endsL m xss)[k]?.getD 0 = endsUp m xss xss.length k) := fun k hk => endsL_get m xss hk
    generalize endsL m xss = es at *
    have Hel := Lib.hid hel
    rw [hel] at r1 ⊢
    have R3 := Lib.hid r3; clear r3 hel hck
    clear r1 r2
    go_wp2_with fail
    go_loopw [21] (fun iv wr => ∃ k : Nat, k ≤ m.orders.length ∧ iv = .int .i64 k ∧ wr = w1 ∧ Hid (∀ j, j < k → keepK m (endsUp m xss xss.length) j = true)) (fun iv _ => m.orders.length - (intOf iv).toNat)
    case atStart => exact ⟨0, by omega, rfl, rfl, fun j hj => absurd hj (by omega)⟩
    case round =>
      obtain ⟨k, hk, rfl, rfl, hno⟩ := hrel
      by_cases hlt : k < m.orders.length
      · obtain ⟨be, oe, rfl, ce⟩ := R3.out k (by rw [Hel.out]; exact hlt)
        rw [Hget.out k hlt] at ce
        obtain ⟨b2, o2, rfl, A', ca, hca, p1, p2, p3, p4, p5⟩ := H7.out.ext hE1 k hlt
        have hby : (m.orders[k]?.getD default).by_ = m.byy k := rfl
        rw [hby] at p3
        have hkk : Hid (keepK m (endsUp m xss xss.length) k = (!decide (endsUp m xss xss.length k = -1) && decide (endsUp m xss xss.length k ≤ m.byy k))) := rfl
        obtain ⟨ev, hev⟩ : ∃ ev, endsUp m xss xss.length k = ev := ⟨_, rfl⟩
        rw [hev] at ce hkk
        clear p1 p2 p4 p5 hca hby hev
        generalize m.byy k = yb at *
        have HF : keepK m (endsUp m xss xss.length) k = false → Hid (q = false) := fun h => by
          unfold Hid; rw [← Hq.out]; unfold keepsB
          rw [List.all_eq_false]
          exact ⟨k, List.mem_range.2 hlt, by rw [h]; simp⟩
        have HF' := Lib.hid HF; clear HF
        obtain ⟨k0, k1, k2⟩ := hM1.c3
        by_cases h1 : ev = -1
        · subst h1
          have hqf := HF'.out (by rw [hkk.out]; simp)
          go_wp2_with fail
          go_ret2
          exact ⟨by rw [hqf.out]; rfl, hE1⟩
        · have hd1 : (ev == -1) = false := by simpa using h1
          by_cases h2 : yb < ev
          · have hqf := HF'.out (by rw [hkk.out]; simp; omega)
            clear h1
            go_wp2_with fail
            go_ret2
            exact ⟨by rw [hqf.out]; rfl, hE1⟩
          · have hd2 : decide (yb < ev) = false := by simpa using h2
            have hok : Hid (keepK m (endsUp m xss xss.length) k = true) := by unfold Hid; rw [hkk.out]; simp; exact ⟨h1, by omega⟩
            clear h1 h2
            go_wp2_with fail
            go_roundw
            case rel =>
              refine ⟨k + 1, by omega, by go_num, trivial, fun j hj => ?_⟩
              by_cases e : j = k
              · subst e; exact hok.out
              · exact hno.out j (by omega)
            case measure => simp [intOf]; omega
      · obtain rfl : k = m.orders.length := by omega
        have hqt : Hid (q = true) := by
          unfold Hid; rw [← Hq.out]; unfold keepsB
          rw [List.all_eq_true]
          exact fun j hj => hno.out j (List.mem_range.1 hj)
        go_wp2_with fail
        go_ret2
        exact ⟨by rw [hqt.out]; rfl, hE1⟩
  · have hd : (e0 != 0) = true := by simpa using h0
    rw [if_neg h0] at hq
    subst hq
    rw [if_neg h0] at hr
    obtain ⟨Ar, cr, rfl, _⟩ := hr
    clear h0
    go_wp2_with fail
    go_ret2
    exact ⟨rfl, hE1⟩
end Go.Proofs.Pet

namespace Go.Proofs.Pet
open Go Go.RowKit Go.Maps Go.Shelf

end Go.Proofs.Pet

namespace Go.Proofs.Pet
open Go Go.RowKit Go.Maps Go.Shelf

theorem OwnR.rows {w : World} {base : Nat} {v : Value} {xss : List (List Int)} (h : OwnR w base v xss) : RowsI w v xss := by
  obtain ⟨A, c, rfl, h2, h3, _, h5⟩ := h.open_
  refine ⟨A, c, rfl, h2, h3, fun i hi => ?_⟩
  obtain ⟨b, u, e, g1, g2⟩ := h5 i hi
  exact ⟨b, 0, u, e, by rw [Nat.zero_add]; exact g1, g2.sl⟩
set_option maxRecDepth 20000 in
set_option maxHeartbeats 1000000 in
theorem dupRows_any (v : Value) (xss : List (List Int)) (hb2 : xss.length ≤ 1000) (hb : ∀ j, j < xss.length → (xss[j]?.getD []).length ≤ 1000) (w : World) (hp : RowsI w v xss) :
    Calls Tryz.prog 25 #[v] w fun e w' => ∃ r, e = .returned r ∧ OwnR w' w.heap.size r xss ∧ Ext w w' := by
  obtain ⟨ti2, hi2, hy0, hy1, hy2⟩ := info_parts info_slI
  obtain ⟨PA, pc, rfl, g2, g3, g4⟩ := hp
  have G4 := Lib.hid g4; clear g4
  have Hb := Lib.hid hb; clear hb
  unfold maxLen at g3
  have hmk : ∀ W : World, (Instr.makeSlice 29 (.int .i64 0) (.int .i64 (xss.length : Int))).run Tryz.prog W = .ok (.slice (some ⟨W.heap.size, 0, none⟩) 0 xss.length) (W.alloc (.cells (madeCells #[.slice none 0 0] xss.length) 22)) := by
    intro W
    have := run_make (P := Tryz.prog) W 29 22 ti2 _ Tryz.underlying29 hi2 hy0 .i64 .i64 0 xss.length (by omega) (by omega) (by rw [hy2]; omega) (by omega)
    simpa [hy1, Value.cells] using this
  have hE := Ext.alloc w (.cells (madeCells #[.slice none 0 0] xss.length) 22)
  have hown := World.ownsRow_made (w := w) (e := 22) (size := 1) (madeCells #[.slice none 0 0] xss.length) xss.length (Nat.le_refl _) (by unfold maxLen; omega) (by simp [madeCells])
  have hR0 : Hid (OwnR (w.alloc (.cells (madeCells #[.slice none 0 0] xss.length) 22)) w.heap.size (.slice (some ⟨w.heap.size, 0, none⟩) 0 xss.length) (xss.take 0)) := ⟨[], hown, rfl, fun i h => absurd h (by simp)⟩
  clear hown
  go_enter Tryz.func25, Tryz.ntmps25
  go_wp2_with fail
  go_loopw [3, 5, 11] (fun rv _ iv wr => ∃ k : Nat, k ≤ xss.length ∧ iv = .int .i64 k ∧ Ext w wr ∧ Hid (OwnR wr w.heap.size rv (xss.take k))) (fun _ _ iv _ => xss.length - (intOf iv).toNat)
  case atStart => exact ⟨0, by omega, rfl, hE, hR0⟩
  case round =>
    clear hE hR0 hmk
    obtain ⟨k, hk, rfl, he, ho⟩ := hrel
    by_cases hlt : k < xss.length
    · obtain ⟨pb, po, u, e0, q1, A', c', rfl, s1, s2, s3⟩ := G4.out k hlt
      subst e0
      have q1' := he.cell q1
      have hlen : Hid ((xss.take k).length = k) := by unfold Hid; rw [List.length_take]; omega
      have hbk := Hb.out k hlt
      have hdup := Lib.hid (dupI A' c' _ wr (by omega) (s3.ext he))
      have htk : Hid (xss.take (k + 1) = xss.take k ++ [xss[k]?.getD []]) := by
        unfold Hid; rw [List.take_succ_eq_append_getElem hlt]; simp [hlt]
      clear s3
      generalize xss[k]?.getD [] = ys at *
      go_wp2_with fail
      refine hdup.out.mono ?_
      rintro e w2 ⟨rv, rfl, hrv, he2⟩
      have heA := he.trans he2
      have Hrv := Lib.hid hrv
      obtain ⟨BB, cB, rfl, _⟩ := hrv.open_
      clear hrv
      obtain ⟨vs, hv1, hv2, hv3⟩ := ho.out
      rw [hlen.out] at hv1 hv2 hv3
      have Hv1 := Lib.hid hv1; have Hv2 := Lib.hid hv2; have Hv3 := Lib.hid hv3; clear hv1 hv2 hv3
      have hszw := he.size
      have hsz2 := he2.size
      go_wp2_with (at_builtin; refine wpList_app rfl _ _ 29 rfl w.heap.size 22 ti2 (.slice none 0 0) 1 24 Tryz.underlying29 hi2 hy0 hy1 hy2 rfl (by decide) _ _ _ rfl (ownsRow_ext2 Hv1.out (he2.trans (Ext.alloc _ _))) (some ⟨w2.heap.size, 0, none⟩) 1 1 [.slice BB ys.length cB] rfl rfl (Src.one _ _ _) ?c2 ?c3 ?c4 ?c5 ?_; (case c2 => (intro u hu; simp at hu; subst hu; rfl)); (case c3 => (unfold maxLen; omega)); (case c4 => omega); (case c5 => (simp; omega)); intro v' w' hown' hg hblk)
      go_roundw
      case rel =>
        have hrow := ownsRow_ext2 Hv1.out (he2.trans (Ext.alloc w2 (.cells #[.slice BB ys.length cB] 22)))
        have hge : ∀ j, u3.ownBlock = some j → w.heap.size ≤ j := by
          obtain ⟨A0, c0, e0, _, _, h5, _⟩ := ho.out.open_
          intro j hj
          rw [e0] at hj
          cases A0 with
          | none => cases hj
          | some a0 =>
            have h6 : a0.block = j := Option.some.inj hj
            have := (h5 a0 rfl).1
            omega
        refine ⟨k + 1, by omega, by go_num, ext_grown heA hg (fun j hj => hge j hj), ?_⟩
        unfold Hid
        rw [htk.out]
        exact OwnR.push hlen.out hrow Hv2.out (fun i hi => (Hv3.out i hi).ext (he2.trans (Ext.alloc _ _))) (((Hrv.out.ext (Ext.alloc _ _))).mono (by omega)) hown' hg
      case measure => simp [intOf]; omega
    · have hke : k = xss.length := by omega
      subst hke
      have h := ho.out
      rw [List.take_length] at h
      go_wp2_with fail
      go_ret
      exact ⟨_, rfl, h, he⟩

end Go.Proofs.Pet

namespace Go.Proofs.Pet
open Go Go.RowKit Go.Maps Go.Shelf

theorem nodup_of_twice {xs : List Int} (h : twiceB xs = false) : xs.Nodup := by
  rw [List.nodup_iff_pairwise_ne, List.pairwise_iff_getElem]
  intro i j hi hj hij e
  unfold twiceB at h
  rw [List.any_eq_false] at h
  have := h j (List.mem_range.2 hj)
  refine this ?_
  have e1 : xs[j]?.getD 0 = xs[j] := by simp [hj]
  rw [e1, List.contains_iff_mem, List.mem_take_iff_getElem]
  exact ⟨i, by omega, e⟩
theorem setJ_last (f : Nat → Int) (l es : List Int) (k : Nat) : ∀ n, (setJ f l es n k = f k ∧ ∀ j, j < n → (l[j]?.getD 0).toNat ≠ k) ∨ ∃ j, j < n ∧ (l[j]?.getD 0).toNat = k ∧ setJ f l es n k = es[j]?.getD 0
  | 0 => .inl ⟨rfl, fun j h => absurd h (by omega)⟩
  | n + 1 => by
    by_cases e : k = (l[n]?.getD 0).toNat
    · exact .inr ⟨n, by omega, e.symm, if_pos e⟩
    · rcases setJ_last f l es k n with ⟨h1, h2⟩ | ⟨j, h1, h2, h3⟩
      · refine .inl ⟨(if_neg e).trans h1, fun j hj => ?_⟩
        by_cases ej : j = n
        · subst ej; exact fun h => e h.symm
        · exact h2 j (by omega)
      · exact .inr ⟨j, by omega, h2, (if_neg e).trans h3⟩
theorem endsF_get (m : Mill) (l : Nat) (xs : List Int) {j : Nat} (hj : j < xs.length) : (endsF m l xs xs.length)[j]?.getD 0 = dyR m l (rvI (xs.take (j + 1))) := by
  unfold endsF; rw [List.getElem?_map, List.getElem?_range hj]; rfl
/-- the end of an order is that of the last place where it stands -/
theorem endsUp_last (m : Mill) (xss : List (List Int)) (k : Nat) : ∀ n, (endsUp m xss n k = -1 ∧ ∀ i j, i < n → j < (xss[i]?.getD []).length → ((xss[i]?.getD [])[j]?.getD 0).toNat ≠ k) ∨
    ∃ i j, i < n ∧ j < (xss[i]?.getD []).length ∧ ((xss[i]?.getD [])[j]?.getD 0).toNat = k ∧ endsUp m xss n k = dyR m i (rvI ((xss[i]?.getD []).take (j + 1)))
  | 0 => .inl ⟨rfl, fun i j h => absurd h (by omega)⟩
  | n + 1 => by
    rcases setJ_last (endsUp m xss n) (xss[n]?.getD []) (endsF m n (xss[n]?.getD []) (xss[n]?.getD []).length) k (xss[n]?.getD []).length with ⟨h1, h2⟩ | ⟨j, h1, h2, h3⟩
    · rcases endsUp_last m xss k n with ⟨g1, g2⟩ | ⟨i, j, g1, g2, g3, g4⟩
      · refine .inl ⟨h1.trans g1, fun i j hi hj => ?_⟩
        by_cases ei : i = n
        · subst ei; exact h2 j hj
        · exact g2 i j (by omega) hj
      · exact .inr ⟨i, j, by omega, g2, g3, h1.trans g4⟩
    · exact .inr ⟨n, j, by omega, h1, h2, by rw [← endsF_get m n _ h1]; exact h3⟩
theorem tmR_iff (m : Mill) (l : Nat) (xs : List Int) : ∀ k, k ≤ xs.length → (tmR m l (rvI (xs.take k)) = true ↔ ∀ j, j < k → dyR m l (rvI (xs.take (j + 1))) ≤ m.byy (xs[j]?.getD 0).toNat)
  | 0, _ => by simp [rvI, tmR]
  | k + 1, hk => by
    have ih := tmR_iff m l xs k (by omega)
    have e := rvI_take (xs := xs) (k := k) (by omega)
    rw [e, tmR, Bool.and_eq_true, ih, decide_eq_true_eq, ← e]
    constructor
    · rintro ⟨h1, h2⟩ j hj
      by_cases ej : j = k
      · subst ej; exact h2
      · exact h1 j (by omega)
    · intro h
      exact ⟨fun j hj => h j (by omega), h k (by omega)⟩
def tmU (m : Mill) (xss : List (List Int)) : Nat → Bool
  | 0 => true
  | k + 1 => tmU m xss k && tmR m k (rvI (xss[k]?.getD []))
theorem tmU_iff (m : Mill) (xss : List (List Int)) : ∀ k, tmU m xss k = true ↔ ∀ i, i < k → tmR m i (rvI (xss[i]?.getD [])) = true
  | 0 => by simp [tmU]
  | k + 1 => by
    rw [tmU, Bool.and_eq_true, tmU_iff m xss k]
    constructor
    · rintro ⟨h1, h2⟩ j hj
      by_cases ej : j = k
      · subst ej; exact h2
      · exact h1 j (by omega)
    · intro h
      exact ⟨fun j hj => h j (by omega), h k (by omega)⟩
/-- no order below n is without an end -/
def allSet (f : Nat → Int) (q : Bool) : Nat → Bool
  | 0 => q
  | k + 1 => allSet f q k && !decide (f k = -1)
theorem allSet_iff (f : Nat → Int) (q : Bool) : ∀ k, allSet f q k = true ↔ q = true ∧ ∀ i, i < k → f i ≠ -1
  | 0 => by simp [allSet]
  | k + 1 => by
    rw [allSet, Bool.and_eq_true, allSet_iff f q k]
    constructor
    · rintro ⟨⟨h0, h1⟩, h2⟩
      refine ⟨h0, fun j hj => ?_⟩
      by_cases ej : j = k
      · subst ej; simpa using h2
      · exact h1 j (by omega)
    · rintro ⟨h0, h⟩
      exact ⟨⟨h0, fun j hj => h j (by omega)⟩, by have := h k (by omega); simpa using this⟩
theorem nodup_place {xss : List (List Int)} (h : xss.flatten.Nodup) {i j i' j' : Nat} (hi : i < xss.length) (hi' : i' < xss.length) (hj : j < (xss[i]?.getD []).length) (hj' : j' < (xss[i']?.getD []).length)
    (e : (xss[i]?.getD [])[j]?.getD 0 = (xss[i']?.getD [])[j']?.getD 0) : i = i' ∧ j = j' := by
  rw [List.nodup_iff_pairwise_ne, List.pairwise_flatten] at h
  obtain ⟨h1, h2⟩ := h
  have e1 : xss[i]?.getD [] = xss[i] := by simp [hi]
  have e2 : xss[i']?.getD [] = xss[i'] := by simp [hi']
  rw [e1] at hj e; rw [e2] at hj' e
  have f1 : xss[i][j]?.getD 0 = xss[i][j] := by simp [hj]
  have f2 : xss[i'][j']?.getD 0 = xss[i'][j'] := by simp [hj']
  rw [f1, f2] at e
  rw [List.pairwise_iff_getElem] at h2
  have m1 : xss[i][j] ∈ xss[i] := List.getElem_mem hj
  have m2 : xss[i'][j'] ∈ xss[i'] := List.getElem_mem hj'
  by_cases ei : i = i'
  · subst ei
    refine ⟨rfl, ?_⟩
    exact (List.getElem_inj (List.nodup_iff_pairwise_ne.2 (h1 _ (List.getElem_mem hi)))).1 e
  · exfalso
    rcases Nat.lt_or_ge i i' with hl | hg
    · exact h2 i i' hi hi' hl _ m1 _ m2 e
    · exact h2 i' i hi' hi (by omega) _ m2 _ m1 e.symm
theorem keeps_law {m : Mill} {xss : List (List Int)} (h : plE m xss = 0) : allSet (endsUp m xss xss.length) (tmU m xss xss.length) m.orders.length = keepsB m xss := by
  obtain ⟨_, _, h3, _⟩ := plE_ok h
  obtain ⟨g1, g2⟩ := listedE_ok h3
  have hnd := nodup_of_twice g2
  have hr := inB_range g1
  rw [Bool.eq_iff_iff, allSet_iff, tmU_iff]
  unfold keepsB keepK
  rw [List.all_eq_true]
  simp only [List.mem_range, Bool.and_eq_true, Bool.not_eq_true', decide_eq_false_iff_not, decide_eq_true_eq]
  constructor
  · rintro ⟨ht, hs⟩ k hk
    refine ⟨hs k hk, ?_⟩
    rcases endsUp_last m xss k xss.length with ⟨e1, _⟩ | ⟨i, j, e1, e2, e3, e4⟩
    · exact absurd e1 (hs k hk)
    · rw [e4, ← e3]
      have := ht i e1
      rw [← List.take_length (l := xss[i]?.getD []), tmR_iff m i _ _ (Nat.le_refl _)] at this
      exact this j e2
  · intro hk
    refine ⟨fun i hi => ?_, fun k hkk => (hk k hkk).1⟩
    rw [← List.take_length (l := xss[i]?.getD []), tmR_iff m i _ _ (Nat.le_refl _)]
    intro j hj
    have hm0 : (xss[i]?.getD [])[j]?.getD 0 ∈ xss[i]?.getD [] := by simp [hj]
    have hb := hr _ (mem_flat hi hm0)
    have hkb := (hk ((xss[i]?.getD [])[j]?.getD 0).toNat (by omega)).2
    rcases endsUp_last m xss ((xss[i]?.getD [])[j]?.getD 0).toNat xss.length with ⟨_, e2⟩ | ⟨i', j', e1, e2, e3, e4⟩
    · exact absurd rfl (e2 i j hi hj)
    · have hm1 : (xss[i']?.getD [])[j']?.getD 0 ∈ xss[i']?.getD [] := by simp [e2]
      have hb' := hr _ (mem_flat e1 hm1)
      obtain ⟨rfl, rfl⟩ := nodup_place hnd hi e1 hj e2 (by omega)
      rw [e4] at hkb
      exact hkb
end Go.Proofs.Pet
