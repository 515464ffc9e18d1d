/-
  The ends of runs and plans, and whether a plan keeps.
-/
import Derived.Test.YtknokjnplbdmeaaGreatP16
namespace Go.Proofs.Pet
open Go Go.RowKit Go.Maps Go.Shelf

theorem runE_split {m : Mill} {n : Int} {xs : List Int} (h : runE m n xs = 0) : checkE m = 0 ∧ runningE m n xs = 0 := by
  unfold runE at h
  by_cases e : checkE m = 0
  · rw [if_pos e] at h; exact ⟨e, h⟩
  · rw [if_neg e] at h; exact absurd h e
set_option maxRecDepth 20000 in
theorem runTop_any (v : Value) (m : Mill) (n : Int) (A : Option Addr) (c : Nat) (xs : List Int) (e0 : Int) (he0 : runE m n xs = e0) (w : World) (hv : MillVal w v m) (hlc : xs.length ≤ c) (hl : c ≤ maxLen) (hb : xs.length ≤ 100) (hx : IntsAt w A xs) :
    Calls Tryz.prog 44 #[v, .int .i64 n, .slice A xs.length c] w fun e w' => ∃ r, e = .returned (.tuple #[r, .int .i64 (if e0 = 0 then chR m n.toNat (rvI xs) else 0), .int .i64 e0]) ∧ SlI w' r (if e0 = 0 then endsF m n.toNat xs xs.length else []) ∧ Ext w w' := by
  have Hv := Lib.hid hv
  have Hx := Lib.hid hx
  obtain ⟨A1, c1, A2, c2, rfl, h2, h3, h4, h5, h6, h7⟩ := hv
  have hE := Ext.alloc w (.cells #[.slice A1 m.laced.length c1, .int .i64 m.change, .slice A2 m.orders.length c2] 25)
  have hM := Blk.new w 25 #[.slice A1 m.laced.length c1, .int .i64 m.change, .slice A2 m.orders.length c2]
  have hrun := Lib.hid (run_any _ m n A c xs e0 he0 _ (Hv.out.ext hE) hlc hl (Hx.out.ext hE))
  have He0 := Lib.hid he0
  clear h2 h3 h4 h5 h6 h7 he0 hx
  obtain ⟨k0, k1, k2⟩ := hM.c3
  go_enter Tryz.func44, Tryz.ntmps44
  go_wp2_with fail
  refine hrun.out.mono ?_
  rintro e w1 ⟨rfl, he1⟩
  have hE1 := hE.trans he1
  have hM1 := hM.ext he1
  clear hE hM he1 hrun k0 k1 k2
  by_cases h0 : e0 = 0
  · subst h0
    obtain ⟨hck, hre⟩ := runE_split He0.out
    obtain ⟨r1, r2, r3, _, _⟩ := runningE_ok hre
    obtain ⟨ln, rfl⟩ : ∃ ln : Nat, n = (ln : Int) := ⟨n.toNat, by omega⟩
    have hran := Lib.hid (ran_any _ m hck ln (by omega) A c xs.length xs rfl hb r3 w1 (Hv.out.ext hE1) (Hx.out.ext hE1))
    obtain ⟨k0, k1, k2⟩ := hM1.c3
    clear hck hre r3
    go_wp2_with fail
    refine hran.out.mono ?_
    rintro e w2 ⟨r, rfl, hr, he2⟩
    have hE2 := hE1.trans he2
    have Hr := Lib.hid hr
    obtain ⟨Ar, cr, rfl, _⟩ := hr.open_
    clear hr
    go_wp2_with fail
    go_ret3
    exact ⟨_, rfl, Hr.out.sl, hE2⟩
  · have hd : (e0 != 0) = true := by simpa using h0
    have H0 := Lib.hid h0; clear h0
    go_wp2_with fail
    go_ret3
    exact ⟨_, rfl, ⟨none, 0, rfl, Nat.le_refl _, Nat.zero_le _, fun k hk => by cases hk⟩, hE1⟩

def setJ (f : Nat → Int) (l es : List Int) : Nat → Nat → Int
  | 0 => f
  | j + 1 => fun k => if k = (l[j]?.getD 0).toNat then es[j]?.getD 0 else setJ f l es j k
/-- the ends that the first runs of a plan give -/
def endsUp (m : Mill) (xss : List (List Int)) : Nat → Nat → Int
  | 0 => fun _ => -1
  | i + 1 => setJ (endsUp m xss i) (xss[i]?.getD []) (endsF m i (xss[i]?.getD []) (xss[i]?.getD []).length) (xss[i]?.getD []).length
def endsL (m : Mill) (xss : List (List Int)) : List Int := (List.range m.orders.length).map (endsUp m xss xss.length)
theorem Row.ints {w : World} {b N : Nat} {f : Nat → Int} (h : Row w b N f) : IntsAt w (some ⟨b, 0, none⟩) ((List.range N).map f) := by
  intro k hk
  rw [List.length_map, List.length_range] at hk
  refine ⟨b, 0, rfl, ?_⟩
  rw [Nat.zero_add, h.cell hk, List.getElem?_map, List.getElem?_range hk]
  rfl
theorem plE_ok {m : Mill} {xss : List (List Int)} (h : plE m xss = 0) : checkE m = 0 ∧ xss.length = m.laced.length ∧ listedE m xss.flatten = 0 ∧ weavesAll m xss = true := by
  unfold plE at h
  by_cases a1 : checkE m ≠ 0
  · rw [if_pos a1] at h; exact absurd h a1
  rw [if_neg a1] at h
  by_cases a2 : xss.length ≠ m.laced.length
  · rw [if_pos a2] at h; omega
  rw [if_neg a2] at h
  by_cases a3 : listedE m xss.flatten ≠ 0
  · rw [if_pos a3] at h; exact absurd h a3
  rw [if_neg a3] at h
  by_cases a4 : weavesAll m xss = false
  · rw [if_pos a4] at h; omega
  exact ⟨by omega, by omega, by omega, by simpa using a4⟩
set_option maxRecDepth 20000 in
set_option maxHeartbeats 1000000 in
theorem ends_any (v pv : Value) (m : Mill) (xss : List (List Int)) (e0 : Int) (he0 : plE m xss = e0) (hb : xss.flatten.length ≤ 100) (hb2 : xss.length ≤ 1000) (w : World) (hv : MillVal w v m) (hp : RowsI w pv xss) :
    Calls Tryz.prog 86 #[v, pv] w fun e w' => ∃ r, e = .returned (.tuple #[r, .int .i64 e0]) ∧ SlI w' r (if e0 = 0 then endsL m xss else []) ∧ Ext w w' := by
  have Hv := Lib.hid hv
  have Hp := Lib.hid hp
  have Hlen : Hid (∀ j, j < xss.length → (xss[j]?.getD []).length ≤ 100) := fun j hj => by
    have h1 := flat_take hj
    have h2 := flat_le xss (j + 1)
    rw [h1, List.length_append] at h2
    omega
  obtain ⟨A1, c1, A2, c2, rfl, h2, h3, h4, h5, h6, h7⟩ := hv
  obtain ⟨PA, pc, rfl, g2, g3, g4⟩ := hp
  have G4 := Lib.hid g4; clear g4
  unfold maxLen at g3
  have hE := Ext.alloc w (.cells #[.slice A1 m.laced.length c1, .int .i64 m.change, .slice A2 m.orders.length c2] 25)
  have hM := Blk.new w 25 #[.slice A1 m.laced.length c1, .int .i64 m.change, .slice A2 m.orders.length c2]
  have hpl := Lib.hid (planned_any _ _ m xss e0 he0 (by omega) hb2 _ (Hv.out.ext hE) (Hp.out.ext hE))
  have He0 := Lib.hid he0; clear he0
  clear h6 h7 h3 h5 hb
  obtain ⟨k0, k1, k2⟩ := hM.c3
  go_enter Tryz.func86, Tryz.ntmps86
  go_wp2_with fail
  refine hpl.out.mono ?_
  rintro e w1 ⟨rfl, he1⟩
  have hE1 := hE.trans he1
  have hM1 := hM.ext he1
  clear hM hE he1 hpl k0 k1 k2
  by_cases h0 : e0 = 0
  · subst h0
    have hck := Lib.hid (plE_ok He0.out)
    have Hrange := Lib.hid (inB_range (listedE_ok hck.out.2.2.1).1)
    obtain ⟨l1, l2, l3⟩ := check_len hck.out.1
    have hX := Ext.alloc w1 (.cells #[.int .i64 (-1)] 3)
    have hB := Blk.new w1 3 #[.int .i64 (-1)]
    have hB1 : IntsAt (w1.alloc (.cells #[.int .i64 (-1)] 3)) (some ⟨w1.heap.size, 0, none⟩) [-1] := fun k hk => by
      match k, hk with
      | 0, _ => exact ⟨_, 0, rfl, hB.cell 0⟩
    have hrep := Lib.hid (repeat_any (-1) (some ⟨w1.heap.size, 0, none⟩) 1 m.orders.length (by omega) _ hB1 ⟨Nat.le_refl _, by simp [maxLen]⟩)
    have hM2 := hM1.alloc (.cells #[.int .i64 (-1)] 3)
    have hE2 := hE1.trans hX
    obtain ⟨k0, k1, k2⟩ := hM2.c3
    clear hM1 hE1 hX hB hB1
    go_wp2_with fail
    refine hrep.out.mono ?_
    rintro e w3 ⟨S, rfl, hS1, hS2, he3⟩
    have hE3 := hE2.trans he3
    have hM3 := hM2.ext he3
    have hR3 := Row.const hS2
    have hSw : w.heap.size < S := by have := hM2.lt; omega
    clear hM2 hE2 he3 hrep hS2 k0 k1 k2 hS1
    go_wp2_with fail
    go_loopw [27] (fun iv wr => ∃ k : Nat, k ≤ xss.length ∧ iv = .int .i64 k ∧ Ext w wr ∧ Blk wr w.heap.size 25 #[.slice A1 m.laced.length c1, .int .i64 m.change, .slice A2 m.orders.length c2] ∧ Hid (Row wr S m.orders.length (endsUp m xss k))) (fun iv _ => xss.length - (intOf iv).toNat)
    case atStart => exact ⟨0, by omega, rfl, hE3, hM3, hR3⟩
    case round =>
      clear hE3 hM3 hR3
      obtain ⟨k, hk, rfl, he, hMr, hR⟩ := hrel
      obtain ⟨k0, k1, k2⟩ := hMr.c3
      by_cases hlt : k < xss.length
      · obtain ⟨pb, po, u, e1, q1, hsl⟩ := G4.out k hlt
        subst e1
        have q1' := he.cell q1
        obtain ⟨LA, lc, rfl, s1, s2, s3⟩ := hsl
        have hst : Hid (endsUp m xss (k + 1) = setJ (endsUp m xss k) (xss[k]?.getD []) (endsF m k (xss[k]?.getD []) (xss[k]?.getD []).length) (xss[k]?.getD []).length) := rfl
        have hran := Lib.hid (ran_any _ m hck.out.1 k (by have := hck.out.2.1; omega) LA lc (xss[k]?.getD []).length (xss[k]?.getD []) rfl (Hlen.out k hlt) (fun x hx => Hrange.out x (mem_flat hlt hx)) wr (Hv.out.ext he) (s3.ext he))
        have Hmem : Hid (∀ x, x ∈ xss[k]?.getD [] → 0 ≤ x ∧ x < m.orders.length) := fun x hx => Hrange.out x (mem_flat hlt hx)
        have hyl := Hlen.out k hlt
        have S3 := Lib.hid s3; clear s3
        have hRlt := hR.out.lt
        generalize (xss[k]?.getD []) = ys at *
        obtain ⟨es, hes⟩ : ∃ es, endsF m k ys ys.length = es := ⟨_, rfl⟩
        have hesl : es.length = ys.length := by rw [← hes, endsF_len]
        rw [hes] at hran hst
        have Hes := Lib.hid hes; clear hes
        have Hesl := Lib.hid hesl; clear hesl
        generalize chR m k (rvI ys) = cc at *
        go_wp2_with fail
        refine hran.out.mono ?_
        rintro e w4 ⟨rr, rfl, hrr, he4⟩
        have hE4 := he.trans he4
        have hM4 := hMr.ext he4
        have hR4 : Hid (Row w4 S m.orders.length (endsUp m xss k)) := hR.out.ext he4
        have Hrr := Lib.hid hrr
        obtain ⟨Ar, cr, rfl, _, _, _, ho5, _⟩ := hrr.open_
        have hne : (Value.slice Ar es.length cr).ownBlock ≠ some S := by
          intro h
          cases hA : Ar with
          | none => rw [hA] at h; cases h
          | some ad =>
            have h1 := ho5 ad hA
            rw [h1.2.2] at h
            have := Option.some.inj h
            omega
        have Hne := Lib.hid hne
        clear he he4 hMr hR hran hrr ho5 hne k0 k1 k2 q1'
        go_wp2_with fail
        go_loopw [41] (fun jv w2 => ∃ j : Nat, j ≤ ys.length ∧ jv = .int .i64 j ∧ Ext w w2 ∧ Blk w2 w.heap.size 25 #[.slice A1 m.laced.length c1, .int .i64 m.change, .slice A2 m.orders.length c2] ∧ Hid (Row w2 S m.orders.length (setJ (endsUp m xss k) ys es j)) ∧ Hid (OwnI w2 w.heap.size 3 (.slice Ar es.length cr) es)) (fun jv _ => ys.length - (intOf jv).toNat)
        case atStart => exact ⟨0, by omega, rfl, hE4, hM4, hR4, Hrr.out.mono (by omega)⟩
        case round =>
          clear hE4 hM4 hR4
          obtain ⟨j, hj, rfl, heJ, hMJ, hRJ, hrJ⟩ := hrel
          by_cases hltj : j < ys.length
          · obtain ⟨bb, oo, rfl, cy⟩ := S3.out.ext heJ j hltj
            obtain ⟨ko, hko⟩ : ∃ ko : Nat, ys[j]?.getD 0 = (ko : Int) ∧ ko < m.orders.length := by
              have h1 := Hmem.out (ys[j]?.getD 0) (by simp [hltj])
              exact ⟨(ys[j]?.getD 0).toNat, by omega, by omega⟩
            obtain ⟨hko1, hko2⟩ := hko
            rw [hko1] at cy
            obtain ⟨Ae, ce, ee, _, _, ho3, _⟩ := hrJ.out.open_
            injection ee with ee1 _ ee2
            subst ee1; subst ee2
            obtain ⟨be, oe, rfl, ce'⟩ := ho3 j (by rw [Hesl.out]; exact hltj)
            obtain ⟨ev, hev⟩ : ∃ ev, es[j]?.getD 0 = ev := ⟨_, rfl⟩
            rw [hev] at ce'
            have hrc := hRJ.out.cell hko2
            have hrf := hRJ.out.frozen ko
            have hRN : Hid (Row (wr.setCell ⟨S, ko, none⟩ (.int .i64 ev)) S m.orders.length (setJ (endsUp m xss k) ys es (j + 1))) := by
              have := hRJ.out.set_ hko2 ev
              refine this.congr fun q _ => ?_
              show (if q = ko then ev else _) = if q = (ys[j]?.getD 0).toNat then es[j]?.getD 0 else _
              rw [hko1, hev, Int.toNat_natCast]
            have hEN := Lib.hid (Below.setCell heJ (p := ⟨S, ko, none⟩) (by show _ ≤ S; omega) (.int .i64 ev))
            have hMN := Lib.hid (hMJ.far (p := ⟨S, ko, none⟩) (by show w.heap.size ≠ S; omega) (.int .i64 ev))
            have hrN := Lib.hid (hrJ.out.apart (b := S) Hne.out ((Apart.refl S wr).set_ ko (.int .i64 ev)))
            have hel : j < es.length := by rw [Hesl.out]; exact hltj
            clear hko1 hev ho3 hRJ hMJ hrJ heJ
            go_wp2_with fail
            go_roundw
            case rel => exact ⟨j + 1, by omega, by go_num, hEN.out, hMN.out, hRN, hrN⟩
            case measure => simp [intOf]; omega
          · obtain rfl : j = ys.length := by omega
            go_wp2_with fail
            go_roundw
            case rel => exact ⟨k + 1, by omega, by go_num, heJ, hMJ, by unfold Hid; rw [hst.out]; exact hRJ.out⟩
            case measure => simp [intOf]; omega
      · obtain rfl : k = xss.length := by omega
        go_wp2_with fail
        go_ret2
        refine ⟨_, rfl, ?_, he⟩
        exact ⟨some ⟨S, 0, none⟩, m.orders.length, by unfold endsL; simp, by unfold endsL; simp, by unfold maxLen; omega, hR.out.ints⟩
  · have hd : (e0 != 0) = true := by simpa using h0
    have H0 := Lib.hid h0; clear h0
    go_wp2_with fail
    go_ret2
    refine ⟨_, rfl, ?_, hE1⟩
    exact ⟨none, 0, rfl, Nat.le_refl _, Nat.zero_le _, fun k hk => by cases hk⟩
end Go.Proofs.Pet
