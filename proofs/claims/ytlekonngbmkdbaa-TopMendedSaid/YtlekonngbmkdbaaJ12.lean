/- Joined texts: TL6, Sh, Sr. -/
import Derived.Test.YtlekonngbmkdbaaJ11
import Derived.Deep.DeepCutAuto
import Derived.Test.YtlekonngbmkdbaaJ07
import Derived.Test.YtlekonngbmkdbaaRows
import Derived.Test.YtlekonngbmkdbaaJ08
namespace Go.Proofs.Mended
theorem along_ok : ∀ {ms : List (Nat × Nat)} {l : List Nat}, alongF l ms = true → ∀ j, j < ms.length → (ms[j]?.getD default).1 < l.length ∧ (ms[j]?.getD default).2 < l.length
  | [], l, _, j, hj => by simp at hj
  | m :: ms, l, h, j, hj => by
    unfold alongF at h
    simp only [Bool.and_eq_true] at h
    have h1 : m.1 < l.length := Nat.le_of_ble_eq_true h.1.1.2
    have h2 : m.2 < l.length := Nat.le_of_ble_eq_true h.1.2
    cases j with
    | zero => exact ⟨h1, h2⟩
    | succ j =>
      have h3 := along_ok h.2 j (by simpa using hj)
      have h4 : (madeF l m).length = l.length := (madeF_perm (a := m.1) (b := m.2) h1 h2).length_eq
      rw [h4] at h3
      simpa using h3
theorem mend_ok {l : List Nat} (h1 : 1 ≤ l.length) (h6 : l.length ≤ 6) (hl : l.Perm (List.range l.length)) :
    ((mendF l).length ≤ 5 ∧ ∀ k, k ≤ (mendF l).length → (mendF (makeF l ((mendF l).take k))).length = (mendF l).length - k) ∧ ∀ j, j < (mendF l).length → ((mendF l)[j]?.getD default).1 < l.length ∧ ((mendF l)[j]?.getD default).2 < l.length := by
  have h := good_all h1 h6 hl
  unfold goodF at h
  rw [Bool.and_eq_true] at h
  exact ⟨mend_law h1 h6 hl, along_ok h.2⟩
end Go.Proofs.Mended
namespace Go.Proofs.Pet
open Go Go.RowKit Go.Maps Go.Shelf
open Go.Proofs.Mended (atN madeF makeF mendF)

theorem permOf_nats {n : Nat} {xs : List Int} (h : PermOf n xs) : ∃ l : List Nat, xs = ints l ∧ l.Perm (List.range n) := by
  refine ⟨xs.map Int.toNat, ?_, ?_⟩
  · unfold ints
    rw [List.map_map]
    conv => lhs; rw [← List.map_id xs]
    refine List.map_congr_left fun x hx => ?_
    have := h.mem_iff.1 hx
    unfold ints at this
    obtain ⟨k, _, rfl⟩ := List.mem_map.1 this
    rfl
  · have := h.map Int.toNat
    refine this.trans ?_
    unfold ints
    rw [List.map_map]
    have e : (Int.toNat ∘ fun k : Nat => (k : Int)) = id := by funext k; rfl
    rw [e, List.map_id]
/-- the mill with another number of days of a change -/
def Mill.days (m : Mill) (c : Int) : Mill := ⟨m.laced, c, m.orders⟩
theorem MillOk.days {m : Mill} (h : MillOk m) {c : Int} (hc : 0 ≤ c ∧ c ≤ 5) : MillOk (m.days c) := ⟨h.looms, h.few, h.laced, hc, h.ords⟩
/-- fewer days let a plan be, with no more changes -/
theorem days_less {m : Mill} (h : MillOk m) {a b : Int} (ha : 0 ≤ a ∧ a ≤ 5) (hb : 0 ≤ b ∧ b ≤ a) (hp : planF (m.days a) ≠ none) :
    planF (m.days b) ≠ none ∧ fewR (m.days b) (2 ^ (m.days b).orders.length - 1) ≤ fewR (m.days a) (2 ^ (m.days a).orders.length - 1) := by
  have h1 := (check_iff _).2 (h.days ha)
  have h2 := (check_iff _).2 (h.days (c := b) (by omega))
  have he : Eased (m.days a) (m.days b) := (Eased.refl h1).faster hb
  refine ⟨fun e => ?_, he.few h1 h2 hp⟩
  have h3 := (plan_late h2).1 e
  have h4 := he.late h1 h2
  refine hp ((plan_late h1).2 ?_)
  omega
theorem plan_kept {m : Mill} (hch : checkE m = 0) {rows : List (List Int)} (h : PlanIsOk m rows) : keepsB m rows = true := by
  rw [← keeps_law h.pl, allSet_iff, tmU_iff]
  refine ⟨h.tm, fun k hk e => ?_⟩
  rcases endsUp_last m rows k rows.length with ⟨_, h2⟩ | ⟨i, j, h1, h2, h3, h4⟩
  · have hm : (k : Int) ∈ rows.flatten := h.perm.mem_iff.2 (by unfold ints; exact List.mem_map.2 ⟨k, List.mem_range.2 hk, rfl⟩)
    obtain ⟨r, hr, hx⟩ := List.mem_flatten.1 hm
    obtain ⟨i, hi, rfl⟩ := List.mem_iff_getElem.1 hr
    obtain ⟨j, hj, hjx⟩ := List.mem_iff_getElem.1 hx
    have e1 : rows[i]?.getD [] = rows[i] := by rw [List.getElem?_eq_getElem hi]; rfl
    refine h2 i j hi (by rw [e1]; exact hj) ?_
    rw [e1, List.getElem?_eq_getElem hj, hjx]
    rfl
  · rw [h4] at e
    have := (dyR_bd hch i (rvI ((rows[i]?.getD []).take (j + 1))) fun x hx => by
      unfold rvI at hx
      rw [List.mem_reverse, List.mem_map] at hx
      obtain ⟨y, hy, rfl⟩ := hx
      have := h.rng i h1 y (List.mem_of_mem_take hy)
      omega).1
    omega
theorem MillVal.days {w : World} {A1 A2 : Option Addr} {c1 c2 : Nat} {m : Mill} (h : MillVal w (.agg #[.slice A1 m.laced.length c1, .int .i64 m.change, .slice A2 m.orders.length c2]) m) (c : Int) : MillVal w (.agg #[.slice A1 m.laced.length c1, .int .i64 c, .slice A2 m.orders.length c2]) (m.days c) := by
  obtain ⟨B1, d1, B2, d2, e, h2, h3, h4, h5, h6, h7⟩ := h
  simp only [Value.agg.injEq, Array.mk.injEq, List.cons.injEq, Value.slice.injEq, and_true, true_and] at e
  obtain ⟨⟨rfl, rfl⟩, rfl, rfl⟩ := e
  exact ⟨A1, c1, A2, c2, rfl, h2, h3, h4, h5, h6, h7⟩
set_option maxRecDepth 100000 in
set_option maxHeartbeats 8000000 in
theorem topMended_any (v v2 : Value) (w : World) (hv : BytesIn w v) (hv2 : BytesIn w v2) :
    Calls Try.prog 4 #[v, v2] w fun e w' => e = .returned (.bool true) ∧ Ext w w' := by
  have hwo := Lib.hid (wound_any v w hv)
  have Hv := Lib.hid hv; have Hv2 := Lib.hid hv2
  clear hv hv2
  go_enter Try.func4, Try.ntmps4
  go_wp2_with fail
  refine hwo.out.mono ?_
  rintro e w1 ⟨rfl, hs1, he1⟩
  have hwo2 := Lib.hid (wound_any v w1 (Hv.out.ext he1))
  clear hwo
  go_wp2_with fail
  refine hwo2.out.mono ?_
  rintro e w2 ⟨rfl, hs2, he2⟩
  have hlt1 := hs1.lt
  have hfr := Lib.hid (from_any w1.heap.size 0 (by omega) 1 6 (by omega) 6 (by omega) w2 hs2)
  have hs12 := hs1.ext he2
  clear hwo2
  go_wp2_with fail
  refine hfr.out.mono ?_
  rintro e w3 ⟨N, rfl, hN1, hN2, -, ha3⟩
  obtain ⟨n, rfl⟩ : ∃ n : Nat, N = (n : Int) := ⟨N.toNat, by omega⟩
  have hs3 := hs12.apart hlt1 ha3
  have hE3 : Ext w w3 := Apart.ext_of (he1.trans he2) (by have := he1.size; omega) ha3
  have hor := Lib.hid (orderS_any w.heap.size 0 (by omega) n (by omega) w3 hs3)
  clear hfr hs1 hs2 hs12 ha3 hs3 he2
  go_wp2_with fail
  refine hor.out.mono ?_
  rintro e w4 ⟨S, f, rfl, hSl, hR, hp, -, hap⟩
  have hE4 := Apart.ext_of hE3 (Nat.le_refl _) hap
  obtain ⟨l, hlf, hlp⟩ := permOf_nats hp
  have hln : l.length = n := by rw [hlp.length_eq, List.length_range]
  have hI : IntsAt w4 (some ⟨S, 0, none⟩) (ints l) := by rw [← hlf]; exact hR.ints
  have hO : OrdL l := ⟨by rw [hln]; omega, by rw [hln]; exact hlp⟩
  have Hln := Lib.hid hln
  have HO := Lib.hid hO
  have hwo3 := Lib.hid (wound_any v2 w4 (Hv2.out.ext hE4))
  clear hor hSl hR hp hap hlf hlp hln hO hlt1 he1 hE3
  go_wp2_with fail
  refine hwo3.out.mono ?_
  rintro e w5 ⟨rfl, hs5, he5⟩
  have hma := Lib.hid (madeS_any w4.heap.size 0 (by omega) 2 5 (by omega) (by omega) w5 hs5)
  clear hwo3
  go_wp2_with fail
  refine hma.out.mono ?_
  rintro e w6 ⟨mv, m, rfl, hm, hok, -, -, -, hap⟩
  have hE6 := Apart.ext_of he5 (Nat.le_refl _) hap
  have hI6 := hI.ext hE6
  have hEw := hE4.trans hE6
  have Hm := Lib.hid hm
  have Hok := Lib.hid hok
  have hml := hok.few
  have hmL := hok.looms
  obtain ⟨A1, c1, A2, c2, rfl, -, -, -, -, -, -⟩ := hm
  have HI6 := Lib.hid hI6
  have HEw := Lib.hid hEw
  have hM := Blk.new w6 64 #[.slice A1 m.laced.length c1, .int .i64 m.change, .slice A2 m.orders.length c2]
  have hX := Ext.alloc w6 (.cells #[.slice A1 m.laced.length c1, .int .i64 m.change, .slice A2 m.orders.length c2] 64)
  have hmd := mend_any (some ⟨S, 0, none⟩) n l HO.out (w6.alloc (.cells #[.slice A1 m.laced.length c1, .int .i64 m.change, .slice A2 m.orders.length c2] 64)) (by rw [Hln.out]; exact Nat.le_refl _) (hI6.ext hX)
  rw [Hln.out] at hmd
  have Hmd := Lib.hid hmd
  clear hma hs5 he5 hap hok hE6 hI6 hI hE4 hEw hmd
  go_wp2_with fail
  obtain ⟨R, hRe⟩ : ∃ R, w6.heap.size = R := ⟨_, rfl⟩
  have hsz7 : (w6.alloc (.cells #[.slice A1 m.laced.length c1, .int .i64 m.change, .slice A2 m.orders.length c2] 64)).heap.size = R + 1 := by rw [World.size_alloc, hRe]
  rw [hRe] at hM ⊢
  generalize w6.alloc _ = w7 at *
  refine Hmd.out.mono ?_
  rintro e w8 ⟨v8, rfl, hmv, he8⟩
  have hlaw := Mended.mend_ok HO.out.few.1 HO.out.few.2 HO.out.perm
  rw [hsz7] at hmv
  obtain ⟨ms, hms⟩ : ∃ ms, mendF l = ms := ⟨_, rfl⟩
  rw [hms] at hmv hlaw
  obtain ⟨MA, mc, rfl, hmc, -, -⟩ := hmv.at_
  obtain ⟨z, hz⟩ : ∃ z, ms.length = z := ⟨_, rfl⟩
  have hz5 : z ≤ 5 := by rw [← hz]; exact hlaw.1.1
  have Hz := Lib.hid hz
  have Hlaw := Lib.hid hlaw
  have HRe := Lib.hid hRe
  unfold OwnMv at hmv
  rw [hz] at hmv hmc ⊢
  have Hmv := Lib.hid hmv
  -- what stands as long as the mill alone is turned
  have HMv : Hid (∀ W, Apart R w8 W → W.ownsRow (R + 1) 113 2 (.slice MA z mc) z (mvFlat ms)) := fun W ha => ownsRow_apart Hmv.out (fun e => by have := (ownsRow_own Hmv.out R e).1; omega) ha
  have HEx : Hid (∀ W, Apart R w8 W → Ext w6 W) := fun W ha => Apart.ext_of (hX.trans he8) (by rw [HRe.out]; exact Nat.le_refl _) ha
  have hM8 := hM.ext he8
  clear Hmd hlaw hz hmv hms hRe hX hM he8
  go_wp2_with fail
  go_loopw [9, 10, 44] (fun qv cv kv wr => ∃ k : Nat, ∃ q : Bool, ∃ ch ck : Int, k ≤ z + 1 ∧ kv = .int .i64 (k : Int) ∧ qv = .bool q ∧ cv = .int .i64 ch ∧ Hid (0 < k → ck = (z : Int) - k + 1) ∧ Hid (q = true → 0 < k ∧ planF (m.days ck) ≠ none ∧ ch = fewR (m.days ck) (2 ^ (m.days ck).orders.length - 1)) ∧ Hid (Apart R w8 wr) ∧ Hid (Blk wr R 64 #[.slice A1 m.laced.length c1, .int .i64 ck, .slice A2 m.orders.length c2])) (fun _ _ kv _ => z + 1 - (intOf kv).toNat)
  case atStart => exact ⟨0, false, 0, m.change, by omega, rfl, rfl, rfl, Lib.hid (fun h => absurd h (by omega)), Lib.hid (fun h => by cases h), Lib.hid (Apart.refl _ _), Lib.hid hM8⟩
  case round =>
    clear hM8
    obtain ⟨k, q, ch, ck, hk, rfl, rfl, rfl, hck, hq, hA, hM⟩ := hrel
    by_cases hlt : k < z + 1
    · -- <<A
      have hEx := HEx.out wr hA.out
      have hI := HI6.out.ext hEx
      have hmvs : MvsAt wr MA (ms.take k) := by
        obtain ⟨A', c', e, _, _, h⟩ := OwnMv.at_ (w := wr) (base := R + 1) (v := .slice MA z mc) (xs := ms) (by unfold OwnMv; rw [Hz.out]; exact HMv.out wr hA.out)
        injection e with e1 _ _
        subst e1
        exact h.take k
      have hmk := makeL_any (some ⟨S, 0, none⟩) n l HO.out MA mc k (ms.take k) (by rw [List.length_take, Hz.out]; omega) (fun j hj => by
        rw [List.length_take] at hj
        rw [List.getElem?_take, if_pos (by omega)]
        exact Hlaw.out.2 j (by omega)) (by omega) wr (by rw [Hln.out]; exact Nat.le_refl _) hI hmvs
      rw [Hln.out] at hmk
      have Hmk := Lib.hid hmk
      have hnp := Mended.makeF_perm Hlaw.out.2 k
      have hnl := Hlaw.out.1.2 k (by rw [Hz.out]; omega)
      rw [Hz.out] at hnl
      obtain ⟨now, hno⟩ : ∃ now, makeF l (ms.take k) = now := ⟨_, rfl⟩
      rw [hno] at Hmk hnp hnl
      have Hnp := Lib.hid hnp
      have Hnl := Lib.hid hnl
      obtain ⟨k0, k1, k2⟩ := hM.out.c3
      have hMf := hM.out.frozen 1
      have hkm : (k : Int) ≤ (mc : Int) := by omega
      clear hI hmvs hmk hnp hnl hno hEx
      go_wp2_with fail
      refine Hmk.out.mono ?_
      rintro e wA ⟨vA, rfl, hOA, heA⟩
      obtain ⟨NA, nc, rfl, hn1, -, -, -, -⟩ := hOA.open_
      have hnl2 : now.length = l.length := Hnp.out.length_eq
      rw [lenI, hnl2, Hln.out] at hOA hn1 ⊢
      have hmd := mend_any NA nc now (HO.out.of Hnp.out) wA (by rw [hnl2, Hln.out]; exact hn1) hOA.at_
      rw [hnl2, Hln.out] at hmd
      have Hmd := Lib.hid hmd
      have hAA := hA.out.trans (Apart.of_ext heA)
      have hMA := hM.out.ext heA
      clear Hmk hmd hn1 hnl2 hOA hA hM k0 k1 k2 hMf heA
      go_wp2_with fail
      refine Hmd.out.mono ?_
      rintro e wB ⟨vB, rfl, hOB, heB⟩
      obtain ⟨RA, rc, rfl, -, -, -⟩ := hOB.at_
      obtain ⟨rl, hrl⟩ : ∃ rl, (mendF now).length = rl := ⟨_, rfl⟩
      have hrz : rl = z - k := by rw [← hrl]; exact Hnl.out
      rw [hrl]
      have hcmp : ((rl : Int) != (z : Int) - (k : Int)) = false := by rw [bne_eq_false_iff_eq]; omega
      have hAB := hAA.trans (Apart.of_ext heB)
      have hMB := hMA.ext heB
      obtain ⟨k0, k1, k2⟩ := hMB.c3
      have hMf := hMB.frozen 1
      have Hrz := Lib.hid hrz
      have hMC : Hid (Blk (wB.setCell ⟨R, 1, none⟩ (.int .i64 (rl : Int))) R 64 #[.slice A1 m.laced.length c1, .int .i64 (rl : Int), .slice A2 m.orders.length c2]) := Lib.hid (by simpa using hMB.set_ 1 (.int .i64 (rl : Int)))
      have hAC : Hid (Apart R w8 (wB.setCell ⟨R, 1, none⟩ (.int .i64 (rl : Int)))) := hAB.set_ 1 _
      have hr5 : 0 ≤ (rl : Int) ∧ (rl : Int) ≤ 5 := by omega
      have Hokd := Lib.hid (Hok.out.days hr5)
      have Hch := Lib.hid ((check_iff _).2 Hokd.out)
      have hpl := Lib.hid (plan_ok _ (m.days (rl : Int)) Hch.out (wB.setCell ⟨R, 1, none⟩ (.int .i64 (rl : Int))) ((Hm.out.ext (HEx.out _ hAC.out)).days (rl : Int)))
      have Hck2 : Hid (rl = (z : Int) - ((k + 1 : Nat) : Int) + 1) := by unfold Hid; omega
      -- a plan that was stays, with no more changes
      have Hless : Hid (q = true → planF (m.days (rl : Int)) ≠ none ∧ fewR (m.days (rl : Int)) (2 ^ (m.days (rl : Int)).orders.length - 1) ≤ ch) := fun h => by
        obtain ⟨h0, h1, h2⟩ := hq.out h
        have h3 := hck.out h0
        have h4 := days_less Hok.out (a := ck) (b := (rl : Int)) (by omega) (by omega) h1
        exact ⟨h4.1, by rw [h2]; exact h4.2⟩
      clear Hmd hOB hrl hrz hAA hMA hAB hMB heB hq hck
      go_wp2_with fail
      refine hpl.out.mono ?_
      obtain ⟨k0, k1, k2⟩ := hMC.out.c3
      generalize wB.setCell _ _ = wC at *
      intro e wD h4
      clear hpl hcmp hMf
      rcases h4 with ⟨hnone, rfl, heD⟩ | ⟨rows, r, hpf, rfl, hrw, heD⟩
      · -- <<B
        have hqf : q = false := by
          cases q with
          | false => rfl
          | true => exact absurd hnone (Hless.out rfl).1
        subst hqf
        have hMD := Lib.hid (hMC.out.ext heD)
        have hAD := Lib.hid (hAC.out.trans (Apart.of_ext heD))
        clear hnone k0 k1 k2
        go_wp2_with fail
        go_roundw
        case rel => exact ⟨k + 1, false, ch, rl, by omega, by go_num, rfl, rfl, Lib.hid (fun _ => Hck2.out), Lib.hid (fun h => by cases h), hAD, hMD⟩
        case measure => simp [intOf]; omega
        -- >>
      · -- <<C
        have law := plan_law Hch.out hpf
        have hsum := law.sum
        have hkp := plan_kept Hch.out law
        have hb1 : rows.flatten.length ≤ 100 := by rw [law.all]; show m.orders.length ≤ 100; omega
        have hb2 : rows.length ≤ 1000 := by rw [law.len]; show m.laced.length ≤ 1000; omega
        have hVD : MillVal wD (.agg #[.slice A1 m.laced.length c1, .int .i64 (rl : Int), .slice A2 m.orders.length c2]) (m.days (rl : Int)) := (Hm.out.ext ((HEx.out _ hAC.out).trans heD)).days (rl : Int)
        have hcg := changes_any _ r (m.days (rl : Int)) rows 0 law.pl hb1 hb2 wD hVD hrw
        rw [if_pos rfl, hsum] at hcg
        have Hcg := Lib.hid hcg
        have Hkp : Hid (∀ W, Ext wD W → Calls Try.prog 22 #[.agg #[.slice A1 m.laced.length c1, .int .i64 (rl : Int), .slice A2 m.orders.length c2], r] W fun e w' => e = .returned (.tuple #[.bool true, .int .i64 0]) ∧ Ext W w') := fun W he => keeps_any _ r (m.days (rl : Int)) rows 0 law.pl true (by rw [if_pos rfl]; exact hkp) hb1 hb2 W (hVD.ext he) (hrw.ext he)
        have Hpf : Hid (planF (m.days (rl : Int)) ≠ none) := by unfold Hid; rw [hpf]; simp
        obtain ⟨nf, hnf⟩ : ∃ nf, fewR (m.days (rl : Int)) (2 ^ (m.days (rl : Int)).orders.length - 1) = nf := ⟨_, rfl⟩
        rw [hnf] at Hcg Hless
        have Hnf := Lib.hid hnf
        have hMD := hMC.out.ext heD
        obtain ⟨k0, k1, k2⟩ := hMD.c3
        have hAD := hAC.out.trans (Apart.of_ext heD)
        have hgt : q = true → decide (ch < nf) = false := fun h => by
          have := (Hless.out h).2
          simpa using this
        clear hpf law hsum hkp hb1 hb2 hVD hcg hrw hnf hMC hAC heD
        go_wp2_with fail
        refine Hcg.out.mono ?_
        rintro e wE ⟨rfl, heE⟩
        have hkE := Lib.hid (Hkp.out wE heE)
        have hME := hMD.ext heE
        obtain ⟨k0, k1, k2⟩ := hME.c3
        have hAE := hAD.trans (Apart.of_ext heE)
        clear Hcg hMD hAD heE Hkp
        go_wp2_with fail
        refine hkE.out.mono ?_
        rintro e wF ⟨rfl, heF⟩
        have hMF := Lib.hid (hME.ext heF)
        have hAF := Lib.hid (hAE.trans (Apart.of_ext heF))
        clear hkE hME hAE heF k0 k1 k2
        cases q with
        | false =>
          clear hgt
          go_wp2_with fail
          go_roundw
          case rel => exact ⟨k + 1, true, nf, rl, by omega, by go_num, rfl, rfl, Lib.hid (fun _ => Hck2.out), Lib.hid (fun _ => ⟨by omega, Hpf.out, Hnf.out.symm⟩), hAF, hMF⟩
          case measure => simp [intOf]; omega
        | true =>
          have hg2 := hgt rfl
          clear hgt
          go_wp2_with fail
          go_roundw
          case rel => exact ⟨k + 1, true, nf, rl, by omega, by go_num, rfl, rfl, Lib.hid (fun _ => Hck2.out), Lib.hid (fun _ => ⟨by omega, Hpf.out, Hnf.out.symm⟩), hAF, hMF⟩
          case measure => simp [intOf]; omega
        -- >>
      -- >>
    · -- <<D
      have hck0 : ck = 0 := by
        have := hck.out (by omega)
        omega
      subst hck0
      obtain ⟨k0, k1, k2⟩ := hM.out.c3
      have hfin := HEw.out.trans (HEx.out wr hA.out)
      go_wp2_with fail
      go_ret
      exact ⟨rfl, hfin⟩
      -- >>
end Go.Proofs.Pet

namespace Go.Proofs.Pet
open Go Go.ChangeShapes Go.WideShapes Go.ChangeAt Go.RowKit
theorem ownKnob_ : ownKnob Try.prog.godebug = none := by kernel_rfl
theorem laidOut_ : laidOutB Try.prog = true := by kernel_rfl
end Go.Proofs.Pet

namespace Go.Proofs.Pet
open Go Go.ChangeShapes Go.WideShapes Go.ChangeAt Go.RowKit

set_option maxRecDepth 100000 in
theorem bytes_reads {H : Type} {enc : TypeId × Value → H} {w : World} {base : Nat} {spare : Nat → Bool} {held : Bool} {r : Reach} {b0 : Nat} {v : Value} {d : DataW H} {p : List MemPlace} (hv : Value.okWide Try.prog w r b0 22 v) (h : DataW.Trod enc Try.prog w base spare held 22 v d p) : BytesIn w v := by
  obtain ⟨n, hn⟩ := h
  obtain ⟨a, l, c, rfl⟩ := okWide_slice Try.underlying22 hv
  rcases open_ints Try.underlying22 Try.underlying5 (by kernel_rfl) hn with ⟨h1, _⟩ | ⟨a', len, cap, zs, h1, _, h2, h3, h4, _, h5, _⟩
  · injection h1 with h1 _
    exact ⟨none, 0, 0, h1, Nat.le_refl _, Nat.zero_le _, fun k hk => by omega⟩
  · injection h1 with h1 _
    refine ⟨some a', len, cap, h1, h2, h3, fun k hk => ?_⟩
    have hz : len ≤ zs.length := by rw [h4]; split <;> omega
    have hcell := h5 k (by omega)
    have hs := spot_none (h5 0 (by omega))
    obtain ⟨b, o, s⟩ := a'
    have hs' : s = none := hs
    subst hs'
    rw [addr_add] at hcell
    exact ⟨b, o, _, rfl, hcell⟩
end Go.Proofs.Pet
