/-
  The reference's Check, walked (printed by gen_pe4.py).
-/
import Derived.Test.YtjlglbhafopomaaGreatPE3
namespace Go.Proofs.Pet
open Go Go.RowKit Go.Maps Go.Shelf
open Go.Proofs.Pow (PM Sh Wv POk Up)

theorem sh_mem {m : PM} {k : Nat} (h : k < m.shafts.length) : m.sh k ∈ m.shafts := by unfold PM.sh; simp [h]
theorem wv_mem {m : PM} {k : Nat} (h : k < m.wvs.length) : m.wv k ∈ m.wvs := by unfold PM.wv; simp [h]
theorem sh_all {m : PM} {p : Sh → Bool} (h : ∀ j, j < m.shafts.length → p (m.sh j) = true) : m.shafts.all p = true := List.all_eq_true.2 fun x hx => by
  obtain ⟨j, hj, rfl⟩ := List.mem_iff_getElem.1 hx
  have := h j hj
  unfold PM.sh at this
  rwa [List.getElem?_eq_getElem hj, Option.getD_some] at this
theorem wv_all {m : PM} {p : Wv → Bool} (h : ∀ j, j < m.wvs.length → p (m.wv j) = true) : m.wvs.all p = true := List.all_eq_true.2 fun x hx => by
  obtain ⟨j, hj, rfl⟩ := List.mem_iff_getElem.1 hx
  have := h j hj
  unfold PM.wv at this
  rwa [List.getElem?_eq_getElem hj, Option.getD_some] at this
theorem all_out {α : Type} {l : List α} {p : α → Bool} {x : α} (hx : x ∈ l) (h : p x = false) : l.all p = false := by
  rw [List.all_eq_false]
  exact ⟨x, hx, by rw [h]; decide⟩
theorem hours_at {l : List Int} {p : Int → Bool} (h : ∀ j, j < l.length → p (l[j]?.getD 0) = true) : l.all p = true := List.all_eq_true.2 fun x hx => by
  obtain ⟨j, hj, rfl⟩ := List.mem_iff_getElem.1 hx
  have := h j hj
  rwa [List.getElem?_eq_getElem hj, Option.getD_some] at this
theorem range_all {n : Nat} {p : Nat → Bool} (h : ∀ j, j < n → p j = true) : (List.range n).all p = true := List.all_eq_true.2 fun x hx => h x (List.mem_range.1 hx)

set_option maxRecDepth 20000 in
set_option maxHeartbeats 16000000 in
theorem check7_any (v : Value) (m : PM) (r : Int) (hr : checkP m = r) (w : World) (hv : PMVal w v m) :
    Calls Tryz.prog 35 #[v] w fun e w' => e = .returned (.int .i64 r) ∧ Ext w w' := by
  obtain ⟨A1, c1, A2, c2, rfl, h2, h3, h4, h5, h6, h7⟩ := hv
  unfold maxLen at h3 h5
  have hE := Ext.alloc w (.cells #[.slice A1 m.shafts.length c1, .slice A2 m.wvs.length c2] 54)
  have HM := Lib.hid (Blk.new w 54 #[.slice A1 m.shafts.length c1, .slice A2 m.wvs.length c2])
  have H6 := Lib.hid (h6.ext hE)
  have H7 := Lib.hid (h7.ext hE)
  have hS : m.shafts.length ≤ maxLen := by unfold maxLen; omega
  have hW : m.wvs.length ≤ maxLen := by unfold maxLen; omega
  unfold maxLen at hS hW
  obtain ⟨k0, k1⟩ := HM.out.c2
  unfold checkP at hr
  generalize hq1 : inB m.shafts.length 1 9 = q1 at hr
  generalize hq2 : (m.shafts.all fun s => inB s.price 0 60) = q2 at hr
  generalize hq3 : (m.wvs.all fun w => w.hours.all fun h => inB h 0 23) = q3 at hr
  generalize hq4 : ((List.range m.shafts.length).all fun i => inB (m.sh i).up (-1) ((i : Int) - 1)) = q4 at hr
  generalize hq5 : (m.wvs.all fun w => inB w.shaft 0 (m.shafts.length - 1)) = q5 at hr
  generalize hq6 : (m.wvs.all fun w => risingB w.hours) = q6 at hr
  have Hq2 := Lib.hid hq2; have Hq3 := Lib.hid hq3; have Hq4 := Lib.hid hq4; have Hq5 := Lib.hid hq5; have Hq6 := Lib.hid hq6
  have Hin := Lib.hid (fun W => off_any m.shafts.length 1 9 q1 hq1 W)
  have Hr := Lib.hid hr
  clear hq1 hq2 hq3 hq4 hq5 hq6 hr h6 h7 h2 h3 h4 h5
  go_enter Tryz.func35, Tryz.ntmps35
  go_wp2_with fail
  generalize w.alloc _ = wB at *
  refine (Hin.out _).mono ?_
  rintro e w' ⟨rfl, rfl⟩
  cases q1 with
  | false =>
    go_wp2
    go_ret
    exact ⟨by rw [← Hr.out]; simp, hE⟩
  | true =>
  by_cases hlen : 6 < m.wvs.length
  · go_wp2
    go_ret
    exact ⟨by rw [← Hr.out]; simp [hlen], hE⟩
  · have hlen' : decide (6 < (m.wvs.length : Int)) = false := by simp; omega
    have Hr1 := Lib.hid (show (if q2 = false then 3 else if q3 = false then 3 else if q4 = false then 1 else if q5 = false then 1 else if q6 = false then 4 else 0) = r by rw [← Hr.out]; simp [hlen])
    have hlw : m.wvs.length ≤ 6 := by omega
    clear Hr Hin hlen
    go_wp2_with fail
    have he0 := Ext.refl wB
    clear k0 k1 hlen'
    skip
    go_loopw [3] (fun i wr => ∃ k : Nat, k ≤ m.shafts.length ∧ i = .int .i64 k ∧ Ext wB wr ∧ Hid (∀ j, j < k → inB (m.sh j).price 0 60 = true)) (fun i _ => m.shafts.length - (intOf i).toNat)
    case atStart => exact ⟨0, Nat.zero_le _, rfl, he0, fun j hj => absurd hj (by omega)⟩
    case round =>
      clear he0
      obtain ⟨k, hk, rfl, hew, hm⟩ := hrel
      obtain ⟨k0, k1⟩ := (HM.out.ext hew).c2
      by_cases hlt : k < m.shafts.length
      · obtain ⟨q, hq⟩ : ∃ q, inB (m.sh k).price 0 60 = q := ⟨_, rfl⟩
        obtain ⟨b1, o1, rfl, s1, s2⟩ := H6.out.ext hew k hlt
        rw [show m.shafts[k]?.getD default = m.sh k from rfl] at s1 s2
        have hmem := sh_mem hlt
        obtain ⟨p, hp⟩ : ∃ p, (m.sh k).price = p := ⟨_, rfl⟩
        rw [hp] at hq s2
        have Ho := Lib.hid (fun W => off_any p 0 60 q hq W)
        have Hq := Lib.hid hq
        have Hp := Lib.hid hp
        clear hq hp s1
        cases q with
        | false =>
          go_wp2_with fail
          refine (Ho.out _).mono ?_
          rintro e w5 ⟨rfl, rfl⟩
          have hq' := Hq2.out
          rw [all_out (sh_mem hlt) (by rw [Hp.out]; exact Hq.out)] at hq'
          subst hq'
          clear Ho
          go_wp2
          go_ret
          exact ⟨by rw [← Hr1.out]; simp, hE.trans hew⟩
        | true =>
          go_wp2_with fail
          refine (Ho.out _).mono ?_
          rintro e w5 ⟨rfl, rfl⟩
          clear Ho
          go_wp2
          go_roundw
          case rel =>
            refine ⟨k + 1, by omega, by go_num, hew, fun j hj => ?_⟩
            by_cases ej : j = k
            · subst ej; exact (by rw [Hp.out]; exact Hq.out)
            · exact hm.out j (by omega)
          case measure => simp [intOf]; omega
      · obtain rfl : k = m.shafts.length := by omega
        have hall := sh_all (p := fun s => inB s.price 0 60) hm.out
        clear hm
        have hq' := Hq2.out
        rw [hall] at hq'
        subst hq'
        clear hall
        go_wp2_with fail
        have he1 := hew
        clear hew k0 k1
        obtain ⟨w1, hw1⟩ : ∃ z, z = wr := ⟨_, rfl⟩
        rw [← hw1] at he1 ⊢
        clear hw1 hlt hk
        skip
        go_loopw [4] (fun i wr => ∃ k : Nat, k ≤ m.wvs.length ∧ i = .int .i64 k ∧ Ext wB wr ∧ Hid (∀ j, j < k → ((m.wv j).hours.all fun h => inB h 0 23) = true)) (fun i _ => m.wvs.length - (intOf i).toNat)
        case atStart => exact ⟨0, Nat.zero_le _, rfl, he1, fun j hj => absurd hj (by omega)⟩
        case round =>
          clear he1
          obtain ⟨k, hk, rfl, hew, hm⟩ := hrel
          obtain ⟨k0, k1⟩ := (HM.out.ext hew).c2
          by_cases hlt : k < m.wvs.length
          · obtain ⟨b2, o2, rfl, A3, c3, hc3, j1, j2, j3⟩ := H7.out.ext hew k hlt
            rw [show m.wvs[k]?.getD default = m.wv k from rfl] at hc3 j1 j2 j3
            obtain ⟨hs, hhs⟩ : ∃ hs, (m.wv k).hours = hs := ⟨_, rfl⟩
            rw [hhs] at hc3 j2 j3
            obtain ⟨d, hd⟩ : ∃ d, hs.length = d := ⟨_, rfl⟩
            rw [hd] at hc3 j2
            have Hd := Lib.hid hd
            have Hhs := Lib.hid hhs
            have J3 := Lib.hid j3
            unfold maxLen at hc3
            have J2 := Lib.hid j2
            have hd37 : decide ((k : Int) < (m.wvs.length : Int)) = true := decide_eq_true (by omega)
            have hd37' : decide (k < m.wvs.length) = true := decide_eq_true hlt
            clear hhs hd j1 j3 j2
            go_wp2_with fail
            clear k0 k1
            go_loopw [5] (fun i wz => ∃ t : Nat, t ≤ d ∧ i = .int .i64 t ∧ Ext wr wz ∧ Hid (∀ j, j < t → inB (hs[j]?.getD 0) 0 23 = true)) (fun i _ => d - (intOf i).toNat)
            case atStart => exact ⟨0, Nat.zero_le _, rfl, Ext.refl _, fun j hj => absurd hj (by omega)⟩
            case round =>
              obtain ⟨t, ht, rfl, hez, hmz⟩ := hrel
              have hewz := hew.trans hez
              obtain ⟨k0, k1⟩ := (HM.out.ext hewz).c2
              have j2 := hez.cell J2.out
              by_cases hlz : t < d
              · obtain ⟨b3, o3, rfl, l3⟩ := J3.out.ext hez t (by rw [Hd.out]; exact hlz)
                have hmem : hs[t]?.getD 0 ∈ hs := by
                  have : t < hs.length := by rw [Hd.out]; exact hlz
                  simp [this]
                obtain ⟨y, hy⟩ : ∃ y, hs[t]?.getD 0 = y := ⟨_, rfl⟩
                rw [hy] at l3 hmem
                obtain ⟨q, hq⟩ : ∃ q, inB y 0 23 = q := ⟨_, rfl⟩
                have Ho := Lib.hid (fun W => off_any y 0 23 q hq W)
                have Hq := Lib.hid hq
                have Hy := Lib.hid hy
                have Hmem := Lib.hid hmem
                clear hq hy hmem
                go_wp2_with fail
                refine (Ho.out _).mono ?_
                rintro e w5 ⟨rfl, rfl⟩
                clear Ho
                cases q with
                | false =>
                  have hq' := Hq3.out
                  rw [all_out (wv_mem hlt) (by rw [Hhs.out]; exact all_out Hmem.out Hq.out)] at hq'
                  subst hq'
                  go_wp2
                  go_ret
                  exact ⟨by rw [← Hr1.out]; simp, hE.trans hewz⟩
                | true =>
                  go_wp2
                  go_roundw
                  case rel =>
                    refine ⟨t + 1, by omega, by go_num, hez, fun j hj => ?_⟩
                    by_cases ej : j = t
                    · subst ej; rw [Hy.out]; exact Hq.out
                    · exact hmz.out j (by omega)
                  case measure => simp [intOf]; omega
              · have hallz : ((m.wv k).hours.all fun h => inB h 0 23) = true := by
                  rw [Hhs.out]
                  exact hours_at fun j hj => hmz.out j (by rw [Hd.out] at hj; omega)
                have Hz := Lib.hid hallz
                obtain rfl : t = d := by omega
                clear hallz hmz
                go_wp2_with fail
                go_roundw
                case rel =>
                  refine ⟨k + 1, by omega, by go_num, hewz, fun j hj => ?_⟩
                  by_cases ej : j = k
                  · subst ej; exact Hz.out
                  · exact hm.out j (by omega)
                case measure => simp [intOf]; omega
          · obtain rfl : k = m.wvs.length := by omega
            have hall := wv_all (p := fun w => w.hours.all fun h => inB h 0 23) hm.out
            clear hm
            have hq' := Hq3.out
            rw [hall] at hq'
            subst hq'
            clear hall
            go_wp2_with fail
            have he2 := hew
            clear hew k0 k1
            obtain ⟨w2, hw2⟩ : ∃ z, z = wr := ⟨_, rfl⟩
            rw [← hw2] at he2 ⊢
            clear hw2 hlt hk
            skip
            go_loopw [6] (fun i wr => ∃ k : Nat, k ≤ m.shafts.length ∧ i = .int .i64 k ∧ Ext wB wr ∧ Hid (∀ j, j < k → inB (m.sh j).up (-1) ((j : Int) - 1) = true)) (fun i _ => m.shafts.length - (intOf i).toNat)
            case atStart => exact ⟨0, Nat.zero_le _, rfl, he2, fun j hj => absurd hj (by omega)⟩
            case round =>
              clear he2
              obtain ⟨k, hk, rfl, hew, hm⟩ := hrel
              obtain ⟨k0, k1⟩ := (HM.out.ext hew).c2
              by_cases hlt : k < m.shafts.length
              · obtain ⟨q, hq⟩ : ∃ q, inB (m.sh k).up (-1) ((k : Int) - 1) = q := ⟨_, rfl⟩
                obtain ⟨b1, o1, rfl, s1, s2⟩ := H6.out.ext hew k hlt
                rw [show m.shafts[k]?.getD default = m.sh k from rfl] at s1 s2
                have hmem := sh_mem hlt
                obtain ⟨p, hp⟩ : ∃ p, (m.sh k).up = p := ⟨_, rfl⟩
                rw [hp] at hq s1
                have Ho := Lib.hid (fun W => off_any p (-1) ((k : Int) - 1) q hq W)
                have Hq := Lib.hid hq
                have Hp := Lib.hid hp
                clear hq hp s2
                cases q with
                | false =>
                  go_wp2_with fail
                  refine (Ho.out _).mono ?_
                  rintro e w5 ⟨rfl, rfl⟩
                  have hq' := Hq4.out
                  rw [all_out (List.mem_range.2 hlt) (by rw [Hp.out]; exact Hq.out)] at hq'
                  subst hq'
                  clear Ho
                  go_wp2
                  go_ret
                  exact ⟨by rw [← Hr1.out]; simp, hE.trans hew⟩
                | true =>
                  go_wp2_with fail
                  refine (Ho.out _).mono ?_
                  rintro e w5 ⟨rfl, rfl⟩
                  clear Ho
                  go_wp2
                  go_roundw
                  case rel =>
                    refine ⟨k + 1, by omega, by go_num, hew, fun j hj => ?_⟩
                    by_cases ej : j = k
                    · subst ej; exact (by rw [Hp.out]; exact Hq.out)
                    · exact hm.out j (by omega)
                  case measure => simp [intOf]; omega
              · obtain rfl : k = m.shafts.length := by omega
                have hall := range_all (p := fun i => inB (m.sh i).up (-1) ((i : Int) - 1)) hm.out
                clear hm
                have hq' := Hq4.out
                rw [hall] at hq'
                subst hq'
                clear hall
                go_wp2_with fail
                have he3 := hew
                clear hew k0 k1
                obtain ⟨w3, hw3⟩ : ∃ z, z = wr := ⟨_, rfl⟩
                rw [← hw3] at he3 ⊢
                clear hw3 hlt hk
                skip
                go_loopw [7] (fun i wr => ∃ k : Nat, k ≤ m.wvs.length ∧ i = .int .i64 k ∧ Ext wB wr ∧ Hid (∀ j, j < k → inB (m.wv j).shaft 0 (m.shafts.length - 1) = true)) (fun i _ => m.wvs.length - (intOf i).toNat)
                case atStart => exact ⟨0, Nat.zero_le _, rfl, he3, fun j hj => absurd hj (by omega)⟩
                case round =>
                  clear he3
                  obtain ⟨k, hk, rfl, hew, hm⟩ := hrel
                  obtain ⟨k0, k1⟩ := (HM.out.ext hew).c2
                  by_cases hlt : k < m.wvs.length
                  · obtain ⟨q, hq⟩ : ∃ q, inB (m.wv k).shaft 0 (m.shafts.length - 1) = q := ⟨_, rfl⟩
                    obtain ⟨b2, o2, rfl, A3, c3, hc3, j1, j2, j3⟩ := H7.out.ext hew k hlt
                    rw [show m.wvs[k]?.getD default = m.wv k from rfl] at hc3 j1 j2 j3
                    obtain ⟨p, hp⟩ : ∃ p, (m.wv k).shaft = p := ⟨_, rfl⟩
                    rw [hp] at hq j1
                    have Ho := Lib.hid (fun W => off_any p 0 (m.shafts.length - 1) q hq W)
                    have Hq := Lib.hid hq
                    have Hp := Lib.hid hp
                    clear hq hp j2 j3 hc3
                    cases q with
                    | false =>
                      go_wp2_with fail
                      go_quiet ((go_at_call 109; exact quiet_same (Ho.out _)))
                      have hq' := Hq5.out
                      rw [all_out (wv_mem hlt) (by rw [Hp.out]; exact Hq.out)] at hq'
                      subst hq'
                      clear Ho
                      go_wp2
                      go_ret
                      exact ⟨by rw [← Hr1.out]; simp, hE.trans (hew.trans (Ext.drewN _ _))⟩
                    | true =>
                      go_wp2_with fail
                      go_quiet ((go_at_call 109; exact quiet_same (Ho.out _)))
                      clear Ho
                      go_wp2
                      go_roundw
                      case rel =>
                        refine ⟨k + 1, by omega, by go_num, (hew.trans (Ext.drewN _ _)), fun j hj => ?_⟩
                        by_cases ej : j = k
                        · subst ej; exact (by rw [Hp.out]; exact Hq.out)
                        · exact hm.out j (by omega)
                      case measure => simp [intOf]; omega
                  · obtain rfl : k = m.wvs.length := by omega
                    have hall := wv_all (p := fun w => inB w.shaft 0 (m.shafts.length - 1)) hm.out
                    clear hm
                    have hq' := Hq5.out
                    rw [hall] at hq'
                    subst hq'
                    clear hall
                    go_wp2_with fail
                    have he4 := hew
                    clear hew k0 k1
                    obtain ⟨w4, hw4⟩ : ∃ z, z = wr := ⟨_, rfl⟩
                    rw [← hw4] at he4 ⊢
                    clear hw4 hlt hk
                    skip
                    go_loopw [8] (fun i wr => ∃ k : Nat, k ≤ m.wvs.length ∧ i = .int .i64 k ∧ Ext wB wr ∧ Hid (∀ j, j < k → risingB (m.wv j).hours = true)) (fun i _ => m.wvs.length - (intOf i).toNat)
                    case atStart => exact ⟨0, Nat.zero_le _, rfl, he4, fun j hj => absurd hj (by omega)⟩
                    case round =>
                      clear he4
                      obtain ⟨k, hk, rfl, hew, hm⟩ := hrel
                      obtain ⟨k0, k1⟩ := (HM.out.ext hew).c2
                      by_cases hlt : k < m.wvs.length
                      · obtain ⟨q, hq⟩ : ∃ q, risingB (m.wv k).hours = q := ⟨_, rfl⟩
                        obtain ⟨b2, o2, rfl, A3, c3, hc3, j1, j2, j3⟩ := H7.out.ext hew k hlt
                        rw [show m.wvs[k]?.getD default = m.wv k from rfl] at hc3 j1 j2 j3
                        obtain ⟨hs, hhs⟩ : ∃ hs, (m.wv k).hours = hs := ⟨_, rfl⟩
                        rw [hhs] at hq hc3 j2 j3
                        obtain ⟨d, hd⟩ : ∃ d, hs.length = d := ⟨_, rfl⟩
                        rw [hd] at hc3 j2
                        have Ho := Lib.hid (fun W => rising7_any A3 c3 d hs hd q hq W (by omega))
                        have J3 := Lib.hid j3
                        have Hq := Lib.hid hq
                        have Hhs := Lib.hid hhs
                        unfold maxLen at hc3
                        clear hq hhs hd j1 j3
                        cases q with
                        | false =>
                          go_wp2_with fail
                          refine (Ho.out _ (J3.out)).mono ?_
                          rintro e w5 ⟨rfl, he5⟩
                          have hq' := Hq6.out
                          rw [all_out (wv_mem hlt) (by rw [Hhs.out]; exact Hq.out)] at hq'
                          subst hq'
                          clear Ho
                          go_wp2
                          go_ret
                          exact ⟨by rw [← Hr1.out]; simp, hE.trans (hew.trans he5)⟩
                        | true =>
                          go_wp2_with fail
                          refine (Ho.out _ (J3.out)).mono ?_
                          rintro e w5 ⟨rfl, he5⟩
                          clear Ho
                          go_wp2
                          go_roundw
                          case rel =>
                            refine ⟨k + 1, by omega, by go_num, hew.trans he5, fun j hj => ?_⟩
                            by_cases ej : j = k
                            · subst ej; rw [Hhs.out]; exact Hq.out
                            · exact hm.out j (by omega)
                          case measure => simp [intOf]; omega
                      · obtain rfl : k = m.wvs.length := by omega
                        have hall := wv_all (p := fun w => risingB w.hours) hm.out
                        clear hm
                        have hq' := Hq6.out
                        rw [hall] at hq'
                        subst hq'
                        clear hall
                        go_wp2_with fail
                        have he5 := hew
                        clear hew k0 k1
                        obtain ⟨w5, hw5⟩ : ∃ z, z = wr := ⟨_, rfl⟩
                        rw [← hw5] at he5 ⊢
                        clear hw5 hlt hk
                        go_ret
                        exact ⟨by rw [← Hr1.out]; simp, hE.trans he5⟩
end Go.Proofs.Pet

