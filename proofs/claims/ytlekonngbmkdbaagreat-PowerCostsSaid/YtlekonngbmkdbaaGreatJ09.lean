/- Joined texts: PE4, PE5, PE6, PE7, PE8, PE9, PDA, PDB, PF0. -/
import Derived.Test.YtlekonngbmkdbaaGreatJ08
import Derived.Test.YtlekonngbmkdbaaGreatJ06
import Derived.Deep.DeepAppendRoom
namespace Go.Proofs.Pet
open Go Go.RowKit Go.Maps Go.Shelf
open Go.Proofs.Pow (PM Sh Wv POk Up)

theorem sh_mem {m : PM} {k : Nat} (h : k < m.shafts.length) : m.sh k ∈ m.shafts := by unfold PM.sh; simp [h]
theorem wv_mem {m : PM} {k : Nat} (h : k < m.wvs.length) : m.wv k ∈ m.wvs := by unfold PM.wv; simp [h]
theorem sh_all {m : PM} {p : Sh → Bool} (h : ∀ j, j < m.shafts.length → p (m.sh j) = true) : m.shafts.all p = true := List.all_eq_true.2 fun x hx => by
  obtain ⟨j, hj, rfl⟩ := List.mem_iff_getElem.1 hx
  have := h j hj
  unfold PM.sh at this
  rwa [List.getElem?_eq_getElem hj, Option.getD_some] at this
theorem wv_all {m : PM} {p : Wv → Bool} (h : ∀ j, j < m.wvs.length → p (m.wv j) = true) : m.wvs.all p = true := List.all_eq_true.2 fun x hx => by
  obtain ⟨j, hj, rfl⟩ := List.mem_iff_getElem.1 hx
  have := h j hj
  unfold PM.wv at this
  rwa [List.getElem?_eq_getElem hj, Option.getD_some] at this
theorem all_out {α : Type} {l : List α} {p : α → Bool} {x : α} (hx : x ∈ l) (h : p x = false) : l.all p = false := by
  rw [List.all_eq_false]
  exact ⟨x, hx, by rw [h]; decide⟩
theorem hours_at {l : List Int} {p : Int → Bool} (h : ∀ j, j < l.length → p (l[j]?.getD 0) = true) : l.all p = true := List.all_eq_true.2 fun x hx => by
  obtain ⟨j, hj, rfl⟩ := List.mem_iff_getElem.1 hx
  have := h j hj
  rwa [List.getElem?_eq_getElem hj, Option.getD_some] at this
theorem range_all {n : Nat} {p : Nat → Bool} (h : ∀ j, j < n → p j = true) : (List.range n).all p = true := List.all_eq_true.2 fun x hx => h x (List.mem_range.1 hx)

set_option maxRecDepth 20000 in
set_option maxHeartbeats 16000000 in
theorem check7_any (v : Value) (m : PM) (r : Int) (hr : checkP m = r) (w : World) (hv : PMVal w v m) :
    Calls Tryz.prog 26 #[v] w fun e w' => e = .returned (.int .i64 r) ∧ Ext w w' := by
  obtain ⟨A1, c1, A2, c2, rfl, h2, h3, h4, h5, h6, h7⟩ := hv
  unfold maxLen at h3 h5
  have hE := Ext.alloc w (.cells #[.slice A1 m.shafts.length c1, .slice A2 m.wvs.length c2] 62)
  have HM := Lib.hid (Blk.new w 62 #[.slice A1 m.shafts.length c1, .slice A2 m.wvs.length c2])
  have H6 := Lib.hid (h6.ext hE)
  have H7 := Lib.hid (h7.ext hE)
  have hS : m.shafts.length ≤ maxLen := by unfold maxLen; omega
  have hW : m.wvs.length ≤ maxLen := by unfold maxLen; omega
  unfold maxLen at hS hW
  obtain ⟨k0, k1⟩ := HM.out.c2
  unfold checkP at hr
  generalize hq1 : inB m.shafts.length 1 9 = q1 at hr
  generalize hq2 : (m.shafts.all fun s => inB s.price 0 60) = q2 at hr
  generalize hq3 : (m.wvs.all fun w => w.hours.all fun h => inB h 0 23) = q3 at hr
  generalize hq4 : ((List.range m.shafts.length).all fun i => inB (m.sh i).up (-1) ((i : Int) - 1)) = q4 at hr
  generalize hq5 : (m.wvs.all fun w => inB w.shaft 0 (m.shafts.length - 1)) = q5 at hr
  generalize hq6 : (m.wvs.all fun w => risingB w.hours) = q6 at hr
  have Hq2 := Lib.hid hq2; have Hq3 := Lib.hid hq3; have Hq4 := Lib.hid hq4; have Hq5 := Lib.hid hq5; have Hq6 := Lib.hid hq6
  have Hin := Lib.hid (fun W => off_anyP m.shafts.length 1 9 q1 hq1 W)
  have Hr := Lib.hid hr
  clear hq1 hq2 hq3 hq4 hq5 hq6 hr h6 h7 h2 h3 h4 h5
  go_enter Tryz.func26, Tryz.ntmps26
  go_wp2_with fail
  generalize w.alloc _ = wB at *
  refine (Hin.out _).mono ?_
  rintro e w' ⟨rfl, rfl⟩
  cases q1 with
  | false =>
    go_wp2
    go_ret
    exact ⟨by rw [← Hr.out]; simp, hE⟩
  | true =>
  by_cases hlen : 6 < m.wvs.length
  · go_wp2
    go_ret
    exact ⟨by rw [← Hr.out]; simp [hlen], hE⟩
  · have hlen' : decide (6 < (m.wvs.length : Int)) = false := by simp; omega
    have Hr1 := Lib.hid (show (if q2 = false then 3 else if q3 = false then 3 else if q4 = false then 1 else if q5 = false then 1 else if q6 = false then 4 else 0) = r by rw [← Hr.out]; simp [hlen])
    have hlw : m.wvs.length ≤ 6 := by omega
    clear Hr Hin hlen
    go_wp2_with fail
    have he0 := Ext.refl wB
    clear k0 k1 hlen'
    skip
    go_loopw [3] (fun i wr => ∃ k : Nat, k ≤ m.shafts.length ∧ i = .int .i64 k ∧ Ext wB wr ∧ Hid (∀ j, j < k → inB (m.sh j).price 0 60 = true)) (fun i _ => m.shafts.length - (intOf i).toNat)
    case atStart => exact ⟨0, Nat.zero_le _, rfl, he0, fun j hj => absurd hj (by omega)⟩
    case round =>
      clear he0
      obtain ⟨k, hk, rfl, hew, hm⟩ := hrel
      obtain ⟨k0, k1⟩ := (HM.out.ext hew).c2
      by_cases hlt : k < m.shafts.length
      · obtain ⟨q, hq⟩ : ∃ q, inB (m.sh k).price 0 60 = q := ⟨_, rfl⟩
        obtain ⟨b1, o1, rfl, s1, s2⟩ := H6.out.ext hew k hlt
        rw [show m.shafts[k]?.getD default = m.sh k from rfl] at s1 s2
        have hmem := sh_mem hlt
        obtain ⟨p, hp⟩ : ∃ p, (m.sh k).price = p := ⟨_, rfl⟩
        rw [hp] at hq s2
        have Ho := Lib.hid (fun W => off_anyP p 0 60 q hq W)
        have Hq := Lib.hid hq
        have Hp := Lib.hid hp
        clear hq hp s1
        cases q with
        | false =>
          go_wp2_with fail
          refine (Ho.out _).mono ?_
          rintro e w5 ⟨rfl, rfl⟩
          have hq' := Hq2.out
          rw [all_out (sh_mem hlt) (by rw [Hp.out]; exact Hq.out)] at hq'
          subst hq'
          clear Ho
          go_wp2
          go_ret
          exact ⟨by rw [← Hr1.out]; simp, hE.trans hew⟩
        | true =>
          go_wp2_with fail
          refine (Ho.out _).mono ?_
          rintro e w5 ⟨rfl, rfl⟩
          clear Ho
          go_wp2
          go_roundw
          case rel =>
            refine ⟨k + 1, by omega, by go_num, hew, fun j hj => ?_⟩
            by_cases ej : j = k
            · subst ej; exact (by rw [Hp.out]; exact Hq.out)
            · exact hm.out j (by omega)
          case measure => simp [intOf]; omega
      · obtain rfl : k = m.shafts.length := by omega
        have hall := sh_all (p := fun s => inB s.price 0 60) hm.out
        clear hm
        have hq' := Hq2.out
        rw [hall] at hq'
        subst hq'
        clear hall
        go_wp2_with fail
        have he1 := hew
        clear hew k0 k1
        obtain ⟨w1, hw1⟩ : ∃ z, z = wr := ⟨_, rfl⟩
        rw [← hw1] at he1 ⊢
        clear hw1 hlt hk
        skip
        go_loopw [4] (fun i wr => ∃ k : Nat, k ≤ m.wvs.length ∧ i = .int .i64 k ∧ Ext wB wr ∧ Hid (∀ j, j < k → ((m.wv j).hours.all fun h => inB h 0 23) = true)) (fun i _ => m.wvs.length - (intOf i).toNat)
        case atStart => exact ⟨0, Nat.zero_le _, rfl, he1, fun j hj => absurd hj (by omega)⟩
        case round =>
          clear he1
          obtain ⟨k, hk, rfl, hew, hm⟩ := hrel
          obtain ⟨k0, k1⟩ := (HM.out.ext hew).c2
          by_cases hlt : k < m.wvs.length
          · obtain ⟨b2, o2, rfl, A3, c3, hc3, j1, j2, j3⟩ := H7.out.ext hew k hlt
            rw [show m.wvs[k]?.getD default = m.wv k from rfl] at hc3 j1 j2 j3
            obtain ⟨hs, hhs⟩ : ∃ hs, (m.wv k).hours = hs := ⟨_, rfl⟩
            rw [hhs] at hc3 j2 j3
            obtain ⟨d, hd⟩ : ∃ d, hs.length = d := ⟨_, rfl⟩
            rw [hd] at hc3 j2
            have Hd := Lib.hid hd
            have Hhs := Lib.hid hhs
            have J3 := Lib.hid j3
            unfold maxLen at hc3
            have J2 := Lib.hid j2
            have hd37 : decide ((k : Int) < (m.wvs.length : Int)) = true := decide_eq_true (by omega)
            have hd37' : decide (k < m.wvs.length) = true := decide_eq_true hlt
            clear hhs hd j1 j3 j2
            go_wp2_with fail
            clear k0 k1
            go_loopw [5] (fun i wz => ∃ t : Nat, t ≤ d ∧ i = .int .i64 t ∧ Ext wr wz ∧ Hid (∀ j, j < t → inB (hs[j]?.getD 0) 0 23 = true)) (fun i _ => d - (intOf i).toNat)
            case atStart => exact ⟨0, Nat.zero_le _, rfl, Ext.refl _, fun j hj => absurd hj (by omega)⟩
            case round =>
              obtain ⟨t, ht, rfl, hez, hmz⟩ := hrel
              have hewz := hew.trans hez
              obtain ⟨k0, k1⟩ := (HM.out.ext hewz).c2
              have j2 := hez.cell J2.out
              by_cases hlz : t < d
              · obtain ⟨b3, o3, rfl, l3⟩ := J3.out.ext hez t (by rw [Hd.out]; exact hlz)
                have hmem : hs[t]?.getD 0 ∈ hs := by
                  have : t < hs.length := by rw [Hd.out]; exact hlz
                  simp [this]
                obtain ⟨y, hy⟩ : ∃ y, hs[t]?.getD 0 = y := ⟨_, rfl⟩
                rw [hy] at l3 hmem
                obtain ⟨q, hq⟩ : ∃ q, inB y 0 23 = q := ⟨_, rfl⟩
                have Ho := Lib.hid (fun W => off_anyP y 0 23 q hq W)
                have Hq := Lib.hid hq
                have Hy := Lib.hid hy
                have Hmem := Lib.hid hmem
                clear hq hy hmem
                go_wp2_with fail
                refine (Ho.out _).mono ?_
                rintro e w5 ⟨rfl, rfl⟩
                clear Ho
                cases q with
                | false =>
                  have hq' := Hq3.out
                  rw [all_out (wv_mem hlt) (by rw [Hhs.out]; exact all_out Hmem.out Hq.out)] at hq'
                  subst hq'
                  go_wp2
                  go_ret
                  exact ⟨by rw [← Hr1.out]; simp, hE.trans hewz⟩
                | true =>
                  go_wp2
                  go_roundw
                  case rel =>
                    refine ⟨t + 1, by omega, by go_num, hez, fun j hj => ?_⟩
                    by_cases ej : j = t
                    · subst ej; rw [Hy.out]; exact Hq.out
                    · exact hmz.out j (by omega)
                  case measure => simp [intOf]; omega
              · have hallz : ((m.wv k).hours.all fun h => inB h 0 23) = true := by
                  rw [Hhs.out]
                  exact hours_at fun j hj => hmz.out j (by rw [Hd.out] at hj; omega)
                have Hz := Lib.hid hallz
                obtain rfl : t = d := by omega
                clear hallz hmz
                go_wp2_with fail
                go_roundw
                case rel =>
                  refine ⟨k + 1, by omega, by go_num, hewz, fun j hj => ?_⟩
                  by_cases ej : j = k
                  · subst ej; exact Hz.out
                  · exact hm.out j (by omega)
                case measure => simp [intOf]; omega
          · obtain rfl : k = m.wvs.length := by omega
            have hall := wv_all (p := fun w => w.hours.all fun h => inB h 0 23) hm.out
            clear hm
            have hq' := Hq3.out
            rw [hall] at hq'
            subst hq'
            clear hall
            go_wp2_with fail
            have he2 := hew
            clear hew k0 k1
            obtain ⟨w2, hw2⟩ : ∃ z, z = wr := ⟨_, rfl⟩
            rw [← hw2] at he2 ⊢
            clear hw2 hlt hk
            skip
            go_loopw [6] (fun i wr => ∃ k : Nat, k ≤ m.shafts.length ∧ i = .int .i64 k ∧ Ext wB wr ∧ Hid (∀ j, j < k → inB (m.sh j).up (-1) ((j : Int) - 1) = true)) (fun i _ => m.shafts.length - (intOf i).toNat)
            case atStart => exact ⟨0, Nat.zero_le _, rfl, he2, fun j hj => absurd hj (by omega)⟩
            case round =>
              clear he2
              obtain ⟨k, hk, rfl, hew, hm⟩ := hrel
              obtain ⟨k0, k1⟩ := (HM.out.ext hew).c2
              by_cases hlt : k < m.shafts.length
              · obtain ⟨q, hq⟩ : ∃ q, inB (m.sh k).up (-1) ((k : Int) - 1) = q := ⟨_, rfl⟩
                obtain ⟨b1, o1, rfl, s1, s2⟩ := H6.out.ext hew k hlt
                rw [show m.shafts[k]?.getD default = m.sh k from rfl] at s1 s2
                have hmem := sh_mem hlt
                obtain ⟨p, hp⟩ : ∃ p, (m.sh k).up = p := ⟨_, rfl⟩
                rw [hp] at hq s1
                have Ho := Lib.hid (fun W => off_anyP p (-1) ((k : Int) - 1) q hq W)
                have Hq := Lib.hid hq
                have Hp := Lib.hid hp
                clear hq hp s2
                cases q with
                | false =>
                  go_wp2_with fail
                  refine (Ho.out _).mono ?_
                  rintro e w5 ⟨rfl, rfl⟩
                  have hq' := Hq4.out
                  rw [all_out (List.mem_range.2 hlt) (by rw [Hp.out]; exact Hq.out)] at hq'
                  subst hq'
                  clear Ho
                  go_wp2
                  go_ret
                  exact ⟨by rw [← Hr1.out]; simp, hE.trans hew⟩
                | true =>
                  go_wp2_with fail
                  refine (Ho.out _).mono ?_
                  rintro e w5 ⟨rfl, rfl⟩
                  clear Ho
                  go_wp2
                  go_roundw
                  case rel =>
                    refine ⟨k + 1, by omega, by go_num, hew, fun j hj => ?_⟩
                    by_cases ej : j = k
                    · subst ej; exact (by rw [Hp.out]; exact Hq.out)
                    · exact hm.out j (by omega)
                  case measure => simp [intOf]; omega
              · obtain rfl : k = m.shafts.length := by omega
                have hall := range_all (p := fun i => inB (m.sh i).up (-1) ((i : Int) - 1)) hm.out
                clear hm
                have hq' := Hq4.out
                rw [hall] at hq'
                subst hq'
                clear hall
                go_wp2_with fail
                have he3 := hew
                clear hew k0 k1
                obtain ⟨w3, hw3⟩ : ∃ z, z = wr := ⟨_, rfl⟩
                rw [← hw3] at he3 ⊢
                clear hw3 hlt hk
                skip
                go_loopw [7] (fun i wr => ∃ k : Nat, k ≤ m.wvs.length ∧ i = .int .i64 k ∧ Ext wB wr ∧ Hid (∀ j, j < k → inB (m.wv j).shaft 0 (m.shafts.length - 1) = true)) (fun i _ => m.wvs.length - (intOf i).toNat)
                case atStart => exact ⟨0, Nat.zero_le _, rfl, he3, fun j hj => absurd hj (by omega)⟩
                case round =>
                  clear he3
                  obtain ⟨k, hk, rfl, hew, hm⟩ := hrel
                  obtain ⟨k0, k1⟩ := (HM.out.ext hew).c2
                  by_cases hlt : k < m.wvs.length
                  · obtain ⟨q, hq⟩ : ∃ q, inB (m.wv k).shaft 0 (m.shafts.length - 1) = q := ⟨_, rfl⟩
                    obtain ⟨b2, o2, rfl, A3, c3, hc3, j1, j2, j3⟩ := H7.out.ext hew k hlt
                    rw [show m.wvs[k]?.getD default = m.wv k from rfl] at hc3 j1 j2 j3
                    obtain ⟨p, hp⟩ : ∃ p, (m.wv k).shaft = p := ⟨_, rfl⟩
                    rw [hp] at hq j1
                    have Ho := Lib.hid (fun W => off_anyP p 0 (m.shafts.length - 1) q hq W)
                    have Hq := Lib.hid hq
                    have Hp := Lib.hid hp
                    clear hq hp j2 j3 hc3
                    cases q with
                    | false =>
                      go_wp2_with fail
                      go_quiet ((go_at_call 104; exact quiet_same (Ho.out _)))
                      have hq' := Hq5.out
                      rw [all_out (wv_mem hlt) (by rw [Hp.out]; exact Hq.out)] at hq'
                      subst hq'
                      clear Ho
                      go_wp2
                      go_ret
                      exact ⟨by rw [← Hr1.out]; simp, hE.trans (hew.trans (Ext.drewN _ _))⟩
                    | true =>
                      go_wp2_with fail
                      go_quiet ((go_at_call 104; exact quiet_same (Ho.out _)))
                      clear Ho
                      go_wp2
                      go_roundw
                      case rel =>
                        refine ⟨k + 1, by omega, by go_num, (hew.trans (Ext.drewN _ _)), fun j hj => ?_⟩
                        by_cases ej : j = k
                        · subst ej; exact (by rw [Hp.out]; exact Hq.out)
                        · exact hm.out j (by omega)
                      case measure => simp [intOf]; omega
                  · obtain rfl : k = m.wvs.length := by omega
                    have hall := wv_all (p := fun w => inB w.shaft 0 (m.shafts.length - 1)) hm.out
                    clear hm
                    have hq' := Hq5.out
                    rw [hall] at hq'
                    subst hq'
                    clear hall
                    go_wp2_with fail
                    have he4 := hew
                    clear hew k0 k1
                    obtain ⟨w4, hw4⟩ : ∃ z, z = wr := ⟨_, rfl⟩
                    rw [← hw4] at he4 ⊢
                    clear hw4 hlt hk
                    skip
                    go_loopw [8] (fun i wr => ∃ k : Nat, k ≤ m.wvs.length ∧ i = .int .i64 k ∧ Ext wB wr ∧ Hid (∀ j, j < k → risingB (m.wv j).hours = true)) (fun i _ => m.wvs.length - (intOf i).toNat)
                    case atStart => exact ⟨0, Nat.zero_le _, rfl, he4, fun j hj => absurd hj (by omega)⟩
                    case round =>
                      clear he4
                      obtain ⟨k, hk, rfl, hew, hm⟩ := hrel
                      obtain ⟨k0, k1⟩ := (HM.out.ext hew).c2
                      by_cases hlt : k < m.wvs.length
                      · obtain ⟨q, hq⟩ : ∃ q, risingB (m.wv k).hours = q := ⟨_, rfl⟩
                        obtain ⟨b2, o2, rfl, A3, c3, hc3, j1, j2, j3⟩ := H7.out.ext hew k hlt
                        rw [show m.wvs[k]?.getD default = m.wv k from rfl] at hc3 j1 j2 j3
                        obtain ⟨hs, hhs⟩ : ∃ hs, (m.wv k).hours = hs := ⟨_, rfl⟩
                        rw [hhs] at hq hc3 j2 j3
                        obtain ⟨d, hd⟩ : ∃ d, hs.length = d := ⟨_, rfl⟩
                        rw [hd] at hc3 j2
                        have Ho := Lib.hid (fun W => rising7_any A3 c3 d hs hd q hq W (by omega))
                        have J3 := Lib.hid j3
                        have Hq := Lib.hid hq
                        have Hhs := Lib.hid hhs
                        unfold maxLen at hc3
                        clear hq hhs hd j1 j3
                        cases q with
                        | false =>
                          go_wp2_with fail
                          refine (Ho.out _ (J3.out)).mono ?_
                          rintro e w5 ⟨rfl, he5⟩
                          have hq' := Hq6.out
                          rw [all_out (wv_mem hlt) (by rw [Hhs.out]; exact Hq.out)] at hq'
                          subst hq'
                          clear Ho
                          go_wp2
                          go_ret
                          exact ⟨by rw [← Hr1.out]; simp, hE.trans (hew.trans he5)⟩
                        | true =>
                          go_wp2_with fail
                          refine (Ho.out _ (J3.out)).mono ?_
                          rintro e w5 ⟨rfl, he5⟩
                          clear Ho
                          go_wp2
                          go_roundw
                          case rel =>
                            refine ⟨k + 1, by omega, by go_num, hew.trans he5, fun j hj => ?_⟩
                            by_cases ej : j = k
                            · subst ej; rw [Hhs.out]; exact Hq.out
                            · exact hm.out j (by omega)
                          case measure => simp [intOf]; omega
                      · obtain rfl : k = m.wvs.length := by omega
                        have hall := wv_all (p := fun w => risingB w.hours) hm.out
                        clear hm
                        have hq' := Hq6.out
                        rw [hall] at hq'
                        subst hq'
                        clear hall
                        go_wp2_with fail
                        have he5 := hew
                        clear hew k0 k1
                        obtain ⟨w5, hw5⟩ : ∃ z, z = wr := ⟨_, rfl⟩
                        rw [← hw5] at he5 ⊢
                        clear hw5 hlt hk
                        go_ret
                        exact ⟨by rw [← Hr1.out]; simp, hE.trans he5⟩
end Go.Proofs.Pet

namespace Go.Proofs.Pet
open Go Go.RowKit Go.Maps Go.Shelf
open Go.Proofs.Pow (PM Sh Wv POk Up)

theorem info_shaft7 : (Tryz.prog.info? 171).map (fun i => (i.zero, i.size, i.bytes)) = some (some (.agg #[.int .i64 0, .int .i64 0]), 2, 16) := by kernel_rfl
theorem info_weaver7 : (Tryz.prog.info? 172).map (fun i => (i.zero, i.size, i.bytes)) = some (some (.agg #[.int .i64 0, .slice none 0 0]), 2, 32) := by kernel_rfl
section
variable {w w' w0 : World} {base base' b : Nat} {e e1 : TypeId} {v u : Value} {xs : List Sh} {ys : List Wv} {cs : List Value}
theorem ownsRow_grownT {size n size1 n1 : Nat} {vs vs1 : List Value} (h : w.ownsRow base e1 size1 u n1 vs1) (hne : e ≠ e1) (hg : w.grownBy w' v.ownBlock) (hv : w.ownsRow base' e size v n vs) : w'.ownsRow base e1 size1 u n1 vs1 := by
  obtain ⟨h1, h2⟩ := h
  refine ⟨h1, ?_⟩
  rcases h2 with h2 | ⟨g, cap, cur, rfl, hg1, hb, r⟩
  · exact .inl h2
  · refine .inr ⟨g, cap, cur, rfl, hg1, ?_, r⟩
    rw [← hb]
    refine hg.block g (Array.getElem?_eq_some_iff.1 hb).1 fun e' => ?_
    exact ownsRow_ne_blk hv (show Blk w g e1 cur from hb) (fun h => hne h.symm) e'
theorem shRow_at (h : w.ownsRow base e 2 v xs.length (shFlat xs)) : ∃ A c, v = .slice A xs.length c ∧ xs.length ≤ c ∧ c ≤ maxLen ∧ ShsAt w A xs := by
  rcases h.2 with ⟨rfl, h0⟩ | ⟨g, cap, cur, rfl, hg, hb, hn, hm, hs, hc⟩
  · have : xs = [] := List.length_eq_zero_iff.1 h0
    subst this
    exact ⟨none, 0, rfl, Nat.le_refl _, by unfold maxLen; omega, fun k hk => by simp at hk⟩
  · refine ⟨_, cap, rfl, hn, hm, fun k hk => ⟨g, 0, rfl, ?_⟩⟩
    obtain ⟨g1, g2⟩ := shFlat_at xs k hk
    rw [← hc, List.getElem?_take, if_pos (by omega), Array.getElem?_toList] at g1 g2
    have hB : Blk w g e cur := hb
    refine ⟨?_, ?_⟩
    · rw [Nat.zero_add, hB.cell]; exact g1
    · rw [Nat.zero_add, hB.cell]; exact g2
theorem wvRow_at (h : w.ownsRow base e 2 v ys.length cs) (h2 : WvF (rdW w) cs ys) : ∃ A c, v = .slice A ys.length c ∧ ys.length ≤ c ∧ c ≤ maxLen ∧ WvsAt w A ys := by
  rcases h.2 with ⟨rfl, h0⟩ | ⟨g, cap, cur, rfl, hg, hb, hn, hm, hs, hc⟩
  · have : ys = [] := List.length_eq_zero_iff.1 h0
    subst this
    exact ⟨none, 0, rfl, Nat.le_refl _, by unfold maxLen; omega, fun k hk => by simp at hk⟩
  · refine ⟨_, cap, rfl, hn, hm, fun k hk => ⟨g, 0, rfl, ?_⟩⟩
    obtain ⟨g1, u, g2, A, c, rfl, r1, r2, r3⟩ := h2.at_ k hk
    rw [← hc, List.getElem?_take, if_pos (by omega), Array.getElem?_toList] at g1 g2
    have hB : Blk w g e cur := hb
    refine ⟨A, c, ⟨r1, r2⟩, ?_, ?_, r3⟩
    · rw [Nat.zero_add, hB.cell]; exact g1
    · rw [Nat.zero_add, hB.cell]; exact g2
/-- the reference's mill: rows of the call's own, the hours those of the given mill -/
def TheirM (w0 w : World) (base : Nat) (v : Value) (m : PM) : Prop := ∃ s1 s2 cs, v = .agg #[s1, s2] ∧ w.ownsRow base 171 2 s1 m.shafts.length (shFlat m.shafts) ∧ w.ownsRow base 172 2 s2 m.wvs.length cs ∧ WvF (rdW w0) cs m.wvs
theorem TheirM.ext {m : PM} (h : TheirM w0 w base v m) (he : Ext w w') : TheirM w0 w' base v m := by
  obtain ⟨s1, s2, cs, e, h1, h2, h3⟩ := h
  exact ⟨s1, s2, cs, e, ownsRow_ext2 h1 he, ownsRow_ext2 h2 he, h3⟩
theorem TheirM.apart {m : PM} {t : TypeId} {c : Array Value} (h : TheirM w0 w base v m) (hb : Blk w b t c) (n1 : t ≠ 171) (n2 : t ≠ 172) (ha : Apart b w w') : TheirM w0 w' base v m := by
  obtain ⟨s1, s2, cs, e, h1, h2, h3⟩ := h
  exact ⟨s1, s2, cs, e, ownsRow_apart h1 (fun e => ownsRow_ne_blk h1 hb n1 e.symm) ha, ownsRow_apart h2 (fun e => ownsRow_ne_blk h2 hb n2 e.symm) ha, h3⟩
theorem TheirM.mono {m : PM} (h : TheirM w0 w base v m) (hb : base' ≤ base) : TheirM w0 w base' v m := by
  obtain ⟨s1, s2, cs, e, h1, h2, h3⟩ := h
  exact ⟨s1, s2, cs, e, ownsRow_mono h1 hb, ownsRow_mono h2 hb, h3⟩
theorem TheirM.val {m : PM} (h : TheirM w0 w base v m) (he : Ext w0 w) : PMVal w v m := by
  obtain ⟨s1, s2, cs, e, h1, h2, h3⟩ := h
  obtain ⟨A1, c1, e1, g1, g2, g3⟩ := shRow_at h1
  obtain ⟨A2, c2, e2, g4, g5, g6⟩ := wvRow_at h2 (h3.map fun _ _ g => SlI.ext g he)
  exact ⟨A1, c1, A2, c2, by rw [e, e1, e2], g1, g2, g4, g5, g3, g6⟩
end
set_option maxRecDepth 20000 in
set_option maxHeartbeats 4000000 in
theorem theirs7_any (v : Value) (m : PM) (w0 w : World) (h0 : Ext w0 w) (hv : PMVal w0 v m) (hn1 : m.shafts.length ≤ 1000) (hn2 : m.wvs.length ≤ 1000) :
    Calls Tryz.prog 24 #[v] w fun e w' => ∃ v', e = .returned v' ∧ TheirM w0 w' w.heap.size v' m ∧ Ext w w' := by
  have H0 := Lib.hid h0
  obtain ⟨ti, hi, hz0, hz1, hz2⟩ := info_parts info_shaft7
  obtain ⟨ti2, hi2, hy0, hy1, hy2⟩ := info_parts info_weaver7
  obtain ⟨A1, c1, A2, c2, rfl, h2, h3, h4, h5, h6, h7⟩ := hv
  have H6 := Lib.hid h6; have H7 := Lib.hid h7; clear h6 h7 h2 h3 h4 h5
  have hE1 : Ext w (((w.alloc (.cells #[.slice A1 m.shafts.length c1, .slice A2 m.wvs.length c2] 56)).alloc (.cells #[.slice none 0 0, .slice none 0 0] 62)).alloc (.cells #[.slice none 0 0, .slice none 0 0] 62)) := ((Ext.alloc _ _).trans (Ext.alloc _ _)).trans (Ext.alloc _ _)
  have hM1 := ((Blk.new w 56 #[.slice A1 m.shafts.length c1, .slice A2 m.wvs.length c2]).alloc (.cells #[.slice none 0 0, .slice none 0 0] 62)).alloc (.cells #[.slice none 0 0, .slice none 0 0] 62)
  have hT1 := (Blk.new (w.alloc (.cells #[.slice A1 m.shafts.length c1, .slice A2 m.wvs.length c2] 56)) 62 #[.slice none 0 0, .slice none 0 0]).alloc (.cells #[.slice none 0 0, .slice none 0 0] 62)
  have hO1 := Blk.new ((w.alloc (.cells #[.slice A1 m.shafts.length c1, .slice A2 m.wvs.length c2] 56)).alloc (.cells #[.slice none 0 0, .slice none 0 0] 62)) 62 #[.slice none 0 0, .slice none 0 0]
  rw [World.size_alloc] at hT1
  rw [World.size_alloc, World.size_alloc] at hO1
  obtain ⟨k0, k1⟩ := hM1.c2
  go_enter Tryz.func24, Tryz.ntmps24
  go_wp2_with fail
  clear k0 k1
  generalize ((w.alloc _).alloc _).alloc _ = W at *
  have hO1' : Blk W (w.heap.size + 2) 62 #[.slice none 0 0, .slice none 0 0] := hO1
  have e2 : w.heap.size + 1 + 1 = w.heap.size + 2 := rfl
  rw [e2]
  clear hO1
  go_loopw [11] (fun iv wr => ∃ (k : Nat) (ov : Value), k ≤ m.shafts.length ∧ iv = .int .i64 k ∧ Ext w wr ∧ Blk wr w.heap.size 56 #[.slice A1 m.shafts.length c1, .slice A2 m.wvs.length c2] ∧
      Blk wr (w.heap.size + 1) 62 #[.slice none 0 0, .slice none 0 0] ∧ Blk wr (w.heap.size + 2) 62 #[ov, .slice none 0 0] ∧
      Hid (wr.ownsRow (w.heap.size + 3) 171 2 ov k (shFlat (m.shafts.take k)))) (fun iv _ => m.shafts.length - (intOf iv).toNat)
  case atStart => exact ⟨0, .slice none 0 0, by omega, rfl, hE1, hM1, hT1, hO1', World.ownsRow_nil _ _ _ _⟩
  case round =>
    clear hE1 hM1 hT1 hO1'
    obtain ⟨k, ov, hk, rfl, he, hM, hT, hO, hown⟩ := hrel
    have hOlt := hO.lt
    by_cases hlt : k < m.shafts.length
    · obtain ⟨b, o, rfl, p1, p2⟩ := H6.out.ext (H0.out.trans he) k hlt
      have htk : Hid (shFlat (m.shafts.take (k + 1)) = shFlat (m.shafts.take k) ++ [.int .i64 (m.sh k).up, .int .i64 (m.sh k).price]) := by
        unfold Hid; rw [List.take_succ_eq_append_getElem hlt, shFlat_append]
        have : m.sh k = m.shafts[k] := by unfold PM.sh; rw [List.getElem?_eq_getElem hlt]; rfl
        rw [this]; rfl
      rw [show m.shafts[k]?.getD default = m.sh k from rfl] at p1 p2
      generalize (m.sh k).up = xu at *
      generalize (m.sh k).price = xp at *
      obtain ⟨AO, cO, rfl⟩ := ownsRow_slice hown.out
      have hb5 := Blk.new wr 84 #[.int .i64 xu, .int .i64 xp]
      have hX := Ext.alloc wr (.cells #[.int .i64 xu, .int .i64 xp] 84)
      have hOX := hO.ext hX
      obtain ⟨q0, q1⟩ := hb5.c2
      have r2 := hOX.c2.1
      have hge : Hid (∀ j, (Value.slice AO k cO).ownBlock = some j → w.heap.size + 3 ≤ j) := fun j hj => (ownsRow_own hown.out j hj).1
      have hrow2 : Hid (((wr.alloc (.cells #[.int .i64 xu, .int .i64 xp] 84)).alloc (.cells #[.int .i64 xu, .int .i64 xp] 171)).ownsRow (w.heap.size + 3) 171 2 (.slice AO k cO) k (shFlat (m.shafts.take k))) := (hown.out.alloc _).alloc _
      have hsrc : Hid (Src ((wr.alloc (.cells #[.int .i64 xu, .int .i64 xp] 84)).alloc (.cells #[.int .i64 xu, .int .i64 xp] 171)) (some ⟨wr.heap.size + 1, 0, none⟩) [.int .i64 xu, .int .i64 xp]) := by
        have := Src.listP (wr.alloc (.cells #[.int .i64 xu, .int .i64 xp] 84)) [.int .i64 xu, .int .i64 xp] 171
        rw [World.size_alloc] at this
        exact this
      have hOXX := hOX.alloc (.cells #[.int .i64 xu, .int .i64 xp] 171)
      have hONe := Lib.hid (ownsRow_ne_blk hrow2.out hOXX (by decide))
      go_wp2_with (at_builtin; refine wpList_app rfl _ _ 59 rfl (w.heap.size + 3) 171 ti _ 2 16 Tryz.underlying59 hi hz0 hz1 hz2 rfl (by decide) _ _ _ rfl hrow2.out (some ⟨wr.heap.size + 1, 0, none⟩) 1 1 [.int .i64 xu, .int .i64 xp] rfl rfl hsrc.out ?c2 ?c3 ?c4 ?c5 ?_; (case c2 => (intro u hu; simp only [List.mem_cons, List.not_mem_nil, or_false] at hu; rcases hu with rfl | rfl <;> rfl)); (case c3 => (unfold maxLen; omega)); (case c4 => omega); (case c5 => (simp; omega)); intro v' w' hown' hg hblk; obtain ⟨AV, cV, rfl⟩ := ownsRow_slice hown'; have hOw := hOXX.grown hg hONe.out; have rW := hOw.c2.1; have fW := hOw.frozen 0)
      go_roundw
      case rel =>
        have hXX := hX.trans (Ext.alloc (wr.alloc (.cells #[.int .i64 xu, .int .i64 xp] 84)) (.cells #[.int .i64 xu, .int .i64 xp] 171))
        have hMw := (hM.ext hXX).grown hg (ownsRow_ne_blk hrow2.out (hM.ext hXX) (by decide))
        have hTw := (hT.ext hXX).grown hg (ownsRow_ne_blk hrow2.out (hT.ext hXX) (by decide))
        have hsz := (he.trans hXX).size
        have hew : Ext w w' := Below.grown (he.trans hXX) hg hsz (fun j hj => by have := hge.out j hj; omega)
        refine ⟨k + 1, _, by omega, by go_num, Below.setCell hew (by show _ ≤ w.heap.size + 2; omega) _, hMw.far (by show _ ≠ w.heap.size + 2; omega) _, hTw.far (by show _ ≠ w.heap.size + 2; omega) _, by simpa using hOw.set_ 0 (.slice AV (k + 1) cV), ?_⟩
        unfold Hid
        rw [htk.out]
        exact ownsRow_apart hown' (fun e => ownsRow_ne_blk hown' hOw (by decide) e.symm) ((Apart.refl (w.heap.size + 2) w').set_ 0 _)
      case measure => simp [intOf]; omega
    · obtain rfl : k = m.shafts.length := by omega
      have hown2 := hown.out
      rw [List.take_length] at hown2
      obtain ⟨k0, k1⟩ := hM.c2
      have Hown := Lib.hid hown2
      clear hown hown2
      go_wp2_with fail
      clear k0 k1
      obtain ⟨ss, hss⟩ : ∃ z, z = ov := ⟨_, rfl⟩
      rw [← hss] at hO Hown
      obtain ⟨W, hW⟩ : ∃ z, z = wr := ⟨_, rfl⟩
      rw [← hW] at he hM hT hO Hown ⊢
      clear hW hss hk hlt hOlt
      go_loopw [25] (fun iv wr => ∃ (k : Nat) (ov : Value) (cs : List Value), k ≤ m.wvs.length ∧ iv = .int .i64 k ∧ Ext w wr ∧ Blk wr w.heap.size 56 #[.slice A1 m.shafts.length c1, .slice A2 m.wvs.length c2] ∧
          Blk wr (w.heap.size + 1) 62 #[.slice none 0 0, .slice none 0 0] ∧ Blk wr (w.heap.size + 2) 62 #[ss, ov] ∧
          Hid (wr.ownsRow (w.heap.size + 3) 171 2 ss m.shafts.length (shFlat m.shafts)) ∧ Hid (wr.ownsRow (w.heap.size + 3) 172 2 ov k cs) ∧ Hid (WvF (rdW w0) cs (m.wvs.take k))) (fun iv _ => m.wvs.length - (intOf iv).toNat)
      case atStart => exact ⟨0, .slice none 0 0, [], by omega, rfl, he, hM, hT, hO, Hown, World.ownsRow_nil _ _ _ _, trivial⟩
      case round =>
        clear he hM hT hO Hown
        obtain ⟨k, ov, cs, hk, rfl, he, hM, hT, hO, hsh, hown, hcs⟩ := hrel
        have hOlt := hO.lt
        by_cases hlt : k < m.wvs.length
        · obtain ⟨b, o, rfl, A3, c3, hc3, p1, p2, -⟩ := H7.out.ext (H0.out.trans he) k hlt
          obtain ⟨b', o', e', A3', c3', hc3', -, p2', p3'⟩ := H7.out k hlt
          simp only [Option.some.injEq, Addr.mk.injEq, and_true] at e'
          obtain ⟨rfl, rfl⟩ := e'
          have hA : A3' = A3 ∧ c3' = c3 := by
            have h1 := (H0.out.trans he).cell p2'
            rw [p2] at h1
            simp only [Option.some.injEq, Value.slice.injEq] at h1
            exact ⟨h1.1.symm, h1.2.2.symm⟩
          obtain ⟨rfl, rfl⟩ := hA
          rw [show m.wvs[k]?.getD default = m.wv k from rfl] at p1 p2 p3' hc3
          have htk : Hid (m.wvs.take (k + 1) = m.wvs.take k ++ [m.wv k]) := by
            unfold Hid; rw [List.take_succ_eq_append_getElem hlt]
            have : m.wv k = m.wvs[k] := by unfold PM.wv; rw [List.getElem?_eq_getElem hlt]; rfl
            rw [this]
          have Hp5 := Lib.hid p3'
          have Hc3 := Lib.hid hc3
          clear p2' p3' hc3' hc3
          generalize m.wv k = x0 at *
          obtain ⟨AO, cO, rfl⟩ := ownsRow_slice hown.out
          obtain ⟨xu, hxu⟩ : ∃ z, x0.shaft = z := ⟨_, rfl⟩
          obtain ⟨xl, hxl⟩ : ∃ z, x0.hours.length = z := ⟨_, rfl⟩
          rw [hxu] at p1
          rw [hxl] at p2
          have Hxu := Lib.hid hxu; have Hxl := Lib.hid hxl
          clear hxu hxl
          have hb5 := Blk.new wr 86 #[.int .i64 xu, .slice A3' xl c3']
          have hX := Ext.alloc wr (.cells #[.int .i64 xu, .slice A3' xl c3'] 86)
          have hOX := hO.ext hX
          obtain ⟨q0, q1⟩ := hb5.c2
          have r2 := hOX.c2.2
          have hge : Hid (∀ j, (Value.slice AO k cO).ownBlock = some j → w.heap.size + 3 ≤ j) := fun j hj => (ownsRow_own hown.out j hj).1
          have hrow2 : Hid (((wr.alloc (.cells #[.int .i64 xu, .slice A3' xl c3'] 86)).alloc (.cells #[.int .i64 xu, .slice A3' xl c3'] 172)).ownsRow (w.heap.size + 3) 172 2 (.slice AO k cO) k cs) := (hown.out.alloc _).alloc _
          have hsh2 : Hid (((wr.alloc (.cells #[.int .i64 xu, .slice A3' xl c3'] 86)).alloc (.cells #[.int .i64 xu, .slice A3' xl c3'] 172)).ownsRow (w.heap.size + 3) 171 2 ss m.shafts.length (shFlat m.shafts)) := (hsh.out.alloc _).alloc _
          have hsrc : Hid (Src ((wr.alloc (.cells #[.int .i64 xu, .slice A3' xl c3'] 86)).alloc (.cells #[.int .i64 xu, .slice A3' xl c3'] 172)) (some ⟨wr.heap.size + 1, 0, none⟩) [.int .i64 xu, .slice A3' xl c3']) := by
            have := Src.listP (wr.alloc (.cells #[.int .i64 xu, .slice A3' xl c3'] 86)) [.int .i64 xu, .slice A3' xl c3'] 172
            rw [World.size_alloc] at this
            exact this
          have hOXX := hOX.alloc (.cells #[.int .i64 xu, .slice A3' xl c3'] 172)
          have hONe := Lib.hid (ownsRow_ne_blk hrow2.out hOXX (by decide))
          go_wp2_with (at_builtin; refine wpList_app rfl _ _ 60 rfl (w.heap.size + 3) 172 ti2 _ 2 32 Tryz.underlying60 hi2 hy0 hy1 hy2 rfl (by decide) _ _ _ rfl hrow2.out (some ⟨wr.heap.size + 1, 0, none⟩) 1 1 [.int .i64 xu, .slice A3' xl c3'] rfl rfl hsrc.out ?c2 ?c3 ?c4 ?c5 ?_; (case c2 => (intro u hu; simp only [List.mem_cons, List.not_mem_nil, or_false] at hu; rcases hu with rfl | rfl <;> rfl)); (case c3 => (unfold maxLen; omega)); (case c4 => omega); (case c5 => (simp; omega)); intro v' w' hown' hg hblk; obtain ⟨AV, cV, rfl⟩ := ownsRow_slice hown'; have hOw := hOXX.grown hg hONe.out; have rW := hOw.c2.2; have fW := hOw.frozen 1)
          go_roundw
          case rel =>
            have hXX := hX.trans (Ext.alloc (wr.alloc (.cells #[.int .i64 xu, .slice A3' xl c3'] 86)) (.cells #[.int .i64 xu, .slice A3' xl c3'] 172))
            have hMw := (hM.ext hXX).grown hg (ownsRow_ne_blk hrow2.out (hM.ext hXX) (by decide))
            have hTw := (hT.ext hXX).grown hg (ownsRow_ne_blk hrow2.out (hT.ext hXX) (by decide))
            have hsz := (he.trans hXX).size
            have hew : Ext w w' := Below.grown (he.trans hXX) hg hsz (fun j hj => by have := hge.out j hj; omega)
            have hshw := ownsRow_grownT hsh2.out (by decide) hg hrow2.out
            have hap : Apart (w.heap.size + 2) w' (w'.setCell ⟨w.heap.size + 2, 1, none⟩ (.slice AV (k + 1) cV)) := (Apart.refl (w.heap.size + 2) w').set_ 1 _
            refine ⟨k + 1, _, cs ++ [.int .i64 xu, .slice A3' xl c3'], by omega, by go_num, Below.setCell hew (by show _ ≤ w.heap.size + 2; omega) _, hMw.far (by show _ ≠ w.heap.size + 2; omega) _, hTw.far (by show _ ≠ w.heap.size + 2; omega) _, by simpa using hOw.set_ 1 (.slice AV (k + 1) cV), ?_, ?_, ?_⟩
            · exact ownsRow_apart hshw (fun e => ownsRow_ne_blk hshw hOw (by decide) e.symm) hap
            · exact ownsRow_apart hown' (fun e => ownsRow_ne_blk hown' hOw (by decide) e.symm) hap
            · unfold Hid
              rw [htk.out]
              exact hcs.out.append ⟨by rw [Hxu.out], ⟨A3', c3', by rw [Hxl.out], Hc3.out.1, Hc3.out.2, Hp5.out⟩, trivial⟩
          case measure => simp [intOf]; omega
        · obtain rfl : k = m.wvs.length := by omega
          have hcs2 := hcs.out
          rw [List.take_length] at hcs2
          have Hcs := Lib.hid hcs2
          obtain ⟨q0, q1⟩ := hO.c2
          obtain ⟨y0, y1⟩ := hT.c2
          have f0 := hT.frozen 0
          have f1 := hT.frozen 1
          obtain ⟨AS, cS, rfl⟩ := ownsRow_slice hsh.out
          obtain ⟨AO, cO, rfl⟩ := ownsRow_slice hown.out
          clear hcs hcs2
          go_wp2_with fail
          have hap : Apart (w.heap.size + 1) wr ((wr.setCell ⟨w.heap.size + 1, 0, none⟩ (.slice AS m.shafts.length cS)).setCell ⟨w.heap.size + 1, 1, none⟩ (.slice AO m.wvs.length cO)) := ((Apart.refl _ wr).set_ 0 _).set_ 1 _
          have hR9 : Blk ((wr.setCell ⟨w.heap.size + 1, 0, none⟩ (.slice AS m.shafts.length cS)).setCell ⟨w.heap.size + 1, 1, none⟩ (.slice AO m.wvs.length cO)) (w.heap.size + 1) 62 #[.slice AS m.shafts.length cS, .slice AO m.wvs.length cO] := by simpa using (hT.set_ 0 (.slice AS m.shafts.length cS)).set_ 1 (.slice AO m.wvs.length cO)
          obtain ⟨z0, z1⟩ := hR9.c2
          have hE9 := Below.setCell (Below.setCell he (p := ⟨w.heap.size + 1, 0, none⟩) (by show _ ≤ w.heap.size + 1; omega) (.slice AS m.shafts.length cS)) (p := ⟨w.heap.size + 1, 1, none⟩) (by show _ ≤ w.heap.size + 1; omega) (.slice AO m.wvs.length cO)
          have h1 := ownsRow_mono (base' := w.heap.size) (ownsRow_apart hsh.out (fun e => ownsRow_ne_blk hsh.out hT (by decide) e.symm) hap) (by omega)
          have h2 := ownsRow_mono (base' := w.heap.size) (ownsRow_apart hown.out (fun e => ownsRow_ne_blk hown.out hT (by decide) e.symm) hap) (by omega)
          refine bodyPost_ret (v := .agg #[.slice AS m.shafts.length cS, .slice AO m.wvs.length cO]) ?_ rfl ⟨_, rfl, ⟨_, _, cs, rfl, h1, h2, Hcs.out⟩, hE9⟩
          simp [results, Tryz.results24, go_sem, z0, z1]
end Go.Proofs.Pet

namespace Go.Proofs.Pow
/-- does weaver i use power in the hour t, once k does in h, too -/
def hF (m : PM) (k h i t : Nat) : Bool := (m.wv i).hours.contains (t : Int) || (decide (i = k) && decide (t = h))
def hrsW (m : PM) (k h i t : Nat) : List Int := ((List.range t).filter (hF m k h i)).map fun x : Nat => (x : Int)
def newWv (m : PM) (k h i : Nat) : Wv := { shaft := (m.wv i).shaft, hours := hrsW m k h i 24 }
theorem hrsW_succ (m : PM) (k h i t : Nat) : hrsW m k h i (t + 1) = hrsW m k h i t ++ if hF m k h i t = true then [(t : Int)] else [] := by
  unfold hrsW
  rw [List.range_succ, List.filter_append, List.map_append]
  congr 1
  rw [List.filter_cons]
  split <;> rfl
theorem hrsW_len (m : PM) (k h i t : Nat) : (hrsW m k h i t).length ≤ t := by
  unfold hrsW
  rw [List.length_map]
  exact Nat.le_trans (List.length_filter_le _ _) (by rw [List.length_range]; exact Nat.le_refl _)
theorem hours_bits {l : List Int} (hs : l.Pairwise (· < ·)) (hb : ∀ x, x ∈ l → 0 ≤ x ∧ x ≤ 23) : ((List.range 24).filter fun t : Nat => l.contains (t : Int)).map (fun t : Nat => (t : Int)) = l := by
  have e : (l.map Int.toNat).map (fun t : Nat => (t : Int)) = l := by
    rw [List.map_map]
    conv => rhs; rw [← List.map_id l]
    exact List.map_congr_left fun x hx => by have := hb x hx; simp; omega
  have e2 : ((List.range 24).filter fun t : Nat => l.contains (t : Int)) = l.map Int.toNat := by
    refine sorted_ext ((List.pairwise_lt_range).filter _) ?_ fun x => ?_
    · rw [List.pairwise_map]
      refine List.Pairwise.imp_of_mem (fun {a b} ha hb' hab => ?_) hs
      have := hb a ha; have := hb b hb'
      omega
    · rw [List.mem_filter, List.mem_range, List.contains_iff_mem, List.mem_map]
      constructor
      · rintro ⟨_, h2⟩
        exact ⟨_, h2, by simp⟩
      · rintro ⟨a, ha, rfl⟩
        have := hb a ha
        exact ⟨by omega, by rw [Int.toNat_of_nonneg this.1]; exact ha⟩
  rw [e2]
  exact e
theorem newW_use {m : PM} (hm : POk m) {k h : Nat} (hk : k < m.wvs.length) (hh : h < 24) (hn : (m.wv k).hours.contains (h : Int) = false) : (List.range m.wvs.length).map (newWv m k h) = (useP m k (h : Int)).wvs := by
  have hok := use_ok hm hk hh hn
  have hl := useP_len m k (h : Int)
  show _ = (List.range m.wvs.length).map _
  refine List.map_congr_left fun i hi => ?_
  have hi' := List.mem_range.1 hi
  rw [← useP_wv m k (h : Int) hi']
  have h1 := hours_bits (hok.rise i (by omega)) (hok.hour i (by omega))
  have h2 : (fun t : Nat => ((useP m k (h : Int)).wv i).hours.contains (t : Int)) = hF m k h i := by
    funext t
    rw [useP_wv m k (h : Int) hi']
    unfold hF
    by_cases e : i = k
    · rw [if_pos e]
      subst e
      show (sortL _).contains _ = _
      rw [Bool.eq_iff_iff, Bool.or_eq_true, List.contains_iff_mem, List.contains_iff_mem, (sortL_perm _).mem_iff, List.mem_append, List.mem_singleton]
      simp [Int.natCast_inj]
    · rw [if_neg e]; simp [e]
  rw [h2] at h1
  unfold newWv hrsW
  rw [h1]
  have h3 : ((useP m k (h : Int)).wv i).shaft = (m.wv i).shaft := by rw [useP_wv m k h hi']; split <;> rfl
  rw [← h3]
end Go.Proofs.Pow
namespace Go.Proofs.Pet
open Go Go.RowKit Go.Maps Go.Shelf
open Go.Proofs.Pow (PM Sh Wv POk Up)

def useE7 (m : PM) (k : Nat) (h : Int) : Int := if inB h 0 23 = false then 3 else if (m.wv k).hours.contains h = true then 5 else 0
theorem useE_use7 {m : PM} (hm : POk m) {k : Nat} (hk : k < m.wvs.length) (h : Int) : useE m (k : Int) h = useE7 m k h := by
  have : knownE m (k : Int) = 0 := by
    unfold knownE
    rw [if_neg (by rw [(checkP_iff m).2 hm]; decide), if_neg (by simp [inB_iff.2 (show (0 : Int) ≤ (k : Int) ∧ (k : Int) ≤ m.wvs.length - 1 by omega)])]
  unfold useE useE7
  rw [this, if_neg (by decide)]
  rfl
def OwnWvsT (w : World) (base : Nat) (v : Value) (ys : List Wv) : Prop := ∃ cs, w.ownsRow base 172 2 v ys.length cs ∧ WvF (ownW w base) cs ys
theorem OwnWvsT.apart {w w' : World} {base b : Nat} {v : Value} {ys : List Wv} (h : OwnWvsT w base v ys) (hb : b < base) (ha : Apart b w w') : OwnWvsT w' base v ys := by
  obtain ⟨cs, h1, h2⟩ := h
  exact ⟨cs, ownsRow_apart h1 (fun e => by have := (ownsRow_own h1 b e).1; omega) ha, h2.map fun _ _ g => OwnI.apartB g hb ha⟩
theorem OwnWvsT.at_ {w : World} {base : Nat} {v : Value} {ys : List Wv} (h : OwnWvsT w base v ys) : ∃ A c, v = .slice A ys.length c ∧ ys.length ≤ c ∧ c ≤ maxLen ∧ WvsAt w A ys := by
  obtain ⟨cs, h1, h2⟩ := h
  exact wvRow_at h1 (h2.map fun _ _ g => OwnI.sl g)
/-- what the reference's Use gives: the same shafts, weavers of the call's own -/
def UsedV (w' : World) (base : Nat) (s1 u : Value) (m : PM) (k : Nat) (h r : Int) : Prop := (r ≠ 0 → u = .agg #[.slice none 0 0, .slice none 0 0]) ∧ (r = 0 → ∃ u2, u = .agg #[s1, u2] ∧ OwnWvsT w' base u2 (Pow.useP m k h).wvs)
set_option maxRecDepth 20000 in
set_option maxHeartbeats 16000000 in
theorem use7_any (s1 s2 : Value) (m : PM) (hm : POk m) (k : Nat) (hk : k < m.wvs.length) (h : Int) (r : Int) (hr : useE7 m k h = r) (w : World) (hv : PMVal w (.agg #[s1, s2]) m) :
    Calls Tryz.prog 30 #[.agg #[s1, s2], .int .i64 (k : Int), .int .i64 h] w fun e w' => ∃ u, e = .returned (.tuple #[u, .int .i64 r]) ∧ UsedV w' w.heap.size s1 u m k h r ∧ Ext w w' := by
  obtain ⟨ti, hi, hz0, hz1, hz2⟩ := info_parts info_int
  obtain ⟨ti2, hi2, hy0, hy1, hy2⟩ := info_parts info_weaver7
  obtain ⟨A1, c1, A2, c2, e, -, -, -, -, -, h7⟩ := hv
  simp only [Value.agg.injEq, Array.mk.injEq, List.cons.injEq, and_true] at e
  obtain ⟨rfl, rfl⟩ := e
  have H7 := Lib.hid h7
  have hE1 : Ext w ((w.alloc (.cells #[.slice A1 m.shafts.length c1, .slice A2 m.wvs.length c2] 62)).alloc (.cells #[.slice none 0 0, .slice none 0 0] 62)) := (Ext.alloc _ _).trans (Ext.alloc _ _)
  have hM1 := (Blk.new w 62 #[.slice A1 m.shafts.length c1, .slice A2 m.wvs.length c2]).alloc (.cells #[.slice none 0 0, .slice none 0 0] 62)
  have hT1 := Blk.new (w.alloc (.cells #[.slice A1 m.shafts.length c1, .slice A2 m.wvs.length c2] 62)) 62 #[.slice none 0 0, .slice none 0 0]
  rw [World.size_alloc] at hT1
  obtain ⟨q, hq⟩ : ∃ q, inB h 0 23 = q := ⟨_, rfl⟩
  have Ho := Lib.hid (fun W => off_anyP h 0 23 q hq W)
  have Hq := Lib.hid hq; have Hr := Lib.hid hr; have Hm := Lib.hid hm
  have hfew := hm.few
  clear h7 hq hr hm
  go_enter Tryz.func30, Tryz.ntmps30
  go_wp2_with fail
  generalize hw1 : (w.alloc _).alloc _ = w1 at *
  have hsz1 : w1.heap.size = w.heap.size + 2 := by rw [← hw1, World.size_alloc, World.size_alloc]
  have Hsz1 := Lib.hid hsz1
  clear hw1 hsz1
  refine (Ho.out _).mono ?_
  rintro e w5 ⟨rfl, rfl⟩
  clear Ho
  cases q with
  | false =>
    obtain rfl : r = 3 := by rw [← Hr.out]; unfold useE7; simp [Hq.out]
    obtain ⟨y0, y1⟩ := hT1.c2
    have f0 := hT1.frozen 0
    have f1 := hT1.frozen 1
    go_wp2_with fail
    have hR9 : Blk ((w1.setCell ⟨w.heap.size + 1, 0, none⟩ (.slice none 0 0)).setCell ⟨w.heap.size + 1, 1, none⟩ (.slice none 0 0)) (w.heap.size + 1) 62 #[.slice none 0 0, .slice none 0 0] := by simpa using (hT1.set_ 0 (.slice none 0 0)).set_ 1 (.slice none 0 0)
    obtain ⟨z0, z1⟩ := hR9.c2
    have hE9 := Below.setCell (Below.setCell hE1 (p := ⟨w.heap.size + 1, 0, none⟩) (by show _ ≤ w.heap.size + 1; omega) (.slice none 0 0)) (p := ⟨w.heap.size + 1, 1, none⟩) (by show _ ≤ w.heap.size + 1; omega) (.slice none 0 0)
    refine bodyPost_ret (v := .tuple #[.agg #[.slice none 0 0, .slice none 0 0], .int .i64 3]) ?_ rfl ⟨_, rfl, ⟨fun _ => rfl, fun e => absurd e (by decide)⟩, hE9⟩
    simp [results, Tryz.results30, go_sem, z0, z1]
  | true =>
    have hh := inB_iff.1 Hq.out
    obtain ⟨hN, rfl⟩ : ∃ hN : Nat, h = hN := ⟨h.toNat, by omega⟩
    obtain ⟨k0, k1⟩ := hM1.c2
    obtain ⟨b2, o2, rfl, A3, c3, hc3, j1, j2, j3⟩ := H7.out.ext hE1 k hk
    rw [show m.wvs[k]?.getD default = m.wv k from rfl] at hc3 j1 j2 j3
    obtain ⟨q2, hq2⟩ : ∃ q2, (m.wv k).hours.contains (hN : Int) = q2 := ⟨_, rfl⟩
    have Hs := Lib.hid (has_anyP (hN : Int) A3 c3 (m.wv k).hours.length (m.wv k).hours rfl q2 hq2 w1 (Nat.le_trans hc3.1 hc3.2) j3)
    have Hq2 := Lib.hid hq2
    generalize (m.wv k).hours.length = d at *
    clear hq2 j1 j3 hc3
    go_wp2_with fail
    refine Hs.out.mono ?_
    rintro e w5 ⟨rfl, rfl⟩
    clear Hs
    cases q2 with
    | true =>
      obtain rfl : r = 5 := by rw [← Hr.out]; unfold useE7; simp [Hq.out]; exact List.contains_iff_mem.1 Hq2.out
      obtain ⟨y0, y1⟩ := hT1.c2
      have f0 := hT1.frozen 0
      have f1 := hT1.frozen 1
      go_wp2_with fail
      have hR9 : Blk ((w1.setCell ⟨w.heap.size + 1, 0, none⟩ (.slice none 0 0)).setCell ⟨w.heap.size + 1, 1, none⟩ (.slice none 0 0)) (w.heap.size + 1) 62 #[.slice none 0 0, .slice none 0 0] := by simpa using (hT1.set_ 0 (.slice none 0 0)).set_ 1 (.slice none 0 0)
      obtain ⟨z0, z1⟩ := hR9.c2
      have hE9 := Below.setCell (Below.setCell hE1 (p := ⟨w.heap.size + 1, 0, none⟩) (by show _ ≤ w.heap.size + 1; omega) (.slice none 0 0)) (p := ⟨w.heap.size + 1, 1, none⟩) (by show _ ≤ w.heap.size + 1; omega) (.slice none 0 0)
      refine bodyPost_ret (v := .tuple #[.agg #[.slice none 0 0, .slice none 0 0], .int .i64 5]) ?_ rfl ⟨_, rfl, ⟨fun _ => rfl, fun e => absurd e (by decide)⟩, hE9⟩
      simp [results, Tryz.results30, go_sem, z0, z1]
    | false =>
      obtain rfl : r = 0 := by rw [← Hr.out]; unfold useE7; rw [Hq.out, Hq2.out]; rfl
      have hN24 : hN < 24 := by omega
      have Hnew := Lib.hid (Pow.newW_use Hm.out hk hN24 Hq2.out)
      go_wp2_with fail
      have hE2 := hE1.trans (Ext.alloc w1 (.cells #[.slice A1 m.shafts.length c1, .slice none 0 0] 62))
      have hM2 := hM1.alloc (.cells #[.slice A1 m.shafts.length c1, .slice none 0 0] 62)
      have hT2 := hT1.alloc (.cells #[.slice A1 m.shafts.length c1, .slice none 0 0] 62)
      have hO2 := Blk.new w1 62 #[.slice A1 m.shafts.length c1, .slice none 0 0]
      rw [Hsz1.out] at hO2 ⊢
      clear k0 k1 j2 hE1 hM1 hT1 Hq Hq2 Hr
      generalize w1.alloc _ = W at *
      have hO2' : Blk W (w.heap.size + 2) 62 #[.slice A1 m.shafts.length c1, .slice none 0 0] := hO2
      clear hO2
      go_loopw [9] (fun iv wr => ∃ (i : Nat) (ov : Value) (cs : List Value), i ≤ m.wvs.length ∧ iv = .int .i64 i ∧ Ext w wr ∧ Blk wr w.heap.size 62 #[.slice A1 m.shafts.length c1, .slice (some ⟨b2, o2, none⟩) m.wvs.length c2] ∧
          Blk wr (w.heap.size + 1) 62 #[.slice none 0 0, .slice none 0 0] ∧ Blk wr (w.heap.size + 2) 62 #[.slice A1 m.shafts.length c1, ov] ∧
          Hid (wr.ownsRow (w.heap.size + 3) 172 2 ov i cs) ∧ Hid (WvF (ownW wr (w.heap.size + 3)) cs ((List.range i).map (Pow.newWv m k hN)))) (fun iv _ => m.wvs.length - (intOf iv).toNat)
      case atStart => exact ⟨0, .slice none 0 0, [], by omega, rfl, hE2, hM2, hT2, hO2', World.ownsRow_nil _ _ _ _, trivial⟩
      case round =>
        clear hE2 hM2 hT2 hO2'
        obtain ⟨i, ov, cs, hi', rfl, he, hM, hT, hO, hown, hcs⟩ := hrel
        obtain ⟨wo, rfl⟩ : ∃ z, z = wr := ⟨_, rfl⟩
        obtain ⟨k0, k1⟩ := hM.c2
        have hOlt := hO.lt
        by_cases hlt : i < m.wvs.length
        · obtain ⟨b, o, e', A4, c4, hc4, j1, j2, j3⟩ := H7.out.ext he i hlt
          simp only [Option.some.injEq, Addr.mk.injEq, and_true] at e'
          obtain ⟨rfl, rfl⟩ := e'
          rw [show m.wvs[i]?.getD default = m.wv i from rfl] at hc4 j1 j2 j3
          obtain ⟨sh, hsh⟩ : ∃ sh, (m.wv i).shaft = sh := ⟨_, rfl⟩
          rw [hsh] at j1
          have Hsh := Lib.hid hsh
          have J3 := Lib.hid j3
          have Hc4 := Lib.hid (Nat.le_trans hc4.1 hc4.2)
          obtain ⟨hl, hhl⟩ : ∃ hl, (m.wv i).hours.length = hl := ⟨_, rfl⟩
          rw [hhl] at j2
          have Hhl := Lib.hid hhl
          have hd1 : decide ((i : Int) < (m.wvs.length : Int)) = true := decide_eq_true (by omega)
          have hd2 : decide (i < m.wvs.length) = true := decide_eq_true hlt
          clear hsh hhl j3 hc4
          go_wp2_with fail
          have hB := Blk.new wo 172 #[.int .i64 sh, .slice none 0 0]
          have hX := Ext.alloc wo (.cells #[.int .i64 sh, .slice none 0 0] 172)
          have J2 := Lib.hid j2
          have HM := Lib.hid hM
          have HA4 := Lib.hid (fun W' (hW : Ext wo W') (t : Nat) (q : Bool) (hq : (m.wv i).hours.contains (t : Int) = q) => has_anyP (t : Int) A4 c4 hl (m.wv i).hours Hhl.out q hq W' (by rw [← Hhl.out]; exact Hc4.out) (J3.out.ext hW))
          clear k0 k1 j1 j2
          generalize hR : wo.alloc _ = R at *
          clear hR
          go_loopw [11] (fun tv wz => ∃ (t : Nat) (hvv : Value), t ≤ 24 ∧ tv = .int .i64 t ∧ Ext wo wz ∧ Blk wz wo.heap.size 172 #[.int .i64 sh, hvv] ∧ Hid (OwnI wz (wo.heap.size + 1) 3 hvv (Pow.hrsW m k hN i t))) (fun tv _ => 24 - (intOf tv).toNat)
          case atStart => exact ⟨0, .slice none 0 0, by omega, rfl, hX, hB, Lib.hid (OwnI.nil _ _ _)⟩
          case round =>
            clear hX hB
            obtain ⟨t, hvv, ht, rfl, hz, hB, hOI⟩ := hrel
            obtain ⟨k0, k1⟩ := (HM.out.ext hz).c2
            have j2 := hz.cell J2.out
            by_cases hlt2 : t < 24
            · obtain ⟨q, hq⟩ : ∃ q, (m.wv i).hours.contains (t : Int) = q := ⟨_, rfl⟩
              have Hs := Lib.hid (HA4.out wr hz t q hq)
              have Hq := Lib.hid hq
              clear hq
              go_wp2_with fail
              refine Hs.out.mono ?_
              rintro e w5 ⟨rfl, rfl⟩
              clear Hs
              cases q with
              | true =>
                have hbF : Pow.hF m k hN i t = true := by unfold Pow.hF; rw [Hq.out]; rfl
                have hsucc := Pow.hrsW_succ m k hN i t
                rw [hbF, if_pos rfl] at hsucc
                have hlen := Pow.hrsW_len m k hN i t
                generalize Pow.hrsW m k hN i t = xs at *
                have hXa := Ext.alloc wr (.cells #[.int .i64 (t : Int)] 3)
                have hsrc := Src.one wr (.int .i64 (t : Int)) 3
                have hOX := hOI.out.ext hXa
                obtain ⟨A5, c5, rfl⟩ := ownsRow_slice hOI.out
                have hBX := hB.ext hXa
                have hBne := Lib.hid (ownsRow_ne_blk hOX hBX (by decide))
                have r1 := hB.c2.2
                have Hsucc := Lib.hid hsucc
                have hzs := hz.size
                have hXs := hXa.size
                clear hsucc hbF
                go_wp2_with (at_builtin; refine wpList_app rfl _ _ 22 rfl (wo.heap.size + 1) 3 ti (.int .i64 0) 1 8 Tryz.underlying22 hi hz0 hz1 hz2 rfl (by decide) (.slice A5 xs.length c5) xs.length _ rfl hOX (some ⟨wr.heap.size, 0, none⟩) 1 1 [.int .i64 (t : Int)] rfl rfl hsrc ?c2 ?c3 ?c4 ?c5 ?_; (case c2 => (intro u hu; rw [List.mem_singleton] at hu; subst hu; rfl)); (case c3 => (unfold maxLen; omega)); (case c4 => omega); (case c5 => (have := hB.lt; omega)); intro v' w5 hown5 hg hblk; obtain ⟨AV, cV, rfl⟩ := ownsRow_slice hown5; have hOw := hBX.grown hg hBne.out; have rW := hOw.c2.2; have fW := hOw.frozen 1)
                go_roundw
                case rel =>
                  refine ⟨t + 1, _, by omega, by go_num, Below.setCell (Below.grown (hz.trans hXa) hg (hz.trans hXa).size (fun j hj => by have := (ownsRow_own hOX j hj).1; omega)) (by show _ ≤ wo.heap.size; omega) _, by simpa using hOw.set_ 1 (.slice AV (xs.length + 1) cV), ?_⟩
                  unfold Hid
                  rw [Hsucc.out]
                  have := ownsRow_apart hown5 (fun e => ownsRow_ne_blk hown5 hOw (by decide) e.symm) ((Apart.refl wo.heap.size w5).set_ 1 (.slice AV (xs.length + 1) cV))
                  unfold OwnI
                  rw [List.length_append, List.map_append]
                  exact this
                case measure => simp [intOf]; omega
              | false =>
                by_cases hik : i = k
                · have hb1 : ((i : Int) == (k : Int)) = true := by simp [hik]
                  by_cases hth : t = hN
                  · have hb2 : ((t : Int) == (hN : Int)) = true := by simp [hth]
                    have hbF : Pow.hF m k hN i t = true := by unfold Pow.hF; simp [hik, hth]
                    clear hik hth
                    have hsucc := Pow.hrsW_succ m k hN i t
                    rw [hbF, if_pos rfl] at hsucc
                    have hlen := Pow.hrsW_len m k hN i t
                    generalize Pow.hrsW m k hN i t = xs at *
                    have hXa := Ext.alloc wr (.cells #[.int .i64 (t : Int)] 3)
                    have hsrc := Src.one wr (.int .i64 (t : Int)) 3
                    have hOX := hOI.out.ext hXa
                    obtain ⟨A5, c5, rfl⟩ := ownsRow_slice hOI.out
                    have hBX := hB.ext hXa
                    have hBne := Lib.hid (ownsRow_ne_blk hOX hBX (by decide))
                    have r1 := hB.c2.2
                    have Hsucc := Lib.hid hsucc
                    have hzs := hz.size
                    have hXs := hXa.size
                    clear hsucc hbF
                    go_wp2_with (at_builtin; refine wpList_app rfl _ _ 22 rfl (wo.heap.size + 1) 3 ti (.int .i64 0) 1 8 Tryz.underlying22 hi hz0 hz1 hz2 rfl (by decide) (.slice A5 xs.length c5) xs.length _ rfl hOX (some ⟨wr.heap.size, 0, none⟩) 1 1 [.int .i64 (t : Int)] rfl rfl hsrc ?c2 ?c3 ?c4 ?c5 ?_; (case c2 => (intro u hu; rw [List.mem_singleton] at hu; subst hu; rfl)); (case c3 => (unfold maxLen; omega)); (case c4 => omega); (case c5 => (have := hB.lt; omega)); intro v' w5 hown5 hg hblk; obtain ⟨AV, cV, rfl⟩ := ownsRow_slice hown5; have hOw := hBX.grown hg hBne.out; have rW := hOw.c2.2; have fW := hOw.frozen 1)
                    go_roundw
                    case rel =>
                      refine ⟨t + 1, _, by omega, by go_num, Below.setCell (Below.grown (hz.trans hXa) hg (hz.trans hXa).size (fun j hj => by have := (ownsRow_own hOX j hj).1; omega)) (by show _ ≤ wo.heap.size; omega) _, by simpa using hOw.set_ 1 (.slice AV (xs.length + 1) cV), ?_⟩
                      unfold Hid
                      rw [Hsucc.out]
                      have := ownsRow_apart hown5 (fun e => ownsRow_ne_blk hown5 hOw (by decide) e.symm) ((Apart.refl wo.heap.size w5).set_ 1 (.slice AV (xs.length + 1) cV))
                      unfold OwnI
                      rw [List.length_append, List.map_append]
                      exact this
                    case measure => simp [intOf]; omega
                  · have hb2 : ((t : Int) == (hN : Int)) = false := by simp; omega
                    have hbF : Pow.hF m k hN i t = false := by unfold Pow.hF; rw [Hq.out]; simp [hth]
                    clear hik hth
                    have hsucc := Pow.hrsW_succ m k hN i t
                    rw [hbF] at hsucc
                    have Hsucc := Lib.hid hsucc
                    clear hsucc hbF
                    go_wp2_with fail
                    go_roundw
                    case rel => exact ⟨t + 1, hvv, by omega, by go_num, hz, hB, Lib.hid (by rw [Hsucc.out]; simpa using hOI.out)⟩
                    case measure => simp [intOf]; omega
                · have hb1 : ((i : Int) == (k : Int)) = false := by simp; omega
                  have hbF : Pow.hF m k hN i t = false := by unfold Pow.hF; rw [Hq.out]; simp [hik]
                  clear hik
                  have hsucc := Pow.hrsW_succ m k hN i t
                  rw [hbF] at hsucc
                  have Hsucc := Lib.hid hsucc
                  clear hsucc hbF
                  go_wp2_with fail
                  go_roundw
                  case rel => exact ⟨t + 1, hvv, by omega, by go_num, hz, hB, Lib.hid (by rw [Hsucc.out]; simpa using hOI.out)⟩
                  case measure => simp [intOf]; omega
            · obtain rfl : t = 24 := by omega
              obtain ⟨q0, q1⟩ := hB.c2
              have r2 := (hO.ext hz).c2.2
              obtain ⟨AO, cO, rfl⟩ := ownsRow_slice hown.out
              obtain ⟨A5, c5, rfl⟩ := ownsRow_slice hOI.out
              generalize hxs : Pow.hrsW m k hN i 24 = xs at *
              have hnw : Hid (Pow.newWv m k hN i = ({ shaft := sh, hours := xs } : Wv)) := by unfold Hid Pow.newWv; rw [Hsh.out, hxs]
              have hX2 := Ext.alloc wr (.cells #[.int .i64 sh, .slice A5 xs.length c5] 172)
              have hrow2 := Lib.hid (ownsRow_ext2 hown.out (hz.trans hX2))
              have hsrc := Lib.hid (Src.listP wr [.int .i64 sh, .slice A5 xs.length c5] 172)
              have hOX := hO.ext (hz.trans hX2)
              have hONe := Lib.hid (ownsRow_ne_blk hrow2.out hOX (by decide))
              have hge : Hid (∀ j, (Value.slice AO i cO).ownBlock = some j → w.heap.size + 3 ≤ j) := fun j hj => (ownsRow_own hown.out j hj).1
              have hews := he.trans (hz.trans hX2)
              have hzs := (hz.trans hX2).size
              clear hxs
              go_wp2_with (at_builtin; refine wpList_app rfl _ _ 60 rfl (w.heap.size + 3) 172 ti2 _ 2 32 Tryz.underlying60 hi2 hy0 hy1 hy2 rfl (by decide) _ _ _ rfl hrow2.out (some ⟨wr.heap.size, 0, none⟩) 1 1 [.int .i64 sh, .slice A5 xs.length c5] rfl rfl hsrc.out ?c2 ?c3 ?c4 ?c5 ?_; (case c2 => (intro u hu; simp only [List.mem_cons, List.not_mem_nil, or_false] at hu; rcases hu with rfl | rfl <;> rfl)); (case c3 => (unfold maxLen; omega)); (case c4 => omega); (case c5 => omega); intro v' w5 hown' hg hblk; obtain ⟨AV, cV, rfl⟩ := ownsRow_slice hown'; have hOw := hOX.grown hg hONe.out; have rW := hOw.c2.2; have fW := hOw.frozen 1)
              go_roundw
              case rel =>
                have hMw := (HM.out.ext (hz.trans hX2)).grown hg (ownsRow_ne_blk hrow2.out (HM.out.ext (hz.trans hX2)) (by decide))
                have hTw := (hT.ext (hz.trans hX2)).grown hg (ownsRow_ne_blk hrow2.out (hT.ext (hz.trans hX2)) (by decide))
                have hew : Ext w w5 := Below.grown hews hg hews.size (fun j hj => by have := hge.out j hj; omega)
                have hap : Apart (w.heap.size + 2) w5 (w5.setCell ⟨w.heap.size + 2, 1, none⟩ (.slice AV (i + 1) cV)) := (Apart.refl (w.heap.size + 2) w5).set_ 1 _
                have hgo : ∀ {v : Value} {l : List Int}, OwnI wr (w.heap.size + 3) 3 v l → OwnI (w5.setCell ⟨w.heap.size + 2, 1, none⟩ (.slice AV (i + 1) cV)) (w.heap.size + 3) 3 v l := fun g => ((g.ext hX2).grownT (by decide) hg hrow2.out).apartB (by omega) hap
                refine ⟨i + 1, _, cs ++ [.int .i64 sh, .slice A5 xs.length c5], by omega, by go_num, Below.setCell hew (by show _ ≤ w.heap.size + 2; omega) _, hMw.far (by show _ ≠ w.heap.size + 2; omega) _, hTw.far (by show _ ≠ w.heap.size + 2; omega) _, by simpa using hOw.set_ 1 (.slice AV (i + 1) cV), ?_, ?_⟩
                · exact ownsRow_apart hown' (fun e => ownsRow_ne_blk hown' hOw (by decide) e.symm) hap
                · unfold Hid
                  rw [List.range_succ, List.map_append, List.map_cons, List.map_nil, hnw.out]
                  exact (hcs.out.map fun _ _ g => hgo (OwnI.ext g hz)).append ⟨rfl, hgo (OwnI.mono hOI.out (by omega)), trivial⟩
              case measure => simp [intOf]; omega
        · obtain rfl : i = m.wvs.length := by omega
          obtain ⟨q0, q1⟩ := hO.c2
          obtain ⟨y0, y1⟩ := hT.c2
          have f0 := hT.frozen 0
          have f1 := hT.frozen 1
          obtain ⟨AO, cO, rfl⟩ := ownsRow_slice hown.out
          clear H7 hlt
          go_wp2_with fail
          have hap : Apart (w.heap.size + 1) wo ((wo.setCell ⟨w.heap.size + 1, 0, none⟩ (.slice A1 m.shafts.length c1)).setCell ⟨w.heap.size + 1, 1, none⟩ (.slice AO m.wvs.length cO)) := ((Apart.refl _ wo).set_ 0 _).set_ 1 _
          have hR9 : Blk ((wo.setCell ⟨w.heap.size + 1, 0, none⟩ (.slice A1 m.shafts.length c1)).setCell ⟨w.heap.size + 1, 1, none⟩ (.slice AO m.wvs.length cO)) (w.heap.size + 1) 62 #[.slice A1 m.shafts.length c1, .slice AO m.wvs.length cO] := by simpa using (hT.set_ 0 (.slice A1 m.shafts.length c1)).set_ 1 (.slice AO m.wvs.length cO)
          obtain ⟨z0, z1⟩ := hR9.c2
          have hE9 := Below.setCell (Below.setCell he (p := ⟨w.heap.size + 1, 0, none⟩) (by show _ ≤ w.heap.size + 1; omega) (.slice A1 m.shafts.length c1)) (p := ⟨w.heap.size + 1, 1, none⟩) (by show _ ≤ w.heap.size + 1; omega) (.slice AO m.wvs.length cO)
          have h2 := ownsRow_mono (base' := w.heap.size) (ownsRow_apart hown.out (fun e => ownsRow_ne_blk hown.out hT (by decide) e.symm) hap) (by omega)
          have h3 := hcs.out.map (S := ownW ((wo.setCell ⟨w.heap.size + 1, 0, none⟩ (.slice A1 m.shafts.length c1)).setCell ⟨w.heap.size + 1, 1, none⟩ (.slice AO m.wvs.length cO)) w.heap.size) fun _ _ g => OwnI.mono (OwnI.apartB g (by omega) hap) (by omega)
          rw [Hnew.out] at h3
          have hl := Pow.useP_len m k (hN : Int)
          refine bodyPost_ret (v := .tuple #[.agg #[.slice A1 m.shafts.length c1, .slice AO m.wvs.length cO], .int .i64 0]) ?_ rfl ⟨_, rfl, ⟨fun e => absurd rfl e, fun _ => ⟨_, rfl, cs, by rw [hl]; exact h2, h3⟩⟩, hE9⟩
          simp [results, Tryz.results30, go_sem, z0, z1]
end Go.Proofs.Pet

namespace Go.Proofs.Pet
open Go Go.RowKit Go.Maps Go.Shelf
open Go.Proofs.Pow (PM Sh Wv POk Up)

def greatP (m : PM) : Bool := (m.wvs.any fun o => decide (30 < o.hours.length)) || decide (14 < m.shafts.length) || decide (10 < m.wvs.length)
set_option maxHeartbeats 1000000 in
theorem great7_any (v : Value) (m : PM) (q : Bool) (hq : greatP m = q) (w : World) (hv : PMVal w v m) :
    Calls Tryz.prog 21 #[v] w fun e w' => e = .returned (.bool q) ∧ Ext w w' := by
  obtain ⟨A1, c1, A2, c2, rfl, h2, h3, h4, h5, h6, h7⟩ := hv
  unfold maxLen at h3 h5
  have Hq := Lib.hid hq; clear hq
  have hE1 := Ext.alloc w (.cells #[.slice A1 m.shafts.length c1, .slice A2 m.wvs.length c2] 56)
  have hM := Blk.new w 56 #[.slice A1 m.shafts.length c1, .slice A2 m.wvs.length c2]
  have H7 := Lib.hid h7
  obtain ⟨k0, k1⟩ := hM.c2
  clear h6 h7
  go_enter Tryz.func21, Tryz.ntmps21
  go_wp2_with fail
  clear k0 k1
  go_loopw [8] (fun i wr => ∃ k : Nat, k ≤ m.wvs.length ∧ i = .int .i64 k ∧ Hid (∀ j, j < k → ¬ 30 < (m.wv j).hours.length) ∧ Ext w wr ∧ Blk wr w.heap.size 56 #[.slice A1 m.shafts.length c1, .slice A2 m.wvs.length c2]) (fun i _ => m.wvs.length - (intOf i).toNat)
  case atStart => exact ⟨0, by omega, rfl, fun j hj => absurd hj (by omega), hE1, hM⟩
  case round =>
    clear hE1 hM
    obtain ⟨k, hk, rfl, hm, he, hM'⟩ := hrel
    by_cases hlt : k < m.wvs.length
    · obtain ⟨b, o, rfl, A, ca, hca, h1, h2', -⟩ := H7.out.ext he k hlt
      rw [show m.wvs[k]?.getD default = m.wv k from rfl] at h1 h2' hca
      have hmem := Lib.hid (wv_mem hlt)
      obtain ⟨hl, hhl⟩ : ∃ hl, (m.wv k).hours.length = hl := ⟨_, rfl⟩
      rw [hhl] at h2' hca
      have Hhl := Lib.hid hhl
      clear hhl
      unfold maxLen at hca
      generalize (m.wv k).shaft = sh at *
      by_cases h8 : 30 < hl
      · go_wp2
        go_ret
        refine ⟨?_, he.trans (Ext.alloc _ _)⟩
        have : greatP m = true := by
          unfold greatP
          rw [List.any_eq_true.2 ⟨m.wv k, hmem.out, by rw [Hhl.out]; simpa using h8⟩]; simp
        rw [← Hq.out, this]; rfl
      · have hd : decide (30 < (hl : Int)) = false := by simp; omega
        go_wp2
        go_roundw
        case rel =>
          refine ⟨k + 1, by omega, by go_num, fun j hj => ?_, he.trans (Ext.alloc _ _), hM'.alloc _⟩
          by_cases ej : j = k
          · subst ej; rw [Hhl.out]; exact h8
          · exact hm.out j (by omega)
        case measure => simp [intOf]; omega
    · have h0 : (m.wvs.any fun o => decide (30 < o.hours.length)) = false := by
        rw [List.any_eq_false]
        intro y hy hpy
        obtain ⟨j, hj, rfl⟩ := List.mem_iff_getElem.1 hy
        have := hm.out j (by omega)
        unfold PM.wv at this
        simp [hj] at this hpy
        omega
      have H0 := Lib.hid h0; clear h0
      obtain ⟨k0, k1⟩ := hM'.c2
      by_cases h8 : 14 < m.shafts.length
      · go_wp2
        go_ret
        refine ⟨?_, he⟩
        have : greatP m = true := by unfold greatP; simp [h8]
        rw [← Hq.out, this]; rfl
      · have hd : decide (14 < (m.shafts.length : Int)) = false := by simp; omega
        go_wp2
        go_ret
        refine ⟨?_, he⟩
        have : greatP m = decide (10 < m.wvs.length) := by unfold greatP; rw [H0.out]; simp [h8]
        rw [← Hq.out, this]
        simp
        omega

set_option maxHeartbeats 1000000 in
theorem equalShP (A B : Option Addr) (c d : Nat) (xs ys : List Sh) (q : Bool) (hq : decide (xs = ys) = q) (w : World) (hb : xs.length ≤ maxLen) (_hb2 : ys.length ≤ maxLen) (hx : ShsAt w A xs) (hy : ShsAt w B ys) :
    Calls Tryz.prog 211 #[.slice A xs.length c, .slice B ys.length d] w fun e w' => e = .returned (.bool q) ∧ Ext w w' := by
  unfold maxLen at hb
  have Hx := Lib.hid hx; have Hy := Lib.hid hy
  clear hx hy
  by_cases hlen : xs.length = ys.length
  · have Hq := Lib.hid hq; clear hq
    have Hlen := Lib.hid hlen
    have hne : ((xs.length : Int) != (ys.length : Int)) = false := by rw [hlen]; simp
    clear hlen
    go_enter Tryz.func211, Tryz.ntmps211
    go_wp2
    go_loopw [5, 13] (fun _ i wr => ∃ k : Nat, k ≤ xs.length ∧ i = .int .i64 k ∧ Hid (∀ j, j < k → xs[j]?.getD default = ys[j]?.getD default) ∧ Ext w wr) (fun _ i _ => xs.length - (intOf i).toNat)
    case atStart => exact ⟨0, by omega, rfl, fun j hj => absurd hj (by omega), Ext.refl _⟩
    case round =>
      obtain ⟨k, hk, rfl, hm, he⟩ := hrel
      by_cases hlt : k < xs.length
      · obtain ⟨b, o, rfl, h1, h2⟩ := Hx.out.ext he k hlt
        have hlt2 : k < ys.length := by have := Hlen.out; omega
        obtain ⟨b2, o2, rfl, h3, h4⟩ := Hy.out.ext he k hlt2
        generalize hga : xs[k]?.getD default = x at *
        generalize hgb : ys[k]?.getD default = y at *
        have Hga := Lib.hid hga; clear hga
        have Hgb := Lib.hid hgb; clear hgb
        obtain ⟨u1, p1⟩ := x
        obtain ⟨u2, p2⟩ := y
        by_cases hu : u1 = u2
        · by_cases hp : p1 = p2
          · subst hu
            subst hp
            have hd : (u1 != u1) = false := by simp
            have hd2 : (p1 != p1) = false := by simp
            go_wp2_with fail
            go_quiet (fail)
            go_wp2
            go_roundw
            case rel =>
              refine ⟨k + 1, by omega, by go_num, fun j hj => ?_, he.trans (Ext.drewN _ _)⟩
              by_cases ej : j = k
              · subst ej; rw [Hga.out, Hgb.out]
              · exact hm.out j (by omega)
            case measure => simp [intOf]; omega
          · subst hu
            have hd : (u1 == u1) = true := by simp
            have hd2 : (p1 == p2) = false := beq_eq_false_iff_ne.2 hp
            have Hxy := Lib.hid hp; clear hp
            go_wp2_with fail
            go_quiet (fail)
            go_wp2
            go_ret
            refine ⟨?_, he.trans (Ext.drewN _ _)⟩
            rw [← Hq.out, decide_eq_false (fun h => Hxy.out (by
              have := Hga.out
              rw [h, Hgb.out] at this
              injection this with a b; exact b.symm))]; rfl
        · have hd : (u1 == u2) = false := beq_eq_false_iff_ne.2 hu
          have Hxy := Lib.hid hu; clear hu
          go_wp2_with fail
          go_quiet (fail)
          go_wp2
          go_ret
          refine ⟨?_, he.trans (Ext.drewN _ _)⟩
          rw [← Hq.out, decide_eq_false (fun h => Hxy.out (by
            have := Hga.out
            rw [h, Hgb.out] at this
            injection this with a b; exact a.symm))]; rfl
      · go_wp2
        go_ret
        refine ⟨?_, he⟩
        have : xs = ys := List.ext_getElem Hlen.out fun j h1 h2 => by
          have := hm.out j (by omega)
          simpa [h1, h2] using this
        rw [← Hq.out, decide_eq_true this]; rfl
  · have hne : ((xs.length : Int) != (ys.length : Int)) = true := by simp; omega
    have : decide (xs = ys) = false := decide_eq_false (fun h => hlen (by rw [h]))
    rw [this] at hq
    subst hq
    clear hlen
    go_enter Tryz.func211, Tryz.ntmps211
    go_wp2
    go_ret
    exact ⟨rfl, Ext.refl _⟩
theorem eqShP (A B : Option Addr) (c d : Nat) (xs ys : List Sh) (q : Bool) (hq : decide (xs = ys) = q) (w : World) (hb : xs.length ≤ maxLen) (hb2 : ys.length ≤ maxLen) (hx : ShsAt w A xs) (hy : ShsAt w B ys) :
    Calls Tryz.prog 116 #[.slice A xs.length c, .slice B ys.length d] w fun e w' => e = .returned (.bool q) ∧ Ext w w' := by
  have H := Lib.hid (equalShP A B c d xs ys q hq w hb hb2 hx hy)
  clear hq hx hy
  go_enter Tryz.func116, Tryz.ntmps116
  go_wp2_with fail
  refine H.out.mono ?_
  rintro e w' ⟨rfl, he⟩
  go_wp2
  go_ret
  exact ⟨rfl, he⟩

end Go.Proofs.Pet

namespace Go.Proofs.Pet
set_option linter.unusedSimpArgs false
open Go Go.RowKit Go.Maps Go.Shelf
open Go.Proofs.Pow (PM Sh Wv POk Up)

deriving instance DecidableEq for Go.Proofs.Pow.PM
theorem pm_ne {a b : PM} (h : a.shafts ≠ b.shafts ∨ a.wvs ≠ b.wvs) : decide (a = b) = false := by
  rw [decide_eq_false_iff_not]
  rintro rfl
  simp at h
theorem pm_eq {a b : PM} (h1 : a.shafts = b.shafts) (h2 : a.wvs.length = b.wvs.length) (h3 : ∀ k, k < a.wvs.length → a.wv k = b.wv k) : decide (a = b) = true := by
  rw [decide_eq_true_eq]
  obtain ⟨s, x⟩ := a
  obtain ⟨s', y⟩ := b
  have h1' : s = s' := h1
  subst h1'
  congr 1
  refine List.ext_getElem h2 fun j g1 g2 => ?_
  have := h3 j g1
  unfold PM.wv at this
  simpa [g1, g2] using this
set_option maxRecDepth 20000 in
set_option maxHeartbeats 4000000 in
theorem same7_any (va vb : Value) (a b : PM) (q : Bool) (hq : decide (a = b) = q) (w : World) (ha : PMVal w va a) (hb : PMVal w vb b) :
    Calls Tryz.prog 36 #[va, vb] w fun e w' => e = .returned (.bool q) ∧ Ext w w' := by
  have Hq := Lib.hid hq; clear hq
  obtain ⟨A1, c1, A2, c2, rfl, g2, g3, g4, g5, h6, h7⟩ := ha
  obtain ⟨B1, d1, B2, d2, rfl, k2, k3, k4, k5, l6, l7⟩ := hb
  have hE : Ext w ((w.alloc (.cells #[.slice A1 a.shafts.length c1, .slice A2 a.wvs.length c2] 56)).alloc (.cells #[.slice B1 b.shafts.length d1, .slice B2 b.wvs.length d2] 56)) := (Ext.alloc _ _).trans (Ext.alloc _ _)
  have hM := (Blk.new w 56 #[.slice A1 a.shafts.length c1, .slice A2 a.wvs.length c2]).alloc (.cells #[.slice B1 b.shafts.length d1, .slice B2 b.wvs.length d2] 56)
  have hN := Blk.new (w.alloc (.cells #[.slice A1 a.shafts.length c1, .slice A2 a.wvs.length c2] 56)) 56 #[.slice B1 b.shafts.length d1, .slice B2 b.wvs.length d2]
  rw [World.size_alloc] at hN
  obtain ⟨q1, hq1⟩ : ∃ q1, decide (a.shafts = b.shafts) = q1 := ⟨_, rfl⟩
  have He := Lib.hid (eqShP A1 B1 c1 d1 a.shafts b.shafts q1 hq1 _ (Nat.le_trans g2 g3) (Nat.le_trans k2 k3) (h6.ext hE) (l6.ext hE))
  have H7 := Lib.hid (h7.ext hE); have L7 := Lib.hid (l7.ext hE)
  have Hq1 := Lib.hid hq1
  obtain ⟨e0, e1⟩ := hM.c2
  obtain ⟨f0, f1⟩ := hN.c2
  have HM := Lib.hid hM; have HN := Lib.hid hN
  unfold maxLen at g5 k5
  clear h6 h7 l6 l7 hq1 hM hN g2 g3 k2 k3
  go_enter Tryz.func36, Tryz.ntmps36
  go_wp2_with fail
  generalize (w.alloc _).alloc _ = w1 at *
  refine He.out.mono ?_
  rintro e w2 ⟨rfl, he2⟩
  have e1' := he2.cell e1
  have f1' := he2.cell f1
  clear He e0 e1 f0 f1
  cases q1 with
  | false =>
    obtain rfl : q = false := by rw [← Hq.out]; exact pm_ne (.inl (of_decide_eq_false Hq1.out))
    go_wp2
    go_ret
    exact ⟨rfl, hE.trans he2⟩
  | true =>
  by_cases hlen : a.wvs.length = b.wvs.length
  · have hl1 : ((a.wvs.length : Int) != (b.wvs.length : Int)) = false := by rw [hlen]; simp
    have Hlen := Lib.hid hlen
    have hla : a.wvs.length ≤ b.wvs.length := by omega
    clear hlen
    go_wp2_with fail
    clear e1' f1'
    go_loopw [25] (fun i wr => ∃ k : Nat, k ≤ a.wvs.length ∧ i = .int .i64 k ∧ Ext w1 wr ∧ Hid (∀ j, j < k → a.wv j = b.wv j)) (fun i _ => a.wvs.length - (intOf i).toNat)
    case atStart => exact ⟨0, by omega, rfl, he2, fun j hj => absurd hj (by omega)⟩
    case round =>
      clear he2
      obtain ⟨k, hk, rfl, he, hm⟩ := hrel
      by_cases hlt : k < a.wvs.length
      · have hX0 : ∀ o : Obj, Ext w1 (wr.alloc o) := fun o => he.trans (Ext.alloc wr o)
        obtain ⟨b2, o2, rfl, A3, c3, hc3, j1, j2, j3⟩ := H7.out.ext he k hlt
        rw [show a.wvs[k]?.getD default = a.wv k from rfl] at hc3 j1 j2 j3
        obtain ⟨b4, o4, rfl, A5, c5, hc5, m1, m2, m3⟩ := L7.out.ext he k (by omega)
        rw [show b.wvs[k]?.getD default = b.wv k from rfl] at hc5 m1 m2 m3
        obtain ⟨x, hx⟩ : ∃ x, a.wv k = x := ⟨_, rfl⟩
        obtain ⟨y, hy⟩ : ∃ y, b.wv k = y := ⟨_, rfl⟩
        rw [hx] at hc3 j1 j2 j3
        rw [hy] at hc5 m1 m2 m3
        have Hx := Lib.hid hx; have Hy := Lib.hid hy
        obtain ⟨xs, xh⟩ := x
        obtain ⟨ys, yh⟩ := y
        simp only at hc3 j1 j2 j3 hc5 m1 m2 m3
        clear hx hy
        have hB := Blk.new wr 86 #[.int .i64 xs, .slice A3 xh.length c3]
        have hX := Ext.alloc wr (.cells #[.int .i64 xs, .slice A3 xh.length c3] 86)
        obtain ⟨q0, q1⟩ := hB.c2
        obtain ⟨q2, hq2⟩ : ∃ q2, decide (xh = yh) = q2 := ⟨_, rfl⟩
        have He2 := Lib.hid (fun W (hW : Ext (wr.alloc (.cells #[.int .i64 xs, .slice A3 xh.length c3] 86)) W) => eqI A3 A5 c3 c5 xh yh q2 hq2 W (Nat.le_trans hc3.1 hc3.2) (j3.ext (hX.trans hW)) (m3.ext (hX.trans hW)))
        have Hq2 := Lib.hid hq2
        have n1 := hX.cell m1
        have n2 := hX.cell m2
        obtain ⟨f0, f1⟩ := (HN.out.ext (he.trans hX)).c2
        have HX := Lib.hid (he.trans hX)
        clear hq2 j3 m3 m1 m2 hc3 hc5 hB
        go_upto_region 6 with fail
        clear j1 j2 hX hX0
        generalize wr.alloc _ = R at *
        have hew := he
        clear he
        by_cases hs : xs = ys
        · have hd : (xs != ys) = false := by simp [hs]
          have Hs := Lib.hid hs
          clear hs
          refine wp_region_tree 20 [(18, true)] [] (by kernel_rfl) (by kernel_rfl) (by kernel_rfl) (ds := [0, 1, 2, 3, 4, 5, 6, 7, 8, 9, 10, 11, 12, 13, 14, 15, 16, 17]) (by kernel_rfl) ?_
          simp only [List.take, List.drop, fill, Act.put, List.setIfInBounds_toArray, List.set_cons_zero, List.set_cons_succ, Nat.reduceAdd]
          repeat (first
            | (apply Unlock.float rfl
               · intro x W he hd K Qr hK
                 try (have he := he (by decide); have q0 := he.cell q0; have q1 := he.cell q1; have n1 := he.cell n1; have n2 := he.cell n2; have f0 := he.cell f0; have f1 := he.cell f1)
                 try simp only [edges, DepsE, List.filter_cons, List.filter_nil, Region.binds, if_true, and_true, true_and, upd, Nat.reduceEqDiff, if_false] at hd
                 try simp only [hd] at hK ⊢
                 have HK := Lib.hid hK; clear hK
                 go_wp2_with fail
                 exact HK.out))
          refine Unlock.nil ?_
          intro W he hG
          refine Tree.next (ks := [(18, true)]) (by kernel_rfl) ?_
          refine TSteps.cons _ rfl ?_ trivial
          intro x hd K Qr hK
          try simp only [edges, DepsE, List.filter_cons, List.filter_nil, Region.binds, if_true, and_true, true_and, upd, Nat.reduceEqDiff, if_false] at hd
          try simp only [hd] at hK ⊢
          clear hd
          have HK := Lib.hid hK; clear hK
          go_wp2_with fail
          refine (He2.out W he).mono ?_
          rintro e w5 ⟨rfl, he5⟩
          have heA := he.trans he5
          go_wp2_with fail
          refine HK.out _ _ (fun _ => heA) ?_
          clear HK He2
          refine Unlock.of (ds := [19]) (by kernel_rfl) ?_
          repeat (first
            | (apply Unlock.float rfl
               · intro x W he hd K Qr hK
                 try (have he := he (by decide); skip)
                 try simp only [edges, DepsE, List.filter_cons, List.filter_nil, Region.binds, if_true, and_true, true_and, upd, Nat.reduceEqDiff, if_false] at hd
                 try simp only [hd] at hK ⊢
                 have HK := Lib.hid hK; clear hK
                 go_wp2_with fail
                 exact HK.out))
          refine Unlock.nil ?_
          cases q2 with
          | true =>
            refine Tree.nil (by kernel_rfl) ?_
            simp only [upd, Nat.reduceEqDiff, if_false, if_true]
            go_wp2_with fail
            go_roundw
            case rel =>
              refine ⟨k + 1, by omega, by go_num, HX.out.trans heA, fun j hj => ?_⟩
              by_cases ej : j = k
              · subst ej
                rw [Hx.out, Hy.out, Hs.out, of_decide_eq_true Hq2.out]
              · exact hm.out j (by omega)
            case measure => simp [intOf]; omega
          | false =>
            obtain rfl : q = false := by
              rw [← Hq.out]
              refine pm_ne (.inr fun e => of_decide_eq_false Hq2.out ?_)
              have h1 := Hx.out
              have h2 := Hy.out
              unfold PM.wv at h1 h2
              rw [e, h2] at h1
              injection h1 with p1 p2
              exact p2.symm
            refine Tree.nil (by kernel_rfl) ?_
            simp only [upd, Nat.reduceEqDiff, if_false, if_true]
            go_wp2_with fail
            go_ret
            exact ⟨rfl, hE.trans (HX.out.trans heA)⟩
        · have hd : (xs != ys) = true := by simpa using hs
          obtain rfl : q = false := by
            rw [← Hq.out]
            refine pm_ne (.inr fun e => hs ?_)
            have h1 := Hx.out
            have h2 := Hy.out
            unfold PM.wv at h1 h2
            rw [e, h2] at h1
            injection h1 with p1 p2
            exact p1.symm
          clear hs
          refine wp_region_chain 20 [] [] (by kernel_rfl) (by kernel_rfl) (by kernel_rfl) ?_
          simp only [List.take, List.drop, fill, Act.put, List.setIfInBounds_toArray, List.set_cons_zero, List.set_cons_succ, Nat.reduceAdd]
          repeat (first
            | refine Floats.mut rfl ?_
            | (apply Floats.float rfl
               · intro x W he hd K Q hK
                 try (have he := he (by decide); have q0 := he.cell q0; have n1 := he.cell n1; have f1 := he.cell f1)
                 try simp only [edges, DepsE, List.filter_cons, List.filter_nil, Region.binds, if_true, and_true, true_and, upd, Nat.reduceEqDiff, if_false] at hd
                 try simp only [hd] at hK ⊢
                 have HK := Lib.hid hK; clear hK
                 go_wp2_with fail
                 exact HK.out))
          refine Floats.done fun W he hG => ?_
          refine Chain.nil ?_
          simp only [upd, Nat.reduceEqDiff, if_false, if_true]
          go_wp2_with fail
          go_ret
          exact ⟨rfl, hE.trans (HX.out.trans he)⟩
      · obtain rfl : k = a.wvs.length := by omega
        obtain rfl : q = true := by rw [← Hq.out]; exact pm_eq (of_decide_eq_true Hq1.out) Hlen.out fun j hj => hm.out j hj
        go_wp2_with fail
        go_ret
        exact ⟨rfl, hE.trans he⟩
  · have hl1 : ((a.wvs.length : Int) != (b.wvs.length : Int)) = true := by simp; omega
    obtain rfl : q = false := by rw [← Hq.out]; exact pm_ne (.inr fun e => hlen (by rw [e]))
    clear hlen
    go_wp2_with fail
    go_ret
    exact ⟨rfl, hE.trans he2⟩
end Go.Proofs.Pet

namespace Go.Proofs.Pet
open Go Go.RowKit Go.Maps Go.Shelf
open Go.Proofs.Pow (PM Sh Wv POk Up)

/-- what is known of the operations done so far: F k of the value of the operation k -/
def StgF (w0 : World) (F : Nat → World → Value → Prop) (Ld : Nat → Prop) (x : Nat → Value) (W : World) : Prop := Ext w0 W ∧ ∀ k, Ld k → F k W (x k)
theorem StgF.start {w0 : World} {F : Nat → World → Value → Prop} (x : Nat → Value) : StgF w0 F (fun _ => False) x w0.drew := ⟨Ext.drew _, fun _ h => h.elim⟩
theorem StgF.step {w0 W W' : World} {F : Nat → World → Value → Prop} {Ld : Nat → Prop} {x : Nat → Value} (hF : ∀ k W W' v, Ext W W' → F k W v → F k W' v) (h : StgF w0 F Ld x W) (he : Ext W W') (k : Nat) (v : Value) (hv : F k W' v) : StgF w0 F (fun j => Ld j ∨ j = k) (upd x k v) W' := by
  refine ⟨h.1.trans he, fun j hj => ?_⟩
  by_cases e : j = k
  · subst e
    have : upd x j v j = v := by unfold upd; rw [if_pos rfl]
    rw [this]; exact hv
  · have : upd x k v j = x j := by unfold upd; rw [if_neg e]
    rw [this]
    exact hF j _ _ _ he (h.2 j (hj.resolve_right e))
def BoxP (t : TypeId) (b : Nat) (W : World) (v : Value) : Prop := ∃ g, v = .pointer (some ⟨g, 0, none⟩) ∧ b ≤ g ∧ Blk W g t #[.slice none 0 0, .slice none 0 0]
theorem BoxP.ext {t : TypeId} {b : Nat} {W W' : World} {v : Value} (h : BoxP t b W v) (he : Ext W W') : BoxP t b W' v := by
  obtain ⟨g, e, h1, h2⟩ := h
  exact ⟨g, e, h1, h2.ext he⟩
theorem BoxP.new {t : TypeId} {b : Nat} {W : World} (h : b ≤ W.heap.size) : BoxP t b (W.alloc (.cells #[.slice none 0 0, .slice none 0 0] t)) (.pointer (some ⟨W.heap.size, 0, none⟩)) := ⟨_, rfl, h, Blk.new W t _⟩
/-- the operations of the opening: own copy a, the reference's b, the boxes c and d -/
def OpenF (a b c d : Nat) (w0 : World) (m : PM) (k : Nat) (W : World) (v : Value) : Prop :=
  (k = a → OwnPM W w0.heap.size v m) ∧ (k = b → TheirM w0 W w0.heap.size v m) ∧ (k = c → BoxP 56 w0.heap.size W v) ∧ (k = d → BoxP 62 w0.heap.size W v)
/-- both boxes written: what then stands -/
theorem opened_stored {w0 W : World} {g g' : Nat} {m : PM} {s1 s2 r1 r2 : Value} (hX : Ext w0 W) (hg : w0.heap.size ≤ g) (hg' : w0.heap.size ≤ g') (b4 : Blk W g 56 #[.slice none 0 0, .slice none 0 0]) (b5 : Blk W g' 62 #[.slice none 0 0, .slice none 0 0])
    (hO : OwnPM W w0.heap.size (.agg #[s1, s2]) m) (hT : TheirM w0 W w0.heap.size (.agg #[r1, r2]) m) :
    ∃ W2, W2 = (((W.setCell ⟨g, 0, none⟩ s1).setCell ⟨g, 1, none⟩ s2).setCell ⟨g', 0, none⟩ r1).setCell ⟨g', 1, none⟩ r2 ∧ Ext w0 W2 ∧ Blk W2 g 56 #[s1, s2] ∧ Blk W2 g' 62 #[r1, r2] ∧ OwnPM W2 w0.heap.size (.agg #[s1, s2]) m ∧ TheirM w0 W2 w0.heap.size (.agg #[r1, r2]) m := by
  have hne : g ≠ g' := b4.ne_ b5 (by decide)
  have hap1 : Apart g W ((W.setCell ⟨g, 0, none⟩ s1).setCell ⟨g, 1, none⟩ s2) := ((Apart.refl g W).set_ 0 _).set_ 1 _
  have p4 : Blk ((W.setCell ⟨g, 0, none⟩ s1).setCell ⟨g, 1, none⟩ s2) g 56 #[s1, s2] := by simpa using (b4.set_ 0 s1).set_ 1 s2
  have p5 : Blk ((W.setCell ⟨g, 0, none⟩ s1).setCell ⟨g, 1, none⟩ s2) g' 62 #[.slice none 0 0, .slice none 0 0] := (b5.far (by show g' ≠ g; exact fun h => hne h.symm) _).far (by show g' ≠ g; exact fun h => hne h.symm) _
  have hE1 := Below.setCell (Below.setCell hX (p := ⟨g, 0, none⟩) hg s1) (p := ⟨g, 1, none⟩) hg s2
  have hO1 : OwnPM ((W.setCell ⟨g, 0, none⟩ s1).setCell ⟨g, 1, none⟩ s2) w0.heap.size (.agg #[s1, s2]) m := by
    obtain ⟨x1, x2, e, h1, cs, h2, h3⟩ := hO
    exact ⟨x1, x2, e, ownsRow_apart h1 (fun e => ownsRow_ne_blk h1 b4 (by decide) e.symm) hap1, cs, ownsRow_apart h2 (fun e => ownsRow_ne_blk h2 b4 (by decide) e.symm) hap1, h3.map fun _ _ q => OwnI.apart q (fun e => OwnI.ne_blk q b4 (by decide) e.symm) hap1⟩
  have hT1 := hT.apart b4 (by decide) (by decide) hap1
  generalize (W.setCell _ _).setCell _ _ = W1 at *
  have hap2 : Apart g' W1 ((W1.setCell ⟨g', 0, none⟩ r1).setCell ⟨g', 1, none⟩ r2) := ((Apart.refl g' W1).set_ 0 _).set_ 1 _
  refine ⟨_, rfl, Below.setCell (Below.setCell hE1 (p := ⟨g', 0, none⟩) hg' r1) (p := ⟨g', 1, none⟩) hg' r2, (p4.far (by show g ≠ g'; exact hne) _).far (by show g ≠ g'; exact hne) _, by simpa using (p5.set_ 0 r1).set_ 1 r2, ?_, hT1.apart p5 (by decide) (by decide) hap2⟩
  obtain ⟨x1, x2, e, h1, cs, h2, h3⟩ := hO1
  exact ⟨x1, x2, e, ownsRow_apart h1 (fun e => ownsRow_ne_blk h1 p5 (by decide) e.symm) hap2, cs, ownsRow_apart h2 (fun e => ownsRow_ne_blk h2 p5 (by decide) e.symm) hap2, h3.map fun _ _ q => OwnI.apart q (fun e => OwnI.ne_blk q p5 (by decide) e.symm) hap2⟩
end Go.Proofs.Pet

namespace Go.Proofs.Pet
open Go Go.RowKit Go.Maps Go.Shelf
open Go.Proofs.Pow (PM Sh Wv POk Up)

end Go.Proofs.Pet

namespace Go.Proofs.Pet
open Go Go.RowKit Go.Maps Go.Shelf
open Go.Proofs.Pow (PM Sh Wv POk Up)

end Go.Proofs.Pet

namespace Go.Proofs.Pet
open Go Go.RowKit Go.Maps Go.Shelf
open Go.Proofs.Pow (PM Sh Wv POk Up)

/-- the parts of a mill's value -/
theorem PMVal.parts {w : World} {m : PM} {A1 A2 : Option Addr} {c1 c2 : Nat} (h : PMVal w (.agg #[.slice A1 m.shafts.length c1, .slice A2 m.wvs.length c2]) m) :
    (m.shafts.length ≤ c1 ∧ c1 ≤ maxLen) ∧ (m.wvs.length ≤ c2 ∧ c2 ≤ maxLen) ∧ ShsAt w A1 m.shafts ∧ WvsAt w A2 m.wvs := by
  obtain ⟨B1, d1, B2, d2, e, h2, h3, h4, h5, h6, h7⟩ := h
  simp only [Value.agg.injEq, Array.mk.injEq, List.cons.injEq, Value.slice.injEq, true_and, and_true] at e
  obtain ⟨⟨rfl, rfl⟩, rfl, rfl⟩ := e
  exact ⟨⟨h2, h3⟩, ⟨h4, h5⟩, h6, h7⟩
def GoneMapP (w : World) (M cnt : Nat) (f : Nat → Bool) : Prop :=
  ∃ D : DataW Unit, w.ownsMap Tryz.prog 3 (plainElem Tryz.prog 4) M cnt D ∧ ∀ s : Nat, D.atKey (.int .i64 s) (.lit (.bool false)) = .lit (.bool (f s))
/-! clear -/
/-- a row that is the call's own is overwritten -/
def WipedP (w w' : World) (v : Value) (e : TypeId) : Prop :=
  w' = w ∨ ∃ (g : Nat) (cur cur' : Array Value), v.ownBlock = some g ∧ w.heap[g]? = some (.cells cur e (0, 0)) ∧ cur'.size = cur.size ∧ w' = w.setRow g cur'
/-- a list of numbers of the call's own, whatever they are -/
def RowNP (w : World) (base : Nat) (v : Value) (n : Nat) : Prop := ∃ xs, w.ownsRow base 3 1 v n xs
/-- weavers of the call's own, whose hours are whatever they are -/
def ClrW (w : World) (base : Nat) (v : Value) (ys : List Wv) : Prop := ∃ cs, w.ownsRow base 86 2 v ys.length cs ∧ WvF (fun u x => RowNP w base u x.hours.length) cs ys
end Go.Proofs.Pet
