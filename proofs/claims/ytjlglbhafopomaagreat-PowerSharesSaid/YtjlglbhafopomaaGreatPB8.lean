/-
  Groups that are better off alone: power's Cost, better, Fair, Better, walked.
-/
import Derived.Test.YtjlglbhafopomaaGreatPB7
namespace Go.Proofs.Pet
open Go Go.RowKit Go.Maps Go.Shelf
open Go.Proofs.Pow (PM Sh Wv POk Up)

theorem ints_contains (l : List Nat) (k : Nat) : (ints l).contains (k : Int) = l.contains k := by
  rw [Bool.eq_iff_iff, List.contains_iff_mem, List.contains_iff_mem]
  unfold ints
  rw [List.mem_map]
  exact ⟨fun ⟨x, hx, e⟩ => by have : x = k := by omega
                              exact this ▸ hx, fun h => ⟨k, h, rfl⟩⟩
theorem ints_inG {m : PM} {l : List Nat} {a : Nat} (h : Up m.wvs.length a l) : Pow.InG m (ints l) := by
  intro k hk
  unfold ints at hk
  obtain ⟨x, hx, rfl⟩ := List.mem_map.1 hk
  have := h.2 x hx
  omega
theorem ints_get (l : List Nat) {k : Nat} (hk : k < l.length) : (ints l)[k]?.getD 0 = ((l[k]?.getD 0 : Nat) : Int) := by
  unfold ints
  rw [List.getElem?_map, List.getElem?_eq_getElem hk]
  rfl
theorem cost_ints (m : PM) (l : List Nat) : Pow.costF m (fun k => (ints l).contains (k : Int)) = Pow.costF m (fun k => l.contains k) := by
  congr 1
  funext k
  exact ints_contains l k
def shSum (sh : List Int) (l : List Nat) : Int := (l.map fun k => sh[k]?.getD 0).sum
theorem shSum_snoc (sh : List Int) (l : List Nat) (k : Nat) : shSum sh (l ++ [k]) = shSum sh l + sh[k]?.getD 0 := by simp [shSum]
theorem shSum_bd {sh : List Int} (hb : ∀ x, x ∈ sh → 0 ≤ x ∧ x ≤ 1000000) : ∀ l : List Nat, 0 ≤ shSum sh l ∧ shSum sh l ≤ 1000000 * (l.length : Int)
  | [] => by simp [shSum]
  | k :: l => by
    have h := shSum_bd hb l
    have h1 : 0 ≤ sh[k]?.getD 0 ∧ sh[k]?.getD 0 ≤ 1000000 := by
      cases h2 : sh[k]? with
      | none => simp
      | some x => exact hb x (List.mem_of_getElem? h2)
    have h3 : shSum sh (k :: l) = sh[k]?.getD 0 + shSum sh l := by simp [shSum]
    rw [h3, List.length_cons]
    omega
theorem take_snocN {l : List Nat} {k : Nat} (hk : k < l.length) {x : Nat} (e : l[k]?.getD 0 = x) : l.take (k + 1) = l.take k ++ [x] := by
  rw [List.take_add_one, List.getElem?_eq_getElem hk]
  rw [List.getElem?_eq_getElem hk] at e
  simp only [Option.getD_some] at e
  rw [e]; rfl

set_option maxRecDepth 20000 in
set_option maxHeartbeats 1000000 in
theorem better1_any (D Sb Db : Nat) (m : PM) (hm : POk m) (As : Option Addr) (cs : Nat) (sh : List Int) (hsl : sh.length = m.wvs.length) (hsb : ∀ x, x ∈ sh → 0 ≤ x ∧ x ≤ 1000000) (w0 : World)
    (hS : Blk w0 Sb 31 #[.slice As sh.length cs]) (hSA : IntsAt w0 As sh) (hDb : Blk w0 Db 135 #[.pointer (some ⟨D, 0, none⟩)]) (hD : DeskAt w0 D m) (l : List Nat) (hl : Up m.wvs.length 0 l) :
    Tells Tryz.prog w0 171 #[] #[.pointer (some ⟨Sb, 0, none⟩), .pointer (some ⟨Db, 0, none⟩)] (fun W v l => SlI W v (ints l)) l (Pow.moreB m sh l) := by
  intro W v hW hv
  obtain ⟨A, c, rfl, s1, s2, hA⟩ := hv
  have hml := hm.few
  have hl6 : l.length ≤ 6 := by have := Pow.up_len hl; omega
  have hlen := ints_length l
  rw [hlen]
  obtain ⟨cost, hcost⟩ : ∃ cost, Pow.costF m (fun k => l.contains k) = cost := ⟨_, rfl⟩
  have hcb := Pow.cost_bounds hm (fun k => l.contains k)
  have hcall := fun W' (he : Ext W W') => cost_any D m hm A c l.length (ints l) hlen (ints_inG hl) (by omega) cost ((cost_ints m l).trans hcost) W' (hD.ext (hW.trans he)) (hA.ext he)
  rw [hcost] at hcb
  have Hcall := Lib.hid hcall
  obtain ⟨q, hq⟩ : ∃ q, Pow.moreB m sh l = q := ⟨_, rfl⟩
  rw [hq]
  have Hq : Hid (q = decide (60 * cost < shSum sh l)) := by unfold Hid; rw [← hq, ← hcost]; rfl
  have hS' := hS.ext hW
  have hDb' := hDb.ext hW
  have HSA := Lib.hid (hSA.ext hW)
  clear hcall hcost hq hS hDb hSA hD
  have e0 := hS'.c1
  have e1 := hDb'.c1
  show Calls Tryz.prog 171 #[_, .pointer (some ⟨Sb, 0, none⟩), .pointer (some ⟨Db, 0, none⟩)] W _
  go_enter Tryz.func171, Tryz.ntmps171
  go_wp2_with fail
  go_loopw [5, 10] (fun u i wr => ∃ k : Nat, k ≤ l.length ∧ i = .int .i64 (k : Int) ∧ (∃ s, u = .int .i64 s ∧ Hid (shSum sh (l.take k) = s)) ∧ W = wr) (fun _ i _ => l.length - (intOf i).toNat)
  case atStart => exact ⟨0, Nat.zero_le _, rfl, ⟨0, rfl, by simp [shSum, Hid]⟩, rfl⟩
  case round =>
    obtain ⟨k, hk, rfl, ⟨s, rfl, hs⟩, rfl⟩ := hrel
    by_cases hlt : k < l.length
    · obtain ⟨b, o, rfl, c1⟩ := hA k (by rw [hlen]; exact hlt)
      rw [ints_get l hlt] at c1
      obtain ⟨kk, hkk⟩ : ∃ kk, l[k]?.getD 0 = kk := ⟨_, rfl⟩
      have hkl : kk < m.wvs.length := by
        have := hl.2 (l[k]?.getD 0) (by rw [List.getElem?_eq_getElem hlt]; exact List.getElem_mem _)
        omega
      have Htk := Lib.hid (take_snocN hlt hkk)
      rw [hkk] at c1
      obtain ⟨b2, o2, rfl, c2⟩ := HSA.out kk (by omega)
      have hst := shSum_snoc sh (l.take k) kk
      have hsb1 := shSum_bd hsb (l.take k)
      have hsb2 := shSum_bd hsb (l.take k ++ [kk])
      rw [List.length_append, List.length_take] at hsb2
      rw [List.length_take] at hsb1
      simp only [List.length_singleton] at hsb2
      rw [hst] at hsb2
      rw [hs.out] at hst hsb1 hsb2
      generalize sh[kk]?.getD 0 = x at *
      have Hst := Lib.hid hst
      have hln := hlen
      clear hst hkk
      have hsl2 : (kk : Int) < (sh.length : Int) := by omega
      go_wp2_with fail
      go_roundw
      case rel => exact ⟨k + 1, by omega, by go_num, ⟨s + x, by go_num, by unfold Hid; rw [Htk.out]; exact Hst.out⟩, by trivial⟩
      case measure => simp [intOf]; omega
    · obtain rfl : k = l.length := by omega
      have hs' := hs.out
      rw [List.take_of_length_le (Nat.le_refl _)] at hs'
      have hsb1 := shSum_bd hsb l
      rw [hs'] at hsb1
      rw [hs'] at Hq
      clear hs hs'
      have Hq' := Lib.hid Hq
      go_wp2_with fail
      refine (Hcall.out W (Ext.refl _)).mono ?_
      rintro e w2 ⟨rfl, he2⟩
      go_wp2_with fail
      go_ret
      exact ⟨by rw [Hq'.out.out]; rfl, he2⟩

theorem groupE_ok {m : PM} {g : List Int} (h : groupE m g = 0) : checkP m = 0 ∧ Pow.InG m g ∧ g.Nodup ∧ g.length ≤ 6 := by
  unfold groupE at h
  split at h
  · rename_i h1; exact absurd h h1
  rename_i h1
  simp only [ne_eq, Decidable.not_not] at h1
  split at h
  · exact absurd h (by decide)
  rename_i h2
  split at h
  · exact absurd h (by decide)
  rename_i h3
  have hg : Pow.InG m g := by
    intro k hk
    simp only [Bool.not_eq_false, List.all_eq_true] at h2
    have := inB_iff.1 (h2 k hk)
    omega
  have hnd := nodup_of_twice (by simpa using h3)
  refine ⟨h1, hg, hnd, ?_⟩
  have := Pow.nodup_le (r := Pow.allI m.wvs.length) hnd fun x hx => by
    have := hg x hx
    unfold Pow.allI
    exact List.mem_map.2 ⟨x.toNat, List.mem_range.2 (by omega), by omega⟩
  rw [allI_len] at this
  have := ((checkP_iff m).1 h1).few
  omega
theorem sharedE_ok {m : PM} {l : List Int} (h : sharedE m l = 0) : checkP m = 0 ∧ l.length = m.wvs.length ∧ ∀ x, x ∈ l → 0 ≤ x ∧ x ≤ 1000000 := by
  unfold sharedE at h
  split at h
  · rename_i h1; exact absurd h h1
  rename_i h1
  simp only [ne_eq, Decidable.not_not] at h1
  split at h
  · exact absurd h (by decide)
  rename_i h2
  split at h
  · exact absurd h (by decide)
  rename_i h3
  simp only [Bool.not_eq_false, List.all_eq_true] at h3
  exact ⟨h1, by omega, fun x hx => inB_iff.1 (h3 x hx)⟩

set_option maxRecDepth 20000 in
theorem bett_any (D : Nat) (m : PM) (hm : POk m) (As : Option Addr) (cs n : Nat) (sh : List Int) (hn : sh.length = n) (hsl : n = m.wvs.length) (hsb : ∀ x, x ∈ sh → 0 ≤ x ∧ x ≤ 1000000) (w : World) (hSA : IntsAt w As sh) (hD : DeskAt w D m) :
    Calls Tryz.prog 124 #[.pointer (some ⟨D, 0, none⟩), .slice As n cs] w (Finds m.wvs.length (Pow.moreB m sh) w) := by
  subst hn
  have hmf : ∀ (fn : Fn) (first cap : Array Value) (w : World), (Instr.makeFunc fn first cap).run Tryz.prog w = .ok (.func fn first cap) w := fun _ _ _ _ => rfl
  have hml := hm.few
  have hE : Ext w ((w.alloc (.cells #[.pointer (some ⟨D, 0, none⟩)] 135)).alloc (.cells #[.slice As sh.length cs] 31)) := (Ext.alloc _ _).trans (Ext.alloc _ _)
  have b0 := (Blk.new w 135 #[.pointer (some ⟨D, 0, none⟩)]).alloc (.cells #[.slice As sh.length cs] 31)
  have b1 := Blk.new (w.alloc (.cells #[.pointer (some ⟨D, 0, none⟩)] 135)) 31 #[.slice As sh.length cs]
  rw [World.size_alloc] at b1
  have hD1 := hD.ext hE
  have hfi := Lib.hid (first_any m.wvs.length 171 #[] #[.pointer (some ⟨w.heap.size + 1, 0, none⟩), .pointer (some ⟨w.heap.size, 0, none⟩)] (Pow.moreB m sh) (by omega) _ (enters_of Tryz.func171 (by kernel_rfl) rfl)
    (fun l hl => better1_any D (w.heap.size + 1) w.heap.size m hm As cs sh hsl hsb _ b1 (hSA.ext hE) b0 hD1 l hl))
  have e0 := b0.c1
  obtain ⟨A1, c1, A2, c2, d0, d1, -, -, -⟩ := hD1.slices
  clear b0 b1 hD1 hSA hD hsl
  go_enter Tryz.func124, Tryz.ntmps124
  go_wp2_with fail
  refine hfi.out.mono ?_
  rintro e w1 ⟨A3, k3, c3, rfl, he1, hx1⟩
  go_wp2_with fail
  go_ret2
  exact ⟨A3, k3, c3, rfl, hE.trans he1, fun x hx => (hx1 x hx).mono hE.size⟩
def fairF (m : PM) (sh : List Int) : Bool := (Pow.firstF m.wvs.length (Pow.moreB m sh)).isNone && decide (sh.sum = 60 * Pow.costF m fun _ => true)
theorem sum_take {l : List Int} {k : Nat} (hk : k < l.length) : (l.take (k + 1)).sum = (l.take k).sum + l[k]?.getD 0 := by
  rw [take_snoc hk rfl, List.sum_append]; simp
theorem sum_bd {l : List Int} (hb : ∀ x, x ∈ l → 0 ≤ x ∧ x ≤ 1000000) : 0 ≤ l.sum ∧ l.sum ≤ 1000000 * (l.length : Int) := by
  induction l with
  | nil => simp
  | cons x l ih =>
    have h1 := hb x (by simp)
    have h2 := ih fun y hy => hb y (by simp [hy])
    rw [List.sum_cons, List.length_cons]
    omega
set_option maxRecDepth 20000 in
set_option maxHeartbeats 1000000 in
theorem Fair_any (v : Value) (m : PM) (A : Option Addr) (c n : Nat) (sh : List Int) (hn : sh.length = n) (r : Int) (x : Bool) (hr : sharedE m sh = r) (hx : (if r = 0 then fairF m sh else false) = x) (w : World) (hv : PMVal w v m) (hl : n ≤ maxLen) (hA : IntsAt w A sh) :
    Calls Tryz.prog 51 #[v, .slice A n c] w fun e w' => e = .returned (.tuple #[.bool x, .int .i64 r]) ∧ Ext w w' := by
  have Hv := Lib.hid hv
  obtain ⟨A1, c1, A2, c2, rfl, h2, h3, h4, h5, h6, h7⟩ := hv
  have hE := Ext.alloc w (.cells #[.slice A1 m.shafts.length c1, .slice A2 m.wvs.length c2] 26)
  obtain ⟨k0, k1⟩ := (Blk.new w 26 #[.slice A1 m.shafts.length c1, .slice A2 m.wvs.length c2]).c2
  have ho := Lib.hid (shared_any _ m A c n sh hn r hr _ (Hv.out.ext hE) hl (hA.ext hE))
  clear h6 h7
  go_enter Tryz.func51, Tryz.ntmps51
  go_wp2_with fail
  refine ho.out.mono ?_
  rintro e w1 ⟨pv, rfl, he1, hop⟩
  have hE1 := hE.trans he1
  by_cases h0 : r = 0
  · subst h0
    subst hn
    obtain ⟨D, rfl, hD, -⟩ := hop rfl
    obtain ⟨hc, hle, hsb⟩ := sharedE_ok hr
    have hm := (checkP_iff m).1 hc
    have hml := hm.few
    have hn6 : sh.length ≤ 6 := by omega
    have HD := Lib.hid hD; have HA := Lib.hid (hA.ext hE1); have Hle := Lib.hid hle; have Hsb := Lib.hid hsb; have Hm := Lib.hid hm
    have Hx : Hid (fairF m sh = x) := by unfold Hid; rw [← hx, if_pos rfl]
    clear hx hr hD hc hA ho hle hsb hm hop
    go_wp2_with fail
    go_loopw [8, 24] (fun u i wr => ∃ k : Nat, k ≤ sh.length ∧ i = .int .i64 (k : Int) ∧ (∃ s, u = .int .i64 s ∧ Hid ((sh.take k).sum = s)) ∧ w1 = wr) (fun _ i _ => sh.length - (intOf i).toNat)
    case atStart => exact ⟨0, Nat.zero_le _, rfl, ⟨0, rfl, by simp [Hid]⟩, rfl⟩
    case round =>
      obtain ⟨k, hk, rfl, ⟨s, rfl, hs⟩, rfl⟩ := hrel
      by_cases hlt : k < sh.length
      · obtain ⟨b, o, rfl, q1⟩ := HA.out k hlt
        have hst := sum_take hlt
        have hb1 := sum_bd (l := sh.take k) fun y hy => Hsb.out y (List.mem_of_mem_take hy)
        have hb2 := Hsb.out (sh[k]?.getD 0) (by simp [hlt])
        rw [List.length_take] at hb1
        rw [hs.out] at hst hb1
        generalize sh[k]?.getD 0 = y at *
        have Hst := Lib.hid hst; clear hst
        go_wp2_with fail
        go_roundw
        case rel => exact ⟨k + 1, by omega, by go_num, ⟨s + y, by go_num, Hst.out⟩, by trivial⟩
        case measure => simp [intOf]; omega
      · obtain rfl : k = sh.length := by omega
        have hs' := hs.out
        rw [List.take_of_length_le (Nat.le_refl _)] at hs'
        have Hs := Lib.hid hs'
        have hb := sum_bd Hsb.out
        rw [hs'] at hb
        clear hs hs'
        have hbe := Lib.hid (bett_any D m Hm.out A c _ sh rfl Hle.out Hsb.out w1 HA.out HD.out)
        go_wp2_with fail
        refine hbe.out.mono ?_
        rintro e w2 ⟨A3, k3, c3, rfl, he2, -⟩
        have HD2 := Lib.hid (HD.out.ext he2)
        have hE2 := hE1.trans he2
        obtain ⟨q, hq⟩ : ∃ q, (Pow.firstF m.wvs.length (Pow.moreB m sh)).isSome = q := ⟨_, rfl⟩
        have Hq := Lib.hid hq
        rw [hq]
        clear hbe hq
        have Hx2 : Hid (x = (!q && decide (s = 60 * Pow.costF m fun _ => true))) := by
          unfold Hid
          rw [← Hx.out, ← Hq.out, ← Hs.out]
          unfold fairF
          congr 1
          cases Pow.firstF m.wvs.length (Pow.moreB m sh) <;> rfl
        cases q with
        | true =>
          obtain rfl : x = false := by rw [Hx2.out]; rfl
          go_wp2_with fail
          go_ret2
          exact ⟨rfl, hE2⟩
        | false =>
          have hal := Lib.hid (allg_any D m Hm.out w2 HD2.out)
          have hcb := Pow.cost_bounds Hm.out (fun _ => true)
          obtain ⟨ct, hct⟩ : ∃ ct, Pow.costF m (fun _ => true) = ct := ⟨_, rfl⟩
          rw [hct] at hcb Hx2
          have Hct := Lib.hid hct; clear hct
          go_wp2_with fail
          refine hal.out.mono ?_
          rintro e w3 ⟨gv, rfl, hg, he3⟩
          obtain ⟨A4, c4, rfl, r1, r2, r3, -, -⟩ := hg.open_
          have hE3 := hE2.trans he3
          have hcall := Lib.hid (cost_any D m Hm.out A4 c4 (Pow.allI m.wvs.length).length (Pow.allI m.wvs.length) rfl (Pow.all_in m) (by rw [allI_len]; omega) ct ((Pow.all_group m).trans Hct.out) w3 (HD2.out.ext he3) r3)
          clear hal r3 hg r1 r2
          go_wp2_with fail
          refine hcall.out.mono ?_
          rintro e w4 ⟨rfl, he4⟩
          have hxx : x = (s == 60 * ct) := by rw [Hx2.out]; rw [Bool.eq_iff_iff]; simp
          subst hxx
          go_wp2_with fail
          go_ret2
          exact ⟨rfl, hE3.trans he4⟩
  · obtain rfl : x = false := by rw [← hx, if_neg h0]
    have hd : (r != 0) = true := by simpa using h0
    clear hx hr hA ho h0 hop
    go_wp2_with fail
    go_ret2
    exact ⟨rfl, hE1⟩
end Go.Proofs.Pet
