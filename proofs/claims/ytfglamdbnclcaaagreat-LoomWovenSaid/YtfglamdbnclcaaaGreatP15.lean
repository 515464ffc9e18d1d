/-
  What Cost and Best answer, by the reference's list of runs. No program is named here.
-/
import Derived.Test.YtfglamdbnclcaaaGreatP14
import Derived.Test.YtfglamdbnclcaaaGreatP08
namespace Go.Proofs.Pet
open Go Go.RowKit Go.Maps Go.Shelf

set_option maxRecDepth 20000 in
set_option maxHeartbeats 2000000 in
theorem ran_any (v : Value) (m : Mill) (hch : checkE m = 0) (l : Nat) (hl : l < m.laced.length) (A : Option Addr) (c n : Nat) (xs : List Int) (hn : xs.length = n) (hb : n ≤ 100) (hxs : ∀ x, x ∈ xs → 0 ≤ x ∧ x < m.orders.length) (w : World) (hv : MillVal w v m) (hx : IntsAt w A xs) :
    Calls Tryz.prog 97 #[v, .int .i64 (l : Int), .slice A n c] w fun e w' => ∃ r, e = .returned (.tuple #[r, .int .i64 (chR m l (rvI xs))]) ∧ OwnI w' w.heap.size 3 r (endsF m l xs n) ∧ Ext w w' := by
  obtain ⟨ti, hi, hz0, hz1, hz2⟩ := info_parts info_int
  obtain ⟨A1, c1, A2, c2, rfl, h2, h3, h4, h5, h6, h7⟩ := hv
  have hE := Ext.alloc w (.cells #[.slice A1 m.laced.length c1, .int .i64 m.change, .slice A2 m.orders.length c2] 25)
  have hM := Blk.new w 25 #[.slice A1 m.laced.length c1, .int .i64 m.change, .slice A2 m.orders.length c2]
  have Hx := Lib.hid hx; clear hx
  have Hn := Lib.hid hn; clear hn
  have Hxs := Lib.hid hxs; clear hxs
  have H7 := Lib.hid h7; clear h7
  have Hch := Lib.hid hch
  have hco := (check_orders hch).2
  obtain ⟨l1, l2, l3⟩ := check_len hch
  clear hch h3 h5
  obtain ⟨b1, o1, rfl, e1⟩ := h6.ext hE l hl
  clear h6
  obtain ⟨p0, hp0⟩ : ∃ p, m.laced[l]?.getD 0 = p := ⟨_, rfl⟩
  rw [hp0] at e1
  have Hp0 := Lib.hid hp0; clear hp0
  obtain ⟨k0, k1, k2⟩ := hM.c3
  go_enter Tryz.func97, Tryz.ntmps97
  go_wp2_with fail
  have hsz : w.heap.size + 1 ≤ (w.alloc (.cells #[.slice (some ⟨b1, o1, none⟩) m.laced.length c1, .int .i64 m.change, .slice A2 m.orders.length c2] 25)).heap.size := by simp
  generalize w.alloc _ = W at *
  go_loopw [8, 9, 10, 11, 23] (fun v la day ch i wr => ∃ (k : Nat) (p d c : Int), k ≤ n ∧ i = .int .i64 k ∧ la = .int .i64 p ∧ day = .int .i64 d ∧ ch = .int .i64 c ∧ (0 ≤ d ∧ d ≤ 25 * k) ∧ (0 ≤ c ∧ c ≤ k) ∧
      Hid (lastPat m l (rvI (xs.take k)) = p ∧ dyR m l (rvI (xs.take k)) = d ∧ chR m l (rvI (xs.take k)) = c) ∧ Ext w wr ∧ w.heap.size + 1 ≤ wr.heap.size ∧
      Blk wr w.heap.size 25 #[.slice (some ⟨b1, o1, none⟩) m.laced.length c1, .int .i64 m.change, .slice A2 m.orders.length c2] ∧ Hid (OwnI wr (w.heap.size + 1) 3 v (endsF m l xs k)))
    (fun _ _ _ _ i _ => n - (intOf i).toNat)
  case atStart => exact ⟨0, _, 0, 0, by omega, rfl, rfl, rfl, rfl, by omega, by omega, ⟨Hp0.out, rfl, rfl⟩, hE, hsz, hM, OwnI.nil _ _ _⟩
  case round =>
    obtain ⟨k, p, d, ch, hk, rfl, rfl, rfl, rfl, hd, hc, hspec, he, hsw, hM', ho⟩ := hrel
    by_cases hlt : k < n
    · obtain ⟨ba, oa, rfl, ca⟩ := Hx.out.ext he k (by rw [Hn.out]; exact hlt)
      have hxk := Hxs.out (xs[k]?.getD 0) (by have := Hn.out; simp [show k < xs.length by omega])
      obtain ⟨X, hX⟩ : ∃ X : Nat, xs[k]?.getD 0 = (X : Int) := ⟨(xs[k]?.getD 0).toNat, by omega⟩
      rw [hX] at ca hxk
      obtain ⟨b2, o2, rfl, A', cap', hcap, p1, p2, p3, p4, p5⟩ := H7.out.ext he X (by omega)
      have Hrv : Hid (rvI (xs.take (k + 1)) = X :: rvI (xs.take k)) := by
        unfold Hid; rw [rvI_take (by rw [Hn.out]; exact hlt), hX]; rfl
      have hob := (check_orders Hch.out).1 (m.orders[X]?.getD default) (by simp [show X < m.orders.length by omega])
      have Hpat : Hid (m.pat X = (m.orders[X]?.getD default).pattern ∧ m.dys X = (m.orders[X]?.getD default).days) := ⟨rfl, rfl⟩
      clear p5
      generalize m.orders[X]?.getD default = x0 at *
      have HX := Lib.hid hX; clear hX
      obtain ⟨k0, k1, k2⟩ := hM'.c3
      have hX2 := Ext.alloc wr (.cells #[.int .i64 x0.pattern, .int .i64 x0.days, .int .i64 x0.by_, .slice A' x0.on.length cap'] 28)
      have hbo := Blk.new wr 28 #[.int .i64 x0.pattern, .int .i64 x0.days, .int .i64 x0.by_, .slice A' x0.on.length cap']
      have hMo := hM'.ext hX2
      obtain ⟨g, hg⟩ : ∃ g, chg p x0.pattern = g := ⟨_, rfl⟩
      have hgb : 0 ≤ g ∧ g ≤ 1 := by rw [← hg]; exact chg_bd _ _
      have hcall := Lib.hid (changed_r p x0.pattern g hg (wr.alloc (.cells #[.int .i64 x0.pattern, .int .i64 x0.days, .int .i64 x0.by_, .slice A' x0.on.length cap'] 28)))
      have hgm : Hid (0 ≤ g * m.change ∧ g * m.change ≤ 5 ∧ m.change * g = g * m.change) := by
        refine ⟨?_, ?_, Int.mul_comm _ _⟩
        · rcases (show g = 0 ∨ g = 1 by omega) with e | e <;> rw [e] <;> omega
        · rcases (show g = 0 ∨ g = 1 by omega) with e | e <;> rw [e] <;> omega
      have Hg := Lib.hid hg; clear hg
      obtain ⟨g0, g1, g2, g3⟩ := hbo.c4
      obtain ⟨n0, n1, n2⟩ := hMo.c3
      obtain ⟨BB, cB, rfl, oo1, oo2, oo3, oo4, oo5⟩ := ho.out.open_
      have hlen := endsF_len m l xs k
      rw [hlen] at oo1 ho ⊢
      have HL := Lib.hid hlen; clear hlen
      have O4 := Lib.hid oo4; clear oo3 oo4 oo5
      have hcap2 := hcap.2
      obtain ⟨gm, hgme⟩ : ∃ gm, g * m.change = gm := ⟨_, rfl⟩
      have hgmb := hgm.out
      rw [hgme] at hgmb
      have hgmb1 := hgmb.1
      have hgmb2 := hgmb.2.1
      have Hgm3 := Lib.hid hgmb.2.2
      clear hgmb hgm
      have Hs2 : Hid (lastPat m l (rvI (xs.take (k + 1))) = x0.pattern ∧ dyR m l (rvI (xs.take (k + 1))) = d + gm + x0.days ∧ chR m l (rvI (xs.take (k + 1))) = ch + g) := by
        obtain ⟨z1, z2, z3⟩ := hspec.out
        obtain ⟨z5, z6⟩ := Hpat.out
        unfold Hid
        rw [Hrv.out]
        refine ⟨z5, ?_, ?_⟩
        · rw [dyR, z1, z2, z5, z6, Hg.out, Hgm3.out]
        · rw [chR, z1, z3, z5, Hg.out]
      go_wp2_with fail
      refine hcall.out.mono ?_
      rintro e w' ⟨rfl, rfl⟩
      go_wp2_with fail
      go_quiet (fail)
      have heQ := hX2.trans (Ext.drewN (wr.alloc (.cells #[.int .i64 x0.pattern, .int .i64 x0.days, .int .i64 x0.by_, .slice A' x0.on.length cap'] 28)) nq)
      clear hMo hbo hX2 g0 g1 g2 g3 n0 n1 n2 hcall
      generalize World.drewN _ nq = W8 at *
      have hoQ : Hid (OwnI W8 (w.heap.size + 1) 3 (.slice BB k cB) (endsF m l xs k)) := ho.out.ext heQ
      have hszQ := heQ.size
      go_wp2_with (at_builtin; refine wpList_app rfl _ _ 22 rfl (w.heap.size + 1) 3 ti (.int .i64 0) 1 8 Tryz.underlying22 hi hz0 hz1 hz2 rfl (by decide) _ _ _ rfl (ownsRow_alloc_of HL.out hoQ.out) (some ⟨W8.heap.size, 0, none⟩) 1 1 [.int .i64 (d + gm + x0.days)] rfl rfl (Src.one _ _ _) ?c2 ?c3 ?c4 ?c5 ?_; (case c2 => (intro u hu; simp at hu; subst hu; rfl)); (case c3 => (unfold maxLen; omega)); (case c4 => omega); (case c5 => (simp; omega)); intro v' w' hown' hg hblk)
      go_roundw
      case rel =>
        have hge := own_ge O4.out (L := k) (c := cB)
        have heA := he.trans heQ
        refine ⟨k + 1, _, _, _, by omega, by go_num, rfl, rfl, rfl, ?_, ?_, Hs2, ext_grown heA hg (fun j hj => by have := hge j hj; omega), ?_, ((hM'.ext heQ).alloc _).grown hg (fun e => by have := hge _ e.symm; omega), ?_⟩
        · omega
        · omega
        · have := hg.size; simp at this; omega
        · unfold Hid
          rw [endsF_succ, Hs2.out.2.1]
          unfold OwnI
          rw [List.map_append, List.length_append, HL.out]
          exact hown'
      case measure => simp [intOf]; omega
    · obtain rfl : k = n := by omega
      go_wp2_with fail
      have e : xs.take k = xs := List.take_of_length_le (by have := Hn.out; omega)
      have h := hspec.out
      rw [e] at h
      obtain ⟨-, -, z3⟩ := h
      rw [z3]
      go_ret2
      exact ⟨_, rfl, ho.out.mono (by omega), he⟩
end Go.Proofs.Pet

namespace Go.Proofs.Pet
open Go Go.RowKit Go.Maps Go.Shelf

set_option maxRecDepth 20000 in
theorem twice_any (A : Option Addr) (c : Nat) (l : List Int) (q : Bool) (hq : twiceB l = q) (w : World) (hl : l.length ≤ maxLen) (hlc : l.length ≤ c) (hx : IntsAt w A l) :
    Calls Tryz.prog 152 #[.slice A l.length c] w fun e w' => e = .returned (.bool q) ∧ w = w' := by
  unfold maxLen at hl
  have Hq0 := Lib.hid hq; clear hq
  go_enter Tryz.func152, Tryz.ntmps152
  go_wp2_with fail
  go_loopw [7] (fun i wr => ∃ k : Nat, k ≤ l.length ∧ i = .int .i64 k ∧ w = wr ∧ Hid (∀ j, j < k → (l.take j).contains (l[j]?.getD 0) = false)) (fun i _ => l.length - (intOf i).toNat)
  case atStart => exact ⟨0, by omega, rfl, rfl, fun j hj => absurd hj (by omega)⟩
  case round =>
    obtain ⟨k, hk, rfl, rfl, hm⟩ := hrel
    by_cases hlt : k < l.length
    · obtain ⟨b, o, rfl, q1⟩ := hx k hlt
      obtain ⟨q', hq'⟩ : ∃ q, (l.take k).contains (l[k]?.getD 0) = q := ⟨_, rfl⟩
      have hlk : (l.take k).length = k := by rw [List.length_take]; omega
      have Ho := Lib.hid (contains_any (l[k]?.getD 0) (some ⟨b, o, none⟩) c k (l.take k) hlk q' hq' w (by unfold maxLen; omega) (hx.take k))
      have Hq := Lib.hid hq'; clear hq' hlk
      have htw : Hid (q' = true → q = true) := fun h => by rw [← Hq0.out]; exact twiceB_true hlt (by rw [← h]; exact Hq.out)
      generalize hgx : l[k]?.getD 0 = y at *
      have Hgx := Lib.hid hgx; clear hgx
      go_wp2_with fail
      refine Ho.out.mono ?_
      rintro e w' ⟨rfl, rfl⟩
      cases q' with
      | true =>
        have hr := htw.out rfl
        subst hr
        go_wp2_with fail
        go_ret
        exact ⟨rfl, rfl⟩
      | false =>
        go_wp2_with fail
        go_roundw
        case rel =>
          refine ⟨k + 1, by omega, by go_num, by trivial, fun j hj => ?_⟩
          by_cases ej : j = k
          · subst ej; rw [Hgx.out]; exact Hq.out
          · exact hm.out j (by omega)
        case measure => simp [intOf]; omega
    · have hr : q = false := by rw [← Hq0.out]; exact twiceB_false fun j hj => hm.out j (by omega)
      subst hr
      go_wp2_with fail
      go_ret
      exact ⟨rfl, rfl⟩
def listE (m : Mill) (l : List Int) : Int := if checkE m = 0 then listedE m l else checkE m
set_option maxRecDepth 20000 in
theorem listed_any (v : Value) (m : Mill) (A : Option Addr) (c : Nat) (l : List Int) (r : Int) (hr : listE m l = r) (w : World) (hv : MillVal w v m) (hlc : l.length ≤ c) (hl : c ≤ maxLen) (hx : IntsAt w A l) :
    Calls Tryz.prog 114 #[v, .slice A l.length c] w fun e w' => e = .returned (.int .i64 r) ∧ Ext w w' := by
  have hmf : ∀ (fn : Fn) (first cap : Array Value) (w : World), (Instr.makeFunc fn first cap).run Tryz.prog w = .ok (.func fn first cap) w := fun _ _ _ _ => rfl
  have Hr := Lib.hid hr; clear hr
  have Hv := Lib.hid hv
  obtain ⟨A1, c1, A2, c2, rfl, h2, h3, h4, h5, h6, h7⟩ := hv
  have hE := Ext.alloc w (.cells #[.slice A1 m.laced.length c1, .int .i64 m.change, .slice A2 m.orders.length c2] 25)
  have hM := Blk.new w 25 #[.slice A1 m.laced.length c1, .int .i64 m.change, .slice A2 m.orders.length c2]
  have hch := Lib.hid (check_any _ m _ (Hv.out.ext hE))
  have Hx := Lib.hid hx
  clear h6 h7 h3 h5 hx
  obtain ⟨k0, k1, k2⟩ := hM.c3
  by_cases h0 : checkE m = 0
  · have hr2 : Hid (listedE m l = r) := by unfold Hid; rw [← Hr.out]; unfold listE; rw [if_pos h0]
    rw [h0] at hch
    clear h0
    go_enter Tryz.func114, Tryz.ntmps114
    go_wp2_with fail
    refine hch.out.mono ?_
    rintro e w1 ⟨rfl, he1⟩
    have hE1 := hE.trans he1
    have hM1 := hM.ext he1
    clear hM hE he1 hch k0 k1 k2
    obtain ⟨k0, k1, k2⟩ := hM1.c3
    obtain ⟨q1, hq1⟩ : ∃ q, (l.all fun k => inB k 0 (m.orders.length - 1)) = q := ⟨_, rfl⟩
    have hev := everyI 151 #[.agg #[.slice A1 m.laced.length c1, .int .i64 m.change, .slice A2 m.orders.length c2]] #[] (enters_of Tryz.func151 (by kernel_rfl) rfl) (fun n => inB n 0 (m.orders.length - 1)) A c l w1 (Nat.le_trans hlc hl) (Hx.out.ext hE1) (fun x _ => by
      intro W u hW hu
      obtain rfl : u = .int .i64 x := hu
      exact order_any _ m x _ rfl W (Hv.out.ext (hE1.trans hW)))
    rw [hq1] at hev
    have Hev := Lib.hid hev; clear hev
    have Hq1 := Lib.hid hq1; clear hq1
    obtain ⟨q2, hq2⟩ : ∃ q, twiceB l = q := ⟨_, rfl⟩
    have Htw := fun W (hW : Ext w1 W) => twice_any A c l q2 hq2 W (Nat.le_trans hlc hl) hlc ((Hx.out.ext hE1).ext hW)
    have Htw' := Lib.hid Htw; clear Htw
    have Hq2 := Lib.hid hq2; clear hq2
    go_wp2_with fail
    refine Hev.out.mono ?_
    rintro e w2 ⟨rfl, he2⟩
    clear Hev
    cases q1 with
    | false =>
      have hr : r = 1 := by rw [← hr2.out]; unfold listedE; rw [Hq1.out]; rfl
      subst hr
      go_wp2_with fail
      go_ret
      exact ⟨rfl, hE1.trans he2⟩
    | true =>
      go_wp2_with fail
      refine (Htw'.out w2 he2).mono ?_
      rintro e w3 ⟨rfl, rfl⟩
      cases q2 with
      | true =>
        have hr : r = 5 := by rw [← hr2.out]; unfold listedE; rw [Hq1.out, Hq2.out]; rfl
        subst hr
        go_wp2_with fail
        go_ret
        exact ⟨rfl, hE1.trans he2⟩
      | false =>
        have hr : r = 0 := by rw [← hr2.out]; unfold listedE; rw [Hq1.out, Hq2.out]; rfl
        subst hr
        go_wp2_with fail
        go_ret
        exact ⟨rfl, hE1.trans he2⟩
  · have hr2 : checkE m = r := by rw [← Hr.out]; unfold listE; rw [if_neg h0]
    have hd : (r != 0) = true := by rw [← hr2]; simpa using h0
    rw [hr2] at hch
    clear h0 hr2
    go_enter Tryz.func114, Tryz.ntmps114
    go_wp2_with fail
    refine hch.out.mono ?_
    rintro e w1 ⟨rfl, he1⟩
    go_wp2_with fail
    go_ret
    exact ⟨rfl, hE.trans he1⟩
end Go.Proofs.Pet

namespace Go.Proofs.Pet
open Go Go.RowKit Go.Maps Go.Shelf

def runE (m : Mill) (l : Int) (xs : List Int) : Int := if checkE m = 0 then runningE m l xs else checkE m
theorem run1_any (m : Mill) (l x : Int) (hx : 0 ≤ x ∧ x < m.orders.length) (B C : Nat) (mv : Value) (w : World) (hv : MillVal w mv m) (hB : ∃ A1 c1 A2 c2, mv = .agg #[.slice A1 m.laced.length c1, .int .i64 m.change, .slice A2 m.orders.length c2] ∧ Blk w B 25 #[.slice A1 m.laced.length c1, .int .i64 m.change, .slice A2 m.orders.length c2]) (hC : Blk w C 3 #[.int .i64 l]) :
    Calls Tryz.prog 149 #[.int .i64 x, .pointer (some ⟨B, 0, none⟩), .pointer (some ⟨C, 0, none⟩)] w fun e w' => e = .returned (.bool (weavesI m l x)) ∧ Ext w w' := by
  obtain ⟨A1, c1, A2, c2, rfl, hB⟩ := hB
  obtain ⟨k, rfl⟩ : ∃ k : Nat, x = (k : Int) := ⟨x.toNat, by omega⟩
  have hw := Lib.hid (weaves_any _ m l k (by omega) (weavesI m l k) rfl w hv)
  generalize weavesI m l k = q at *
  clear hv
  obtain ⟨k0, k1, k2⟩ := hB.c3
  have k3 := hC.c1
  go_enter Tryz.func149, Tryz.ntmps149
  go_wp2_with fail
  refine hw.out.mono ?_
  rintro e w' ⟨rfl, he⟩
  go_wp2_with fail
  go_ret
  exact ⟨rfl, he⟩
theorem inB_range {m : Mill} {xs : List Int} (h : (xs.all fun k => inB k 0 (m.orders.length - 1)) = true) : ∀ x, x ∈ xs → 0 ≤ x ∧ x < m.orders.length := by
  intro x hx
  have := List.all_eq_true.1 h x hx
  unfold inB at this
  simp only [Bool.and_eq_true, decide_eq_true_eq] at this
  omega
theorem listedE_ok {m : Mill} {xs : List Int} (h : listedE m xs = 0) : (xs.all fun k => inB k 0 (m.orders.length - 1)) = true ∧ twiceB xs = false := by
  unfold listedE at h
  split at h
  · omega
  · rename_i h1
    split at h
    · omega
    · rename_i h2
      exact ⟨by simpa using h1, by simpa using h2⟩
set_option maxRecDepth 20000 in
set_option maxHeartbeats 1000000 in
theorem run_any (v : Value) (m : Mill) (l : Int) (A : Option Addr) (c : Nat) (xs : List Int) (r : Int) (hr : runE m l xs = r) (w : World) (hv : MillVal w v m) (hlc : xs.length ≤ c) (hl : c ≤ maxLen) (hx : IntsAt w A xs) :
    Calls Tryz.prog 107 #[v, .int .i64 l, .slice A xs.length c] w fun e w' => e = .returned (.int .i64 r) ∧ Ext w w' := by
  have hmf : ∀ (fn : Fn) (first cap : Array Value) (w : World), (Instr.makeFunc fn first cap).run Tryz.prog w = .ok (.func fn first cap) w := fun _ _ _ _ => rfl
  have Hr := Lib.hid hr; clear hr
  have Hv := Lib.hid hv
  obtain ⟨A1, c1, A2, c2, rfl, h2, h3, h4, h5, h6, h7⟩ := hv
  have hE : Ext w ((w.alloc (.cells #[.slice A1 m.laced.length c1, .int .i64 m.change, .slice A2 m.orders.length c2] 25)).alloc (.cells #[.int .i64 l] 3)) := (Ext.alloc _ _).trans (Ext.alloc _ _)
  have hM := (Blk.new w 25 #[.slice A1 m.laced.length c1, .int .i64 m.change, .slice A2 m.orders.length c2]).alloc (.cells #[.int .i64 l] 3)
  have hL := Blk.new (w.alloc (.cells #[.slice A1 m.laced.length c1, .int .i64 m.change, .slice A2 m.orders.length c2] 25)) 3 #[.int .i64 l]
  rw [World.size_alloc] at hL
  have hch := Lib.hid (check_any _ m _ (Hv.out.ext hE))
  have Hx := Lib.hid hx
  clear h6 h7 h3 h5 hx
  obtain ⟨k0, k1, k2⟩ := hM.c3
  by_cases h0 : checkE m = 0
  · have hr2 : Hid (runningE m l xs = r) := by unfold Hid; rw [← Hr.out]; unfold runE; rw [if_pos h0]
    have hli : Hid (listE m xs = listedE m xs) := by unfold Hid listE; rw [if_pos h0]
    rw [h0] at hch
    clear h0
    go_enter Tryz.func107, Tryz.ntmps107
    go_wp2_with fail
    refine hch.out.mono ?_
    rintro e w1 ⟨rfl, he1⟩
    have hE1 := hE.trans he1
    have hM1 := hM.ext he1
    have hL1 := hL.ext he1
    clear hM hE hL he1 hch k0 k1 k2
    obtain ⟨k0, k1, k2⟩ := hM1.c3
    have k3 := hL1.c1
    obtain ⟨q1, hq1⟩ : ∃ q, inB l 0 (m.laced.length - 1) = q := ⟨_, rfl⟩
    have hlo := Lib.hid (loom_any _ m l q1 hq1 w1 (Hv.out.ext hE1))
    have Hq1 := Lib.hid hq1; clear hq1
    go_wp2_with fail
    refine hlo.out.mono ?_
    rintro e w2 ⟨rfl, he2⟩
    have hE2 := hE1.trans he2
    have hM2 := hM1.ext he2
    have hL2 := hL1.ext he2
    clear hM1 hE1 hL1 he2 hlo k0 k1 k2 k3
    obtain ⟨k0, k1, k2⟩ := hM2.c3
    cases q1 with
    | false =>
      have hr : r = 1 := by rw [← hr2.out]; unfold runningE; rw [if_pos Hq1.out]
      subst hr
      go_wp2_with fail
      go_ret
      exact ⟨rfl, hE2⟩
    | true =>
      obtain ⟨le, hle⟩ : ∃ le, listedE m xs = le := ⟨_, rfl⟩
      have hlist := Lib.hid (listed_any _ m A c xs le (by rw [hli.out]; exact hle) w2 (Hv.out.ext hE2) hlc hl (Hx.out.ext hE2))
      have hrs : Hid (runningE m l xs = if le ≠ 0 then le else if (xs.all fun k => weavesI m l k) = false then 8 else 0) := by
        unfold Hid runningE; rw [if_neg (by rw [Hq1.out]; simp), hle]
      have Hle := Lib.hid hle; clear hle
      go_wp2_with fail
      refine hlist.out.mono ?_
      rintro e w3 ⟨rfl, he3⟩
      have hE3 := hE2.trans he3
      have hM3 := hM2.ext he3
      have hL3 := hL2.ext he3
      clear hM2 hE2 hL2 he3 hlist k0 k1 k2
      by_cases hl0 : le = 0
      · subst hl0
        have hrange := inB_range (listedE_ok Hle.out).1
        obtain ⟨q2, hq2⟩ : ∃ q, (xs.all fun k => weavesI m l k) = q := ⟨_, rfl⟩
        have hev := everyI 149 #[] #[.pointer (some ⟨w.heap.size, 0, none⟩), .pointer (some ⟨w.heap.size + 1, 0, none⟩)] (enters_of Tryz.func149 (by kernel_rfl) rfl) (fun n => weavesI m l n) A c xs w3 (Nat.le_trans hlc hl) (Hx.out.ext hE3) (fun x hx' => by
          intro W u hW hu
          obtain rfl : u = .int .i64 x := hu
          exact run1_any m l x (hrange x hx') _ _ _ W (Hv.out.ext (hE3.trans hW)) ⟨A1, c1, A2, c2, rfl, hM3.ext hW⟩ (hL3.ext hW))
        rw [hq2] at hev
        have Hev := Lib.hid hev; clear hev hrange
        have Hq2 := Lib.hid hq2; clear hq2
        go_wp2_with fail
        refine Hev.out.mono ?_
        rintro e w4 ⟨rfl, he4⟩
        cases q2 with
        | true =>
          have hr : r = 0 := by rw [← hr2.out, hrs.out, Hq2.out]; simp
          subst hr
          go_wp2_with fail
          go_ret
          exact ⟨rfl, hE3.trans he4⟩
        | false =>
          have hr : r = 8 := by rw [← hr2.out, hrs.out, Hq2.out]; simp
          subst hr
          go_wp2_with fail
          go_ret
          exact ⟨rfl, hE3.trans he4⟩
      · have hr : r = le := by rw [← hr2.out, hrs.out, if_pos hl0]
        have hd : (le != 0) = true := by simpa using hl0
        clear hl0
        subst hr
        go_wp2_with fail
        go_ret
        exact ⟨rfl, hE3⟩
  · have hr2 : checkE m = r := by rw [← Hr.out]; unfold runE; rw [if_neg h0]
    have hd : (r != 0) = true := by rw [← hr2]; simpa using h0
    rw [hr2] at hch
    clear h0 hr2
    go_enter Tryz.func107, Tryz.ntmps107
    go_wp2_with fail
    refine hch.out.mono ?_
    rintro e w1 ⟨rfl, he1⟩
    go_wp2_with fail
    go_ret
    exact ⟨rfl, hE.trans he1⟩
/-- the set of some orders -/
def setF (xs : List Int) : Nat := xs.foldl (fun s x => s ||| 2 ^ x.toNat) 0
theorem setF_snoc (xs : List Int) (x : Int) : setF (xs ++ [x]) = setF xs ||| 2 ^ x.toNat := by unfold setF; rw [List.foldl_append]; rfl
theorem setF_lt {n : Nat} (xs : List Int) (h : ∀ x, x ∈ xs → 0 ≤ x ∧ x < n) : ∀ k, setF (xs.take k) < 2 ^ n := by
  intro k
  induction k with
  | zero => simp [setF]; exact Nat.two_pow_pos n
  | succ k ih =>
    by_cases hk : k < xs.length
    · rw [List.take_succ_eq_append_getElem hk, setF_snoc]
      have hx := h xs[k] (List.getElem_mem hk)
      refine Nat.or_lt_two_pow ih ((Nat.pow_lt_pow_iff_right (by omega)).2 (by omega))
    · rw [List.take_of_length_le (by omega)] at ih ⊢
      exact ih
set_option maxRecDepth 20000 in
theorem set_any (A : Option Addr) (c : Nat) (xs : List Int) (n s : Nat) (hn : n ≤ 7) (hxs : ∀ x, x ∈ xs → 0 ≤ x ∧ x < n) (hs : setF xs = s) (w : World) (hl : xs.length ≤ maxLen) (hx : IntsAt w A xs) :
    Calls Tryz.prog 45 #[.slice A xs.length c] w fun e w' => e = .returned (.int .i64 s) ∧ w = w' := by
  unfold maxLen at hl
  have Hs := Lib.hid hs; clear hs
  have hlt128 : Hid (∀ k, setF (xs.take k) < 128) := fun k => by
    have h0 := setF_lt xs hxs k
    have h1 : 2 ^ n ≤ 2 ^ 7 := Nat.pow_le_pow_right (by omega) hn
    have h2 : (2 : Nat) ^ 7 = 128 := by decide
    omega
  have Hxs := Lib.hid hxs; clear hxs
  go_enter Tryz.func45, Tryz.ntmps45
  go_wp2_with fail
  go_loopw [3, 8] (fun sv iv wr => ∃ (k t : Nat), k ≤ xs.length ∧ iv = .int .i64 k ∧ sv = .int .i64 t ∧ t < 128 ∧ Hid (setF (xs.take k) = t) ∧ w = wr) (fun _ iv _ => xs.length - (intOf iv).toNat)
  case atStart => exact ⟨0, 0, by omega, rfl, rfl, by omega, rfl, rfl⟩
  case round =>
    obtain ⟨k, t, hk, rfl, rfl, ht, hst, rfl⟩ := hrel
    by_cases hlt : k < xs.length
    · obtain ⟨b, o, rfl, q1⟩ := hx k hlt
      have hxk := Hxs.out (xs[k]?.getD 0) (by simp [hlt])
      obtain ⟨X, hX⟩ : ∃ X : Nat, xs[k]?.getD 0 = (X : Int) := ⟨(xs[k]?.getD 0).toNat, by omega⟩
      have hn2 : Hid (setF (xs.take (k + 1)) = t ||| 2 ^ X) := by
        unfold Hid
        rw [List.take_succ_eq_append_getElem hlt, setF_snoc, hst.out]
        have : xs[k] = (X : Int) := by simpa [hlt] using hX
        rw [this]; rfl
      have ht2 : t ||| 2 ^ X < 128 := by rw [← hn2.out]; exact hlt128.out (k + 1)
      rw [hX] at q1 hxk
      clear hX
      have hp : 2 ^ X ≤ 64 := by
        have h1 : 2 ^ X ≤ 2 ^ 6 := Nat.pow_le_pow_right (by omega) (by omega)
        have h2 : (2 : Nat) ^ 6 = 64 := by decide
        omega
      have hpo : (2 : Int) ^ X = ((2 ^ X : Nat) : Int) := by simp
      have hor := or64 t (2 ^ X) (by omega) (by omega)
      obtain ⟨P, hP⟩ : ∃ P, 2 ^ X = P := ⟨_, rfl⟩
      rw [hP] at hpo hor hp ht2
      simp only [hP] at hn2
      clear hP
      generalize t ||| P = T at *
      go_wp2_with fail
      go_roundw
      case rel => exact ⟨k + 1, T, by omega, by go_num, rfl, ht2, hn2, by trivial⟩
      case measure => simp [intOf]; omega
    · have : s = t := by rw [← Hs.out, ← hst.out, List.take_of_length_le (by omega)]
      subst this
      go_wp2_with fail
      go_ret
      exact ⟨rfl, rfl⟩
end Go.Proofs.Pet

namespace Go.Proofs.Pet
open Go Go.RowKit Go.Maps Go.Shelf

def costE (m : Mill) (l : Int) (xs : List Int) : Int × Int :=
  if runE m l xs ≠ 0 then (0, runE m l xs) else if numC m l.toNat (setF xs) = 99 then (0, 6) else (numC m l.toNat (setF xs), 0)
set_option maxRecDepth 20000 in
set_option maxHeartbeats 1000000 in
theorem cost_any (v : Value) (m : Mill) (l : Int) (A : Option Addr) (c : Nat) (xs : List Int) (r : Int × Int) (hr : costE m l xs = r) (w : World) (hv : MillVal w v m) (hlc : xs.length ≤ c) (hl : c ≤ maxLen) (hx : IntsAt w A xs) :
    Calls Tryz.prog 44 #[v, .int .i64 l, .slice A xs.length c] w fun e w' => e = .returned (.tuple #[.int .i64 r.1, .int .i64 r.2]) ∧ Ext w w' := by
  have Hr := Lib.hid hr; clear hr
  have Hv := Lib.hid hv
  obtain ⟨A1, c1, A2, c2, rfl, h2, h3, h4, h5, h6, h7⟩ := hv
  have hE := Ext.alloc w (.cells #[.slice A1 m.laced.length c1, .int .i64 m.change, .slice A2 m.orders.length c2] 25)
  have hM := Blk.new w 25 #[.slice A1 m.laced.length c1, .int .i64 m.change, .slice A2 m.orders.length c2]
  have Hx := Lib.hid hx
  clear h6 h7 h3 h5 hx
  obtain ⟨k0, k1, k2⟩ := hM.c3
  obtain ⟨e0, he0⟩ : ∃ e0, runE m l xs = e0 := ⟨_, rfl⟩
  have hrun := Lib.hid (run_any _ m l A c xs e0 he0 _ (Hv.out.ext hE) hlc hl (Hx.out.ext hE))
  have He0 := Lib.hid he0; clear he0
  by_cases h0 : e0 = 0
  · subst h0
    have hck : checkE m = 0 := by
      have h := He0.out
      unfold runE at h
      by_cases e : checkE m = 0
      · exact e
      · rw [if_neg e] at h; exact absurd h e
    have hre : runningE m l xs = 0 := by
      have h := He0.out
      unfold runE at h
      rwa [if_pos hck] at h
    have hli : inB l 0 (m.laced.length - 1) = true ∧ listedE m xs = 0 := by
      unfold runningE at hre
      by_cases e : inB l 0 (m.laced.length - 1) = false
      · rw [if_pos e] at hre; omega
      · rw [if_neg e] at hre
        by_cases e2 : listedE m xs ≠ 0
        · rw [if_pos e2] at hre; exact absurd hre e2
        · exact ⟨by simpa using e, by omega⟩
    obtain ⟨l1, l2, l3⟩ := check_len hck
    have hlb : 0 ≤ l ∧ l < m.laced.length := by
      have := hli.1
      unfold inB at this
      simp only [Bool.and_eq_true, decide_eq_true_eq] at this
      omega
    obtain ⟨ln, rfl⟩ : ∃ ln : Nat, l = (ln : Int) := ⟨l.toNat, by omega⟩
    have hrange := inB_range (listedE_ok hli.2).1
    have hslt := setF_lt xs hrange xs.length
    rw [List.take_length] at hslt
    obtain ⟨N, hN⟩ : ∃ N, N = 2 ^ m.orders.length := ⟨_, rfl⟩
    obtain ⟨s, hs⟩ : ∃ s, setF xs = s := ⟨_, rfl⟩
    rw [hs] at hslt
    have hrr : Hid ((if numC m ln s = 99 then (0, 6) else (numC m ln s, 0)) = r) := by
      unfold Hid
      rw [← Hr.out]
      unfold costE
      rw [if_neg (show ¬ (runE m (ln : Int) xs ≠ 0) by rw [He0.out]; simp), hs]
      rfl
    have Hset := fun W (hW : Ext w W) => set_any A c xs m.orders.length s l3 hrange hs W (Nat.le_trans hlc hl) (Hx.out.ext hW)
    have Hset' := Lib.hid Hset; clear Hset
    have HN := Lib.hid hN; clear hN
    have Hck := Lib.hid hck
    have Hslt := Lib.hid hslt
    clear hck hre hli hrange hs hslt
    go_enter Tryz.func44, Tryz.ntmps44
    go_wp2_with fail
    refine hrun.out.mono ?_
    rintro e w1 ⟨rfl, he1⟩
    have hE1 := hE.trans he1
    have hM1 := hM.ext he1
    clear hM hE he1 hrun k0 k1 k2
    obtain ⟨k0, k1, k2⟩ := hM1.c3
    have hop := Lib.hid (opened_any _ m Hck.out w1 (Hv.out.ext hE1))
    go_wp2_with fail
    refine hop.out.mono ?_
    rintro e w2 ⟨D, rfl, hDs, hD, he2⟩
    have hE2 := hE1.trans he2
    have hco := Lib.hid (costs_any D m Hck.out w2 hD)
    clear hM1 hE1 he2 hop k0 k1 k2 hD
    go_wp2_with fail
    refine hco.out.mono ?_
    rintro e w3 ⟨B, rfl, hB, hc, he3⟩
    have hE3 := hE2.trans he3
    clear hco he3 hE2
    have hgc := Lib.hid (gives_cheapest B m Hck.out N HN.out w3 hc w3 (Ext.refl _) ln s (by omega) (by rw [HN.out]; exact Hslt.out))
    obtain ⟨nc, hnc⟩ : ∃ nc, numC m ln s = nc := ⟨_, rfl⟩
    rw [hnc] at hgc
    simp only [hnc] at hrr
    clear hnc hc
    go_wp2_with fail
    refine (Hset'.out w3 hE3).mono ?_
    rintro e w4 ⟨rfl, rfl⟩
    go_wp2_with fail
    refine hgc.out.mono ?_
    rintro e w5 ⟨rfl, he5⟩
    by_cases h99 : nc = 99
    · subst h99
      have hr := hrr.out
      simp only [if_true] at hr
      subst hr
      go_wp2_with fail
      go_ret2
      exact ⟨rfl, hE3.trans he5⟩
    · have hr := hrr.out
      rw [if_neg h99] at hr
      have hd : (nc == 99) = false := by simpa using h99
      clear h99
      subst hr
      go_wp2_with fail
      go_ret2
      exact ⟨rfl, hE3.trans he5⟩
  · have hr2 : (0, e0) = r := by rw [← Hr.out]; unfold costE; rw [if_pos (by rw [He0.out]; exact h0), He0.out]
    have hd : (e0 != 0) = true := by simpa using h0
    clear h0
    subst hr2
    go_enter Tryz.func44, Tryz.ntmps44
    go_wp2_with fail
    refine hrun.out.mono ?_
    rintro e w1 ⟨rfl, he1⟩
    go_wp2_with fail
    go_ret2
    exact ⟨rfl, hE.trans he1⟩
end Go.Proofs.Pet

namespace Go.Proofs.Pet
open Go Go.RowKit

theorem setF_acc (xs : List Int) (hx : ∀ x, x ∈ xs → 0 ≤ x) (k : Nat) : ∀ a : Nat, (xs.foldl (fun s x => s ||| 2 ^ x.toNat) a).testBit k = (a.testBit k || xs.contains (k : Int)) := by
  induction xs with
  | nil => intro a; simp
  | cons x xs ih =>
    intro a
    rw [List.foldl_cons, ih (fun y hy => hx y (by simp [hy])), Nat.testBit_or, Nat.testBit_two_pow, List.contains_cons]
    have h0 := hx x (by simp)
    have : decide (x.toNat = k) = ((k : Int) == x) := by
      rw [Bool.eq_iff_iff]; simp; omega
    rw [this, Bool.or_assoc]
theorem setF_testBit (xs : List Int) (hx : ∀ x, x ∈ xs → 0 ≤ x) (k : Nat) : (setF xs).testBit k = xs.contains (k : Int) := by
  unfold setF
  rw [setF_acc xs hx k 0]; simp
end Go.Proofs.Pet
