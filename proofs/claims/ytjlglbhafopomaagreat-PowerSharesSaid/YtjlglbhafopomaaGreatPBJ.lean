/-
  Proofs: Prove, Proves, walked.
-/
import Derived.Test.YtjlglbhafopomaaGreatPBI
namespace Go.Proofs.Pet
open Go Go.RowKit Go.Maps Go.Shelf
open Go.Proofs.Pow (PM Sh Wv POk Up sightF clrB opnS hitL explB clashB proofB)

/-- the best one of those of fewer than c weavers -/
def bestC (n : Nat) (p : List Nat → Bool) (c : Nat) : List Nat := (List.range c).foldl (fun b c => (Pow.firstF n fun l => decide (l.length = c) && p l).getD b) []
theorem bestC_succ (n : Nat) (p : List Nat → Bool) (c : Nat) : bestC n p (c + 1) = (Pow.firstF n fun l => decide (l.length = c) && p l).getD (bestC n p c) := by
  unfold bestC; rw [List.range_succ, List.foldl_append]; rfl
def provL (m : PM) (l : List Int) : List Int := if sureE m l = 0 then ints (Pow.proveF m.wvs.length (proofB m (sightF l))) else []
set_option maxRecDepth 20000 in
set_option maxHeartbeats 1000000 in
theorem Prove_any (v : Value) (m : PM) (A : Option Addr) (c n : Nat) (l : List Int) (hn : l.length = n) (r : Int) (x : List Int) (hr : sureE m l = r) (hx : provL m l = x) (w : World) (hv : PMVal w v m) (hl : n ≤ maxLen) (hA : IntsAt w A l) :
    Calls Tryz.prog 65 #[v, .slice A n c] w fun e w' => ∃ u, e = .returned (.tuple #[u, .int .i64 r]) ∧ OwnI w' w.heap.size 3 u x ∧ Ext w w' := by
  have hmf : ∀ (fn : Fn) (first cap : Array Value) (w : World), (Instr.makeFunc fn first cap).run Tryz.prog w = .ok (.func fn first cap) w := fun _ _ _ _ => rfl
  have Hv := Lib.hid hv
  obtain ⟨A1, c1, A2, c2, rfl, h2, h3, h4, h5, h6, h7⟩ := hv
  have hE : Ext w ((w.alloc (.cells #[.slice A1 m.shafts.length c1, .slice A2 m.wvs.length c2] 26)).alloc (.cells #[.slice A n c] 30)) := (Ext.alloc _ _).trans (Ext.alloc _ _)
  have hM := (Blk.new w 26 #[.slice A1 m.shafts.length c1, .slice A2 m.wvs.length c2]).alloc (.cells #[.slice A n c] 30)
  have hSb := Blk.new (w.alloc (.cells #[.slice A1 m.shafts.length c1, .slice A2 m.wvs.length c2] 26)) 30 #[.slice A n c]
  rw [World.size_alloc] at hSb
  obtain ⟨k0, k1⟩ := hM.c2
  have e0 := hSb.c1
  have HM := Lib.hid hM; have HSb := Lib.hid hSb
  obtain ⟨r0, hr0⟩ : ∃ r0, sightE m l = r0 := ⟨_, rfl⟩
  have ho := Lib.hid (sighted_any _ m A c n l hn r0 hr0 _ (Hv.out.ext hE) hl (hA.ext hE))
  have Hr := Lib.hid hr; have Hx := Lib.hid hx; have Hr0 := Lib.hid hr0
  clear h6 h7 hM hr hx hr0 hSb
  go_enter Tryz.func65, Tryz.ntmps65
  go_wp2_with fail
  refine ho.out.mono ?_
  rintro e w1 ⟨pv, rfl, he1, hop⟩
  have hE1 := hE.trans he1
  have hM1 := HM.out.ext he1
  have hS1 := HSb.out.ext he1
  clear k0 k1 ho e0
  have hX := Ext.alloc w1 (.cells #[.pointer pv] 135)
  by_cases h0 : r0 = 0
  · subst h0
    obtain ⟨D, rfl, hD, -⟩ := hop rfl
    obtain ⟨hck, hle, -⟩ := sightE_ok Hr0.out
    have Hm := Lib.hid ((checkP_iff m).1 hck)
    have hml := Hm.out.few
    have hDb := Blk.new w1 135 #[.pointer (some ⟨D, 0, none⟩)]
    have hEX := hE1.trans hX
    have Hn := Lib.hid hn; have Hle := Lib.hid (hn.symm.trans hle)
    have HD := Lib.hid (hD.ext hX); have HA := Lib.hid (hA.ext hEX)
    have HM2 := Lib.hid (hM1.ext hX); have HS2 := Lib.hid (hS1.ext hX); have HDb := Lib.hid hDb
    obtain ⟨q, hq⟩ : ∃ q, clashB m (sightF l) = q := ⟨_, rfl⟩
    have Hq := Lib.hid hq
    have e0 := hDb.c1
    have e1 := HS2.out.c1
    obtain ⟨Db, hDbe⟩ : ∃ Db, w1.heap.size = Db := ⟨_, rfl⟩
    rw [hDbe] at HDb e0
    have HDbe := Lib.hid hDbe
    clear hD hck hle hn hop hA hX hM1 hS1 hDb
    go_upto_region 2 with fail
    try rw [hDbe]
    clear hDbe
    generalize w1.alloc _ = W2 at *
    have hcl := Lib.hid (clash_any D m Hm.out A c n l Hn.out Hle.out q hq W2 HD.out HA.out)
    clear hq
    go_wp2_with fail
    refine hcl.out.mono ?_
    rintro e w2 ⟨rfl, he2⟩
    have hE2 := hEX.trans he2
    clear hcl e0 e1
    cases q with
    | true =>
      obtain rfl : r = 7 := by rw [← Hr.out]; unfold sureE; rw [if_neg (by simp [Hr0.out]), if_pos Hq.out]
      obtain rfl : x = [] := by rw [← Hx.out]; unfold provL; rw [Hr.out]; rfl
      go_wp2_with fail
      go_ret2
      exact ⟨_, rfl, OwnI.nil _ _ _, hE2⟩
    | false =>
      obtain rfl : r = 0 := by rw [← Hr.out]; unfold sureE; rw [if_neg (by simp [Hr0.out]), if_neg (by simp [Hq.out])]
      have Hx2 : Hid (ints (bestC m.wvs.length (proofB m (sightF l)) (m.wvs.length + 1)) = x) := by
        unfold Hid
        rw [← Hx.out]
        unfold provL
        rw [if_pos Hr.out]
        rfl
      obtain ⟨k0, k1⟩ := (HM2.out.ext he2).c2
      have hmw : (m.wvs.length : Int) ≤ 6 := by omega
      go_wp2_with fail
      clear k0 k1
      go_loopw [8, 30] (fun v iv wr => ∃ k : Nat, k ≤ m.wvs.length + 1 ∧ iv = .int .i64 (k : Int) ∧ Hid (OwnI wr w2.heap.size 3 v (ints (bestC m.wvs.length (proofB m (sightF l)) k))) ∧ Ext w2 wr) (fun _ iv _ => m.wvs.length + 1 - (intOf iv).toNat)
      case atStart => exact ⟨0, Nat.zero_le _, rfl, Lib.hid (OwnI.nil _ _ _), Ext.refl _⟩
      case round =>
        obtain ⟨k, hk, rfl, hO, hew⟩ := hrel
        by_cases hlt : k < m.wvs.length + 1
        · have hd : decide ((k : Int) < (m.wvs.length : Int) + 1) = true := by simp; omega
          have hXk := Ext.alloc wr (.cells #[.int .i64 (k : Int)] 3)
          have hMb := Blk.new wr 3 #[.int .i64 (k : Int)]
          have heA := he2.trans (hew.trans hXk)
          obtain ⟨-, k1⟩ := (HM2.out.ext heA).c2
          have hfi := Lib.hid (first_any m.wvs.length 127 #[] #[.pointer (some ⟨wr.heap.size, 0, none⟩), .pointer (some ⟨Db, 0, none⟩), .pointer (some ⟨w.heap.size + 1, 0, none⟩)] (fun g => decide (g.length = k) && proofB m (sightF l) g) (by omega) _ (enters_of Tryz.func127 (by kernel_rfl) rfl)
            (fun g hg => prove1_any D wr.heap.size Db (w.heap.size + 1) k (by omega) m Hm.out A c n l Hn.out Hle.out _ hMb (HDb.out.ext heA) (HS2.out.ext heA) (HD.out.ext heA) (HA.out.ext heA) g hg))
          have hbs := bestC_succ m.wvs.length (proofB m (sightF l)) k
          obtain ⟨A5, c5, e5, -, -, -, -, -⟩ := hO.out.open_
          subst e5
          have hO2 := hO.out.ext hXk
          have hE5 := hew.trans hXk
          clear hXk hMb heA hO hew
          go_wp2_with fail
          refine hfi.out.mono ?_
          rintro e w3 ⟨A3, k3, c3, rfl, he3, hf⟩
          have hE6 := hE5.trans he3
          have hsz5 := hE5.size
          have hO3 := hO2.ext he3
          clear hfi hO2 he3
          cases hq2 : Pow.firstF m.wvs.length (fun g => decide (g.length = k) && proofB m (sightF l) g) with
          | none =>
            rw [hq2] at hbs
            have Hbs := Lib.hid hbs
            have HO3 := Lib.hid hO3
            rw [Option.isSome_none]
            clear hf hq2 hbs hO3
            go_wp2_with fail
            go_roundw
            case rel => exact ⟨k + 1, by omega, by go_num, by rw [Hbs.out]; exact HO3, hE6⟩
            case measure => simp [intOf]; omega
          | some g =>
            rw [hq2] at hbs
            have Hbs := Lib.hid hbs
            have HO4 := Lib.hid ((hf g hq2).mono hsz5)
            rw [Option.isSome_some]
            clear hf hq2 hbs hO3
            go_wp2_with fail
            go_roundw
            case rel => exact ⟨k + 1, by omega, by go_num, by rw [Hbs.out]; exact HO4, hE6⟩
            case measure => simp [intOf]; omega
        · obtain rfl : k = m.wvs.length + 1 := by omega
          have hd : decide (((m.wvs.length + 1 : Nat) : Int) < (m.wvs.length : Int) + 1) = false := by simp
          have hO9 := hO.out
          rw [Hx2.out] at hO9
          have HO9 := Lib.hid hO9
          clear hO hO9
          go_wp2_with fail
          go_ret2
          exact ⟨_, rfl, HO9.out.mono hE2.size, hE2.trans hew⟩
  · obtain rfl : r = r0 := by rw [← Hr.out]; unfold sureE; rw [if_pos (by rw [Hr0.out]; exact h0), Hr0.out]
    obtain rfl : x = [] := by rw [← Hx.out]; unfold provL; rw [Hr.out, if_neg h0]
    have hd : (r != 0) = true := by simpa using h0
    clear hA h0 hop
    go_wp2_with fail
    go_ret2
    exact ⟨_, rfl, OwnI.nil _ _ _, hE1.trans hX⟩
def provE (m : PM) (l g : List Int) : Int := if sightE m l ≠ 0 then sightE m l else if (g.all fun k => inB k 0 (m.wvs.length - 1)) = false then 1 else if risingB g = false then 4 else if proofB m (sightF l) (natL g) = false then 8 else 0
end Go.Proofs.Pet
