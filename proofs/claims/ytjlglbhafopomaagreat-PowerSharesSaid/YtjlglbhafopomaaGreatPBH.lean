/-
  Sights: Cleared, Explains, Slipped, walked.
-/
import Derived.Test.YtjlglbhafopomaaGreatPBG
namespace Go.Proofs.Pet
open Go Go.RowKit Go.Maps Go.Shelf
open Go.Proofs.Pow (PM Sh Wv POk Up sightF clrB opnS hitL explB clashB proofB)

theorem sightE_ok {m : PM} {l : List Int} (h : sightE m l = 0) : checkP m = 0 ∧ l.length = m.wvs.length ∧ ∀ x, x ∈ l → 0 ≤ x ∧ x ≤ 2 := by
  unfold sightE at h
  split at h
  · rename_i h1; exact absurd h h1
  rename_i h1
  simp only [ne_eq, Decidable.not_not] at h1
  split at h
  · exact absurd h (by decide)
  rename_i h2
  split at h
  · exact absurd h (by decide)
  rename_i h3
  simp only [Bool.not_eq_false, List.all_eq_true] at h3
  exact ⟨h1, by omega, fun x hx => inB_iff.1 (h3 x hx)⟩
def clrL (m : PM) (l : List Int) (k : Nat) : List Int := ints ((List.range k).filter fun i => clrB m (sightF l) i)
def explE (m : PM) (l g : List Int) : Int := if sightE m l ≠ 0 then sightE m l else if (g.all fun k => inB k 0 (m.shafts.length - 1)) = false then 1 else if twiceB g = true then 5 else 0
def explQ (m : PM) (l g : List Int) : Bool := if explE m l g = 0 then explB m (sightF l) (natL g) else false
set_option maxRecDepth 20000 in
theorem slipped1_any (D Db Sb : Nat) (m : PM) (hm : POk m) (A : Option Addr) (c n : Nat) (l : List Int) (hn : l.length = n) (hl : n = m.wvs.length) (w : World) (hDb : Blk w Db 135 #[.pointer (some ⟨D, 0, none⟩)]) (hSb : Blk w Sb 30 #[.slice A n c]) (hD : DeskAt w D m) (hA : IntsAt w A l) (g : List Nat) (hg : Up m.shafts.length 0 g) :
    Tells Tryz.prog w 98 #[] #[.pointer (some ⟨Db, 0, none⟩), .pointer (some ⟨Sb, 0, none⟩)] (fun W v l => SlI W v (ints l)) g (explB m (sightF l) g) := by
  intro W v hW hv
  obtain ⟨B, d, rfl, s1, s2, hB⟩ := hv
  have hlen := ints_length g
  rw [hlen] at s1 ⊢
  have hex := Lib.hid (explain_any D m hm A c n l hn hl B d g.length (ints g) hlen (fun y hy => by
    unfold ints at hy
    obtain ⟨k, hk, rfl⟩ := List.mem_map.1 hy
    have := hg.2 k hk; omega) (Nat.le_trans s1 s2) (explB m (sightF l) g) (by rw [natL_ints]) W (hD.ext hW) (hA.ext hW) hB)
  generalize explB m (sightF l) g = q at *
  have e0 := (hDb.ext hW).c1
  have e1 := (hSb.ext hW).c1
  clear hDb hSb hD hA hB hlen hn hl
  show Calls Tryz.prog 98 #[_, .pointer (some ⟨Db, 0, none⟩), .pointer (some ⟨Sb, 0, none⟩)] W _
  go_enter Tryz.func98, Tryz.ntmps98
  go_wp2_with fail
  refine hex.out.mono ?_
  rintro e w4 ⟨rfl, he4⟩
  go_wp2_with fail
  go_ret
  exact ⟨rfl, he4⟩
def slipE (m : PM) (l : List Int) : Int := if sightE m l ≠ 0 then sightE m l else if (Pow.firstF m.shafts.length (explB m (sightF l))).isNone then 7 else 0
def slipL (m : PM) (l : List Int) : List Int := if sightE m l ≠ 0 then [] else ints ((Pow.firstF m.shafts.length (explB m (sightF l))).getD [])
set_option maxRecDepth 20000 in
theorem Slipped_any (v : Value) (m : PM) (A : Option Addr) (c n : Nat) (l : List Int) (hn : l.length = n) (r : Int) (x : List Int) (hr : slipE m l = r) (hx : slipL m l = x) (w : World) (hv : PMVal w v m) (hl : n ≤ maxLen) (hA : IntsAt w A l) :
    Calls Tryz.prog 24 #[v, .slice A n c] w fun e w' => ∃ u, e = .returned (.tuple #[u, .int .i64 r]) ∧ OwnI w' w.heap.size 3 u x ∧ Ext w w' := by
  have hmf : ∀ (fn : Fn) (first cap : Array Value) (w : World), (Instr.makeFunc fn first cap).run Tryz.prog w = .ok (.func fn first cap) w := fun _ _ _ _ => rfl
  have Hv := Lib.hid hv
  obtain ⟨A1, c1, A2, c2, rfl, h2, h3, h4, h5, h6, h7⟩ := hv
  have hE : Ext w ((w.alloc (.cells #[.slice A1 m.shafts.length c1, .slice A2 m.wvs.length c2] 26)).alloc (.cells #[.slice A n c] 30)) := (Ext.alloc _ _).trans (Ext.alloc _ _)
  have hM := (Blk.new w 26 #[.slice A1 m.shafts.length c1, .slice A2 m.wvs.length c2]).alloc (.cells #[.slice A n c] 30)
  have hSb := Blk.new (w.alloc (.cells #[.slice A1 m.shafts.length c1, .slice A2 m.wvs.length c2] 26)) 30 #[.slice A n c]
  rw [World.size_alloc] at hSb
  obtain ⟨k0, k1⟩ := hM.c2
  have e0 := hSb.c1
  have HM := Lib.hid hM; have HSb := Lib.hid hSb
  obtain ⟨r0, hr0⟩ : ∃ r0, sightE m l = r0 := ⟨_, rfl⟩
  have ho := Lib.hid (sighted_any _ m A c n l hn r0 hr0 _ (Hv.out.ext hE) hl (hA.ext hE))
  have Hr := Lib.hid hr; have Hx := Lib.hid hx; have Hr0 := Lib.hid hr0
  clear h6 h7 hM hr hx hr0 hSb
  go_enter Tryz.func24, Tryz.ntmps24
  go_wp2_with fail
  refine ho.out.mono ?_
  rintro e w1 ⟨pv, rfl, he1, hop⟩
  have hE1 := hE.trans he1
  have hM1 := HM.out.ext he1
  have hS1 := HSb.out.ext he1
  clear k0 k1 ho e0
  have hX := Ext.alloc w1 (.cells #[.pointer pv] 135)
  by_cases h0 : r0 = 0
  · subst h0
    obtain ⟨D, rfl, hD, -⟩ := hop rfl
    obtain ⟨hck, hle, -⟩ := sightE_ok Hr0.out
    have hm := (checkP_iff m).1 hck
    have hms := hm.sz
    have hDb := Blk.new w1 135 #[.pointer (some ⟨D, 0, none⟩)]
    have hEX := hE1.trans hX
    obtain ⟨k0, k1⟩ := (hM1.ext hX).c2
    have hfi := Lib.hid (first_any m.shafts.length 98 #[] #[.pointer (some ⟨w1.heap.size, 0, none⟩), .pointer (some ⟨w.heap.size + 1, 0, none⟩)] (explB m (sightF l)) (by omega) _ (enters_of Tryz.func98 (by kernel_rfl) rfl)
      (fun g hg => slipped1_any D w1.heap.size (w.heap.size + 1) m hm A c n l hn (hn.symm.trans hle) _ hDb (hS1.ext hX) (hD.ext hX) (hA.ext hEX) g hg))
    have hr2 := Hr.out
    have hx2 := Hx.out
    unfold slipE at hr2
    unfold slipL at hx2
    rw [if_neg (by simp [Hr0.out])] at hr2 hx2
    have Hr2 := Lib.hid hr2; have Hx2 := Lib.hid hx2
    clear hr2 hx2 hDb hX hD hA hM1 hS1 hm hck hle hop hn
    go_wp2_with fail
    refine hfi.out.mono ?_
    rintro e w2 ⟨A3, k3, c3, rfl, he2, hf⟩
    have hE2 := hEX.trans he2
    have hsz := hEX.size
    cases hq : Pow.firstF m.shafts.length (explB m (sightF l)) with
    | none =>
      obtain rfl : r = 7 := by rw [← Hr2.out, hq]; rfl
      obtain rfl : x = [] := by rw [← Hx2.out, hq]; rfl
      rw [Option.isSome_none]
      clear hf hq Hr Hx Hr2 Hx2 hfi
      go_wp2_with fail
      go_ret2
      exact ⟨_, rfl, OwnI.nil _ _ _, hE2⟩
    | some g =>
      obtain rfl : r = 0 := by rw [← Hr2.out, hq]; rfl
      obtain rfl : x = ints g := by rw [← Hx2.out, hq]; rfl
      have hO := (hf g hq).mono hsz
      rw [Option.isSome_some]
      clear hf hq Hr Hx Hr2 Hx2 hfi
      go_wp2_with fail
      go_ret2
      exact ⟨_, rfl, hO, hE2⟩
  · obtain rfl : r = r0 := by rw [← Hr.out]; unfold slipE; rw [if_pos (by rw [Hr0.out]; exact h0), Hr0.out]
    obtain rfl : x = [] := by rw [← Hx.out]; unfold slipL; rw [if_pos (by rw [Hr0.out]; exact h0)]
    have hd : (r != 0) = true := by simpa using h0
    clear hA h0 hop
    go_wp2_with fail
    go_ret2
    exact ⟨_, rfl, OwnI.nil _ _ _, hE1.trans hX⟩
end Go.Proofs.Pet
