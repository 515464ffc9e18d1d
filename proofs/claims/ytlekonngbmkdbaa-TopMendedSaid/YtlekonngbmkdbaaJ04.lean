/- Joined texts: P09, P10, P11, P12, P13, P14, P15, TL0. -/
import Derived.Test.YtlekonngbmkdbaaJ02
import Derived.Test.YtlekonngbmkdbaaP08
import Derived.WalkMore
import Derived.Test.YtlekonngbmkdbaaP01
import Derived.OwnWalkIn
import Derived.Test.YtlekonngbmkdbaaJ01
namespace Go.Proofs.Pet
open Go Go.RowKit Go.Maps Go.Shelf

theorem info_slI : (Try.prog.info? 28).map (fun i => (i.zero, i.size, i.bytes)) = some (some (.slice none 0 0), 1, 24) := by kernel_rfl
/-- a function value that gives a number for a loom and a set -/
def GivesLS (P : Program) (w : World) (g : Nat) (fs lb : Array Value) (num : Nat → Nat → Int) (n N : Nat) : Prop :=
  ∀ W, Ext w W → ∀ l s, l < n → s < N → Calls P g (fs ++ #[.int .i64 (l : Int), .int .i64 (s : Int)] ++ lb) W fun e W' => e = .returned (.int .i64 (num l s)) ∧ Ext W W'
def givR (D n1 L : Nat) (A1 : Value) (n : Nat) : Nat → Value → World → Prop
  | 0 => fun v _ => v = .pointer (some ⟨D, 0, none⟩)
  | 1 => fun v _ => v = .pointer (some ⟨D, 0, none⟩)
  | 2 => fun v _ => v = .pointer (some ⟨D, 0, none⟩)
  | 3 => fun v _ => v = .pointer (some ⟨D, 0, none⟩)
  | 4 => fun v _ => v = A1
  | 5 => fun v _ => v = .int .i64 n
  | 6 => fun v _ => v = .int .i64 n1
  | 7 => fun v W => ∃ S, v = .slice (some ⟨S, 0, none⟩) n1 n1 ∧ L ≤ S ∧ Blk W S 28 (Array.replicate n1 (.slice none 0 0))
  | 8 => fun v _ => v = .pointer (some ⟨D, 0, none⟩)
  | 9 => fun v _ => v = .pointer (some ⟨D, 0, none⟩)
  | 10 => fun v _ => v = .pointer (some ⟨D, 0, none⟩)
  | 11 => fun v _ => v = .pointer (some ⟨D, 0, none⟩)
  | 12 => fun v _ => v = A1
  | 13 => fun v _ => v = .int .i64 n
  | 14 => fun v _ => v = .int .i64 n1
  | 15 => fun v W => ∃ S, v = .slice (some ⟨S, 0, none⟩) n1 n1 ∧ L ≤ S ∧ Blk W S 28 (Array.replicate n1 (.slice none 0 0))
  | 16 => fun v W => ∃ S, v = .slice (some ⟨S, 0, none⟩) n1 n1 ∧ L ≤ S ∧ Blk W S 28 (Array.replicate n1 (.slice none 0 0))
  | 17 => fun v W => ∃ S, v = .slice (some ⟨S, 0, none⟩) n1 n1 ∧ L ≤ S ∧ Blk W S 28 (Array.replicate n1 (.slice none 0 0))
  | _ => fun _ _ => True
theorem givR.ext {D n1 L : Nat} {A1 : Value} {n : Nat} {w w' : World} (he : Ext w w') (j : Nat) (u : Value) (h : givR D n1 L A1 n j u w) : givR D n1 L A1 n j u w' := by
  match j, h with
  | 0, h | 1, h | 2, h | 3, h | 4, h | 5, h | 6, h | 8, h | 9, h | 10, h | 11, h | 12, h | 13, h | 14, h => exact h
  | 7, ⟨g, h1, h2, h3⟩ => exact ⟨g, h1, h2, h3.ext he⟩
  | 15, ⟨g, h1, h2, h3⟩ => exact ⟨g, h1, h2, h3.ext he⟩
  | 16, ⟨g, h1, h2, h3⟩ => exact ⟨g, h1, h2, h3.ext he⟩
  | 17, ⟨g, h1, h2, h3⟩ => exact ⟨g, h1, h2, h3.ext he⟩
  | _ + 18, h => trivial
def givAp (i : Nat) (u : Value) (j : Nat) (v : Value) : Prop := ((i = 7 ∨ i = 16) ∧ (j = 15 ∨ j = 17)) ∨ ((i = 15 ∨ i = 17) ∧ (j = 7 ∨ j = 16)) → u ≠ v
def givR2 (D N L : Nat) (mv : Value) : Nat → Value → World → Prop
  | 0 => fun v _ => v = .pointer (some ⟨D, 0, none⟩)
  | 1 => fun v _ => v = .pointer (some ⟨D, 0, none⟩)
  | 2 => fun v _ => v = .pointer (some ⟨D, 0, none⟩)
  | 3 => fun v _ => v = mv
  | 4 => fun v _ => v = .int .i64 N
  | 5 => fun v W => ∃ S, v = .slice (some ⟨S, 0, none⟩) N N ∧ L ≤ S ∧ Blk W S 3 (Array.replicate N (.int .i64 0))
  | 6 => fun v _ => v = .pointer (some ⟨D, 0, none⟩)
  | 7 => fun v _ => v = .pointer (some ⟨D, 0, none⟩)
  | 8 => fun v _ => v = .pointer (some ⟨D, 0, none⟩)
  | 9 => fun v _ => v = mv
  | 10 => fun v _ => v = .int .i64 N
  | 11 => fun v W => ∃ S, v = .slice (some ⟨S, 0, none⟩) N N ∧ L ≤ S ∧ Blk W S 3 (Array.replicate N (.int .i64 0))
  | 12 => fun v W => ∃ S, v = .slice (some ⟨S, 0, none⟩) N N ∧ L ≤ S ∧ Blk W S 3 (Array.replicate N (.int .i64 0))
  | 13 => fun v W => ∃ S, v = .slice (some ⟨S, 0, none⟩) N N ∧ L ≤ S ∧ Blk W S 3 (Array.replicate N (.int .i64 0))
  | _ => fun _ _ => True
theorem givR2.ext {D N L : Nat} {mv : Value} {w w' : World} (he : Ext w w') (j : Nat) (u : Value) (h : givR2 D N L mv j u w) : givR2 D N L mv j u w' := by
  match j, h with
  | 0, h | 1, h | 2, h | 3, h | 4, h | 6, h | 7, h | 8, h | 9, h | 10, h => exact h
  | 5, ⟨g, h1, h2, h3⟩ => exact ⟨g, h1, h2, h3.ext he⟩
  | 11, ⟨g, h1, h2, h3⟩ => exact ⟨g, h1, h2, h3.ext he⟩
  | 12, ⟨g, h1, h2, h3⟩ => exact ⟨g, h1, h2, h3.ext he⟩
  | 13, ⟨g, h1, h2, h3⟩ => exact ⟨g, h1, h2, h3.ext he⟩
  | _ + 14, h => trivial
def givAp2 (i : Nat) (u : Value) (j : Nat) (v : Value) : Prop := ((i = 5 ∨ i = 12) ∧ (j = 11 ∨ j = 13)) ∨ ((i = 11 ∨ i = 13) ∧ (j = 5 ∨ j = 12)) → u ≠ v
theorem slice_ne {a b n : Nat} (h : a ≠ b) : (Value.slice (some ⟨a, 0, none⟩) n n) ≠ .slice (some ⟨b, 0, none⟩) n n := by
  intro e
  injection e with e _ _
  injection e with e
  injection e with e _ _
  exact h e

def givR3 (B S l own a b : Nat) (fv : Value) (N n1 : Nat) (nn rest : Int) : Nat → Value → World → Prop
  | 0 => fun v _ => v = .pointer (some ⟨B, 0, none⟩)
  | 1 => fun v _ => v = fv
  | 2 => fun v _ => v = .int .i64 l
  | 3 => fun v _ => v = .int .i64 own
  | 4 => fun v _ => v = .int .i64 nn
  | 5 => fun v _ => v = .slice (some ⟨S, 0, none⟩) n1 n1
  | 6 => fun v _ => v = .int .i64 l
  | 7 => fun v _ => v = .pointer (some ⟨S, l, none⟩)
  | 8 => fun v _ => v = .slice (some ⟨b, 0, none⟩) N N
  | 9 => fun v _ => v = .int .i64 a
  | 10 => fun v _ => v = .int .i64 own
  | 11 => fun v _ => v = .int .i64 (sdiff a own : Nat)
  | 12 => fun v _ => v = .pointer (some ⟨b, sdiff a own, none⟩)
  | 13 => fun v _ => v = .int .i64 rest
  | 14 => fun v _ => v = .int .i64 nn
  | 15 => fun v _ => v = .int .i64 rest
  | _ => fun _ _ => True
theorem givR3.same {B S l own a b : Nat} {fv : Value} {N n1 : Nat} {nn rest : Int} {w w' : World} (j : Nat) (u : Value) (h : givR3 B S l own a b fv N n1 nn rest j u w) : givR3 B S l own a b fv N n1 nn rest j u w' := by
  match j, h with
  | 0, h | 1, h | 2, h | 3, h | 4, h | 5, h | 6, h | 7, h | 8, h | 9, h | 10, h | 11, h | 12, h | 13, h | 14, h | 15, h => exact h
  | _ + 16, h => trivial

/-- a row under way: known below a place, and there -/
def rowB (F : Nat → Int) (a : Nat) (p : Int) (s : Nat) : Int := if s < a then F s else if s = a then p else 0
theorem rowB_next (F : Nat → Int) (a : Nat) (p : Int) (h : F a = p) (s : Nat) : rowB F a p s = if s < a + 1 then F s else 0 := by
  unfold rowB
  by_cases e : s = a
  · subst e; simp [h]
  · by_cases e2 : s < a
    · rw [if_pos e2, if_pos (by omega)]
    · rw [if_neg e2, if_neg e, if_neg (by omega)]
theorem rowB_set (F : Nat → Int) (a : Nat) (p v : Int) (j : Nat) : (if j = a then v else rowB F a p j) = rowB F a v j := by
  unfold rowB
  by_cases e : j = a
  · subst e; simp
  · simp [e]

set_option maxRecDepth 20000 in
set_option maxHeartbeats 2000000 in
theorem given_any (D : Nat) (m : Mill) (hch : checkE m = 0) (g : Nat) (fs lb : Array Value) (eg : Enters Try.prog g) (num : Nat → Nat → Int) (hnum : ∀ l s, 0 ≤ num l s ∧ num l s ≤ 1000) (N : Nat) (hN : N = 2 ^ m.orders.length) (w : World) (hD : Desk w D m)
    (hg : GivesLS Try.prog w g fs lb num m.laced.length N) :
    Calls Try.prog 49 #[.pointer (some ⟨D, 0, none⟩), .agg #[.func (.func g) fs lb]] w fun e w' => ∃ S G lim, e = .returned (.tuple #[.slice (some ⟨S, 0, none⟩) (m.laced.length + 1) (m.laced.length + 1), .slice (some ⟨G, 0, none⟩) (m.laced.length + 1) (m.laced.length + 1)]) ∧
      RowsTo w' S (m.laced.length + 1) N 0 (m.laced.length + 1) lim (sumF num) ∧ RowsTo w' G (m.laced.length + 1) N 1 (m.laced.length + 1) lim (fun l s => (getF num (l - 1) s : Int)) ∧ Ext w w' := by
  obtain ⟨l1, l2, l3⟩ := check_len hch
  obtain ⟨A1, c1, A2, c2, M, cnt, hb, h2, h3, h4, h5, h6, h7, h8, h9⟩ := hD
  have Hv : Hid (MillVal w (.agg #[.slice A1 m.laced.length c1, .int .i64 m.change, .slice A2 m.orders.length c2]) m) := ⟨A1, c1, A2, c2, rfl, h2, h3, h4, h5, h6, h7⟩
  clear h6 h7 h9
  have HN := Lib.hid hN; clear hN
  obtain ⟨ti, hi, hz0, hz1, hz2⟩ := info_parts info_slI
  generalize hn : m.laced.length = n at *
  have hmk : ∀ W : World, (Instr.makeSlice 70 (.int .i64 ((n + 1 : Nat) : Int)) (.int .i64 ((n + 1 : Nat) : Int))).run Try.prog W = .ok (.slice (some ⟨W.heap.size, 0, none⟩) (n + 1) (n + 1)) (W.alloc (.cells (Array.replicate (n + 1) (.slice none 0 0)) 28)) := by
    intro W
    have := run_make (P := Try.prog) W 70 28 ti _ Try.underlying70 hi hz0 .i64 .i64 (n + 1 : Nat) (n + 1 : Nat) (by omega) (by omega) (by rw [hz2]; omega) (by omega)
    have e : madeCells #[Value.slice none 0 0] (n + 1) = Array.replicate (n + 1) (.slice none 0 0) := by
      apply Array.ext
      · simp [madeCells]
      · intro j h1 h2
        simp [madeCells, Nat.mod_one]
    simpa [hz1, Value.cells, e] using this
  have hcast : ((n + 1 : Nat) : Int) = (n : Int) + 1 := by omega
  simp only [hcast] at hmk
  clear hcast
  have hE := Ext.alloc w (.cells #[.func (.func g) fs lb] 124)
  have bg := Blk.new w 124 #[.func (.func g) fs lb]
  have hb1 := hb.ext hE
  go_enter Try.func49, Try.ntmps49
  go_wp2_with fail
  have hsz : w.heap.size + 1 ≤ (w.alloc (.cells #[.func (.func g) fs lb] 124)).heap.size := by simp
  generalize w.alloc _ = W1 at *
  refine wp_region_apart 18 (by kernel_rfl) (by kernel_rfl) (fun W => Ext W1 W) (givR D (n + 1) W1.heap.size (.slice A1 n c1) n) givAp (Ext.drew _) ?_ ?_
  · simp only [List.take, AllOps2, fill, Act.put, List.setIfInBounds_toArray, List.set_cons_zero, List.set_cons_succ, Nat.reduceAdd, Deps, DepsL, List.filter_cons, List.filter_nil, Region.binds, if_true, and_true]
    refine ⟨?_, ?_, ?_, ?_, ?_, ?_, ?_, ?_, ?_, ?_, ?_, ?_, ?_, ?_, ?_, ?_, ?_, ?_⟩
    all_goals
      intro Ld x W hG hnl hLR hAp hdl hd K Q hK
    case refine_8 =>
      simp only [givR] at hd
      simp only [hd] at hK ⊢
      have HK := Lib.hid hK; clear hK
      have HL := Lib.hid hLR; clear hLR hAp hd hdl
      go_wp2
      refine HK.out _ _ ⟨_, rfl, hG.size, Blk.new _ _ _⟩ (hG.trans (Ext.alloc _ _)) (fun j hj => ⟨givR.ext (Ext.alloc _ _) j _ (HL.out j hj), .inl fun h => ?_⟩)
      have hb : ∃ S, x j = .slice (some ⟨S, 0, none⟩) (n + 1) (n + 1) ∧ S < W.heap.size := by
        have h2 := HL.out j hj
        rcases (show j = 15 ∨ j = 17 by omega) with rfl | rfl
        · obtain ⟨S, e, _, hb⟩ := h2; exact ⟨S, e, hb.lt⟩
        · obtain ⟨S, e, _, hb⟩ := h2; exact ⟨S, e, hb.lt⟩
      obtain ⟨S, e, hlt⟩ := hb
      rw [e]
      intro h
      injection h with h _ _
      injection h with h
      injection h with h _ _
      omega
    case refine_17 =>
      simp only [givR] at hd
      obtain ⟨⟨S, e, h1, h2⟩, _⟩ := hd
      have h7 := hdl.1
      simp only [e] at hK ⊢
      have HK := Lib.hid hK; clear hK
      have HL := Lib.hid (And.intro hLR hAp); clear hLR hAp hdl
      go_wp2
      refine HK.out _ _ ⟨_, rfl, h1, h2⟩ hG (fun j hj => ⟨HL.out.1 j hj, ?_⟩)
      by_cases hjj : j = 15 ∨ j = 17
      · have h3 := HL.out.2 7 j h7 hj (by omega)
        rw [e] at h3
        rcases h3 with h3 | h3
        · exact .inr fun _ => h3 (by omega)
        · exact .inl fun _ => h3 (by omega)
      · exact .inl fun h => absurd h (by omega)
    case refine_18 =>
      simp only [givR] at hd
      obtain ⟨⟨S, e, h1, h2⟩, _⟩ := hd
      have h7 := hdl.1
      simp only [e] at hK ⊢
      have HK := Lib.hid hK; clear hK
      have HL := Lib.hid (And.intro hLR hAp); clear hLR hAp hdl
      go_wp2
      refine HK.out _ _ ⟨_, rfl, h1, h2⟩ hG (fun j hj => ⟨HL.out.1 j hj, ?_⟩)
      by_cases hjj : j = 7 ∨ j = 16
      · have h3 := HL.out.2 15 j h7 hj (by omega)
        rw [e] at h3
        rcases h3 with h3 | h3
        · exact .inr fun _ => h3 (by omega)
        · exact .inl fun _ => h3 (by omega)
      · exact .inl fun h => absurd h (by omega)
    case refine_16 =>
      simp only [givR] at hd
      simp only [hd] at hK ⊢
      have HK := Lib.hid hK; clear hK
      have HL := Lib.hid hLR; clear hLR hAp hd hdl
      go_wp2
      refine HK.out _ _ ⟨_, rfl, hG.size, Blk.new _ _ _⟩ (hG.trans (Ext.alloc _ _)) (fun j hj => ⟨givR.ext (Ext.alloc _ _) j _ (HL.out j hj), .inl fun h => ?_⟩)
      have hb : ∃ S, x j = .slice (some ⟨S, 0, none⟩) (n + 1) (n + 1) ∧ S < W.heap.size := by
        have h2 := HL.out j hj
        rcases (show j = 7 ∨ j = 16 by omega) with rfl | rfl
        · obtain ⟨S, e, _, hb⟩ := h2; exact ⟨S, e, hb.lt⟩
        · obtain ⟨S, e, _, hb⟩ := h2; exact ⟨S, e, hb.lt⟩
      obtain ⟨S, e, hlt⟩ := hb
      rw [e]
      intro h
      injection h with h _ _
      injection h with h
      injection h with h _ _
      omega
    all_goals
      try (simp only [givR] at hd; simp only [hd] at hK ⊢)
      have HK := Lib.hid hK; clear hK
      have HL := Lib.hid hLR; clear hLR hAp hdl
      obtain ⟨k0, k1, k2, k3⟩ := (hb1.ext hG).c4
      go_wp2_with fail
      exact HK.out _ _ (by first | rfl | (show _ = _; simp)) hG (fun j hj => ⟨HL.out j hj, .inl fun h => absurd h (by omega)⟩)
  · intro x W hG hap hR
    simp only [AllR, givR, true_and] at hR
    obtain ⟨⟨⟨⟨⟨⟨⟨⟨⟨⟨⟨⟨⟨⟨⟨⟨⟨r0, r1⟩, r2⟩, r3⟩, r4⟩, r5⟩, r6⟩, r7⟩, r8⟩, r9⟩, r10⟩, r11⟩, r12⟩, r13⟩, r14⟩, r15⟩, S, r16, hS1, hS2⟩, G, r17, hG1, hG2⟩ := hR
    have hSG : S ≠ G := by
      have h3 := hap 16 17 (by omega) (by omega) (by omega)
      rw [r16, r17] at h3
      intro e
      rcases h3 with h3 | h3
      · exact h3 (by omega) (by rw [e])
      · exact h3 (by omega) (by rw [e])
    simp only [List.take, List.drop, fill, Act.put, List.setIfInBounds_toArray, List.set_cons_zero, List.set_cons_succ, Nat.reduceAdd, r16, r17]
    clear r0 r1 r2 r3 r4 r5 r6 r7 r8 r9 r10 r11 r12 r13 r14 r15 r16 r17 hap
    have hRS : RowsTo W S (n + 1) N 0 0 W.heap.size (sumF num) := ⟨_, fun _ => 0, hS2, by simp, fun i _ h => by omega⟩
    have hRG : RowsTo W G (n + 1) N 1 1 W.heap.size (fun l s => (getF num (l - 1) s : Int)) := ⟨_, fun _ => 0, hG2, by simp, fun i h1 h => by omega⟩
    clear hmk hG2
    have hEW := hE.trans hG
    have hX := Ext.alloc W (.cells #[.int .i64 297] 3)
    have b297 := Blk.new W 3 #[.int .i64 297]
    obtain ⟨k0, k1, k2, k3⟩ := (hb1.ext (hG.trans hX)).c4
    have hv := Hv.out.ext (hEW.trans hX)
    have hlS := hS2.lt
    have hRS2 := hRS.ext hX
    have hRG2 := hRG.ext hX
    have hS3 := hS2.ext hX
    have hE3 := hEW.trans hX
    have Hv2 := Lib.hid hv; clear hv hX hRS hRG hS2 hEW
    go_wp2_with fail
    obtain ⟨N', hN', hNN⟩ : ∃ N', N' = 2 ^ m.orders.length ∧ N' = N := ⟨_, rfl, HN.out.symm⟩
    refine (sets_any _ m (by omega) N' hN' _ Hv2.out).mono ?_
    rintro e W3 ⟨rfl, he3⟩
    subst hNN
    clear hN'
    have hNb : 1 ≤ N' ∧ N' ≤ 128 := by
      have h1 : 2 ^ m.orders.length ≤ 2 ^ 7 := Nat.pow_le_pow_right (by omega) l3
      have h2 : (2 : Nat) ^ 7 = 128 := by decide
      have h3 := Nat.two_pow_pos m.orders.length
      rw [HN.out]; omega
    have hI : IntsAt W3 (some ⟨W.heap.size, 0, none⟩) [297] := by
      intro k hk
      obtain rfl : k = 0 := by simpa using hk
      exact ⟨W.heap.size, 0, rfl, (b297.ext he3).c1⟩
    have HR := Lib.hid (repeat_any 297 (some ⟨W.heap.size, 0, none⟩) 1 N' (by omega) W3 hI (by unfold maxLen; omega))
    clear hI b297
    go_wp2_with fail
    refine HR.out.mono ?_
    rintro e W4 ⟨b, rfl, hb4, hbr, he4⟩
    have hE4 := hE3.trans (he3.trans he4)
    have hRS4 := hRS2.ext (he3.trans he4)
    have hRG4 := hRG2.ext (he3.trans he4)
    have hS4 := hS3.ext (he3.trans he4)
    have hb5 := hb1.ext (hG.trans ((Ext.alloc W (.cells #[.int .i64 297] 3)).trans (he3.trans he4)))
    have bg5 := bg.ext (hG.trans ((Ext.alloc W (.cells #[.int .i64 297] 3)).trans (he3.trans he4)))
    have hsW := he3.size
    clear hRS2 hRG2 hS3 HR he3 he4 k0 k1 k2 k3 hE3 Hv2
    have hcS := hS4.cell 0
    have hfS := hS4.frozen 0
    have hfb := hbr.frozen 0
    have hc0 := hbr.cell 0
    have hSb : S ≠ b := by intro e; subst e; exact hS4.ne_ hbr (by decide) rfl
    rw [Array.getElem?_replicate, if_pos (by omega)] at hcS
    rw [Array.getElem?_replicate, if_pos (by omega)] at hc0
    have hDl := hb1.lt
    have hGs := hG.size
    have hgl := bg.lt
    rw [World.size_alloc] at hsW
    have h5 := (hb5.far (p := ⟨S, 0, none⟩) (show D ≠ S by omega) (.slice (some ⟨b, 0, none⟩) N' N')).far (p := ⟨b, 0, none⟩) (show D ≠ b by omega) (.int .i64 0)
    have g5 := (bg5.far (p := ⟨S, 0, none⟩) (show w.heap.size ≠ S by omega) (.slice (some ⟨b, 0, none⟩) N' N')).far (p := ⟨b, 0, none⟩) (show w.heap.size ≠ b by omega) (.int .i64 0)
    obtain ⟨k0, k1, k2, k3⟩ := h5.c4
    have E5 : Ext w ((W4.setCell ⟨S, 0, none⟩ (.slice (some ⟨b, 0, none⟩) N' N')).setCell ⟨b, 0, none⟩ (.int .i64 0)) := Below.setCell (Below.setCell hE4 (by show _ ≤ S; omega) _) (by show _ ≤ b; omega) _
    have hRS5 : RowsTo ((W4.setCell ⟨S, 0, none⟩ (.slice (some ⟨b, 0, none⟩) N' N')).setCell ⟨b, 0, none⟩ (.int .i64 0)) S (n + 1) N' 0 1 W4.heap.size (sumF num) := by
      refine ⟨_, fun _ => b, (hS4.set_ 0 _).far (p := ⟨b, 0, none⟩) hSb _, by simp, fun i _ hi1 => ?_⟩
      obtain rfl : i = 0 := by omega
      refine ⟨by simp, hbr.lt, (((Row.const hbr).far (p := ⟨S, 0, none⟩) (Ne.symm hSb) _).set_ (show 0 < N' by omega) 0).congr fun j _ => ?_⟩
      simp only [sumF]
    have hRG5 : RowsTo ((W4.setCell ⟨S, 0, none⟩ (.slice (some ⟨b, 0, none⟩) N' N')).setCell ⟨b, 0, none⟩ (.int .i64 0)) G (n + 1) N' 1 1 W4.heap.size (fun l s => (getF num (l - 1) s : Int)) := by
      obtain ⟨cs, bs, q1, q2, q3⟩ := hRG4
      have hGb : G ≠ b := by intro e; subst e; exact q1.ne_ hbr (by decide) rfl
      exact ⟨cs, bs, (q1.far (p := ⟨S, 0, none⟩) (Ne.symm hSG) _).far (p := ⟨b, 0, none⟩) hGb _, q2, fun i h1 h2 => by omega⟩
    have hs5 : W4.heap.size ≤ ((W4.setCell ⟨S, 0, none⟩ (.slice (some ⟨b, 0, none⟩) N' N')).setCell ⟨b, 0, none⟩ (.int .i64 0)).heap.size := by rw [World.size_setCell, World.size_setCell]; omega
    go_wp2_with fail
    have hRS6 := hRS5.lim_ hs5
    have hRG6 := hRG5.lim_ hs5
    clear hRS5 hRG5 hs5 hRS4 hRG4 hS4 hcS hc0 hfS hfb hbr k0 k1 k2 k3 h5 hE4 hb5 bg5
    generalize (W4.setCell _ _).setCell _ _ = W5 at *
    go_loopw [8, 50] (fun _ v wr => ∃ l : Nat, l ≤ n ∧ v = .int .i64 l ∧ Ext w wr ∧ Blk wr w.heap.size 124 #[.func (.func g) fs lb] ∧
        RowsTo wr S (n + 1) N' 0 (l + 1) wr.heap.size (sumF num) ∧ RowsTo wr G (n + 1) N' 1 (l + 1) wr.heap.size (fun l s => (getF num (l - 1) s : Int))) (fun _ v _ => n - (intOf v).toNat)
    case atStart => exact ⟨0, by omega, rfl, E5, g5, hRS6, hRG6⟩
    case round =>
      obtain ⟨l, hl, rfl, he, hgb, hRS, hRG⟩ := hrel
      by_cases hlt : l < n
      · have hmk2 : ∀ W : World, (Instr.makeSlice 28 (.int .i64 (N' : Int)) (.int .i64 (N' : Int))).run Try.prog W = .ok (.slice (some ⟨W.heap.size, 0, none⟩) N' N') (W.alloc (.cells (Array.replicate N' (.int .i64 0)) 3)) := by
          obtain ⟨ti2, hi2, hy0, hy1, hy2⟩ := info_parts info_int
          intro W
          have := run_make (P := Try.prog) W 28 3 ti2 _ Try.underlying28 hi2 hy0 .i64 .i64 N' N' (by omega) (by omega) (by rw [hy2]; omega) (by omega)
          have e : madeCells #[Value.int .i64 0] N' = Array.replicate N' (.int .i64 0) := by
            apply Array.ext
            · simp [madeCells]
            · intro j h1 h2
              simp [madeCells, Nat.mod_one]
          simpa [hy1, Value.cells, e] using this
        go_wp2_with fail
        refine wp_region_apart 14 (by kernel_rfl) (by kernel_rfl) (fun W => Ext wr W) (givR2 D N' wr.heap.size (.agg #[.slice A1 n c1, .int .i64 m.change, .slice A2 m.orders.length c2])) givAp2 (Ext.drew _) ?_ ?_
        · simp only [List.take, AllOps2, fill, Act.put, List.setIfInBounds_toArray, List.set_cons_zero, List.set_cons_succ, Nat.reduceAdd, Deps, DepsL, List.filter_cons, List.filter_nil, Region.binds, if_true, and_true]
          refine ⟨?_, ?_, ?_, ?_, ?_, ?_, ?_, ?_, ?_, ?_, ?_, ?_, ?_, ?_⟩
          all_goals
            intro Ld x W hG hnl hLR hAp hdl hd K Q hK
          case refine_6 =>
            simp only [givR2] at hd
            simp only [hd] at hK ⊢
            have HK := Lib.hid hK; clear hK
            have HL := Lib.hid hLR; clear hLR hAp hd hdl
            go_wp2
            refine HK.out _ _ ⟨_, rfl, hG.size, Blk.new _ _ _⟩ (hG.trans (Ext.alloc _ _)) (fun j hj => ⟨givR2.ext (Ext.alloc _ _) j _ (HL.out j hj), .inl fun h => ?_⟩)
            have hb : ∃ S, x j = .slice (some ⟨S, 0, none⟩) N' N' ∧ S < W.heap.size := by
              have h2 := HL.out j hj
              rcases (show j = 11 ∨ j = 13 by omega) with rfl | rfl
              · obtain ⟨S, e, _, hb⟩ := h2; exact ⟨S, e, hb.lt⟩
              · obtain ⟨S, e, _, hb⟩ := h2; exact ⟨S, e, hb.lt⟩
            obtain ⟨S, e, hlt⟩ := hb
            rw [e]
            exact slice_ne (by omega)
          case refine_12 =>
            simp only [givR2] at hd
            simp only [hd] at hK ⊢
            have HK := Lib.hid hK; clear hK
            have HL := Lib.hid hLR; clear hLR hAp hd hdl
            go_wp2
            refine HK.out _ _ ⟨_, rfl, hG.size, Blk.new _ _ _⟩ (hG.trans (Ext.alloc _ _)) (fun j hj => ⟨givR2.ext (Ext.alloc _ _) j _ (HL.out j hj), .inl fun h => ?_⟩)
            have hb : ∃ S, x j = .slice (some ⟨S, 0, none⟩) N' N' ∧ S < W.heap.size := by
              have h2 := HL.out j hj
              rcases (show j = 5 ∨ j = 12 by omega) with rfl | rfl
              · obtain ⟨S, e, _, hb⟩ := h2; exact ⟨S, e, hb.lt⟩
              · obtain ⟨S, e, _, hb⟩ := h2; exact ⟨S, e, hb.lt⟩
            obtain ⟨S, e, hlt⟩ := hb
            rw [e]
            exact slice_ne (by omega)
          case refine_13 =>
            simp only [givR2] at hd
            obtain ⟨⟨S, e, h1, h2⟩, _⟩ := hd
            have h7 := hdl.1
            simp only [e] at hK ⊢
            have HK := Lib.hid hK; clear hK
            have HL := Lib.hid (And.intro hLR hAp); clear hLR hAp hdl
            go_wp2
            refine HK.out _ _ ⟨_, rfl, h1, h2⟩ hG (fun j hj => ⟨HL.out.1 j hj, ?_⟩)
            by_cases hjj : j = 11 ∨ j = 13
            · have h3 := HL.out.2 5 j h7 hj (by omega)
              rw [e] at h3
              rcases h3 with h3 | h3
              · exact .inr fun _ => h3 (by omega)
              · exact .inl fun _ => h3 (by omega)
            · exact .inl fun h => absurd h (by omega)
          case refine_14 =>
            simp only [givR2] at hd
            obtain ⟨⟨S, e, h1, h2⟩, _⟩ := hd
            have h7 := hdl.1
            simp only [e] at hK ⊢
            have HK := Lib.hid hK; clear hK
            have HL := Lib.hid (And.intro hLR hAp); clear hLR hAp hdl
            go_wp2
            refine HK.out _ _ ⟨_, rfl, h1, h2⟩ hG (fun j hj => ⟨HL.out.1 j hj, ?_⟩)
            by_cases hjj : j = 5 ∨ j = 12
            · have h3 := HL.out.2 11 j h7 hj (by omega)
              rw [e] at h3
              rcases h3 with h3 | h3
              · exact .inr fun _ => h3 (by omega)
              · exact .inl fun _ => h3 (by omega)
            · exact .inl fun h => absurd h (by omega)
          all_goals
            try (simp only [givR2] at hd; simp only [hd] at hK ⊢)
            have HK := Lib.hid hK; clear hK
            have HL := Lib.hid hLR; clear hLR hAp hdl
            obtain ⟨k0, k1, k2, k3⟩ := ((hb.ext he).ext hG).c4
            go_wp2_with fail
            first
              | exact HK.out _ _ (by first | rfl | (show _ = _; simp)) hG (fun j hj => ⟨HL.out j hj, .inl fun h => absurd h (by omega)⟩)
              | (refine (sets_any _ m (by omega) N' HN.out _ (Hv.out.ext (he.trans hG))).mono ?_
                 rintro e w' ⟨rfl, he'⟩
                 go_wp2
                 exact HK.out _ _ rfl (hG.trans he') (fun j hj => ⟨givR2.ext he' j _ (HL.out j hj), .inl fun h => absurd h (by omega)⟩))
        · intro x2 W7 hG7 hap hR
          simp only [AllR, givR2, true_and] at hR
          obtain ⟨⟨_, s1, r12, hs1, hB1⟩, s2, r13, hs2, hB2⟩ := hR
          have hss : s1 ≠ s2 := by
            have h3 := hap 12 13 (by omega) (by omega) (by omega)
            rw [r12, r13] at h3
            intro e
            rcases h3 with h3 | h3
            · exact h3 (by omega) (by rw [e])
            · exact h3 (by omega) (by rw [e])
          simp only [List.take, List.drop, fill, Act.put, List.setIfInBounds_toArray, List.set_cons_zero, List.set_cons_succ, Nat.reduceAdd, r12, r13]
          clear r12 r13 hap
          have he7 := he.trans hG7
          have hgb7 := hgb.ext hG7
          have hRS7 := hRS.ext hG7
          have hRG7 := hRG.ext hG7
          have hR1 := Row.const hB1
          have hR2 := Row.const hB2
          have hlim := hG7.size
          obtain ⟨k0, k1, k2, k3⟩ := (hb.ext he7).c4
          clear hmk2 hB1 hB2
          obtain ⟨lim, hlime⟩ : ∃ lim, wr.heap.size = lim := ⟨_, rfl⟩
          rw [hlime] at hs1 hs2 hRS7 hRG7 hlim
          go_wp2_with fail
          refine (sets_any _ m (by omega) N' HN.out _ (Hv.out.ext he7)).mono ?_
          rintro e W8 ⟨rfl, h78⟩
          have he8 := he7.trans h78
          have hgb8 := hgb7.ext h78
          have hRS8 := hRS7.ext h78
          have hRG8 := hRG7.ext h78
          have hR18 := hR1.ext h78
          have hR28 := hR2.ext h78
          have hl78 := h78.size
          have hwl : w.heap.size + 1 ≤ lim := by rw [← hlime]; have := hgb.lt; omega
          clear he7 hgb7 hRS7 hRG7 hR1 hR2 h78 k0 k1 k2 k3
          go_wp2_with fail
          go_loopw [70] (fun v wr => ∃ a : Nat, a ≤ N' ∧ v = .int .i64 a ∧ Ext w wr ∧ Blk wr w.heap.size 124 #[.func (.func g) fs lb] ∧ lim ≤ wr.heap.size ∧
              RowsTo wr S (n + 1) N' 0 (l + 1) lim (sumF num) ∧ RowsTo wr G (n + 1) N' 1 (l + 1) lim (fun l s => (getF num (l - 1) s : Int)) ∧
              Row wr s1 N' (fun s => if s < a then sumF num (l + 1) s else 0) ∧ Row wr s2 N' (fun s => if s < a then (getF num l s : Int) else 0)) (fun v _ => N' - (intOf v).toNat)
          case atStart => exact ⟨0, by omega, rfl, he8, hgb8, Nat.le_trans hlim hl78, hRS8, hRG8, hR18.congr (fun j _ => by simp), hR28.congr (fun j _ => by simp)⟩
          case round =>
            obtain ⟨a, ha, rfl, he9, hgb9, hl9, hRS9, hRG9, hR19, hR29⟩ := hrel
            by_cases hlta : a < N'
            · have f1 := hR19.frozen a
              have u1 := hR19.cell hlta
              have hS1ne : s1 ≠ S := by rintro rfl; obtain ⟨_, _, q1, _⟩ := hRS9; obtain ⟨_, q2, _⟩ := hR19; exact q2.ne_ q1 (by decide) rfl
              have hS1G : s1 ≠ G := by rintro rfl; obtain ⟨_, _, q1, _⟩ := hRG9; obtain ⟨_, q2, _⟩ := hR19; exact q2.ne_ q1 (by decide) rfl
              have hl1 := hR19.lt
              have hl2 := hR29.lt
              have heA : Ext w (wr.setCell ⟨s1, a, none⟩ (.int .i64 297)) := Below.setCell he9 (by show _ ≤ s1; omega) _
              have hgbA := hgb9.far (p := ⟨s1, a, none⟩) (by show _ ≠ s1; omega) (.int .i64 297)
              have hRSA := hRS9.far (p := ⟨s1, a, none⟩) (Ne.symm hS1ne) (by show _ ≤ s1; omega) (.int .i64 297)
              have hRGA := hRG9.far (p := ⟨s1, a, none⟩) (Ne.symm hS1G) (by show _ ≤ s1; omega) (.int .i64 297)
              have hR1A := hR19.set_ hlta 297
              have hR2A := hR29.far (p := ⟨s1, a, none⟩) (Ne.symm hss) (.int .i64 297)
              have hlA : lim ≤ (wr.setCell ⟨s1, a, none⟩ (.int .i64 297)).heap.size := by rw [World.size_setCell]; exact hl9
              go_wp2_with fail
              clear f1 u1 hR19 hR29 hRS9 hRG9 hgb9 he9
              generalize wr.setCell _ _ = WA at *
              have hnum0 : ∀ s, 0 ≤ num l s := fun s => (hnum l s).1
              have hsum0 : ∀ s, 0 ≤ sumF num l s := fun s => (sumF_bd num (fun l s => (hnum l s).1) l s).1
              go_loopw [12] (fun v wr => ∃ own : Nat, own &&& a = own ∧ own ≤ a ∧ v = .int .i64 own ∧ Ext w wr ∧ Blk wr w.heap.size 124 #[.func (.func g) fs lb] ∧ lim ≤ wr.heap.size ∧
                  RowsTo wr S (n + 1) N' 0 (l + 1) lim (sumF num) ∧ RowsTo wr G (n + 1) N' 1 (l + 1) lim (fun l s => (getF num (l - 1) s : Int)) ∧
                  Row wr s1 N' (fun s => if s < a then sumF num (l + 1) s else if s = a then (pickA (num l) (sumF num l) a (a - own)).1 else 0) ∧
                  Row wr s2 N' (fun s => if s < a then (getF num l s : Int) else if s = a then ((pickA (num l) (sumF num l) a (a - own)).2 : Int) else 0)) (fun v _ => (intOf v).toNat)
              case atStart =>
                refine ⟨a, by simp, Nat.le_refl _, rfl, heA, hgbA, hlA, hRSA, hRGA, hR1A.congr (fun j _ => ?_), hR2A.congr (fun j _ => ?_)⟩
                · by_cases e : j = a
                  · subst e; simp [pickA]
                  · simp [e]
                · by_cases e : j = a
                  · subst e; simp [pickA]
                  · simp [e]
              case round =>
                obtain ⟨own, hoa, hol, rfl, heB, hgbB, hlB, hRSB, hRGB, hR1B, hR2B⟩ := hrel
                obtain ⟨bl, hbl1, hbl2, hbl3⟩ := hRSB.at_ (i := l) (by omega) (by omega)
                have hsd := sdiff_le a own
                obtain ⟨nn, hnn⟩ : ∃ nn, num l own = nn := ⟨_, rfl⟩
                obtain ⟨rest, hrest⟩ : ∃ rest, sumF num l (sdiff a own) = rest := ⟨_, rfl⟩
                have hcall := fun W (hW : Ext w W) => hg W hW l own (by omega) (by omega)
                rw [hnn] at hcall
                have hcr := hbl3.cell (j := sdiff a own) (by omega)
                rw [hrest] at hcr
                have Hcall := Lib.hid hcall; clear hcall
                have hnnb := hnum l own
                have hrb := sumF_bd num (fun l s => (hnum l s).1) l (sdiff a own)
                rw [hnn] at hnnb
                rw [hrest] at hrb
                have Hnn := Lib.hid hnn; have Hrest := Lib.hid hrest; clear hnn hrest
                have eg' := eg
                unfold Enters at eg'
                go_wp2_with fail
                refine wp_region_apart 16 (by kernel_rfl) (by kernel_rfl) (fun W => Ext wr W) (givR3 w.heap.size S l own a bl (.func (.func g) fs lb) N' (n + 1) nn rest) (fun _ _ _ _ => True) (Ext.drew _) ?_ ?_
                · simp only [List.take, AllOps2, fill, Act.put, List.setIfInBounds_toArray, List.set_cons_zero, List.set_cons_succ, Nat.reduceAdd, Deps, DepsL, List.filter_cons, List.filter_nil, Region.binds, if_true, and_true]
                  refine ⟨?_, ?_, ?_, ?_, ?_, ?_, ?_, ?_, ?_, ?_, ?_, ?_, ?_, ?_, ?_, ?_⟩
                  all_goals
                    intro Ld x W hG hnl hLR hAp hdl hd K Q hK
                    try (simp only [givR3] at hd; simp only [hd] at hK ⊢)
                    have HK := Lib.hid hK; clear hK
                    have HL := Lib.hid hLR; clear hLR hAp hdl
                    have k0 := (hgbB.ext hG).c1
                    have k1 := hG.cell hbl1
                    have k2 := hG.cell hcr
                    have ha64 := andNot64 a own (by omega) (by omega)
                    have Ha64 := Lib.hid ha64; clear ha64
                    go_wp2_with fail
                    first
                      | exact HK.out _ _ (by first | rfl | exact congrArg (Value.int .i64) Ha64.out) hG (fun j hj => ⟨HL.out j hj, .inl trivial⟩)
                      | (rw [← Array.append_assoc]
                         refine (Hcall.out W (heB.trans hG)).mono ?_
                         rintro e w' ⟨rfl, he'⟩
                         go_wp2
                         exact HK.out _ _ rfl (hG.trans he') (fun j hj => ⟨givR3.same j _ (HL.out j hj), .inl trivial⟩))
                · intro x3 W3 hG3 hap3 hR
                  simp only [AllR, givR3, true_and] at hR
                  obtain ⟨⟨_, r14⟩, r15⟩ := hR
                  simp only [List.take, List.drop, fill, Act.put, List.setIfInBounds_toArray, List.set_cons_zero, List.set_cons_succ, Nat.reduceAdd, r14, r15]
                  clear r14 r15 hap3
                  have heC := heB.trans hG3
                  have hgbC := hgbB.ext hG3
                  have hlC := Nat.le_trans hlB hG3.size
                  have hRSC := hRSB.ext hG3
                  have hRGC := hRGB.ext hG3
                  have hR1C := hR1B.ext hG3
                  have hR2C := hR2B.ext hG3
                  clear heB hgbB hRSB hRGB hR1B hR2B hbl1 hbl2 hbl3 hcr Hcall hG3 eg' hlB
                  obtain ⟨p1, hp1⟩ : ∃ v, (pickA (num l) (sumF num l) a (a - own)).1 = v := ⟨_, rfl⟩
                  have hpb := pickA_bd (num l) (sumF num l) a hnum0 hsum0 (a - own)
                  rw [hp1] at hpb
                  have u1 : W3.cell? ⟨s1, a, none⟩ = some (.int .i64 p1) := by
                    have := hR1C.cell hlta
                    simpa [hp1] using this
                  have hst : Hid (pickA (num l) (sumF num l) a (a - own + 1) = if nn < 99 ∧ rest < 297 ∧ nn + rest < p1 then (nn + rest, own) else pickA (num l) (sumF num l) a (a - own)) := by
                    unfold Hid
                    rw [pickA]
                    rw [show a - (a - own) = own by omega, if_pos hoa, Hnn.out, Hrest.out, hp1]
                  have Hp1 := Lib.hid hp1; clear hp1
                  have f1 := hR1C.frozen a
                  have f2 := hR2C.frozen a
                  have hS1ne : s1 ≠ S := by rintro rfl; obtain ⟨_, _, q1, _⟩ := hRSC; obtain ⟨_, q2, _⟩ := hR1C; exact q2.ne_ q1 (by decide) rfl
                  have hS1G : s1 ≠ G := by rintro rfl; obtain ⟨_, _, q1, _⟩ := hRGC; obtain ⟨_, q2, _⟩ := hR1C; exact q2.ne_ q1 (by decide) rfl
                  have hS2ne : s2 ≠ S := by rintro rfl; obtain ⟨_, _, q1, _⟩ := hRSC; obtain ⟨_, q2, _⟩ := hR2C; exact q2.ne_ q1 (by decide) rfl
                  have hS2G : s2 ≠ G := by rintro rfl; obtain ⟨_, _, q1, _⟩ := hRGC; obtain ⟨_, q2, _⟩ := hR2C; exact q2.ne_ q1 (by decide) rfl
                  have hl1 := hR1C.lt
                  have hl2 := hR2C.lt
                  have hcell2 := (hR2C.far (p := ⟨s1, a, none⟩) (Ne.symm hss) (.int .i64 (nn + rest))).cell hlta
                  have hf2 := (hR2C.far (p := ⟨s1, a, none⟩) (Ne.symm hss) (.int .i64 (nn + rest))).frozen a
                  have hstop : (sdiff a own) < N' := by omega
                  obtain ⟨q1, hq1⟩ : ∃ q, decide (nn < 99) = q := ⟨_, rfl⟩
                  obtain ⟨q2, hq2⟩ : ∃ q, decide (rest < 297) = q := ⟨_, rfl⟩
                  obtain ⟨q3, hq3⟩ : ∃ q, decide (nn + rest < p1) = q := ⟨_, rfl⟩
                  have Hq1 := Lib.hid hq1
                  have Hq2 := Lib.hid hq2
                  have Hq3 := Lib.hid hq3
                  have Hpb := Lib.hid hpb; clear hpb
                  have Hst3 := Lib.hid hstop; clear hstop
                  clear hsd
                  have hR1D : Row W3 s1 N' (rowB (sumF num (l + 1)) a (pickA (num l) (sumF num l) a (a - own)).1) := hR1C
                  have hR2D : Row W3 s2 N' (rowB (fun s => (getF num l s : Int)) a ((pickA (num l) (sumF num l) a (a - own)).2 : Int)) := hR2C
                  clear hR1C hR2C
                  have hb64 : Hid (own ≠ 0 → Go.bits BinOp.and IntKind.i64 ((own : Int) - 1) (a : Int) = (((own - 1) &&& a : Nat) : Int)) := by
                    intro h
                    have := and64 (own - 1) a (by omega) (by omega)
                    rwa [show ((own - 1 : Nat) : Int) = (own : Int) - 1 by omega] at this
                  cases q1 with
                  | false =>
                    have HP : Hid (pickA (num l) (sumF num l) a (a - own + 1) = pickA (num l) (sumF num l) a (a - own)) := by
                      unfold Hid; rw [hst.out, if_neg]; rintro ⟨g1, g2, g3⟩; have := Hq1.out; simp at this; omega
                    by_cases h0 : own = 0
                    · subst h0
                      go_wp2_with fail
                      go_roundw
                      case rel =>
                        refine ⟨a + 1, by omega, by go_num, heC, hgbC, hlC, hRSC, hRGC, (hR1D).congr (fun j _ => ?_), (hR2D).congr (fun j _ => ?_)⟩
                        · exact rowB_next _ _ _ (congrArg Prod.fst HP.out) j
                        · exact rowB_next (fun s => (getF num l s : Int)) _ _ (congrArg (fun p : Int × Nat => (p.2 : Int)) HP.out) j
                      case measure => simp [intOf]; omega
                    · have hd0 : ((own : Int) == 0) = false := by simpa using h0
                      have Hnx := Lib.hid (pickA_next (num l) (sumF num l) a own hoa h0 hol)
                      have H0 := Lib.hid h0; clear h0
                      go_wp2_with fail
                      go_roundw
                      case rel =>
                        have hle : (own - 1) &&& a ≤ own - 1 := Nat.and_le_left
                        refine ⟨(own - 1) &&& a, by rw [Nat.and_assoc, Nat.and_self], by omega, congrArg (Value.int IntKind.i64) (hb64.out H0.out), heC, hgbC, hlC, hRSC, hRGC, (hR1D).congr (fun j _ => ?_), (hR2D).congr (fun j _ => ?_)⟩
                        · rw [Hnx.out, HP.out]; rfl
                        · rw [Hnx.out, HP.out]; rfl
                      case measure =>
                        have hle : (own - 1) &&& a ≤ own - 1 := Nat.and_le_left
                        have h0 := H0.out
                        rw [hb64.out h0]
                        simp only [intOf]
                        omega
                  | true =>
                  cases q2 with
                  | false =>
                    have HP : Hid (pickA (num l) (sumF num l) a (a - own + 1) = pickA (num l) (sumF num l) a (a - own)) := by
                      unfold Hid; rw [hst.out, if_neg]; rintro ⟨g1, g2, g3⟩; have := Hq2.out; simp at this; omega
                    by_cases h0 : own = 0
                    · subst h0
                      go_wp2_with fail
                      go_roundw
                      case rel =>
                        refine ⟨a + 1, by omega, by go_num, heC, hgbC, hlC, hRSC, hRGC, (hR1D).congr (fun j _ => ?_), (hR2D).congr (fun j _ => ?_)⟩
                        · exact rowB_next _ _ _ (congrArg Prod.fst HP.out) j
                        · exact rowB_next (fun s => (getF num l s : Int)) _ _ (congrArg (fun p : Int × Nat => (p.2 : Int)) HP.out) j
                      case measure => simp [intOf]; omega
                    · have hd0 : ((own : Int) == 0) = false := by simpa using h0
                      have Hnx := Lib.hid (pickA_next (num l) (sumF num l) a own hoa h0 hol)
                      have H0 := Lib.hid h0; clear h0
                      go_wp2_with fail
                      go_roundw
                      case rel =>
                        have hle : (own - 1) &&& a ≤ own - 1 := Nat.and_le_left
                        refine ⟨(own - 1) &&& a, by rw [Nat.and_assoc, Nat.and_self], by omega, congrArg (Value.int IntKind.i64) (hb64.out H0.out), heC, hgbC, hlC, hRSC, hRGC, (hR1D).congr (fun j _ => ?_), (hR2D).congr (fun j _ => ?_)⟩
                        · rw [Hnx.out, HP.out]; rfl
                        · rw [Hnx.out, HP.out]; rfl
                      case measure =>
                        have hle : (own - 1) &&& a ≤ own - 1 := Nat.and_le_left
                        have h0 := H0.out
                        rw [hb64.out h0]
                        simp only [intOf]
                        omega
                  | true =>
                  cases q3 with
                  | false =>
                    have HP : Hid (pickA (num l) (sumF num l) a (a - own + 1) = pickA (num l) (sumF num l) a (a - own)) := by
                      unfold Hid; rw [hst.out, if_neg]; rintro ⟨g1, g2, g3⟩; have := Hq3.out; simp at this; omega
                    by_cases h0 : own = 0
                    · subst h0
                      go_wp2_with fail
                      go_roundw
                      case rel =>
                        refine ⟨a + 1, by omega, by go_num, heC, hgbC, hlC, hRSC, hRGC, (hR1D).congr (fun j _ => ?_), (hR2D).congr (fun j _ => ?_)⟩
                        · exact rowB_next _ _ _ (congrArg Prod.fst HP.out) j
                        · exact rowB_next (fun s => (getF num l s : Int)) _ _ (congrArg (fun p : Int × Nat => (p.2 : Int)) HP.out) j
                      case measure => simp [intOf]; omega
                    · have hd0 : ((own : Int) == 0) = false := by simpa using h0
                      have Hnx := Lib.hid (pickA_next (num l) (sumF num l) a own hoa h0 hol)
                      have H0 := Lib.hid h0; clear h0
                      go_wp2_with fail
                      go_roundw
                      case rel =>
                        have hle : (own - 1) &&& a ≤ own - 1 := Nat.and_le_left
                        refine ⟨(own - 1) &&& a, by rw [Nat.and_assoc, Nat.and_self], by omega, congrArg (Value.int IntKind.i64) (hb64.out H0.out), heC, hgbC, hlC, hRSC, hRGC, (hR1D).congr (fun j _ => ?_), (hR2D).congr (fun j _ => ?_)⟩
                        · rw [Hnx.out, HP.out]; rfl
                        · rw [Hnx.out, HP.out]; rfl
                      case measure =>
                        have hle : (own - 1) &&& a ≤ own - 1 := Nat.and_le_left
                        have h0 := H0.out
                        rw [hb64.out h0]
                        simp only [intOf]
                        omega
                  | true =>
                    have HP : Hid (pickA (num l) (sumF num l) a (a - own + 1) = (nn + rest, own)) := by
                      unfold Hid; rw [hst.out, if_pos]
                      exact ⟨of_decide_eq_true Hq1.out, of_decide_eq_true Hq2.out, of_decide_eq_true Hq3.out⟩
                    have heD : Ext w ((W3.setCell ⟨s1, a, none⟩ (.int .i64 (nn + rest))).setCell ⟨s2, a, none⟩ (.int .i64 own)) := Below.setCell (Below.setCell heC (by show _ ≤ s1; omega) _) (by show _ ≤ s2; omega) _
                    have hgbD := (hgbC.far (p := ⟨s1, a, none⟩) (by show _ ≠ s1; omega) (.int .i64 (nn + rest))).far (p := ⟨s2, a, none⟩) (by show _ ≠ s2; omega) (.int .i64 own)
                    have hRSD := (hRSC.far (p := ⟨s1, a, none⟩) (Ne.symm hS1ne) (by show _ ≤ s1; omega) (.int .i64 (nn + rest))).far (p := ⟨s2, a, none⟩) (Ne.symm hS2ne) (by show _ ≤ s2; omega) (.int .i64 own)
                    have hRGD := (hRGC.far (p := ⟨s1, a, none⟩) (Ne.symm hS1G) (by show _ ≤ s1; omega) (.int .i64 (nn + rest))).far (p := ⟨s2, a, none⟩) (Ne.symm hS2G) (by show _ ≤ s2; omega) (.int .i64 own)
                    have hR1E := ((hR1D.set_ hlta (nn + rest)).congr (fun j _ => rowB_set _ _ _ _ j)).far (p := ⟨s2, a, none⟩) hss (.int .i64 own)
                    have hR2E := ((hR2D.far (p := ⟨s1, a, none⟩) (Ne.symm hss) (.int .i64 (nn + rest))).set_ hlta (own : Int)).congr (fun j _ => rowB_set _ _ _ _ j)
                    have hlD : lim ≤ ((W3.setCell ⟨s1, a, none⟩ (.int .i64 (nn + rest))).setCell ⟨s2, a, none⟩ (.int .i64 own)).heap.size := by rw [World.size_setCell, World.size_setCell]; exact hlC
                    by_cases h0 : own = 0
                    · subst h0
                      go_wp2_with fail
                      go_roundw
                      case rel =>
                        refine ⟨a + 1, by omega, by go_num, heD, hgbD, hlD, hRSD, hRGD, (hR1E).congr (fun j _ => ?_), (hR2E).congr (fun j _ => ?_)⟩
                        · exact rowB_next _ _ _ (congrArg Prod.fst HP.out) j
                        · exact rowB_next (fun s => (getF num l s : Int)) _ _ (congrArg (fun p : Int × Nat => (p.2 : Int)) HP.out) j
                      case measure => simp [intOf]; omega
                    · have hd0 : ((own : Int) == 0) = false := by simpa using h0
                      have Hnx := Lib.hid (pickA_next (num l) (sumF num l) a own hoa h0 hol)
                      have H0 := Lib.hid h0; clear h0
                      go_wp2_with fail
                      go_roundw
                      case rel =>
                        have hle : (own - 1) &&& a ≤ own - 1 := Nat.and_le_left
                        refine ⟨(own - 1) &&& a, by rw [Nat.and_assoc, Nat.and_self], by omega, congrArg (Value.int IntKind.i64) (hb64.out H0.out), heD, hgbD, hlD, hRSD, hRGD, (hR1E).congr (fun j _ => ?_), (hR2E).congr (fun j _ => ?_)⟩
                        · rw [Hnx.out, HP.out]; rfl
                        · rw [Hnx.out, HP.out]; rfl
                      case measure =>
                        have hle : (own - 1) &&& a ≤ own - 1 := Nat.and_le_left
                        have h0 := H0.out
                        rw [hb64.out h0]
                        simp only [intOf]
                        omega
            · obtain rfl : a = N' := by omega
              have f1 := hRS9.frozen (l + 1)
              have f2 := hRG9.frozen (l + 1)
              obtain ⟨v1, u1⟩ := hRS9.some_ (i := l + 1) (by omega)
              obtain ⟨v2, u2⟩ := hRG9.some_ (i := l + 1) (by omega)
              have hR1' := hR19.congr (g := sumF num (l + 1)) (fun j hj => by simp [hj])
              have hR2' := hR29.congr (g := fun s => (getF num l s : Int)) (fun j hj => by simp [hj])
              have hS1ne : s1 ≠ S := by rintro rfl; obtain ⟨_, _, q1, _⟩ := hRS9; obtain ⟨_, q2, _⟩ := hR19; exact q2.ne_ q1 (by decide) rfl
              have hS2ne : s2 ≠ S := by rintro rfl; obtain ⟨_, _, q1, _⟩ := hRS9; obtain ⟨_, q2, _⟩ := hR29; exact q2.ne_ q1 (by decide) rfl
              have hl1 := hR19.lt
              have hl2 := hR29.lt
              have hwS : w.heap.size < S := by omega
              have hwG : w.heap.size < G := by omega
              go_wp2_with fail
              go_roundw
              case rel =>
                obtain ⟨csG, hBG⟩ := hRG9.blk
                have p1 := hRS9.push (b := s1) (lim' := wr.heap.size) (by omega) hR1' hl9 hl1
                obtain ⟨csS, hBS⟩ := p1.blk
                have hG1' := hRG9.farS (p := ⟨S, l + 1, none⟩) (Ne.symm hSG) (cs' := _) (hRS9.blk.choose_spec) (.slice (some ⟨s1, 0, none⟩) a a)
                have hR2'' : Row (wr.setCell ⟨S, l + 1, none⟩ (.slice (some ⟨s1, 0, none⟩) a a)) s2 a (fun s => (getF num (l + 1 - 1) s : Int)) := hR2'.far hS2ne _
                have p2 := hG1'.push (b := s2) (lim' := wr.heap.size) (by omega) hR2'' hl9 hl2
                have p1' := p1.farS (p := ⟨G, l + 1, none⟩) hSG (hBG.far (p := ⟨S, l + 1, none⟩) (Ne.symm hSG) _) (.slice (some ⟨s2, 0, none⟩) a a)
                refine ⟨l + 1, by omega, by go_num, Below.setCell (Below.setCell he9 (by show _ ≤ S; omega) _) (by show _ ≤ G; omega) _, (hgb9.far (p := ⟨S, l + 1, none⟩) (by show _ ≠ S; omega) _).far (by show _ ≠ G; omega) _, p1'.lim_ ?_, p2.lim_ ?_⟩
                all_goals rw [World.size_setCell, World.size_setCell]; exact Nat.le_refl _
              case measure => simp [intOf]; omega
      · obtain rfl : l = n := by omega
        go_wp2
        go_ret2
        refine ⟨S, G, wr.heap.size, ?_, hRS, hRG, he⟩
        first | rfl | trivial | trace_state
end Go.Proofs.Pet

namespace Go.Proofs.Pet
open Go Go.RowKit Go.Maps Go.Shelf

theorem gives_cheapest (B : Nat) (m : Mill) (hch : checkE m = 0) (N : Nat) (hN : N = 2 ^ m.orders.length) (w : World)
    (hc : CostsAt w B (fun l s k => if l < m.laced.length ∧ s < 2 ^ m.orders.length then costC m l s k else 0)) :
    GivesLS Try.prog w 50 #[.pointer (some ⟨B, 0, none⟩)] #[] (numC m) m.laced.length N := by
  obtain ⟨l1, l2, l3⟩ := check_len hch
  intro W hW l s hl hs
  have hs128 : s < 128 := by
    have h1 : 2 ^ m.orders.length ≤ 2 ^ 7 := Nat.pow_le_pow_right (by omega) l3
    have h2 : (2 : Nat) ^ 7 = 128 := by decide
    omega
  refine (cheapest_any B l s (by omega) hs128 _ (numC m l s) ?_ W (hc.ext hW)).mono ?_
  · unfold numC
    have : (l < m.laced.length ∧ s < 2 ^ m.orders.length) := ⟨hl, by omega⟩
    simp only [this, and_self, if_true]
  · rintro e w' ⟨rfl, rfl⟩
    exact ⟨rfl, Ext.refl _⟩

/-- what First answers -/
def firstE (m : Mill) : Int × Int := if checkE m = 0 then (match firstS m with | some k => ((k : Int), 0) | none => (0, 6)) else (0, checkE m)
end Go.Proofs.Pet

namespace Go.Proofs.Pet
open Go Go.RowKit Go.Maps Go.Shelf

/-- the numbers of a list below k, in increasing order -/
def sortF (xs : List Int) (k : Nat) : List Int := ints ((List.range k).filter fun n => xs.contains (n : Int))
end Go.Proofs.Pet

namespace Go.Proofs.Pet
open Go Go.RowKit Go.Maps Go.Shelf

theorem rvI_take {xs : List Int} {k : Nat} (hk : k < xs.length) : rvI (xs.take (k + 1)) = (xs[k]?.getD 0).toNat :: rvI (xs.take k) := by
  unfold rvI
  rw [List.take_succ_eq_append_getElem hk, List.map_append, List.reverse_append]
  simp [hk]
def endsF (m : Mill) (l : Nat) (xs : List Int) (k : Nat) : List Int := (List.range k).map fun j => dyR m l (rvI (xs.take (j + 1)))
theorem endsF_succ (m : Mill) (l : Nat) (xs : List Int) (k : Nat) : endsF m l xs (k + 1) = endsF m l xs k ++ [dyR m l (rvI (xs.take (k + 1)))] := by
  unfold endsF; rw [List.range_succ, List.map_append]; rfl
theorem endsF_len (m : Mill) (l : Nat) (xs : List Int) (k : Nat) : (endsF m l xs k).length = k := by unfold endsF; simp
theorem dyR_bd {m : Mill} (hch : checkE m = 0) (l : Nat) : ∀ r : List Nat, (∀ j, j ∈ r → j < m.orders.length) → 0 ≤ dyR m l r ∧ dyR m l r ≤ 25 * r.length
  | [], _ => by simp [dyR]
  | k :: r, h => by
    have ih := dyR_bd hch l r (fun j hj => h j (by simp [hj]))
    have hk := h k (by simp)
    have ho := (check_orders hch).1 (m.orders[k]?.getD default) (by simp [hk])
    have hc := (check_orders hch).2
    have h1 := chg_bd (lastPat m l r) (m.pat k)
    have h2 : 0 ≤ m.change * chg (lastPat m l r) (m.pat k) ∧ m.change * chg (lastPat m l r) (m.pat k) ≤ 5 := by
      rcases (show chg (lastPat m l r) (m.pat k) = 0 ∨ chg (lastPat m l r) (m.pat k) = 1 by omega) with e | e
      · rw [e]; omega
      · rw [e]; omega
    rw [dyR, List.length_cons]
    unfold Mill.dys
    omega

end Go.Proofs.Pet

namespace Go.Proofs.Pet
open Go Go.RowKit Go.Maps Go.Shelf

/-- all rows that begin with one of the first i elements -/
def accF (n : Nat) (xs : List Int) (i : Nat) : List (List Int) :=
  (List.range i).flatMap fun j => (rowsF n (xs.take j ++ xs.drop (j + 1))).map fun r => (xs[j]?.getD 0) :: r
theorem accF_succ (n : Nat) (xs : List Int) (i : Nat) : accF n xs (i + 1) = accF n xs i ++ (rowsF n (xs.take i ++ xs.drop (i + 1))).map fun r => (xs[i]?.getD 0) :: r := by
  unfold accF; rw [List.range_succ, List.flatMap_append]; simp
def fct : Nat → Nat
  | 0 => 1
  | n + 1 => (n + 1) * fct n
def rowR1 (b o i N c : Nat) : Nat → Value → Prop
  | 1 => fun v => v = .slice (some ⟨b, o, none⟩) (N + 1) c
  | 2 => fun v => v = .int .i64 i
  | 3 => fun v => v = .slice (some ⟨b, o, none⟩) i c
  | 5 => fun v => v = .slice (some ⟨b, o, none⟩) (N + 1) c
  | 6 => fun v => v = .int .i64 i
  | 7 => fun v => v = .int .i64 (i + 1)
  | 8 => fun v => ∃ A' c', v = .slice A' (N - i) c' ∧ (N - i = 0 ∨ A' = some ⟨b, o + (i + 1), none⟩)
  | _ => fun _ => True
def rowS1 (wr : World) (ys zs : List Int) (Ld : Nat → Prop) (x : Nat → Value) (W : World) : Prop :=
  Ext wr W ∧ (Ld 0 → ¬ Ld 4 → OwnI W wr.heap.size 3 (x 0) []) ∧ (Ld 4 → ¬ Ld 9 → OwnI W wr.heap.size 3 (x 4) ys) ∧ (Ld 9 → OwnI W wr.heap.size 3 (x 9) zs)
def rowR2 (b o i c n b' k cR len : Nat) (vout u : Value) (xi : Int) : Nat → Value → Prop
  | 0 => fun v => v = vout
  | 1 => fun v => v = .slice (some ⟨b, o, none⟩) (n + 1) c
  | 2 => fun v => v = .int .i64 i
  | 3 => fun v => v = .pointer (some ⟨b, o + i, none⟩)
  | 4 => fun v => v = .int .i64 xi
  | 5 => fun _ => True
  | 6 => fun v => v = .slice (some ⟨b', 0, none⟩) len cR
  | 7 => fun v => v = .int .i64 k
  | 8 => fun v => v = .pointer (some ⟨b', k, none⟩)
  | 9 => fun v => v = u
  | _ => fun _ => True
def rowS2 (wr : World) (B0 n : Nat) (vout : Value) (vs : List Value) (xi : Int) (Rk : List Int) (Ld : Nat → Prop) (x : Nat → Value) (W : World) : Prop :=
  (¬ Ld 12 → Ext wr W) ∧ (Ld 5 → ¬ Ld 10 → OwnI W wr.heap.size 3 (x 5) [xi]) ∧ (Ld 10 → ¬ Ld 12 → OwnI W wr.heap.size 3 (x 10) (xi :: Rk)) ∧
    (Ld 11 → ¬ Ld 12 → ∃ g, x 11 = .slice (some ⟨g, 0, none⟩) 1 1 ∧ Blk W g 28 #[x 10]) ∧
    (Ld 12 → ∃ W1, Ext wr W1 ∧ OwnI W1 wr.heap.size 3 (x 10) (xi :: Rk) ∧ W.ownsRow B0 28 1 (x 12) (n + 1) (vs ++ [x 10]) ∧ W1.grownBy W vout.ownBlock ∧ ((x 12).ownBlock = vout.ownBlock ∨ (x 12).ownBlock = some W1.heap.size))
theorem one_ints {xs : List Int} : ∀ u, u ∈ xs.map (Value.int .i64) → u.oneCell' = true := by
  intro u hu
  obtain ⟨x, _, rfl⟩ := List.mem_map.1 hu
  rfl
end Go.Proofs.Pet

namespace Go.Proofs.Pet
open Go Go.RowKit Go.Maps Go.Shelf

/-- a slice of ints, wherever it lies -/
def SlI (w : World) (v : Value) (xs : List Int) : Prop := ∃ A c, v = .slice A xs.length c ∧ xs.length ≤ c ∧ c ≤ maxLen ∧ IntsAt w A xs
theorem SlI.ext {w w' : World} {v : Value} {xs : List Int} (h : SlI w v xs) (he : Ext w w') : SlI w' v xs := by
  obtain ⟨A, c, h1, h2, h3, h4⟩ := h
  exact ⟨A, c, h1, h2, h3, h4.ext he⟩
theorem OwnI.sl {w : World} {base : Nat} {e : TypeId} {v : Value} {xs : List Int} (h : OwnI w base e v xs) : SlI w v xs := by
  obtain ⟨A, c, h1, h2, h3, h4, _⟩ := h.open_
  exact ⟨A, c, h1, h2, h3, h4⟩
def bestR5 (mv : Value) (l b k len cR : Nat) (u : Value) (ch : Int) (q : Bool) : Nat → Value → World → Prop
  | 0 => fun v _ => v = mv
  | 1 => fun v _ => v = .int .i64 l
  | 2 => fun v _ => v = .slice (some ⟨b, 0, none⟩) len cR
  | 3 => fun v _ => v = .int .i64 k
  | 4 => fun v _ => v = .pointer (some ⟨b, k, none⟩)
  | 5 => fun v _ => v = u
  | 6 => fun v _ => ∃ r, v = .tuple #[r, .int .i64 ch, .bool q]
  | 7 => fun v _ => ∃ r, v = .tuple #[r, .int .i64 ch, .bool q]
  | 8 => fun _ _ => True
  | 9 => fun v _ => v = .int .i64 ch
  | 10 => fun v _ => v = .bool q
  | 11 => fun _ _ => True
  | 12 => fun v _ => v = .int .i64 ch
  | 13 => fun v _ => v = .bool q
  | _ => fun _ _ => True
end Go.Proofs.Pet

namespace Go.Proofs.Pet
open Go Go.RowKit Go.Maps Go.Shelf

theorem nodup_not_take {xs : List Int} (h : xs.Nodup) {k : Nat} (hk : k < xs.length) : (xs.take k).contains (xs[k]?.getD 0) = false := by
  cases hc : (xs.take k).contains (xs[k]?.getD 0)
  · rfl
  · exfalso
    have hm : xs[k]?.getD 0 ∈ xs.take k := by simpa using hc
    obtain ⟨j, hj, he⟩ := List.mem_iff_getElem.1 hm
    rw [List.length_take] at hj
    rw [List.getElem_take] at he
    have h2 := List.pairwise_iff_getElem.1 h j k (by omega) hk (by omega)
    apply h2
    rw [he]; simp [hk]
theorem nodup_ints {l : List Nat} (h : l.Nodup) : (ints l).Nodup := by
  unfold ints
  rw [List.Nodup, List.pairwise_map]
  exact h.imp fun hne e => hne (by omega)
theorem lt_of_bit {n s k : Nat} (hs : s < 2 ^ n) (h : s.testBit k = true) : k < n := by
  have h5 := pow_le_of_testBit h
  exact (Nat.pow_lt_pow_iff_right (by omega : 1 < 2)).1 (by omega)
/-- the row of a loom, of all sets below a number -/
def tabL (m : Mill) (l s : Nat) : List Int := (List.range s).map (tabR m l)
def tabAll (m : Mill) (N l : Nat) : List (List Int) := (List.range l).map fun i => tabL m i N
end Go.Proofs.Pet

namespace Go.Proofs.Pet
open Go Go.RowKit Go.Maps Go.Shelf

/-- nothing has turned that was there, aside from a block -/
structure Apart (b : Nat) (w W : World) : Prop where
  os : W.os = w.os
  tape : W.tape = w.tape
  output : W.output = w.output
  size : w.heap.size ≤ W.heap.size
  block : ∀ k, k < w.heap.size → k ≠ b → W.heap[k]? = w.heap[k]?
theorem Apart.refl (b : Nat) (w : World) : Apart b w w := ⟨rfl, rfl, rfl, Nat.le_refl _, fun _ _ _ => rfl⟩
theorem Apart.of_ext {b : Nat} {w W : World} (h : Ext w W) : Apart b w W := ⟨h.os, h.tape, h.output, h.size, fun k hk _ => Below.block h k hk⟩
theorem Apart.trans {b : Nat} {w W V : World} (h : Apart b w W) (k : Apart b W V) : Apart b w V :=
  ⟨k.os.trans h.os, k.tape.trans h.tape, k.output.trans h.output, Nat.le_trans h.size k.size, fun j hj hne => (k.block j (Nat.lt_of_lt_of_le hj h.size) hne).trans (h.block j hj hne)⟩
theorem Apart.set_ {b : Nat} {w W : World} (h : Apart b w W) (i : Nat) (v : Value) : Apart b w (W.setCell ⟨b, i, none⟩ v) := by
  have e := Below.setCell (B := b) (Below.refl b W) (p := ⟨b, i, none⟩) (by exact Nat.le_refl _) v
  refine ⟨e.os.trans h.os, e.tape.trans h.tape, e.output.trans h.output, by rw [World.size_setCell]; exact h.size, fun k hk hne => ?_⟩
  rw [Below.heap_setCell W ⟨b, i, none⟩ v k hne]
  exact h.block k hk hne
theorem Apart.ext_of {b : Nat} {w0 w W : World} (h0 : Ext w0 w) (hb : w0.heap.size ≤ b) (h : Apart b w W) : Ext w0 W :=
  ⟨h.os.trans h0.os, h.tape.trans h0.tape, h.output.trans h0.output, Nat.le_trans h0.size h.size, fun k hk => (h.block k (Nat.lt_of_lt_of_le hk h0.size) (by omega)).trans (Below.block h0 k hk)⟩
def sumP : List Nat → Nat
  | [] => 0
  | k :: ks => 2 ^ k + sumP ks
theorem sumT_bd (t : Nat → Nat → Int) (own : Nat → Nat) (ht : ∀ i s, t i s ≤ 1000) : ∀ n, -1 ≤ sumT t own n ∧ sumT t own n ≤ 1000 * n
  | 0 => by simp [sumT]
  | n + 1 => by
    have := sumT_bd t own ht n
    have h := ht n (own n)
    unfold sumT
    split
    · omega
    split <;> omega
theorem bestOf_bd {M : Int} (hM : 0 ≤ M) (l : List Int) (h : ∀ x, x ∈ l → x ≤ M) : -1 ≤ bestOf l ∧ bestOf l ≤ M := by
  obtain ⟨h1, h2, h3⟩ := bestOf_least l
  refine ⟨h3, ?_⟩
  by_cases e : 0 ≤ bestOf l
  · exact h _ (h2 e).2
  · omega
def tabOf (t : Nat → Nat → Int) (N L : Nat) : List (List Int) := (List.range L).map fun i => (List.range N).map (t i)
def shR (mv tv lv ov : Value) (ks : List Nat) (b : Nat) (w : World) (sv : Int) : Nat → Value → World → Prop
  | 0 => fun v _ => v = mv
  | 1 => fun v _ => v = tv
  | 2 => fun v _ => v = lv
  | 3 => fun v _ => ∃ A' c', v = .slice A' ks.length c' ∧ ks.length ≤ c' ∧ c' ≤ maxLen ∧ ∀ W, Apart b w W → IntsAt W A' (ints ks)
  | 4 => fun v _ => v = ov
  | 5 => fun v _ => v = .int .i64 sv
  | _ => fun _ _ => True
end Go.Proofs.Pet

namespace Go.Proofs.Pet
open Go Go.RowKit Go.Maps Go.Shelf

theorem OwnI.apart {w W : World} {base b : Nat} {e : TypeId} {v : Value} {xs : List Int} (h : OwnI w base e v xs) (hne : v.ownBlock ≠ some b) (ha : Apart b w W) : OwnI W base e v xs := by
  obtain ⟨h1, h2⟩ := h
  refine ⟨h1, ?_⟩
  rcases h2 with h2 | ⟨g, cap, cur, rfl, hg1, hb, r⟩
  · exact .inl h2
  · refine .inr ⟨g, cap, cur, rfl, hg1, ?_, r⟩
    rw [← hb]
    exact ha.block g (Array.getElem?_eq_some_iff.1 hb).1 (fun e => hne (by rw [e]; rfl))
def fewS (S N s L M : Nat) (mv tv : Value) (A1 : Option Addr) (c1 Lb n : Nat) (r : Int) : Nat → Value → World → Prop
  | 0 => fun v _ => v = .slice (some ⟨S, 0, none⟩) N N
  | 1 => fun v _ => v = .int .i64 s
  | 2 => fun v _ => v = mv
  | 3 => fun v _ => v = tv
  | 4 => fun v _ => v = mv
  | 5 => fun v _ => v = .int .i64 s
  | 6 => fun v W => OwnI W Lb 3 v (ints (bits n s))
  | 7 => fun v _ => v = .pointer (some ⟨M, 0, none⟩)
  | 8 => fun v _ => v = .slice A1 L c1
  | 9 => fun v _ => v = .int .i64 L
  | 10 => fun v W => ∃ b, v = .slice (some ⟨b, 0, none⟩) L L ∧ Lb ≤ b ∧ Row W b L (fun _ => 0)
  | 11 => fun v _ => v = .int .i64 r
  | _ => fun _ _ => True
def fewAp (i : Nat) (u : Value) (j : Nat) (v : Value) : Prop := (i = 6 ∧ j = 10) ∨ (i = 10 ∧ j = 6) → ∀ g, u.ownBlock = some g → v.ownBlock ≠ some g

end Go.Proofs.Pet

namespace Go.Proofs.Pet
open Go Go.RowKit Go.Maps Go.Shelf

def lateItem (m : Mill) (s : Nat) : Bool × List Int := (decide (0 ≤ fewR m s), intsOf (bits m.orders.length (2 ^ m.orders.length - 1 - s)))
end Go.Proofs.Pet

namespace Go.Proofs.Pet
open Go Go.RowKit Go.Maps Go.Shelf

end Go.Proofs.Pet

namespace Go.Proofs.Pet
open Go Go.RowKit Go.Maps Go.Shelf

attribute [local go_sem] Oper.semAt_some
/-- 'for k, rest := range m.lacking(s) { .. }' -/
theorem wp_lackingN {g : Operand} {ps : Array Tmp} {assign body : Code} {Q : Exit → Act → World → Prop} {a : Act} {w : World} {B : Nat} {A1 ch : Value} {A2 : Option Addr} {c2 n s : Nat} (hn7 : n ≤ 20) (hs : s ≤ 1048576)
    (hB1 : Blk w B 64 #[A1, ch, .slice A2 n c2]) (hB2 : Blk w (B + 1) 3 #[.int .i64 s])
    (hg : a.eval g = .func (.func 147) #[] #[.pointer (some ⟨B, 0, none⟩), .pointer (some ⟨B + 1, 0, none⟩)]) (hps : ps.size = 2)
    (I : List (In s) → World → Prop) (Ix : Code → List (In s) → World → Prop) (hI : ∀ p W W', I p W → Loops w.heap.size W W' → I p W') (hIx : ∀ c p W W', Ix c p W → Loops w.heap.size W W' → Ix c p W') (h0 : I [] w) (a₁ : In s → Act)
    (hassign : ∀ (l : Nat) (x : In s) (W : World) (K : Act → World → Prop), K (a₁ x) W →
      assign.wpIn (Fence.wide.inRound l) 3 Try.prog (Exit.then K (fun _ _ _ => False)) { tmps := (ps.zip (encK s x)).foldl (fun t (p, v) => t.setIfInBounds p v) a.tmps, defers := [] } W)
    (hbody : ∀ (l : Nat) (pre : List (In s)) (x : In s) (W : World), I pre W → pre.length < n → body.wpIn (Fence.wide.inRound l) 3 Try.prog (ownPostG w.heap.size (KeepsTwo B) I Ix (pre ++ [x]) W) (a₁ x) W)
    (hdone : ∀ (D : Nat) (W : World), w.heap.size ≤ D → I (bitsS s n) W → W.heap[D]? = some (.deferred (some [])) → Q .normal { a with defers := { target := .collected D, args := #[] } :: a.defers } W)
    (hstop : ∀ (D : Nat) (c : Code) (pre : List (In s)) (W : World), w.heap.size ≤ D → (∃ k, k ≤ n ∧ pre = bitsS s k) → Ix c pre W → W.heap[D]? = some (.deferred (some [])) → c.wp Try.prog Q { a with defers := { target := .collected D, args := #[] } :: a.defers } W) :
    (Code.rangeFunc g ps assign body).wp Try.prog Q a w := by
  refine (wpIn_wide (n := 5)).1 (wpIn_rangeFunc_ownG (n := 5) (by rfl) (by omega) hg trivial (enters_of Try.func147 (by kernel_rfl) rfl)
    (lacking_stops Fence.wide 4 trivial (by rfl) (by omega) B A1 ch A2 c2 n s hn7 hs w hB1 hB2) (KeepsTwo.t) (KeepsTwo.b hB2.lt) (Below.refl _ _) (fun x => by rw [hps]; rfl) I Ix
    (ownFrom_keep hI) (fun c => ownFrom_keep (hIx c)) h0 a₁ hassign (fun l pre x W hi hl => hbody l pre x W hi hl) (fun D xs W hD hxs hi hK => by subst hxs; exact hdone D W hD hi hK) (fun D c pre W hD hp hi hK => wpIn_wide.2 (hstop D c pre W hD hp hi hK)))

def lateItemS (m : Mill) (off : Nat) : Bool × List Int := (decide (sumF (numC m) m.laced.length (sdiff (2 ^ m.orders.length - 1) off) < 297), intsOf (bits m.orders.length off))
theorem ownsRow_slice {w : World} {base n : Nat} {e : TypeId} {size : Nat} {v : Value} {xs : List Value} (h : w.ownsRow base e size v n xs) : ∃ A c, v = .slice A n c := by
  rcases h.2 with ⟨rfl, rfl⟩ | ⟨g, cap, cur, rfl, _⟩
  · exact ⟨none, 0, rfl⟩
  · exact ⟨_, _, rfl⟩
theorem Apart.loops {b B : Nat} {w W W' : World} (h : Apart b w W) (hk : Loops B W W') (hB : w.heap.size ≤ B) : Apart b w W' :=
  ⟨hk.os.trans h.os, hk.tape.trans h.tape, hk.output.trans h.output, Nat.le_trans h.size hk.size, fun k hlt hne => (hk.low k (by omega) (by have := h.size; omega)).trans (h.block k hlt hne)⟩
/-- the frame of Late at its loop -/
def lateF (N D S B : Nat) (mv v7 v8 v27 : Value) (u : Nat → Value) (ds : List Deferred) : Act := ⟨#[mv, .pointer (some ⟨B, 0, none⟩), .slice none 0 0, .int .i64 0, .pointer (some ⟨D, 0, none⟩), u 5, .slice (some ⟨S, 0, none⟩) N N, v7, v8, u 9, u 10, u 11, u 12, u 13, u 14, u 15, u 16, u 17, u 18, u 19, u 20, u 21, u 22, u 23, u 24, u 25, .int .i64 (N : Int), v27, u 28, u 29, u 30, u 31, u 32, u 33, u 34, u 35, u 36, u 37, u 38, u 39, u 40, u 41, u 42, u 43, u 44, u 45, u 46, u 47, u 48, u 49, u 50, u 51, u 52, u 53, u 54, u 55, u 56, u 57, u 58, u 59, u 60, u 61, u 62, u 63, u 64, u 65, u 66, u 67, u 68, u 69, u 70, u 71, u 72, u 73, u 74, u 75, u 76, u 77, u 78], ds⟩

end Go.Proofs.Pet

namespace Go.Proofs.Pet
open Go Go.RowKit Go.Maps Go.Shelf

theorem ownsRow_apart {w W : World} {base b size n : Nat} {e : TypeId} {v : Value} {xs : List Value} (h : w.ownsRow base e size v n xs) (hne : v.ownBlock ≠ some b) (ha : Apart b w W) : W.ownsRow base e size v n xs := by
  obtain ⟨h1, h2⟩ := h
  refine ⟨h1, ?_⟩
  rcases h2 with h2 | ⟨g, cap, cur, rfl, hg1, hb, r⟩
  · exact .inl h2
  · refine .inr ⟨g, cap, cur, rfl, hg1, ?_, r⟩
    rw [← hb]
    exact ha.block g (Array.getElem?_eq_some_iff.1 hb).1 (fun e => hne (by rw [e]; rfl))
end Go.Proofs.Pet

namespace Go.Proofs.Pet
open Go Go.RowKit Go.Maps Go.Shelf

end Go.Proofs.Pet

namespace Go.Proofs.Pet
open Go Go.RowKit Go.Maps Go.Shelf

set_option maxRecDepth 20000 in
set_option maxHeartbeats 2000000 in
theorem ran_any (v : Value) (m : Mill) (hch : checkE m = 0) (l : Nat) (hl : l < m.laced.length) (A : Option Addr) (c n : Nat) (xs : List Int) (hn : xs.length = n) (hb : n ≤ 100) (hxs : ∀ x, x ∈ xs → 0 ≤ x ∧ x < m.orders.length) (w : World) (hv : MillVal w v m) (hx : IntsAt w A xs) :
    Calls Try.prog 54 #[v, .int .i64 (l : Int), .slice A n c] w fun e w' => ∃ r, e = .returned (.tuple #[r, .int .i64 (chR m l (rvI xs))]) ∧ OwnI w' w.heap.size 3 r (endsF m l xs n) ∧ Ext w w' := by
  obtain ⟨ti, hi, hz0, hz1, hz2⟩ := info_parts info_int
  obtain ⟨A1, c1, A2, c2, rfl, h2, h3, h4, h5, h6, h7⟩ := hv
  have hE := Ext.alloc w (.cells #[.slice A1 m.laced.length c1, .int .i64 m.change, .slice A2 m.orders.length c2] 64)
  have hM := Blk.new w 64 #[.slice A1 m.laced.length c1, .int .i64 m.change, .slice A2 m.orders.length c2]
  have Hx := Lib.hid hx; clear hx
  have Hn := Lib.hid hn; clear hn
  have Hxs := Lib.hid hxs; clear hxs
  have H7 := Lib.hid h7; clear h7
  have Hch := Lib.hid hch
  have hco := (check_orders hch).2
  obtain ⟨l1, l2, l3⟩ := check_len hch
  clear hch h3 h5
  obtain ⟨b1, o1, rfl, e1⟩ := h6.ext hE l hl
  clear h6
  obtain ⟨p0, hp0⟩ : ∃ p, m.laced[l]?.getD 0 = p := ⟨_, rfl⟩
  rw [hp0] at e1
  have Hp0 := Lib.hid hp0; clear hp0
  obtain ⟨k0, k1, k2⟩ := hM.c3
  go_enter Try.func54, Try.ntmps54
  go_wp2_with fail
  have hsz : w.heap.size + 1 ≤ (w.alloc (.cells #[.slice (some ⟨b1, o1, none⟩) m.laced.length c1, .int .i64 m.change, .slice A2 m.orders.length c2] 64)).heap.size := by simp
  generalize w.alloc _ = W at *
  go_loopw [8, 9, 10, 11, 23] (fun v la day ch i wr => ∃ (k : Nat) (p d c : Int), k ≤ n ∧ i = .int .i64 k ∧ la = .int .i64 p ∧ day = .int .i64 d ∧ ch = .int .i64 c ∧ (0 ≤ d ∧ d ≤ 25 * k) ∧ (0 ≤ c ∧ c ≤ k) ∧
      Hid (lastPat m l (rvI (xs.take k)) = p ∧ dyR m l (rvI (xs.take k)) = d ∧ chR m l (rvI (xs.take k)) = c) ∧ Ext w wr ∧ w.heap.size + 1 ≤ wr.heap.size ∧
      Blk wr w.heap.size 64 #[.slice (some ⟨b1, o1, none⟩) m.laced.length c1, .int .i64 m.change, .slice A2 m.orders.length c2] ∧ Hid (OwnI wr (w.heap.size + 1) 3 v (endsF m l xs k)))
    (fun _ _ _ _ i _ => n - (intOf i).toNat)
  case atStart => exact ⟨0, _, 0, 0, by omega, rfl, rfl, rfl, rfl, by omega, by omega, ⟨Hp0.out, rfl, rfl⟩, hE, hsz, hM, OwnI.nil _ _ _⟩
  case round =>
    obtain ⟨k, p, d, ch, hk, rfl, rfl, rfl, rfl, hd, hc, hspec, he, hsw, hM', ho⟩ := hrel
    by_cases hlt : k < n
    · obtain ⟨ba, oa, rfl, ca⟩ := Hx.out.ext he k (by rw [Hn.out]; exact hlt)
      have hxk := Hxs.out (xs[k]?.getD 0) (by have := Hn.out; simp [show k < xs.length by omega])
      obtain ⟨X, hX⟩ : ∃ X : Nat, xs[k]?.getD 0 = (X : Int) := ⟨(xs[k]?.getD 0).toNat, by omega⟩
      rw [hX] at ca hxk
      obtain ⟨b2, o2, rfl, A', cap', hcap, p1, p2, p3, p4, p5⟩ := H7.out.ext he X (by omega)
      have Hrv : Hid (rvI (xs.take (k + 1)) = X :: rvI (xs.take k)) := by
        unfold Hid; rw [rvI_take (by rw [Hn.out]; exact hlt), hX]; rfl
      have hob := (check_orders Hch.out).1 (m.orders[X]?.getD default) (by simp [show X < m.orders.length by omega])
      have Hpat : Hid (m.pat X = (m.orders[X]?.getD default).pattern ∧ m.dys X = (m.orders[X]?.getD default).days) := ⟨rfl, rfl⟩
      clear p5
      generalize m.orders[X]?.getD default = x0 at *
      have HX := Lib.hid hX; clear hX
      obtain ⟨k0, k1, k2⟩ := hM'.c3
      have hX2 := Ext.alloc wr (.cells #[.int .i64 x0.pattern, .int .i64 x0.days, .int .i64 x0.by_, .slice A' x0.on.length cap'] 107)
      have hbo := Blk.new wr 107 #[.int .i64 x0.pattern, .int .i64 x0.days, .int .i64 x0.by_, .slice A' x0.on.length cap']
      have hMo := hM'.ext hX2
      obtain ⟨g, hg⟩ : ∃ g, chg p x0.pattern = g := ⟨_, rfl⟩
      have hgb : 0 ≤ g ∧ g ≤ 1 := by rw [← hg]; exact chg_bd _ _
      have hcall := Lib.hid (changed_r p x0.pattern g hg (wr.alloc (.cells #[.int .i64 x0.pattern, .int .i64 x0.days, .int .i64 x0.by_, .slice A' x0.on.length cap'] 107)))
      have hgm : Hid (0 ≤ g * m.change ∧ g * m.change ≤ 5 ∧ m.change * g = g * m.change) := by
        refine ⟨?_, ?_, Int.mul_comm _ _⟩
        · rcases (show g = 0 ∨ g = 1 by omega) with e | e <;> rw [e] <;> omega
        · rcases (show g = 0 ∨ g = 1 by omega) with e | e <;> rw [e] <;> omega
      have Hg := Lib.hid hg; clear hg
      obtain ⟨g0, g1, g2, g3⟩ := hbo.c4
      obtain ⟨n0, n1, n2⟩ := hMo.c3
      obtain ⟨BB, cB, rfl, oo1, oo2, oo3, oo4, oo5⟩ := ho.out.open_
      have hlen := endsF_len m l xs k
      rw [hlen] at oo1 ho ⊢
      have HL := Lib.hid hlen; clear hlen
      have O4 := Lib.hid oo4; clear oo3 oo4 oo5
      have hcap2 := hcap.2
      obtain ⟨gm, hgme⟩ : ∃ gm, g * m.change = gm := ⟨_, rfl⟩
      have hgmb := hgm.out
      rw [hgme] at hgmb
      have hgmb1 := hgmb.1
      have hgmb2 := hgmb.2.1
      have Hgm3 := Lib.hid hgmb.2.2
      clear hgmb hgm
      have Hs2 : Hid (lastPat m l (rvI (xs.take (k + 1))) = x0.pattern ∧ dyR m l (rvI (xs.take (k + 1))) = d + gm + x0.days ∧ chR m l (rvI (xs.take (k + 1))) = ch + g) := by
        obtain ⟨z1, z2, z3⟩ := hspec.out
        obtain ⟨z5, z6⟩ := Hpat.out
        unfold Hid
        rw [Hrv.out]
        refine ⟨z5, ?_, ?_⟩
        · rw [dyR, z1, z2, z5, z6, Hg.out, Hgm3.out]
        · rw [chR, z1, z3, z5, Hg.out]
      go_wp2_with fail
      refine hcall.out.mono ?_
      rintro e w' ⟨rfl, rfl⟩
      go_wp2_with fail
      go_quiet (fail)
      have heQ := hX2.trans (Ext.drewN (wr.alloc (.cells #[.int .i64 x0.pattern, .int .i64 x0.days, .int .i64 x0.by_, .slice A' x0.on.length cap'] 107)) nq)
      clear hMo hbo hX2 g0 g1 g2 g3 n0 n1 n2 hcall
      generalize World.drewN _ nq = W8 at *
      have hoQ : Hid (OwnI W8 (w.heap.size + 1) 3 (.slice BB k cB) (endsF m l xs k)) := ho.out.ext heQ
      have hszQ := heQ.size
      go_wp2_with (at_builtin; refine wpList_app rfl _ _ 28 rfl (w.heap.size + 1) 3 ti (.int .i64 0) 1 8 Try.underlying28 hi hz0 hz1 hz2 rfl (by decide) _ _ _ rfl (ownsRow_alloc_of HL.out hoQ.out) (some ⟨W8.heap.size, 0, none⟩) 1 1 [.int .i64 (d + gm + x0.days)] rfl rfl (Src.one _ _ _) ?c2 ?c3 ?c4 ?c5 ?_; (case c2 => (intro u hu; simp at hu; subst hu; rfl)); (case c3 => (unfold maxLen; omega)); (case c4 => omega); (case c5 => (simp; omega)); intro v' w' hown' hg hblk)
      go_roundw
      case rel =>
        have hge := own_ge O4.out (L := k) (c := cB)
        have heA := he.trans heQ
        refine ⟨k + 1, _, _, _, by omega, by go_num, rfl, rfl, rfl, ?_, ?_, Hs2, ext_grown heA hg (fun j hj => by have := hge j hj; omega), ?_, ((hM'.ext heQ).alloc _).grown hg (fun e => by have := hge _ e.symm; omega), ?_⟩
        · omega
        · omega
        · have := hg.size; simp at this; omega
        · unfold Hid
          rw [endsF_succ, Hs2.out.2.1]
          unfold OwnI
          rw [List.map_append, List.length_append, HL.out]
          exact hown'
      case measure => simp [intOf]; omega
    · obtain rfl : k = n := by omega
      go_wp2_with fail
      have e : xs.take k = xs := List.take_of_length_le (by have := Hn.out; omega)
      have h := hspec.out
      rw [e] at h
      obtain ⟨-, -, z3⟩ := h
      rw [z3]
      go_ret2
      exact ⟨_, rfl, ho.out.mono (by omega), he⟩
end Go.Proofs.Pet

namespace Go.Proofs.Pet
open Go Go.RowKit Go.Maps Go.Shelf

set_option maxRecDepth 20000 in
theorem twice_any (A : Option Addr) (c : Nat) (l : List Int) (q : Bool) (hq : twiceB l = q) (w : World) (hl : l.length ≤ maxLen) (hlc : l.length ≤ c) (hx : IntsAt w A l) :
    Calls Try.prog 150 #[.slice A l.length c] w fun e w' => e = .returned (.bool q) ∧ w = w' := by
  unfold maxLen at hl
  have Hq0 := Lib.hid hq; clear hq
  go_enter Try.func150, Try.ntmps150
  go_wp2_with fail
  go_loopw [7] (fun i wr => ∃ k : Nat, k ≤ l.length ∧ i = .int .i64 k ∧ w = wr ∧ Hid (∀ j, j < k → (l.take j).contains (l[j]?.getD 0) = false)) (fun i _ => l.length - (intOf i).toNat)
  case atStart => exact ⟨0, by omega, rfl, rfl, fun j hj => absurd hj (by omega)⟩
  case round =>
    obtain ⟨k, hk, rfl, rfl, hm⟩ := hrel
    by_cases hlt : k < l.length
    · obtain ⟨b, o, rfl, q1⟩ := hx k hlt
      obtain ⟨q', hq'⟩ : ∃ q, (l.take k).contains (l[k]?.getD 0) = q := ⟨_, rfl⟩
      have hlk : (l.take k).length = k := by rw [List.length_take]; omega
      have Ho := Lib.hid (contains_any (l[k]?.getD 0) (some ⟨b, o, none⟩) c k (l.take k) hlk q' hq' w (by unfold maxLen; omega) (hx.take k))
      have Hq := Lib.hid hq'; clear hq' hlk
      have htw : Hid (q' = true → q = true) := fun h => by rw [← Hq0.out]; exact twiceB_true hlt (by rw [← h]; exact Hq.out)
      generalize hgx : l[k]?.getD 0 = y at *
      have Hgx := Lib.hid hgx; clear hgx
      go_wp2_with fail
      refine Ho.out.mono ?_
      rintro e w' ⟨rfl, rfl⟩
      cases q' with
      | true =>
        have hr := htw.out rfl
        subst hr
        go_wp2_with fail
        go_ret
        exact ⟨rfl, rfl⟩
      | false =>
        go_wp2_with fail
        go_roundw
        case rel =>
          refine ⟨k + 1, by omega, by go_num, by trivial, fun j hj => ?_⟩
          by_cases ej : j = k
          · subst ej; rw [Hgx.out]; exact Hq.out
          · exact hm.out j (by omega)
        case measure => simp [intOf]; omega
    · have hr : q = false := by rw [← Hq0.out]; exact twiceB_false fun j hj => hm.out j (by omega)
      subst hr
      go_wp2_with fail
      go_ret
      exact ⟨rfl, rfl⟩
def listE (m : Mill) (l : List Int) : Int := if checkE m = 0 then listedE m l else checkE m
set_option maxRecDepth 20000 in
theorem listed_any (v : Value) (m : Mill) (A : Option Addr) (c : Nat) (l : List Int) (r : Int) (hr : listE m l = r) (w : World) (hv : MillVal w v m) (hlc : l.length ≤ c) (hl : c ≤ maxLen) (hx : IntsAt w A l) :
    Calls Try.prog 105 #[v, .slice A l.length c] w fun e w' => e = .returned (.int .i64 r) ∧ Ext w w' := by
  have hmf : ∀ (fn : Fn) (first cap : Array Value) (w : World), (Instr.makeFunc fn first cap).run Try.prog w = .ok (.func fn first cap) w := fun _ _ _ _ => rfl
  have Hr := Lib.hid hr; clear hr
  have Hv := Lib.hid hv
  obtain ⟨A1, c1, A2, c2, rfl, h2, h3, h4, h5, h6, h7⟩ := hv
  have hE := Ext.alloc w (.cells #[.slice A1 m.laced.length c1, .int .i64 m.change, .slice A2 m.orders.length c2] 64)
  have hM := Blk.new w 64 #[.slice A1 m.laced.length c1, .int .i64 m.change, .slice A2 m.orders.length c2]
  have hch := Lib.hid (check_any _ m _ (Hv.out.ext hE))
  have Hx := Lib.hid hx
  clear h6 h7 h3 h5 hx
  obtain ⟨k0, k1, k2⟩ := hM.c3
  by_cases h0 : checkE m = 0
  · have hr2 : Hid (listedE m l = r) := by unfold Hid; rw [← Hr.out]; unfold listE; rw [if_pos h0]
    rw [h0] at hch
    clear h0
    go_enter Try.func105, Try.ntmps105
    go_wp2_with fail
    refine hch.out.mono ?_
    rintro e w1 ⟨rfl, he1⟩
    have hE1 := hE.trans he1
    have hM1 := hM.ext he1
    clear hM hE he1 hch k0 k1 k2
    obtain ⟨k0, k1, k2⟩ := hM1.c3
    obtain ⟨q1, hq1⟩ : ∃ q, (l.all fun k => inB k 0 (m.orders.length - 1)) = q := ⟨_, rfl⟩
    have hev := everyI 149 #[.agg #[.slice A1 m.laced.length c1, .int .i64 m.change, .slice A2 m.orders.length c2]] #[] (enters_of Try.func149 (by kernel_rfl) rfl) (fun n => inB n 0 (m.orders.length - 1)) A c l w1 (Nat.le_trans hlc hl) (Hx.out.ext hE1) (fun x _ => by
      intro W u hW hu
      obtain rfl : u = .int .i64 x := hu
      exact order_any _ m x _ rfl W (Hv.out.ext (hE1.trans hW)))
    rw [hq1] at hev
    have Hev := Lib.hid hev; clear hev
    have Hq1 := Lib.hid hq1; clear hq1
    obtain ⟨q2, hq2⟩ : ∃ q, twiceB l = q := ⟨_, rfl⟩
    have Htw := fun W (hW : Ext w1 W) => twice_any A c l q2 hq2 W (Nat.le_trans hlc hl) hlc ((Hx.out.ext hE1).ext hW)
    have Htw' := Lib.hid Htw; clear Htw
    have Hq2 := Lib.hid hq2; clear hq2
    go_wp2_with fail
    refine Hev.out.mono ?_
    rintro e w2 ⟨rfl, he2⟩
    clear Hev
    cases q1 with
    | false =>
      have hr : r = 1 := by rw [← hr2.out]; unfold listedE; rw [Hq1.out]; rfl
      subst hr
      go_wp2_with fail
      go_ret
      exact ⟨rfl, hE1.trans he2⟩
    | true =>
      go_wp2_with fail
      refine (Htw'.out w2 he2).mono ?_
      rintro e w3 ⟨rfl, rfl⟩
      cases q2 with
      | true =>
        have hr : r = 5 := by rw [← hr2.out]; unfold listedE; rw [Hq1.out, Hq2.out]; rfl
        subst hr
        go_wp2_with fail
        go_ret
        exact ⟨rfl, hE1.trans he2⟩
      | false =>
        have hr : r = 0 := by rw [← hr2.out]; unfold listedE; rw [Hq1.out, Hq2.out]; rfl
        subst hr
        go_wp2_with fail
        go_ret
        exact ⟨rfl, hE1.trans he2⟩
  · have hr2 : checkE m = r := by rw [← Hr.out]; unfold listE; rw [if_neg h0]
    have hd : (r != 0) = true := by rw [← hr2]; simpa using h0
    rw [hr2] at hch
    clear h0 hr2
    go_enter Try.func105, Try.ntmps105
    go_wp2_with fail
    refine hch.out.mono ?_
    rintro e w1 ⟨rfl, he1⟩
    go_wp2_with fail
    go_ret
    exact ⟨rfl, hE.trans he1⟩
end Go.Proofs.Pet

namespace Go.Proofs.Pet
open Go Go.RowKit Go.Maps Go.Shelf

def runE (m : Mill) (l : Int) (xs : List Int) : Int := if checkE m = 0 then runningE m l xs else checkE m
theorem inB_range {m : Mill} {xs : List Int} (h : (xs.all fun k => inB k 0 (m.orders.length - 1)) = true) : ∀ x, x ∈ xs → 0 ≤ x ∧ x < m.orders.length := by
  intro x hx
  have := List.all_eq_true.1 h x hx
  unfold inB at this
  simp only [Bool.and_eq_true, decide_eq_true_eq] at this
  omega
theorem listedE_ok {m : Mill} {xs : List Int} (h : listedE m xs = 0) : (xs.all fun k => inB k 0 (m.orders.length - 1)) = true ∧ twiceB xs = false := by
  unfold listedE at h
  split at h
  · omega
  · rename_i h1
    split at h
    · omega
    · rename_i h2
      exact ⟨by simpa using h1, by simpa using h2⟩
/-- the set of some orders -/
def setF (xs : List Int) : Nat := xs.foldl (fun s x => s ||| 2 ^ x.toNat) 0
end Go.Proofs.Pet

namespace Go.Proofs.Pet
open Go Go.RowKit Go.Maps Go.Shelf

def costE (m : Mill) (l : Int) (xs : List Int) : Int × Int :=
  if runE m l xs ≠ 0 then (0, runE m l xs) else if numC m l.toNat (setF xs) = 99 then (0, 6) else (numC m l.toNat (setF xs), 0)
end Go.Proofs.Pet

namespace Go.Proofs.Pet
open Go Go.RowKit

end Go.Proofs.Pet

namespace Go.Proofs.Pet
open Go Go.RowKit

theorem everyL1 (g : Nat) (fs lb : Array Value) (eg : Enters Try.prog g) (B : Nat) (x : Int) (q : Bool) (w : World) (hp : Tells Try.prog w g fs lb IntVal x q) (hB : w.cell? ⟨B, 0, none⟩ = some (.func (.func g) fs lb)) :
    Tells Try.prog w 160 #[] #[.pointer (some ⟨B, 0, none⟩)] IntVal x (!q) := by
  intro W v hW hv
  have hB' := hW.cell hB
  obtain rfl : v = .int .i64 x := hv
  have hW' : Ext W W := Ext.refl W
  have Hp := Lib.hid hp
  clear hp hB
  have eg' := eg
  unfold Enters at eg'
  have hB2 := hW'.cell hB'
  show Calls Try.prog 160 #[_, .pointer (some ⟨B, 0, none⟩)] W _
  go_enter Try.func160, Try.ntmps160
  cases q with
  | true =>
    go_wp2_with fail
    refine (Hp.out _ _ (hW.trans hW') rfl).mono ?_
    rintro e w' ⟨rfl, he⟩
    go_wp2
    go_ret
    exact ⟨rfl, hW'.trans he⟩
  | false =>
    go_wp2_with fail
    refine (Hp.out _ _ (hW.trans hW') rfl).mono ?_
    rintro e w' ⟨rfl, he⟩
    go_wp2
    go_ret
    exact ⟨rfl, hW'.trans he⟩


theorem everyL (g : Nat) (fs lb : Array Value) (eg : Enters Try.prog g) (p : Int → Bool) (A : Option Addr) (c : Nat) (xs : List Int) (w : World) (hb : xs.length ≤ maxLen)
    (hx : IntsAt w A xs) (hp : ∀ x ∈ xs, Tells Try.prog w g fs lb IntVal x (p x)) :
    Calls Try.prog 133 #[.slice A xs.length c, .func (.func g) fs lb] w fun e w' => e = .returned (.bool (xs.all p)) ∧ Ext w w' := by
  have hmf : ∀ (fn : Fn) (first cap : Array Value) (w : World), (Instr.makeFunc fn first cap).run Try.prog w = .ok (.func fn first cap) w := fun _ _ _ _ => rfl
  have hq0 : xs.all p = !(xs.any fun x => !p x) := by rw [List.not_any_eq_all_not]; simp
  obtain ⟨q, hq⟩ : ∃ q, xs.any (fun x => !p x) = q := ⟨_, rfl⟩
  rw [hq0, hq]
  have hE : Ext w (w.alloc (.cells #[.func (.func g) fs lb] 87)) := Ext.alloc _ _
  have h := containsFuncI 160 #[] #[.pointer (some ⟨w.heap.size, 0, none⟩)] (enters_of Try.func160 (by kernel_rfl) rfl) (fun x => !p x) A c xs _ hb (hx.ext hE) (fun x hxm => everyL1 g fs lb eg w.heap.size x (p x) _ ((hp x hxm).ext hE) (cell_new_l w _ _).1)
  rw [hq] at h
  have H := Lib.hid h; clear h hx hp hq hq0
  go_enter Try.func133, Try.ntmps133
  go_wp2_with fail
  refine H.out.mono ?_
  rintro e w' ⟨rfl, he⟩
  cases q with
  | true =>
    go_wp2
    go_ret
    exact ⟨rfl, hE.trans he⟩
  | false =>
    go_wp2
    go_ret
    exact ⟨rfl, hE.trans he⟩



theorem inL_any (n lo hi : Int) (q : Bool) (hq : inB n lo hi = q) (w : World) :
    Calls Try.prog 46 #[.int .i64 n, .int .i64 lo, .int .i64 hi] w fun e w' => e = .returned (.bool q) ∧ w = w' := by
  subst hq
  unfold inB
  by_cases h1 : lo ≤ n
  · by_cases h2 : n ≤ hi
    · go_enter Try.func46, Try.ntmps46
      go_wp2
      go_ret
      exact ⟨by simp [h1, h2], rfl⟩
    · have hd : decide (n ≤ hi) = false := by simp; omega
      go_enter Try.func46, Try.ntmps46
      go_wp2
      go_ret
      exact ⟨by simp, rfl⟩
  · have hd : decide (lo ≤ n) = false := by simp; omega
    go_enter Try.func46, Try.ntmps46
    go_wp2
    go_ret
    exact ⟨by simp, rfl⟩


set_option maxRecDepth 20000 in
theorem twiceL_any (A : Option Addr) (c : Nat) (l : List Int) (q : Bool) (hq : twiceB l = q) (w : World) (hl : l.length ≤ maxLen) (hlc : l.length ≤ c) (hx : IntsAt w A l) :
    Calls Try.prog 135 #[.slice A l.length c] w fun e w' => e = .returned (.bool q) ∧ w = w' := by
  unfold maxLen at hl
  have Hq0 := Lib.hid hq; clear hq
  go_enter Try.func135, Try.ntmps135
  go_wp2_with fail
  go_loopw [7] (fun i wr => ∃ k : Nat, k ≤ l.length ∧ i = .int .i64 k ∧ w = wr ∧ Hid (∀ j, j < k → (l.take j).contains (l[j]?.getD 0) = false)) (fun i _ => l.length - (intOf i).toNat)
  case atStart => exact ⟨0, by omega, rfl, rfl, fun j hj => absurd hj (by omega)⟩
  case round =>
    obtain ⟨k, hk, rfl, rfl, hm⟩ := hrel
    by_cases hlt : k < l.length
    · obtain ⟨b, o, rfl, q1⟩ := hx k hlt
      obtain ⟨q', hq'⟩ : ∃ q, (l.take k).contains (l[k]?.getD 0) = q := ⟨_, rfl⟩
      have hlk : (l.take k).length = k := by rw [List.length_take]; omega
      have Ho := Lib.hid (contains_any (l[k]?.getD 0) (some ⟨b, o, none⟩) c k (l.take k) hlk q' hq' w (by unfold maxLen; omega) (hx.take k))
      have Hq := Lib.hid hq'; clear hq' hlk
      have htw : Hid (q' = true → q = true) := fun h => by rw [← Hq0.out]; exact twiceB_true hlt (by rw [← h]; exact Hq.out)
      generalize hgx : l[k]?.getD 0 = y at *
      have Hgx := Lib.hid hgx; clear hgx
      go_wp2_with fail
      refine Ho.out.mono ?_
      rintro e w' ⟨rfl, rfl⟩
      cases q' with
      | true =>
        have hr := htw.out rfl
        subst hr
        go_wp2_with fail
        go_ret
        exact ⟨rfl, rfl⟩
      | false =>
        go_wp2_with fail
        go_roundw
        case rel =>
          refine ⟨k + 1, by omega, by go_num, by trivial, fun j hj => ?_⟩
          by_cases ej : j = k
          · subst ej; rw [Hgx.out]; exact Hq.out
          · exact hm.out j (by omega)
        case measure => simp [intOf]; omega
    · have hr : q = false := by rw [← Hq0.out]; exact twiceB_false fun j hj => hm.out j (by omega)
      subst hr
      go_wp2_with fail
      go_ret
      exact ⟨rfl, rfl⟩
end Go.Proofs.Pet
