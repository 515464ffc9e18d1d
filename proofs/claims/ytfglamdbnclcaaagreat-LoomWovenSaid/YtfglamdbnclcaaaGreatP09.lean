/-
  Contracts of functions, each proved once.
-/
import Derived.Test.YtfglamdbnclcaaaGreatP07
import Derived.Test.YtfglamdbnclcaaaGreatP08
import Derived.WalkMore
namespace Go.Proofs.Pet
open Go Go.RowKit Go.Maps Go.Shelf

theorem info_slI : (Tryz.prog.info? 22).map (fun i => (i.zero, i.size, i.bytes)) = some (some (.slice none 0 0), 1, 24) := by kernel_rfl
/-- a function value that gives a number for a loom and a set -/
def GivesLS (P : Program) (w : World) (g : Nat) (fs lb : Array Value) (num : Nat → Nat → Int) (n N : Nat) : Prop :=
  ∀ W, Ext w W → ∀ l s, l < n → s < N → Calls P g (fs ++ #[.int .i64 (l : Int), .int .i64 (s : Int)] ++ lb) W fun e W' => e = .returned (.int .i64 (num l s)) ∧ Ext W W'
def givR (D n1 L : Nat) (A1 : Value) (n : Nat) : Nat → Value → World → Prop
  | 0 => fun v _ => v = .pointer (some ⟨D, 0, none⟩)
  | 1 => fun v _ => v = .pointer (some ⟨D, 0, none⟩)
  | 2 => fun v _ => v = .pointer (some ⟨D, 0, none⟩)
  | 3 => fun v _ => v = .pointer (some ⟨D, 0, none⟩)
  | 4 => fun v _ => v = A1
  | 5 => fun v _ => v = .int .i64 n
  | 6 => fun v _ => v = .int .i64 n1
  | 7 => fun v W => ∃ S, v = .slice (some ⟨S, 0, none⟩) n1 n1 ∧ L ≤ S ∧ Blk W S 22 (Array.replicate n1 (.slice none 0 0))
  | 8 => fun v _ => v = .pointer (some ⟨D, 0, none⟩)
  | 9 => fun v _ => v = .pointer (some ⟨D, 0, none⟩)
  | 10 => fun v _ => v = .pointer (some ⟨D, 0, none⟩)
  | 11 => fun v _ => v = .pointer (some ⟨D, 0, none⟩)
  | 12 => fun v _ => v = A1
  | 13 => fun v _ => v = .int .i64 n
  | 14 => fun v _ => v = .int .i64 n1
  | 15 => fun v W => ∃ S, v = .slice (some ⟨S, 0, none⟩) n1 n1 ∧ L ≤ S ∧ Blk W S 22 (Array.replicate n1 (.slice none 0 0))
  | 16 => fun v W => ∃ S, v = .slice (some ⟨S, 0, none⟩) n1 n1 ∧ L ≤ S ∧ Blk W S 22 (Array.replicate n1 (.slice none 0 0))
  | 17 => fun v W => ∃ S, v = .slice (some ⟨S, 0, none⟩) n1 n1 ∧ L ≤ S ∧ Blk W S 22 (Array.replicate n1 (.slice none 0 0))
  | _ => fun _ _ => True
theorem givR.ext {D n1 L : Nat} {A1 : Value} {n : Nat} {w w' : World} (he : Ext w w') (j : Nat) (u : Value) (h : givR D n1 L A1 n j u w) : givR D n1 L A1 n j u w' := by
  match j, h with
  | 0, h | 1, h | 2, h | 3, h | 4, h | 5, h | 6, h | 8, h | 9, h | 10, h | 11, h | 12, h | 13, h | 14, h => exact h
  | 7, ⟨g, h1, h2, h3⟩ => exact ⟨g, h1, h2, h3.ext he⟩
  | 15, ⟨g, h1, h2, h3⟩ => exact ⟨g, h1, h2, h3.ext he⟩
  | 16, ⟨g, h1, h2, h3⟩ => exact ⟨g, h1, h2, h3.ext he⟩
  | 17, ⟨g, h1, h2, h3⟩ => exact ⟨g, h1, h2, h3.ext he⟩
  | _ + 18, h => trivial
def givAp (i : Nat) (u : Value) (j : Nat) (v : Value) : Prop := ((i = 7 ∨ i = 16) ∧ (j = 15 ∨ j = 17)) ∨ ((i = 15 ∨ i = 17) ∧ (j = 7 ∨ j = 16)) → u ≠ v
def givR2 (D N L : Nat) (mv : Value) : Nat → Value → World → Prop
  | 0 => fun v _ => v = .pointer (some ⟨D, 0, none⟩)
  | 1 => fun v _ => v = .pointer (some ⟨D, 0, none⟩)
  | 2 => fun v _ => v = .pointer (some ⟨D, 0, none⟩)
  | 3 => fun v _ => v = mv
  | 4 => fun v _ => v = .int .i64 N
  | 5 => fun v W => ∃ S, v = .slice (some ⟨S, 0, none⟩) N N ∧ L ≤ S ∧ Blk W S 3 (Array.replicate N (.int .i64 0))
  | 6 => fun v _ => v = .pointer (some ⟨D, 0, none⟩)
  | 7 => fun v _ => v = .pointer (some ⟨D, 0, none⟩)
  | 8 => fun v _ => v = .pointer (some ⟨D, 0, none⟩)
  | 9 => fun v _ => v = mv
  | 10 => fun v _ => v = .int .i64 N
  | 11 => fun v W => ∃ S, v = .slice (some ⟨S, 0, none⟩) N N ∧ L ≤ S ∧ Blk W S 3 (Array.replicate N (.int .i64 0))
  | 12 => fun v W => ∃ S, v = .slice (some ⟨S, 0, none⟩) N N ∧ L ≤ S ∧ Blk W S 3 (Array.replicate N (.int .i64 0))
  | 13 => fun v W => ∃ S, v = .slice (some ⟨S, 0, none⟩) N N ∧ L ≤ S ∧ Blk W S 3 (Array.replicate N (.int .i64 0))
  | _ => fun _ _ => True
theorem givR2.ext {D N L : Nat} {mv : Value} {w w' : World} (he : Ext w w') (j : Nat) (u : Value) (h : givR2 D N L mv j u w) : givR2 D N L mv j u w' := by
  match j, h with
  | 0, h | 1, h | 2, h | 3, h | 4, h | 6, h | 7, h | 8, h | 9, h | 10, h => exact h
  | 5, ⟨g, h1, h2, h3⟩ => exact ⟨g, h1, h2, h3.ext he⟩
  | 11, ⟨g, h1, h2, h3⟩ => exact ⟨g, h1, h2, h3.ext he⟩
  | 12, ⟨g, h1, h2, h3⟩ => exact ⟨g, h1, h2, h3.ext he⟩
  | 13, ⟨g, h1, h2, h3⟩ => exact ⟨g, h1, h2, h3.ext he⟩
  | _ + 14, h => trivial
def givAp2 (i : Nat) (u : Value) (j : Nat) (v : Value) : Prop := ((i = 5 ∨ i = 12) ∧ (j = 11 ∨ j = 13)) ∨ ((i = 11 ∨ i = 13) ∧ (j = 5 ∨ j = 12)) → u ≠ v
theorem slice_ne {a b n : Nat} (h : a ≠ b) : (Value.slice (some ⟨a, 0, none⟩) n n) ≠ .slice (some ⟨b, 0, none⟩) n n := by
  intro e
  injection e with e _ _
  injection e with e
  injection e with e _ _
  exact h e

def givR3 (B S l own a b : Nat) (fv : Value) (N n1 : Nat) (nn rest : Int) : Nat → Value → World → Prop
  | 0 => fun v _ => v = .pointer (some ⟨B, 0, none⟩)
  | 1 => fun v _ => v = fv
  | 2 => fun v _ => v = .int .i64 l
  | 3 => fun v _ => v = .int .i64 own
  | 4 => fun v _ => v = .int .i64 nn
  | 5 => fun v _ => v = .slice (some ⟨S, 0, none⟩) n1 n1
  | 6 => fun v _ => v = .int .i64 l
  | 7 => fun v _ => v = .pointer (some ⟨S, l, none⟩)
  | 8 => fun v _ => v = .slice (some ⟨b, 0, none⟩) N N
  | 9 => fun v _ => v = .int .i64 a
  | 10 => fun v _ => v = .int .i64 own
  | 11 => fun v _ => v = .int .i64 (sdiff a own : Nat)
  | 12 => fun v _ => v = .pointer (some ⟨b, sdiff a own, none⟩)
  | 13 => fun v _ => v = .int .i64 rest
  | 14 => fun v _ => v = .int .i64 nn
  | 15 => fun v _ => v = .int .i64 rest
  | _ => fun _ _ => True
theorem givR3.same {B S l own a b : Nat} {fv : Value} {N n1 : Nat} {nn rest : Int} {w w' : World} (j : Nat) (u : Value) (h : givR3 B S l own a b fv N n1 nn rest j u w) : givR3 B S l own a b fv N n1 nn rest j u w' := by
  match j, h with
  | 0, h | 1, h | 2, h | 3, h | 4, h | 5, h | 6, h | 7, h | 8, h | 9, h | 10, h | 11, h | 12, h | 13, h | 14, h | 15, h => exact h
  | _ + 16, h => trivial

/-- a row under way: known below a place, and there -/
def rowB (F : Nat → Int) (a : Nat) (p : Int) (s : Nat) : Int := if s < a then F s else if s = a then p else 0
theorem rowB_next (F : Nat → Int) (a : Nat) (p : Int) (h : F a = p) (s : Nat) : rowB F a p s = if s < a + 1 then F s else 0 := by
  unfold rowB
  by_cases e : s = a
  · subst e; simp [h]
  · by_cases e2 : s < a
    · rw [if_pos e2, if_pos (by omega)]
    · rw [if_neg e2, if_neg e, if_neg (by omega)]
theorem rowB_set (F : Nat → Int) (a : Nat) (p v : Int) (j : Nat) : (if j = a then v else rowB F a p j) = rowB F a v j := by
  unfold rowB
  by_cases e : j = a
  · subst e; simp
  · simp [e]

set_option maxRecDepth 20000 in
set_option maxHeartbeats 2000000 in
theorem given_any (D : Nat) (m : Mill) (hch : checkE m = 0) (g : Nat) (fs lb : Array Value) (eg : Enters Tryz.prog g) (num : Nat → Nat → Int) (hnum : ∀ l s, 0 ≤ num l s ∧ num l s ≤ 1000) (N : Nat) (hN : N = 2 ^ m.orders.length) (w : World) (hD : Desk w D m)
    (hg : GivesLS Tryz.prog w g fs lb num m.laced.length N) :
    Calls Tryz.prog 41 #[.pointer (some ⟨D, 0, none⟩), .agg #[.func (.func g) fs lb]] w fun e w' => ∃ S G lim, e = .returned (.tuple #[.slice (some ⟨S, 0, none⟩) (m.laced.length + 1) (m.laced.length + 1), .slice (some ⟨G, 0, none⟩) (m.laced.length + 1) (m.laced.length + 1)]) ∧
      RowsTo w' S (m.laced.length + 1) N 0 (m.laced.length + 1) lim (sumF num) ∧ RowsTo w' G (m.laced.length + 1) N 1 (m.laced.length + 1) lim (fun l s => (getF num (l - 1) s : Int)) ∧ Ext w w' := by
  obtain ⟨l1, l2, l3⟩ := check_len hch
  obtain ⟨A1, c1, A2, c2, M, cnt, hb, h2, h3, h4, h5, h6, h7, h8, h9⟩ := hD
  have Hv : Hid (MillVal w (.agg #[.slice A1 m.laced.length c1, .int .i64 m.change, .slice A2 m.orders.length c2]) m) := ⟨A1, c1, A2, c2, rfl, h2, h3, h4, h5, h6, h7⟩
  clear h6 h7 h9
  have HN := Lib.hid hN; clear hN
  obtain ⟨ti, hi, hz0, hz1, hz2⟩ := info_parts info_slI
  generalize hn : m.laced.length = n at *
  have hmk : ∀ W : World, (Instr.makeSlice 29 (.int .i64 ((n + 1 : Nat) : Int)) (.int .i64 ((n + 1 : Nat) : Int))).run Tryz.prog W = .ok (.slice (some ⟨W.heap.size, 0, none⟩) (n + 1) (n + 1)) (W.alloc (.cells (Array.replicate (n + 1) (.slice none 0 0)) 22)) := by
    intro W
    have := run_make (P := Tryz.prog) W 29 22 ti _ Tryz.underlying29 hi hz0 .i64 .i64 (n + 1 : Nat) (n + 1 : Nat) (by omega) (by omega) (by rw [hz2]; omega) (by omega)
    have e : madeCells #[Value.slice none 0 0] (n + 1) = Array.replicate (n + 1) (.slice none 0 0) := by
      apply Array.ext
      · simp [madeCells]
      · intro j h1 h2
        simp [madeCells, Nat.mod_one]
    simpa [hz1, Value.cells, e] using this
  have hcast : ((n + 1 : Nat) : Int) = (n : Int) + 1 := by omega
  simp only [hcast] at hmk
  clear hcast
  have hE := Ext.alloc w (.cells #[.func (.func g) fs lb] 91)
  have bg := Blk.new w 91 #[.func (.func g) fs lb]
  have hb1 := hb.ext hE
  go_enter Tryz.func41, Tryz.ntmps41
  go_wp2_with fail
  have hsz : w.heap.size + 1 ≤ (w.alloc (.cells #[.func (.func g) fs lb] 91)).heap.size := by simp
  generalize w.alloc _ = W1 at *
  refine wp_region_apart 18 (by kernel_rfl) (by kernel_rfl) (fun W => Ext W1 W) (givR D (n + 1) W1.heap.size (.slice A1 n c1) n) givAp (Ext.drew _) ?_ ?_
  · simp only [List.take, AllOps2, fill, Act.put, List.setIfInBounds_toArray, List.set_cons_zero, List.set_cons_succ, Nat.reduceAdd, Deps, DepsL, List.filter_cons, List.filter_nil, Region.binds, if_true, and_true]
    refine ⟨?_, ?_, ?_, ?_, ?_, ?_, ?_, ?_, ?_, ?_, ?_, ?_, ?_, ?_, ?_, ?_, ?_, ?_⟩
    all_goals
      intro Ld x W hG hnl hLR hAp hdl hd K Q hK
    case refine_8 =>
      simp only [givR] at hd
      simp only [hd] at hK ⊢
      have HK := Lib.hid hK; clear hK
      have HL := Lib.hid hLR; clear hLR hAp hd hdl
      go_wp2
      refine HK.out _ _ ⟨_, rfl, hG.size, Blk.new _ _ _⟩ (hG.trans (Ext.alloc _ _)) (fun j hj => ⟨givR.ext (Ext.alloc _ _) j _ (HL.out j hj), .inl fun h => ?_⟩)
      have hb : ∃ S, x j = .slice (some ⟨S, 0, none⟩) (n + 1) (n + 1) ∧ S < W.heap.size := by
        have h2 := HL.out j hj
        rcases (show j = 15 ∨ j = 17 by omega) with rfl | rfl
        · obtain ⟨S, e, _, hb⟩ := h2; exact ⟨S, e, hb.lt⟩
        · obtain ⟨S, e, _, hb⟩ := h2; exact ⟨S, e, hb.lt⟩
      obtain ⟨S, e, hlt⟩ := hb
      rw [e]
      intro h
      injection h with h _ _
      injection h with h
      injection h with h _ _
      omega
    case refine_17 =>
      simp only [givR] at hd
      obtain ⟨⟨S, e, h1, h2⟩, _⟩ := hd
      have h7 := hdl.1
      simp only [e] at hK ⊢
      have HK := Lib.hid hK; clear hK
      have HL := Lib.hid (And.intro hLR hAp); clear hLR hAp hdl
      go_wp2
      refine HK.out _ _ ⟨_, rfl, h1, h2⟩ hG (fun j hj => ⟨HL.out.1 j hj, ?_⟩)
      by_cases hjj : j = 15 ∨ j = 17
      · have h3 := HL.out.2 7 j h7 hj (by omega)
        rw [e] at h3
        rcases h3 with h3 | h3
        · exact .inr fun _ => h3 (by omega)
        · exact .inl fun _ => h3 (by omega)
      · exact .inl fun h => absurd h (by omega)
    case refine_18 =>
      simp only [givR] at hd
      obtain ⟨⟨S, e, h1, h2⟩, _⟩ := hd
      have h7 := hdl.1
      simp only [e] at hK ⊢
      have HK := Lib.hid hK; clear hK
      have HL := Lib.hid (And.intro hLR hAp); clear hLR hAp hdl
      go_wp2
      refine HK.out _ _ ⟨_, rfl, h1, h2⟩ hG (fun j hj => ⟨HL.out.1 j hj, ?_⟩)
      by_cases hjj : j = 7 ∨ j = 16
      · have h3 := HL.out.2 15 j h7 hj (by omega)
        rw [e] at h3
        rcases h3 with h3 | h3
        · exact .inr fun _ => h3 (by omega)
        · exact .inl fun _ => h3 (by omega)
      · exact .inl fun h => absurd h (by omega)
    case refine_16 =>
      simp only [givR] at hd
      simp only [hd] at hK ⊢
      have HK := Lib.hid hK; clear hK
      have HL := Lib.hid hLR; clear hLR hAp hd hdl
      go_wp2
      refine HK.out _ _ ⟨_, rfl, hG.size, Blk.new _ _ _⟩ (hG.trans (Ext.alloc _ _)) (fun j hj => ⟨givR.ext (Ext.alloc _ _) j _ (HL.out j hj), .inl fun h => ?_⟩)
      have hb : ∃ S, x j = .slice (some ⟨S, 0, none⟩) (n + 1) (n + 1) ∧ S < W.heap.size := by
        have h2 := HL.out j hj
        rcases (show j = 7 ∨ j = 16 by omega) with rfl | rfl
        · obtain ⟨S, e, _, hb⟩ := h2; exact ⟨S, e, hb.lt⟩
        · obtain ⟨S, e, _, hb⟩ := h2; exact ⟨S, e, hb.lt⟩
      obtain ⟨S, e, hlt⟩ := hb
      rw [e]
      intro h
      injection h with h _ _
      injection h with h
      injection h with h _ _
      omega
    all_goals
      try (simp only [givR] at hd; simp only [hd] at hK ⊢)
      have HK := Lib.hid hK; clear hK
      have HL := Lib.hid hLR; clear hLR hAp hdl
      obtain ⟨k0, k1, k2, k3⟩ := (hb1.ext hG).c4
      go_wp2_with fail
      exact HK.out _ _ (by first | rfl | (show _ = _; simp)) hG (fun j hj => ⟨HL.out j hj, .inl fun h => absurd h (by omega)⟩)
  · intro x W hG hap hR
    simp only [AllR, givR, true_and] at hR
    obtain ⟨⟨⟨⟨⟨⟨⟨⟨⟨⟨⟨⟨⟨⟨⟨⟨⟨r0, r1⟩, r2⟩, r3⟩, r4⟩, r5⟩, r6⟩, r7⟩, r8⟩, r9⟩, r10⟩, r11⟩, r12⟩, r13⟩, r14⟩, r15⟩, S, r16, hS1, hS2⟩, G, r17, hG1, hG2⟩ := hR
    have hSG : S ≠ G := by
      have h3 := hap 16 17 (by omega) (by omega) (by omega)
      rw [r16, r17] at h3
      intro e
      rcases h3 with h3 | h3
      · exact h3 (by omega) (by rw [e])
      · exact h3 (by omega) (by rw [e])
    simp only [List.take, List.drop, fill, Act.put, List.setIfInBounds_toArray, List.set_cons_zero, List.set_cons_succ, Nat.reduceAdd, r16, r17]
    clear r0 r1 r2 r3 r4 r5 r6 r7 r8 r9 r10 r11 r12 r13 r14 r15 r16 r17 hap
    have hRS : RowsTo W S (n + 1) N 0 0 W.heap.size (sumF num) := ⟨_, fun _ => 0, hS2, by simp, fun i _ h => by omega⟩
    have hRG : RowsTo W G (n + 1) N 1 1 W.heap.size (fun l s => (getF num (l - 1) s : Int)) := ⟨_, fun _ => 0, hG2, by simp, fun i h1 h => by omega⟩
    clear hmk hG2
    have hEW := hE.trans hG
    have hX := Ext.alloc W (.cells #[.int .i64 297] 3)
    have b297 := Blk.new W 3 #[.int .i64 297]
    obtain ⟨k0, k1, k2, k3⟩ := (hb1.ext (hG.trans hX)).c4
    have hv := Hv.out.ext (hEW.trans hX)
    have hlS := hS2.lt
    have hRS2 := hRS.ext hX
    have hRG2 := hRG.ext hX
    have hS3 := hS2.ext hX
    have hE3 := hEW.trans hX
    have Hv2 := Lib.hid hv; clear hv hX hRS hRG hS2 hEW
    go_wp2_with fail
    obtain ⟨N', hN', hNN⟩ : ∃ N', N' = 2 ^ m.orders.length ∧ N' = N := ⟨_, rfl, HN.out.symm⟩
    refine (sets_any _ m (by omega) N' hN' _ Hv2.out).mono ?_
    rintro e W3 ⟨rfl, he3⟩
    subst hNN
    clear hN'
    have hNb : 1 ≤ N' ∧ N' ≤ 128 := by
      have h1 : 2 ^ m.orders.length ≤ 2 ^ 7 := Nat.pow_le_pow_right (by omega) l3
      have h2 : (2 : Nat) ^ 7 = 128 := by decide
      have h3 := Nat.two_pow_pos m.orders.length
      rw [HN.out]; omega
    have hI : IntsAt W3 (some ⟨W.heap.size, 0, none⟩) [297] := by
      intro k hk
      obtain rfl : k = 0 := by simpa using hk
      exact ⟨W.heap.size, 0, rfl, (b297.ext he3).c1⟩
    have HR := Lib.hid (repeat_any 297 (some ⟨W.heap.size, 0, none⟩) 1 N' (by omega) W3 hI (by unfold maxLen; omega))
    clear hI b297
    go_wp2_with fail
    refine HR.out.mono ?_
    rintro e W4 ⟨b, rfl, hb4, hbr, he4⟩
    have hE4 := hE3.trans (he3.trans he4)
    have hRS4 := hRS2.ext (he3.trans he4)
    have hRG4 := hRG2.ext (he3.trans he4)
    have hS4 := hS3.ext (he3.trans he4)
    have hb5 := hb1.ext (hG.trans ((Ext.alloc W (.cells #[.int .i64 297] 3)).trans (he3.trans he4)))
    have bg5 := bg.ext (hG.trans ((Ext.alloc W (.cells #[.int .i64 297] 3)).trans (he3.trans he4)))
    have hsW := he3.size
    clear hRS2 hRG2 hS3 HR he3 he4 k0 k1 k2 k3 hE3 Hv2
    have hcS := hS4.cell 0
    have hfS := hS4.frozen 0
    have hfb := hbr.frozen 0
    have hc0 := hbr.cell 0
    have hSb : S ≠ b := by intro e; subst e; exact hS4.ne_ hbr (by decide) rfl
    rw [Array.getElem?_replicate, if_pos (by omega)] at hcS
    rw [Array.getElem?_replicate, if_pos (by omega)] at hc0
    have hDl := hb1.lt
    have hGs := hG.size
    have hgl := bg.lt
    rw [World.size_alloc] at hsW
    have h5 := (hb5.far (p := ⟨S, 0, none⟩) (show D ≠ S by omega) (.slice (some ⟨b, 0, none⟩) N' N')).far (p := ⟨b, 0, none⟩) (show D ≠ b by omega) (.int .i64 0)
    have g5 := (bg5.far (p := ⟨S, 0, none⟩) (show w.heap.size ≠ S by omega) (.slice (some ⟨b, 0, none⟩) N' N')).far (p := ⟨b, 0, none⟩) (show w.heap.size ≠ b by omega) (.int .i64 0)
    obtain ⟨k0, k1, k2, k3⟩ := h5.c4
    have E5 : Ext w ((W4.setCell ⟨S, 0, none⟩ (.slice (some ⟨b, 0, none⟩) N' N')).setCell ⟨b, 0, none⟩ (.int .i64 0)) := Below.setCell (Below.setCell hE4 (by show _ ≤ S; omega) _) (by show _ ≤ b; omega) _
    have hRS5 : RowsTo ((W4.setCell ⟨S, 0, none⟩ (.slice (some ⟨b, 0, none⟩) N' N')).setCell ⟨b, 0, none⟩ (.int .i64 0)) S (n + 1) N' 0 1 W4.heap.size (sumF num) := by
      refine ⟨_, fun _ => b, (hS4.set_ 0 _).far (p := ⟨b, 0, none⟩) hSb _, by simp, fun i _ hi1 => ?_⟩
      obtain rfl : i = 0 := by omega
      refine ⟨by simp, hbr.lt, (((Row.const hbr).far (p := ⟨S, 0, none⟩) (Ne.symm hSb) _).set_ (show 0 < N' by omega) 0).congr fun j _ => ?_⟩
      simp only [sumF]
    have hRG5 : RowsTo ((W4.setCell ⟨S, 0, none⟩ (.slice (some ⟨b, 0, none⟩) N' N')).setCell ⟨b, 0, none⟩ (.int .i64 0)) G (n + 1) N' 1 1 W4.heap.size (fun l s => (getF num (l - 1) s : Int)) := by
      obtain ⟨cs, bs, q1, q2, q3⟩ := hRG4
      have hGb : G ≠ b := by intro e; subst e; exact q1.ne_ hbr (by decide) rfl
      exact ⟨cs, bs, (q1.far (p := ⟨S, 0, none⟩) (Ne.symm hSG) _).far (p := ⟨b, 0, none⟩) hGb _, q2, fun i h1 h2 => by omega⟩
    have hs5 : W4.heap.size ≤ ((W4.setCell ⟨S, 0, none⟩ (.slice (some ⟨b, 0, none⟩) N' N')).setCell ⟨b, 0, none⟩ (.int .i64 0)).heap.size := by rw [World.size_setCell, World.size_setCell]; omega
    go_wp2_with fail
    have hRS6 := hRS5.lim_ hs5
    have hRG6 := hRG5.lim_ hs5
    clear hRS5 hRG5 hs5 hRS4 hRG4 hS4 hcS hc0 hfS hfb hbr k0 k1 k2 k3 h5 hE4 hb5 bg5
    generalize (W4.setCell _ _).setCell _ _ = W5 at *
    go_loopw [8, 50] (fun _ v wr => ∃ l : Nat, l ≤ n ∧ v = .int .i64 l ∧ Ext w wr ∧ Blk wr w.heap.size 91 #[.func (.func g) fs lb] ∧
        RowsTo wr S (n + 1) N' 0 (l + 1) wr.heap.size (sumF num) ∧ RowsTo wr G (n + 1) N' 1 (l + 1) wr.heap.size (fun l s => (getF num (l - 1) s : Int))) (fun _ v _ => n - (intOf v).toNat)
    case atStart => exact ⟨0, by omega, rfl, E5, g5, hRS6, hRG6⟩
    case round =>
      obtain ⟨l, hl, rfl, he, hgb, hRS, hRG⟩ := hrel
      by_cases hlt : l < n
      · have hmk2 : ∀ W : World, (Instr.makeSlice 22 (.int .i64 (N' : Int)) (.int .i64 (N' : Int))).run Tryz.prog W = .ok (.slice (some ⟨W.heap.size, 0, none⟩) N' N') (W.alloc (.cells (Array.replicate N' (.int .i64 0)) 3)) := by
          obtain ⟨ti2, hi2, hy0, hy1, hy2⟩ := info_parts info_int
          intro W
          have := run_make (P := Tryz.prog) W 22 3 ti2 _ Tryz.underlying22 hi2 hy0 .i64 .i64 N' N' (by omega) (by omega) (by rw [hy2]; omega) (by omega)
          have e : madeCells #[Value.int .i64 0] N' = Array.replicate N' (.int .i64 0) := by
            apply Array.ext
            · simp [madeCells]
            · intro j h1 h2
              simp [madeCells, Nat.mod_one]
          simpa [hy1, Value.cells, e] using this
        go_wp2_with fail
        refine wp_region_apart 14 (by kernel_rfl) (by kernel_rfl) (fun W => Ext wr W) (givR2 D N' wr.heap.size (.agg #[.slice A1 n c1, .int .i64 m.change, .slice A2 m.orders.length c2])) givAp2 (Ext.drew _) ?_ ?_
        · simp only [List.take, AllOps2, fill, Act.put, List.setIfInBounds_toArray, List.set_cons_zero, List.set_cons_succ, Nat.reduceAdd, Deps, DepsL, List.filter_cons, List.filter_nil, Region.binds, if_true, and_true]
          refine ⟨?_, ?_, ?_, ?_, ?_, ?_, ?_, ?_, ?_, ?_, ?_, ?_, ?_, ?_⟩
          all_goals
            intro Ld x W hG hnl hLR hAp hdl hd K Q hK
          case refine_6 =>
            simp only [givR2] at hd
            simp only [hd] at hK ⊢
            have HK := Lib.hid hK; clear hK
            have HL := Lib.hid hLR; clear hLR hAp hd hdl
            go_wp2
            refine HK.out _ _ ⟨_, rfl, hG.size, Blk.new _ _ _⟩ (hG.trans (Ext.alloc _ _)) (fun j hj => ⟨givR2.ext (Ext.alloc _ _) j _ (HL.out j hj), .inl fun h => ?_⟩)
            have hb : ∃ S, x j = .slice (some ⟨S, 0, none⟩) N' N' ∧ S < W.heap.size := by
              have h2 := HL.out j hj
              rcases (show j = 11 ∨ j = 13 by omega) with rfl | rfl
              · obtain ⟨S, e, _, hb⟩ := h2; exact ⟨S, e, hb.lt⟩
              · obtain ⟨S, e, _, hb⟩ := h2; exact ⟨S, e, hb.lt⟩
            obtain ⟨S, e, hlt⟩ := hb
            rw [e]
            exact slice_ne (by omega)
          case refine_12 =>
            simp only [givR2] at hd
            simp only [hd] at hK ⊢
            have HK := Lib.hid hK; clear hK
            have HL := Lib.hid hLR; clear hLR hAp hd hdl
            go_wp2
            refine HK.out _ _ ⟨_, rfl, hG.size, Blk.new _ _ _⟩ (hG.trans (Ext.alloc _ _)) (fun j hj => ⟨givR2.ext (Ext.alloc _ _) j _ (HL.out j hj), .inl fun h => ?_⟩)
            have hb : ∃ S, x j = .slice (some ⟨S, 0, none⟩) N' N' ∧ S < W.heap.size := by
              have h2 := HL.out j hj
              rcases (show j = 5 ∨ j = 12 by omega) with rfl | rfl
              · obtain ⟨S, e, _, hb⟩ := h2; exact ⟨S, e, hb.lt⟩
              · obtain ⟨S, e, _, hb⟩ := h2; exact ⟨S, e, hb.lt⟩
            obtain ⟨S, e, hlt⟩ := hb
            rw [e]
            exact slice_ne (by omega)
          case refine_13 =>
            simp only [givR2] at hd
            obtain ⟨⟨S, e, h1, h2⟩, _⟩ := hd
            have h7 := hdl.1
            simp only [e] at hK ⊢
            have HK := Lib.hid hK; clear hK
            have HL := Lib.hid (And.intro hLR hAp); clear hLR hAp hdl
            go_wp2
            refine HK.out _ _ ⟨_, rfl, h1, h2⟩ hG (fun j hj => ⟨HL.out.1 j hj, ?_⟩)
            by_cases hjj : j = 11 ∨ j = 13
            · have h3 := HL.out.2 5 j h7 hj (by omega)
              rw [e] at h3
              rcases h3 with h3 | h3
              · exact .inr fun _ => h3 (by omega)
              · exact .inl fun _ => h3 (by omega)
            · exact .inl fun h => absurd h (by omega)
          case refine_14 =>
            simp only [givR2] at hd
            obtain ⟨⟨S, e, h1, h2⟩, _⟩ := hd
            have h7 := hdl.1
            simp only [e] at hK ⊢
            have HK := Lib.hid hK; clear hK
            have HL := Lib.hid (And.intro hLR hAp); clear hLR hAp hdl
            go_wp2
            refine HK.out _ _ ⟨_, rfl, h1, h2⟩ hG (fun j hj => ⟨HL.out.1 j hj, ?_⟩)
            by_cases hjj : j = 5 ∨ j = 12
            · have h3 := HL.out.2 11 j h7 hj (by omega)
              rw [e] at h3
              rcases h3 with h3 | h3
              · exact .inr fun _ => h3 (by omega)
              · exact .inl fun _ => h3 (by omega)
            · exact .inl fun h => absurd h (by omega)
          all_goals
            try (simp only [givR2] at hd; simp only [hd] at hK ⊢)
            have HK := Lib.hid hK; clear hK
            have HL := Lib.hid hLR; clear hLR hAp hdl
            obtain ⟨k0, k1, k2, k3⟩ := ((hb.ext he).ext hG).c4
            go_wp2_with fail
            first
              | exact HK.out _ _ (by first | rfl | (show _ = _; simp)) hG (fun j hj => ⟨HL.out j hj, .inl fun h => absurd h (by omega)⟩)
              | (refine (sets_any _ m (by omega) N' HN.out _ (Hv.out.ext (he.trans hG))).mono ?_
                 rintro e w' ⟨rfl, he'⟩
                 go_wp2
                 exact HK.out _ _ rfl (hG.trans he') (fun j hj => ⟨givR2.ext he' j _ (HL.out j hj), .inl fun h => absurd h (by omega)⟩))
        · intro x2 W7 hG7 hap hR
          simp only [AllR, givR2, true_and] at hR
          obtain ⟨⟨_, s1, r12, hs1, hB1⟩, s2, r13, hs2, hB2⟩ := hR
          have hss : s1 ≠ s2 := by
            have h3 := hap 12 13 (by omega) (by omega) (by omega)
            rw [r12, r13] at h3
            intro e
            rcases h3 with h3 | h3
            · exact h3 (by omega) (by rw [e])
            · exact h3 (by omega) (by rw [e])
          simp only [List.take, List.drop, fill, Act.put, List.setIfInBounds_toArray, List.set_cons_zero, List.set_cons_succ, Nat.reduceAdd, r12, r13]
          clear r12 r13 hap
          have he7 := he.trans hG7
          have hgb7 := hgb.ext hG7
          have hRS7 := hRS.ext hG7
          have hRG7 := hRG.ext hG7
          have hR1 := Row.const hB1
          have hR2 := Row.const hB2
          have hlim := hG7.size
          obtain ⟨k0, k1, k2, k3⟩ := (hb.ext he7).c4
          clear hmk2 hB1 hB2
          obtain ⟨lim, hlime⟩ : ∃ lim, wr.heap.size = lim := ⟨_, rfl⟩
          rw [hlime] at hs1 hs2 hRS7 hRG7 hlim
          go_wp2_with fail
          refine (sets_any _ m (by omega) N' HN.out _ (Hv.out.ext he7)).mono ?_
          rintro e W8 ⟨rfl, h78⟩
          have he8 := he7.trans h78
          have hgb8 := hgb7.ext h78
          have hRS8 := hRS7.ext h78
          have hRG8 := hRG7.ext h78
          have hR18 := hR1.ext h78
          have hR28 := hR2.ext h78
          have hl78 := h78.size
          have hwl : w.heap.size + 1 ≤ lim := by rw [← hlime]; have := hgb.lt; omega
          clear he7 hgb7 hRS7 hRG7 hR1 hR2 h78 k0 k1 k2 k3
          go_wp2_with fail
          go_loopw [70] (fun v wr => ∃ a : Nat, a ≤ N' ∧ v = .int .i64 a ∧ Ext w wr ∧ Blk wr w.heap.size 91 #[.func (.func g) fs lb] ∧ lim ≤ wr.heap.size ∧
              RowsTo wr S (n + 1) N' 0 (l + 1) lim (sumF num) ∧ RowsTo wr G (n + 1) N' 1 (l + 1) lim (fun l s => (getF num (l - 1) s : Int)) ∧
              Row wr s1 N' (fun s => if s < a then sumF num (l + 1) s else 0) ∧ Row wr s2 N' (fun s => if s < a then (getF num l s : Int) else 0)) (fun v _ => N' - (intOf v).toNat)
          case atStart => exact ⟨0, by omega, rfl, he8, hgb8, Nat.le_trans hlim hl78, hRS8, hRG8, hR18.congr (fun j _ => by simp), hR28.congr (fun j _ => by simp)⟩
          case round =>
            obtain ⟨a, ha, rfl, he9, hgb9, hl9, hRS9, hRG9, hR19, hR29⟩ := hrel
            by_cases hlta : a < N'
            · have f1 := hR19.frozen a
              have u1 := hR19.cell hlta
              have hS1ne : s1 ≠ S := by rintro rfl; obtain ⟨_, _, q1, _⟩ := hRS9; obtain ⟨_, q2, _⟩ := hR19; exact q2.ne_ q1 (by decide) rfl
              have hS1G : s1 ≠ G := by rintro rfl; obtain ⟨_, _, q1, _⟩ := hRG9; obtain ⟨_, q2, _⟩ := hR19; exact q2.ne_ q1 (by decide) rfl
              have hl1 := hR19.lt
              have hl2 := hR29.lt
              have heA : Ext w (wr.setCell ⟨s1, a, none⟩ (.int .i64 297)) := Below.setCell he9 (by show _ ≤ s1; omega) _
              have hgbA := hgb9.far (p := ⟨s1, a, none⟩) (by show _ ≠ s1; omega) (.int .i64 297)
              have hRSA := hRS9.far (p := ⟨s1, a, none⟩) (Ne.symm hS1ne) (by show _ ≤ s1; omega) (.int .i64 297)
              have hRGA := hRG9.far (p := ⟨s1, a, none⟩) (Ne.symm hS1G) (by show _ ≤ s1; omega) (.int .i64 297)
              have hR1A := hR19.set_ hlta 297
              have hR2A := hR29.far (p := ⟨s1, a, none⟩) (Ne.symm hss) (.int .i64 297)
              have hlA : lim ≤ (wr.setCell ⟨s1, a, none⟩ (.int .i64 297)).heap.size := by rw [World.size_setCell]; exact hl9
              go_wp2_with fail
              clear f1 u1 hR19 hR29 hRS9 hRG9 hgb9 he9
              generalize wr.setCell _ _ = WA at *
              have hnum0 : ∀ s, 0 ≤ num l s := fun s => (hnum l s).1
              have hsum0 : ∀ s, 0 ≤ sumF num l s := fun s => (sumF_bd num (fun l s => (hnum l s).1) l s).1
              go_loopw [12] (fun v wr => ∃ own : Nat, own &&& a = own ∧ own ≤ a ∧ v = .int .i64 own ∧ Ext w wr ∧ Blk wr w.heap.size 91 #[.func (.func g) fs lb] ∧ lim ≤ wr.heap.size ∧
                  RowsTo wr S (n + 1) N' 0 (l + 1) lim (sumF num) ∧ RowsTo wr G (n + 1) N' 1 (l + 1) lim (fun l s => (getF num (l - 1) s : Int)) ∧
                  Row wr s1 N' (fun s => if s < a then sumF num (l + 1) s else if s = a then (pickA (num l) (sumF num l) a (a - own)).1 else 0) ∧
                  Row wr s2 N' (fun s => if s < a then (getF num l s : Int) else if s = a then ((pickA (num l) (sumF num l) a (a - own)).2 : Int) else 0)) (fun v _ => (intOf v).toNat)
              case atStart =>
                refine ⟨a, by simp, Nat.le_refl _, rfl, heA, hgbA, hlA, hRSA, hRGA, hR1A.congr (fun j _ => ?_), hR2A.congr (fun j _ => ?_)⟩
                · by_cases e : j = a
                  · subst e; simp [pickA]
                  · simp [e]
                · by_cases e : j = a
                  · subst e; simp [pickA]
                  · simp [e]
              case round =>
                obtain ⟨own, hoa, hol, rfl, heB, hgbB, hlB, hRSB, hRGB, hR1B, hR2B⟩ := hrel
                obtain ⟨bl, hbl1, hbl2, hbl3⟩ := hRSB.at_ (i := l) (by omega) (by omega)
                have hsd := sdiff_le a own
                obtain ⟨nn, hnn⟩ : ∃ nn, num l own = nn := ⟨_, rfl⟩
                obtain ⟨rest, hrest⟩ : ∃ rest, sumF num l (sdiff a own) = rest := ⟨_, rfl⟩
                have hcall := fun W (hW : Ext w W) => hg W hW l own (by omega) (by omega)
                rw [hnn] at hcall
                have hcr := hbl3.cell (j := sdiff a own) (by omega)
                rw [hrest] at hcr
                have Hcall := Lib.hid hcall; clear hcall
                have hnnb := hnum l own
                have hrb := sumF_bd num (fun l s => (hnum l s).1) l (sdiff a own)
                rw [hnn] at hnnb
                rw [hrest] at hrb
                have Hnn := Lib.hid hnn; have Hrest := Lib.hid hrest; clear hnn hrest
                have eg' := eg
                unfold Enters at eg'
                go_wp2_with fail
                refine wp_region_apart 16 (by kernel_rfl) (by kernel_rfl) (fun W => Ext wr W) (givR3 w.heap.size S l own a bl (.func (.func g) fs lb) N' (n + 1) nn rest) (fun _ _ _ _ => True) (Ext.drew _) ?_ ?_
                · simp only [List.take, AllOps2, fill, Act.put, List.setIfInBounds_toArray, List.set_cons_zero, List.set_cons_succ, Nat.reduceAdd, Deps, DepsL, List.filter_cons, List.filter_nil, Region.binds, if_true, and_true]
                  refine ⟨?_, ?_, ?_, ?_, ?_, ?_, ?_, ?_, ?_, ?_, ?_, ?_, ?_, ?_, ?_, ?_⟩
                  all_goals
                    intro Ld x W hG hnl hLR hAp hdl hd K Q hK
                    try (simp only [givR3] at hd; simp only [hd] at hK ⊢)
                    have HK := Lib.hid hK; clear hK
                    have HL := Lib.hid hLR; clear hLR hAp hdl
                    have k0 := (hgbB.ext hG).c1
                    have k1 := hG.cell hbl1
                    have k2 := hG.cell hcr
                    have ha64 := andNot64 a own (by omega) (by omega)
                    have Ha64 := Lib.hid ha64; clear ha64
                    go_wp2_with fail
                    first
                      | exact HK.out _ _ (by first | rfl | exact congrArg (Value.int .i64) Ha64.out) hG (fun j hj => ⟨HL.out j hj, .inl trivial⟩)
                      | (rw [← Array.append_assoc]
                         refine (Hcall.out W (heB.trans hG)).mono ?_
                         rintro e w' ⟨rfl, he'⟩
                         go_wp2
                         exact HK.out _ _ rfl (hG.trans he') (fun j hj => ⟨givR3.same j _ (HL.out j hj), .inl trivial⟩))
                · intro x3 W3 hG3 hap3 hR
                  simp only [AllR, givR3, true_and] at hR
                  obtain ⟨⟨_, r14⟩, r15⟩ := hR
                  simp only [List.take, List.drop, fill, Act.put, List.setIfInBounds_toArray, List.set_cons_zero, List.set_cons_succ, Nat.reduceAdd, r14, r15]
                  clear r14 r15 hap3
                  have heC := heB.trans hG3
                  have hgbC := hgbB.ext hG3
                  have hlC := Nat.le_trans hlB hG3.size
                  have hRSC := hRSB.ext hG3
                  have hRGC := hRGB.ext hG3
                  have hR1C := hR1B.ext hG3
                  have hR2C := hR2B.ext hG3
                  clear heB hgbB hRSB hRGB hR1B hR2B hbl1 hbl2 hbl3 hcr Hcall hG3 eg' hlB
                  obtain ⟨p1, hp1⟩ : ∃ v, (pickA (num l) (sumF num l) a (a - own)).1 = v := ⟨_, rfl⟩
                  have hpb := pickA_bd (num l) (sumF num l) a hnum0 hsum0 (a - own)
                  rw [hp1] at hpb
                  have u1 : W3.cell? ⟨s1, a, none⟩ = some (.int .i64 p1) := by
                    have := hR1C.cell hlta
                    simpa [hp1] using this
                  have hst : Hid (pickA (num l) (sumF num l) a (a - own + 1) = if nn < 99 ∧ rest < 297 ∧ nn + rest < p1 then (nn + rest, own) else pickA (num l) (sumF num l) a (a - own)) := by
                    unfold Hid
                    rw [pickA]
                    rw [show a - (a - own) = own by omega, if_pos hoa, Hnn.out, Hrest.out, hp1]
                  have Hp1 := Lib.hid hp1; clear hp1
                  have f1 := hR1C.frozen a
                  have f2 := hR2C.frozen a
                  have hS1ne : s1 ≠ S := by rintro rfl; obtain ⟨_, _, q1, _⟩ := hRSC; obtain ⟨_, q2, _⟩ := hR1C; exact q2.ne_ q1 (by decide) rfl
                  have hS1G : s1 ≠ G := by rintro rfl; obtain ⟨_, _, q1, _⟩ := hRGC; obtain ⟨_, q2, _⟩ := hR1C; exact q2.ne_ q1 (by decide) rfl
                  have hS2ne : s2 ≠ S := by rintro rfl; obtain ⟨_, _, q1, _⟩ := hRSC; obtain ⟨_, q2, _⟩ := hR2C; exact q2.ne_ q1 (by decide) rfl
                  have hS2G : s2 ≠ G := by rintro rfl; obtain ⟨_, _, q1, _⟩ := hRGC; obtain ⟨_, q2, _⟩ := hR2C; exact q2.ne_ q1 (by decide) rfl
                  have hl1 := hR1C.lt
                  have hl2 := hR2C.lt
                  have hcell2 := (hR2C.far (p := ⟨s1, a, none⟩) (Ne.symm hss) (.int .i64 (nn + rest))).cell hlta
                  have hf2 := (hR2C.far (p := ⟨s1, a, none⟩) (Ne.symm hss) (.int .i64 (nn + rest))).frozen a
                  have hstop : (sdiff a own) < N' := by omega
                  obtain ⟨q1, hq1⟩ : ∃ q, decide (nn < 99) = q := ⟨_, rfl⟩
                  obtain ⟨q2, hq2⟩ : ∃ q, decide (rest < 297) = q := ⟨_, rfl⟩
                  obtain ⟨q3, hq3⟩ : ∃ q, decide (nn + rest < p1) = q := ⟨_, rfl⟩
                  have Hq1 := Lib.hid hq1
                  have Hq2 := Lib.hid hq2
                  have Hq3 := Lib.hid hq3
                  have Hpb := Lib.hid hpb; clear hpb
                  have Hst3 := Lib.hid hstop; clear hstop
                  clear hsd
                  have hR1D : Row W3 s1 N' (rowB (sumF num (l + 1)) a (pickA (num l) (sumF num l) a (a - own)).1) := hR1C
                  have hR2D : Row W3 s2 N' (rowB (fun s => (getF num l s : Int)) a ((pickA (num l) (sumF num l) a (a - own)).2 : Int)) := hR2C
                  clear hR1C hR2C
                  have hb64 : Hid (own ≠ 0 → Go.bits BinOp.and IntKind.i64 ((own : Int) - 1) (a : Int) = (((own - 1) &&& a : Nat) : Int)) := by
                    intro h
                    have := and64 (own - 1) a (by omega) (by omega)
                    rwa [show ((own - 1 : Nat) : Int) = (own : Int) - 1 by omega] at this
                  cases q1 with
                  | false =>
                    have HP : Hid (pickA (num l) (sumF num l) a (a - own + 1) = pickA (num l) (sumF num l) a (a - own)) := by
                      unfold Hid; rw [hst.out, if_neg]; rintro ⟨g1, g2, g3⟩; have := Hq1.out; simp at this; omega
                    by_cases h0 : own = 0
                    · subst h0
                      go_wp2_with fail
                      go_roundw
                      case rel =>
                        refine ⟨a + 1, by omega, by go_num, heC, hgbC, hlC, hRSC, hRGC, (hR1D).congr (fun j _ => ?_), (hR2D).congr (fun j _ => ?_)⟩
                        · exact rowB_next _ _ _ (congrArg Prod.fst HP.out) j
                        · exact rowB_next (fun s => (getF num l s : Int)) _ _ (congrArg (fun p : Int × Nat => (p.2 : Int)) HP.out) j
                      case measure => simp [intOf]; omega
                    · have hd0 : ((own : Int) == 0) = false := by simpa using h0
                      have Hnx := Lib.hid (pickA_next (num l) (sumF num l) a own hoa h0 hol)
                      have H0 := Lib.hid h0; clear h0
                      go_wp2_with fail
                      go_roundw
                      case rel =>
                        have hle : (own - 1) &&& a ≤ own - 1 := Nat.and_le_left
                        refine ⟨(own - 1) &&& a, by rw [Nat.and_assoc, Nat.and_self], by omega, congrArg (Value.int IntKind.i64) (hb64.out H0.out), heC, hgbC, hlC, hRSC, hRGC, (hR1D).congr (fun j _ => ?_), (hR2D).congr (fun j _ => ?_)⟩
                        · rw [Hnx.out, HP.out]; rfl
                        · rw [Hnx.out, HP.out]; rfl
                      case measure =>
                        have hle : (own - 1) &&& a ≤ own - 1 := Nat.and_le_left
                        have h0 := H0.out
                        rw [hb64.out h0]
                        simp only [intOf]
                        omega
                  | true =>
                  cases q2 with
                  | false =>
                    have HP : Hid (pickA (num l) (sumF num l) a (a - own + 1) = pickA (num l) (sumF num l) a (a - own)) := by
                      unfold Hid; rw [hst.out, if_neg]; rintro ⟨g1, g2, g3⟩; have := Hq2.out; simp at this; omega
                    by_cases h0 : own = 0
                    · subst h0
                      go_wp2_with fail
                      go_roundw
                      case rel =>
                        refine ⟨a + 1, by omega, by go_num, heC, hgbC, hlC, hRSC, hRGC, (hR1D).congr (fun j _ => ?_), (hR2D).congr (fun j _ => ?_)⟩
                        · exact rowB_next _ _ _ (congrArg Prod.fst HP.out) j
                        · exact rowB_next (fun s => (getF num l s : Int)) _ _ (congrArg (fun p : Int × Nat => (p.2 : Int)) HP.out) j
                      case measure => simp [intOf]; omega
                    · have hd0 : ((own : Int) == 0) = false := by simpa using h0
                      have Hnx := Lib.hid (pickA_next (num l) (sumF num l) a own hoa h0 hol)
                      have H0 := Lib.hid h0; clear h0
                      go_wp2_with fail
                      go_roundw
                      case rel =>
                        have hle : (own - 1) &&& a ≤ own - 1 := Nat.and_le_left
                        refine ⟨(own - 1) &&& a, by rw [Nat.and_assoc, Nat.and_self], by omega, congrArg (Value.int IntKind.i64) (hb64.out H0.out), heC, hgbC, hlC, hRSC, hRGC, (hR1D).congr (fun j _ => ?_), (hR2D).congr (fun j _ => ?_)⟩
                        · rw [Hnx.out, HP.out]; rfl
                        · rw [Hnx.out, HP.out]; rfl
                      case measure =>
                        have hle : (own - 1) &&& a ≤ own - 1 := Nat.and_le_left
                        have h0 := H0.out
                        rw [hb64.out h0]
                        simp only [intOf]
                        omega
                  | true =>
                  cases q3 with
                  | false =>
                    have HP : Hid (pickA (num l) (sumF num l) a (a - own + 1) = pickA (num l) (sumF num l) a (a - own)) := by
                      unfold Hid; rw [hst.out, if_neg]; rintro ⟨g1, g2, g3⟩; have := Hq3.out; simp at this; omega
                    by_cases h0 : own = 0
                    · subst h0
                      go_wp2_with fail
                      go_roundw
                      case rel =>
                        refine ⟨a + 1, by omega, by go_num, heC, hgbC, hlC, hRSC, hRGC, (hR1D).congr (fun j _ => ?_), (hR2D).congr (fun j _ => ?_)⟩
                        · exact rowB_next _ _ _ (congrArg Prod.fst HP.out) j
                        · exact rowB_next (fun s => (getF num l s : Int)) _ _ (congrArg (fun p : Int × Nat => (p.2 : Int)) HP.out) j
                      case measure => simp [intOf]; omega
                    · have hd0 : ((own : Int) == 0) = false := by simpa using h0
                      have Hnx := Lib.hid (pickA_next (num l) (sumF num l) a own hoa h0 hol)
                      have H0 := Lib.hid h0; clear h0
                      go_wp2_with fail
                      go_roundw
                      case rel =>
                        have hle : (own - 1) &&& a ≤ own - 1 := Nat.and_le_left
                        refine ⟨(own - 1) &&& a, by rw [Nat.and_assoc, Nat.and_self], by omega, congrArg (Value.int IntKind.i64) (hb64.out H0.out), heC, hgbC, hlC, hRSC, hRGC, (hR1D).congr (fun j _ => ?_), (hR2D).congr (fun j _ => ?_)⟩
                        · rw [Hnx.out, HP.out]; rfl
                        · rw [Hnx.out, HP.out]; rfl
                      case measure =>
                        have hle : (own - 1) &&& a ≤ own - 1 := Nat.and_le_left
                        have h0 := H0.out
                        rw [hb64.out h0]
                        simp only [intOf]
                        omega
                  | true =>
                    have HP : Hid (pickA (num l) (sumF num l) a (a - own + 1) = (nn + rest, own)) := by
                      unfold Hid; rw [hst.out, if_pos]
                      exact ⟨of_decide_eq_true Hq1.out, of_decide_eq_true Hq2.out, of_decide_eq_true Hq3.out⟩
                    have heD : Ext w ((W3.setCell ⟨s1, a, none⟩ (.int .i64 (nn + rest))).setCell ⟨s2, a, none⟩ (.int .i64 own)) := Below.setCell (Below.setCell heC (by show _ ≤ s1; omega) _) (by show _ ≤ s2; omega) _
                    have hgbD := (hgbC.far (p := ⟨s1, a, none⟩) (by show _ ≠ s1; omega) (.int .i64 (nn + rest))).far (p := ⟨s2, a, none⟩) (by show _ ≠ s2; omega) (.int .i64 own)
                    have hRSD := (hRSC.far (p := ⟨s1, a, none⟩) (Ne.symm hS1ne) (by show _ ≤ s1; omega) (.int .i64 (nn + rest))).far (p := ⟨s2, a, none⟩) (Ne.symm hS2ne) (by show _ ≤ s2; omega) (.int .i64 own)
                    have hRGD := (hRGC.far (p := ⟨s1, a, none⟩) (Ne.symm hS1G) (by show _ ≤ s1; omega) (.int .i64 (nn + rest))).far (p := ⟨s2, a, none⟩) (Ne.symm hS2G) (by show _ ≤ s2; omega) (.int .i64 own)
                    have hR1E := ((hR1D.set_ hlta (nn + rest)).congr (fun j _ => rowB_set _ _ _ _ j)).far (p := ⟨s2, a, none⟩) hss (.int .i64 own)
                    have hR2E := ((hR2D.far (p := ⟨s1, a, none⟩) (Ne.symm hss) (.int .i64 (nn + rest))).set_ hlta (own : Int)).congr (fun j _ => rowB_set _ _ _ _ j)
                    have hlD : lim ≤ ((W3.setCell ⟨s1, a, none⟩ (.int .i64 (nn + rest))).setCell ⟨s2, a, none⟩ (.int .i64 own)).heap.size := by rw [World.size_setCell, World.size_setCell]; exact hlC
                    by_cases h0 : own = 0
                    · subst h0
                      go_wp2_with fail
                      go_roundw
                      case rel =>
                        refine ⟨a + 1, by omega, by go_num, heD, hgbD, hlD, hRSD, hRGD, (hR1E).congr (fun j _ => ?_), (hR2E).congr (fun j _ => ?_)⟩
                        · exact rowB_next _ _ _ (congrArg Prod.fst HP.out) j
                        · exact rowB_next (fun s => (getF num l s : Int)) _ _ (congrArg (fun p : Int × Nat => (p.2 : Int)) HP.out) j
                      case measure => simp [intOf]; omega
                    · have hd0 : ((own : Int) == 0) = false := by simpa using h0
                      have Hnx := Lib.hid (pickA_next (num l) (sumF num l) a own hoa h0 hol)
                      have H0 := Lib.hid h0; clear h0
                      go_wp2_with fail
                      go_roundw
                      case rel =>
                        have hle : (own - 1) &&& a ≤ own - 1 := Nat.and_le_left
                        refine ⟨(own - 1) &&& a, by rw [Nat.and_assoc, Nat.and_self], by omega, congrArg (Value.int IntKind.i64) (hb64.out H0.out), heD, hgbD, hlD, hRSD, hRGD, (hR1E).congr (fun j _ => ?_), (hR2E).congr (fun j _ => ?_)⟩
                        · rw [Hnx.out, HP.out]; rfl
                        · rw [Hnx.out, HP.out]; rfl
                      case measure =>
                        have hle : (own - 1) &&& a ≤ own - 1 := Nat.and_le_left
                        have h0 := H0.out
                        rw [hb64.out h0]
                        simp only [intOf]
                        omega
            · obtain rfl : a = N' := by omega
              have f1 := hRS9.frozen (l + 1)
              have f2 := hRG9.frozen (l + 1)
              obtain ⟨v1, u1⟩ := hRS9.some_ (i := l + 1) (by omega)
              obtain ⟨v2, u2⟩ := hRG9.some_ (i := l + 1) (by omega)
              have hR1' := hR19.congr (g := sumF num (l + 1)) (fun j hj => by simp [hj])
              have hR2' := hR29.congr (g := fun s => (getF num l s : Int)) (fun j hj => by simp [hj])
              have hS1ne : s1 ≠ S := by rintro rfl; obtain ⟨_, _, q1, _⟩ := hRS9; obtain ⟨_, q2, _⟩ := hR19; exact q2.ne_ q1 (by decide) rfl
              have hS2ne : s2 ≠ S := by rintro rfl; obtain ⟨_, _, q1, _⟩ := hRS9; obtain ⟨_, q2, _⟩ := hR29; exact q2.ne_ q1 (by decide) rfl
              have hl1 := hR19.lt
              have hl2 := hR29.lt
              have hwS : w.heap.size < S := by omega
              have hwG : w.heap.size < G := by omega
              go_wp2_with fail
              go_roundw
              case rel =>
                obtain ⟨csG, hBG⟩ := hRG9.blk
                have p1 := hRS9.push (b := s1) (lim' := wr.heap.size) (by omega) hR1' hl9 hl1
                obtain ⟨csS, hBS⟩ := p1.blk
                have hG1' := hRG9.farS (p := ⟨S, l + 1, none⟩) (Ne.symm hSG) (cs' := _) (hRS9.blk.choose_spec) (.slice (some ⟨s1, 0, none⟩) a a)
                have hR2'' : Row (wr.setCell ⟨S, l + 1, none⟩ (.slice (some ⟨s1, 0, none⟩) a a)) s2 a (fun s => (getF num (l + 1 - 1) s : Int)) := hR2'.far hS2ne _
                have p2 := hG1'.push (b := s2) (lim' := wr.heap.size) (by omega) hR2'' hl9 hl2
                have p1' := p1.farS (p := ⟨G, l + 1, none⟩) hSG (hBG.far (p := ⟨S, l + 1, none⟩) (Ne.symm hSG) _) (.slice (some ⟨s2, 0, none⟩) a a)
                refine ⟨l + 1, by omega, by go_num, Below.setCell (Below.setCell he9 (by show _ ≤ S; omega) _) (by show _ ≤ G; omega) _, (hgb9.far (p := ⟨S, l + 1, none⟩) (by show _ ≠ S; omega) _).far (by show _ ≠ G; omega) _, p1'.lim_ ?_, p2.lim_ ?_⟩
                all_goals rw [World.size_setCell, World.size_setCell]; exact Nat.le_refl _
              case measure => simp [intOf]; omega
      · obtain rfl : l = n := by omega
        go_wp2
        go_ret2
        refine ⟨S, G, wr.heap.size, ?_, hRS, hRG, he⟩
        first | rfl | trivial | trace_state
end Go.Proofs.Pet

namespace Go.Proofs.Pet
open Go Go.RowKit Go.Maps Go.Shelf

theorem gives_cheapest (B : Nat) (m : Mill) (hch : checkE m = 0) (N : Nat) (hN : N = 2 ^ m.orders.length) (w : World)
    (hc : CostsAt w B (fun l s k => if l < m.laced.length ∧ s < 2 ^ m.orders.length then costC m l s k else 0)) :
    GivesLS Tryz.prog w 42 #[.pointer (some ⟨B, 0, none⟩)] #[] (numC m) m.laced.length N := by
  obtain ⟨l1, l2, l3⟩ := check_len hch
  intro W hW l s hl hs
  have hs128 : s < 128 := by
    have h1 : 2 ^ m.orders.length ≤ 2 ^ 7 := Nat.pow_le_pow_right (by omega) l3
    have h2 : (2 : Nat) ^ 7 = 128 := by decide
    omega
  refine (cheapest_any B l s (by omega) hs128 _ (numC m l s) ?_ W (hc.ext hW)).mono ?_
  · unfold numC
    have : (l < m.laced.length ∧ s < 2 ^ m.orders.length) := ⟨hl, by omega⟩
    simp only [this, and_self, if_true]
  · rintro e w' ⟨rfl, rfl⟩
    exact ⟨rfl, Ext.refl _⟩

theorem whole_any (D : Nat) (m : Mill) (hch : checkE m = 0) (N : Nat) (hN : N = 2 ^ m.orders.length) (w : World) (hD : Desk w D m) :
    Calls Tryz.prog 95 #[.pointer (some ⟨D, 0, none⟩)] w fun e w' => ∃ S, e = .returned (.slice (some ⟨S, 0, none⟩) N N) ∧ Row w' S N (sumF (numC m) m.laced.length) ∧ Ext w w' := by
  have HN := Lib.hid hN; clear hN
  have Hc := Lib.hid (costs_any D m hch w hD)
  have hmf : ∀ (fn : Fn) (first cap : Array Value) (w : World), (Instr.makeFunc fn first cap).run Tryz.prog w = .ok (.func fn first cap) w := fun _ _ _ _ => rfl
  go_enter Tryz.func95, Tryz.ntmps95
  go_wp2_with fail
  refine Hc.out.mono ?_
  rintro e w1 ⟨B, rfl, hB, hc, he1⟩
  have hD1 := hD.ext he1
  have hg := Lib.hid (given_any D m hch 42 #[.pointer (some ⟨B, 0, none⟩)] #[] (enters_of Tryz.func42 (by kernel_rfl) rfl) (numC m) (fun l s => by have := numC_bd m l s; omega) N HN.out w1 hD1 (gives_cheapest B m hch N HN.out w1 hc))
  clear hc
  go_wp2_with fail
  refine hg.out.mono ?_
  rintro e w2 ⟨S, G, lim, rfl, hS, hG, he2⟩
  obtain ⟨b, q1, q2, q3⟩ := hS.at_ (i := m.laced.length) (by omega) (by omega)
  obtain ⟨A1, c1, A2, c2, M, cnt, hb, h2, h3, h4, h5, h6, h7, h8, h9⟩ := hD1.ext he2
  obtain ⟨k0, k1, k2, k3⟩ := hb.c4
  clear h6 h7 h9 hg Hc hS hG
  go_wp2_with fail
  go_ret
  exact ⟨b, rfl, q3, he1.trans he2⟩

/-- what First answers -/
def firstE (m : Mill) : Int × Int := if checkE m = 0 then (match firstS m with | some k => ((k : Int), 0) | none => (0, 6)) else (0, checkE m)
theorem find_range {p : Nat → Bool} {n k : Nat} (hk : k < n) (hp : p k = true) (hb : ∀ j, j < k → p j = false) : (List.range n).find? p = some k := by
  rw [List.find?_eq_some_iff_append]
  refine ⟨hp, List.range k, (List.range' (k + 1) (n - k - 1)), ?_, fun j hj => by simpa using hb j (List.mem_range.1 hj)⟩
  rw [List.range_eq_range', List.range_eq_range']
  have h1 : k :: List.range' (k + 1) (n - k - 1) = List.range' k (n - k) := by
    obtain ⟨d, hd⟩ : ∃ d, n - k = d + 1 := ⟨n - k - 1, by omega⟩
    rw [hd, List.range'_succ]; congr 1
  rw [h1]
  have := List.range'_append_1 (s := 0) (m := k) (n := n - k)
  rw [Nat.zero_add] at this
  rw [this]; congr 1; omega
theorem find_none {p : Nat → Bool} {n : Nat} (hb : ∀ j, j < n → p j = false) : (List.range n).find? p = none := by
  rw [List.find?_eq_none]
  intro j hj
  simpa using hb j (List.mem_range.1 hj)

set_option maxRecDepth 20000 in
set_option maxHeartbeats 1000000 in
theorem first_any (v : Value) (m : Mill) (r k : Int) (hr : firstE m = (r, k)) (w : World) (hv : MillVal w v m) :
    Calls Tryz.prog 32 #[v] w fun e w' => e = .returned (.tuple #[.int .i64 r, .int .i64 k]) ∧ Ext w w' := by
  have Hv := Lib.hid hv
  obtain ⟨A1, c1, A2, c2, rfl, h2, h3, h4, h5, h6, h7⟩ := hv
  have hE := Ext.alloc w (.cells #[.slice A1 m.laced.length c1, .int .i64 m.change, .slice A2 m.orders.length c2] 25)
  have hM := Blk.new w 25 #[.slice A1 m.laced.length c1, .int .i64 m.change, .slice A2 m.orders.length c2]
  have hv1 := Hv.out.ext hE
  by_cases h0 : checkE m = 0
  · obtain ⟨l1, l2, l3⟩ := check_len h0
    have hop := Lib.hid (opened_any _ m h0 _ hv1)
    have hF : Hid ((match firstS m with | some k => ((k : Int), (0 : Int)) | none => (0, 6)) = (r, k)) := by unfold Hid; rw [← hr]; unfold firstE; rw [if_pos h0]
    clear h6 h7 hv1 hr Hv
    obtain ⟨k0, k1, k2⟩ := hM.c3
    go_enter Tryz.func32, Tryz.ntmps32
    go_wp2_with fail
    apply wp_scope_straight
    go_wp2_with fail
    refine hop.out.mono ?_
    rintro e w1 ⟨D, rfl, hDs, hD, he1⟩
    obtain ⟨N, hN⟩ : ∃ N, N = 2 ^ m.orders.length := ⟨_, rfl⟩
    have hw := Lib.hid (whole_any D m h0 N hN w1 hD)
    have HN := Lib.hid hN; clear hN
    have hM1 := hM.ext he1
    have hE1 := hE.trans he1
    clear hM hE he1 k0 k1 k2 hop
    go_wp2_with fail
    refine hw.out.mono ?_
    rintro e w2 ⟨S, rfl, hS, he2⟩
    have hM2 := hM1.ext he2
    have hE2 := hE1.trans he2
    obtain ⟨k0, k1, k2⟩ := hM2.c3
    clear hM1 hE1 he2 hw
    go_wp2_with fail
    apply wp_label
    go_wp2_with fail
    go_loopw [7, 22] (fun o i wr => ∃ k : Nat, k ≤ m.orders.length ∧ i = .int .i64 k ∧ o = .int .i64 (-1) ∧ wr = w2 ∧ Hid (∀ j, j < k → decide (297 ≤ sumF (numC m) m.laced.length (2 ^ (j + 1) - 1)) = false)) (fun _ i _ => m.orders.length - (intOf i).toNat)
    case atStart => exact ⟨0, by omega, rfl, rfl, rfl, fun j hj => absurd hj (by omega)⟩
    case round =>
      obtain ⟨k', hk', rfl, rfl, rfl, hno⟩ := hrel
      by_cases hlt : k' < m.orders.length
      · have hidx : Hid (2 ^ (k' + 1) - 1 < N ∧ 1 ≤ 2 ^ (k' + 1)) := by
          have h1 : 2 ^ (k' + 1) ≤ 2 ^ m.orders.length := Nat.pow_le_pow_right (by omega) (by omega)
          have h2 := Nat.two_pow_pos (k' + 1)
          have := HN.out
          exact ⟨by omega, by omega⟩
        have hpc : ((2 ^ (k' + 1) - 1 : Nat) : Int) = ((2 ^ (k' + 1) : Nat) : Int) - 1 := by have := hidx.out.2; omega
        have hwp : (2 : Int) ^ (k' + 1) = ((2 ^ (k' + 1) - 1 : Nat) : Int) + 1 := by
          have h3 : ((2 ^ (k' + 1) : Nat) : Int) = (2 : Int) ^ (k' + 1) := by simp
          omega
        have hp62 : Hid (2 ^ (k' + 1) - 1 < 4611686018427387904) := by
          have h1 : 2 ^ (k' + 1) ≤ 2 ^ 62 := Nat.pow_le_pow_right (by omega) (by omega)
          have h2 : (2 : Nat) ^ 62 = 4611686018427387904 := by decide
          exact (by omega : 2 ^ (k' + 1) - 1 < 4611686018427387904)
        have hcell := hS.cell hidx.out.1
        obtain ⟨q, hq⟩ : ∃ q, decide (297 ≤ sumF (numC m) m.laced.length (2 ^ (k' + 1) - 1)) = q := ⟨_, rfl⟩
        have Hq := Lib.hid hq
        have hx1 := hidx.out.1
        have hx2 := hp62.out
        obtain ⟨x, hx⟩ : ∃ x, 2 ^ (k' + 1) - 1 = x := ⟨_, rfl⟩
        rw [hx] at hwp hcell hq hx1 hx2
        clear hpc
        have Hx := Lib.hid hx; clear hx
        obtain ⟨y, hy⟩ : ∃ y, sumF (numC m) m.laced.length x = y := ⟨_, rfl⟩
        rw [hy] at hcell hq
        have Hy := Lib.hid hy; clear hy
        have h128 : x < 128 := by
          have h1 : 2 ^ (k' + 1) ≤ 2 ^ 7 := Nat.pow_le_pow_right (by omega) (by omega)
          have h2 : (2 : Nat) ^ 7 = 128 := by decide
          have := Hx.out
          omega
        obtain ⟨z, hz⟩ : ∃ z : Int, (x : Int) + 1 = z := ⟨_, rfl⟩
        rw [hz] at hwp
        have hz1 : z - 1 = (x : Int) := by omega
        have hz2 : 1 ≤ z ∧ z ≤ 128 := by omega
        clear hz hx2 hp62
        cases q with
        | false =>
          go_wp2_with fail
          go_roundw
          case rel =>
            refine ⟨k' + 1, by omega, by go_num, rfl, trivial, fun j hj => ?_⟩
            by_cases e : j = k'
            · subst e; exact Hq.out
            · exact hno.out j (by omega)
          case measure => simp [intOf]; omega
        | true =>
          have hsome : Hid (firstS m = some k') := find_range (by omega) Hq.out hno.out
          go_wp2_with fail
          rw [Exit.noGoto_ret]
          go_ret2
          have := hF.out
          rw [hsome.out] at this
          simp only [Prod.mk.injEq] at this
          exact ⟨by rw [← this.1, ← this.2]; rfl, hE2⟩
      · have hnone : Hid (firstS m = none) := find_none fun j hj => hno.out j (by omega)
        go_wp2_with fail
        rw [Exit.noGoto_ret]
        go_ret2
        have := hF.out
        rw [hnone.out] at this
        simp only [Prod.mk.injEq] at this
        exact ⟨by rw [← this.1, ← this.2]; rfl, hE2⟩
  · have hop := Lib.hid (openedErr _ m _ rfl h0 _ hv1)
    have hF : Hid ((0, checkE m) = (r, k)) := by unfold Hid; rw [← hr]; unfold firstE; rw [if_neg h0]
    have hd : (checkE m != 0) = true := by simpa using h0
    clear h6 h7 hv1 hr Hv h0
    obtain ⟨k0, k1, k2⟩ := hM.c3
    go_enter Tryz.func32, Tryz.ntmps32
    go_wp2_with fail
    apply wp_scope_straight
    go_wp2_with fail
    refine hop.out.mono ?_
    rintro e w1 ⟨rfl, he1⟩
    go_wp2
    rw [Exit.noGoto_ret]
    go_ret2
    have := hF.out
    simp only [Prod.mk.injEq] at this
    exact ⟨by rw [← this.1, ← this.2]; rfl, hE.trans he1⟩
end Go.Proofs.Pet
