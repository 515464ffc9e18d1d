/- Joined texts: PB1, W0, PB2, PU, PB3, PB4, PA3, PB5, PB6, PB7, PB8, PB9, PBA. -/
import Derived.Test.YtnapmppdjlnbdaaJ02
import Derived.Test.YtnapmppdjlnbdaaB0
import Derived.RangeFuncNested
import Derived.Deep.LoopGhost
import Derived.WideKeyPair
import Derived.Maps.OwnSet
import Derived.WalkMore
namespace Go.Proofs.Pet
open Go Go.RowKit
open Go.Proofs.Pow (PM Sh Wv POk)

theorem pweaver_any (v : Value) (m : PM) (n : Int) (q : Bool) (hq : inB n 0 (m.wvs.length - 1) = q) (w : World) (hv : PMVal w v m) :
    Calls Try.prog 34 #[v, .int .i64 n] w fun e w' => e = .returned (.bool q) ∧ Ext w w' := by
  obtain ⟨A1, c1, A2, c2, rfl, h2, h3, h4, h5, h6, h7⟩ := hv
  unfold maxLen at h5
  have Hc := Lib.hid (in_anyP n 0 (m.wvs.length - 1) q hq)
  have hE := Ext.alloc w (.cells #[.slice A1 m.shafts.length c1, .slice A2 m.wvs.length c2] 38)
  obtain ⟨k0, k1⟩ := (Blk.new w 38 #[.slice A1 m.shafts.length c1, .slice A2 m.wvs.length c2]).c2
  clear hq h6 h7
  go_enter Try.func34, Try.ntmps34
  go_wp2_with fail
  refine (Hc.out _).mono ?_
  rintro e w' ⟨rfl, rfl⟩
  go_wp2
  go_ret
  exact ⟨rfl, hE⟩
theorem pshaft_any (v : Value) (m : PM) (n : Int) (q : Bool) (hq : inB n 0 (m.shafts.length - 1) = q) (w : World) (hv : PMVal w v m) :
    Calls Try.prog 44 #[v, .int .i64 n] w fun e w' => e = .returned (.bool q) ∧ Ext w w' := by
  obtain ⟨A1, c1, A2, c2, rfl, h2, h3, h4, h5, h6, h7⟩ := hv
  unfold maxLen at h3
  have Hc := Lib.hid (in_anyP n 0 (m.shafts.length - 1) q hq)
  have hE := Ext.alloc w (.cells #[.slice A1 m.shafts.length c1, .slice A2 m.wvs.length c2] 38)
  obtain ⟨k0, k1⟩ := (Blk.new w 38 #[.slice A1 m.shafts.length c1, .slice A2 m.wvs.length c2]).c2
  clear hq h6 h7
  go_enter Try.func44, Try.ntmps44
  go_wp2_with fail
  refine (Hc.out _).mono ?_
  rintro e w' ⟨rfl, rfl⟩
  go_wp2
  go_ret
  exact ⟨rfl, hE⟩
theorem hour_any (n : Int) (q : Bool) (hq : inB n 0 23 = q) (w : World) :
    Calls Try.prog 42 #[.int .i64 n] w fun e w' => e = .returned (.bool q) ∧ w = w' := by
  have Hc := Lib.hid (in_anyP n 0 23 q hq)
  clear hq
  go_enter Try.func42, Try.ntmps42
  go_wp2_with fail
  refine (Hc.out _).mono ?_
  rintro e w' ⟨rfl, rfl⟩
  go_wp2
  go_ret
  exact ⟨rfl, rfl⟩
theorem pcheck1 (w : World) (x : Sh) : Tells Try.prog w 39 #[] #[] ShVal x (inB x.price 0 60) := by
  intro W v hW hv
  obtain rfl := hv
  have Hc := Lib.hid (in_anyP x.price 0 60 _ rfl)
  have hE := Ext.alloc W (.cells #[.int .i64 x.up, .int .i64 x.price] 73)
  obtain ⟨k0, k1⟩ := (Blk.new W 73 #[.int .i64 x.up, .int .i64 x.price]).c2
  generalize inB x.price 0 60 = q at Hc ⊢
  show Calls Try.prog 39 #[_] W _
  go_enter Try.func39, Try.ntmps39
  go_wp2_with fail
  refine (Hc.out _).mono ?_
  rintro e w' ⟨rfl, rfl⟩
  go_wp2
  go_ret
  exact ⟨rfl, hE⟩
theorem pcheck2 (w : World) (x : Wv) : Tells Try.prog w 41 #[] #[] WvVal x (x.hours.all fun h => inB h 0 23) := by
  intro W v hW hv
  obtain ⟨A, c, h1, rfl, h3⟩ := hv
  have hE := Ext.alloc W (.cells #[.int .i64 x.shaft, .slice A x.hours.length c] 43)
  obtain ⟨k0, k1⟩ := (Blk.new W 43 #[.int .i64 x.shaft, .slice A x.hours.length c]).c2
  have H := Lib.hid (everyIP 42 #[] #[] (enters_of Try.func42 (by kernel_rfl) rfl) (fun h => inB h 0 23) A c x.hours _ (Nat.le_trans h1.1 h1.2) (h3.ext hE)
    (fun y _ => fun W' v' _ hv' => by
      obtain rfl : v' = .int .i64 y := hv'
      exact (hour_any y _ rfl W').mono fun e w' h => ⟨h.1, h.2 ▸ Ext.refl _⟩))
  generalize (x.hours.all fun h => inB h 0 23) = q at H ⊢
  show Calls Try.prog 41 #[_] W _
  go_enter Try.func41, Try.ntmps41
  go_wp2_with fail
  refine H.out.mono ?_
  rintro e w' ⟨rfl, he⟩
  go_wp2
  go_ret
  exact ⟨rfl, hE.trans he⟩
theorem pcheck4 (w : World) (x : Wv) : Tells Try.prog w 45 #[] #[] WvVal x (risingB x.hours) := by
  intro W v hW hv
  obtain ⟨A, c, h1, rfl, h3⟩ := hv
  have hE := Ext.alloc W (.cells #[.int .i64 x.shaft, .slice A x.hours.length c] 43)
  obtain ⟨k0, k1⟩ := (Blk.new W 43 #[.int .i64 x.shaft, .slice A x.hours.length c]).c2
  have H := Lib.hid (rising_anyP A c x.hours _ rfl _ (Nat.le_trans h1.1 h1.2) (h3.ext hE))
  generalize risingB x.hours = q at H ⊢
  show Calls Try.prog 45 #[_] W _
  go_enter Try.func45, Try.ntmps45
  go_wp2_with fail
  refine H.out.mono ?_
  rintro e w' ⟨rfl, he⟩
  go_wp2
  go_ret
  exact ⟨rfl, hE.trans he⟩
theorem pcheck3 (w : World) (B : Nat) (s1 s2 : Value) (m : PM) (hB : Blk w B 38 #[s1, s2]) (hm : PMVal w (.agg #[s1, s2]) m) (x : Wv) :
    Tells Try.prog w 43 #[] #[.pointer (some ⟨B, 0, none⟩)] WvVal x (inB x.shaft 0 (m.shafts.length - 1)) := by
  intro W v hW hv
  obtain ⟨A, c, h1, rfl, h3⟩ := hv
  have hE := Ext.alloc W (.cells #[.int .i64 x.shaft, .slice A x.hours.length c] 43)
  obtain ⟨k0, k1⟩ := (Blk.new W 43 #[.int .i64 x.shaft, .slice A x.hours.length c]).c2
  have hb := (hB.ext hW).ext hE
  have hf := hb.frozen 0
  obtain ⟨j0, j1⟩ := hb.c2
  have H := Lib.hid (pshaft_any _ m x.shaft _ rfl _ ((hm.ext hW).ext hE))
  obtain ⟨A1, c1, A2, c2, he, _⟩ := hm
  simp only [Value.agg.injEq, Array.mk.injEq, List.cons.injEq, and_true] at he
  obtain ⟨rfl, rfl⟩ := he
  clear hB hb
  generalize inB x.shaft 0 (m.shafts.length - 1) = q at H ⊢
  show Calls Try.prog 43 #[_, .pointer (some ⟨B, 0, none⟩)] W _
  go_enter Try.func43, Try.ntmps43
  go_wp2_with fail
  refine H.out.mono ?_
  rintro e w' ⟨rfl, he⟩
  go_wp2
  go_ret
  exact ⟨rfl, hE.trans he⟩

set_option maxHeartbeats 1000000 in
theorem pcheck_any (v : Value) (m : PM) (w : World) (hv : PMVal w v m) :
    Calls Try.prog 24 #[v] w fun e w' => e = .returned (.int .i64 (checkP m)) ∧ Ext w w' := by
  have hmf : ∀ (fn : Fn) (first cap : Array Value) (w : World), (Instr.makeFunc fn first cap).run Try.prog w = .ok (.func fn first cap) w := fun _ _ _ _ => rfl
  have Hv := Lib.hid hv
  obtain ⟨A1, c1, A2, c2, rfl, h2, h3, h4, h5, h6, h7⟩ := hv
  unfold maxLen at h3 h5
  have g1 : m.shafts.length ≤ maxLen := by unfold maxLen; omega
  have g2 : m.wvs.length ≤ maxLen := by unfold maxLen; omega
  unfold checkP
  have hin := in_anyP m.shafts.length 1 9 _ rfl
  have hE1 := Ext.alloc w (.cells #[.slice A1 m.shafts.length c1, .slice A2 m.wvs.length c2] 38)
  have hB1 := Blk.new w 38 #[.slice A1 m.shafts.length c1, .slice A2 m.wvs.length c2]
  have e1 := fun W (hW : Ext w W) => everyS 39 #[] #[] (enters_of Try.func39 (by kernel_rfl) rfl) _ A1 c1 m.shafts W g1 (h6.ext hW) (fun x _ => pcheck1 W x)
  have e2 := fun W (hW : Ext w W) => everyW 41 #[] #[] (enters_of Try.func41 (by kernel_rfl) rfl) _ A2 c2 m.wvs W g2 (h7.ext hW) (fun x _ => pcheck2 W x)
  have e4 := fun W (hW : Ext w W) => everyW 45 #[] #[] (enters_of Try.func45 (by kernel_rfl) rfl) _ A2 c2 m.wvs W g2 (h7.ext hW) (fun x _ => pcheck4 W x)
  have e3 := fun W B (hW : Ext w W) (hB : Blk W B 38 #[.slice A1 m.shafts.length c1, .slice A2 m.wvs.length c2]) =>
    everyW 43 #[] #[.pointer (some ⟨B, 0, none⟩)] (enters_of Try.func43 (by kernel_rfl) rfl) _ A2 c2 m.wvs W g2 (h7.ext hW) (fun x _ => pcheck3 W B _ _ m hB (Hv.out.ext hW) x)
  have Hup : Hid (∀ q, ((List.range m.shafts.length).all fun i => inB (m.sh i).up (-1) ((i : Int) - 1)) = q → (q = true ↔ ∀ i, i < m.shafts.length → inB (m.sh i).up (-1) ((i : Int) - 1) = true)) := by
    intro q hq
    rw [← hq, List.all_eq_true]
    exact ⟨fun h i hi => h i (List.mem_range.2 hi), fun h i hi => h i (List.mem_range.1 hi)⟩
  generalize inB m.shafts.length 1 9 = q1 at hin ⊢
  generalize (m.shafts.all fun s => inB s.price 0 60) = q2 at e1 ⊢
  generalize (m.wvs.all fun w => w.hours.all fun h => inB h 0 23) = q3 at e2 ⊢
  generalize hq4 : ((List.range m.shafts.length).all fun i => inB (m.sh i).up (-1) ((i : Int) - 1)) = q4
  generalize (m.wvs.all fun w => inB w.shaft 0 (m.shafts.length - 1)) = q5 at e3 ⊢
  generalize (m.wvs.all fun w => risingB w.hours) = q6 at e4 ⊢
  have Hin := Lib.hid hin
  have E1 := Lib.hid e1
  have E2 := Lib.hid e2
  have E3 := Lib.hid e3
  have E4 := Lib.hid e4
  have Hq4 := Lib.hid (Hup.out q4 hq4)
  have H6 := Lib.hid h6; have H7 := Lib.hid h7
  clear hin e1 e2 e3 e4 hq4 Hup h6 h7
  obtain ⟨k0, k1⟩ := hB1.c2
  go_enter Try.func24, Try.ntmps24
  go_wp2_with fail
  refine (Hin.out _).mono ?_
  rintro e w' ⟨rfl, rfl⟩
  cases q1 with
  | false =>
    go_wp2
    go_ret
    exact ⟨by simp, hE1⟩
  | true =>
    by_cases hlen : 6 < m.wvs.length
    · go_wp2
      go_ret
      exact ⟨by simp, hE1⟩
    · have hlen' : decide (6 < (m.wvs.length : Int)) = false := by simp; omega
      go_wp2_with fail
      refine (E1.out _ hE1).mono ?_
      rintro e w3 ⟨rfl, hE3⟩
      have hE3' := hE1.trans hE3
      have hB3 := hB1.ext hE3
      clear k0 k1 hB1 hE1 hE3
      obtain ⟨k0, k1⟩ := hB3.c2
      cases q2 with
      | false =>
        go_wp2
        go_ret
        exact ⟨by simp, hE3'⟩
      | true =>
        go_wp2_with fail
        refine (E2.out _ hE3').mono ?_
        rintro e w4 ⟨rfl, hE4⟩
        have hE4' := hE3'.trans hE4
        have hB4 := hB3.ext hE4
        clear k0 k1 hB3 hE3' hE4
        obtain ⟨k0, k1⟩ := hB4.c2
        cases q3 with
        | false =>
          go_wp2
          go_ret
          exact ⟨by simp, hE4'⟩
        | true =>
          go_wp2_with fail
          have HB4 := Lib.hid hB4
          clear k0 k1 hB4
          have hs9 : m.shafts.length ≤ maxLen := g1
          go_loopw [31] (fun i wr => ∃ k : Nat, k ≤ m.shafts.length ∧ i = .int .i64 k ∧ Hid (∀ j, j < k → inB (m.sh j).up (-1) ((j : Int) - 1) = true) ∧ Ext w4 wr) (fun i _ => m.shafts.length - (intOf i).toNat)
          case atStart => exact ⟨0, Nat.zero_le _, rfl, fun j hj => absurd hj (by omega), Ext.refl _⟩
          case round =>
            obtain ⟨k, hk, rfl, hm, he⟩ := hrel
            by_cases hlt : k < m.shafts.length
            · obtain ⟨b, o, rfl, s1, s2⟩ := H6.out.ext (hE4'.trans he) k hlt
              have hX := Ext.alloc wr (.cells #[.int .i64 (m.shafts[k]?.getD default).up, .int .i64 (m.shafts[k]?.getD default).price] 73)
              obtain ⟨j0, j1⟩ := (Blk.new wr 73 #[.int .i64 (m.shafts[k]?.getD default).up, .int .i64 (m.shafts[k]?.getD default).price]).c2
              obtain ⟨q, hq⟩ : ∃ q, inB (m.sh k).up (-1) ((k : Int) - 1) = q := ⟨_, rfl⟩
              have Hc := Lib.hid (in_anyP (m.shafts[k]?.getD default).up (-1) ((k : Int) - 1) q hq)
              have Hq := Lib.hid hq; clear hq
              generalize m.shafts[k]?.getD default = x at *
              have hkb : (k : Int) ≤ maxLen := by omega
              unfold maxLen at hkb
              go_wp2_with fail
              refine (Hc.out _).mono ?_
              rintro e w' ⟨rfl, rfl⟩
              cases q with
              | false =>
                have h4 : q4 = false := by
                  cases q4 with
                  | false => rfl
                  | true => rw [Hq4.out.1 rfl k hlt] at Hq; exact absurd Hq.out (by simp)
                subst h4
                go_wp2
                go_ret
                exact ⟨by simp, (hE4'.trans he).trans hX⟩
              | true =>
                go_wp2_with fail
                go_roundw
                case rel =>
                  refine ⟨k + 1, by omega, by go_num, fun j hj => ?_, he.trans hX⟩
                  by_cases ej : j = k
                  · subst ej; exact Hq.out
                  · exact hm.out j (by omega)
                case measure => simp [intOf]; omega
            · have h4 : q4 = true := Hq4.out.2 fun j hj => hm.out j (by omega)
              subst h4
              have hE5 := hE4'.trans he
              have hB5 := HB4.out.ext he
              have hB6 := Lib.hid hB5
              obtain ⟨k0, k1⟩ := hB5.c2
              go_wp2_with fail
              refine (E3.out _ _ hE5 hB6.out).mono ?_
              rintro e w6 ⟨rfl, hE6⟩
              have hE6' := hE5.trans hE6
              have hB7 := hB6.out.ext hE6
              clear k0 k1 hB5 hB6
              obtain ⟨k0, k1⟩ := hB7.c2
              cases q5 with
              | false =>
                go_wp2
                go_ret
                exact ⟨by simp, hE6'⟩
              | true =>
                go_wp2_with fail
                refine (E4.out _ hE6').mono ?_
                rintro e w7 ⟨rfl, hE7⟩
                have hE7' := hE6'.trans hE7
                cases q6 with
                | false =>
                  go_wp2
                  go_ret
                  exact ⟨by simp, hE7'⟩
                | true =>
                  go_wp2
                  all_goals
                    go_ret
                    exact ⟨by first | rfl | simp [hlen], hE7'⟩
end Go.Proofs.Pet

namespace Go.Proofs.Pet
open Go Go.RowKit

/-- what such an iterator does: some elements come, one by one; what the rounds carry on may say nothing of what the iterator turns (Tn) -/
def SeqT {α : Type} (F : Fence) (n : Nat) (P : Program) (g : Nat) (lb : Array Value) (encs : α → Array Value) (Kp Tn : World → World → Prop) (S : List α → Prop) (N : Nat) (w : World) : Prop :=
  ∀ (l : Nat) (J : List α → World → Prop) (W : World), Below w.heap.size w W → AbidesFrom W.heap.size J → (∀ s X Y, J s X → Tn X Y → J s Y) →
    (∀ pre x W1, J pre W1 → pre.length < N → YieldAt F (n - 1) P l (encs x) W1 fun e W' => e = .returned (.bool true) ∧ J (pre ++ [x]) W' ∧ Kp W1 W') → J [] W →
    CallsIn F n P g (#[.func (.yield l) #[] #[]] ++ lb) W fun e W' => (∃ v, e = .returned v) ∧ ∃ xs, S xs ∧ J xs W'
section
variable {α : Type} {F : Fence} {n : Nat} {P : Program} {encs : α → Array Value} {Kp Tn : World → World → Prop} {S : List α → Prop} {N : Nat}
/-- the loop's record -/
def recT (fn : FuncId) (tmps : Array Value) (ps : Array Tmp) (assign body : Code) (D : Nat) (st : LoopState) : Loop :=
  { state := st, pending := none, fn, tmps, params := ps, assign, body, defers := D }
theorem wpIn_rangeT {g : Operand} {ps : Array Tmp} {assign body : Code} {Q : Exit → Act → World → Prop} {a : Act} {w w0 : World} {gf : Nat} {lb : Array Value}
    (hro : F.round = none) (h1 : 1 ≤ n) (hg : a.eval g = .func (.func gf) #[] lb) (hFg : F.fn gf) (eg : Enters P gf) (hseq : SeqT F (n - 1) P gf lb encs Kp Tn S N w0) (hb0 : Below w0.heap.size w0 w)
    (hKt : ∀ {A B C : World}, Kp A B → Kp B C → Kp A C) (hKb : ∀ (W : World) (l : Nat) (o o' : Obj), w.heap.size ≤ l → W.heap[l]? = some o → o.isCells = false → o.isWalk = false → Kp W (W.putObj l o'))
    (hTw : ∀ X Y, Tn X Y → ∀ k, w.heap.size ≤ k → Y.heap[k]? = X.heap[k]?) (hps : ∀ x, (encs x).size = ps.size)
    (I : List α → World → Prop) (hI : OwnFrom w.heap.size I) (hIT : ∀ s X Y, I s X → Tn X Y → I s Y) (h0 : I [] w) (a₁ : α → Act)
    (hassign : ∀ (l : Nat) (x : α) (W : World) (K : Act → World → Prop), K (a₁ x) W →
      assign.wpIn (F.inRound l) (n - 1 - 1) P (Exit.then K (fun _ _ _ => False)) { tmps := (ps.zip (encs x)).foldl (fun t (p, v) => t.setIfInBounds p v) a.tmps, defers := [] } W)
    (hbody : ∀ (l : Nat) (pre : List α) (x : α) (W : World), I pre W → pre.length < N → body.wpIn (F.inRound l) (n - 1 - 1) P (ownPostG w.heap.size Kp I (fun _ _ _ => False) (pre ++ [x]) W) (a₁ x) W)
    (hdone : ∀ (D : Nat) (xs : List α) (W : World), w.heap.size ≤ D → S xs → I xs W → W.heap[D]? = some (.deferred (some [])) → Q .normal { a with defers := { target := .collected D, args := #[] } :: a.defers } W) :
    (Code.rangeFunc g ps assign body).wpIn F n P Q a w := by
  refine wpIn_rangeFunc fun fn hfn => ?_
  rw [hro]
  -- the two blocks that the loop lays: what the rounds defer, and its record
  let D := w.heap.size
  let wd := w.alloc (.deferred (some []))
  let rc := recT fn a.tmps ps assign body D
  obtain ⟨V, hV⟩ : ∃ V, wd.alloc (.loop (rc .ready)) = V := ⟨_, rfl⟩
  have hsz : wd.heap.size = D + 1 := World.size_alloc ..
  have hrec : V.heap[D + 1]? = some (.loop (rc .ready)) := by
    rw [← hV, ← hsz]; exact World.alloc_heap_new wd _
  have hdef : V.heap[D]? = some (.deferred (some [])) := by
    rw [← hV]; exact (Below.heap_alloc wd _ D (by omega)).trans (World.alloc_heap_new w _)
  have hIV : I [] V := by rw [← hV]; exact hI.alloc _ (hI.alloc _ h0)
  have hbV : Below w0.heap.size w0 V := by
    rw [← hV]
    exact hb0.trans (((Ext.alloc w _).trans (Ext.alloc wd _)).mono hb0.size)
  have hVD : D + 2 ≤ V.heap.size := by rw [← hV, World.size_alloc, hsz]; omega
  refine ⟨D + 1, [{ target := .collected D, args := #[] }], V, { target := .fn (.func gf) lb, args := #[.func (.yield (D + 1)) #[] #[]] }, V, gf, #[.func (.yield (D + 1)) #[] #[]] ++ lb, V, ?_, ?_, ?_, ?_, fun _ => h1, ?_⟩
  · rw [← hV]; exact run_enterLoop_outer _ _ _ _ _
  · simp only [resolve, hg]
    simp [go_sem]
  · intro f' hf'
    simp [Target.leads] at hf'
    subst hf'; exact hFg
  · simp [invoke, go_sem, eg _ _]
  · -- what is carried on: the caller's invariant and the two blocks
    have hwalk : ∀ {A B : World} {row : Option Nat}, A.grownBy B row → (∀ r, row = some r → V.heap.size ≤ r ∧ ∃ o : Obj, A.heap[r]? = some o ∧ o.isWalk = true) → ∀ s, I s A → I s B :=
      fun hgr hr s hs => hI s _ _ _ hs hgr fun r e => by
        obtain ⟨q, o, ho, hw⟩ := hr r e
        exact ⟨by omega, o, ho, Obj.not_cells_of_walk hw⟩
    refine (hseq (D + 1) (fun pre W => I pre W ∧ W.heap[D + 1]? = some (.loop (rc .ready)) ∧ W.heap[D]? = some (.deferred (some []))) V hbV ?_ ?_ ?_ ⟨hIV, hrec, hdef⟩).mono ?_
    · intro s A B row ⟨g1, g2, g3⟩ hgr hr
      exact ⟨hwalk hgr hr s g1, (grownBy_keeps hgr (fun r e => (hr r e).2) g2 rfl).trans g2, (grownBy_keeps hgr (fun r e => (hr r e).2) g3 rfl).trans g3⟩
    · intro s X Y ⟨g1, g2, g3⟩ ht
      exact ⟨hIT s X Y g1 ht, (hTw X Y ht _ (by omega)).trans g2, (hTw X Y ht _ (Nat.le_refl _)).trans g3⟩
    · -- a round
      intro pre x W ⟨g1, g2, g3⟩ hlen
      have hlt : D + 1 < W.heap.size := (Array.getElem?_eq_some_iff.1 g2).1
      refine ⟨fn, _, assign, body, run_yield (P := P) (args := encs x) g2 (hps x), roundIn_of_wpIn hfn (hassign _ x W _ ⟨_, run_beginRound g2 rfl, ?_⟩)⟩
      obtain ⟨B, hB⟩ : ∃ B, W.putObj (D + 1) (.loop (rc .busy)) = B := ⟨_, rfl⟩
      have hB' : W.putObj (D + 1) (.loop { rc .ready with state := .busy }) = B := hB
      rw [hB']
      have p2 : B.heap[D + 1]? = some (.loop (rc .busy)) := by rw [← hB]; exact World.putObj_heap_same hlt
      have p3 : B.heap[D]? = some (.deferred (some [])) := by rw [← hB]; exact (World.putObj_heap_other (by omega)).trans g3
      have pK : Kp W B := by rw [← hB]; exact hKb _ _ _ _ (by omega) g2 rfl rfl
      have pI : I pre B := by rw [← hB]; exact hI.putObj _ g1 (by omega) g2 rfl
      clear hB hB'
      refine wpIn_mono (hbody _ pre x B pI hlen) ?_
      intro e a3 W3 hp
      cases e with
      | normal =>
        obtain ⟨k1, k2, k3⟩ := hp
        have q2 := k1.same _ _ (by omega) p2 rfl
        have q3 := k1.same _ _ (Nat.le_refl _) p3 rfl
        have hend := run_endRound (P := P) none q2
        refine ⟨_, _, hend, rfl, ⟨hI.putObj _ k3 (by omega) q2 rfl, World.putObj_heap_same (Array.getElem?_eq_some_iff.1 q2).1, (World.putObj_heap_other (by omega)).trans q3⟩, hKt (hKt pK k2) (hKb _ _ _ _ (by omega) q2 rfl rfl)⟩
      | ret => exact hp.2.elim
      | exit id => exact hp.2.elim
      | goto t => exact hp.2.elim
      | panic ch => exact hp.elim
      | outgrown => exact hp.elim
    · -- behind the iterator
      rintro e W2 ⟨⟨v, rfl⟩, xs, hS, g1, g2, g3⟩
      exact ⟨none, _, run_endLoop (P := P) g2 (show LoopState.ready ≠ LoopState.busy by decide), hdone D xs _ (Nat.le_refl _) hS (hI.putObj _ g1 (by omega) g2 rfl) ((World.putObj_heap_other (by omega)).trans g3)⟩
end
end Go.Proofs.Pet

namespace Go.Proofs.Pet
open Go Go.RowKit Go.Maps Go.Shelf
open Go.Proofs.Pow (PM Sh Wv POk)

/-- a shaft of a line -/
abbrev OnLine (m : PM) (s : Int) := { x : Int // x ∈ m.line s }
def encO (m : PM) (s : Int) (x : OnLine m s) : Array Value := #[.int .i64 x.1]
/-- what a round keeps: what lay at first, and the two boxes -/
def KeepsLine (n1 B : Nat) (X Y : World) : Prop := (∀ k, k < n1 → Y.heap[k]? = X.heap[k]?) ∧ Y.heap[B]? = X.heap[B]? ∧ Y.heap[B + 1]? = X.heap[B + 1]?
def TurnsLine (B : Nat) (X Y : World) : Prop := ∃ v, Y = X.setCell ⟨B + 1, 0, none⟩ v
theorem KeepsLine.t {n1 B : Nat} {X Y Z : World} (h : KeepsLine n1 B X Y) (k : KeepsLine n1 B Y Z) : KeepsLine n1 B X Z := ⟨fun j hj => (k.1 j hj).trans (h.1 j hj), k.2.1.trans h.2.1, k.2.2.trans h.2.2⟩
theorem KeepsLine.b {n1 B : Nat} {w : World} (h1 : n1 ≤ w.heap.size) (hB : B + 1 < w.heap.size) (W : World) (l : Nat) (o o' : Obj) (hl : w.heap.size ≤ l) (_h : W.heap[l]? = some o) (_h1 : o.isCells = false) (_h2 : o.isWalk = false) : KeepsLine n1 B W (W.putObj l o') :=
  ⟨fun k hk => World.putObj_heap_other (by omega), World.putObj_heap_other (by omega), World.putObj_heap_other (by omega)⟩
theorem TurnsLine.w {B : Nat} {w : World} (hB : B + 1 < w.heap.size) (X Y : World) (h : TurnsLine B X Y) (k : Nat) (hk : w.heap.size ≤ k) : Y.heap[k]? = X.heap[k]? := by
  obtain ⟨v, rfl⟩ := h
  exact Below.heap_setCell X ⟨B + 1, 0, none⟩ v k (by show k ≠ B + 1; omega)
theorem cell_of_blocks {X Y : World} {p : Addr} {v : Value} (h : Y.heap[p.block]? = X.heap[p.block]?) (hc : X.cell? p = some v) : Y.cell? p = some v := (World.cell?_of_block h).trans hc
theorem ShsAt.low {n1 : Nat} {X Y : World} {A : Option Addr} {xs : List Sh} (h : ShsAt X A xs) (hn : ∀ k, k < xs.length → ∀ ad, A = some ad → ad.block < n1) (hk : ∀ k, k < n1 → Y.heap[k]? = X.heap[k]?) : ShsAt Y A xs := by
  intro k hlt
  obtain ⟨b, o, rfl, h1, h2⟩ := h k hlt
  have hb := hn k hlt _ rfl
  exact ⟨b, o, rfl, cell_of_blocks (hk b hb) h1, cell_of_blocks (hk b hb) h2⟩
theorem ShsAt.low_lt {w : World} {A : Option Addr} {xs : List Sh} (h : ShsAt w A xs) : ∀ k, k < xs.length → ∀ ad, A = some ad → ad.block < w.heap.size := by
  intro k hlt ad e
  obtain ⟨b, o, rfl, h1, h2⟩ := h k hlt
  cases e
  show b < _
  exact cell_lt h1

theorem pline_any (A1 A2 : Option Addr) (n1 c1 n2 c2 : Nat) (s : Int) (w : World) :
    Calls Try.prog 36 #[.agg #[.slice A1 n1 c1, .slice A2 n2 c2], .int .i64 s] w fun e w' =>
      e = .returned (.func (.func 72) #[] #[.pointer (some ⟨w.heap.size + 1, 0, none⟩), .pointer (some ⟨w.heap.size, 0, none⟩)]) ∧ Ext w w' ∧ Blk w' w.heap.size 38 #[.slice A1 n1 c1, .slice A2 n2 c2] ∧ Blk w' (w.heap.size + 1) 3 #[.int .i64 s] ∧ w'.heap.size = w.heap.size + 2 := by
  have hmf : ∀ (fn : Fn) (first cap : Array Value) (w : World), (Instr.makeFunc fn first cap).run Try.prog w = .ok (.func fn first cap) w := fun _ _ _ _ => rfl
  have hE := (Ext.alloc w (.cells #[.slice A1 n1 c1, .slice A2 n2 c2] 38)).trans (Ext.alloc _ (.cells #[.int .i64 s] 3))
  have b1 := (Blk.new w 38 #[.slice A1 n1 c1, .slice A2 n2 c2]).alloc (.cells #[.int .i64 s] 3)
  have b2 := Blk.new (w.alloc (.cells #[.slice A1 n1 c1, .slice A2 n2 c2] 38)) 3 #[.int .i64 s]
  rw [World.size_alloc] at b2
  go_enter Try.func36, Try.ntmps36
  go_wp2_with fail
  go_ret
  exact ⟨rfl, hE, b1, b2, by rw [World.size_alloc, World.size_alloc]⟩

def curOf (B : Nat) (wr : World) : Int := match wr.cell? ⟨B + 1, 0, none⟩ with | some v => intOf v | none => 0

set_option maxRecDepth 20000 in
set_option maxHeartbeats 1000000 in
theorem line1_in (F : Fence) (n0 : Nat) (hF : F.fn 72) (hro : F.round = none) (hn : 1 ≤ n0) (l B n1 : Nat) (m : PM) (hu : Pow.UpOk m) (hB : n1 ≤ B) (A1 : Option Addr) (c1 : Nat) (v2 : Value) (_hl : m.shafts.length ≤ maxLen) (s : Int) (hs : -1 ≤ s ∧ s < m.shafts.length)
    (J : List (OnLine m s) → World → Prop) (hJT : ∀ s X Y, J s X → TurnsLine B X Y → J s Y)
    (hY : ∀ pre x W, J pre W → pre.length < (m.line s).length → YieldAt F (n0 - 1) Try.prog l (encO m s x) W fun e W' => e = .returned (.bool true) ∧ J (pre ++ [x]) W' ∧ KeepsLine n1 B W W')
    (W : World) (hB1 : Blk W B 38 #[.slice A1 m.shafts.length c1, v2]) (hB2 : Blk W (B + 1) 3 #[.int .i64 s]) (hA : ShsAt W A1 m.shafts) (hA1 : ∀ k, k < m.shafts.length → ∀ ad, A1 = some ad → ad.block < n1) (h0 : J [] W) :
    CallsIn F n0 Try.prog 72 #[.func (.yield l) #[] #[], .pointer (some ⟨B + 1, 0, none⟩), .pointer (some ⟨B, 0, none⟩)] W fun e W' => (∃ v, e = .returned v) ∧ ∃ xs, xs.map (fun x : OnLine m s => x.1) = m.line s ∧ J xs W' := by
  unfold maxLen at _hl
  refine callsIn_of_wp Try.func72 rfl hF ?_ hro
  simp only [Try.ntmps72, List.size_toArray, List.length_cons, List.length_nil, Nat.reduceAdd, Nat.reduceSub, Array.replicate_succ, Array.replicate_zero, List.push_toArray, List.append_toArray, List.nil_append, List.cons_append]
  gi_wp2
  gi_loopw [] (fun wr => ∃ (pre : List (OnLine m s)) (cur : Int), Hid (pre.map (fun x : OnLine m s => x.1) ++ m.line cur = m.line s) ∧ (-1 ≤ cur ∧ cur < m.shafts.length) ∧ Blk wr B 38 #[.slice A1 m.shafts.length c1, v2] ∧ Blk wr (B + 1) 3 #[.int .i64 cur] ∧ Hid (ShsAt wr A1 m.shafts) ∧ Hid (J pre wr))
    (fun wr => (curOf B wr + 1).toNat)
  case atStart => exact ⟨[], s, rfl, hs, hB1, hB2, Lib.hid hA, Lib.hid h0⟩
  case round =>
    clear hB1 hB2 hA h0
    obtain ⟨pre, cur, hpre, hc, hB1, hB2, hA, hJs⟩ := hrel
    have u0 := hB2.c1
    have hcur : Hid (curOf B wr = cur) := by unfold Hid curOf; rw [u0]; rfl
    by_cases hneg : cur = -1
    · subst hneg
      gi_wp2
      go_end0
      have := hpre.out
      rw [Pow.line_neg m (s := -1) (by decide), List.append_nil] at this
      exact ⟨⟨_, rfl⟩, pre, this, hJs.out⟩
    · obtain ⟨c, rfl⟩ : ∃ c : Nat, cur = c := ⟨cur.toNat, by omega⟩
      have hcl : c < m.shafts.length := by omega
      have hline := Pow.line_cons m hu hcl
      have hmem : (c : Int) ∈ m.line s := by rw [← hpre.out, hline]; simp
      obtain ⟨b, o, rfl, s1, s2⟩ := hA.out c hcl
      have hup := hu c hcl
      have hlen : pre.length < (m.line s).length := by rw [← hpre.out, hline]; simp
      obtain ⟨fn, tmps, assign, body, hy, hR⟩ := hY pre ⟨c, hmem⟩ wr hJs.out hlen
      have hsh : m.shafts[c]?.getD default = m.sh c := rfl
      rw [hsh] at s1 s2
      have Hline := Lib.hid hline
      have HA := Lib.hid hA
      have hd : ((c : Int) != -1) = true := by simp
      unfold encO at hy
      clear s1 s2 hline hlen hneg hA
      gi_wp2
      refine hR.mono ?_
      rintro e W3 ⟨rfl, hJ3, hk3⟩
      have hB3 : Blk W3 B 38 #[.slice (some ⟨b, o, none⟩) m.shafts.length c1, v2] := hk3.2.1.trans hB1
      have hB4 : Blk W3 (B + 1) 3 #[.int .i64 (c : Int)] := hk3.2.2.trans hB2
      have hA3 := HA.out.out.low hA1 hk3.1
      obtain ⟨b', o', e', s1, s2⟩ := hA3 c hcl
      cases e'
      rw [hsh] at s1 s2
      clear u0
      have u0 := hB4.c1
      have f0 := hB4.frozen 0
      obtain ⟨k0, k1⟩ := hB3.c2
      generalize hux : (m.sh c).up = ux at *
      have Hux := Lib.hid hux
      clear hux s2 hB1 hB2
      gi_wp2
      go_roundw
      case rel =>
        refine ⟨pre ++ [⟨c, by rw [← hpre.out, Hline.out]; simp⟩], ux, ?_, by omega, hB3.far (by show B ≠ B + 1; omega) _, by simpa using hB4.set_ 0 (.int .i64 ux), Lib.hid (hA3.low (n1 := n1) hA1 fun k hk => Below.heap_setCell W3 ⟨B + 1, 0, none⟩ _ k (by show k ≠ B + 1; omega)), Lib.hid (hJT _ _ _ hJ3 ⟨_, rfl⟩)⟩
        unfold Hid
        rw [List.map_append, List.map_singleton, List.append_assoc, List.singleton_append]
        have h9 := hpre.out
        rw [Hline.out] at h9
        exact h9
      case measure =>
        have : curOf B (W3.setCell ⟨B + 1, 0, none⟩ (.int .i64 ux)) = ux := by
          have := (show Blk (W3.setCell ⟨B + 1, 0, none⟩ (.int .i64 ux)) (B + 1) 3 #[.int .i64 ux] by simpa using hB4.set_ 0 (.int .i64 ux)).c1
          unfold curOf; rw [this]; rfl
        rw [this, hcur.out]
        omega

theorem line_seq (F : Fence) (n0 : Nat) (hF : F.fn 72) (hro : F.round = none) (hn : 1 ≤ n0) (B n1 : Nat) (m : PM) (hu : Pow.UpOk m) (hB : n1 ≤ B) (A1 : Option Addr) (c1 : Nat) (v2 : Value) (hl : m.shafts.length ≤ maxLen) (s : Int) (hs : -1 ≤ s ∧ s < m.shafts.length)
    (w : World) (hB1 : Blk w B 38 #[.slice A1 m.shafts.length c1, v2]) (hB2 : Blk w (B + 1) 3 #[.int .i64 s]) (hA : ShsAt w A1 m.shafts) (hA1 : ∀ k, k < m.shafts.length → ∀ ad, A1 = some ad → ad.block < n1) :
    SeqT F n0 Try.prog 72 #[.pointer (some ⟨B + 1, 0, none⟩), .pointer (some ⟨B, 0, none⟩)] (encO m s) (KeepsLine n1 B) (TurnsLine B) (fun xs => xs.map (fun x : OnLine m s => x.1) = m.line s) (m.line s).length w :=
  fun l J W hW _ hJT hY h0 => line1_in F n0 hF hro hn l B n1 m hu hB A1 c1 v2 hl s hs J hJT hY W (Blk.ext hB1 hW) (Blk.ext hB2 hW) (hA.ext hW) hA1 h0

/-- a range over a line -/
theorem wp_line {g : Operand} {ps : Array Tmp} {assign body : Code} {Q : Exit → Act → World → Prop} {a : Act} {w : World} {B n1 : Nat} {m : PM} (hu : Pow.UpOk m) (hB : n1 ≤ B) {A1 : Option Addr} {c1 : Nat} {v2 : Value} (hl : m.shafts.length ≤ maxLen) {s : Int} (hs : -1 ≤ s ∧ s < m.shafts.length)
    (hB1 : Blk w B 38 #[.slice A1 m.shafts.length c1, v2]) (hB2 : Blk w (B + 1) 3 #[.int .i64 s]) (hA : ShsAt w A1 m.shafts) (hA1 : ∀ k, k < m.shafts.length → ∀ ad, A1 = some ad → ad.block < n1)
    (hg : a.eval g = .func (.func 72) #[] #[.pointer (some ⟨B + 1, 0, none⟩), .pointer (some ⟨B, 0, none⟩)]) (hps : ps.size = 1)
    (I : List (OnLine m s) → World → Prop) (hI : ∀ p W W', I p W → Loops w.heap.size W W' → I p W') (hIT : ∀ p W W', I p W → TurnsLine B W W' → I p W') (h0 : I [] w) (a₁ : OnLine m s → Act)
    (hassign : ∀ (l : Nat) (x : OnLine m s) (W : World) (K : Act → World → Prop), K (a₁ x) W →
      assign.wpIn (Fence.wide.inRound l) 3 Try.prog (Exit.then K (fun _ _ _ => False)) { tmps := (ps.zip (encO m s x)).foldl (fun t (p, v) => t.setIfInBounds p v) a.tmps, defers := [] } W)
    (hbody : ∀ (l : Nat) (pre : List (OnLine m s)) (x : OnLine m s) (W : World), I pre W → pre.length < (m.line s).length → body.wpIn (Fence.wide.inRound l) 3 Try.prog (ownPostG w.heap.size (KeepsLine n1 B) I (fun _ _ _ => False) (pre ++ [x]) W) (a₁ x) W)
    (hdone : ∀ (D : Nat) (xs : List (OnLine m s)) (W : World), w.heap.size ≤ D → xs.map (fun x : OnLine m s => x.1) = m.line s → I xs W → W.heap[D]? = some (.deferred (some [])) → Q .normal { a with defers := { target := .collected D, args := #[] } :: a.defers } W) :
    (Code.rangeFunc g ps assign body).wp Try.prog Q a w := by
  have hBlt := hB2.lt
  exact (wpIn_wide (n := 5)).1 (wpIn_rangeT (n := 5) (by rfl) (by omega) hg trivial (enters_of Try.func72 (by kernel_rfl) rfl)
    (line_seq Fence.wide 4 trivial (by rfl) (by omega) B n1 m hu hB A1 c1 v2 hl s hs w hB1 hB2 hA hA1) (Below.refl _ _) KeepsLine.t (KeepsLine.b (by omega) hBlt) (TurnsLine.w hBlt) (fun x => by rw [hps]; rfl) I
    (ownFrom_keep hI) hIT h0 a₁ hassign hbody (fun D xs W hD hxs hi hK => hdone D xs W hD hxs hi hK))
end Go.Proofs.Pet

namespace Go.Proofs.Pet
open Go
theorem wp_loop_ghost_u {P : Program} {Q : Exit → Act → World → Prop} {a : Act} {w : World} {c : Code} (I : (Nat → Value) → Nat → Act → World → Prop) (n₀ : Nat) (h₀ : I (fun k => a.tmps.getD k undef) n₀ a w)
    (round : ∀ u n a w, I u n a w → ∀ (J : Nat → Act → World → Prop) (K : Act → World → Prop), (∀ k a' w', I (fun j => a'.tmps.getD j undef) k a' w' → J k a' w') → (∀ a' w', Handed J n a' w' → K a' w') → c.wp P (Exit.then K Q) a w) : (Code.loop c).wp P Q a w :=
  wp_loop_ghost_k (fun n a w => ∃ u, I u n a w) n₀ ⟨_, h₀⟩ fun n a w ⟨u, h⟩ J K hJ hK => round u n a w h J K (fun k a' w' h' => hJ k a' w' ⟨_, h'⟩) hK
end Go.Proofs.Pet

namespace Go.Proofs.Pet
set_option linter.unusedSimpArgs false
open Go Go.RowKit Go.Maps Go.Shelf
open Go.Proofs.Pow (PM Sh Wv POk)
attribute [local go_sem] Oper.semAt_some

/-- what has been marked: the weavers before i, and those shafts of i's line that have come -/
def drvU (m : PM) (i : Nat) (l : List Int) (s k : Nat) : Bool := (decide (k < i) && m.drv s k) || (decide (k = i) && l.contains (s : Int))
theorem drvU_nil (m : PM) (s k : Nat) : drvU m 0 [] s k = false := by simp [drvU]
theorem drvU_next (m : PM) (i : Nat) (s k : Nat) : drvU m i (m.line (m.wv i).shaft) s k = drvU m (i + 1) [] s k := by
  unfold drvU PM.drv
  by_cases h : k = i
  · subst h; simp
  · have h1 : decide (k < i + 1) = decide (k < i) := by
      rw [decide_eq_decide]; omega
    simp [h, h1]
theorem drvU_snoc (m : PM) (i : Nat) (l : List Int) (c s k : Nat) : (if s = c ∧ k = i then true else drvU m i l s k) = drvU m i (l ++ [(c : Int)]) s k := by
  unfold drvU
  by_cases h : k = i
  · subst h
    by_cases h2 : s = c
    · subst h2; simp
    · have : ¬ ((s : Int) = (c : Int)) := by omega
      simp [h2, List.contains_eq_mem]
      intro h; omega
  · simp [h]
theorem drvU_all (m : PM) (s k : Nat) : drvU m m.wvs.length [] s k = drvC m s k := by
  unfold drvU drvC; simp

theorem Marks.above {W : World} {lo hi : Nat} {ds : List Deferred} {p : Addr} (h : Marks W lo hi ds) (hp : hi ≤ p.block) (v : Value) : Marks (W.setCell p v) lo hi ds := by
  obtain ⟨l, h1, h2, h3⟩ := h
  refine ⟨l, h1, h2, fun D hD => ⟨(h3 D hD).1, (h3 D hD).2.1, ?_⟩⟩
  exact (Below.heap_setCell W p v D fun e => by have := (h3 D hD).2.1; omega).trans (h3 D hD).2.2

set_option maxRecDepth 20000 in
theorem openedErrP (v : Value) (m : PM) (r : Int) (hr : checkP m = r) (h0 : r ≠ 0) (w : World) (hv : PMVal w v m) :
    Calls Try.prog 32 #[v] w fun e w' => e = .returned (.tuple #[.pointer none, .int .i64 r]) ∧ Ext w w' := by
  have Hv := Lib.hid hv
  obtain ⟨A1, c1, A2, c2, rfl, h2, h3, h4, h5, h6, h7⟩ := hv
  have hE := Ext.alloc w (.cells #[.slice A1 m.shafts.length c1, .slice A2 m.wvs.length c2] 38)
  have hM := Blk.new w 38 #[.slice A1 m.shafts.length c1, .slice A2 m.wvs.length c2]
  have f0 := hM.frozen 0
  obtain ⟨k0, k1⟩ := hM.c2
  have hck := pcheck_any _ m _ (Hv.out.ext hE)
  rw [hr] at hck
  have Hck := Lib.hid hck
  have hd : (r != 0) = true := by simpa using h0
  clear hck h6 h7 hM
  go_enter Try.func32, Try.ntmps32
  go_wp2_with fail
  refine Hck.out.mono ?_
  rintro e w' ⟨rfl, he⟩
  go_wp2_with fail
  go_ret2
  exact ⟨rfl, hE.trans he⟩


set_option maxRecDepth 20000 in
set_option maxHeartbeats 2000000 in
theorem opened_anyP (v : Value) (m : PM) (hr : checkP m = 0) (w : World) (hv : PMVal w v m) :
    Calls Try.prog 32 #[v] w fun e w' => ∃ D, e = .returned (.tuple #[.pointer (some ⟨D, 0, none⟩), .int .i64 0]) ∧ DeskAt w' D m ∧ w.heap.size ≤ D ∧ Ext w w' := by
  have hok := (checkP_iff m).1 hr
  have hok' := Lib.hid hok
  obtain ⟨⟨l1, l2⟩, l3, -, -, hup, hat, -⟩ := hok
  have Hv := Lib.hid hv
  obtain ⟨A1, c1, A2, c2, rfl, h2, h3, h4, h5, h6, h7⟩ := hv
  have hE := Ext.alloc w (.cells #[.slice A1 m.shafts.length c1, .slice A2 m.wvs.length c2] 38)
  have hM := Blk.new w 38 #[.slice A1 m.shafts.length c1, .slice A2 m.wvs.length c2]
  have f0 := hM.frozen 0
  obtain ⟨k0, k1⟩ := hM.c2
  have hck := pcheck_any _ m _ (Hv.out.ext hE)
  rw [hr] at hck
  have Hck := Lib.hid hck
  have HM := Lib.hid hM
  have H6 := Lib.hid h6; have H7 := Lib.hid h7; have Hup := Lib.hid hup; have Hat := Lib.hid hat
  clear hck h6 h7 hM hup hat
  refine (callsIn_wide (n := 5)).1 ?_
  refine callsIn_of_wp_marks Try.func32 rfl trivial ?_ rfl
  simp only [Try.ntmps32, List.size_toArray, List.length_nil, Nat.reduceSub, Array.replicate_succ, Array.replicate_zero, List.push_toArray, List.append_toArray, List.nil_append, List.cons_append, List.length_cons, Nat.reduceAdd]
  refine wpIn_wide.2 ?_
  go_wp2_with fail
  refine Hck.out.mono ?_
  rintro e w1 ⟨rfl, he1⟩
  have hM1 := HM.out.ext he1
  have hE1 := hE.trans he1
  have hMlt : w.heap.size < w1.heap.size := hM1.lt
  have f1 := hM1.frozen 0
  clear k0 k1 f0 hE he1 HM Hck
  obtain ⟨k0, k1⟩ := hM1.c2
  go_wp2_with fail
  have hlit : (#[.slice A1 m.shafts.length c1, .slice A2 m.wvs.length c2, .bool false, .bool false, .bool false, .bool false, .bool false, .bool false, .bool false, .bool false, .bool false, .bool false, .bool false, .bool false, .bool false, .bool false, .bool false, .bool false, .bool false, .bool false, .bool false, .bool false, .bool false, .bool false, .bool false, .bool false, .bool false, .bool false, .bool false, .bool false, .bool false, .bool false, .bool false, .bool false, .bool false, .bool false, .bool false, .bool false, .bool false, .bool false, .bool false, .bool false, .bool false, .bool false, .bool false, .bool false, .bool false, .bool false, .bool false, .bool false, .bool false, .bool false, .bool false, .bool false, .bool false, .bool false] : Array Value) = deskC (.slice A1 m.shafts.length c1) (.slice A2 m.wvs.length c2) (drvU m 0 []) := by
    rw [deskC_congr (g := fun _ _ => false) fun s k _ _ => drvU_nil m s k]
    rfl
  rw [hlit]
  have hD := (Blk.new w1 99 (deskC (.slice A1 m.shafts.length c1) (.slice A2 m.wvs.length c2) (drvU m 0 []))).alloc (.cells #[.pointer (some ⟨w1.heap.size, 0, none⟩)] 77)
  have hP := Blk.new (w1.alloc (.cells (deskC (.slice A1 m.shafts.length c1) (.slice A2 m.wvs.length c2) (drvU m 0 [])) 99)) 77 #[.pointer (some ⟨w1.heap.size, 0, none⟩)]
  have hE2 : Ext w1 ((w1.alloc (.cells (deskC (.slice A1 m.shafts.length c1) (.slice A2 m.wvs.length c2) (drvU m 0 [])) 99)).alloc (.cells #[.pointer (some ⟨w1.heap.size, 0, none⟩)] 77)) := (Ext.alloc _ _).trans (Ext.alloc _ _)
  rw [World.size_alloc] at hP
  clear hlit k0 k1 f1
  generalize (w1.alloc _).alloc _ = W2 at *
  generalize hDe : w1.heap.size = D at *
  have hlen2 : m.wvs.length ≤ maxLen := Nat.le_trans h4 h5
  have hlen1 : m.shafts.length ≤ maxLen := Nat.le_trans h2 h3
  unfold maxLen at hlen2
  refine wp_loop_ghost_u (fun u gn a W => ∃ (i : Nat) (ds : List Deferred), a = ⟨#[.agg #[.slice A1 m.shafts.length c1, .slice A2 m.wvs.length c2], .pointer (some ⟨w.heap.size, 0, none⟩), .pointer none, .int .i64 0, .int .i64 0, .pointer (some ⟨D + 1, 0, none⟩), u 6, u 7, u 8, u 9, u 10, u 11, u 12, u 13, u 14, u 15, u 16, u 17, .slice A2 m.wvs.length c2, .int .i64 (m.wvs.length : Int), u 20, u 21, u 22, u 23, u 24, u 25, u 26, u 27, u 28, u 29, u 30, u 31, u 32, u 33, u 34, u 35, u 36, u 37, u 38], ds⟩ ∧ gn = m.wvs.length - i ∧ u 20 = .int .i64 (i : Int) ∧ i ≤ m.wvs.length ∧ Ext w1 W ∧ Blk W D 99 (deskC (.slice A1 m.shafts.length c1) (.slice A2 m.wvs.length c2) (drvU m i [])) ∧ Blk W (D + 1) 77 #[.pointer (some ⟨D, 0, none⟩)] ∧ Marks W w.heap.size W.heap.size ds) (m.wvs.length) ⟨0, [], rfl, by omega, rfl, by omega, hE2, hD, hP, Marks.nil _ _ _⟩ ?_
  rintro uA gn a W ⟨i, ds, rfl, rfl, hu20, hi, he2, hD2, hP2, hm2⟩ JA KA hJA hKA
  rw [hu20]
  clear hE2 hD hP
  have hM2 := hM1.ext he2
  obtain ⟨k0, k1⟩ := hM2.c2
  have f0 := hM2.frozen 0
  have hszW := he2.size
  by_cases hlt : i < m.wvs.length
  · obtain ⟨b, o, rfl, A3, c3, h3', s1, s2, s3⟩ := H7.out.ext (hE1.trans he2) i hlt
    have hwv : m.wvs[i]?.getD default = m.wv i := rfl
    rw [hwv] at s1 s2 s3 h3'
    have hat := Hat.out i hlt
    obtain ⟨sf, hsf⟩ : ∃ sf, (m.wv i).shaft = sf := ⟨_, rfl⟩
    rw [hsf] at s1 hat
    obtain ⟨hl, hhl⟩ : ∃ hl, (m.wv i).hours.length = hl := ⟨_, rfl⟩
    rw [hhl] at s2
    have hX : Ext W ((W.alloc (.cells #[.int .i64 (i : Int)] 3)).alloc (.cells #[.int .i64 sf, .slice A3 hl c3] 43)) := (Ext.alloc _ _).trans (Ext.alloc _ _)
    have hK := (Blk.new W 3 #[.int .i64 (i : Int)]).alloc (.cells #[.int .i64 sf, .slice A3 hl c3] 43)
    have hV := Blk.new (W.alloc (.cells #[.int .i64 (i : Int)] 3)) 43 #[.int .i64 sf, .slice A3 hl c3]
    rw [World.size_alloc] at hV
    obtain ⟨v0, v1⟩ := hV.c2
    have hline := Lib.hid (pline_any A1 (some ⟨b, o, none⟩) m.shafts.length c1 m.wvs.length c2 sf)
    have S3 := Lib.hid s3; have Hhl := Lib.hid hhl
    have k0' := hX.cell k0
    have k1' := hX.cell k1
    clear s3 hhl hwv h3' k0 k1
    go_wp2_with fail
    refine (hline.out _).mono ?_
    rintro e W5 ⟨hv5, he5, hL1, hL2, hsz5⟩
    simp only [World.size_alloc] at hv5 hL1 hL2 hsz5
    subst hv5
    have hXW := hX.trans he5
    have heW := he2.trans hXW
    have hD5 := hD2.ext hXW
    have hP5 := hP2.ext hXW
    have hK5 := hK.ext he5
    have hV5 := hV.ext he5
    have hm5 := hm2.ext hXW
    have hA5 := H6.out.ext (hE1.trans heW)
    have hDlt : D + 1 < W.heap.size := hP2.lt
    clear hX hXW hD2 hP2 hK hV hm2 hM2 k0' k1' f0 v0 v1 he5 hszW
    generalize W.heap.size = L at *
    have hL5 : L + 2 + 1 < W5.heap.size := hL2.lt
    have hlow : ∀ k, k < m.shafts.length → ∀ ad, A1 = some ad → ad.block < D := fun k hk ad e => by
      have := H6.out.low_lt k hk ad e
      omega
    go_wp2_with fail
    apply wp_line (n1 := D) (B := L + 2) Hup.out (by omega) hlen1 (s := sf) (by omega) hL1 hL2 hA5 hlow rfl rfl
      (fun pre W => W5.heap.size ≤ W.heap.size ∧ Ext w1 W ∧ Blk W D 99 (deskC (.slice A1 m.shafts.length c1) (.slice (some ⟨b, o, none⟩) m.wvs.length c2) (drvU m i (pre.map fun y : OnLine m sf => y.1))) ∧ Blk W (D + 1) 77 #[.pointer (some ⟨D, 0, none⟩)] ∧ Blk W L 3 #[.int .i64 (i : Int)] ∧ Marks W w.heap.size L ds)
      (fun pre W W' ⟨h0, h1, h2, h3, h4, h5⟩ hl => ⟨Nat.le_trans h0 hl.size, h1.loops hl heW.size, h2.loops hl, h3.loops hl, h4.loops hl, h5.loops hl (by omega)⟩)
      (fun pre W W' ⟨h0, h1, h2, h3, h4, h5⟩ ht => ?hturn) ⟨Nat.le_refl _, heW, hD5, hP5, hK5, hm5⟩
    case hturn =>
      obtain ⟨v, rfl⟩ := ht
      have hlt2 : L + 2 + 1 < W5.heap.size := hL2.lt
      have hsP : D + 1 < L := hDlt
      exact ⟨by rw [World.size_setCell]; exact h0, Below.setCell h1 (by show _ ≤ L + 2 + 1; omega) _, h2.far (by show D ≠ L + 2 + 1; omega) _, h3.far (by show D + 1 ≠ L + 2 + 1; omega) _, h4.far (by show L ≠ L + 2 + 1; omega) _, h5.above (by show L ≤ L + 2 + 1; omega) _⟩
    case hassign =>
      intro l x W K hK
      simp only [encO]
      gi_wp2
      exact hK
    case hbody =>
      rintro l pre x W ⟨i0, i1, i2, i3, i4, i5⟩ -
      obtain ⟨xv, hxm⟩ := x
      have hxl := line_lt hok'.out hlt (hsf ▸ hxm)
      obtain ⟨c, rfl⟩ : ∃ c : Nat, xv = c := ⟨xv.toNat, by omega⟩
      have hc9 : c < 9 := by omega
      have hi6 : i < 6 := by omega
      have p0 := i3.c1
      have q0 := i4.c1
      gi_wp2_with fail
      refine wpIn_region_chain 7 [] [] (by kernel_rfl) (by kernel_rfl) (by kernel_rfl) ?_
      simp only [List.take, List.drop, fill, Act.put, List.setIfInBounds_toArray, List.set_cons_zero, List.set_cons_succ, Nat.reduceAdd]
      repeat (first
        | refine FloatsIn.mut rfl ?_
        | (apply FloatsIn.float rfl
           · intro x W he hd K Q hK
             try (have he := he (by decide); have p0 := he.cell p0; have q0 := he.cell q0)
             try simp only [edges, DepsE, List.filter_cons, List.filter_nil, Region.binds, if_true, and_true, true_and, upd, Nat.reduceEqDiff, if_false] at hd
             try simp only [hd] at hK ⊢
             have HK := Lib.hid hK; clear hK
             gi_wp2_with fail
             exact HK.out))
      refine FloatsIn.done fun W he hG => ?_
      refine ChainIn.nil ?_
      simp only [upd, Nat.reduceEqDiff, if_false, if_true]
      have hDW := i2.ext he
      have hcell : W.cell? ⟨D, 2 + c * 6 + i, none⟩ = some (.bool (drvU m i (pre.map fun y : OnLine m sf => y.1) c i)) := by rw [hDW.cell, deskC_cell _ _ _ hc9 hi6]
      have hfr := hDW.frozen (2 + c * 6 + i)
      gi_wp2_with fail
      have hszX := he.size
      have hsP : D + 1 < L := hDlt
      have hnh : ∀ j, j ≠ D → (W.setCell ⟨D, 2 + c * 6 + i, none⟩ (.bool true)).heap[j]? = W.heap[j]? := fun j hj => Below.heap_setCell W _ _ j hj
      refine ⟨(keepsFrom_ext he).trans ((KeepsOthers.setCell _ _ _).from _), ⟨fun k hk => (hnh k (by omega)).trans (Below.block he k (by omega)), (hnh (L + 2) (by omega)).trans (Below.block he _ (by omega)), (hnh (L + 2 + 1) (by omega)).trans (Below.block he _ (by omega))⟩, ?_, ?_, ?_, ?_, ?_, ?_⟩
      · rw [World.size_setCell]; omega
      · exact Below.setCell (i1.trans he) (by show _ ≤ D; omega) _
      · have h9 := hDW.set_ (2 + c * 6 + i) (.bool true)
        rw [deskC_set _ _ _ hc9 hi6] at h9
        rw [List.map_append, List.map_singleton]
        rw [deskC_congr fun s k _ _ => drvU_snoc m i _ c s k] at h9
        exact h9
      · exact (i3.ext he).far (by show _ ≠ D; omega) _
      · exact (i4.ext he).far (by show _ ≠ D; omega) _
      · exact (i5.ext he).set_ (p := ⟨D, 2 + c * 6 + i, none⟩) hDW _
    case hdone =>
      intro Dd xs W hDd hxs ⟨i0, i1, i2, i3, i4, i5⟩ hdef
      rw [hxs, ← hsf, deskC_congr fun s k _ _ => drvU_next m i s k] at i2
      have hp := i5.push (by have := hE1.size; have := heW.size; omega) (by omega) hdef
      have hDlt := (Array.getElem?_eq_some_iff.1 hdef).1
      clear hdef i5 i4
      go_wp2_with fail
      refine Handed.intro (m.wvs.length - (i + 1)) (by omega) (hJA _ _ _ ⟨i + 1, _, rfl, rfl, by show Value.int .i64 _ = _; go_num, by omega, i1, i2, i3, hp.mono (by omega)⟩)
  · obtain rfl : i = m.wvs.length := by omega
    rw [deskC_congr fun s k _ _ => drvU_all m s k] at hD2
    have p0 := hP2.c1
    go_wp2_with fail
    refine leaves_marks' ds W hm2 (fun W' => results_tmp2 rfl _ _ _) (fun W' hq => ⟨D, rfl, ⟨A1, c1, A2, c2, hq.blk hD2, h2, h3, h4, h5, H6.out.ext (hq.ext (hE1.trans he2) (Nat.le_refl _)), H7.out.ext (hq.ext (hE1.trans he2) (Nat.le_refl _))⟩, by omega, hq.ext (hE1.trans he2) (Nat.le_refl _)⟩)
end Go.Proofs.Pet

namespace Go.Proofs.Pet
open Go Go.RowKit Go.Maps Go.Shelf
open Go.Proofs.Pow (PM Sh Wv POk)

theorem allI_len (k : Nat) : (Pow.allI k).length = k := by simp [Pow.allI]
end Go.Proofs.Pet

namespace Go.Proofs.Pet
open Go Go.RowKit Go.Maps Go.WideMaps
open Go.Proofs.Pow (PM Sh Wv)

theorem spotRow : (104 : TypeId) < Try.prog.types.size := of_decide_eq_true (by kernel_rfl)
theorem spotLaw : KeyLaw Try.prog 104 := deep_law_laid laidOut_ (m := 2) (by omega) spotRow (by kernel_rfl) (by rw [Try.underlying104])
theorem spotKeyed : Keyed Try.prog 104 := Keyed.of_law spotLaw
def spotKey (s h : Nat) : Lit := .string (keyBytes [.int .i64 (s : Int), .int .i64 (h : Int)])
theorem keyOf_spot {s h : Nat} (hs : s ≤ 1048576) (hh : h ≤ 1048576) : keyOf Try.prog 104 (.agg #[.int .i64 (s : Int), .int .i64 (h : Int)]) = some (spotKey s h) := by
  have wa := WalkArith.wf_i64 (n := (s : Int)) (by omega)
  have wb := WalkArith.wf_i64 (n := (h : Int)) (by omega)
  have hc : Try.prog.cellsOf 104 = 2 := by kernel_rfl
  have hci : Try.prog.cellsOf 3 = 1 := by kernel_rfl
  have hkt : Try.prog.keyType 104 = true := by kernel_rfl
  have hpos : 0 < Try.prog.types.size := Nat.lt_of_le_of_lt (Nat.zero_le _) spotRow
  obtain ⟨m, hm⟩ := Nat.exists_eq_add_of_lt hpos
  unfold keyOf
  simp only [Try.underlying104]
  rw [if_pos (by simp [hkt, Value.formed, Try.underlying104, hc]), hm]
  unfold Program.keyLits
  simp [Try.underlying104, Value.cells, hc, hci, Program.keyLits, Try.underlying3, wa, wb, spotKey]
theorem spotKey_inj {s h s' h' : Nat} (hs : s ≤ 1048576) (hh : h ≤ 1048576) (hs' : s' ≤ 1048576) (hh' : h' ≤ 1048576) (e : spotKey s h = spotKey s' h') : s = s' ∧ h = h' := by
  have h1 := keyOf_spot hs hh
  rw [e] at h1
  have h2 := spotKeyed.inj h1 (keyOf_spot hs' hh')
  simp at h2
  omega
theorem zero_boolP (w : World) : (zeroValue 4).run Try.prog w = .ok (.bool false) w := by kernel_rfl
def MarkMap (w : World) (M cnt : Nat) (f : Nat → Nat → Bool) : Prop :=
  ∃ D : DataW Unit, w.ownsMap Try.prog 104 (plainElem Try.prog 4) M cnt D ∧ ∀ s h : Nat, s ≤ 1048576 → h ≤ 1048576 → D.atKey (spotKey s h) (.lit (.bool false)) = .lit (.bool (f s h))
theorem plainElem_bool_invP {P : Program} {e : TypeId} (he : P.underlying e = some .bool) {v : Value} {z : DataW Unit × List MemPlace} (h : plainElem P e v = some z) : ∃ a, v = .bool a ∧ z = (.lit (.bool a), []) := by
  unfold plainElem at h
  rw [he] at h
  cases v <;> simp at h
  exact ⟨_, rfl, h.symm⟩
theorem blit_injP {a b : Bool} (h : (DataW.lit (.bool a) : DataW Unit) = .lit (.bool b)) : a = b := by
  injection h with h
  injection h
theorem MarkMap.made (w : World) : MarkMap (w.alloc (.map #[] 0)) w.heap.size 0 (fun _ _ => false) := ⟨.map [], World.ownsMap_made w _ _ _, fun s h _ _ => by rfl⟩
theorem MarkMap.ext {w w' : World} {M cnt : Nat} {f : Nat → Nat → Bool} (h : MarkMap w M cnt f) (he : Ext w w') : MarkMap w' M cnt f := by
  obtain ⟨D, h1, h2⟩ := h
  exact ⟨D, h1.kept ⟨he.os, he.tape, he.output, he.size, fun k hk _ => Below.block he k hk⟩ (by simp : some M ≠ none), h2⟩
theorem MarkMap.look {w : World} {M cnt : Nat} {f : Nat → Nat → Bool} (h : MarkMap w M cnt f) (s t : Nat) (hs : s ≤ 1048576) (ht : t ≤ 1048576) :
    (Instr.lookup 94 (.map (some M)) (.agg #[.int .i64 (s : Int), .int .i64 (t : Int)]) false).run Try.prog w = .ok (.bool (f s t)) w := by
  obtain ⟨D, h1, h2⟩ := h
  obtain ⟨v, ps, hr, hv⟩ := h1.lookup spotKeyed Try.underlying94 (zero_boolP w) (plainElem_bool Try.underlying4 false) (keyOf_spot hs ht)
  obtain ⟨a, rfl, e⟩ := plainElem_bool_invP Try.underlying4 hv
  simp only [Prod.mk.injEq] at e
  have hq := (h2 s t hs ht).symm.trans e.1
  rw [hr, blit_injP hq]
theorem MarkMap.store {w : World} {M cnt : Nat} {f : Nat → Nat → Bool} (h : MarkMap w M cnt f) (s t : Nat) (hs : s ≤ 1048576) (ht : t ≤ 1048576) (hc : cnt ≤ 1048576) (v : Bool) :
    ∃ w', (Instr.mapUpdate 94 (.map (some M)) (.agg #[.int .i64 (s : Int), .int .i64 (t : Int)]) (.bool v)).run Try.prog w = .ok () w' ∧ MarkMap w' M (cnt + 1) (fun x y => if x = s ∧ y = t then v else f x y) ∧ w.grownBy w' (some M) := by
  obtain ⟨D, h1, h2⟩ := h
  have hD : IsMap D := by obtain ⟨es, clock, hb, F, hs, rfl⟩ := h1; exact ⟨_, rfl⟩
  obtain ⟨w', hr, ho, hg⟩ := h1.update spotKeyed Try.underlying94 (by unfold maxLen; omega) (keyOf_spot hs ht) (plainElem_bool Try.underlying4 v)
  refine ⟨w', hr, ⟨_, ho, fun x y hx hy => ?_⟩, hg⟩
  by_cases e : x = s ∧ y = t
  · obtain ⟨rfl, rfl⟩ := e
    rw [atKey_put_same hD (by simp [spotKey, WideAt.IsKeyLit])]
    simp
  · rw [atKey_put_other (fun e' => e (spotKey_inj hx hy hs ht e')), h2 x y hx hy]
    show _ = DataW.lit (.bool (if x = s ∧ y = t then v else f x y))
    rw [if_neg e]
end Go.Proofs.Pet

namespace Go.Proofs.Pet
set_option linter.unusedSimpArgs false
open Go Go.RowKit Go.Maps Go.Shelf
open Go.Proofs.Pow (PM Sh Wv POk)
attribute [local go_sem] Oper.semAt_some

theorem MarkMap.lt {w : World} {M cnt : Nat} {f : Nat → Nat → Bool} (h : MarkMap w M cnt f) : M < w.heap.size := by
  obtain ⟨D, h1, _⟩ := h
  exact h1.lt
theorem MarkMap.same {w w' : World} {M cnt : Nat} {f : Nat → Nat → Bool} (h : MarkMap w M cnt f) (hs : w'.heap[M]? = w.heap[M]?) : MarkMap w' M cnt f := by
  obtain ⟨D, ⟨es, clock, hb, F, hs', hD⟩, h2⟩ := h
  exact ⟨D, ⟨es, clock, hs.trans hb, F, hs', hD⟩, h2⟩
theorem MarkMap.congr {w : World} {M cnt cnt' : Nat} {f g : Nat → Nat → Bool} (h : MarkMap w M cnt f) (hc : cnt = cnt') (hfg : f = g) : MarkMap w M cnt' g := by subst hc; subst hfg; exact h
theorem line_len {m : PM} (hu : Pow.UpOk m) : ∀ s : Nat, s < m.shafts.length → (m.line s).length ≤ s + 1 := by
  intro s
  induction s using Nat.strongRecOn with
  | _ s ih =>
    intro hs
    rw [Pow.line_cons m hu hs, List.length_cons]
    have h := hu s hs
    rcases Int.lt_or_le (m.sh s).up 0 with h0 | h0
    · rw [Pow.line_neg m h0]; simp
    · obtain ⟨u, hu'⟩ : ∃ u : Nat, (m.sh s).up = u := ⟨_, (Int.toNat_of_nonneg h0).symm⟩
      rw [hu'] at h ⊢
      have := ih u (by omega) (by omega)
      omega
theorem hours_len {l : List Int} (hr : l.Pairwise (· < ·)) (hb : ∀ h, h ∈ l → 0 ≤ h ∧ h ≤ 23) : l.length ≤ 24 := by
  have hn : l.Nodup := hr.imp fun h => by omega
  have := Pow.nodup_le (r := (List.range 24).map fun i : Nat => (i : Int)) hn fun x hx => by
    have := hb x hx
    exact List.mem_map.2 ⟨x.toNat, List.mem_range.2 (by omega), by omega⟩
  simpa using this
theorem take_snoc {l : List Int} {k : Nat} (hk : k < l.length) {x : Int} (e : l[k]?.getD 0 = x) : l.take (k + 1) = l.take k ++ [x] := by
  rw [List.take_add_one, List.getElem?_eq_getElem hk]
  rw [List.getElem?_eq_getElem hk] at e
  simp only [Option.getD_some] at e
  rw [e]; rfl

set_option maxRecDepth 20000 in
set_option maxHeartbeats 2000000 in
theorem cost_anyP (D : Nat) (m : PM) (hm : POk m) (A : Option Addr) (c n : Nat) (g : List Int) (hn : g.length = n) (hg : Pow.InG m g) (hl : n ≤ 100) (r : Int) (hr : Pow.costF m (fun k => g.contains (k : Int)) = r) (w : World) (hD : DeskAt w D m) (hA : IntsAt w A g) :
    Calls Try.prog 23 #[.pointer (some ⟨D, 0, none⟩), .slice A n c] w fun e w' => e = .returned (.int .i64 r) ∧ Ext w w' := by
  subst hn
  have Hr : Hid (Pow.sumM m (Pow.mkG m g) = r) := by unfold Hid; rw [Pow.cost_mkG hg, hr]
  clear hr
  have Hm := Lib.hid hm
  obtain ⟨⟨l1, l2⟩, l3, -, hho, hup, hat, hri⟩ := hm
  have HD := Lib.hid hD
  obtain ⟨A1, c1, A2, c2, d0, d1, hv, hS, hW⟩ := hD.slices
  have HS := Lib.hid hS; have HW := Lib.hid hW; have Hup := Lib.hid hup; have Hat := Lib.hid hat; have HA := Lib.hid hA; have Hg := Lib.hid hg; have Hho := Lib.hid hho; have Hri := Lib.hid hri
  have hDlt := hD.lt
  clear hv hS hW hup hat hA hD hho hri
  refine (callsIn_wide (n := 5)).1 ?_
  refine callsIn_of_wp_marks Try.func23 rfl trivial ?_ rfl
  simp only [Try.ntmps23, List.size_toArray, List.length_nil, Nat.reduceSub, Array.replicate_succ, Array.replicate_zero, List.push_toArray, List.append_toArray, List.nil_append, List.cons_append, List.length_cons, Nat.reduceAdd]
  refine wpIn_wide.2 ?_
  have hmm := @run_makeMap Try.prog
  go_wp2_with fail
  have D0 := Lib.hid d0; have D1 := Lib.hid d1
  clear hmm d0 d1
  obtain ⟨L0, hL0⟩ : ∃ L0, w.heap.size = L0 := ⟨_, rfl⟩
  have hX : Ext w ((((w.alloc (.cells #[.pointer (some ⟨D, 0, none⟩)] 77)).alloc (.cells #[.int .i64 0] 3)).alloc (.map #[] 0)).alloc (.cells #[.map (some (L0 + 2))] 94)) := (((Ext.alloc _ _).trans (Ext.alloc _ _)).trans (Ext.alloc _ _)).trans (Ext.alloc _ _)
  have b0 := (((Blk.new w 77 #[.pointer (some ⟨D, 0, none⟩)]).alloc (.cells #[.int .i64 0] 3)).alloc (.map #[] 0)).alloc (.cells #[.map (some (L0 + 2))] 94)
  have b1 := ((Blk.new (w.alloc (.cells #[.pointer (some ⟨D, 0, none⟩)] 77)) 3 #[.int .i64 0]).alloc (.map #[] 0)).alloc (.cells #[.map (some (L0 + 2))] 94)
  have b2 := (MarkMap.made ((w.alloc (.cells #[.pointer (some ⟨D, 0, none⟩)] 77)).alloc (.cells #[.int .i64 0] 3))).ext (Ext.alloc _ (.cells #[.map (some (L0 + 2))] 94))
  have b3 := Blk.new (((w.alloc (.cells #[.pointer (some ⟨D, 0, none⟩)] 77)).alloc (.cells #[.int .i64 0] 3)).alloc (.map #[] 0)) 94 #[.map (some (L0 + 2))]
  simp only [World.size_alloc, hL0] at b0 b1 b2 b3 ⊢
  generalize (((w.alloc _).alloc _).alloc _).alloc _ = W2 at *
  refine wp_loop_ghost_u (fun u gn a W => ∃ (i cnt : Nat) (ds : List Deferred), a = ⟨#[.pointer (some ⟨D, 0, none⟩), .slice A g.length c, .pointer (some ⟨L0, 0, none⟩), u 3, .int .i64 0, .pointer (some ⟨L0 + 1, 0, none⟩), .pointer (some ⟨L0 + 1 + 1 + 1, 0, none⟩), u 7, u 8, u 9, u 10, u 11, u 12, u 13, .slice A g.length c, .int .i64 (g.length : Int), u 16, u 17, u 18, u 19, u 20, u 21, u 22, u 23, u 24, u 25, u 26, u 27, u 28, u 29, u 30, u 31, u 32, u 33, u 34, u 35, u 36, u 37, u 38, u 39, u 40, u 41, u 42, u 43, u 44, u 45, u 46, u 47, u 48, u 49, u 50, u 51, u 52, u 53, u 54, u 55, u 56, u 57, u 58, u 59, u 60, u 61, u 62, u 63, u 64, u 65, u 66, u 67, u 68, u 69, u 70, u 71], ds⟩ ∧ gn = g.length - i ∧ u 16 = .int .i64 (i : Int) ∧ i ≤ g.length ∧ cnt ≤ i * 216 ∧ Ext w W ∧ Blk W L0 77 #[.pointer (some ⟨D, 0, none⟩)] ∧ Blk W (L0 + 1) 3 #[.int .i64 (Pow.sumM m (Pow.mkG m (g.take i)))] ∧ MarkMap W (L0 + 2) cnt (Pow.mkG m (g.take i)) ∧ Blk W (L0 + 3) 94 #[.map (some (L0 + 2))] ∧ Marks W L0 W.heap.size ds) (g.length) ⟨0, 0, [], rfl, by omega, rfl, by omega, by omega, hX, b0, by rw [List.take_zero, Pow.mkG_nil, Pow.sumM_none]; exact b1, b2.congr rfl (by rw [List.take_zero, Pow.mkG_nil]), b3, Marks.nil _ _ _⟩ ?_
  rintro uA gn a W ⟨i, cnt, ds, rfl, rfl, hu16, hi, hcnt, heA, a0, a1, a2, a3, hmk⟩ JA KA hJA hKA
  rw [hu16]
  clear hX b0 b1 b2 b3
  by_cases hlt : i < g.length
  · obtain ⟨b, o, rfl, q1⟩ := HA.out.ext heA i hlt
    have hgk := Hg.out (g[i]?.getD 0) (by simp [hlt])
    obtain ⟨kk, hkk⟩ : ∃ kk : Nat, g[i]?.getD 0 = kk := ⟨_, (Int.toNat_of_nonneg hgk.1).symm⟩
    have Htk := Lib.hid (take_snoc hlt hkk)
    rw [hkk] at q1 hgk
    clear hkk
    have hkl : kk < m.wvs.length := by omega
    have hlt5 : kk ≤ maxLen := by unfold maxLen; omega
    unfold maxLen at hlt5
    have d1 := heA.cell D1.out
    have d0 := heA.cell D0.out
    obtain ⟨b2, o2, rfl, A3, c3, h3, j1, j2, j3⟩ := HW.out kk hkl
    have hwv : m.wvs[kk]?.getD default = m.wv kk := rfl
    rw [hwv] at h3 j1 j2 j3
    have hat := Hat.out kk hkl
    have Hho2 := Lib.hid (Hho.out kk hkl)
    have hhl := hours_len (Hri.out kk hkl) (Hho.out kk hkl)
    have hlen9 : (m.line (m.wv kk).shaft).length ≤ 9 := by
      obtain ⟨z, hz⟩ : ∃ z : Nat, (m.wv kk).shaft = z := ⟨_, (Int.toNat_of_nonneg hat.1).symm⟩
      rw [hz] at hat ⊢
      have := line_len Hup.out z (by omega)
      omega
    obtain ⟨wv, hwve⟩ : ∃ wv, m.wv kk = wv := ⟨_, rfl⟩
    rw [hwve] at h3 j1 j2 j3 hat Hho2 hhl hlen9
    have Hwv := Lib.hid hwve
    have J1 := Lib.hid j1; have J3 := Lib.hid j3
    replace j2 := heA.cell j2
    clear hwv hwve j1 j3
    obtain ⟨hn, hhn⟩ : ∃ hn, wv.hours.length = hn := ⟨_, rfl⟩
    rw [hhn] at j2 hhl h3
    have e0 := a0.c1
    have hLW : L0 + 3 < W.heap.size := a3.lt
    go_wp2_with fail
    clear e0 d0 d1 j2 q1
    have hs0 : Pow.mk3 m (g.take i) (kk : Int) (wv.hours.take 0) 0 [] = Pow.mkG m (g.take i) := by rw [List.take_zero]; exact Pow.mk3_start m _ _
    refine wp_loop_ghost_u (fun u gn a W2 => ∃ (j cnt : Nat) (ds : List Deferred), a = ⟨#[.pointer (some ⟨D, 0, none⟩), .slice (some ⟨b, o, none⟩) g.length c, .pointer (some ⟨L0, 0, none⟩), u 3, .int .i64 0, .pointer (some ⟨L0 + 1, 0, none⟩), .pointer (some ⟨L0 + 1 + 1 + 1, 0, none⟩), u 7, .int .i64 (kk : Int), u 9, u 10, u 11, u 12, u 13, .slice (some ⟨b, o, none⟩) g.length c, .int .i64 (g.length : Int), .int .i64 (i : Int), u 17, u 18, u 19, u 20, u 21, u 22, u 23, u 24, u 25, u 26, u 27, .slice A3 hn c3, .int .i64 (hn : Int), u 30, u 31, u 32, u 33, u 34, u 35, u 36, u 37, u 38, u 39, u 40, u 41, u 42, u 43, u 44, u 45, u 46, u 47, u 48, u 49, u 50, u 51, u 52, u 53, u 54, u 55, u 56, u 57, u 58, u 59, u 60, u 61, u 62, u 63, u 64, u 65, u 66, u 67, u 68, u 69, u 70, u 71], ds⟩ ∧ gn = hn - j ∧ u 30 = .int .i64 (j : Int) ∧ j ≤ hn ∧ cnt ≤ i * 216 + j * 9 ∧ Ext w W2 ∧ Blk W2 L0 77 #[.pointer (some ⟨D, 0, none⟩)] ∧ Blk W2 (L0 + 1) 3 #[.int .i64 (Pow.sumM m (Pow.mk3 m (g.take i) (kk : Int) (wv.hours.take j) 0 []))] ∧ MarkMap W2 (L0 + 2) cnt (Pow.mk3 m (g.take i) (kk : Int) (wv.hours.take j) 0 []) ∧ Blk W2 (L0 + 3) 94 #[.map (some (L0 + 2))] ∧ Marks W2 L0 W2.heap.size ds) (hn) ⟨0, cnt, ds, rfl, by omega, rfl, by omega, by omega, heA, a0, by rw [hs0]; exact a1, a2.congr rfl hs0.symm, a3, hmk⟩ ?_
    rintro uB gn a W2 ⟨j, cnt, ds, rfl, rfl, hu30, hj, hcnt2, heB, b0, b1, bM, b3, hmkB⟩ JB KB hJB hKB
    rw [hu30]
    clear hs0 heA a0 a1 a2 a3 hmk hLW
    have hLW : L0 + 3 < W2.heap.size := b3.lt
    by_cases hltj : j < hn
    · obtain ⟨b4, o4, rfl, q1⟩ := J3.out.ext heB j (by omega)
      have hhj := Hho2.out (wv.hours[j]?.getD 0) (by rw [List.getElem?_eq_getElem (by omega)]; exact List.getElem_mem _)
      obtain ⟨hh, hhh⟩ : ∃ hh : Nat, wv.hours[j]?.getD 0 = hh := ⟨_, (Int.toNat_of_nonneg hhj.1).symm⟩
      have Htj := Lib.hid (take_snoc (by omega) hhh)
      rw [hhh] at q1 hhj
      clear hhh
      have hX := Ext.alloc W2 (.cells #[.int .i64 (hh : Int)] 3)
      have hHB := Blk.new W2 3 #[.int .i64 (hh : Int)]
      have f0 := heB.cell D0.out
      go_upto_region 9 with fail
      clear q1 f0
      have heX := heB.trans hX
      have e0 := (b0.ext hX).c1
      have d0 := heX.cell D0.out
      have d1 := heX.cell D1.out
      have j1 := heX.cell J1.out
      have hX0 := b0.ext hX
      have hX1 := b1.ext hX
      have hXM := bM.ext hX
      have hX3 := b3.ext hX
      have hXK := hmkB.ext hX
      have hszX : (W2.alloc (.cells #[.int .i64 (hh : Int)] 3)).heap.size = W2.heap.size + 1 := World.size_alloc ..
      clear hX heB b0 b1 bM b3 hmkB
      generalize W2.alloc _ = W3 at *
      generalize W2.heap.size = L at *
      refine wp_region_chain 13 [] [] (by kernel_rfl) (by kernel_rfl) (by kernel_rfl) ?_
      simp only [List.take, List.drop, fill, Act.put, List.setIfInBounds_toArray, List.set_cons_zero, List.set_cons_succ, Nat.reduceAdd]
      repeat (first
        | refine Floats.mut rfl ?_
        | (apply Floats.float rfl
           · intro x W he hd K Q hK
             try (have he := he (by decide); have e0 := he.cell e0; have d0 := he.cell d0; have d1 := he.cell d1; have j1 := he.cell j1)
             try simp only [edges, DepsE, List.filter_cons, List.filter_nil, Region.binds, if_true, and_true, true_and, upd, Nat.reduceEqDiff, if_false] at hd
             try simp only [hd] at hK ⊢
             have HK := Lib.hid hK; clear hK
             go_wp2_with fail
             exact HK.out))
      refine Floats.done fun W he hG => ?_
      refine Chain.nil ?_
      simp only [upd, Nat.reduceEqDiff, if_false, if_true]
      have heY := heX.trans he
      have hline := Lib.hid (pline_any A1 (some ⟨b2, o2, none⟩) m.shafts.length c1 m.wvs.length c2 wv.shaft W)
      have hszY := he.size
      go_wp2_with fail
      refine hline.out.mono ?_
      rintro e W5 ⟨hv5, he5, hL1, hL2, hsz5⟩
      subst hv5
      replace hX0 := hX0.ext (he.trans he5)
      replace hX1 := hX1.ext (he.trans he5)
      replace hXM := hXM.ext (he.trans he5)
      replace hX3 := hX3.ext (he.trans he5)
      replace hXK := hXK.ext (he.trans he5)
      replace hHB := hHB.ext (he.trans he5)
      replace heY := heY.trans he5
      clear hline he he5 e0 d0 d1 j1 heX hG
      obtain ⟨Bk, hBk⟩ : ∃ Bk, W.heap.size = Bk := ⟨_, rfl⟩
      rw [hBk] at hL1 hL2 hsz5 hszY ⊢
      clear hBk
      have hlen1 : m.shafts.length ≤ maxLen := by unfold maxLen; omega
      have hlow : ∀ k, k < m.shafts.length → ∀ ad, A1 = some ad → ad.block < L0 := fun k hk ad e => by
        have := HS.out.low_lt k hk ad e
        omega
      have hgk2 : Hid (Pow.mk3 m (g.take i) (kk : Int) (wv.hours.take j) 0 [] = Pow.mk3 m (g.take i) (kk : Int) (wv.hours.take j) (hh : Int) []) := Pow.mk3_cur m _ _ _ _ _
      rw [hgk2.out] at hX1 hXM
      go_wp2_with fail
      apply wp_line (n1 := L0) (B := Bk) Hup.out (by omega) hlen1 (s := wv.shaft) (by omega) hL1 hL2 (HS.out.ext heY) hlow rfl rfl
        (fun pre W => ∃ cnt', cnt' ≤ cnt + pre.length ∧ W5.heap.size ≤ W.heap.size ∧ Ext w W ∧ Blk W L0 77 #[.pointer (some ⟨D, 0, none⟩)] ∧ Blk W (L0 + 1) 3 #[.int .i64 (Pow.sumM m (Pow.mk3 m (g.take i) (kk : Int) (wv.hours.take j) (hh : Int) (pre.map fun y : OnLine m wv.shaft => y.1)))] ∧
          MarkMap W (L0 + 2) cnt' (Pow.mk3 m (g.take i) (kk : Int) (wv.hours.take j) (hh : Int) (pre.map fun y : OnLine m wv.shaft => y.1)) ∧ Blk W (L0 + 3) 94 #[.map (some (L0 + 2))] ∧ Blk W L 3 #[.int .i64 (hh : Int)] ∧ Marks W L0 L ds)
        (fun pre W W' ⟨ct, h0, h1, h2, h3, h4, h5, h6, h7, h8⟩ hl => ⟨ct, h0, Nat.le_trans h1 hl.size, h2.loops hl (by omega), h3.loops hl, h4.loops hl, h5.same (hl.low _ (by omega) h5.lt), h6.loops hl, h7.loops hl, h8.loops hl (by omega)⟩)
        (fun pre W W' ⟨ct, h0, h1, h2, h3, h4, h5, h6, h7, h8⟩ ht => ?hturn) ⟨cnt, Nat.le_refl _, Nat.le_refl _, heY, hX0, hX1, hXM, hX3, hHB, hXK⟩
      case hturn =>
        obtain ⟨v, rfl⟩ := ht
        exact ⟨ct, h0, by rw [World.size_setCell]; exact h1, Below.setCell h2 (by show _ ≤ Bk + 1; omega) _, h3.far (by show L0 ≠ Bk + 1; omega) _, h4.far (by show L0 + 1 ≠ Bk + 1; omega) _, h5.same (Below.heap_setCell _ _ _ _ (by show L0 + 2 ≠ Bk + 1; omega)), h6.far (by show L0 + 3 ≠ Bk + 1; omega) _, h7.far (by show L ≠ Bk + 1; omega) _, h8.above (by show L ≤ Bk + 1; omega) _⟩
      case hassign =>
        intro l x W K hK
        simp only [encO]
        gi_wp2
        exact hK
      case hbody =>
        rintro l pre x Wr ⟨ct, hct, i1, i2, i3, i4, iM, i6, i7, i8⟩ hpl
        obtain ⟨xv, hxm⟩ := x
        have hxl := line_lt Hm.out hkl (x := xv) (by rw [Hwv.out]; exact hxm)
        obtain ⟨cc, rfl⟩ : ∃ cc : Nat, xv = cc := ⟨xv.toNat, by omega⟩
        obtain ⟨b6, o6, hA6, s1, s2⟩ := HS.out.ext i2 cc (by omega)
        have hb6 : b6 < L0 := hlow cc (by omega) _ hA6
        subst hA6
        have hsh : m.shafts[cc]?.getD default = m.sh cc := rfl
        rw [hsh] at s1 s2
        have hpr := Hm.out.price cc (by omega)
        have hct2 : ct ≤ 1048576 := by omega
        have hXs := Ext.alloc Wr (.cells #[.int .i64 (cc : Int), .int .i64 (hh : Int)] 104)
        have hsp := Blk.new Wr 104 #[.int .i64 (cc : Int), .int .i64 (hh : Int)]
        obtain ⟨p0, p1⟩ := hsp.c2
        have hMs := iM.ext hXs
        have hlook := hMs.look cc hh (by omega) (by omega)
        obtain ⟨ls, hls⟩ : ∃ ls, pre.map (fun y : OnLine m wv.shaft => y.1) = ls := ⟨_, rfl⟩
        have Hlsx : Hid ((pre ++ [(⟨(cc : Int), hxm⟩ : OnLine m wv.shaft)]).map (fun y : OnLine m wv.shaft => y.1) = ls ++ [(cc : Int)]) := by
          unfold Hid; rw [List.map_append, List.map_singleton, hls]
        have Hlsu : Hid ((pre ++ [(⟨(cc : Int), hxm⟩ : OnLine m wv.shaft)]).unattach = ls ++ [(cc : Int)]) := Hlsx
        rw [hls] at i4 hMs hlook
        clear hls
        have hsb := Pow.sumM_bounds Hm.out (Pow.mk3 m (g.take i) (kk : Int) (wv.hours.take j) (hh : Int) ls)
        have e3 := (i3.ext hXs).c1
        have e6 := (i6.ext hXs).c1
        have e7 := i7.c1
        have i4X := i4.ext hXs
        have hPL : Wr.heap.size = Wr.heap.size := rfl
        have hlkL : Bk + 1 < W5.heap.size := hL2.lt
        obtain ⟨q, hq⟩ : ∃ q, Pow.mk3 m (g.take i) (kk : Int) (wv.hours.take j) (hh : Int) ls cc hh = q := ⟨_, rfl⟩
        rw [hq] at hlook
        cases q with
        | true =>
          have hold := Lib.hid (Pow.mk3_old hq)
          clear hq
          gi_wp2_with fail
          refine ⟨keepsFrom_ext hXs, ⟨fun k hk => Below.block hXs k (by omega), Below.block hXs _ (by omega), Below.block hXs _ (by omega)⟩, ct, by rw [List.length_append]; omega, ?_, i2.trans hXs, i3.ext hXs, ?_, ?_, i6.ext hXs, i7.ext hXs, i8.ext hXs⟩
          · rw [World.size_alloc]; omega
          · rw [Hlsu.out, hold.out]; exact i4X
          · rw [Hlsu.out, hold.out]; exact hMs
        | false =>
          have hnew := Lib.hid (Pow.sum_new (show cc < m.shafts.length by omega) (show hh < 24 by omega) hq)
          have hsb2 := Pow.sumM_bounds Hm.out (Pow.mk3 m (g.take i) (kk : Int) (wv.hours.take j) (hh : Int) (ls ++ [(cc : Int)]))
          have hfn : Hid ((fun x y => if x = cc ∧ y = hh then true else Pow.mk3 m (g.take i) (kk : Int) (wv.hours.take j) (hh : Int) ls x y) = Pow.mk3 m (g.take i) (kk : Int) (wv.hours.take j) (hh : Int) (ls ++ [(cc : Int)])) := by
            unfold Hid
            funext x y
            rw [Pow.mk3_new]
            by_cases e : x = cc ∧ y = hh
            · rw [if_pos e]; simp [e.1, e.2]
            · rw [if_neg e]
              have : (decide (x = cc) && decide (y = hh)) = false := by simpa using e
              rw [this, Bool.or_false]
          clear hq
          obtain ⟨w', hrun, hM', hg⟩ := hMs.store cc hh (by omega) (by omega) hct2 true
          have HM' := Lib.hid hM'; clear hM'
          have hszX : (Wr.alloc (.cells #[.int .i64 (cc : Int), .int .i64 (hh : Int)] 104)).heap.size = Wr.heap.size + 1 := World.size_alloc ..
          have k2 : Ext w w' := Below.grown (i2.trans hXs) hg (by have := i2.size; omega) (fun k e => by cases e; omega)
          have k3 := (i3.ext hXs).grown hg (fun e => by cases e)
          have k4 := i4X.grown hg (fun e => by cases e)
          have k6 := (i6.ext hXs).grown hg (fun e => by cases e)
          have k7 := (i7.ext hXs).grown hg (fun e => by cases e; omega)
          have hszG := hg.size
          have hkb : ∀ k, k < Wr.heap.size → k ≠ L0 + 2 → w'.heap[k]? = Wr.heap[k]? := fun k hk hne => (hg.block k (by omega) (fun e => hne (by cases e; rfl))).trans (Below.block hXs k hk)
          have d0 := k2.cell D0.out
          have s3 := cell_of_blocks (hkb b6 (by have := i3.lt; omega) (by omega)) s2
          have c3 := k3.c1
          have c4 := k4.c1
          generalize (m.sh cc).price = pr at *
          have Hnew := Lib.hid hnew.out
          obtain ⟨S1, hS1⟩ : ∃ S1, Pow.sumM m (Pow.mk3 m (g.take i) (kk : Int) (wv.hours.take j) (hh : Int) ls) = S1 := ⟨_, rfl⟩
          rw [hS1] at hsb c4 k4
          have hS2 : Hid (Pow.sumM m (Pow.mk3 m (g.take i) (kk : Int) (wv.hours.take j) (hh : Int) (ls ++ [(cc : Int)])) = S1 + pr) := by unfold Hid; rw [Hnew.out, hS1]
          rw [hS2.out] at hsb2
          clear hS1 hnew s1 s2 i4X hMs
          gi_wp2_with fail
          refine wpIn_region_chain 11 [] [] (by kernel_rfl) (by kernel_rfl) (by kernel_rfl) ?_
          simp only [List.take, List.drop, fill, Act.put, List.setIfInBounds_toArray, List.set_cons_zero, List.set_cons_succ, Nat.reduceAdd]
          repeat (first
            | refine FloatsIn.mut rfl ?_
            | (apply FloatsIn.float rfl
               · intro x W he hd K Q hK
                 try (have he := he (by decide); have c4 := he.cell c4; have c3 := he.cell c3; have d0 := he.cell d0; have s3 := he.cell s3)
                 try simp only [edges, DepsE, List.filter_cons, List.filter_nil, Region.binds, if_true, and_true, true_and, upd, Nat.reduceEqDiff, if_false] at hd
                 try simp only [hd] at hK ⊢
                 have HK := Lib.hid hK; clear hK
                 gi_wp2_with fail
                 exact HK.out))
          refine FloatsIn.done fun W he hG => ?_
          refine ChainIn.nil ?_
          simp only [upd, Nat.reduceEqDiff, if_false, if_true]
          have hfr := (k4.ext he).frozen 0
          have c5 := (k4.ext he).c1
          gi_wp2_with fail
          have hWrL : L0 + 3 < Wr.heap.size := i6.lt
          have hnh : ∀ k, k ≠ L0 + 1 → (W.setCell ⟨L0 + 1, 0, none⟩ (.int .i64 (S1 + pr))).heap[k]? = W.heap[k]? := fun k hk => Below.heap_setCell W _ _ k hk
          have hkf : KeepsFrom W5.heap.size (Wr.alloc (.cells #[.int .i64 (cc : Int), .int .i64 (hh : Int)] 104)) w' := ⟨hg.size, fun k o hB hk _ => (hg.block k (Array.getElem?_eq_some_iff.1 hk).1 (fun e => by cases e; omega)).trans hk⟩
          have hall : ∀ k, k < Wr.heap.size → k ≠ L0 + 2 → k ≠ L0 + 1 → (W.setCell ⟨L0 + 1, 0, none⟩ (.int .i64 (S1 + pr))).heap[k]? = Wr.heap[k]? := fun k h1 h2 h3 => (hnh k h3).trans ((Below.block he k (by omega)).trans (hkb k h1 h2))
          have hsW := he.size
          refine ⟨((keepsFrom_ext hXs).trans hkf).trans ((keepsFrom_ext he).trans ((KeepsOthers.setCell _ _ _).from _)), ⟨fun k hk => hall k (by omega) (by omega) (by omega), hall _ (by omega) (by omega) (by omega), hall _ (by omega) (by omega) (by omega)⟩, ct + 1, by rw [List.length_append, List.length_singleton]; omega, ?_, Below.setCell (k2.trans he) (by show _ ≤ L0 + 1; omega) _, (k3.ext he).far (by show L0 ≠ L0 + 1; omega) _, ?_, ?_, (k6.ext he).far (by show L0 + 3 ≠ L0 + 1; omega) _, (k7.ext he).far (by show L ≠ L0 + 1; omega) _, ?_⟩
          · rw [World.size_setCell]; omega
          · rw [Hlsx.out, hS2.out]; exact by simpa using (k4.ext he).set_ 0 (.int .i64 (S1 + pr))
          · rw [Hlsx.out]
            exact (((HM'.out.ext he).same (hnh (L0 + 2) (by omega))).congr rfl hfn.out)
          · refine ⟨i8.choose, i8.choose_spec.1, i8.choose_spec.2.1, fun Dd hDd => ?_⟩
            obtain ⟨t1, t2, t3⟩ := i8.choose_spec.2.2 Dd hDd
            have hc1 : Dd ≠ L0 + 1 := fun e => by
              subst e
              have := i4
              unfold Blk at this
              rw [this] at t3; cases t3
            have hc2 : Dd ≠ L0 + 2 := fun e => by
              subst e
              obtain ⟨_, ⟨_, _, hb, _⟩, _⟩ := iM
              rw [hb] at t3; cases t3
            exact ⟨t1, t2, (hall Dd (Array.getElem?_eq_some_iff.1 t3).1 hc2 hc1).trans t3⟩
      case hdone =>
        intro Dd xs W hDd hxs ⟨ct, hct, i1, i2, i3, i4, iM, i6, i7, i8⟩ hdef
        have hxl : xs.length = (m.line wv.shaft).length := by rw [← hxs, List.length_map]
        have hEnd : Hid (Pow.mk3 m (g.take i) (kk : Int) (wv.hours.take j) (hh : Int) (m.line wv.shaft) = Pow.mk3 m (g.take i) (kk : Int) (wv.hours.take (j + 1)) 0 []) := by
          unfold Hid
          rw [Htj.out, Pow.mk3_hour]
          show Pow.mk3 m _ _ _ _ _ = Pow.mk3 m _ _ _ _ (m.line (m.wv kk).shaft)
          rw [Hwv.out]
        rw [hxs, hEnd.out] at i4 iM
        have hp := i8.push (by omega) (by omega) hdef
        have hDlt := (Array.getElem?_eq_some_iff.1 hdef).1
        clear hdef i8 i7
        go_wp2_with fail
        refine Handed.intro (hn - (j + 1)) (by omega) (hJB _ _ _ ⟨j + 1, ct, _, rfl, rfl, by show Value.int .i64 _ = _; go_num, by omega, by omega, i2, i3, i4, iM, i6, hp.mono (by omega)⟩)
    · obtain rfl : j = hn := by omega
      have hEnd : Hid (Pow.mk3 m (g.take i) (kk : Int) (wv.hours.take j) 0 [] = Pow.mkG m (g.take (i + 1))) := by
        unfold Hid
        rw [List.take_of_length_le (l := wv.hours) (by omega), Htk.out, ← Pow.mk3_end m (g.take i) (kk : Int) 0]
        show Pow.mk3 m _ _ _ _ _ = Pow.mk3 m _ _ (m.wv kk).hours _ _
        rw [Hwv.out]
      rw [hEnd.out] at b1 bM
      go_wp2_with fail
      refine Handed.intro (g.length - (i + 1)) (by omega) (hJA _ _ _ ⟨i + 1, cnt, _, rfl, rfl, by show Value.int .i64 _ = _; go_num, by omega, by omega, heB, b0, b1, bM, b3, hmkB⟩)
  · obtain rfl : i = g.length := by omega
    rw [List.take_of_length_le (Nat.le_refl _), Hr.out] at a1
    have e1 := a1.c1
    go_wp2_with fail
    exact leaves_marks' ds W hmk (fun W' => results_tmp rfl _ _ _) (fun W' hq => ⟨rfl, hq.ext heA (by omega)⟩)
end Go.Proofs.Pet

namespace Go.Proofs.Pet
open Go Go.RowKit Go.Maps Go.Shelf
open Go.Proofs.Pow (PM Sh Wv POk)

def knownE (m : PM) (k : Int) : Int := if checkP m ≠ 0 then checkP m else if inB k 0 (m.wvs.length - 1) = false then 1 else 0
def groupE (m : PM) (g : List Int) : Int := if checkP m ≠ 0 then checkP m else if (g.all fun k => inB k 0 (m.wvs.length - 1)) = false then 1 else if twiceB g = true then 5 else 0
def sharedE (m : PM) (l : List Int) : Int := if checkP m ≠ 0 then checkP m else if l.length ≠ m.wvs.length then 2 else if (l.all fun n => inB n 0 1000000) = false then 3 else 0
def sightE (m : PM) (l : List Int) : Int := if checkP m ≠ 0 then checkP m else if l.length ≠ m.wvs.length then 2 else if (l.all fun x => inB x 0 2) = false then 3 else 0
/-- what comes back: a desk if there is no error -/
def OpensP (m : PM) (r : Int) (w : World) (e : Ending) (w' : World) : Prop := ∃ pv, e = .returned (.tuple #[.pointer pv, .int .i64 r]) ∧ Ext w w' ∧ (r = 0 → ∃ D, pv = some ⟨D, 0, none⟩ ∧ DeskAt w' D m ∧ w.heap.size ≤ D)
set_option maxRecDepth 20000 in
theorem grouped_any (v : Value) (m : PM) (A : Option Addr) (c n : Nat) (g : List Int) (hn : g.length = n) (r : Int) (hr : groupE m g = r) (w : World) (hv : PMVal w v m) (hl : n ≤ maxLen) (hlc : n ≤ c) (hA : IntsAt w A g) : Calls Try.prog 22 #[v, .slice A n c] w (OpensP m r w) := by
  subst hn
  have Hr := Lib.hid hr; clear hr
  have hmf : ∀ (fn : Fn) (first cap : Array Value) (w : World), (Instr.makeFunc fn first cap).run Try.prog w = .ok (.func fn first cap) w := fun _ _ _ _ => rfl
  have Hv := Lib.hid hv
  obtain ⟨A1, c1, A2, c2, rfl, h2, h3, h4, h5, h6, h7⟩ := hv
  have hwl : m.wvs.length ≤ maxLen := Nat.le_trans h4 h5
  unfold maxLen at hwl
  have hE := Ext.alloc w (.cells #[.slice A1 m.shafts.length c1, .slice A2 m.wvs.length c2] 38)
  have hM := Blk.new w 38 #[.slice A1 m.shafts.length c1, .slice A2 m.wvs.length c2]
  obtain ⟨k0, k1⟩ := hM.c2
  have HM := Lib.hid hM
  clear hM h6 h7
  by_cases hc : checkP m = 0
  · have ho := Lib.hid (opened_anyP _ m hc _ (Hv.out.ext hE))
    have Hc := Lib.hid hc; clear hc
    go_enter Try.func22, Try.ntmps22
    go_wp2_with fail
    refine ho.out.mono ?_
    rintro e w1 ⟨D, rfl, hD, hlD, he1⟩
    have hE1 := hE.trans he1
    have HD := Lib.hid hD
    have hM1 := HM.out.ext he1
    have hlD' : w.heap.size ≤ D := by have := hE.size; omega
    clear k0 k1 ho HM hD hE he1 hlD
    obtain ⟨k0, k1⟩ := hM1.c2
    obtain ⟨q, hq⟩ : ∃ q, (g.all fun k => inB k 0 (m.wvs.length - 1)) = q := ⟨_, rfl⟩
    have Hq := Lib.hid hq
    have hev := everyIP 34 #[.agg #[.slice A1 m.shafts.length c1, .slice A2 m.wvs.length c2]] #[] (enters_of Try.func34 (by kernel_rfl) rfl) (fun k => inB k 0 (m.wvs.length - 1)) A c g w1 hl (hA.ext hE1)
      (fun y _ => fun W' v' hW' hv' => by
        obtain rfl : v' = .int .i64 y := hv'
        exact pweaver_any _ m y _ rfl W' (Hv.out.ext (hE1.trans hW')))
    rw [hq] at hev
    have Hev := Lib.hid hev
    clear hq hev
    go_wp2_with fail
    refine Hev.out.mono ?_
    rintro e w2 ⟨rfl, he2⟩
    have hE2 := hE1.trans he2
    cases q with
    | false =>
      obtain rfl : r = 1 := by rw [← Hr.out]; unfold groupE; simp [Hc.out, Hq.out]
      go_wp2_with fail
      go_ret2
      exact ⟨_, rfl, hE2, fun h => absurd h (by decide)⟩
    | true =>
      obtain ⟨q2, hq2⟩ : ∃ q2, twiceB g = q2 := ⟨_, rfl⟩
      have Hq2 := Lib.hid hq2
      have htw := Lib.hid (twice_anyP A c g q2 hq2 w2 hl hlc (hA.ext hE2))
      clear hq2
      go_wp2_with fail
      refine htw.out.mono ?_
      rintro e w3 ⟨rfl, rfl⟩
      cases q2 with
      | true =>
        obtain rfl : r = 5 := by rw [← Hr.out]; unfold groupE; simp [Hc.out, Hq.out, Hq2.out]
        go_wp2_with fail
        go_ret2
        exact ⟨_, rfl, hE2, fun h => absurd h (by decide)⟩
      | false =>
        obtain rfl : r = 0 := by rw [← Hr.out]; unfold groupE; simp [Hc.out, Hq.out, Hq2.out]
        go_wp2_with fail
        go_ret2
        exact ⟨_, rfl, hE2, fun _ => ⟨D, rfl, HD.out.ext he2, hlD'⟩⟩
  · have ho := Lib.hid (openedErrP _ m _ rfl hc _ (Hv.out.ext hE))
    obtain rfl : r = checkP m := by rw [← Hr.out]; unfold groupE; rw [if_pos hc]
    have hd : (checkP m != 0) = true := by simpa using hc
    have hd0 : (checkP m == 0) = false := by simpa using hc
    have Hc := Lib.hid hc; clear hc
    generalize checkP m = r at *
    go_enter Try.func22, Try.ntmps22
    go_wp2_with fail
    refine ho.out.mono ?_
    rintro e w1 ⟨rfl, he1⟩
    go_wp2_with fail
    go_ret2
    exact ⟨_, rfl, hE.trans he1, fun h => absurd h Hc.out⟩

end Go.Proofs.Pet

namespace Go.Proofs.Pet
open Go Go.RowKit Go.Maps Go.Shelf
open Go.Proofs.Pow (PM Sh Wv POk Up goR goT)

theorem ints_length (l : List Nat) : (ints l).length = l.length := by simp [ints]
theorem Src.blk {W : World} {b : Nat} {t : TypeId} {v : Value} (hb : Blk W b t #[v]) : Src W (some ⟨b, 0, none⟩) [v] := .inr ⟨_, rfl, fun j u hj => by
  have e : (⟨b, 0, none⟩ : Addr).add j = ⟨b, j, none⟩ := by rw [addr_add]; simp
  rw [e, hb.cell]
  simpa using hj⟩
/-- what the search gives back -/
def Finds (n : Nat) (p : List Nat → Bool) (w : World) (e : Ending) (w' : World) : Prop :=
  ∃ A k c, e = .returned (.tuple #[.slice A k c, .bool (Pow.firstF n p).isSome]) ∧ Ext w w' ∧ ∀ x, Pow.firstF n p = some x → OwnI w' w.heap.size 3 (.slice A k c) (ints x)
end Go.Proofs.Pet

namespace Go.Proofs.Pet
open Go Go.RowKit Go.Maps Go.Shelf
open Go.Proofs.Pow (PM Sh Wv POk Up)

theorem ints_contains (l : List Nat) (k : Nat) : (ints l).contains (k : Int) = l.contains k := by
  rw [Bool.eq_iff_iff, List.contains_iff_mem, List.contains_iff_mem]
  unfold ints
  rw [List.mem_map]
  exact ⟨fun ⟨x, hx, e⟩ => by have : x = k := by omega
                              exact this ▸ hx, fun h => ⟨k, h, rfl⟩⟩
theorem ints_get (l : List Nat) {k : Nat} (hk : k < l.length) : (ints l)[k]?.getD 0 = ((l[k]?.getD 0 : Nat) : Int) := by
  unfold ints
  rw [List.getElem?_map, List.getElem?_eq_getElem hk]
  rfl
def shSum (sh : List Int) (l : List Nat) : Int := (l.map fun k => sh[k]?.getD 0).sum
theorem groupE_ok {m : PM} {g : List Int} (h : groupE m g = 0) : checkP m = 0 ∧ Pow.InG m g ∧ g.Nodup ∧ g.length ≤ 6 := by
  unfold groupE at h
  split at h
  · rename_i h1; exact absurd h h1
  rename_i h1
  simp only [ne_eq, Decidable.not_not] at h1
  split at h
  · exact absurd h (by decide)
  rename_i h2
  split at h
  · exact absurd h (by decide)
  rename_i h3
  have hg : Pow.InG m g := by
    intro k hk
    simp only [Bool.not_eq_false, List.all_eq_true] at h2
    have := inB_iff.1 (h2 k hk)
    omega
  have hnd := nodup_of_twice (by simpa using h3)
  refine ⟨h1, hg, hnd, ?_⟩
  have := Pow.nodup_le (r := Pow.allI m.wvs.length) hnd fun x hx => by
    have := hg x hx
    unfold Pow.allI
    exact List.mem_map.2 ⟨x.toNat, List.mem_range.2 (by omega), by omega⟩
  rw [allI_len] at this
  have := ((checkP_iff m).1 h1).few
  omega
set_option maxRecDepth 20000 in
theorem Cost_any (v : Value) (m : PM) (A : Option Addr) (c n : Nat) (g : List Int) (hn : g.length = n) (r x : Int) (hr : groupE m g = r) (hx : (if r = 0 then Pow.costF m (fun k => g.contains (k : Int)) else 0) = x) (w : World) (hv : PMVal w v m) (hl : n ≤ maxLen) (hlc : n ≤ c) (hA : IntsAt w A g) :
    Calls Try.prog 10 #[v, .slice A n c] w fun e w' => e = .returned (.tuple #[.int .i64 x, .int .i64 r]) ∧ Ext w w' := by
  have Hv := Lib.hid hv
  obtain ⟨A1, c1, A2, c2, rfl, h2, h3, h4, h5, h6, h7⟩ := hv
  have hE := Ext.alloc w (.cells #[.slice A1 m.shafts.length c1, .slice A2 m.wvs.length c2] 38)
  obtain ⟨k0, k1⟩ := (Blk.new w 38 #[.slice A1 m.shafts.length c1, .slice A2 m.wvs.length c2]).c2
  have ho := Lib.hid (grouped_any _ m A c n g hn r hr _ (Hv.out.ext hE) hl hlc (hA.ext hE))
  clear h6 h7
  go_enter Try.func10, Try.ntmps10
  go_wp2_with fail
  refine ho.out.mono ?_
  rintro e w1 ⟨pv, rfl, he1, hop⟩
  have hE1 := hE.trans he1
  by_cases h0 : r = 0
  · subst h0
    obtain ⟨D, rfl, hD, -⟩ := hop rfl
    obtain ⟨hc, hg, -, hl6⟩ := groupE_ok hr
    have hcall := Lib.hid (cost_anyP D m ((checkP_iff m).1 hc) A c n g hn hg (by omega) x (by rw [← hx, if_pos rfl]) w1 hD (hA.ext hE1))
    clear hx hr hD hg hc hA ho
    go_wp2_with fail
    refine hcall.out.mono ?_
    rintro e w2 ⟨rfl, he2⟩
    go_wp2_with fail
    go_ret2
    exact ⟨rfl, hE1.trans he2⟩
  · obtain rfl : x = 0 := by rw [← hx, if_neg h0]
    have hd : (r != 0) = true := by simpa using h0
    clear hx hr hA ho h0 hop
    go_wp2_with fail
    go_ret2
    exact ⟨rfl, hE1⟩

def fairF (m : PM) (sh : List Int) : Bool := (Pow.firstF m.wvs.length (Pow.moreB m sh)).isNone && decide (sh.sum = 60 * Pow.costF m fun _ => true)
end Go.Proofs.Pet

namespace Go.Proofs.Pet
open Go Go.RowKit Go.Maps Go.Shelf
open Go.Proofs.Pow (PM Sh Wv POk Up)

theorem Row.own {w : World} {b N base : Nat} {f : Nat → Int} (h : Row w b N f) (hb : base ≤ b) (hN : N ≤ maxLen) : OwnI w base 3 (.slice (some ⟨b, 0, none⟩) N N) ((List.range N).map f) := by
  obtain ⟨cs, h1, h2, h3⟩ := h
  have hlen : ((List.range N).map f).length = N := by simp
  unfold OwnI
  rw [hlen]
  refine ⟨by simp, .inr ⟨b, N, cs, rfl, hb, h1, Nat.le_refl _, hN, by simp [h2], ?_⟩⟩
  apply List.ext_getElem?
  intro i
  rw [Nat.mul_one, List.take_of_length_le (by simp [h2]), Array.getElem?_toList]
  by_cases hi : i < N
  · rw [h3 i hi, List.getElem?_map, List.getElem?_map, List.getElem?_range hi]; rfl
  · rw [Array.getElem?_eq_none (by omega), List.getElem?_eq_none (by simp; omega)]
end Go.Proofs.Pet

namespace Go.Proofs.Pet
open Go Go.RowKit Go.Maps Go.Shelf
open Go.Proofs.Pow (PM Sh Wv POk Up)

/-- the error of Better, and its group -/
def bettE (m : PM) (sh : List Int) : Int := if sharedE m sh ≠ 0 then sharedE m sh else if (Pow.firstF m.wvs.length (Pow.moreB m sh)).isNone then 6 else 0
def bettL (m : PM) (sh : List Int) : List Int := if sharedE m sh ≠ 0 then [] else ints ((Pow.firstF m.wvs.length (Pow.moreB m sh)).getD [])
def runsL (m : PM) (h : Int) (k : Nat) : List Int := ints ((List.range k).filter fun s => Pow.runsB m s h.toNat)
def runsE (m : PM) (h : Int) : Int := if checkP m ≠ 0 then checkP m else if inB h 0 23 = false then 3 else 0
end Go.Proofs.Pet
