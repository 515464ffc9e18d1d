/-
  Marks: what a function that holds ranges over iterators within loops leaves among its deferred calls. No program is named here.
-/
import Derived.Test.YtfglamdbnclcaaaGreatP04
import Derived.Test.YtfglamdbnclcaaaGreatP01
namespace Go.Proofs.Pet
open Go Go.RowKit Go.Shelf
attribute [local go_sem] Oper.semAt_some

/-- an order of a set -/
abbrev In (s : Nat) : Type := { i : Nat // s.testBit i = true }
/-- the orders of a set, below k -/
def bitsS (s k : Nat) : List (In s) := (List.range k).filterMap fun i => if h : s.testBit i = true then some ⟨i, h⟩ else none
theorem bitsS_succ_in (s k : Nat) (h : s.testBit k = true) : bitsS s (k + 1) = bitsS s k ++ [⟨k, h⟩] := by
  unfold bitsS
  rw [List.range_succ, List.filterMap_append]
  simp [h]
theorem bitsS_succ_out (s k : Nat) (h : s.testBit k = false) : bitsS s (k + 1) = bitsS s k := by
  unfold bitsS
  rw [List.range_succ, List.filterMap_append]
  simp [h]
theorem bitsS_map (s k : Nat) : (bitsS s k).map (·.1) = bits k s := by
  induction k with
  | zero => rfl
  | succ k ih =>
    rw [bits_succ]
    cases h : s.testBit k with
    | true => rw [bitsS_succ_in s k h, List.map_append, ih]; simp
    | false => rw [bitsS_succ_out s k h, ih]; simp
theorem bitsS_length (s k : Nat) : (bitsS s k).length ≤ k := by
  have h := congrArg List.length (bitsS_map s k)
  rw [List.length_map] at h
  rw [h]
  exact bits_length_le k s
def encK (s : Nat) (x : In s) : Array Value := #[.int .i64 (x.1 : Int), .int .i64 (sdiff s (2 ^ x.1) : Nat)]
/-- what an iterator of lacking asks its rounds to keep: its two boxes -/
def KeepsTwo (B : Nat) (W W' : World) : Prop := W'.heap[B]? = W.heap[B]? ∧ W'.heap[B + 1]? = W.heap[B + 1]?

def lackR (s k p2 p3 p10 p11 : Nat) (l : Nat) (q : Bool) : Nat → Value → World → Prop
  | 0 => fun v _ => v = .int .i64 s
  | 1 => fun v _ => v = .int .i64 k
  | 2 => fun v _ => v = .int .i64 p2
  | 3 => fun v _ => v = .int .i64 p3
  | 4 => fun v _ => v = .bool q
  | 5 => fun v _ => v = .bool q
  | 6 => fun v _ => v = if q then .func (.yield l) #[] #[] else undef
  | 7 => fun v _ => v = if q then .int .i64 k else undef
  | 8 => fun v _ => v = if q then .int .i64 s else undef
  | 9 => fun v _ => v = if q then .int .i64 k else undef
  | 10 => fun v _ => v = if q then .int .i64 p10 else undef
  | 11 => fun v _ => v = if q then .int .i64 p11 else undef
  | _ => fun _ _ => True

set_option maxRecDepth 20000 in
set_option maxHeartbeats 1000000 in
theorem lacking1_in (F : Fence) (n0 : Nat) (hF : F.fn 140) (hro : F.round = none) (hn : 1 ≤ n0) (l B : Nat) (A1 : Value) (ch : Value) (A2 : Option Addr) (c2 : Nat) (n s : Nat) (hn7 : n ≤ 20) (hs : s ≤ 1048576)
    (J Jx : List (In s) → World → Prop)
    (hY : ∀ pre x W, J pre W → pre.length < n → YieldAt F (n0 - 1) Tryz.prog l (encK s x) W fun e W' =>
      (e = .returned (.bool true) ∧ J (pre ++ [x]) W' ∧ KeepsTwo B W W') ∨ (e = .returned (.bool false) ∧ Jx (pre ++ [x]) W'))
    (W : World) (hB1 : Blk W B 25 #[A1, ch, .slice A2 n c2]) (hB2 : Blk W (B + 1) 3 #[.int .i64 s]) (h0 : J [] W) (hJ : AbidesFrom W.heap.size J) (_hJx : AbidesFrom W.heap.size Jx) :
    CallsIn F n0 Tryz.prog 140 #[.func (.yield l) #[] #[], .pointer (some ⟨B, 0, none⟩), .pointer (some ⟨B + 1, 0, none⟩)] W fun e W' => (∃ v, e = .returned v) ∧
      ((∃ ys, ys = bitsS s n ∧ J ys W') ∨ (∃ pre, (∃ k, k ≤ n ∧ pre = bitsS s k) ∧ Jx pre W')) := by
  refine callsIn_of_wp Tryz.func140 rfl hF ?_ hro
  simp only [Tryz.ntmps140, List.size_toArray, List.length_cons, List.length_nil, Nat.reduceAdd, Nat.reduceSub, Array.replicate_succ, Array.replicate_zero, List.push_toArray, List.append_toArray, List.nil_append, List.cons_append]
  obtain ⟨k0, k1, k2⟩ := hB1.c3
  gi_wp2
  clear k0 k1 k2
  gi_loopw [4, 8] (fun _ i wr => ∃ k : Nat, k ≤ n ∧ i = .int .i64 k ∧ J (bitsS s k) wr ∧ Blk wr B 25 #[A1, ch, .slice A2 n c2] ∧ Blk wr (B + 1) 3 #[.int .i64 s])
    (fun _ i _ => n - (intOf i).toNat)
  case atStart => exact ⟨0, Nat.zero_le _, rfl, h0, hB1, hB2⟩
  case round =>
    obtain ⟨k, hk, rfl, hJs, hB1', hB2'⟩ := hrel
    have kc := hB2'.c1
    by_cases hlt : k < n
    · gi_wp2
      obtain ⟨q, hq⟩ : ∃ q, s.testBit k = q := ⟨_, rfl⟩
      obtain ⟨p2, hp2⟩ : ∃ p, p = s >>> k := ⟨_, rfl⟩
      obtain ⟨p3, hp3⟩ : ∃ p, p = p2 % 2 := ⟨_, rfl⟩
      obtain ⟨p10, hp10⟩ : ∃ p, p = 2 ^ k := ⟨_, rfl⟩
      obtain ⟨p11, hp11⟩ : ∃ p, p = sdiff s p10 := ⟨_, rfl⟩
      have b2 : p2 ≤ 1048576 := by rw [hp2, Nat.shiftRight_eq_div_pow]; exact Nat.le_trans (Nat.div_le_self _ _) hs
      have b10 : p10 ≤ 1048576 := by
        have h1 : 2 ^ k ≤ 2 ^ 20 := Nat.pow_le_pow_right (by omega) (by omega)
        have h2 : (2 : Nat) ^ 20 = 1048576 := by decide
        omega
      have hq3 : Hid (q = decide (p3 = 1)) := by unfold Hid; rw [← hq, hp3, hp2, Nat.testBit_eq_decide_div_mod_eq, Nat.shiftRight_eq_div_pow]
      have P2 := Lib.hid hp2; have P3 := Lib.hid hp3; have P10 := Lib.hid hp10; have P11 := Lib.hid hp11; have Hq := Lib.hid hq
      clear hp2 hp3 hp10 hp11 hq
      have hb3 : p3 ≤ 1 := by have := P3.out; omega
      refine wpIn_region_facts 12 (by kernel_rfl) (by kernel_rfl) (fun W' => W' = wr.drew) (lackR s k p2 p3 p10 p11 l q) ?_ ?_ ?_
      · rfl
      · simp only [List.take, AllOpsIn, fill, Act.put, List.setIfInBounds_toArray, List.set_cons_zero, List.set_cons_succ, Nat.reduceAdd, Deps, and_true]
        refine ⟨?_, ?_, ?_, ?_, ?_, ?_, ?_, ?_, ?_, ?_, ?_, ?_⟩
        all_goals
          rintro x W' rfl hd K Q hK
          try (simp only [lackR] at hd)
        · have HK := Lib.hid hK; clear hK
          gi_wp2; exact HK.out _ _ rfl rfl (fun _ _ h => h)
        · have HK := Lib.hid hK; clear hK
          gi_wp2; exact HK.out _ _ rfl rfl (fun _ _ h => h)
        · simp only [hd] at hK ⊢
          have HK := Lib.hid hK; clear hK
          gi_wp2
          exact HK.out _ _ (by show _ = Value.int .i64 (p2 : Int); rw [P2.out, Nat.shiftRight_eq_div_pow]; simp) rfl (fun _ _ h => h)
        · simp only [hd] at hK ⊢
          have HK := Lib.hid hK; clear hK
          gi_wp2
          exact HK.out _ _ (by show _ = Value.int .i64 (p3 : Int); rw [and_one p2 (by omega), P3.out]) rfl (fun _ _ h => h)
        · simp only [hd] at hK ⊢
          have HK := Lib.hid hK; clear hK
          gi_wp2
          exact HK.out _ _ (by show _ = Value.bool q; rw [hq3.out]; congr 1; rw [Bool.eq_iff_iff]; simp; omega) rfl (fun _ _ h => h)
        · simp only [hd] at hK ⊢
          have HK := Lib.hid hK; clear hK
          gi_wp2; exact HK.out _ _ rfl rfl (fun _ _ h => h)
        · cases q with
          | false =>
            simp only [hd] at hK ⊢
            have HK := Lib.hid hK; clear hK
            gi_wp2
            exact HK.out _ _ rfl rfl (fun _ _ h => h)
          | true =>
            simp only [hd] at hK ⊢
            have HK := Lib.hid hK; clear hK
            gi_wp2
            exact HK.out _ _ rfl rfl (fun _ _ h => h)
        · cases q with
          | false =>
            simp only [hd] at hK ⊢
            have HK := Lib.hid hK; clear hK
            gi_wp2
            exact HK.out _ _ rfl rfl (fun _ _ h => h)
          | true =>
            simp only [hd] at hK ⊢
            have HK := Lib.hid hK; clear hK
            gi_wp2
            exact HK.out _ _ rfl rfl (fun _ _ h => h)
        · cases q with
          | false =>
            simp only [hd] at hK ⊢
            have HK := Lib.hid hK; clear hK
            gi_wp2
            exact HK.out _ _ rfl rfl (fun _ _ h => h)
          | true =>
            simp only [hd] at hK ⊢
            have HK := Lib.hid hK; clear hK
            gi_wp2
            exact HK.out _ _ rfl rfl (fun _ _ h => h)
        · cases q with
          | false =>
            simp only [hd] at hK ⊢
            have HK := Lib.hid hK; clear hK
            gi_wp2
            exact HK.out _ _ rfl rfl (fun _ _ h => h)
          | true =>
            simp only [hd] at hK ⊢
            have HK := Lib.hid hK; clear hK
            gi_wp2
            exact HK.out _ _ rfl rfl (fun _ _ h => h)
        · obtain ⟨d9, d5⟩ := hd
          cases q with
          | false =>
            simp only [d5] at hK ⊢
            have HK := Lib.hid hK; clear hK d5
            gi_wp2
            exact HK.out _ _ rfl rfl (fun _ _ h => h)
          | true =>
            simp only [if_true] at d9
            simp only [d5, d9] at hK ⊢
            have HK := Lib.hid hK; clear hK d5 d9
            gi_wp2
            exact HK.out _ _ (by show _ = Value.int .i64 (p10 : Int); rw [P10.out, wrap64_pow' k (by omega)]) rfl (fun _ _ h => h)
        · obtain ⟨d8, d10, d5⟩ := hd
          cases q with
          | false =>
            simp only [d5] at hK ⊢
            have HK := Lib.hid hK; clear hK d5
            gi_wp2
            exact HK.out _ _ rfl rfl (fun _ _ h => h)
          | true =>
            simp only [if_true] at d8 d10
            simp only [d5, d8, d10] at hK ⊢
            have HK := Lib.hid hK; clear hK d5 d8 d10
            gi_wp2
            exact HK.out _ _ (by show _ = Value.int .i64 (p11 : Int); rw [andNot64 s p10 (by omega) (by omega), P11.out]) rfl (fun _ _ h => h)
      · rintro x W' rfl hR
        simp only [AllR, lackR, true_and] at hR
        have r11 := hR.2
        replace hR := hR.1
        have r10 := hR.2
        replace hR := hR.1
        have r9 := hR.2
        replace hR := hR.1
        have r8 := hR.2
        replace hR := hR.1
        have r7 := hR.2
        replace hR := hR.1
        have r6 := hR.2
        replace hR := hR.1
        have r5 := hR.2
        replace hR := hR.1
        have r4 := hR.2
        replace hR := hR.1
        have r3 := hR.2
        replace hR := hR.1
        have r2 := hR.2
        replace hR := hR.1
        have r1 := hR.2
        replace hR := hR.1
        have r0 := hR
        clear hR
        simp only [List.take, List.drop, fill, Act.put, List.setIfInBounds_toArray, List.set_cons_zero, List.set_cons_succ, Nat.reduceAdd]
        have hJd : J (bitsS s k) wr.drew := hJ _ wr wr.drew none hJs ⟨rfl, rfl, rfl, Nat.le_refl _, fun _ _ _ => rfl⟩ (fun r e => by cases e)
        cases q with
        | false =>
          simp only [r0, r1, r2, r3, r4, r5, r6, r7, r8, r9, r10, r11, Bool.false_eq_true, if_false]
          clear r0 r1 r2 r3 r4 r5 r6 r7 r8 r9 r10 r11
          gi_wp2
          refine ⟨fun _ h => (by cases h), ?_⟩
          gi_wp2
          go_roundw
          case rel => exact ⟨k + 1, by omega, by go_num, by rw [bitsS_succ_out s k Hq.out]; exact hJd, hB1', hB2'⟩
          case measure => simp [intOf]; omega
        | true =>
          simp only [r0, r1, r2, r3, r4, r5, r6, r7, r8, r9, r10, r11, if_true]
          clear r0 r1 r2 r3 r4 r5 r6 r7 r8 r9 r10 r11
          have hlen : (bitsS s k).length < n := by
            have := bitsS_length s k
            omega
          obtain ⟨fn, tmps, assign, body, hy, hR⟩ := hY _ ⟨k, Hq.out⟩ wr.drew hJd hlen
          simp only [encK, ← P10.out, ← P11.out] at hy
          have Hls := Lib.hid (bitsS_succ_in s k Hq.out)
          gi_wp2_with fail
          refine hR.mono ?_
          rintro e W3 (⟨rfl, hJ3, hk3⟩ | ⟨rfl, hJx3⟩)
          · gi_wp2
            go_roundw
            case rel => exact ⟨k + 1, by omega, by go_num, by rw [Hls.out]; exact hJ3, hk3.1.trans hB1', hk3.2.trans hB2'⟩
            case measure => simp [intOf]; omega
          · gi_wp2
            refine bodyPost_ret (results_none rfl _ _ _) rfl ?_
            exact ⟨⟨_, rfl⟩, .inr ⟨_, ⟨k + 1, by omega, Hls.out.symm⟩, hJx3⟩⟩
    · obtain rfl : k = n := by omega
      gi_wp2
      go_end0
      exact ⟨⟨_, rfl⟩, .inl ⟨_, rfl, hJs⟩⟩

theorem lacking_stops (F : Fence) (n0 : Nat) (hF : F.fn 140) (hro : F.round = none) (hn : 1 ≤ n0) (B : Nat) (A1 : Value) (ch : Value) (A2 : Option Addr) (c2 : Nat) (n s : Nat) (hn7 : n ≤ 20) (hs : s ≤ 1048576)
    (w : World) (hB1 : Blk w B 25 #[A1, ch, .slice A2 n c2]) (hB2 : Blk w (B + 1) 3 #[.int .i64 s]) :
    SeqStopsK F n0 Tryz.prog 140 #[.pointer (some ⟨B, 0, none⟩), .pointer (some ⟨B + 1, 0, none⟩)] (encK s) (KeepsTwo B) (fun ys => ys = bitsS s n) (fun pre => ∃ k, k ≤ n ∧ pre = bitsS s k) n w :=
  fun l J Jx W hW hJ hJx hY h0 => lacking1_in F n0 hF hro hn l B A1 ch A2 c2 n s hn7 hs J Jx hY W (Blk.below hB1 hW hB1.lt) (Blk.below hB2 hW hB2.lt) h0 hJ hJx

theorem lacking_any (v : Value) (m : Mill) (s : Int) (w : World) (hv : MillVal w v m) :
    Calls Tryz.prog 90 #[v, .int .i64 s] w fun e w' => e = .returned (.func (.func 140) #[] #[.pointer (some ⟨w.heap.size, 0, none⟩), .pointer (some ⟨w.heap.size + 1, 0, none⟩)]) ∧ Ext w w' ∧
      (∃ A1 A2 c2, Blk w' w.heap.size 25 #[A1, .int .i64 m.change, .slice A2 m.orders.length c2]) ∧ Blk w' (w.heap.size + 1) 3 #[.int .i64 s] := by
  have hmf : ∀ (fn : Fn) (first cap : Array Value) (w : World), (Instr.makeFunc fn first cap).run Tryz.prog w = .ok (.func fn first cap) w := fun _ _ _ _ => rfl
  obtain ⟨A1, c1, A2, c2, rfl, h2, h3, h4, h5, h6, h7⟩ := hv
  have hb1 := (Blk.new w 25 #[.slice A1 m.laced.length c1, .int .i64 m.change, .slice A2 m.orders.length c2]).alloc (.cells #[.int .i64 s] 3)
  have hb2 := Blk.new (w.alloc (.cells #[.slice A1 m.laced.length c1, .int .i64 m.change, .slice A2 m.orders.length c2] 25)) 3 #[.int .i64 s]
  rw [World.size_alloc] at hb2
  have hE := (Ext.alloc w (.cells #[.slice A1 m.laced.length c1, .int .i64 m.change, .slice A2 m.orders.length c2] 25)).trans (Ext.alloc _ (.cells #[.int .i64 s] 3))
  clear h6 h7 h3 h5
  have Hb1 := Lib.hid hb1; have Hb2 := Lib.hid hb2; clear hb1 hb2
  go_enter Tryz.func90, Tryz.ntmps90
  go_wp2
  go_ret
  exact ⟨rfl, hE, ⟨_, _, _, Hb1.out⟩, Hb2.out⟩

theorem KeepsTwo.t {B : Nat} {X Y Z : World} (h : KeepsTwo B X Y) (k : KeepsTwo B Y Z) : KeepsTwo B X Z := ⟨k.1.trans h.1, k.2.trans h.2⟩
theorem KeepsTwo.b {B : Nat} {w : World} (hB : B + 1 < w.heap.size) (W : World) (l : Nat) (o o' : Obj) (hl : w.heap.size ≤ l) (h : W.heap[l]? = some o) (_ : o.isCells = false) (_ : o.isWalk = false) : KeepsTwo B W (W.putObj l o') :=
  ⟨(grownBy_putObj' W l o').block B (by have := (Array.getElem?_eq_some_iff.1 h).1; omega) (fun e => by cases e; omega), (grownBy_putObj' W l o').block (B + 1) (by have := (Array.getElem?_eq_some_iff.1 h).1; omega) (fun e => by cases e; omega)⟩

/-- what the book-keeping of a range over a function leaves: cells, and whatever lay below B -/
structure Loops (B : Nat) (W W' : World) : Prop where
  os : W'.os = W.os
  tape : W'.tape = W.tape
  output : W'.output = W.output
  size : W.heap.size ≤ W'.heap.size
  cells : ∀ (k : Nat) (c : Array Value) (e : TypeId) (fz : Nat × Nat), W.heap[k]? = some (Obj.cells c e fz) → W'.heap[k]? = some (Obj.cells c e fz)
  low : ∀ (k : Nat), k < B → k < W.heap.size → W'.heap[k]? = W.heap[k]?
theorem Blk.loops {W W' : World} {B b : Nat} {t : TypeId} {cs : Array Value} (h : Blk W b t cs) (hk : Loops B W W') : Blk W' b t cs := hk.cells _ _ _ _ h
theorem Ext.loops {w W W' : World} {B : Nat} (h : Ext w W) (hk : Loops B W W') (hB : w.heap.size ≤ B) : Ext w W' :=
  ⟨hk.os.trans h.os, hk.tape.trans h.tape, hk.output.trans h.output, Nat.le_trans h.size hk.size, fun k hlt => (hk.low k (by omega) (by have := h.size; omega)).trans (Below.block h k hlt)⟩
theorem OwnI.loops {W W' : World} {B base : Nat} {e : TypeId} {v : Value} {xs : List Int} (h : OwnI W base e v xs) (hk : Loops B W W') : OwnI W' base e v xs := by
  obtain ⟨h1, h2⟩ := h
  refine ⟨h1, ?_⟩
  rcases h2 with h2 | ⟨g, cap, cur, rfl, hg, hb, r⟩
  · exact .inl h2
  · exact .inr ⟨g, cap, cur, rfl, hg, hk.cells _ _ _ _ hb, r⟩
theorem ownFrom_keep {β : Type} {B : Nat} {I : β → World → Prop} (h : ∀ s W W', I s W → Loops B W W' → I s W') : OwnFrom B I := by
  intro s W W' row hs hg hr
  refine h s W W' hs ⟨hg.os, hg.tape, hg.output, hg.size, fun k c e fz hc => ?_, fun k hk hlt => hg.block k hlt (fun e' => by have := (hr k e'.symm).1; omega)⟩
  rw [hg.block k (Array.getElem?_eq_some_iff.1 hc).1 (fun e' => by
    obtain ⟨_, o, ho, hw⟩ := hr k e'.symm
    rw [hc] at ho; cases ho; cases hw)]
  exact hc
theorem keepsFrom_ext {B : Nat} {W W' : World} (h : Ext W W') : KeepsFrom B W W' := ⟨h.size, fun _k _o _ hk _ => h.block hk⟩

/-- 'for k, rest := range m.lacking(s) { .. }' -/
theorem wp_lacking {g : Operand} {ps : Array Tmp} {assign body : Code} {Q : Exit → Act → World → Prop} {a : Act} {w : World} {B : Nat} {A1 ch : Value} {A2 : Option Addr} {c2 n s : Nat} (hn7 : n ≤ 20) (hs : s ≤ 1048576)
    (hB1 : Blk w B 25 #[A1, ch, .slice A2 n c2]) (hB2 : Blk w (B + 1) 3 #[.int .i64 s])
    (hg : a.eval g = .func (.func 140) #[] #[.pointer (some ⟨B, 0, none⟩), .pointer (some ⟨B + 1, 0, none⟩)]) (hps : ps.size = 2)
    (I : List (In s) → World → Prop) (Ix : Code → List (In s) → World → Prop) (hI : ∀ p W W', I p W → Loops w.heap.size W W' → I p W') (hIx : ∀ c p W W', Ix c p W → Loops w.heap.size W W' → Ix c p W') (h0 : I [] w) (a₁ : In s → Act)
    (hassign : ∀ (l : Nat) (x : In s) (W : World) (K : Act → World → Prop), K (a₁ x) W →
      assign.wpIn (Fence.wide.inRound l) 3 Tryz.prog (Exit.then K (fun _ _ _ => False)) { tmps := (ps.zip (encK s x)).foldl (fun t (p, v) => t.setIfInBounds p v) a.tmps, defers := [] } W)
    (hbody : ∀ (l : Nat) (pre : List (In s)) (x : In s) (W : World), I pre W → body.wpIn (Fence.wide.inRound l) 3 Tryz.prog (ownPostG w.heap.size (KeepsTwo B) I Ix (pre ++ [x]) W) (a₁ x) W)
    (hdone : ∀ (D : Nat) (W : World), w.heap.size ≤ D → I (bitsS s n) W → W.heap[D]? = some (.deferred (some [])) → Q .normal { a with defers := { target := .collected D, args := #[] } :: a.defers } W)
    (hstop : ∀ (D : Nat) (c : Code) (pre : List (In s)) (W : World), w.heap.size ≤ D → (∃ k, k ≤ n ∧ pre = bitsS s k) → Ix c pre W → W.heap[D]? = some (.deferred (some [])) → c.wp Tryz.prog Q { a with defers := { target := .collected D, args := #[] } :: a.defers } W) :
    (Code.rangeFunc g ps assign body).wp Tryz.prog Q a w := by
  refine (wpIn_wide (n := 5)).1 (wpIn_rangeFunc_ownG (n := 5) (by rfl) (by omega) hg trivial (enters_of Tryz.func140 (by kernel_rfl) rfl)
    (lacking_stops Fence.wide 4 trivial (by rfl) (by omega) B A1 ch A2 c2 n s hn7 hs w hB1 hB2) (KeepsTwo.t) (KeepsTwo.b hB2.lt) (Below.refl _ _) (fun x => by rw [hps]; rfl) I Ix
    (ownFrom_keep hI) (fun c => ownFrom_keep (hIx c)) h0 a₁ hassign (fun l pre x W hi _ => hbody l pre x W hi) (fun D xs W hD hxs hi hK => by subst hxs; exact hdone D W hD hi hK) (fun D c pre W hD hp hi hK => wpIn_wide.2 (hstop D c pre W hD hp hi hK)))
end Go.Proofs.Pet

namespace Go.Proofs.Pet
open Go Go.RowKit Go.Maps

/-- the days of the orders of a set, below k -/
def daysOf (m : Mill) : Nat → Nat → Int
  | 0, _ => 0
  | k + 1, s => daysOf m k s + if s.testBit k then (m.orders[k]?.getD default).days else 0
theorem keyed_int : Keyed Tryz.prog 3 := int_keyed Tryz.underlying3
theorem zero_int (w : World) : (zeroValue 3).run Tryz.prog w = .ok (.int .i64 0) w := by kernel_rfl
/-- a map from sets to numbers, 0 where there is nothing -/
def DaysMap (w : World) (M cnt : Nat) (f : Nat → Int) : Prop :=
  ∃ D : DataW Unit, w.ownsMap Tryz.prog 3 (plainElem Tryz.prog 3) M cnt D ∧ ∀ s : Nat, D.atKey (.int .i64 s) (.lit (.int .i64 0)) = .lit (.int .i64 (f s))
/-- a mill at work, in a block of its own -/
def Desk (w : World) (D : Nat) (m : Mill) : Prop :=
  ∃ A1 c1 A2 c2 M cnt, Blk w D 83 #[.slice A1 m.laced.length c1, .int .i64 m.change, .slice A2 m.orders.length c2, .map (some M)] ∧ m.laced.length ≤ c1 ∧ c1 ≤ maxLen ∧ m.orders.length ≤ c2 ∧ c2 ≤ maxLen ∧
    IntsAt w A1 m.laced ∧ OrdsAt w A2 m.orders ∧ M < w.heap.size ∧ DaysMap w M cnt (fun s => if s < 2 ^ m.orders.length then daysOf m m.orders.length s else 0)
theorem DaysMap.ext {w w' : World} {M cnt : Nat} {f : Nat → Int} (h : DaysMap w M cnt f) (_hM : M < w.heap.size) (he : Ext w w') : DaysMap w' M cnt f := by
  obtain ⟨D, h1, h2⟩ := h
  refine ⟨D, ?_, h2⟩
  exact h1.kept ⟨he.os, he.tape, he.output, he.size, fun k hk _ => Below.block he k hk⟩ (by simp : some M ≠ none)

theorem lit_inj {a b : Int} (h : (DataW.lit (.int .i64 a) : DataW Unit) = .lit (.int .i64 b)) : a = b := by
  injection h with h
  injection h
theorem lit_ne {a b : Int} (h : a ≠ b) : (Lit.int .i64 a) ≠ (Lit.int .i64 b) := by
  intro e
  injection e with _ e
  exact h e
theorem DaysMap.look {w : World} {M cnt : Nat} {f : Nat → Int} (h : DaysMap w M cnt f) (s : Nat) (hs : s ≤ 1048576) :
    (Instr.lookup 81 (.map (some M)) (.int .i64 (s : Int)) false).run Tryz.prog w = .ok (.int .i64 (f s)) w := by
  obtain ⟨D, h1, h2⟩ := h
  obtain ⟨c, hr, hat, _⟩ := h1.lookup_int keyed_int Tryz.underlying81 Tryz.underlying3 (zero_int w) (keyOf_int_mk Tryz.underlying3 (WalkArith.wf_i64 (n := (s : Int)) (by omega)))
  have hq := (h2 s).symm.trans hat
  have hc : f s = c := lit_inj hq
  rw [hr, hc]
theorem DaysMap.store {w : World} {M cnt : Nat} {f : Nat → Int} (h : DaysMap w M cnt f) (s : Nat) (hs : s ≤ 1048576) (hc : cnt ≤ 1048576) (v : Int) (hv : -1048576 ≤ v ∧ v ≤ 1048576) :
    ∃ w', (Instr.mapUpdate 81 (.map (some M)) (.int .i64 (s : Int)) (.int .i64 v)).run Tryz.prog w = .ok () w' ∧ DaysMap w' M (cnt + 1) (fun x => if x = s then v else f x) ∧ w.grownBy w' (some M) := by
  obtain ⟨D, h1, h2⟩ := h
  have hD : IsMap D := by obtain ⟨es, clock, hb, F, hs, rfl⟩ := h1; exact ⟨_, rfl⟩
  obtain ⟨w', hr, ho, hg⟩ := h1.update keyed_int Tryz.underlying81 (by unfold maxLen; omega) (keyOf_int_mk Tryz.underlying3 (WalkArith.wf_i64 (n := (s : Int)) (by omega))) (plainElem_int Tryz.underlying3 (WalkArith.wf_i64 (n := v) (by omega)))
  refine ⟨w', hr, ⟨_, ho, fun x => ?_⟩, hg⟩
  by_cases e : x = s
  · subst e
    rw [atKey_put_same hD (by simp [WideAt.IsKeyLit])]
    simp
  · rw [atKey_put_other (lit_ne (by omega)), h2 x]
    simp [e]

theorem DaysMap.congr {w : World} {M cnt cnt' : Nat} {f g : Nat → Int} (h : DaysMap w M cnt f) (hc : cnt ≤ cnt') (hfg : ∀ x, f x = g x) : DaysMap w M cnt' g := by
  obtain ⟨D, h1, h2⟩ := h
  exact ⟨D, h1.mono hc, fun s => by rw [h2 s, hfg s]⟩
theorem DaysMap.lt {w : World} {M cnt : Nat} {f : Nat → Int} (h : DaysMap w M cnt f) : M < w.heap.size := by
  obtain ⟨D, h1, _⟩ := h
  exact h1.lt
theorem check_len {m : Mill} (h : checkE m = 0) : 1 ≤ m.laced.length ∧ m.laced.length ≤ 3 ∧ m.orders.length ≤ 7 := by
  unfold checkE at h
  split at h
  · omega
  · rename_i h1
    simp only [not_or, inB, Bool.not_eq_false, Bool.and_eq_true, decide_eq_true_eq] at h1
    omega
theorem check_orders {m : Mill} (h : checkE m = 0) : (∀ o ∈ m.orders, (0 ≤ o.pattern ∧ o.pattern ≤ 9) ∧ (1 ≤ o.days ∧ o.days ≤ 20) ∧ (1 ≤ o.by_ ∧ o.by_ ≤ 99)) ∧ 0 ≤ m.change ∧ m.change ≤ 5 := by
  unfold checkE at h
  split at h
  · omega
  split at h
  · omega
  rename_i h2
  split at h
  · omega
  rename_i h3
  simp only [Bool.not_eq_false, not_or] at h2 h3
  refine ⟨fun o ho => ?_, ?_⟩
  · have := List.all_eq_true.1 h3 o ho
    simp only [inB, Bool.and_eq_true, decide_eq_true_eq] at this
    omega
  · have := h2.2
    simp only [inB, Bool.and_eq_true, decide_eq_true_eq] at this
    omega
theorem daysOf_bd {m : Mill} (h : checkE m = 0) : ∀ k s, k ≤ m.orders.length → 0 ≤ daysOf m k s ∧ daysOf m k s ≤ 20 * k
  | 0, s, _ => by simp [daysOf]
  | k + 1, s, hk => by
    have ih := daysOf_bd h k s (by omega)
    have := (check_orders h).1 (m.orders[k]?.getD default) (by simp [show k < m.orders.length by omega])
    simp only [daysOf]
    split <;> omega

theorem openedErr (v : Value) (m : Mill) (r : Int) (hr : checkE m = r) (h0 : r ≠ 0) (w : World) (hv : MillVal w v m) :
    Calls Tryz.prog 36 #[v] w fun e w' => e = .returned (.tuple #[.pointer none, .int .i64 r]) ∧ Ext w w' := by
  have Hv := Lib.hid hv
  obtain ⟨A1, c1, A2, c2, rfl, h2, h3, h4, h5, h6, h7⟩ := hv
  have hE := Ext.alloc w (.cells #[.slice A1 m.laced.length c1, .int .i64 m.change, .slice A2 m.orders.length c2] 25)
  have hC := check_any _ m _ (Hv.out.ext hE)
  rw [hr] at hC
  have HC := Lib.hid hC
  have hd : (r != 0) = true := by simpa using h0
  clear hC h6 h7 h3 h5 hr h0
  go_enter Tryz.func36, Tryz.ntmps36
  go_wp2_with fail
  refine HC.out.mono ?_
  rintro e w' ⟨rfl, he⟩
  go_wp2
  go_ret2
  exact ⟨rfl, hE.trans he⟩

def openR (D M o s : Nat) (c d : Int) : Nat → Value → World → Prop
  | 0 => fun v _ => v = .pointer (some ⟨D, 0, none⟩)
  | 1 => fun v _ => v = .pointer (some ⟨D, 0, none⟩)
  | 2 => fun v _ => v = .pointer (some ⟨D, 3, none⟩)
  | 3 => fun v _ => v = .map (some M)
  | 4 => fun v _ => v = .int .i64 s
  | 5 => fun v _ => v = .int .i64 c
  | 6 => fun v _ => v = .pointer (some ⟨o, 1, none⟩)
  | 7 => fun v _ => v = .int .i64 d
  | 8 => fun v _ => v = .int .i64 (c + d)
  | _ => fun _ _ => True

set_option maxRecDepth 20000 in
set_option maxHeartbeats 2000000 in
theorem opened_any (v : Value) (m : Mill) (hr : checkE m = 0) (w : World) (hv : MillVal w v m) :
    Calls Tryz.prog 36 #[v] w fun e w' => ∃ D, e = .returned (.tuple #[.pointer (some ⟨D, 0, none⟩), .int .i64 0]) ∧ w.heap.size ≤ D ∧ Desk w' D m ∧ Ext w w' := by
  have hmm := @run_makeMap Tryz.prog
  have Hv := Lib.hid hv
  obtain ⟨l1, l2, l3⟩ := check_len hr
  have Hdays := Lib.hid (daysOf_bd hr)
  have Hord := Lib.hid (check_orders hr).1
  obtain ⟨A1, c1, A2, c2, rfl, h2, h3, h4, h5, h6, h7⟩ := hv
  have Hcaps := Lib.hid (And.intro h2 (And.intro h3 (And.intro h4 h5)))
  have hE := Ext.alloc w (.cells #[.slice A1 m.laced.length c1, .int .i64 m.change, .slice A2 m.orders.length c2] 25)
  have hM := Blk.new w 25 #[.slice A1 m.laced.length c1, .int .i64 m.change, .slice A2 m.orders.length c2]
  have hC := check_any _ m _ (Hv.out.ext hE)
  rw [hr] at hC
  have HC := Lib.hid hC
  clear hC hr h3 h5
  have h6' := Lib.hid h6; clear h6
  go_enter Tryz.func36, Tryz.ntmps36
  go_wp2_with fail
  refine HC.out.mono ?_
  rintro e w2 ⟨rfl, he2⟩
  have hE2 := hE.trans he2
  have hM2 := hM.ext he2
  clear hM he2 hE
  obtain ⟨k0, k1, k2⟩ := hM2.c3
  go_wp2_with fail
  have hmap0 : DaysMap (w2.alloc (.map #[] 0)) w2.heap.size 0 (fun _ => 0) := ⟨.map [], World.ownsMap_made _ _ _ _, fun s => rfl⟩
  have hbD := Blk.new (w2.alloc (.map #[] 0)) 83 #[.slice A1 m.laced.length c1, .int .i64 m.change, .slice A2 m.orders.length c2, .map (some w2.heap.size)]
  rw [World.size_alloc] at hbD
  have hE3 : Ext w2 ((w2.alloc (.map #[] 0)).alloc (.cells #[.slice A1 m.laced.length c1, .int .i64 m.change, .slice A2 m.orders.length c2, .map (some w2.heap.size)] 83)) := (Ext.alloc _ _).trans (Ext.alloc _ _)
  have hmap3 := hmap0.ext (by simp) (Ext.alloc (w2.alloc (.map #[] 0)) (.cells #[.slice A1 m.laced.length c1, .int .i64 m.change, .slice A2 m.orders.length c2, .map (some w2.heap.size)] 83))
  clear hmap0
  generalize (w2.alloc _).alloc _ = w3 at *
  obtain ⟨N, hN⟩ : ∃ N, N = 2 ^ m.orders.length := ⟨_, rfl⟩
  have hNb : N ≤ 128 := by
    have h1 : 2 ^ m.orders.length ≤ 2 ^ 7 := Nat.pow_le_pow_right (by omega) l3
    have h2 : (2 : Nat) ^ 7 = 128 := by decide
    omega
  refine (sets_any _ m (by omega) N hN w3 (Hv.out.ext (hE2.trans hE3))).mono ?_
  rintro e w4 ⟨rfl, he4⟩
  have HN := Lib.hid hN; clear hN
  have hE4 := hE2.trans (hE3.trans he4)
  have hb4 := hbD.ext he4
  have hM4 := hM2.ext (hE3.trans he4)
  have hmap4 := hmap3.ext hmap3.lt he4
  have hszM : w.heap.size + 1 ≤ w2.heap.size := hM2.lt
  clear hmap3 hbD hM2 he4 hE3 k0 k1 k2 HC
  generalize hMd : w2.heap.size = M at *
  clear hMd
  have h7' := Lib.hid h7; clear h7
  go_wp2
  go_loopw [6, 7, 8, 23] (fun _ _ _ i wr => ∃ s cnt : Nat, s ≤ N ∧ i = .int .i64 s ∧ Ext w wr ∧ Blk wr w.heap.size 25 #[.slice A1 m.laced.length c1, .int .i64 m.change, .slice A2 m.orders.length c2] ∧
      Blk wr (M + 1) 83 #[.slice A1 m.laced.length c1, .int .i64 m.change, .slice A2 m.orders.length c2, .map (some M)] ∧ cnt ≤ s * 7 ∧ Hid (DaysMap wr M cnt (fun x => if x < s then daysOf m m.orders.length x else 0)))
    (fun _ _ _ i _ => N - (intOf i).toNat)
  case atStart => exact ⟨0, 0, by omega, rfl, hE4, hM4, hb4, by omega, hmap4.congr (Nat.le_refl _) (fun x => by simp)⟩
  case round =>
    obtain ⟨s, cnt, hs, rfl, he, hM5, hb5, hcnt, hmap⟩ := hrel
    obtain ⟨k0, k1, k2⟩ := hM5.c3
    by_cases hlt : s < N
    · go_wp2
      obtain ⟨w5, hw5⟩ : ∃ w5, w5 = wr := ⟨_, rfl⟩
      rw [← hw5] at he hM5 hb5 hmap ⊢
      clear hw5 k0 k1 k2
      go_loopw [7, 8, 29] (fun _ _ i wr => ∃ k cnt : Nat, k ≤ m.orders.length ∧ i = .int .i64 k ∧ Ext w wr ∧ Blk wr w.heap.size 25 #[.slice A1 m.laced.length c1, .int .i64 m.change, .slice A2 m.orders.length c2] ∧
          Blk wr (M + 1) 83 #[.slice A1 m.laced.length c1, .int .i64 m.change, .slice A2 m.orders.length c2, .map (some M)] ∧ cnt ≤ s * 7 + k ∧
          Hid (DaysMap wr M cnt (fun x => if x < s then daysOf m m.orders.length x else if x = s then daysOf m k s else 0)))
        (fun _ _ i _ => m.orders.length - (intOf i).toNat)
      case atStart => exact ⟨0, cnt, by omega, rfl, he, hM5, hb5, by omega, hmap.out.congr (Nat.le_refl _) (fun x => by simp [daysOf])⟩
      case round =>
        obtain ⟨k, cnt, hk, rfl, he, hM5, hb5, hcnt, hmap⟩ := hrel
        by_cases hltk : k < m.orders.length
        · obtain ⟨b, o, rfl, A, ca, hca, q1, q2, q3, q4, q5⟩ := h7'.out.ext he k hltk
          have hdb := Hord.out (m.orders[k]?.getD default) (by simp [hltk])
          have hsum := Hdays.out k s (by omega)
          obtain ⟨dk, hdk⟩ : ∃ d, daysOf m k s = d := ⟨_, rfl⟩
          rw [hdk] at hsum
          have hstep : Hid (daysOf m (k + 1) s = dk + if s.testBit k then (m.orders[k]?.getD default).days else 0) := by unfold Hid; rw [← hdk]; rfl
          generalize m.orders[k]?.getD default = x0 at *
          have Hdk := Lib.hid hdk; clear hdk
          obtain ⟨q, hq⟩ : ∃ q, s.testBit k = q := ⟨_, rfl⟩
          have hbit := bit_test s k (by omega) q hq
          have Hq := Lib.hid hq; clear hq
          cases q with
          | false =>
            go_wp2
            go_roundw
            case rel =>
              refine ⟨k + 1, cnt, by omega, by go_num, he.trans (Ext.alloc _ _), hM5.alloc _, hb5.alloc _, by omega, ?_⟩
              refine (hmap.out.ext hmap.out.lt (Ext.alloc _ _)).congr (Nat.le_refl _) fun x => ?_
              rw [hstep.out, Hq.out, Hdk.out]
              simp
            case measure => simp [intOf]; omega
          | true =>
            go_wp2_with fail
            have hb8 := Blk.new wr 28 #[.int .i64 x0.pattern, .int .i64 x0.days, .int .i64 x0.by_, .slice A x0.on.length ca]
            have hX := Ext.alloc wr (.cells #[.int .i64 x0.pattern, .int .i64 x0.days, .int .i64 x0.by_, .slice A x0.on.length ca] 28)
            have hmapX := hmap.out.ext hmap.out.lt hX
            have hMX := hM5.ext hX
            have hbX := hb5.ext hX
            have heX := he.trans hX
            clear hX q1 q2 q3 q4 q5 hM5 hb5 hmap
            generalize wr.alloc _ = W at *
            have hmd : DaysMap W.drew M cnt _ := hmapX.ext hmapX.lt (Ext.drew _)
            have hlook := hmd.look s (by omega)
            have hle : (if s < s then daysOf m m.orders.length s else if s = s then daysOf m k s else 0) = dk := by simp; exact Hdk.out
            simp only at hlook
            obtain ⟨w', hrun, hmap', hg⟩ := hmd.store s (by omega) (by omega) (dk + x0.days) (by omega)
            have Hmap := Lib.hid hmap'; clear hmap' hmd hle hmapX
            obtain ⟨d0, d1, d2, d3⟩ := hbX.c4
            obtain ⟨o0, o1, o2, o3⟩ := hb8.c4
            refine wp_region_facts 9 (by kernel_rfl) (by kernel_rfl) (fun W' => W' = W.drew) (openR (M + 1) M wr.heap.size s dk x0.days) rfl ?_ ?_
            · simp only [List.take, AllOps, fill, Act.put, List.setIfInBounds_toArray, List.set_cons_zero, List.set_cons_succ, Nat.reduceAdd, Deps, and_true]
              refine ⟨?_, ?_, ?_, ?_, ?_, ?_, ?_, ?_, ?_⟩
              all_goals
                rintro x W' rfl hd K Q hK
                try (simp only [openR] at hd; simp only [hd] at hK ⊢)
                have HK := Lib.hid hK
                clear hK
                go_wp2
                exact HK.out _ _ (by first | rfl | exact congrArg (Value.int .i64) Hdk.out) rfl (fun _ _ h => h)
            · rintro x W' rfl hR
              simp only [AllR, openR, true_and] at hR
              obtain ⟨⟨⟨⟨⟨⟨⟨⟨r0, r1⟩, r2⟩, r3⟩, r4⟩, r5⟩, r6⟩, r7⟩, r8⟩ := hR
              simp only [List.take, List.drop, fill, Act.put, List.setIfInBounds_toArray, List.set_cons_zero, List.set_cons_succ, Nat.reduceAdd, r0, r1, r2, r3, r4, r5, r6, r7, r8]
              clear r0 r1 r2 r3 r4 r5 r6 r7 r8
              go_wp2
              go_roundw
              case rel =>
                refine ⟨k + 1, cnt + 1, by omega, by go_num, Below.grown (heX.trans (Ext.drew _)) hg heX.size (fun j e => by cases e; omega), hMX.drew.grown hg (by intro e; have := Option.some.inj e; omega), hbX.drew.grown hg (by intro e; have := Option.some.inj e; omega), by omega, ?_⟩
                refine Hmap.out.congr (Nat.le_refl _) fun x => ?_
                rw [hstep.out, Hq.out]
                by_cases e : x = s
                · subst e; simp
                · simp [e]
              case measure => simp [intOf]; omega
        · go_wp2
          go_roundw
          case rel =>
            have hkn : k = m.orders.length := by omega
            refine ⟨s + 1, cnt, by omega, by go_num, he, hM5, hb5, by omega, hmap.out.congr (Nat.le_refl _) fun x => ?_⟩
            rw [hkn]
            by_cases e : x = s
            · subst e; simp
            · by_cases e2 : x < s
              · rw [if_pos e2, if_pos (by omega)]
              · rw [if_neg e2, if_neg e, if_neg (by omega)]
          case measure => simp [intOf]; omega
    · go_wp2
      go_ret2
      refine ⟨M + 1, rfl, by omega, ⟨A1, c1, A2, c2, M, cnt, hb5, Hcaps.out.1, Hcaps.out.2.1, Hcaps.out.2.2.1, Hcaps.out.2.2.2, h6'.out.ext he, h7'.out.ext he, hmap.out.lt, hmap.out.congr (Nat.le_refl _) (fun x => ?_)⟩, he⟩
      have : s = N := by omega
      rw [this, HN.out]
end Go.Proofs.Pet

namespace Go.Proofs.Pet
open Go Go.RowKit

def markOf (D : Nat) : Deferred := { target := .collected D, args := #[] }
/-- the marks that lie there, each at a block of its own, from lo on and ahead of hi -/
def Marks (W : World) (lo hi : Nat) (ds : List Deferred) : Prop :=
  ∃ l : List Nat, ds = l.map markOf ∧ l.Nodup ∧ ∀ D ∈ l, lo ≤ D ∧ D < hi ∧ W.heap[D]? = some (.deferred (some []))
theorem Marks.nil (W : World) (lo hi : Nat) : Marks W lo hi [] := ⟨[], rfl, List.nodup_nil, fun _ h => by cases h⟩
theorem Marks.ext {W W' : World} {lo hi : Nat} {ds : List Deferred} (h : Marks W lo hi ds) (he : Ext W W') : Marks W' lo hi ds := by
  obtain ⟨l, h1, h2, h3⟩ := h
  exact ⟨l, h1, h2, fun D hD => ⟨(h3 D hD).1, (h3 D hD).2.1, he.block (h3 D hD).2.2⟩⟩
theorem Marks.mono {W : World} {lo hi hi' : Nat} {ds : List Deferred} (h : Marks W lo hi ds) (hh : hi ≤ hi') : Marks W lo hi' ds := by
  obtain ⟨l, h1, h2, h3⟩ := h
  exact ⟨l, h1, h2, fun D hD => ⟨(h3 D hD).1, Nat.lt_of_lt_of_le (h3 D hD).2.1 hh, (h3 D hD).2.2⟩⟩
theorem Marks.set_ {W : World} {lo hi : Nat} {ds : List Deferred} {p : Addr} {t : TypeId} {cs : Array Value} (h : Marks W lo hi ds) (hb : Blk W p.block t cs) (v : Value) : Marks (W.setCell p v) lo hi ds := by
  obtain ⟨l, h1, h2, h3⟩ := h
  refine ⟨l, h1, h2, fun D hD => ⟨(h3 D hD).1, (h3 D hD).2.1, ?_⟩⟩
  refine (Below.heap_setCell W p v D fun e => ?_).trans (h3 D hD).2.2
  have h4 := (h3 D hD).2.2
  rw [e] at h4
  unfold Blk at hb
  rw [hb] at h4
  cases h4
theorem Marks.loops {W W' : World} {lo hi B : Nat} {ds : List Deferred} (h : Marks W lo hi ds) (hk : Loops B W W') (hB : hi ≤ B) : Marks W' lo hi ds := by
  obtain ⟨l, h1, h2, h3⟩ := h
  refine ⟨l, h1, h2, fun D hD => ⟨(h3 D hD).1, (h3 D hD).2.1, ?_⟩⟩
  have h4 := (h3 D hD).2.2
  exact (hk.low D (Nat.lt_of_lt_of_le (h3 D hD).2.1 hB) (Array.getElem?_eq_some_iff.1 h4).1).trans h4
theorem Marks.push {W : World} {lo hi : Nat} {ds : List Deferred} {D : Nat} (h : Marks W lo hi ds) (hlo : lo ≤ D) (hhi : hi ≤ D) (hD : W.heap[D]? = some (.deferred (some []))) : Marks W lo (D + 1) (markOf D :: ds) := by
  obtain ⟨l, h1, h2, h3⟩ := h
  refine ⟨D :: l, by rw [h1]; rfl, List.nodup_cons.2 ⟨fun hm => ?_, h2⟩, fun D' hD' => ?_⟩
  · have := (h3 D hm).2.1
    omega
  · rcases List.mem_cons.1 hD' with rfl | hm
    · exact ⟨hlo, by omega, hD⟩
    · exact ⟨(h3 D' hm).1, by have := (h3 D' hm).2.1; omega, (h3 D' hm).2.2⟩

theorem leaves_marks {F : Fence} {n : Nat} {P : Program} {fn : Func} {tmps : Array Value} {R : Ending → World → Prop} {lo hi : Nat} {v : Value} : ∀ (ds : List Deferred) (W : World), Marks W lo hi ds →
    (∀ W', (results fn tmps).run P W' = .ok v W') → (∀ W', (∀ k, (k < lo ∨ ∃ c e fz, W.heap[k]? = some (Obj.cells c e fz)) → W'.heap[k]? = W.heap[k]?) → W'.os = W.os → W'.tape = W.tape → W'.output = W.output → W.heap.size ≤ W'.heap.size → R (.returned v) W') → LeavesInM F n P fn tmps R ds .returning W
  | [], W, _, hr, hR => by
    unfold LeavesInM LeavesIn
    exact ⟨v, hr W, hR W (fun _ _ => rfl) rfl rfl rfl (Nat.le_refl _)⟩
  | d :: ds, W, hm, hr, hR => by
    obtain ⟨l, h1, h2, h3⟩ := hm
    cases l with
    | nil => cases h1
    | cons D l =>
      rw [List.map_cons] at h1
      injection h1 with h1a h1b
      subst h1a h1b
      have hD := h3 D (by simp)
      have hg := grownBy_putObj' W D (.deferred none)
      refine ⟨by simp, .inl ⟨D, _, rfl, run_takeDeferred hD.2.2, ?_⟩⟩
      refine leaves_marks (lo := lo) (hi := hi) (l.map markOf) _ ⟨l, rfl, (List.nodup_cons.1 h2).2, fun D' hD' => ?_⟩ hr (fun W' hk ho ht hp hs => hR W' (fun k hkk => ?_) (ho.trans hg.os) (ht.trans hg.tape) (hp.trans hg.output) (Nat.le_trans hg.size hs))
      · have h4 := h3 D' (List.mem_cons_of_mem _ hD')
        refine ⟨h4.1, h4.2.1, ?_⟩
        rw [World.putObj_heap_other (fun e : D' = D => (List.nodup_cons.1 h2).1 (by rw [← e]; exact hD'))]
        exact h4.2.2
      · have hne : k ≠ D := by
          rintro rfl
          rcases hkk with hlt | ⟨c, e, fz, hc⟩
          · have := hD.1; omega
          · rw [hD.2.2] at hc; cases hc
        have e1 : (W.putObj D (.deferred none)).heap[k]? = W.heap[k]? := World.putObj_heap_other hne
        rw [hk k ?_, e1]
        rw [e1]; exact hkk
/-- what a return through marks leaves -/
structure Quits (lo : Nat) (W W' : World) : Prop where
  same : ∀ k, (k < lo ∨ ∃ c e fz, W.heap[k]? = some (Obj.cells c e fz)) → W'.heap[k]? = W.heap[k]?
  os : W'.os = W.os
  tape : W'.tape = W.tape
  output : W'.output = W.output
  size : W.heap.size ≤ W'.heap.size
theorem Quits.blk {lo : Nat} {W W' : World} (h : Quits lo W W') {b : Nat} {t : TypeId} {cs : Array Value} (hb : Blk W b t cs) : Blk W' b t cs := (h.same b (.inr ⟨_, _, _, hb⟩)).trans hb
theorem Quits.ext {lo : Nat} {w W W' : World} (h : Quits lo W W') (he : Ext w W) (hlo : w.heap.size ≤ lo) : Ext w W' :=
  ⟨h.os.trans he.os, h.tape.trans he.tape, h.output.trans he.output, Nat.le_trans he.size h.size, fun k hk => (h.same k (.inl (by omega))).trans (Below.block he k hk)⟩
theorem leaves_marks' {F : Fence} {n : Nat} {P : Program} {fn : Func} {tmps : Array Value} {R : Ending → World → Prop} {lo hi : Nat} {v : Value} (ds : List Deferred) (W : World) (hm : Marks W lo hi ds)
    (hr : ∀ W', (results fn tmps).run P W' = .ok v W') (hR : ∀ W', Quits lo W W' → R (.returned v) W') : LeavesInM F n P fn tmps R ds .returning W :=
  leaves_marks ds W hm hr fun W' h1 h2 h3 h4 h5 => hR W' ⟨h1, h2, h3, h4, h5⟩
end Go.Proofs.Pet
