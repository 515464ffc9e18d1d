/- Joined texts: P05, P06. -/
import Derived.Test.YtlekonngbmkdbaaGreatJ01
import Derived.Test.YtlekonngbmkdbaaGreatP01
namespace Go.Proofs.Pet
open Go Go.RowKit Go.Shelf
attribute [local go_sem] Oper.semAt_some

/-- an order of a set -/
abbrev In (s : Nat) : Type := { i : Nat // s.testBit i = true }
/-- the orders of a set, below k -/
def bitsS (s k : Nat) : List (In s) := (List.range k).filterMap fun i => if h : s.testBit i = true then some ⟨i, h⟩ else none
theorem bitsS_succ_in (s k : Nat) (h : s.testBit k = true) : bitsS s (k + 1) = bitsS s k ++ [⟨k, h⟩] := by
  unfold bitsS
  rw [List.range_succ, List.filterMap_append]
  simp [h]
theorem bitsS_succ_out (s k : Nat) (h : s.testBit k = false) : bitsS s (k + 1) = bitsS s k := by
  unfold bitsS
  rw [List.range_succ, List.filterMap_append]
  simp [h]
theorem bitsS_map (s k : Nat) : (bitsS s k).map (·.1) = bits k s := by
  induction k with
  | zero => rfl
  | succ k ih =>
    rw [bits_succ]
    cases h : s.testBit k with
    | true => rw [bitsS_succ_in s k h, List.map_append, ih]; simp
    | false => rw [bitsS_succ_out s k h, ih]; simp
theorem bitsS_length (s k : Nat) : (bitsS s k).length ≤ k := by
  have h := congrArg List.length (bitsS_map s k)
  rw [List.length_map] at h
  rw [h]
  exact bits_length_le k s
def encK (s : Nat) (x : In s) : Array Value := #[.int .i64 (x.1 : Int), .int .i64 (sdiff s (2 ^ x.1) : Nat)]
/-- what an iterator of lacking asks its rounds to keep: its two boxes -/
def KeepsTwo (B : Nat) (W W' : World) : Prop := W'.heap[B]? = W.heap[B]? ∧ W'.heap[B + 1]? = W.heap[B + 1]?

def lackR (s k p2 p3 p10 p11 : Nat) (l : Nat) (q : Bool) : Nat → Value → World → Prop
  | 0 => fun v _ => v = .int .i64 s
  | 1 => fun v _ => v = .int .i64 k
  | 2 => fun v _ => v = .int .i64 p2
  | 3 => fun v _ => v = .int .i64 p3
  | 4 => fun v _ => v = .bool q
  | 5 => fun v _ => v = .bool q
  | 6 => fun v _ => v = if q then .func (.yield l) #[] #[] else undef
  | 7 => fun v _ => v = if q then .int .i64 k else undef
  | 8 => fun v _ => v = if q then .int .i64 s else undef
  | 9 => fun v _ => v = if q then .int .i64 k else undef
  | 10 => fun v _ => v = if q then .int .i64 p10 else undef
  | 11 => fun v _ => v = if q then .int .i64 p11 else undef
  | _ => fun _ _ => True

set_option maxRecDepth 20000 in
set_option maxHeartbeats 1000000 in
theorem lacking1_in (F : Fence) (n0 : Nat) (hF : F.fn 236) (hro : F.round = none) (hn : 1 ≤ n0) (l B : Nat) (A1 : Value) (ch : Value) (A2 : Option Addr) (c2 : Nat) (n s : Nat) (hn7 : n ≤ 20) (hs : s ≤ 1048576)
    (J Jx : List (In s) → World → Prop)
    (hY : ∀ pre x W, J pre W → pre.length < n → YieldAt F (n0 - 1) Tryz.prog l (encK s x) W fun e W' =>
      (e = .returned (.bool true) ∧ J (pre ++ [x]) W' ∧ KeepsTwo B W W') ∨ (e = .returned (.bool false) ∧ Jx (pre ++ [x]) W'))
    (W : World) (hB1 : Blk W B 25 #[A1, ch, .slice A2 n c2]) (hB2 : Blk W (B + 1) 3 #[.int .i64 s]) (h0 : J [] W) (hJ : AbidesFrom W.heap.size J) (_hJx : AbidesFrom W.heap.size Jx) :
    CallsIn F n0 Tryz.prog 236 #[.func (.yield l) #[] #[], .pointer (some ⟨B, 0, none⟩), .pointer (some ⟨B + 1, 0, none⟩)] W fun e W' => (∃ v, e = .returned v) ∧
      ((∃ ys, ys = bitsS s n ∧ J ys W') ∨ (∃ pre, (∃ k, k ≤ n ∧ pre = bitsS s k) ∧ Jx pre W')) := by
  refine callsIn_of_wp Tryz.func236 rfl hF ?_ hro
  simp only [Tryz.ntmps236, List.size_toArray, List.length_cons, List.length_nil, Nat.reduceAdd, Nat.reduceSub, Array.replicate_succ, Array.replicate_zero, List.push_toArray, List.append_toArray, List.nil_append, List.cons_append]
  obtain ⟨k0, k1, k2⟩ := hB1.c3
  gi_wp2
  clear k0 k1 k2
  gi_loopw [4, 8] (fun _ i wr => ∃ k : Nat, k ≤ n ∧ i = .int .i64 k ∧ J (bitsS s k) wr ∧ Blk wr B 25 #[A1, ch, .slice A2 n c2] ∧ Blk wr (B + 1) 3 #[.int .i64 s])
    (fun _ i _ => n - (intOf i).toNat)
  case atStart => exact ⟨0, Nat.zero_le _, rfl, h0, hB1, hB2⟩
  case round =>
    obtain ⟨k, hk, rfl, hJs, hB1', hB2'⟩ := hrel
    have kc := hB2'.c1
    by_cases hlt : k < n
    · gi_wp2
      obtain ⟨q, hq⟩ : ∃ q, s.testBit k = q := ⟨_, rfl⟩
      obtain ⟨p2, hp2⟩ : ∃ p, p = s >>> k := ⟨_, rfl⟩
      obtain ⟨p3, hp3⟩ : ∃ p, p = p2 % 2 := ⟨_, rfl⟩
      obtain ⟨p10, hp10⟩ : ∃ p, p = 2 ^ k := ⟨_, rfl⟩
      obtain ⟨p11, hp11⟩ : ∃ p, p = sdiff s p10 := ⟨_, rfl⟩
      have b2 : p2 ≤ 1048576 := by rw [hp2, Nat.shiftRight_eq_div_pow]; exact Nat.le_trans (Nat.div_le_self _ _) hs
      have b10 : p10 ≤ 1048576 := by
        have h1 : 2 ^ k ≤ 2 ^ 20 := Nat.pow_le_pow_right (by omega) (by omega)
        have h2 : (2 : Nat) ^ 20 = 1048576 := by decide
        omega
      have hq3 : Hid (q = decide (p3 = 1)) := by unfold Hid; rw [← hq, hp3, hp2, Nat.testBit_eq_decide_div_mod_eq, Nat.shiftRight_eq_div_pow]
      have P2 := Lib.hid hp2; have P3 := Lib.hid hp3; have P10 := Lib.hid hp10; have P11 := Lib.hid hp11; have Hq := Lib.hid hq
      clear hp2 hp3 hp10 hp11 hq
      have hb3 : p3 ≤ 1 := by have := P3.out; omega
      refine wpIn_region_facts 12 (by kernel_rfl) (by kernel_rfl) (fun W' => W' = wr.drew) (lackR s k p2 p3 p10 p11 l q) ?_ ?_ ?_
      · rfl
      · simp only [List.take, AllOpsIn, fill, Act.put, List.setIfInBounds_toArray, List.set_cons_zero, List.set_cons_succ, Nat.reduceAdd, Deps, and_true]
        refine ⟨?_, ?_, ?_, ?_, ?_, ?_, ?_, ?_, ?_, ?_, ?_, ?_⟩
        all_goals
          rintro x W' rfl hd K Q hK
          try (simp only [lackR] at hd)
        · have HK := Lib.hid hK; clear hK
          gi_wp2; exact HK.out _ _ rfl rfl (fun _ _ h => h)
        · have HK := Lib.hid hK; clear hK
          gi_wp2; exact HK.out _ _ rfl rfl (fun _ _ h => h)
        · simp only [hd] at hK ⊢
          have HK := Lib.hid hK; clear hK
          gi_wp2
          exact HK.out _ _ (by show _ = Value.int .i64 (p2 : Int); rw [P2.out, Nat.shiftRight_eq_div_pow]; simp) rfl (fun _ _ h => h)
        · simp only [hd] at hK ⊢
          have HK := Lib.hid hK; clear hK
          gi_wp2
          exact HK.out _ _ (by show _ = Value.int .i64 (p3 : Int); rw [and_one p2 (by omega), P3.out]) rfl (fun _ _ h => h)
        · simp only [hd] at hK ⊢
          have HK := Lib.hid hK; clear hK
          gi_wp2
          exact HK.out _ _ (by show _ = Value.bool q; rw [hq3.out]; congr 1; rw [Bool.eq_iff_iff]; simp; omega) rfl (fun _ _ h => h)
        · simp only [hd] at hK ⊢
          have HK := Lib.hid hK; clear hK
          gi_wp2; exact HK.out _ _ rfl rfl (fun _ _ h => h)
        · cases q with
          | false =>
            simp only [hd] at hK ⊢
            have HK := Lib.hid hK; clear hK
            gi_wp2
            exact HK.out _ _ rfl rfl (fun _ _ h => h)
          | true =>
            simp only [hd] at hK ⊢
            have HK := Lib.hid hK; clear hK
            gi_wp2
            exact HK.out _ _ rfl rfl (fun _ _ h => h)
        · cases q with
          | false =>
            simp only [hd] at hK ⊢
            have HK := Lib.hid hK; clear hK
            gi_wp2
            exact HK.out _ _ rfl rfl (fun _ _ h => h)
          | true =>
            simp only [hd] at hK ⊢
            have HK := Lib.hid hK; clear hK
            gi_wp2
            exact HK.out _ _ rfl rfl (fun _ _ h => h)
        · cases q with
          | false =>
            simp only [hd] at hK ⊢
            have HK := Lib.hid hK; clear hK
            gi_wp2
            exact HK.out _ _ rfl rfl (fun _ _ h => h)
          | true =>
            simp only [hd] at hK ⊢
            have HK := Lib.hid hK; clear hK
            gi_wp2
            exact HK.out _ _ rfl rfl (fun _ _ h => h)
        · cases q with
          | false =>
            simp only [hd] at hK ⊢
            have HK := Lib.hid hK; clear hK
            gi_wp2
            exact HK.out _ _ rfl rfl (fun _ _ h => h)
          | true =>
            simp only [hd] at hK ⊢
            have HK := Lib.hid hK; clear hK
            gi_wp2
            exact HK.out _ _ rfl rfl (fun _ _ h => h)
        · obtain ⟨d9, d5⟩ := hd
          cases q with
          | false =>
            simp only [d5] at hK ⊢
            have HK := Lib.hid hK; clear hK d5
            gi_wp2
            exact HK.out _ _ rfl rfl (fun _ _ h => h)
          | true =>
            simp only [if_true] at d9
            simp only [d5, d9] at hK ⊢
            have HK := Lib.hid hK; clear hK d5 d9
            gi_wp2
            exact HK.out _ _ (by show _ = Value.int .i64 (p10 : Int); rw [P10.out, wrap64_pow' k (by omega)]) rfl (fun _ _ h => h)
        · obtain ⟨d8, d10, d5⟩ := hd
          cases q with
          | false =>
            simp only [d5] at hK ⊢
            have HK := Lib.hid hK; clear hK d5
            gi_wp2
            exact HK.out _ _ rfl rfl (fun _ _ h => h)
          | true =>
            simp only [if_true] at d8 d10
            simp only [d5, d8, d10] at hK ⊢
            have HK := Lib.hid hK; clear hK d5 d8 d10
            gi_wp2
            exact HK.out _ _ (by show _ = Value.int .i64 (p11 : Int); rw [andNot64 s p10 (by omega) (by omega), P11.out]) rfl (fun _ _ h => h)
      · rintro x W' rfl hR
        simp only [AllR, lackR, true_and] at hR
        have r11 := hR.2
        replace hR := hR.1
        have r10 := hR.2
        replace hR := hR.1
        have r9 := hR.2
        replace hR := hR.1
        have r8 := hR.2
        replace hR := hR.1
        have r7 := hR.2
        replace hR := hR.1
        have r6 := hR.2
        replace hR := hR.1
        have r5 := hR.2
        replace hR := hR.1
        have r4 := hR.2
        replace hR := hR.1
        have r3 := hR.2
        replace hR := hR.1
        have r2 := hR.2
        replace hR := hR.1
        have r1 := hR.2
        replace hR := hR.1
        have r0 := hR
        clear hR
        simp only [List.take, List.drop, fill, Act.put, List.setIfInBounds_toArray, List.set_cons_zero, List.set_cons_succ, Nat.reduceAdd]
        have hJd : J (bitsS s k) wr.drew := hJ _ wr wr.drew none hJs ⟨rfl, rfl, rfl, Nat.le_refl _, fun _ _ _ => rfl⟩ (fun r e => by cases e)
        cases q with
        | false =>
          simp only [r0, r1, r2, r3, r4, r5, r6, r7, r8, r9, r10, r11, Bool.false_eq_true, if_false]
          clear r0 r1 r2 r3 r4 r5 r6 r7 r8 r9 r10 r11
          gi_wp2
          refine ⟨fun _ h => (by cases h), ?_⟩
          gi_wp2
          go_roundw
          case rel => exact ⟨k + 1, by omega, by go_num, by rw [bitsS_succ_out s k Hq.out]; exact hJd, hB1', hB2'⟩
          case measure => simp [intOf]; omega
        | true =>
          simp only [r0, r1, r2, r3, r4, r5, r6, r7, r8, r9, r10, r11, if_true]
          clear r0 r1 r2 r3 r4 r5 r6 r7 r8 r9 r10 r11
          have hlen : (bitsS s k).length < n := by
            have := bitsS_length s k
            omega
          obtain ⟨fn, tmps, assign, body, hy, hR⟩ := hY _ ⟨k, Hq.out⟩ wr.drew hJd hlen
          simp only [encK, ← P10.out, ← P11.out] at hy
          have Hls := Lib.hid (bitsS_succ_in s k Hq.out)
          gi_wp2_with fail
          refine hR.mono ?_
          rintro e W3 (⟨rfl, hJ3, hk3⟩ | ⟨rfl, hJx3⟩)
          · gi_wp2
            go_roundw
            case rel => exact ⟨k + 1, by omega, by go_num, by rw [Hls.out]; exact hJ3, hk3.1.trans hB1', hk3.2.trans hB2'⟩
            case measure => simp [intOf]; omega
          · gi_wp2
            refine bodyPost_ret (results_none rfl _ _ _) rfl ?_
            exact ⟨⟨_, rfl⟩, .inr ⟨_, ⟨k + 1, by omega, Hls.out.symm⟩, hJx3⟩⟩
    · obtain rfl : k = n := by omega
      gi_wp2
      go_end0
      exact ⟨⟨_, rfl⟩, .inl ⟨_, rfl, hJs⟩⟩

theorem lacking_stops (F : Fence) (n0 : Nat) (hF : F.fn 236) (hro : F.round = none) (hn : 1 ≤ n0) (B : Nat) (A1 : Value) (ch : Value) (A2 : Option Addr) (c2 : Nat) (n s : Nat) (hn7 : n ≤ 20) (hs : s ≤ 1048576)
    (w : World) (hB1 : Blk w B 25 #[A1, ch, .slice A2 n c2]) (hB2 : Blk w (B + 1) 3 #[.int .i64 s]) :
    SeqStopsK F n0 Tryz.prog 236 #[.pointer (some ⟨B, 0, none⟩), .pointer (some ⟨B + 1, 0, none⟩)] (encK s) (KeepsTwo B) (fun ys => ys = bitsS s n) (fun pre => ∃ k, k ≤ n ∧ pre = bitsS s k) n w :=
  fun l J Jx W hW hJ hJx hY h0 => lacking1_in F n0 hF hro hn l B A1 ch A2 c2 n s hn7 hs J Jx hY W (Blk.below hB1 hW hB1.lt) (Blk.below hB2 hW hB2.lt) h0 hJ hJx

theorem lacking_any (v : Value) (m : Mill) (s : Int) (w : World) (hv : MillVal w v m) :
    Calls Tryz.prog 161 #[v, .int .i64 s] w fun e w' => e = .returned (.func (.func 236) #[] #[.pointer (some ⟨w.heap.size, 0, none⟩), .pointer (some ⟨w.heap.size + 1, 0, none⟩)]) ∧ Ext w w' ∧
      (∃ A1 A2 c2, Blk w' w.heap.size 25 #[A1, .int .i64 m.change, .slice A2 m.orders.length c2]) ∧ Blk w' (w.heap.size + 1) 3 #[.int .i64 s] := by
  have hmf : ∀ (fn : Fn) (first cap : Array Value) (w : World), (Instr.makeFunc fn first cap).run Tryz.prog w = .ok (.func fn first cap) w := fun _ _ _ _ => rfl
  obtain ⟨A1, c1, A2, c2, rfl, h2, h3, h4, h5, h6, h7⟩ := hv
  have hb1 := (Blk.new w 25 #[.slice A1 m.laced.length c1, .int .i64 m.change, .slice A2 m.orders.length c2]).alloc (.cells #[.int .i64 s] 3)
  have hb2 := Blk.new (w.alloc (.cells #[.slice A1 m.laced.length c1, .int .i64 m.change, .slice A2 m.orders.length c2] 25)) 3 #[.int .i64 s]
  rw [World.size_alloc] at hb2
  have hE := (Ext.alloc w (.cells #[.slice A1 m.laced.length c1, .int .i64 m.change, .slice A2 m.orders.length c2] 25)).trans (Ext.alloc _ (.cells #[.int .i64 s] 3))
  clear h6 h7 h3 h5
  have Hb1 := Lib.hid hb1; have Hb2 := Lib.hid hb2; clear hb1 hb2
  go_enter Tryz.func161, Tryz.ntmps161
  go_wp2
  go_ret
  exact ⟨rfl, hE, ⟨_, _, _, Hb1.out⟩, Hb2.out⟩

theorem KeepsTwo.t {B : Nat} {X Y Z : World} (h : KeepsTwo B X Y) (k : KeepsTwo B Y Z) : KeepsTwo B X Z := ⟨k.1.trans h.1, k.2.trans h.2⟩
theorem KeepsTwo.b {B : Nat} {w : World} (hB : B + 1 < w.heap.size) (W : World) (l : Nat) (o o' : Obj) (hl : w.heap.size ≤ l) (h : W.heap[l]? = some o) (_ : o.isCells = false) (_ : o.isWalk = false) : KeepsTwo B W (W.putObj l o') :=
  ⟨(grownBy_putObj' W l o').block B (by have := (Array.getElem?_eq_some_iff.1 h).1; omega) (fun e => by cases e; omega), (grownBy_putObj' W l o').block (B + 1) (by have := (Array.getElem?_eq_some_iff.1 h).1; omega) (fun e => by cases e; omega)⟩

/-- what the book-keeping of a range over a function leaves: cells, and whatever lay below B -/
structure Loops (B : Nat) (W W' : World) : Prop where
  os : W'.os = W.os
  tape : W'.tape = W.tape
  output : W'.output = W.output
  size : W.heap.size ≤ W'.heap.size
  cells : ∀ (k : Nat) (c : Array Value) (e : TypeId) (fz : Nat × Nat), W.heap[k]? = some (Obj.cells c e fz) → W'.heap[k]? = some (Obj.cells c e fz)
  low : ∀ (k : Nat), k < B → k < W.heap.size → W'.heap[k]? = W.heap[k]?
theorem Blk.loops {W W' : World} {B b : Nat} {t : TypeId} {cs : Array Value} (h : Blk W b t cs) (hk : Loops B W W') : Blk W' b t cs := hk.cells _ _ _ _ h
theorem Ext.loops {w W W' : World} {B : Nat} (h : Ext w W) (hk : Loops B W W') (hB : w.heap.size ≤ B) : Ext w W' :=
  ⟨hk.os.trans h.os, hk.tape.trans h.tape, hk.output.trans h.output, Nat.le_trans h.size hk.size, fun k hlt => (hk.low k (by omega) (by have := h.size; omega)).trans (Below.block h k hlt)⟩
theorem OwnI.loops {W W' : World} {B base : Nat} {e : TypeId} {v : Value} {xs : List Int} (h : OwnI W base e v xs) (hk : Loops B W W') : OwnI W' base e v xs := by
  obtain ⟨h1, h2⟩ := h
  refine ⟨h1, ?_⟩
  rcases h2 with h2 | ⟨g, cap, cur, rfl, hg, hb, r⟩
  · exact .inl h2
  · exact .inr ⟨g, cap, cur, rfl, hg, hk.cells _ _ _ _ hb, r⟩
theorem ownFrom_keep {β : Type} {B : Nat} {I : β → World → Prop} (h : ∀ s W W', I s W → Loops B W W' → I s W') : OwnFrom B I := by
  intro s W W' row hs hg hr
  refine h s W W' hs ⟨hg.os, hg.tape, hg.output, hg.size, fun k c e fz hc => ?_, fun k hk hlt => hg.block k hlt (fun e' => by have := (hr k e'.symm).1; omega)⟩
  rw [hg.block k (Array.getElem?_eq_some_iff.1 hc).1 (fun e' => by
    obtain ⟨_, o, ho, hw⟩ := hr k e'.symm
    rw [hc] at ho; cases ho; cases hw)]
  exact hc
theorem keepsFrom_ext {B : Nat} {W W' : World} (h : Ext W W') : KeepsFrom B W W' := ⟨h.size, fun _k _o _ hk _ => h.block hk⟩

/-- 'for k, rest := range m.lacking(s) { .. }' -/
theorem wp_lacking {g : Operand} {ps : Array Tmp} {assign body : Code} {Q : Exit → Act → World → Prop} {a : Act} {w : World} {B : Nat} {A1 ch : Value} {A2 : Option Addr} {c2 n s : Nat} (hn7 : n ≤ 20) (hs : s ≤ 1048576)
    (hB1 : Blk w B 25 #[A1, ch, .slice A2 n c2]) (hB2 : Blk w (B + 1) 3 #[.int .i64 s])
    (hg : a.eval g = .func (.func 236) #[] #[.pointer (some ⟨B, 0, none⟩), .pointer (some ⟨B + 1, 0, none⟩)]) (hps : ps.size = 2)
    (I : List (In s) → World → Prop) (Ix : Code → List (In s) → World → Prop) (hI : ∀ p W W', I p W → Loops w.heap.size W W' → I p W') (hIx : ∀ c p W W', Ix c p W → Loops w.heap.size W W' → Ix c p W') (h0 : I [] w) (a₁ : In s → Act)
    (hassign : ∀ (l : Nat) (x : In s) (W : World) (K : Act → World → Prop), K (a₁ x) W →
      assign.wpIn (Fence.wide.inRound l) 3 Tryz.prog (Exit.then K (fun _ _ _ => False)) { tmps := (ps.zip (encK s x)).foldl (fun t (p, v) => t.setIfInBounds p v) a.tmps, defers := [] } W)
    (hbody : ∀ (l : Nat) (pre : List (In s)) (x : In s) (W : World), I pre W → body.wpIn (Fence.wide.inRound l) 3 Tryz.prog (ownPostG w.heap.size (KeepsTwo B) I Ix (pre ++ [x]) W) (a₁ x) W)
    (hdone : ∀ (D : Nat) (W : World), w.heap.size ≤ D → I (bitsS s n) W → W.heap[D]? = some (.deferred (some [])) → Q .normal { a with defers := { target := .collected D, args := #[] } :: a.defers } W)
    (hstop : ∀ (D : Nat) (c : Code) (pre : List (In s)) (W : World), w.heap.size ≤ D → (∃ k, k ≤ n ∧ pre = bitsS s k) → Ix c pre W → W.heap[D]? = some (.deferred (some [])) → c.wp Tryz.prog Q { a with defers := { target := .collected D, args := #[] } :: a.defers } W) :
    (Code.rangeFunc g ps assign body).wp Tryz.prog Q a w := by
  refine (wpIn_wide (n := 5)).1 (wpIn_rangeFunc_ownG (n := 5) (by rfl) (by omega) hg trivial (enters_of Tryz.func236 (by kernel_rfl) rfl)
    (lacking_stops Fence.wide 4 trivial (by rfl) (by omega) B A1 ch A2 c2 n s hn7 hs w hB1 hB2) (KeepsTwo.t) (KeepsTwo.b hB2.lt) (Below.refl _ _) (fun x => by rw [hps]; rfl) I Ix
    (ownFrom_keep hI) (fun c => ownFrom_keep (hIx c)) h0 a₁ hassign (fun l pre x W hi _ => hbody l pre x W hi) (fun D xs W hD hxs hi hK => by subst hxs; exact hdone D W hD hi hK) (fun D c pre W hD hp hi hK => wpIn_wide.2 (hstop D c pre W hD hp hi hK)))
end Go.Proofs.Pet

namespace Go.Proofs.Pet
open Go Go.RowKit Go.Maps

/-- the days of the orders of a set, below k -/
def daysOf (m : Mill) : Nat → Nat → Int
  | 0, _ => 0
  | k + 1, s => daysOf m k s + if s.testBit k then (m.orders[k]?.getD default).days else 0
theorem keyed_int : Keyed Tryz.prog 3 := int_keyed Tryz.underlying3
theorem zero_int (w : World) : (zeroValue 3).run Tryz.prog w = .ok (.int .i64 0) w := by kernel_rfl
/-- a map from sets to numbers, 0 where there is nothing -/
def DaysMap (w : World) (M cnt : Nat) (f : Nat → Int) : Prop :=
  ∃ D : DataW Unit, w.ownsMap Tryz.prog 3 (plainElem Tryz.prog 3) M cnt D ∧ ∀ s : Nat, D.atKey (.int .i64 s) (.lit (.int .i64 0)) = .lit (.int .i64 (f s))
/-- a mill at work, in a block of its own -/
def Desk (w : World) (D : Nat) (m : Mill) : Prop :=
  ∃ A1 c1 A2 c2 M cnt, Blk w D 109 #[.slice A1 m.laced.length c1, .int .i64 m.change, .slice A2 m.orders.length c2, .map (some M)] ∧ m.laced.length ≤ c1 ∧ c1 ≤ maxLen ∧ m.orders.length ≤ c2 ∧ c2 ≤ maxLen ∧
    IntsAt w A1 m.laced ∧ OrdsAt w A2 m.orders ∧ M < w.heap.size ∧ DaysMap w M cnt (fun s => if s < 2 ^ m.orders.length then daysOf m m.orders.length s else 0)
theorem DaysMap.ext {w w' : World} {M cnt : Nat} {f : Nat → Int} (h : DaysMap w M cnt f) (_hM : M < w.heap.size) (he : Ext w w') : DaysMap w' M cnt f := by
  obtain ⟨D, h1, h2⟩ := h
  refine ⟨D, ?_, h2⟩
  exact h1.kept ⟨he.os, he.tape, he.output, he.size, fun k hk _ => Below.block he k hk⟩ (by simp : some M ≠ none)

theorem lit_inj {a b : Int} (h : (DataW.lit (.int .i64 a) : DataW Unit) = .lit (.int .i64 b)) : a = b := by
  injection h with h
  injection h
theorem lit_ne {a b : Int} (h : a ≠ b) : (Lit.int .i64 a) ≠ (Lit.int .i64 b) := by
  intro e
  injection e with _ e
  exact h e
theorem DaysMap.look {w : World} {M cnt : Nat} {f : Nat → Int} (h : DaysMap w M cnt f) (s : Nat) (hs : s ≤ 1048576) :
    (Instr.lookup 107 (.map (some M)) (.int .i64 (s : Int)) false).run Tryz.prog w = .ok (.int .i64 (f s)) w := by
  obtain ⟨D, h1, h2⟩ := h
  obtain ⟨c, hr, hat, _⟩ := h1.lookup_int keyed_int Tryz.underlying107 Tryz.underlying3 (zero_int w) (keyOf_int_mk Tryz.underlying3 (WalkArith.wf_i64 (n := (s : Int)) (by omega)))
  have hq := (h2 s).symm.trans hat
  have hc : f s = c := lit_inj hq
  rw [hr, hc]
theorem DaysMap.store {w : World} {M cnt : Nat} {f : Nat → Int} (h : DaysMap w M cnt f) (s : Nat) (hs : s ≤ 1048576) (hc : cnt ≤ 1048576) (v : Int) (hv : -1048576 ≤ v ∧ v ≤ 1048576) :
    ∃ w', (Instr.mapUpdate 107 (.map (some M)) (.int .i64 (s : Int)) (.int .i64 v)).run Tryz.prog w = .ok () w' ∧ DaysMap w' M (cnt + 1) (fun x => if x = s then v else f x) ∧ w.grownBy w' (some M) := by
  obtain ⟨D, h1, h2⟩ := h
  have hD : IsMap D := by obtain ⟨es, clock, hb, F, hs, rfl⟩ := h1; exact ⟨_, rfl⟩
  obtain ⟨w', hr, ho, hg⟩ := h1.update keyed_int Tryz.underlying107 (by unfold maxLen; omega) (keyOf_int_mk Tryz.underlying3 (WalkArith.wf_i64 (n := (s : Int)) (by omega))) (plainElem_int Tryz.underlying3 (WalkArith.wf_i64 (n := v) (by omega)))
  refine ⟨w', hr, ⟨_, ho, fun x => ?_⟩, hg⟩
  by_cases e : x = s
  · subst e
    rw [atKey_put_same hD (by simp [WideAt.IsKeyLit])]
    simp
  · rw [atKey_put_other (lit_ne (by omega)), h2 x]
    simp [e]

theorem DaysMap.congr {w : World} {M cnt cnt' : Nat} {f g : Nat → Int} (h : DaysMap w M cnt f) (hc : cnt ≤ cnt') (hfg : ∀ x, f x = g x) : DaysMap w M cnt' g := by
  obtain ⟨D, h1, h2⟩ := h
  exact ⟨D, h1.mono hc, fun s => by rw [h2 s, hfg s]⟩
theorem DaysMap.lt {w : World} {M cnt : Nat} {f : Nat → Int} (h : DaysMap w M cnt f) : M < w.heap.size := by
  obtain ⟨D, h1, _⟩ := h
  exact h1.lt
theorem check_len {m : Mill} (h : checkE m = 0) : 1 ≤ m.laced.length ∧ m.laced.length ≤ 3 ∧ m.orders.length ≤ 7 := by
  unfold checkE at h
  split at h
  · omega
  · rename_i h1
    simp only [not_or, inB, Bool.not_eq_false, Bool.and_eq_true, decide_eq_true_eq] at h1
    omega
theorem check_orders {m : Mill} (h : checkE m = 0) : (∀ o ∈ m.orders, (0 ≤ o.pattern ∧ o.pattern ≤ 9) ∧ (1 ≤ o.days ∧ o.days ≤ 20) ∧ (1 ≤ o.by_ ∧ o.by_ ≤ 99)) ∧ 0 ≤ m.change ∧ m.change ≤ 5 := by
  unfold checkE at h
  split at h
  · omega
  split at h
  · omega
  rename_i h2
  split at h
  · omega
  rename_i h3
  simp only [Bool.not_eq_false, not_or] at h2 h3
  refine ⟨fun o ho => ?_, ?_⟩
  · have := List.all_eq_true.1 h3 o ho
    simp only [inB, Bool.and_eq_true, decide_eq_true_eq] at this
    omega
  · have := h2.2
    simp only [inB, Bool.and_eq_true, decide_eq_true_eq] at this
    omega
theorem daysOf_bd {m : Mill} (h : checkE m = 0) : ∀ k s, k ≤ m.orders.length → 0 ≤ daysOf m k s ∧ daysOf m k s ≤ 20 * k
  | 0, s, _ => by simp [daysOf]
  | k + 1, s, hk => by
    have ih := daysOf_bd h k s (by omega)
    have := (check_orders h).1 (m.orders[k]?.getD default) (by simp [show k < m.orders.length by omega])
    simp only [daysOf]
    split <;> omega

def openR (D M o s : Nat) (c d : Int) : Nat → Value → World → Prop
  | 0 => fun v _ => v = .pointer (some ⟨D, 0, none⟩)
  | 1 => fun v _ => v = .pointer (some ⟨D, 0, none⟩)
  | 2 => fun v _ => v = .pointer (some ⟨D, 3, none⟩)
  | 3 => fun v _ => v = .map (some M)
  | 4 => fun v _ => v = .int .i64 s
  | 5 => fun v _ => v = .int .i64 c
  | 6 => fun v _ => v = .pointer (some ⟨o, 1, none⟩)
  | 7 => fun v _ => v = .int .i64 d
  | 8 => fun v _ => v = .int .i64 (c + d)
  | _ => fun _ _ => True

set_option maxRecDepth 20000 in
set_option maxHeartbeats 2000000 in
theorem opened_any (v : Value) (m : Mill) (hr : checkE m = 0) (w : World) (hv : MillVal w v m) :
    Calls Tryz.prog 49 #[v] w fun e w' => ∃ D, e = .returned (.tuple #[.pointer (some ⟨D, 0, none⟩), .int .i64 0]) ∧ w.heap.size ≤ D ∧ Desk w' D m ∧ Ext w w' := by
  have hmm := @run_makeMap Tryz.prog
  have Hv := Lib.hid hv
  obtain ⟨l1, l2, l3⟩ := check_len hr
  have Hdays := Lib.hid (daysOf_bd hr)
  have Hord := Lib.hid (check_orders hr).1
  obtain ⟨A1, c1, A2, c2, rfl, h2, h3, h4, h5, h6, h7⟩ := hv
  have Hcaps := Lib.hid (And.intro h2 (And.intro h3 (And.intro h4 h5)))
  have hE := Ext.alloc w (.cells #[.slice A1 m.laced.length c1, .int .i64 m.change, .slice A2 m.orders.length c2] 25)
  have hM := Blk.new w 25 #[.slice A1 m.laced.length c1, .int .i64 m.change, .slice A2 m.orders.length c2]
  have hC := check_any _ m _ (Hv.out.ext hE)
  rw [hr] at hC
  have HC := Lib.hid hC
  clear hC hr h3 h5
  have h6' := Lib.hid h6; clear h6
  go_enter Tryz.func49, Tryz.ntmps49
  go_wp2_with fail
  refine HC.out.mono ?_
  rintro e w2 ⟨rfl, he2⟩
  have hE2 := hE.trans he2
  have hM2 := hM.ext he2
  clear hM he2 hE
  obtain ⟨k0, k1, k2⟩ := hM2.c3
  go_wp2_with fail
  have hmap0 : DaysMap (w2.alloc (.map #[] 0)) w2.heap.size 0 (fun _ => 0) := ⟨.map [], World.ownsMap_made _ _ _ _, fun s => rfl⟩
  have hbD := Blk.new (w2.alloc (.map #[] 0)) 109 #[.slice A1 m.laced.length c1, .int .i64 m.change, .slice A2 m.orders.length c2, .map (some w2.heap.size)]
  rw [World.size_alloc] at hbD
  have hE3 : Ext w2 ((w2.alloc (.map #[] 0)).alloc (.cells #[.slice A1 m.laced.length c1, .int .i64 m.change, .slice A2 m.orders.length c2, .map (some w2.heap.size)] 109)) := (Ext.alloc _ _).trans (Ext.alloc _ _)
  have hmap3 := hmap0.ext (by simp) (Ext.alloc (w2.alloc (.map #[] 0)) (.cells #[.slice A1 m.laced.length c1, .int .i64 m.change, .slice A2 m.orders.length c2, .map (some w2.heap.size)] 109))
  clear hmap0
  generalize (w2.alloc _).alloc _ = w3 at *
  obtain ⟨N, hN⟩ : ∃ N, N = 2 ^ m.orders.length := ⟨_, rfl⟩
  have hNb : N ≤ 128 := by
    have h1 : 2 ^ m.orders.length ≤ 2 ^ 7 := Nat.pow_le_pow_right (by omega) l3
    have h2 : (2 : Nat) ^ 7 = 128 := by decide
    omega
  refine (sets_any _ m (by omega) N hN w3 (Hv.out.ext (hE2.trans hE3))).mono ?_
  rintro e w4 ⟨rfl, he4⟩
  have HN := Lib.hid hN; clear hN
  have hE4 := hE2.trans (hE3.trans he4)
  have hb4 := hbD.ext he4
  have hM4 := hM2.ext (hE3.trans he4)
  have hmap4 := hmap3.ext hmap3.lt he4
  have hszM : w.heap.size + 1 ≤ w2.heap.size := hM2.lt
  clear hmap3 hbD hM2 he4 hE3 k0 k1 k2 HC
  generalize hMd : w2.heap.size = M at *
  clear hMd
  have h7' := Lib.hid h7; clear h7
  go_wp2
  go_loopw [6, 7, 8, 23] (fun _ _ _ i wr => ∃ s cnt : Nat, s ≤ N ∧ i = .int .i64 s ∧ Ext w wr ∧ Blk wr w.heap.size 25 #[.slice A1 m.laced.length c1, .int .i64 m.change, .slice A2 m.orders.length c2] ∧
      Blk wr (M + 1) 109 #[.slice A1 m.laced.length c1, .int .i64 m.change, .slice A2 m.orders.length c2, .map (some M)] ∧ cnt ≤ s * 7 ∧ Hid (DaysMap wr M cnt (fun x => if x < s then daysOf m m.orders.length x else 0)))
    (fun _ _ _ i _ => N - (intOf i).toNat)
  case atStart => exact ⟨0, 0, by omega, rfl, hE4, hM4, hb4, by omega, hmap4.congr (Nat.le_refl _) (fun x => by simp)⟩
  case round =>
    obtain ⟨s, cnt, hs, rfl, he, hM5, hb5, hcnt, hmap⟩ := hrel
    obtain ⟨k0, k1, k2⟩ := hM5.c3
    by_cases hlt : s < N
    · go_wp2
      obtain ⟨w5, hw5⟩ : ∃ w5, w5 = wr := ⟨_, rfl⟩
      rw [← hw5] at he hM5 hb5 hmap ⊢
      clear hw5 k0 k1 k2
      go_loopw [7, 8, 29] (fun _ _ i wr => ∃ k cnt : Nat, k ≤ m.orders.length ∧ i = .int .i64 k ∧ Ext w wr ∧ Blk wr w.heap.size 25 #[.slice A1 m.laced.length c1, .int .i64 m.change, .slice A2 m.orders.length c2] ∧
          Blk wr (M + 1) 109 #[.slice A1 m.laced.length c1, .int .i64 m.change, .slice A2 m.orders.length c2, .map (some M)] ∧ cnt ≤ s * 7 + k ∧
          Hid (DaysMap wr M cnt (fun x => if x < s then daysOf m m.orders.length x else if x = s then daysOf m k s else 0)))
        (fun _ _ i _ => m.orders.length - (intOf i).toNat)
      case atStart => exact ⟨0, cnt, by omega, rfl, he, hM5, hb5, by omega, hmap.out.congr (Nat.le_refl _) (fun x => by simp [daysOf])⟩
      case round =>
        obtain ⟨k, cnt, hk, rfl, he, hM5, hb5, hcnt, hmap⟩ := hrel
        by_cases hltk : k < m.orders.length
        · obtain ⟨b, o, rfl, A, ca, hca, q1, q2, q3, q4, q5⟩ := h7'.out.ext he k hltk
          have hdb := Hord.out (m.orders[k]?.getD default) (by simp [hltk])
          have hsum := Hdays.out k s (by omega)
          obtain ⟨dk, hdk⟩ : ∃ d, daysOf m k s = d := ⟨_, rfl⟩
          rw [hdk] at hsum
          have hstep : Hid (daysOf m (k + 1) s = dk + if s.testBit k then (m.orders[k]?.getD default).days else 0) := by unfold Hid; rw [← hdk]; rfl
          generalize m.orders[k]?.getD default = x0 at *
          have Hdk := Lib.hid hdk; clear hdk
          obtain ⟨q, hq⟩ : ∃ q, s.testBit k = q := ⟨_, rfl⟩
          have hbit := bit_test s k (by omega) q hq
          have Hq := Lib.hid hq; clear hq
          cases q with
          | false =>
            go_wp2
            go_roundw
            case rel =>
              refine ⟨k + 1, cnt, by omega, by go_num, he.trans (Ext.alloc _ _), hM5.alloc _, hb5.alloc _, by omega, ?_⟩
              refine (hmap.out.ext hmap.out.lt (Ext.alloc _ _)).congr (Nat.le_refl _) fun x => ?_
              rw [hstep.out, Hq.out, Hdk.out]
              simp
            case measure => simp [intOf]; omega
          | true =>
            go_wp2_with fail
            have hb8 := Blk.new wr 28 #[.int .i64 x0.pattern, .int .i64 x0.days, .int .i64 x0.by_, .slice A x0.on.length ca]
            have hX := Ext.alloc wr (.cells #[.int .i64 x0.pattern, .int .i64 x0.days, .int .i64 x0.by_, .slice A x0.on.length ca] 28)
            have hmapX := hmap.out.ext hmap.out.lt hX
            have hMX := hM5.ext hX
            have hbX := hb5.ext hX
            have heX := he.trans hX
            clear hX q1 q2 q3 q4 q5 hM5 hb5 hmap
            generalize wr.alloc _ = W at *
            have hmd : DaysMap W.drew M cnt _ := hmapX.ext hmapX.lt (Ext.drew _)
            have hlook := hmd.look s (by omega)
            have hle : (if s < s then daysOf m m.orders.length s else if s = s then daysOf m k s else 0) = dk := by simp; exact Hdk.out
            simp only at hlook
            obtain ⟨w', hrun, hmap', hg⟩ := hmd.store s (by omega) (by omega) (dk + x0.days) (by omega)
            have Hmap := Lib.hid hmap'; clear hmap' hmd hle hmapX
            obtain ⟨d0, d1, d2, d3⟩ := hbX.c4
            obtain ⟨o0, o1, o2, o3⟩ := hb8.c4
            refine wp_region_facts 9 (by kernel_rfl) (by kernel_rfl) (fun W' => W' = W.drew) (openR (M + 1) M wr.heap.size s dk x0.days) rfl ?_ ?_
            · simp only [List.take, AllOps, fill, Act.put, List.setIfInBounds_toArray, List.set_cons_zero, List.set_cons_succ, Nat.reduceAdd, Deps, and_true]
              refine ⟨?_, ?_, ?_, ?_, ?_, ?_, ?_, ?_, ?_⟩
              all_goals
                rintro x W' rfl hd K Q hK
                try (simp only [openR] at hd; simp only [hd] at hK ⊢)
                have HK := Lib.hid hK
                clear hK
                go_wp2
                exact HK.out _ _ (by first | rfl | exact congrArg (Value.int .i64) Hdk.out) rfl (fun _ _ h => h)
            · rintro x W' rfl hR
              simp only [AllR, openR, true_and] at hR
              obtain ⟨⟨⟨⟨⟨⟨⟨⟨r0, r1⟩, r2⟩, r3⟩, r4⟩, r5⟩, r6⟩, r7⟩, r8⟩ := hR
              simp only [List.take, List.drop, fill, Act.put, List.setIfInBounds_toArray, List.set_cons_zero, List.set_cons_succ, Nat.reduceAdd, r0, r1, r2, r3, r4, r5, r6, r7, r8]
              clear r0 r1 r2 r3 r4 r5 r6 r7 r8
              go_wp2
              go_roundw
              case rel =>
                refine ⟨k + 1, cnt + 1, by omega, by go_num, Below.grown (heX.trans (Ext.drew _)) hg heX.size (fun j e => by cases e; omega), hMX.drew.grown hg (by intro e; have := Option.some.inj e; omega), hbX.drew.grown hg (by intro e; have := Option.some.inj e; omega), by omega, ?_⟩
                refine Hmap.out.congr (Nat.le_refl _) fun x => ?_
                rw [hstep.out, Hq.out]
                by_cases e : x = s
                · subst e; simp
                · simp [e]
              case measure => simp [intOf]; omega
        · go_wp2
          go_roundw
          case rel =>
            have hkn : k = m.orders.length := by omega
            refine ⟨s + 1, cnt, by omega, by go_num, he, hM5, hb5, by omega, hmap.out.congr (Nat.le_refl _) fun x => ?_⟩
            rw [hkn]
            by_cases e : x = s
            · subst e; simp
            · by_cases e2 : x < s
              · rw [if_pos e2, if_pos (by omega)]
              · rw [if_neg e2, if_neg e, if_neg (by omega)]
          case measure => simp [intOf]; omega
    · go_wp2
      go_ret2
      refine ⟨M + 1, rfl, by omega, ⟨A1, c1, A2, c2, M, cnt, hb5, Hcaps.out.1, Hcaps.out.2.1, Hcaps.out.2.2.1, Hcaps.out.2.2.2, h6'.out.ext he, h7'.out.ext he, hmap.out.lt, hmap.out.congr (Nat.le_refl _) (fun x => ?_)⟩, he⟩
      have : s = N := by omega
      rw [this, HN.out]
end Go.Proofs.Pet

namespace Go.Proofs.Pet
open Go Go.RowKit

def markOf (D : Nat) : Deferred := { target := .collected D, args := #[] }
/-- the marks that lie there, each at a block of its own, from lo on and ahead of hi -/
def Marks (W : World) (lo hi : Nat) (ds : List Deferred) : Prop :=
  ∃ l : List Nat, ds = l.map markOf ∧ l.Nodup ∧ ∀ D ∈ l, lo ≤ D ∧ D < hi ∧ W.heap[D]? = some (.deferred (some []))
theorem Marks.nil (W : World) (lo hi : Nat) : Marks W lo hi [] := ⟨[], rfl, List.nodup_nil, fun _ h => by cases h⟩
theorem Marks.ext {W W' : World} {lo hi : Nat} {ds : List Deferred} (h : Marks W lo hi ds) (he : Ext W W') : Marks W' lo hi ds := by
  obtain ⟨l, h1, h2, h3⟩ := h
  exact ⟨l, h1, h2, fun D hD => ⟨(h3 D hD).1, (h3 D hD).2.1, he.block (h3 D hD).2.2⟩⟩
theorem Marks.mono {W : World} {lo hi hi' : Nat} {ds : List Deferred} (h : Marks W lo hi ds) (hh : hi ≤ hi') : Marks W lo hi' ds := by
  obtain ⟨l, h1, h2, h3⟩ := h
  exact ⟨l, h1, h2, fun D hD => ⟨(h3 D hD).1, Nat.lt_of_lt_of_le (h3 D hD).2.1 hh, (h3 D hD).2.2⟩⟩
theorem Marks.set_ {W : World} {lo hi : Nat} {ds : List Deferred} {p : Addr} {t : TypeId} {cs : Array Value} (h : Marks W lo hi ds) (hb : Blk W p.block t cs) (v : Value) : Marks (W.setCell p v) lo hi ds := by
  obtain ⟨l, h1, h2, h3⟩ := h
  refine ⟨l, h1, h2, fun D hD => ⟨(h3 D hD).1, (h3 D hD).2.1, ?_⟩⟩
  refine (Below.heap_setCell W p v D fun e => ?_).trans (h3 D hD).2.2
  have h4 := (h3 D hD).2.2
  rw [e] at h4
  unfold Blk at hb
  rw [hb] at h4
  cases h4
theorem Marks.loops {W W' : World} {lo hi B : Nat} {ds : List Deferred} (h : Marks W lo hi ds) (hk : Loops B W W') (hB : hi ≤ B) : Marks W' lo hi ds := by
  obtain ⟨l, h1, h2, h3⟩ := h
  refine ⟨l, h1, h2, fun D hD => ⟨(h3 D hD).1, (h3 D hD).2.1, ?_⟩⟩
  have h4 := (h3 D hD).2.2
  exact (hk.low D (Nat.lt_of_lt_of_le (h3 D hD).2.1 hB) (Array.getElem?_eq_some_iff.1 h4).1).trans h4
theorem Marks.push {W : World} {lo hi : Nat} {ds : List Deferred} {D : Nat} (h : Marks W lo hi ds) (hlo : lo ≤ D) (hhi : hi ≤ D) (hD : W.heap[D]? = some (.deferred (some []))) : Marks W lo (D + 1) (markOf D :: ds) := by
  obtain ⟨l, h1, h2, h3⟩ := h
  refine ⟨D :: l, by rw [h1]; rfl, List.nodup_cons.2 ⟨fun hm => ?_, h2⟩, fun D' hD' => ?_⟩
  · have := (h3 D hm).2.1
    omega
  · rcases List.mem_cons.1 hD' with rfl | hm
    · exact ⟨hlo, by omega, hD⟩
    · exact ⟨(h3 D' hm).1, by have := (h3 D' hm).2.1; omega, (h3 D' hm).2.2⟩

theorem leaves_marks {F : Fence} {n : Nat} {P : Program} {fn : Func} {tmps : Array Value} {R : Ending → World → Prop} {lo hi : Nat} {v : Value} : ∀ (ds : List Deferred) (W : World), Marks W lo hi ds →
    (∀ W', (results fn tmps).run P W' = .ok v W') → (∀ W', (∀ k, (k < lo ∨ ∃ c e fz, W.heap[k]? = some (Obj.cells c e fz)) → W'.heap[k]? = W.heap[k]?) → W'.os = W.os → W'.tape = W.tape → W'.output = W.output → W.heap.size ≤ W'.heap.size → R (.returned v) W') → LeavesInM F n P fn tmps R ds .returning W
  | [], W, _, hr, hR => by
    unfold LeavesInM LeavesIn
    exact ⟨v, hr W, hR W (fun _ _ => rfl) rfl rfl rfl (Nat.le_refl _)⟩
  | d :: ds, W, hm, hr, hR => by
    obtain ⟨l, h1, h2, h3⟩ := hm
    cases l with
    | nil => cases h1
    | cons D l =>
      rw [List.map_cons] at h1
      injection h1 with h1a h1b
      subst h1a h1b
      have hD := h3 D (by simp)
      have hg := grownBy_putObj' W D (.deferred none)
      refine ⟨by simp, .inl ⟨D, _, rfl, run_takeDeferred hD.2.2, ?_⟩⟩
      refine leaves_marks (lo := lo) (hi := hi) (l.map markOf) _ ⟨l, rfl, (List.nodup_cons.1 h2).2, fun D' hD' => ?_⟩ hr (fun W' hk ho ht hp hs => hR W' (fun k hkk => ?_) (ho.trans hg.os) (ht.trans hg.tape) (hp.trans hg.output) (Nat.le_trans hg.size hs))
      · have h4 := h3 D' (List.mem_cons_of_mem _ hD')
        refine ⟨h4.1, h4.2.1, ?_⟩
        rw [World.putObj_heap_other (fun e : D' = D => (List.nodup_cons.1 h2).1 (by rw [← e]; exact hD'))]
        exact h4.2.2
      · have hne : k ≠ D := by
          rintro rfl
          rcases hkk with hlt | ⟨c, e, fz, hc⟩
          · have := hD.1; omega
          · rw [hD.2.2] at hc; cases hc
        have e1 : (W.putObj D (.deferred none)).heap[k]? = W.heap[k]? := World.putObj_heap_other hne
        rw [hk k ?_, e1]
        rw [e1]; exact hkk
/-- what a return through marks leaves -/
structure Quits (lo : Nat) (W W' : World) : Prop where
  same : ∀ k, (k < lo ∨ ∃ c e fz, W.heap[k]? = some (Obj.cells c e fz)) → W'.heap[k]? = W.heap[k]?
  os : W'.os = W.os
  tape : W'.tape = W.tape
  output : W'.output = W.output
  size : W.heap.size ≤ W'.heap.size
theorem Quits.blk {lo : Nat} {W W' : World} (h : Quits lo W W') {b : Nat} {t : TypeId} {cs : Array Value} (hb : Blk W b t cs) : Blk W' b t cs := (h.same b (.inr ⟨_, _, _, hb⟩)).trans hb
theorem Quits.ext {lo : Nat} {w W W' : World} (h : Quits lo W W') (he : Ext w W) (hlo : w.heap.size ≤ lo) : Ext w W' :=
  ⟨h.os.trans he.os, h.tape.trans he.tape, h.output.trans he.output, Nat.le_trans he.size h.size, fun k hk => (h.same k (.inl (by omega))).trans (Below.block he k hk)⟩
theorem leaves_marks' {F : Fence} {n : Nat} {P : Program} {fn : Func} {tmps : Array Value} {R : Ending → World → Prop} {lo hi : Nat} {v : Value} (ds : List Deferred) (W : World) (hm : Marks W lo hi ds)
    (hr : ∀ W', (results fn tmps).run P W' = .ok v W') (hR : ∀ W', Quits lo W W' → R (.returned v) W') : LeavesInM F n P fn tmps R ds .returning W :=
  leaves_marks ds W hm hr fun W' h1 h2 h3 h4 h5 => hR W' ⟨h1, h2, h3, h4, h5⟩
end Go.Proofs.Pet

namespace Go.Proofs.Pet
open Go Go.RowKit Go.Maps Go.Shelf
attribute [local go_sem] Oper.semAt_some

theorem least_any (n : Int) (A : Option Addr) (c L : Nat) (xs : List Int) (hL : xs.length = L) (r : Int) (hr : xs.foldl min n = r) (w : World) (hb : xs.length ≤ maxLen) (hx : IntsAt w A xs) :
    Calls Tryz.prog 168 #[.int .i64 n, .slice A L c] w fun e w' => e = .returned (.int .i64 r) ∧ w = w' := by
  subst hL
  unfold maxLen at hb
  have Hr := Lib.hid hr; clear hr
  go_enter Tryz.func168, Tryz.ntmps168
  go_wp2
  go_loopw [0, 6, 9] (fun a _ i wr => ∃ (k : Nat) (x : Int), k ≤ xs.length ∧ a = .int .i64 x ∧ i = .int .i64 k ∧ Hid ((xs.take k).foldl min n = x) ∧ w = wr) (fun _ _ i _ => xs.length - (intOf i).toNat)
  case atStart => exact ⟨0, n, by omega, rfl, rfl, rfl, rfl⟩
  case round =>
    obtain ⟨k, x, hk, rfl, rfl, hm, rfl⟩ := hrel
    by_cases hlt : k < xs.length
    · obtain ⟨b, o, rfl, h1⟩ := hx k hlt
      have hmin : Hid ((xs.take (k + 1)).foldl min n = min x (xs[k]?.getD 0)) := by
        unfold Hid
        rw [List.take_add_one, List.foldl_append, hm.out]
        simp [hlt]
      generalize xs[k]?.getD 0 = y at *
      go_wp2
      go_roundw
      case rel => exact ⟨k + 1, min x y, by omega, by rw [Int.min_def]; by_cases h : x ≤ y <;> simp [h]; omega, by go_num, hmin.out, trivial⟩
      case measure => simp [intOf]; omega
    · obtain rfl : k = xs.length := by omega
      have hq := hm.out
      rw [List.take_length, Hr.out] at hq
      subst hq
      go_wp2
      go_ret
      exact ⟨rfl, rfl⟩
def chg (a b : Int) : Int := if a = b then 0 else 1
def Mill.pat (m : Mill) (k : Nat) : Int := (m.orders[k]?.getD default).pattern
theorem changed_r (a b n : Int) (hn : chg a b = n) (w : World) :
    Calls Tryz.prog 235 #[.int .i64 a, .int .i64 b] w fun e w' => e = .returned (.int .i64 n) ∧ w = w' := by
  subst hn; exact changed_any a b w
/-- the fewest changes after another order, by numbers of the rest -/
def stepL (m : Mill) (num : Nat → Nat → Int) (rest order : Nat) (l : List Nat) : Int :=
  l.foldl (fun n x => if num rest x = 99 then n else min n (num rest x + chg (m.pat x) (m.pat order))) 99
def stepN (m : Mill) (num : Nat → Nat → Int) (loom rest order : Nat) : Int :=
  if rest = 0 then chg (m.laced[loom]?.getD 0) (m.pat order) else stepL m num rest order (bits m.orders.length rest)
def stepS (m : Mill) (num : Nat → Nat → Int) (loom set order : Nat) : Int :=
  if m.weaves loom order = false then 99
  else
    let n := stepN m num loom (sdiff set (2 ^ order)) order
    if 99 ≤ n then 99 else if (m.orders[order]?.getD default).by_ < daysOf m m.orders.length set + m.change * n then 99 else n

theorem stepL_snoc (m : Mill) (num : Nat → Nat → Int) (rest order : Nat) (l : List Nat) (x : Nat) :
    stepL m num rest order (l ++ [x]) = if num rest x = 99 then stepL m num rest order l else min (stepL m num rest order l) (num rest x + chg (m.pat x) (m.pat order)) := by
  unfold stepL; rw [List.foldl_append]; rfl
theorem chg_bd (a b : Int) : 0 ≤ chg a b ∧ chg a b ≤ 1 := by unfold chg; split <;> omega
theorem stepL_bd (m : Mill) (num : Nat → Nat → Int) (rest order : Nat) (h : ∀ x, 0 ≤ num rest x ∧ num rest x ≤ 99) (l : List Nat) : 0 ≤ stepL m num rest order l ∧ stepL m num rest order l ≤ 99 := by
  suffices ∀ a : Int, 0 ≤ a ∧ a ≤ 99 → 0 ≤ l.foldl (fun n x => if num rest x = 99 then n else min n (num rest x + chg (m.pat x) (m.pat order))) a ∧ l.foldl (fun n x => if num rest x = 99 then n else min n (num rest x + chg (m.pat x) (m.pat order))) a ≤ 99 from this 99 (by omega)
  induction l with
  | nil => intro a ha; exact ha
  | cons x l ih =>
    intro a ha
    refine ih _ ?_
    have h1 := h x
    have h2 := chg_bd (m.pat x) (m.pat order)
    dsimp only
    split <;> omega
theorem bitsS_mem_lt {s n : Nat} (hs : s < 2 ^ n) (x : In s) : x.1 < n := by
  rcases Nat.lt_or_ge x.1 n with h | h
  · exact h
  · have := Nat.testBit_lt_two_pow (Nat.lt_of_lt_of_le hs (Nat.pow_le_pow_right (by omega) h))
    rw [x.2] at this; cases this

/-- a function value that gives numbers for the rest of a set -/
def Gives (P : Program) (w : World) (g : Nat) (lb : Array Value) (num : Nat → Nat → Int) (rest n : Nat) : Prop :=
  ∀ W, Ext w W → ∀ x, x < n → rest.testBit x = true → Calls P g (#[.int .i64 (rest : Int), .int .i64 (x : Int)] ++ lb) W fun e W' => e = .returned (.int .i64 (num rest x)) ∧ Ext W W'

def stepR1 (D o L : Nat) (A1 _A2 : Option Addr) (c1 _c2 : Nat) (_ch : Value) (m : Mill) (loom : Nat) (p lc n : Int) : Nat → Value → World → Prop
  | 0 => fun v _ => v = .pointer (some ⟨D, 0, none⟩)
  | 1 => fun v _ => v = .pointer (some ⟨D, 0, none⟩)
  | 2 => fun v _ => v = .pointer (some ⟨D, 0, none⟩)
  | 3 => fun v _ => v = .pointer (some ⟨D, 0, none⟩)
  | 4 => fun v _ => v = .slice A1 m.laced.length c1
  | 5 => fun v _ => v = .int .i64 loom
  | 6 => fun v _ => ∃ b q, A1 = some ⟨b, q, none⟩ ∧ v = .pointer (some ⟨b, q + loom, none⟩)
  | 7 => fun v _ => v = .int .i64 lc
  | 8 => fun v _ => v = .pointer (some ⟨o, 0, none⟩)
  | 9 => fun v _ => v = .int .i64 p
  | 10 => fun v _ => v = .int .i64 n
  | 11 => fun v W => ∃ g, v = .pointer (some ⟨g, 0, none⟩) ∧ L ≤ g ∧ Blk W g 3 #[.int .i64 0]
  | _ => fun _ _ => True
theorem stepR1.ext {D o L : Nat} {A1 A2 : Option Addr} {c1 c2 : Nat} {ch : Value} {m : Mill} {loom : Nat} {p lc n : Int} {w w' : World} (he : Ext w w') (j : Nat) (u : Value) (h : stepR1 D o L A1 A2 c1 c2 ch m loom p lc n j u w) : stepR1 D o L A1 A2 c1 c2 ch m loom p lc n j u w' := by
  match j, h with
  | 0, h | 1, h | 2, h | 3, h | 4, h | 5, h | 6, h | 7, h | 8, h | 9, h | 10, h => exact h
  | 11, ⟨g, h1, h2, h3⟩ => exact ⟨g, h1, h2, h3.ext he⟩
  | _ + 12, h => trivial

def stepR2 (D O b o : Nat) (A2 : Value) (last : Nat) (acc kv pl p ch sum res : Int) : Nat → Value → World → Prop
  | 0 => fun v _ => v = .int .i64 acc
  | 1 => fun v _ => v = .int .i64 kv
  | 2 => fun v _ => v = .pointer (some ⟨D, 0, none⟩)
  | 3 => fun v _ => v = .pointer (some ⟨D, 0, none⟩)
  | 4 => fun v _ => v = .pointer (some ⟨D, 0, none⟩)
  | 5 => fun v _ => v = .pointer (some ⟨D, 2, none⟩)
  | 6 => fun v _ => v = A2
  | 7 => fun v _ => v = .int .i64 last
  | 8 => fun v _ => v = .pointer (some ⟨b, o + last * 4, none⟩)
  | 9 => fun v _ => v = .pointer (some ⟨b, o + last * 4, none⟩)
  | 10 => fun v _ => v = .int .i64 pl
  | 11 => fun v _ => v = .pointer (some ⟨O, 0, none⟩)
  | 12 => fun v _ => v = .int .i64 p
  | 13 => fun v _ => v = .int .i64 ch
  | 14 => fun v _ => v = .int .i64 sum
  | 15 => fun v W => ∃ g, v = .slice (some ⟨g, 0, none⟩) 1 1 ∧ Blk W g 3 #[.int .i64 sum]
  | 16 => fun v _ => v = .int .i64 res
  | _ => fun _ _ => True
theorem stepR2.ext {D O b o : Nat} {A2 : Value} {last : Nat} {acc kv pl p ch sum res : Int} {w w' : World} (he : Ext w w') (j : Nat) (u : Value) (h : stepR2 D O b o A2 last acc kv pl p ch sum res j u w) : stepR2 D O b o A2 last acc kv pl p ch sum res j u w' := by
  match j, h with
  | 0, h | 1, h | 2, h | 3, h | 4, h | 5, h | 6, h | 7, h | 8, h | 9, h | 10, h | 11, h | 12, h | 13, h | 14, h | 16, h => exact h
  | 15, ⟨g, h1, h2⟩ => exact ⟨g, h1, h2.ext he⟩
  | _ + 17, h => trivial

set_option maxRecDepth 100000 in
set_option maxHeartbeats 2000000 in
theorem step_any (D : Nat) (m : Mill) (hch : checkE m = 0) (loom set order : Nat) (hl : loom < m.laced.length) (ho : order < m.orders.length) (hs : set < 2 ^ m.orders.length) (_hso : set.testBit order = true)
    (g : Nat) (lb : Array Value) (num : Nat → Nat → Int) (hnum : ∀ x, 0 ≤ num (sdiff set (2 ^ order)) x ∧ num (sdiff set (2 ^ order)) x ≤ 99) (eg : Enters Tryz.prog g) (w : World) (hD : Desk w D m)
    (hg : Gives Tryz.prog w g lb num (sdiff set (2 ^ order)) m.orders.length) :
    Calls Tryz.prog 162 #[.pointer (some ⟨D, 0, none⟩), .int .i64 loom, .int .i64 set, .int .i64 order, .func (.func g) #[] lb] w fun e w' => e = .returned (.int .i64 (stepS m num loom set order)) ∧ Ext w w' := by
  obtain ⟨r, hr⟩ : ∃ r, stepS m num loom set order = r := ⟨_, rfl⟩
  rw [hr]
  have Hr := Lib.hid hr; clear hr
  obtain ⟨l1, l2, l3⟩ := check_len hch
  have hcg := (check_orders hch).2
  have hdd := daysOf_bd hch m.orders.length set (Nat.le_refl _)
  have Hord := Lib.hid ((check_orders hch).1 (m.orders[order]?.getD default) (by simp [ho]))
  obtain ⟨A1, c1, A2, c2, M, cnt, hb, h2, h3, h4, h5, h6, h7, h8, h9⟩ := hD
  have hs7 : set < 128 := by
    have h1 : 2 ^ m.orders.length ≤ 2 ^ 7 := Nat.pow_le_pow_right (by omega) l3
    have h2 : (2 : Nat) ^ 7 = 128 := by decide
    omega
  refine (callsIn_wide (n := 5)).1 ?_
  refine callsIn_of_wp_marks Tryz.func162 rfl trivial ?_ rfl
  simp only [Tryz.ntmps162, List.size_toArray, List.length_nil, Nat.reduceSub, Array.replicate_succ, Array.replicate_zero, List.push_toArray, List.append_toArray, List.nil_append, List.cons_append, List.length_cons, Nat.reduceAdd]
  refine wpIn_wide.2 ?_
  have hE := (Ext.alloc w (.cells #[.pointer (some ⟨D, 0, none⟩)] 101)).trans (Ext.alloc _ (.cells #[.func (.func g) #[] lb] 115))
  have b0 := (Blk.new w 101 #[.pointer (some ⟨D, 0, none⟩)]).alloc (.cells #[.func (.func g) #[] lb] 115)
  have b1 := Blk.new (w.alloc (.cells #[.pointer (some ⟨D, 0, none⟩)] 101)) 115 #[.func (.func g) #[] lb]
  rw [World.size_alloc] at b1
  have hb' := hb.ext hE
  have Hv : Hid (MillVal w (.agg #[.slice A1 m.laced.length c1, .int .i64 m.change, .slice A2 m.orders.length c2]) m) := ⟨A1, c1, A2, c2, rfl, h2, h3, h4, h5, h6, h7⟩
  have H6 := Lib.hid h6; have H7 := Lib.hid h7; have H9 := Lib.hid h9; clear h6 h7 h9
  obtain ⟨k0, k1, k2, k3⟩ := hb'.c4
  have e0 := b0.c1
  have e1 := b1.c1
  go_wp2_with fail
  obtain ⟨q, hq⟩ : ∃ q, ((m.orders[order]?.getD default).on).contains (loom : Int) = q := ⟨_, rfl⟩
  refine (weaves_any _ m loom order ho q hq _ (Hv.out.ext hE)).mono ?_
  rintro e w1 ⟨rfl, he1⟩
  have hE1 := hE.trans he1
  have c0 := b0.ext he1
  have c1' := b1.ext he1
  have cb := hb'.ext he1
  have hsz1 : w.heap.size + 2 ≤ w1.heap.size := by have := c1'.lt; omega
  clear hb' b0 b1 he1 hE k0 k1 k2 k3 e0 e1
  cases q with
  | false =>
    obtain rfl : r = 99 := by rw [← Hr.out]; unfold stepS Mill.weaves; rw [hq]; simp
    have Hq := Lib.hid hq; clear hq
    go_wp2
    exact ⟨_, results_tmp rfl _ _ _, rfl, hE1⟩
  | true =>
    have Hres : Hid (r = let n := stepN m num loom (sdiff set (2 ^ order)) order
      if 99 ≤ n then 99 else if (m.orders[order]?.getD default).by_ < daysOf m m.orders.length set + m.change * n then 99 else n) := by
      unfold Hid
      rw [← Hr.out]
      unfold stepS Mill.weaves
      rw [hq, if_neg (by simp)]
    have Hq := Lib.hid hq; clear hq
    obtain ⟨b, o, rfl, A, ca, hca, q1, q2, q3, q4, q5⟩ := H7.out.ext hE1 order ho
    obtain ⟨lo, q, rfl, j1⟩ := H6.out.ext hE1 loom hl
    generalize hx0 : m.orders[order]?.getD default = x0 at *
    generalize hlc : m.laced[loom]?.getD 0 = lc at *
    have Hx0 := Lib.hid hx0; clear hx0
    have Hlc := Lib.hid hlc; clear hlc
    have e0 := c0.c1
    obtain ⟨k0, k1, k2, k3⟩ := cb.c4
    go_wp2_with fail
    have hX := Ext.alloc w1 (.cells #[.int .i64 x0.pattern, .int .i64 x0.days, .int .i64 x0.by_, .slice A x0.on.length ca] 28)
    have bo := Blk.new w1 28 #[.int .i64 x0.pattern, .int .i64 x0.days, .int .i64 x0.by_, .slice A x0.on.length ca]
    have hE2 := hE1.trans hX
    have cb2 := cb.ext hX
    have c02 := c0.ext hX
    have c12 := c1'.ext hX
    have j2 := hX.cell j1
    have hsz2 : w1.heap.size + 1 ≤ (w1.alloc (.cells #[.int .i64 x0.pattern, .int .i64 x0.days, .int .i64 x0.by_, .slice A x0.on.length ca] 28)).heap.size := by simp
    clear hX hE1 cb c0 c1' j1 k0 k1 k2 k3 e0 q1 q2 q3 q4 q5
    generalize w1.alloc _ = W2 at *
    generalize w1.heap.size = O at *
    obtain ⟨n0, hn0⟩ : ∃ n0, chg lc x0.pattern = n0 := ⟨_, rfl⟩
    have Hn0 := Lib.hid hn0; clear hn0
    refine wp_region_facts 12 (by kernel_rfl) (by kernel_rfl) (fun W => Ext W2 W) (stepR1 D O W2.heap.size (some ⟨lo, q, none⟩) (some ⟨b, o, none⟩) c1 c2 (.int .i64 m.change) m loom x0.pattern lc n0) (Ext.drew _) ?_ ?_
    · simp only [List.take, AllOps, fill, Act.put, List.setIfInBounds_toArray, List.set_cons_zero, List.set_cons_succ, Nat.reduceAdd, Deps, and_true]
      refine ⟨?_, ?_, ?_, ?_, ?_, ?_, ?_, ?_, ?_, ?_, ?_, ?_⟩
      all_goals
        intro x W hG hd K Q hK
        try (simp only [stepR1] at hd; simp only [hd] at hK ⊢)
        obtain ⟨k0, k1, k2, k3⟩ := (cb2.ext hG).c4
        have e0 := (c02.ext hG).c1
        have jj := hG.cell j2
        obtain ⟨o0, o1, o2, o3⟩ := (bo.ext hG).c4
      · have HK := Lib.hid hK; clear hK; go_wp2; exact HK.out _ _ rfl hG (fun _ _ h => h)
      · have HK := Lib.hid hK; clear hK; go_wp2; exact HK.out _ _ rfl hG (fun _ _ h => h)
      · have HK := Lib.hid hK; clear hK; go_wp2; exact HK.out _ _ rfl hG (fun _ _ h => h)
      · have HK := Lib.hid hK; clear hK; go_wp2; exact HK.out _ _ rfl hG (fun _ _ h => h)
      · have HK := Lib.hid hK; clear hK; go_wp2; exact HK.out _ _ rfl hG (fun _ _ h => h)
      · have HK := Lib.hid hK; clear hK; go_wp2; exact HK.out _ _ rfl hG (fun _ _ h => h)
      · have HK := Lib.hid hK; clear hK; go_wp2; exact HK.out _ _ ⟨_, _, rfl, rfl⟩ hG (fun _ _ h => h)
      · obtain ⟨b', q', hbq, hx6⟩ := hd
        cases hbq
        simp only [hx6] at hK ⊢
        have HK := Lib.hid hK; clear hK; go_wp2; exact HK.out _ _ rfl hG (fun _ _ h => h)
      · have HK := Lib.hid hK; clear hK; go_wp2; exact HK.out _ _ rfl hG (fun _ _ h => h)
      · have HK := Lib.hid hK; clear hK; go_wp2; exact HK.out _ _ rfl hG (fun _ _ h => h)
      · have HK := Lib.hid hK; clear hK
        go_wp2_with fail
        refine (changed_r lc x0.pattern n0 Hn0.out W).mono ?_
        rintro e w' ⟨rfl, rfl⟩
        go_wp2
        exact HK.out _ _ rfl hG (fun _ _ h => h)
      · have HK := Lib.hid hK; clear hK; go_wp2; exact HK.out _ _ ⟨_, rfl, hG.size, Blk.new _ _ _⟩ (hG.trans (Ext.alloc _ _)) (stepR1.ext (Ext.alloc _ _))
    · intro x W3 hG hR
      simp only [AllR, stepR1, true_and] at hR
      obtain ⟨⟨⟨⟨⟨⟨⟨⟨⟨⟨⟨r0, r1⟩, r2⟩, r3⟩, r4⟩, r5⟩, r6⟩, r7⟩, r8⟩, r9⟩, r10⟩, p, r11, hpo, bp⟩ := hR
      simp only [List.take, List.drop, fill, Act.put, List.setIfInBounds_toArray, List.set_cons_zero, List.set_cons_succ, Nat.reduceAdd, r0, r1, r2, r3, r4, r5, r7, r8, r9, r10, r11]
      clear r0 r1 r2 r3 r4 r5 r7 r8 r9 r10 r11 r6
      generalize x 6 = x6
      have f0 := bp.frozen 0
      have u0 := bp.c1
      have hpl := bp.lt
      have hp64 : 2 ^ order ≤ 128 := by
        have h1 : 2 ^ order ≤ 2 ^ 7 := Nat.pow_le_pow_right (by omega) (by omega)
        have h2 : (2 : Nat) ^ 7 = 128 := by decide
        omega
      have hrest : Go.bits .andNot .i64 (set : Int) (wrap64 (2 ^ order)) = ((sdiff set (2 ^ order) : Nat) : Int) := by rw [wrap64_pow' order (by omega), andNot64 set (2 ^ order) (by omega) (by omega)]
      have hRle := sdiff_le set (2 ^ order)
      generalize sdiff set (2 ^ order) = R at *
      have hcut := bp.set_ 0 (.int .i64 n0)
      have hX3 : Ext W2 (W3.setCell ⟨p, 0, none⟩ (.int .i64 n0)) := Below.setCell hG (by show _ ≤ p; omega) _
      obtain ⟨q0, hq0⟩ : ∃ q, decide (R = 0) = q := ⟨_, rfl⟩
      cases q0
      case' true =>
        have hR0 : R = 0 := by simpa using hq0
        have hz : (Go.bits .andNot .i64 (set : Int) (wrap64 (2 ^ order)) != 0) = false := by rw [hrest, hR0]; rfl
        have hres2 : Hid (stepN m num loom R order = n0) := by unfold Hid stepN; rw [if_pos hR0, Hlc.out, Mill.pat, Hx0.out]; exact Hn0.out
        have Hrest := Lib.hid hrest; clear hrest
        go_wp2_with fail
        rw [Hrest.out]
        have hbp : Blk ((W3.setCell ⟨p, 0, none⟩ (.int .i64 n0)).alloc (.cells #[.int .i64 (R : Int)] 3)) p 3 #[.int .i64 n0] := hcut.alloc _
        have hXW := hX3.trans (Ext.alloc _ (.cells #[.int .i64 (R : Int)] 3))
        clear hz hq0 hR0 hcut hX3 Hrest bp hG f0 u0 hpl
        generalize (W3.setCell _ _).alloc _ = W at *
        obtain ⟨n1, hn1⟩ : ∃ n1, n1 = n0 := ⟨_, rfl⟩
        rw [← hn1] at hbp hres2
        clear hn1 Hn0
      case' false =>
        have hR0 : R ≠ 0 := by simpa using hq0
        have hz : (Go.bits .andNot .i64 (set : Int) (wrap64 (2 ^ order)) != 0) = true := by rw [hrest]; simp; omega
        have Hrest := Lib.hid hrest; clear hrest
        go_wp2_with fail
        rw [Hrest.out]
        have hbp : Blk (((W3.setCell ⟨p, 0, none⟩ (.int .i64 n0)).setCell ⟨p, 0, none⟩ (.int .i64 99)).alloc (.cells #[.int .i64 (R : Int)] 3)) p 3 #[.int .i64 99] := (hcut.set_ 0 (.int .i64 99)).alloc _
        have hbr := Blk.new ((W3.setCell ⟨p, 0, none⟩ (.int .i64 n0)).setCell ⟨p, 0, none⟩ (.int .i64 99)) 3 #[.int .i64 (R : Int)]
        have hX4 : Ext W2 ((W3.setCell ⟨p, 0, none⟩ (.int .i64 n0)).setCell ⟨p, 0, none⟩ (.int .i64 99)) := Below.setCell hX3 (by show _ ≤ p; omega) _
        have hXW := hX4.trans (Ext.alloc _ (.cells #[.int .i64 (R : Int)] 3))
        clear hX4
        rw [World.size_setCell, World.size_setCell] at hbr
        have hpr : p < W3.heap.size := hpl
        clear hz hq0 hcut hX3 Hrest bp hG f0 u0 hpl Hn0
        generalize ((W3.setCell _ _).setCell _ _).alloc _ = W4 at *
        generalize W3.heap.size = rho at *
        obtain ⟨k0, k1, k2, k3⟩ := (cb2.ext hXW).c4
        have e0 := (c02.ext hXW).c1
        have v0 := hbr.c1
        set_option maxRecDepth 20000 in
        go_still_tail 5, (by kernel_rfl)
        change wpList _ _ _ _ _ W4.drew
        go_wp2_with fail
        refine (lacking_any _ m R _ (Hv.out.ext (hE2.trans (hXW.trans (Ext.drew _))))).mono ?_
        rintro e W5 ⟨rfl, he5, ⟨a1, a2, a3, B1⟩, B2⟩
        have hXW5 := hXW.trans ((Ext.drew _).trans he5)
        have hbp5 := hbp.ext ((Ext.drew _).trans he5)
        have hbr5 := hbr.ext ((Ext.drew _).trans he5)
        have hpL : p < W4.drew.heap.size := hbp.lt
        have hrL : rho < W4.drew.heap.size := hbr.lt
        clear hXW he5 hbp hbr k0 k1 k2 k3 e0 v0
        generalize W4.drew.heap.size = L at *
        have hR7 : R ≤ 1048576 := by omega
        have hRn : R < 2 ^ m.orders.length := Nat.lt_of_le_of_lt hRle hs
        go_wp2_with fail
        apply wp_lacking (show m.orders.length ≤ 20 by omega) hR7 B1 B2 rfl rfl
          (fun pre W => W5.heap.size ≤ W.heap.size ∧ Ext W2 W ∧ Blk W p 3 #[.int .i64 (stepL m num R order (pre.map fun y : In R => y.1))] ∧ Blk W rho 3 #[.int .i64 (R : Int)])
          (fun _ _ _ => False)
          (fun pre W W' ⟨h0, h1, h2, h3⟩ hl => ⟨Nat.le_trans h0 hl.size, h1.loops hl hXW5.size, h2.loops hl, h3.loops hl⟩)
          (fun _ _ _ _ h _ => h) ⟨Nat.le_refl _, hXW5, hbp5, hbr5⟩
        case hassign =>
          intro l x W K hK
          simp only [encK]
          gi_wp2
          exact hK
        case hbody =>
          intro l pre x W ⟨i0, i1, i2, i3⟩
          have hL5 := B2.lt
          have hxn : x.1 < m.orders.length := bitsS_mem_lt hRn x
          have hcall := hg W (hE2.trans i1) x.1 hxn x.2
          obtain ⟨kv, hkv⟩ : ∃ kv, num R x.1 = kv := ⟨_, rfl⟩
          have hkb := hnum x.1
          have hab := stepL_bd m num R order hnum (pre.map fun y : In R => y.1)
          have hsn := Lib.hid (stepL_snoc m num R order (pre.map fun y : In R => y.1) x.1)
          rw [hkv] at hcall hkb hsn
          obtain ⟨acc, hacc⟩ : ∃ acc, stepL m num R order (pre.map fun y : In R => y.1) = acc := ⟨_, rfl⟩
          rw [hacc] at i2 hab hsn
          have Hacc := Lib.hid hacc; clear hacc
          have Hkv := Lib.hid hkv; clear hkv
          have Hcall := Lib.hid hcall; clear hcall
          obtain ⟨last, hlast⟩ : ∃ last, x.1 = last := ⟨_, rfl⟩
          rw [hlast] at hxn Hcall hsn
          have eg' := eg
          unfold Enters at eg'
          have u0 := i2.c1
          have u1 := i3.c1
          have u2 := (c12.ext i1).c1
          rw [hlast]
          by_cases h99 : kv = 99
          · have hd : (kv != 99) = false := by simp [h99]
            gi_wp2_with fail
            refine ⟨trivial, CallsIn.inRound l (callsIn_wide.2 (Hcall.out.mono ?_))⟩
            rintro e W6 ⟨rfl, he6⟩
            have H99 := Lib.hid h99; clear h99
            gi_wp2
            refine ⟨keepsFrom_ext he6, ⟨Below.block he6 _ (by omega), Below.block he6 _ (by omega)⟩, Nat.le_trans i0 he6.size, i1.trans he6, ?_, i3.ext he6⟩
            rw [List.map_append, List.map_singleton, hlast, hsn.out, if_pos H99.out]
            exact i2.ext he6
          · have hd : (kv != 99) = true := by simp [h99]
            gi_wp2_with fail
            refine ⟨trivial, CallsIn.inRound l (callsIn_wide.2 (Hcall.out.mono ?_))⟩
            rintro e W6 ⟨rfl, he6⟩
            have H99 := Lib.hid h99; clear h99
            gi_wp2_with fail
            have i6 := i1.trans he6
            obtain ⟨b', o', hbo, A', ca', hca', q1, q2, q3, q4, q5⟩ := H7.out.ext (hE2.trans i6) last hxn
            cases hbo
            have hpat : (m.orders[last]?.getD default).pattern = m.pat last := rfl
            rw [hpat] at q1
            have hpo2 : m.pat order = x0.pattern := by unfold Mill.pat; rw [Hx0.out]
            rw [hpo2] at hsn
            clear hpat hpo2 q2 q3 q4 q5 u0 u1 u2
            generalize m.pat last = pl at *
            obtain ⟨ch, hch'⟩ : ∃ ch, chg pl x0.pattern = ch := ⟨_, rfl⟩
            have hcb := chg_bd pl x0.pattern
            rw [hch'] at hcb hsn
            have Hch := Lib.hid hch'; clear hch'
            obtain ⟨sum, hsum⟩ : ∃ sum, kv + ch = sum := ⟨_, rfl⟩
            have hsb : 0 ≤ sum ∧ sum ≤ 100 := by omega
            rw [hsum] at hsn
            have Hsum := Lib.hid hsum; clear hsum
            obtain ⟨res, hres⟩ : ∃ res, min acc sum = res := ⟨_, rfl⟩
            rw [hres] at hsn
            have Hres2 := Lib.hid hres; clear hres
            have p6 := i2.ext he6
            refine wpIn_region_facts 17 (by kernel_rfl) (by kernel_rfl) (fun W' => Ext W6 W') (stepR2 D O b o (.slice (some ⟨b, o, none⟩) m.orders.length c2) last acc kv pl x0.pattern ch sum res) (Ext.drew _) ?_ ?_
            · simp only [List.take, AllOpsIn, fill, Act.put, List.setIfInBounds_toArray, List.set_cons_zero, List.set_cons_succ, Nat.reduceAdd, Deps, and_true]
              refine ⟨?_, ?_, ?_, ?_, ?_, ?_, ?_, ?_, ?_, ?_, ?_, ?_, ?_, ?_, ?_, ?_, ?_⟩
              all_goals
                intro x W hG hd K Q hK
                try (simp only [stepR2] at hd; simp only [hd] at hK ⊢)
                obtain ⟨k0, k1, k2, k3⟩ := (cb2.ext (i6.trans hG)).c4
                have e0 := (c02.ext (i6.trans hG)).c1
                have jj := hG.cell q1
                obtain ⟨o0, o1, o2, o3⟩ := (bo.ext (i6.trans hG)).c4
                have u0 := (p6.ext hG).c1
              · have HK := Lib.hid hK; clear hK; gi_wp2; exact HK.out _ _ rfl hG (fun _ _ h => h)
              · have HK := Lib.hid hK; clear hK; gi_wp2; exact HK.out _ _ rfl hG (fun _ _ h => h)
              · have HK := Lib.hid hK; clear hK; gi_wp2; exact HK.out _ _ rfl hG (fun _ _ h => h)
              · have HK := Lib.hid hK; clear hK; gi_wp2; exact HK.out _ _ rfl hG (fun _ _ h => h)
              · have HK := Lib.hid hK; clear hK; gi_wp2; exact HK.out _ _ rfl hG (fun _ _ h => h)
              · have HK := Lib.hid hK; clear hK; gi_wp2; exact HK.out _ _ rfl hG (fun _ _ h => h)
              · have HK := Lib.hid hK; clear hK; gi_wp2; exact HK.out _ _ rfl hG (fun _ _ h => h)
              · have HK := Lib.hid hK; clear hK; gi_wp2; exact HK.out _ _ rfl hG (fun _ _ h => h)
              · have HK := Lib.hid hK; clear hK; gi_wp2; exact HK.out _ _ rfl hG (fun _ _ h => h)
              · have HK := Lib.hid hK; clear hK; gi_wp2; exact HK.out _ _ rfl hG (fun _ _ h => h)
              · have HK := Lib.hid hK; clear hK; gi_wp2; exact HK.out _ _ rfl hG (fun _ _ h => h)
              · have HK := Lib.hid hK; clear hK; gi_wp2; exact HK.out _ _ rfl hG (fun _ _ h => h)
              · have HK := Lib.hid hK; clear hK; gi_wp2; exact HK.out _ _ rfl hG (fun _ _ h => h)
              · have HK := Lib.hid hK; clear hK
                gi_wp2_with fail
                refine ⟨trivial, CallsIn.inRound l (callsIn_wide.2 ((changed_r pl x0.pattern ch Hch.out W).mono ?_))⟩
                rintro e w' ⟨rfl, rfl⟩
                gi_wp2
                exact HK.out _ _ rfl hG (fun _ _ h => h)
              · have HK := Lib.hid hK; clear hK; gi_wp2; exact HK.out _ _ (congrArg (Value.int .i64) Hsum.out) hG (fun _ _ h => h)
              · have HK := Lib.hid hK; clear hK; gi_wp2; exact HK.out _ _ ⟨_, rfl, Blk.new _ _ _⟩ (hG.trans (Ext.alloc _ _)) (stepR2.ext (Ext.alloc _ _))
              · obtain ⟨d0, ⟨g', d15, bg⟩, d13⟩ := hd
                simp only [d15] at hK ⊢
                have HK := Lib.hid hK; clear hK
                have hI1 : IntsAt W (some ⟨g', 0, none⟩) [sum] := by
                  intro k hk
                  obtain rfl : k = 0 := by simpa using hk
                  exact ⟨g', 0, rfl, bg.c1⟩
                gi_wp2_with fail
                refine ⟨trivial, CallsIn.inRound l (callsIn_wide.2 ((least_any acc (some ⟨g', 0, none⟩) 1 1 [sum] rfl res (by simpa using Hres2.out) W (by simp [maxLen]) hI1).mono ?_))⟩
                rintro e w' ⟨rfl, rfl⟩
                gi_wp2
                exact HK.out _ _ rfl hG (fun _ _ h => h)
            · intro x W7 hG hR
              simp only [AllR, stepR2, true_and] at hR
              have r16 := hR.2
              replace hR := hR.1.1
              have r14 := hR.2
              replace hR := hR.1
              have r13 := hR.2
              replace hR := hR.1
              have r12 := hR.2
              replace hR := hR.1
              have r11 := hR.2
              replace hR := hR.1
              have r10 := hR.2
              replace hR := hR.1
              have r9 := hR.2
              replace hR := hR.1
              have r8 := hR.2
              replace hR := hR.1
              have r7 := hR.2
              replace hR := hR.1
              have r6 := hR.2
              replace hR := hR.1
              have r5 := hR.2
              replace hR := hR.1
              have r4 := hR.2
              replace hR := hR.1
              have r3 := hR.2
              replace hR := hR.1
              have r2 := hR.2
              replace hR := hR.1
              have r1 := hR.2
              replace hR := hR.1
              simp only [List.take, List.drop, fill, Act.put, List.setIfInBounds_toArray, List.set_cons_zero, List.set_cons_succ, Nat.reduceAdd, hR, r1, r2, r3, r4, r5, r6, r7, r8, r9, r10, r11, r12, r13, r14, r16]
              clear hR r1 r2 r3 r4 r5 r6 r7 r8 r9 r10 r11 r12 r13 r14 r16
              generalize x 15 = x15
              have p7 := p6.ext hG
              have u0 := p7.c1
              have u1 := p7.frozen 0
              gi_wp2
              have hY : Ext W6 (W7.setCell ⟨p, 0, none⟩ (.int .i64 res)) ∨ True := .inr trivial
              have h67 := he6.trans hG
              have hsz7 := h67.size
              refine ⟨(keepsFrom_ext h67).trans ((KeepsOthers.setCell _ _ _).from _), ⟨(Below.heap_setCell W7 _ _ L (by show L ≠ p; omega)).trans (Below.block h67 _ (by omega)), (Below.heap_setCell W7 _ _ (L + 1) (by show L + 1 ≠ p; omega)).trans (Below.block h67 _ (by omega))⟩, ?_, ?_, ?_, (i3.ext h67).far (by show rho ≠ p; omega) _⟩
              · rw [World.size_setCell]; omega
              · exact Below.setCell (i1.trans h67) (by show _ ≤ p; omega) _
              · rw [List.map_append, List.map_singleton, hlast, hsn.out, if_neg H99.out]
                exact p7.set_ 0 _
        case hstop => intro _ _ _ _ _ _ h _; exact h.elim
        case' hdone =>
          intro Dd W hDd ⟨i0, hXW, hbp, _⟩ hdef
          rw [bitsS_map] at hbp
          obtain ⟨n1, hn1⟩ : ∃ n1, n1 = stepL m num R order (bits m.orders.length R) := ⟨_, rfl⟩
          rw [← hn1] at hbp
          have hres2 : Hid (stepN m num loom R order = n1) := by unfold Hid stepN; rw [if_neg hR0, ← hn1]
          have hsz5 := hXW5.size
          have hDd2 : w.heap.size ≤ Dd := by have := hE2.size; omega
          clear hn1 hR0 hR7 hRn i0 hXW5 hbp5 hbr5 hpL hrL B1 B2
          go_wp2_with fail
      all_goals
        have cbW := cb2.ext hXW
        have e0 := (c02.ext hXW).c1
        obtain ⟨k0, k1, k2, k3⟩ := cbW.c4
        obtain ⟨o0, o1, o2, o3⟩ := (bo.ext hXW).c4
        have u0 := hbp.c1
        have hmap := H9.out.ext h8 (hE2.trans hXW)
        have hlook := fun nq : Nat => (hmap.ext hmap.lt (Ext.drewN W nq)).look set (by omega)
        simp only [hs, if_true] at hlook
        have hres3 := Hres.out
        rw [hres2.out] at hres3
        have hEr := hE2.trans hXW
        have hby := Hord.out.2.2
        have hnb : 0 ≤ n1 ∧ n1 ≤ 99 := by
          rw [← hres2.out]; unfold stepN
          split
          · have := chg_bd (m.laced[loom]?.getD 0) (m.pat order); omega
          · exact stepL_bd m num R order hnum _
        have HX := Lib.hid (And.intro hEr hbp)
        clear hEr hXW hbp hmap cbW hres2 Hres Hord c02 c12 cb2 bo hE2 j2
        generalize daysOf m m.orders.length set = dd at *
        generalize m.change = cg at *
        by_cases h99 : 99 ≤ n1
        · obtain rfl : r = 99 := by rw [hres3]; simp only [h99, if_true]
          clear hres3
          go_quiet (fail)
          go_wp2
          first
            | exact ⟨_, results_tmp rfl _ _ _, rfl, HX.out.1.trans (Ext.drewN _ _)⟩
            | exact ⟨by simp, .inl ⟨_, _, rfl, run_takeDeferred hdef, ⟨_, results_tmp rfl _ _ _, rfl, Below.grown (HX.out.1.trans (Ext.drewN _ _)) (grownBy_putObj' _ _ _) (HX.out.1.trans (Ext.drewN _ _)).size (fun j e => by cases e; omega)⟩⟩⟩
        · have h99' : decide (99 ≤ n1) = false := by simpa using h99
          simp only [h99, if_false] at hres3
          obtain ⟨pr, hpr⟩ : ∃ pr, cg * n1 = pr := ⟨_, rfl⟩
          rw [hpr] at hres3
          have hp0 : 0 ≤ pr := by rw [← hpr]; exact Int.mul_nonneg hcg.1 hnb.1
          have hp1 : pr ≤ 495 := by rw [← hpr]; exact Int.le_trans (Int.mul_le_mul hcg.2 hnb.2 hnb.1 (by omega)) (by omega)
          by_cases hlate : x0.by_ < dd + pr
          · obtain rfl : r = 99 := by rw [hres3, if_pos hlate]
            clear hres3
            go_quiet (fail)
            go_wp2
            first
              | exact ⟨_, results_tmp rfl _ _ _, rfl, HX.out.1.trans (Ext.drewN _ _)⟩
              | exact ⟨by simp, .inl ⟨_, _, rfl, run_takeDeferred hdef, ⟨_, results_tmp rfl _ _ _, rfl, Below.grown (HX.out.1.trans (Ext.drewN _ _)) (grownBy_putObj' _ _ _) (HX.out.1.trans (Ext.drewN _ _)).size (fun j e => by cases e; omega)⟩⟩⟩
          · obtain rfl : r = n1 := by rw [hres3, if_neg hlate]
            clear hres3
            go_quiet (fail)
            go_wp2
            first
              | exact ⟨_, results_tmp rfl _ _ _, rfl, HX.out.1.trans (Ext.drewN _ _)⟩
              | exact ⟨by simp, .inl ⟨_, _, rfl, run_takeDeferred hdef, ⟨_, results_tmp rfl _ _ _, rfl, Below.grown (HX.out.1.trans (Ext.drewN _ _)) (grownBy_putObj' _ _ _) (HX.out.1.trans (Ext.drewN _ _)).size (fun j e => by cases e; omega)⟩⟩⟩
end Go.Proofs.Pet
