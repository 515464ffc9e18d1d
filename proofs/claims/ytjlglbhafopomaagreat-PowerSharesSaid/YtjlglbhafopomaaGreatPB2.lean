/-
  power's line of a shaft as an iterator that turns its box.
-/
import Derived.Test.YtjlglbhafopomaaGreatPB1
import Derived.Test.YtjlglbhafopomaaGreatPAM
namespace Go.Proofs.Pet
open Go Go.RowKit Go.Maps Go.Shelf
open Go.Proofs.Pow (PM Sh Wv POk)

/-- a shaft of a line -/
abbrev OnLine (m : PM) (s : Int) := { x : Int // x ∈ m.line s }
def encO (m : PM) (s : Int) (x : OnLine m s) : Array Value := #[.int .i64 x.1]
/-- what a round keeps: what lay at first, and the two boxes -/
def KeepsLine (n1 B : Nat) (X Y : World) : Prop := (∀ k, k < n1 → Y.heap[k]? = X.heap[k]?) ∧ Y.heap[B]? = X.heap[B]? ∧ Y.heap[B + 1]? = X.heap[B + 1]?
def TurnsLine (B : Nat) (X Y : World) : Prop := ∃ v, Y = X.setCell ⟨B + 1, 0, none⟩ v
theorem KeepsLine.t {n1 B : Nat} {X Y Z : World} (h : KeepsLine n1 B X Y) (k : KeepsLine n1 B Y Z) : KeepsLine n1 B X Z := ⟨fun j hj => (k.1 j hj).trans (h.1 j hj), k.2.1.trans h.2.1, k.2.2.trans h.2.2⟩
theorem KeepsLine.b {n1 B : Nat} {w : World} (h1 : n1 ≤ w.heap.size) (hB : B + 1 < w.heap.size) (W : World) (l : Nat) (o o' : Obj) (hl : w.heap.size ≤ l) (_h : W.heap[l]? = some o) (_h1 : o.isCells = false) (_h2 : o.isWalk = false) : KeepsLine n1 B W (W.putObj l o') :=
  ⟨fun k hk => World.putObj_heap_other (by omega), World.putObj_heap_other (by omega), World.putObj_heap_other (by omega)⟩
theorem TurnsLine.w {B : Nat} {w : World} (hB : B + 1 < w.heap.size) (X Y : World) (h : TurnsLine B X Y) (k : Nat) (hk : w.heap.size ≤ k) : Y.heap[k]? = X.heap[k]? := by
  obtain ⟨v, rfl⟩ := h
  exact Below.heap_setCell X ⟨B + 1, 0, none⟩ v k (by show k ≠ B + 1; omega)
theorem cell_of_blocks {X Y : World} {p : Addr} {v : Value} (h : Y.heap[p.block]? = X.heap[p.block]?) (hc : X.cell? p = some v) : Y.cell? p = some v := (World.cell?_of_block h).trans hc
theorem ShsAt.low {n1 : Nat} {X Y : World} {A : Option Addr} {xs : List Sh} (h : ShsAt X A xs) (hn : ∀ k, k < xs.length → ∀ ad, A = some ad → ad.block < n1) (hk : ∀ k, k < n1 → Y.heap[k]? = X.heap[k]?) : ShsAt Y A xs := by
  intro k hlt
  obtain ⟨b, o, rfl, h1, h2⟩ := h k hlt
  have hb := hn k hlt _ rfl
  exact ⟨b, o, rfl, cell_of_blocks (hk b hb) h1, cell_of_blocks (hk b hb) h2⟩
theorem ShsAt.low_lt {w : World} {A : Option Addr} {xs : List Sh} (h : ShsAt w A xs) : ∀ k, k < xs.length → ∀ ad, A = some ad → ad.block < w.heap.size := by
  intro k hlt ad e
  obtain ⟨b, o, rfl, h1, h2⟩ := h k hlt
  cases e
  show b < _
  exact cell_lt h1

theorem pline_any (A1 A2 : Option Addr) (n1 c1 n2 c2 : Nat) (s : Int) (w : World) :
    Calls Tryz.prog 144 #[.agg #[.slice A1 n1 c1, .slice A2 n2 c2], .int .i64 s] w fun e w' =>
      e = .returned (.func (.func 177) #[] #[.pointer (some ⟨w.heap.size + 1, 0, none⟩), .pointer (some ⟨w.heap.size, 0, none⟩)]) ∧ Ext w w' ∧ Blk w' w.heap.size 26 #[.slice A1 n1 c1, .slice A2 n2 c2] ∧ Blk w' (w.heap.size + 1) 3 #[.int .i64 s] ∧ w'.heap.size = w.heap.size + 2 := by
  have hmf : ∀ (fn : Fn) (first cap : Array Value) (w : World), (Instr.makeFunc fn first cap).run Tryz.prog w = .ok (.func fn first cap) w := fun _ _ _ _ => rfl
  have hE := (Ext.alloc w (.cells #[.slice A1 n1 c1, .slice A2 n2 c2] 26)).trans (Ext.alloc _ (.cells #[.int .i64 s] 3))
  have b1 := (Blk.new w 26 #[.slice A1 n1 c1, .slice A2 n2 c2]).alloc (.cells #[.int .i64 s] 3)
  have b2 := Blk.new (w.alloc (.cells #[.slice A1 n1 c1, .slice A2 n2 c2] 26)) 3 #[.int .i64 s]
  rw [World.size_alloc] at b2
  go_enter Tryz.func144, Tryz.ntmps144
  go_wp2_with fail
  go_ret
  exact ⟨rfl, hE, b1, b2, by rw [World.size_alloc, World.size_alloc]⟩

def curOf (B : Nat) (wr : World) : Int := match wr.cell? ⟨B + 1, 0, none⟩ with | some v => intOf v | none => 0

set_option maxRecDepth 20000 in
set_option maxHeartbeats 1000000 in
theorem line1_in (F : Fence) (n0 : Nat) (hF : F.fn 177) (hro : F.round = none) (hn : 1 ≤ n0) (l B n1 : Nat) (m : PM) (hu : Pow.UpOk m) (hB : n1 ≤ B) (A1 : Option Addr) (c1 : Nat) (v2 : Value) (_hl : m.shafts.length ≤ maxLen) (s : Int) (hs : -1 ≤ s ∧ s < m.shafts.length)
    (J : List (OnLine m s) → World → Prop) (hJT : ∀ s X Y, J s X → TurnsLine B X Y → J s Y)
    (hY : ∀ pre x W, J pre W → pre.length < (m.line s).length → YieldAt F (n0 - 1) Tryz.prog l (encO m s x) W fun e W' => e = .returned (.bool true) ∧ J (pre ++ [x]) W' ∧ KeepsLine n1 B W W')
    (W : World) (hB1 : Blk W B 26 #[.slice A1 m.shafts.length c1, v2]) (hB2 : Blk W (B + 1) 3 #[.int .i64 s]) (hA : ShsAt W A1 m.shafts) (hA1 : ∀ k, k < m.shafts.length → ∀ ad, A1 = some ad → ad.block < n1) (h0 : J [] W) :
    CallsIn F n0 Tryz.prog 177 #[.func (.yield l) #[] #[], .pointer (some ⟨B + 1, 0, none⟩), .pointer (some ⟨B, 0, none⟩)] W fun e W' => (∃ v, e = .returned v) ∧ ∃ xs, xs.map (fun x : OnLine m s => x.1) = m.line s ∧ J xs W' := by
  unfold maxLen at _hl
  refine callsIn_of_wp Tryz.func177 rfl hF ?_ hro
  simp only [Tryz.ntmps177, List.size_toArray, List.length_cons, List.length_nil, Nat.reduceAdd, Nat.reduceSub, Array.replicate_succ, Array.replicate_zero, List.push_toArray, List.append_toArray, List.nil_append, List.cons_append]
  gi_wp2
  gi_loopw [] (fun wr => ∃ (pre : List (OnLine m s)) (cur : Int), Hid (pre.map (fun x : OnLine m s => x.1) ++ m.line cur = m.line s) ∧ (-1 ≤ cur ∧ cur < m.shafts.length) ∧ Blk wr B 26 #[.slice A1 m.shafts.length c1, v2] ∧ Blk wr (B + 1) 3 #[.int .i64 cur] ∧ Hid (ShsAt wr A1 m.shafts) ∧ Hid (J pre wr))
    (fun wr => (curOf B wr + 1).toNat)
  case atStart => exact ⟨[], s, rfl, hs, hB1, hB2, Lib.hid hA, Lib.hid h0⟩
  case round =>
    clear hB1 hB2 hA h0
    obtain ⟨pre, cur, hpre, hc, hB1, hB2, hA, hJs⟩ := hrel
    have u0 := hB2.c1
    have hcur : Hid (curOf B wr = cur) := by unfold Hid curOf; rw [u0]; rfl
    by_cases hneg : cur = -1
    · subst hneg
      gi_wp2
      go_end0
      have := hpre.out
      rw [Pow.line_neg m (s := -1) (by decide), List.append_nil] at this
      exact ⟨⟨_, rfl⟩, pre, this, hJs.out⟩
    · obtain ⟨c, rfl⟩ : ∃ c : Nat, cur = c := ⟨cur.toNat, by omega⟩
      have hcl : c < m.shafts.length := by omega
      have hline := Pow.line_cons m hu hcl
      have hmem : (c : Int) ∈ m.line s := by rw [← hpre.out, hline]; simp
      obtain ⟨b, o, rfl, s1, s2⟩ := hA.out c hcl
      have hup := hu c hcl
      have hlen : pre.length < (m.line s).length := by rw [← hpre.out, hline]; simp
      obtain ⟨fn, tmps, assign, body, hy, hR⟩ := hY pre ⟨c, hmem⟩ wr hJs.out hlen
      have hsh : m.shafts[c]?.getD default = m.sh c := rfl
      rw [hsh] at s1 s2
      have Hline := Lib.hid hline
      have HA := Lib.hid hA
      have hd : ((c : Int) != -1) = true := by simp
      unfold encO at hy
      clear s1 s2 hline hlen hneg hA
      gi_wp2
      refine hR.mono ?_
      rintro e W3 ⟨rfl, hJ3, hk3⟩
      have hB3 : Blk W3 B 26 #[.slice (some ⟨b, o, none⟩) m.shafts.length c1, v2] := hk3.2.1.trans hB1
      have hB4 : Blk W3 (B + 1) 3 #[.int .i64 (c : Int)] := hk3.2.2.trans hB2
      have hA3 := HA.out.out.low hA1 hk3.1
      obtain ⟨b', o', e', s1, s2⟩ := hA3 c hcl
      cases e'
      rw [hsh] at s1 s2
      clear u0
      have u0 := hB4.c1
      have f0 := hB4.frozen 0
      obtain ⟨k0, k1⟩ := hB3.c2
      generalize hux : (m.sh c).up = ux at *
      have Hux := Lib.hid hux
      clear hux s2 hB1 hB2
      gi_wp2
      go_roundw
      case rel =>
        refine ⟨pre ++ [⟨c, by rw [← hpre.out, Hline.out]; simp⟩], ux, ?_, by omega, hB3.far (by show B ≠ B + 1; omega) _, by simpa using hB4.set_ 0 (.int .i64 ux), Lib.hid (hA3.low (n1 := n1) hA1 fun k hk => Below.heap_setCell W3 ⟨B + 1, 0, none⟩ _ k (by show k ≠ B + 1; omega)), Lib.hid (hJT _ _ _ hJ3 ⟨_, rfl⟩)⟩
        unfold Hid
        rw [List.map_append, List.map_singleton, List.append_assoc, List.singleton_append]
        have h9 := hpre.out
        rw [Hline.out] at h9
        exact h9
      case measure =>
        have : curOf B (W3.setCell ⟨B + 1, 0, none⟩ (.int .i64 ux)) = ux := by
          have := (show Blk (W3.setCell ⟨B + 1, 0, none⟩ (.int .i64 ux)) (B + 1) 3 #[.int .i64 ux] by simpa using hB4.set_ 0 (.int .i64 ux)).c1
          unfold curOf; rw [this]; rfl
        rw [this, hcur.out]
        omega

theorem line_seq (F : Fence) (n0 : Nat) (hF : F.fn 177) (hro : F.round = none) (hn : 1 ≤ n0) (B n1 : Nat) (m : PM) (hu : Pow.UpOk m) (hB : n1 ≤ B) (A1 : Option Addr) (c1 : Nat) (v2 : Value) (hl : m.shafts.length ≤ maxLen) (s : Int) (hs : -1 ≤ s ∧ s < m.shafts.length)
    (w : World) (hB1 : Blk w B 26 #[.slice A1 m.shafts.length c1, v2]) (hB2 : Blk w (B + 1) 3 #[.int .i64 s]) (hA : ShsAt w A1 m.shafts) (hA1 : ∀ k, k < m.shafts.length → ∀ ad, A1 = some ad → ad.block < n1) :
    SeqT F n0 Tryz.prog 177 #[.pointer (some ⟨B + 1, 0, none⟩), .pointer (some ⟨B, 0, none⟩)] (encO m s) (KeepsLine n1 B) (TurnsLine B) (fun xs => xs.map (fun x : OnLine m s => x.1) = m.line s) (m.line s).length w :=
  fun l J W hW _ hJT hY h0 => line1_in F n0 hF hro hn l B n1 m hu hB A1 c1 v2 hl s hs J hJT hY W (Blk.ext hB1 hW) (Blk.ext hB2 hW) (hA.ext hW) hA1 h0

/-- a range over a line -/
theorem wp_line {g : Operand} {ps : Array Tmp} {assign body : Code} {Q : Exit → Act → World → Prop} {a : Act} {w : World} {B n1 : Nat} {m : PM} (hu : Pow.UpOk m) (hB : n1 ≤ B) {A1 : Option Addr} {c1 : Nat} {v2 : Value} (hl : m.shafts.length ≤ maxLen) {s : Int} (hs : -1 ≤ s ∧ s < m.shafts.length)
    (hB1 : Blk w B 26 #[.slice A1 m.shafts.length c1, v2]) (hB2 : Blk w (B + 1) 3 #[.int .i64 s]) (hA : ShsAt w A1 m.shafts) (hA1 : ∀ k, k < m.shafts.length → ∀ ad, A1 = some ad → ad.block < n1)
    (hg : a.eval g = .func (.func 177) #[] #[.pointer (some ⟨B + 1, 0, none⟩), .pointer (some ⟨B, 0, none⟩)]) (hps : ps.size = 1)
    (I : List (OnLine m s) → World → Prop) (hI : ∀ p W W', I p W → Loops w.heap.size W W' → I p W') (hIT : ∀ p W W', I p W → TurnsLine B W W' → I p W') (h0 : I [] w) (a₁ : OnLine m s → Act)
    (hassign : ∀ (l : Nat) (x : OnLine m s) (W : World) (K : Act → World → Prop), K (a₁ x) W →
      assign.wpIn (Fence.wide.inRound l) 3 Tryz.prog (Exit.then K (fun _ _ _ => False)) { tmps := (ps.zip (encO m s x)).foldl (fun t (p, v) => t.setIfInBounds p v) a.tmps, defers := [] } W)
    (hbody : ∀ (l : Nat) (pre : List (OnLine m s)) (x : OnLine m s) (W : World), I pre W → pre.length < (m.line s).length → body.wpIn (Fence.wide.inRound l) 3 Tryz.prog (ownPostG w.heap.size (KeepsLine n1 B) I (fun _ _ _ => False) (pre ++ [x]) W) (a₁ x) W)
    (hdone : ∀ (D : Nat) (xs : List (OnLine m s)) (W : World), w.heap.size ≤ D → xs.map (fun x : OnLine m s => x.1) = m.line s → I xs W → W.heap[D]? = some (.deferred (some [])) → Q .normal { a with defers := { target := .collected D, args := #[] } :: a.defers } W) :
    (Code.rangeFunc g ps assign body).wp Tryz.prog Q a w := by
  have hBlt := hB2.lt
  exact (wpIn_wide (n := 5)).1 (wpIn_rangeT (n := 5) (by rfl) (by omega) hg trivial (enters_of Tryz.func177 (by kernel_rfl) rfl)
    (line_seq Fence.wide 4 trivial (by rfl) (by omega) B n1 m hu hB A1 c1 v2 hl s hs w hB1 hB2 hA hA1) (Below.refl _ _) KeepsLine.t (KeepsLine.b (by omega) hBlt) (TurnsLine.w hBlt) (fun x => by rw [hps]; rfl) I
    (ownFrom_keep hI) hIT h0 a₁ hassign hbody (fun D xs W hD hxs hi hK => hdone D xs W hD hxs hi hK))
end Go.Proofs.Pet
