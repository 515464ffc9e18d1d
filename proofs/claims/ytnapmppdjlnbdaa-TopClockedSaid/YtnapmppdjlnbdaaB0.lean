/-
  Words and contracts that name no chapter.
-/
import Derived.Test.YtnapmppdjlnbdaaChecked
import Derived.Test.YtnapmppdjlnbdaaLy
import Derived.WalkKit
import Derived.Below
import Derived.Outline
import Derived.BigQuiet
import Derived.Deep.QuietTactic
import Derived.Deep.Draws
import Derived.Deep.LoopGhost
import Derived.Lib.Hide
import Derived.Shelf.Abstract
import Derived.Shelf.RegionOpen
import Derived.RangeFuncNested
import Derived.RangeFuncBound
import Derived.RangeFuncCalls
import Derived.RangeFuncLeaves
import Derived.OwnWalkIn
import Derived.TacticsInMore
import Derived.LoopNIn
import Derived.LoopIn
import Derived.StillTailTactics
import Derived.Deep.RegionHeld3
import Derived.Maps.AppendAt
import Derived.Maps.OwnOps
import Derived.Deep.RegionLaw
import Derived.BigRegion
import Derived.Deep.DeepCutAuto
import Derived.WalkSpells
import Derived.Laws.EntriesVeiled
import Derived.StillTail
import Derived.Orders
import Derived.OrdersIn
import Derived.Laws.BitsAllLaws
import Derived.Laws.BitsLemmas
import Derived.Laws.AppendOwnNone
import Derived.Laws.MakeOwn
import Derived.Laws.CopyOwn
import Derived.Laws.Tables
import Derived.Laws.CopyRow
import Derived.Laws.IdiomCopy
import Derived.ProofKit
import Derived.ChangeSame
import Derived.Deep.Slices
import Derived.Deep.Fields
import Derived.Lib.SmallJoins
import Derived.ChangeSlices
import Derived.WideKeyArgs
import Derived.Sort.OwnSortedInts
namespace Go.Proofs.Pet
open Go Go.RowKit
/-- all that lay in w lies as it lay -/
def Ext (w w' : World) : Prop := Below w.heap.size w w'
theorem Ext.refl (w : World) : Ext w w := Below.refl _ w
theorem Ext.trans {a b c : World} (h : Ext a b) (k : Ext b c) : Ext a c :=
  Below.trans h (Below.mono k (Below.size h))
theorem Ext.cell {w w' : World} (h : Ext w w') {p : Addr} {v : Value} (hc : w.cell? p = some v) : w'.cell? p = some v := by
  have hb : p.block < w.heap.size := by
    rcases Nat.lt_or_ge p.block w.heap.size with hlt | hge
    · exact hlt
    · unfold World.cell? at hc; rw [Array.getElem?_eq_none hge] at hc; cases hc
  exact (Below.cell h hb).trans hc
theorem Ext.size {w w' : World} (h : Ext w w') : w.heap.size ≤ w'.heap.size := Below.size h
theorem Ext.drew (w : World) : Ext w w.drew := (Below.refl _ w).drew
theorem Ext.drewN (w : World) (n : Nat) : Ext w (w.drewN n) := ⟨rfl, rfl, rfl, Nat.le_refl _, fun _ _ => rfl⟩
theorem Ext.alloc (w : World) (o : Obj) : Ext w (w.alloc o) := (Below.refl _ w).alloc (Nat.le_refl _) o
theorem Ext.block {w w' : World} (h : Ext w w') {k : Nat} {o : Obj} (hk : w.heap[k]? = some o) : w'.heap[k]? = some o := by
  have hb : k < w.heap.size := (Array.getElem?_eq_some_iff.1 hk).1
  exact (Below.block h k hb).trans hk

/-- a slice of ints, nil let in -/
def IntsAt (w : World) (A : Option Addr) (xs : List Int) : Prop :=
  ∀ k, k < xs.length → ∃ b o, A = some ⟨b, o, none⟩ ∧ w.cell? ⟨b, o + k, none⟩ = some (.int .i64 (xs[k]?.getD 0))
theorem IntsAt.ext {w w' : World} {A : Option Addr} {xs : List Int} (h : IntsAt w A xs) (he : Ext w w') : IntsAt w' A xs :=
  fun k hk => let ⟨b, o, e, hc⟩ := h k hk; ⟨b, o, e, he.cell hc⟩

def IntVal (_w : World) (v : Value) (x : Int) : Prop := v = .int .i64 x
/-- a predicate as a function value: whatever has been laid since w -/
def Tells {α : Type} (P : Program) (w : World) (g : Nat) (fs lb : Array Value) (rep : World → Value → α → Prop) (x : α) (q : Bool) : Prop :=
  ∀ W v, Ext w W → rep W v x → Calls P g (fs ++ #[v] ++ lb) W fun e W' => e = .returned (.bool q) ∧ Ext W W'
theorem Tells.ext {α : Type} {P : Program} {w w' : World} {g : Nat} {fs lb : Array Value} {rep : World → Value → α → Prop} {x : α} {q : Bool} (h : Tells P w g fs lb rep x q) (he : Ext w w') :
    Tells P w' g fs lb rep x q := fun W v hW hv => h W v (he.trans hW) hv
theorem cell_new_l (W : World) (v : Value) (t : TypeId) : (W.alloc (.cells #[v] t)).cell? ⟨W.heap.size, 0, none⟩ = some v ∧ (W.alloc (.cells #[v] t)).frozen? ⟨W.heap.size, 0, none⟩ = false := by
  constructor
  · rw [World.cell?_alloc_at _ _ _ _ rfl]; rfl
  · rw [World.frozen?_alloc_at _ _ _ _ rfl]

/-- a block known whole -/
def Blk (w : World) (g : Nat) (t : TypeId) (cs : Array Value) : Prop := w.heap[g]? = some (.cells cs t (0, 0))
section
variable {w w' : World} {g : Nat} {t : TypeId} {cs : Array Value}
theorem Blk.lt (h : Blk w g t cs) : g < w.heap.size := (Array.getElem?_eq_some_iff.1 h).1
theorem Blk.cell (h : Blk w g t cs) (i : Nat) : w.cell? ⟨g, i, none⟩ = cs[i]? := cell_of_row w g i cs t (0, 0) h
theorem Blk.frozen (h : Blk w g t cs) (i : Nat) : w.frozen? ⟨g, i, none⟩ = false := by
  unfold Blk at h
  simp [World.frozen?, h]
theorem Blk.new (w : World) (t : TypeId) (cs : Array Value) : Blk (w.alloc (.cells cs t)) w.heap.size t cs := heap_alloc_new w _
theorem Blk.alloc (h : Blk w g t cs) (o : Obj) : Blk (w.alloc o) g t cs := (Below.heap_alloc w o g h.lt).trans h
theorem Blk.set_ (h : Blk w g t cs) (i : Nat) (u : Value) : Blk (w.setCell ⟨g, i, none⟩ u) g t (cs.setIfInBounds i u) := by
  unfold Blk at h ⊢
  simp [World.setCell, Array.getElem?_modify, h]
theorem Blk.far (h : Blk w g t cs) {p : Addr} (hp : g ≠ p.block) (u : Value) : Blk (w.setCell p u) g t cs := (Below.heap_setCell w p u g hp).trans h
theorem Blk.grown {row : Option Nat} (h : Blk w g t cs) (hb : w.grownBy w' row) (hg : some g ≠ row) : Blk w' g t cs := (hb.block g h.lt hg).trans h
theorem Blk.ne_ {g' : Nat} {t' : TypeId} {cs' : Array Value} (h : Blk w g t cs) (h' : Blk w g' t' cs') (hne : t ≠ t') : g ≠ g' := by
  rintro rfl
  unfold Blk at h h'
  rw [h] at h'
  injection h' with h'
  injection h' with _ ht
  exact hne ht
theorem Blk.ext (h : Blk w g t cs) (he : Ext w w') : Blk w' g t cs := he.block h
theorem Blk.c1 {a : Value} (h : Blk w g t #[a]) : w.cell? ⟨g, 0, none⟩ = some a := h.cell 0
theorem Blk.c3 {a b c : Value} (h : Blk w g t #[a, b, c]) : w.cell? ⟨g, 0, none⟩ = some a ∧ w.cell? ⟨g, 1, none⟩ = some b ∧ w.cell? ⟨g, 2, none⟩ = some c := ⟨h.cell 0, h.cell 1, h.cell 2⟩
theorem Blk.c4 {a b c d : Value} (h : Blk w g t #[a, b, c, d]) : w.cell? ⟨g, 0, none⟩ = some a ∧ w.cell? ⟨g, 1, none⟩ = some b ∧ w.cell? ⟨g, 2, none⟩ = some c ∧ w.cell? ⟨g, 3, none⟩ = some d := ⟨h.cell 0, h.cell 1, h.cell 2, h.cell 3⟩
theorem Blk.c2 {a b : Value} (h : Blk w g t #[a, b]) : w.cell? ⟨g, 0, none⟩ = some a ∧ w.cell? ⟨g, 1, none⟩ = some b := ⟨h.cell 0, h.cell 1⟩
end
end Go.Proofs.Pet
namespace Go.Proofs.Pet
open Go Go.RowKit
def inB (n lo hi : Int) : Bool := decide (lo ≤ n) && decide (n ≤ hi)
def risingTo (xs : List Int) (n : Nat) : Prop := ∀ i, 1 ≤ i → i < n → xs[i-1]?.getD 0 < xs[i]?.getD 0
def risingB : List Int → Bool
  | [] => true
  | a :: l => match l with
    | [] => true
    | b :: _ => decide (a < b) && risingB l
theorem risingB_iff (xs : List Int) : risingB xs = true ↔ risingTo xs xs.length := by
  induction xs with
  | nil => simp [risingB, risingTo]
  | cons a l ih =>
    cases l with
    | nil => simp [risingB, risingTo]; intro i h1 h2; omega
    | cons b l =>
      rw [risingB, Bool.and_eq_true, ih, decide_eq_true_eq]
      constructor
      · rintro ⟨h1, h2⟩ i hi hl
        rcases i with _ | _ | i
        · omega
        · simpa using h1
        · simpa using h2 (i + 1) (by omega) (by simpa using hl)
      · intro h
        refine ⟨by simpa using h 1 (by omega) (by simp), fun i hi hl => ?_⟩
        have := h (i + 1) (by omega) (by simpa using hl)
        rcases i with _ | i
        · omega
        · simpa using this
/-- an element is in the list more than once -/
def twiceB (l : List Int) : Bool := (List.range l.length).any fun i => (l.take i).contains (l[i]?.getD 0)
end Go.Proofs.Pet
namespace Go.Proofs.Pet
open Go Go.RowKit
section
variable {P : Program} {ops : Array Oper}
/-- the slots of the operations from number k on, filled with x k, x (k + 1) .. -/
def fill : List Oper → Nat → (Nat → Value) → Act → Act
  | [], _, _, a => a
  | o :: l, k, x, a => fill l (k + 1) x (a.put o.dst (x k))
theorem put_put (a : Act) (d : Option Tmp) (u v : Value) : (a.put d u).put d v = a.put d v := by
  cases d with
  | none => rfl
  | some d => simp [Act.put]
theorem fill_put_out (l : List Oper) (d : Option Tmp) (v : Value) : ∀ (k : Nat) (x : Nat → Value) (a : Act), (∀ o ∈ l, ∀ t, o.dst = some t → d ≠ some t) →
    (fill l k x a).put d v = fill l k x (a.put d v) := by
  induction l with
  | nil => intro k x a _; rfl
  | cons o l ih =>
    intro k x a h
    simp only [fill]
    rw [ih (k + 1) x _ (fun o' ho' => h o' (by simp [ho'])), Act.put_comm a (x k) v (fun t ht => h o (by simp) t ht)]
def upd (x : Nat → Value) (i : Nat) (v : Value) : Nat → Value := fun j => if j = i then v else x j
theorem fill_congr (l : List Oper) : ∀ (k : Nat) (x y : Nat → Value) (a : Act), (∀ j, k ≤ j → x j = y j) → fill l k x a = fill l k y a := by
  induction l with
  | nil => intro k x y a _; rfl
  | cons o l ih =>
    intro k x y a h
    simp only [fill]
    rw [h k (Nat.le_refl _), ih (k + 1) x y _ (fun j hj => h j (by omega))]
/-- no two of them write the same slot -/
def distinct : List Oper → Bool
  | [] => true
  | o :: l => (match o.dst with | none => true | some t => l.all fun p => p.dst != some t) && distinct l
theorem fill_put (l : List Oper) : ∀ (k i : Nat) (o : Oper) (x : Nat → Value) (v : Value) (a : Act), distinct l = true → l[i]? = some o →
    (fill l k x a).put o.dst v = fill l k (upd x (k + i) v) a := by
  induction l with
  | nil => intro k i o x v a _ h; simp at h
  | cons p l ih =>
    intro k i o x v a hd hi
    simp only [distinct, Bool.and_eq_true] at hd
    rcases i with _ | i
    · simp only [List.getElem?_cons_zero, Option.some.injEq] at hi
      subst hi
      simp only [fill]
      rw [fill_put_out, put_put]
      · simp only [upd, Nat.add_zero, if_true]
        exact fill_congr l _ _ _ _ fun j hj => by simp [upd]; intro h; omega
      · intro q hq t ht
        cases hp : p.dst with
        | none => simp
        | some s =>
          have h1 := hd.1
          rw [hp] at h1
          have := List.all_eq_true.1 h1 q hq
          rw [ht] at this
          intro e
          rw [← e] at this
          simp at this
    · simp only [fill]
      rw [ih (k + 1) i o x v _ hd.2 (by simpa using hi)]
      have : upd x (k + 1 + i) v k = x k := by simp [upd]; intro h; omega
      rw [show k + (i + 1) = k + 1 + i by omega, this]

/-- what is known of the results that an operation waits for -/
def Deps (R : Nat → Value → World → Prop) (x : Nat → Value) (w : World) : List Edge → Prop
  | [] => True
  | e :: l => R e.on (x e.on) w ∧ Deps R x w l
def AllOps (P : Program) (ops : Array Oper) (G : World → Prop) (R : Nat → Value → World → Prop) (fr : (Nat → Value) → Act) : List Oper → Nat → Prop
  | [], _ => True
  | o :: l, k => (∀ (x : Nat → Value) (w : World), G w → Deps R x w o.after.toList → ∀ (K : Act → World → Prop) (Q : Exit → Act → World → Prop),
      (∀ v w', R k v w' → G w' → (∀ j u, R j u w → R j u w') → K ((fr x).put o.dst v) w') → wpList P ops (Exit.then K Q) [o] (fr x) w) ∧ AllOps P ops G R fr l (k + 1)
def unlisted (n : Nat) (L : Array Bool) : Nat := (List.range n).countP fun i => !L.getD i true
theorem unlisted_set {n i : Nat} {L : Array Bool} (hi : i < n) (h : L.getD i true = false) : unlisted n (L.setIfInBounds i true) + 1 = unlisted n L := by
  unfold unlisted
  induction n with
  | zero => omega
  | succ n ih =>
    rw [List.range_succ, List.countP_append, List.countP_append]
    have hlt : i < L.size := by
      rcases Nat.lt_or_ge i L.size with h' | h'
      · exact h'
      · rw [Array.getD_eq_getD_getElem?, Array.getElem?_eq_none h'] at h; simp at h
    by_cases hin : i = n
    · subst hin
      have e1 : (List.range i).countP (fun j => !(L.setIfInBounds i true).getD j true) = (List.range i).countP (fun j => !L.getD j true) := by
        refine List.countP_congr fun j hj => ?_
        have : j ≠ i := by have := List.mem_range.1 hj; omega
        rw [getD_set_ne true (Ne.symm this)]
      rw [e1]
      have e2 : (L.setIfInBounds i true).getD i true = true := by simp [hlt]
      have h' : L[i]?.getD true = false := by simpa using h
      have e3 : (L.setIfInBounds i true)[i]?.getD true = true := by simp [hlt]
      simp [h']
    · have := ih (by omega)
      have e2 : (L.setIfInBounds i true).getD n true = L.getD n true := getD_set_ne true hin
      simp only [List.countP_cons, List.countP_nil, e2]
      omega
theorem unlisted_zero {n : Nat} {L : Array Bool} (h : unlisted n L = 0) : ∀ i, i < n → L.getD i true = true := by
  intro i hi
  have := List.countP_eq_zero.1 h i (List.mem_range.2 hi)
  simpa using this
theorem unlisted_pos {n f : Nat} {L : Array Bool} (h : unlisted n L = f + 1) : ∃ i, i < n ∧ L.getD i true = false ∧ ∀ j, j < i → L.getD j true = true := by
  have h0 : ∃ i, i < n ∧ L.getD i true = false := by
    have : 0 < (List.range n).countP fun i => !L.getD i true := by unfold unlisted at h; omega
    obtain ⟨i, hi, hp⟩ := List.countP_pos_iff.1 this
    exact ⟨i, List.mem_range.1 hi, by simpa using hp⟩
  obtain ⟨i, hi⟩ := h0
  induction i using Nat.strongRecOn with
  | _ i ih =>
    by_cases hx : ∃ j, j < i ∧ L.getD j true = false
    · obtain ⟨j, hj, hf⟩ := hx
      exact ih j hj ⟨by omega, hf⟩
    · refine ⟨i, hi.1, hi.2, fun j hj => ?_⟩
      cases hb : L.getD j true with
      | true => rfl
      | false => exact absurd ⟨j, hj, hb⟩ hx

/-- all that the head has left -/
def AllR (R : Nat → Value → World → Prop) (x : Nat → Value) (w : World) : Nat → Prop
  | 0 => True
  | n + 1 => AllR R x w n ∧ R n (x n) w
/-- the check, by the kernel -/
def headB (l : List Oper) (n : Nat) : Bool :=
  decide (n ≤ l.length) && distinct (l.take n) && (decide (n = l.length) || (Region.sinkB .any l.toArray n && Region.chainB .any l.toArray n)) &&
  Region.seqB .any l.toArray (l.length - n) n (Array.replicate n true ++ Array.replicate (l.length - n) false) &&
  (List.range n).all fun i => match l[i]? with | some o => o.after.all fun e => decide (e.on < i) && Region.binds .any e | none => true

end
end Go.Proofs.Pet
namespace Go.Proofs.Pet
open Go Go.RowKit
section
variable {P : Program} {ops : Array Oper}
/-- the check, by the kernel -/
def headB2 (l : List Oper) (n : Nat) : Bool :=
  decide (n ≤ l.length) && distinct (l.take n) && (decide (n = l.length) || (Region.sinkB .any l.toArray n && Region.chainB .any l.toArray n)) &&
  Region.seqB .any l.toArray (l.length - n) n (Array.replicate n true ++ Array.replicate (l.length - n) false) &&
  (List.range n).all fun i => match l[i]? with | some o => o.after.all fun e => !Region.binds .any e || decide (e.on < i) | none => true

def DepsL (Ld : Nat → Prop) : List Edge → Prop
  | [] => True
  | e :: l => Ld e.on ∧ DepsL Ld l
theorem DepsL.mk {Ld : Nat → Prop} : ∀ {l : List Edge}, (∀ e ∈ l, Ld e.on) → DepsL Ld l
  | [], _ => trivial
  | e :: _, h => ⟨h e (by simp), DepsL.mk fun e' he => h e' (by simp [he])⟩
/-- each operation of the head: Ld tells which are done; what is known of their results, one by one and two by two, may be used -/
def AllOps2 (P : Program) (ops : Array Oper) (G : World → Prop) (R : Nat → Value → World → Prop) (Ap : Nat → Value → Nat → Value → Prop) (fr : (Nat → Value) → Act) : List Oper → Nat → Prop
  | [], _ => True
  | o :: l, k => (∀ (Ld : Nat → Prop) (x : Nat → Value) (w : World), G w → ¬ Ld k → (∀ i, Ld i → R i (x i) w) → (∀ i j, Ld i → Ld j → i ≠ j → Ap i (x i) j (x j) ∨ Ap j (x j) i (x i)) → DepsL Ld (o.after.toList.filter (Region.binds .any)) → Deps R x w (o.after.toList.filter (Region.binds .any)) → ∀ (K : Act → World → Prop) (Q : Exit → Act → World → Prop),
      (∀ v w', R k v w' → G w' → (∀ j, Ld j → R j (x j) w' ∧ (Ap j (x j) k v ∨ Ap k v j (x j))) → K ((fr x).put o.dst v) w') → wpList P ops (Exit.then K Q) [o] (fr x) w) ∧ AllOps2 P ops G R Ap fr l (k + 1)
end
end Go.Proofs.Pet
namespace Go.Proofs.Pet
open Go Go.RowKit
section
variable {P : Program} {ops : Array Oper}
/-- what is done is done behind what it waits for -/
def Closed (Ld : Nat → Prop) : List Oper → Nat → Prop
  | [], _ => True
  | o :: l, k => (Ld k → DepsL Ld (o.after.toList.filter (Region.binds .any))) ∧ Closed Ld l (k + 1)
theorem Closed.mk {Ld : Nat → Prop} : ∀ (l : List Oper) (k : Nat), (∀ i o, l[i]? = some o → Ld (k + i) → DepsL Ld (o.after.toList.filter (Region.binds .any))) → Closed Ld l k
  | [], _, _ => trivial
  | o :: l, k, h => ⟨h 0 o rfl, Closed.mk l (k + 1) fun i o' ho hl => h (i + 1) o' (by simpa using ho) (by rwa [show k + (i + 1) = k + 1 + i by omega])⟩
def DepsV (R : Nat → Value → Prop) (x : Nat → Value) : List Edge → Prop
  | [] => True
  | e :: l => R e.on (x e.on) ∧ DepsV R x l
theorem DepsV.mk {R : Nat → Value → Prop} {x : Nat → Value} : ∀ {l : List Edge}, (∀ e ∈ l, R e.on (x e.on)) → DepsV R x l
  | [], _ => trivial
  | e :: _, h => ⟨h e (by simp), DepsV.mk fun e' he => h e' (by simp [he])⟩
def AllV (R : Nat → Value → Prop) (x : Nat → Value) : Nat → Prop
  | 0 => True
  | n + 1 => AllV R x n ∧ R n (x n)
theorem AllV.mk {R : Nat → Value → Prop} {x : Nat → Value} : ∀ {n : Nat}, (∀ i, i < n → R i (x i)) → AllV R x n
  | 0, _ => trivial
  | n + 1, h => ⟨AllV.mk fun i hi => h i (by omega), h n (by omega)⟩
/-- each operation of the head: S tells what is known of the memory by what is done -/
def AllOps3 (P : Program) (ops : Array Oper) (hd : List Oper) (S : (Nat → Prop) → (Nat → Value) → World → Prop) (R : Nat → Value → Prop) (fr : (Nat → Value) → Act) : List Oper → Nat → Prop
  | [], _ => True
  | o :: l, k => (∀ (Ld : Nat → Prop) (x : Nat → Value) (w : World), S Ld x w → Closed Ld hd 0 → ¬ Ld k → DepsL Ld (o.after.toList.filter (Region.binds .any)) → DepsV R x (o.after.toList.filter (Region.binds .any)) → ∀ (K : Act → World → Prop) (Q : Exit → Act → World → Prop),
      (∀ v w', R k v → S (fun j => Ld j ∨ j = k) (upd x k v) w' → K ((fr x).put o.dst v) w') → wpList P ops (Exit.then K Q) [o] (fr x) w) ∧ AllOps3 P ops hd S R fr l (k + 1)
theorem AllOps3.at_ {hd : List Oper} {S : (Nat → Prop) → (Nat → Value) → World → Prop} {R : Nat → Value → Prop} {fr : (Nat → Value) → Act} : ∀ (l : List Oper) (k : Nat), AllOps3 P ops hd S R fr l k →
    ∀ (i : Nat) (o : Oper), l[i]? = some o → ∀ (Ld : Nat → Prop) (x : Nat → Value) (w : World), S Ld x w → Closed Ld hd 0 → ¬ Ld (k + i) → DepsL Ld (o.after.toList.filter (Region.binds .any)) → DepsV R x (o.after.toList.filter (Region.binds .any)) → ∀ (K : Act → World → Prop) (Q : Exit → Act → World → Prop),
      (∀ v w', R (k + i) v → S (fun j => Ld j ∨ j = k + i) (upd x (k + i) v) w' → K ((fr x).put o.dst v) w') → wpList P ops (Exit.then K Q) [o] (fr x) w
  | [], _, _, i, o, hi => by simp at hi
  | p :: l, k, h, i, o, hi => by
    rcases i with _ | i
    · simp only [List.getElem?_cons_zero, Option.some.injEq] at hi
      subst hi
      exact h.1
    · have := AllOps3.at_ l (k + 1) h.2 i o (by simpa using hi)
      rw [show k + (i + 1) = k + 1 + i by omega]
      exact this

theorem getD_set_true' {L : Array Bool} {i : Nat} (_h : L.getD i true = false) (hi : i < L.size) : (L.setIfInBounds i true).getD i false = true := by
  simp [hi]
theorem wp_region_stage {id : Nat} {Q : Exit → Act → World → Prop} {a : Act} {w : World} {l : List Oper} (n : Nat) (hm : P.follows .mixedOrders = true) (hB : headB2 l n = true)
    (S : (Nat → Prop) → (Nat → Value) → World → Prop) (R : Nat → Value → Prop) (hS0 : ∀ x, S (fun _ => False) x w.drew)
    (hops : AllOps3 P l.toArray (l.take n) S R (fun x => fill (l.take n) 0 x a) (l.take n) 0)
    (hend : ∀ (x : Nat → Value) (w' : World), S (fun j => j < n) x w' → AllV R x n → wpList P l.toArray Q (l.drop n) (fill (l.take n) 0 x a) w') :
    (Code.region id l.toArray true).wp P Q a w := by
  simp only [headB2, Bool.and_eq_true, decide_eq_true_eq, Bool.or_eq_true, List.all_eq_true, List.mem_range] at hB
  obtain ⟨⟨⟨⟨hn, hd⟩, hsc⟩, hseq⟩, hlow⟩ := hB
  have htl : (l.take n).length = n := by simp; omega
  have main : ∀ (f : Nat) (L : Array Bool) (x : Nat → Value) (w' : World), unlisted n L = f → HeadInv .any l.toArray n L → (∀ i, i < n → L.getD i false = true → R i (x i)) → S (fun j => j < n ∧ L.getD j false = true) x w' →
      wpAny P .any l.toArray Q (f + (l.length - n)) L (fill (l.take n) 0 x a) w' := by
    intro f
    induction f with
    | zero =>
      intro L x w' hf inv hR hg
      have hall := unlisted_zero hf
      have hLs : L.size = l.length := by simpa using inv.size
      have hL : L = Array.replicate n true ++ Array.replicate (l.length - n) false := by
        refine Array.ext (by simp; omega) fun i h1 h2 => ?_
        by_cases hin : i < n
        · have := hall i hin
          rw [Array.getD_eq_getD_getElem?, Array.getElem?_eq_getElem h1] at this
          rw [Array.getElem_append_left (by simpa using hin)]
          simpa using this
        · have := inv.tail i (by omega) (by simpa using (by omega : i < l.length))
          rw [Array.getD_eq_getD_getElem?, Array.getElem?_eq_getElem h1] at this
          rw [Array.getElem_append_right (by simpa using hin)]
          simpa using this
      have hfull : ∀ i, i < n → L.getD i false = true := fun i hi => by
        have := hall i hi
        have hlt : i < L.size := by omega
        rw [Array.getD_eq_getD_getElem?, Array.getElem?_eq_getElem hlt] at this ⊢
        simpa using this
      rw [Nat.zero_add]
      have := wpAny_of_seq (md := .any) (Q' := Q) (l.drop n) n L (fill (l.take n) 0 x a) w' (fun j => by simp [List.getElem?_drop]) (by rw [hL]; simpa using hseq)
        (hend x w' (by
          have e : (fun j => j < n ∧ L.getD j false = true) = (fun j => j < n) := by
            funext j; exact propext ⟨fun h => h.1, fun h => ⟨h, hfull j h⟩⟩
          rw [← e]; exact hg) <| AllV.mk fun i hi => hR i hi (by
          have := hall i hi
          have hlt : i < L.size := by omega
          rw [Array.getD_eq_getD_getElem?, Array.getElem?_eq_getElem hlt] at this ⊢
          simpa using this))
      simpa using this
    | succ f ih =>
      intro L x w' hf inv hR hg
      have hLs : L.size = l.length := by simpa using inv.size
      rw [show f + 1 + (l.length - n) = f + (l.length - n) + 1 by omega]
      obtain ⟨m, hmn, hmf, hmin⟩ := unlisted_pos hf
      have hnr : ∀ j, j ∈ Region.ready .any l.toArray L → j < n := by
        intro j hj
        rcases hsc with hsc | hsc
        · have := (mem_ready.1 hj)
          obtain ⟨_, oj, hoj, _⟩ := this
          have := (Array.getElem?_eq_some_iff.1 hoj).1
          simp at this
          omega
        · rcases Nat.lt_or_ge j n with h | h
          · exact h
          · have hlt : n < l.toArray.size := by
              obtain ⟨_, oj, hoj, _⟩ := mem_ready.1 hj
              have := (Array.getElem?_eq_some_iff.1 hoj).1
              omega
            exact absurd hj (tail_waits hsc.1 hsc.2 hlt inv _ m rfl hmn hmf j h)
      refine ⟨fun h0 => ?_, fun i hi => ?_⟩
      · exfalso
        have hml : m < l.length := by omega
        have : m ∈ Region.ready .any l.toArray L := by
          refine mem_ready.2 ⟨hmf, l[m], by simp [hml], fun e he hbe => ?_⟩
          have h1 := hlow m hmn
          rw [List.getElem?_eq_getElem hml] at h1
          have h2 := Array.all_eq_true'.1 h1 e he
          simp only [hbe, Bool.not_true, Bool.false_or, decide_eq_true_eq] at h2
          have h3 := hmin e.on h2
          have hlt : e.on < L.size := by omega
          rw [Array.getD_eq_getD_getElem?, Array.getElem?_eq_getElem hlt] at h3 ⊢
          simpa using h3
        rw [h0] at this
        cases this
      · have hin := hnr i hi
        obtain ⟨hun, o, ho, hdeps⟩ := mem_ready.1 hi
        have ho' : l[i]? = some o := by simpa using ho
        have hot : (l.take n)[i]? = some o := by rw [List.getElem?_take]; simp [hin, ho']
        have h1 := hlow i hin
        rw [ho'] at h1
        have hpre : ∀ e ∈ o.after.toList.filter (Region.binds .any), R e.on (x e.on) := by
          intro e he
          obtain ⟨he, hbe⟩ := List.mem_filter.1 he
          have h2 := Array.all_eq_true'.1 h1 e (by simpa using he)
          simp only [hbe, Bool.not_true, Bool.false_or, decide_eq_true_eq] at h2
          exact hR e.on (by omega) (hdeps e (by simpa using he) hbe)
        have next : ∀ v w'', R i v → S (fun j => (j < n ∧ L.getD j false = true) ∨ j = i) (upd x i v) w'' → wpAny P .any l.toArray Q (f + (l.length - n)) (L.setIfInBounds i true) ((fill (l.take n) 0 x a).put o.dst v) w'' := by
          intro v w'' hv hg'
          rw [fill_put (l.take n) 0 i o x v a hd hot, Nat.zero_add]
          refine ih _ _ _ (by have := unlisted_set hin hun; omega) (inv.set hi hin) (fun j hj hl => ?_) ?_
          · by_cases hji : j = i
            · subst hji; simpa [upd] using hv
            · rw [getD_set_ne false (Ne.symm hji)] at hl
              simpa [upd, hji] using hR j hj hl
          · have e : (fun j => j < n ∧ (L.setIfInBounds i true).getD j false = true) = (fun j => (j < n ∧ L.getD j false = true) ∨ j = i) := by
              funext j
              by_cases hji : j = i
              · subst hji
                exact propext ⟨fun _ => .inr rfl, fun _ => ⟨hin, getD_set_true' hun (by omega)⟩⟩
              · rw [getD_set_ne false (Ne.symm hji)]
                exact propext ⟨fun h => .inl h, fun h => h.resolve_right hji⟩
            rw [e]; exact hg'
        have hdl : DepsL (fun j => j < n ∧ L.getD j false = true) (o.after.toList.filter (Region.binds .any)) := DepsL.mk fun e he => by
          obtain ⟨he, hbe⟩ := List.mem_filter.1 he
          have h2 := Array.all_eq_true'.1 h1 e (by simpa using he)
          simp only [hbe, Bool.not_true, Bool.false_or, decide_eq_true_eq] at h2
          exact ⟨by omega, hdeps e (by simpa using he) hbe⟩
        have hcl : Closed (fun j => j < n ∧ L.getD j false = true) (l.take n) 0 := by
          refine Closed.mk _ _ fun j oj hoj hl => DepsL.mk fun e he => ?_
          obtain ⟨he, hbe⟩ := List.mem_filter.1 he
          rw [Nat.zero_add] at hl
          have hjn : j < n := hl.1
          have hoj' : l[j]? = some oj := by rw [List.getElem?_take] at hoj; simpa [hjn] using hoj
          have h1 := hlow j hjn
          rw [hoj'] at h1
          have h2 := Array.all_eq_true'.1 h1 e (by simpa using he)
          simp only [hbe, Bool.not_true, Bool.false_or, decide_eq_true_eq] at h2
          exact ⟨by omega, inv.closed j oj (by simpa using hoj') hl.2 e (by simpa using he) hbe⟩
        have hop := hops.at_ (l.take n) 0 i o hot (fun j => j < n ∧ L.getD j false = true) x w' hg hcl (by rw [Nat.zero_add]; exact fun h => by rw [getD_both hun] at h; exact absurd h.2 (by simp)) hdl (DepsV.mk hpre) (wpAny P .any l.toArray Q (f + (l.length - n)) (L.setIfInBounds i true)) Q
          (fun v w'' h1 h2 => next v w'' (by simpa using h1) (by simpa using h2))
        unfold wpOp
        rw [ho]
        unfold wpList at hop
        dsimp only
        split
        · rename_i hw
          rw [if_pos hw] at hop
          rcases hop with hop | ⟨h1, h2⟩
          · left
            have hq : ∀ (K : Act → World → Prop), o.wp P (fill (l.take n) 0 x a) w' K (Exit.then (wpAny P .any l.toArray Q (f + (l.length - n)) (L.setIfInBounds i true)) Q) → o.wp P (fill (l.take n) 0 x a) w' K Q := by
              intro K hK
              unfold Oper.wp at hK ⊢
              generalize (execOp (fill (l.take n) 0 x a).eval o).run P w' = r at hK ⊢
              cases r with
              | ok v w'' =>
                cases v <;> simp only [Oper.upon] at hK ⊢ <;> first
                  | exact hK
                  | exact Calls.mono hK (fun e w3 he => by cases e <;> first | exact he | (obtain ⟨a2, w2, h3⟩ := he; exact ⟨a2, w2, h3⟩))
              | halt x w'' => cases x <;> simp only [Oper.upon] at hK ⊢ <;> exact hK
            exact hq _ (Oper.wp_mono (fun a' w'' h => h) hop)
          · right
            exact ⟨h1, by obtain ⟨a2, w2, h3⟩ := h2; exact ⟨a2, w2, h3⟩⟩
        · rename_i hw
          rw [if_neg hw] at hop
          exact hop
  have inv0 : HeadInv .any l.toArray n (Array.replicate l.length false) :=
    ⟨by simp, fun j oj _ hl => (by rw [getD_replicate_false] at hl; cases hl), fun t _ ht => getD_in (by simpa using ht) (getD_replicate_false _ _)⟩
  refine wp_region_any hm ?_
  have h0 : unlisted n (Array.replicate l.length false) = n := by
    unfold unlisted
    have : (List.range n).countP (fun i => !(Array.replicate l.length false).getD i true) = (List.range n).length := List.countP_eq_length.2 fun i hi => by
      have : i < l.length := by have := List.mem_range.1 hi; omega
      simp [this]
    simpa using this
  -- at first each slot of the head holds what it held
  have hfill : ∀ (l' : List Oper) (k : Nat), distinct l' = true → ∃ x, fill l' k x a = a := by
    intro l'
    induction l' with
    | nil => intro k _; exact ⟨fun _ => undef, rfl⟩
    | cons o l' ih =>
      intro k hd'
      simp only [distinct, Bool.and_eq_true] at hd'
      obtain ⟨x', hx'⟩ := ih (k + 1) hd'.2
      cases ho : o.dst with
      | none =>
        refine ⟨x', ?_⟩
        simp only [fill, ho]
        exact hx'
      | some d =>
        refine ⟨upd x' k (a.tmps.getD d undef), ?_⟩
        simp only [fill, ho]
        have e1 : a.put (some d) (upd x' k (a.tmps.getD d undef) k) = a := by
          simp only [upd, if_true, Act.put]
          rw [Array.getD_eq_getD_getElem?]
          rcases Nat.lt_or_ge d a.tmps.size with h | h
          · rw [Array.getElem?_eq_getElem h]; simp [Array.setIfInBounds, h]
          · rw [Array.setIfInBounds_eq_of_size_le h]
        rw [e1, fill_congr l' (k + 1) _ x' a fun j hj => by simp [upd]; intro h; omega]
        exact hx'
  obtain ⟨x0, hx0⟩ := hfill (l.take n) 0 hd
  have := main n _ x0 w.drew h0 inv0 (fun i hi hl => by rw [getD_replicate_false] at hl; cases hl) (by
    have e : (fun j => j < n ∧ (Array.replicate l.length false).getD j false = true) = (fun _ => False) := by
      funext j; rw [getD_replicate_false]; simp
    rw [e]; exact hS0 x0)
  rw [hx0, show n + (l.length - n) = l.length by omega] at this
  simpa using this
end
end Go.Proofs.Pet
namespace Go.Proofs.Pet
open Go Go.RowKit
section
variable {P : Program} {ops : Array Oper}
theorem wpAnyIn_of_seq {F : Fence} {n0 : Nat} {md : Region.Mode} {Q' : Exit → Act → World → Prop} : ∀ (l : List Oper) (k : Nat) (listed : Array Bool) (a : Act) (w : World), (∀ j, l[j]? = ops[k + j]?) →
    Region.seqB md ops l.length k listed = true → wpListIn F n0 P ops Q' l a w → wpAnyIn F n0 P md ops Q' l.length listed a w
  | [], _, _, _, _, _, hB, h => ⟨by simpa [Region.seqB] using hB, h⟩
  | o :: l, k, listed, a, w, hl, hB, h => by
    have h0 : ops[k]? = some o := by simpa using (hl 0).symm
    simp only [List.length_cons, Region.seqB, Bool.and_eq_true, decide_eq_true_eq] at hB
    refine ⟨fun h1 => (by rw [hB.1] at h1; cases h1), fun i hi => ?_⟩
    rw [hB.1] at hi
    have hik : i = k := by simpa using hi
    subst hik
    have hw : wpOpIn F n0 P ops Q' i (wpListIn F n0 P ops Q' l) a w := by unfold wpOpIn; simp only [h0]; exact h
    exact wpOpIn_mono (fun a' w' h' => wpAnyIn_of_seq l (i + 1) _ a' w' (fun j => by have := hl (j + 1); simpa [Nat.add_assoc, Nat.add_comm 1 j] using this) hB.2 h') hw
def AllOpsIn (F : Fence) (n0 : Nat) (P : Program) (ops : Array Oper) (G : World → Prop) (R : Nat → Value → World → Prop) (fr : (Nat → Value) → Act) : List Oper → Nat → Prop
  | [], _ => True
  | o :: l, k => (∀ (x : Nat → Value) (w : World), G w → Deps R x w o.after.toList → ∀ (K : Act → World → Prop) (Q : Exit → Act → World → Prop),
      (∀ v w', R k v w' → G w' → (∀ j u, R j u w → R j u w') → K ((fr x).put o.dst v) w') → wpListIn F n0 P ops (Exit.then K Q) [o] (fr x) w) ∧ AllOpsIn F n0 P ops G R fr l (k + 1)
end
end Go.Proofs.Pet
namespace Go.Proofs.Pet
open Go Go.RowKit
section
variable {P : Program} {ops : Array Oper}
/-- each operation of the head: S tells what is known of the memory by what is done -/
def AllOps3In (F : Fence) (n0 : Nat) (P : Program) (ops : Array Oper) (hd : List Oper) (S : (Nat → Prop) → (Nat → Value) → World → Prop) (R : Nat → Value → Prop) (fr : (Nat → Value) → Act) : List Oper → Nat → Prop
  | [], _ => True
  | o :: l, k => (∀ (Ld : Nat → Prop) (x : Nat → Value) (w : World), S Ld x w → Closed Ld hd 0 → ¬ Ld k → DepsL Ld (o.after.toList.filter (Region.binds .any)) → DepsV R x (o.after.toList.filter (Region.binds .any)) → ∀ (K : Act → World → Prop) (Q : Exit → Act → World → Prop),
      (∀ v w', R k v → S (fun j => Ld j ∨ j = k) (upd x k v) w' → K ((fr x).put o.dst v) w') → wpListIn F n0 P ops (Exit.then K Q) [o] (fr x) w) ∧ AllOps3In F n0 P ops hd S R fr l (k + 1)
theorem AllOps3In.at_ {F : Fence} {n0 : Nat} {hd : List Oper} {S : (Nat → Prop) → (Nat → Value) → World → Prop} {R : Nat → Value → Prop} {fr : (Nat → Value) → Act} : ∀ (l : List Oper) (k : Nat), AllOps3In F n0 P ops hd S R fr l k →
    ∀ (i : Nat) (o : Oper), l[i]? = some o → ∀ (Ld : Nat → Prop) (x : Nat → Value) (w : World), S Ld x w → Closed Ld hd 0 → ¬ Ld (k + i) → DepsL Ld (o.after.toList.filter (Region.binds .any)) → DepsV R x (o.after.toList.filter (Region.binds .any)) → ∀ (K : Act → World → Prop) (Q : Exit → Act → World → Prop),
      (∀ v w', R (k + i) v → S (fun j => Ld j ∨ j = k + i) (upd x (k + i) v) w' → K ((fr x).put o.dst v) w') → wpListIn F n0 P ops (Exit.then K Q) [o] (fr x) w
  | [], _, _, i, o, hi => by simp at hi
  | p :: l, k, h, i, o, hi => by
    rcases i with _ | i
    · simp only [List.getElem?_cons_zero, Option.some.injEq] at hi
      subst hi
      exact h.1
    · have := AllOps3In.at_ l (k + 1) h.2 i o (by simpa using hi)
      rw [show k + (i + 1) = k + 1 + i by omega]
      exact this

theorem wpIn_region_stage {F : Fence} {n0 : Nat} {id : Nat} {Q : Exit → Act → World → Prop} {a : Act} {w : World} {l : List Oper} (n : Nat) (hm : P.follows .mixedOrders = true) (hB : headB2 l n = true)
    (S : (Nat → Prop) → (Nat → Value) → World → Prop) (R : Nat → Value → Prop) (hS0 : ∀ x, S (fun _ => False) x w.drew)
    (hops : AllOps3In F n0 P l.toArray (l.take n) S R (fun x => fill (l.take n) 0 x a) (l.take n) 0)
    (hend : ∀ (x : Nat → Value) (w' : World), S (fun j => j < n) x w' → AllV R x n → wpListIn F n0 P l.toArray Q (l.drop n) (fill (l.take n) 0 x a) w') :
    (Code.region id l.toArray true).wpIn F n0 P Q a w := by
  simp only [headB2, Bool.and_eq_true, decide_eq_true_eq, Bool.or_eq_true, List.all_eq_true, List.mem_range] at hB
  obtain ⟨⟨⟨⟨hn, hd⟩, hsc⟩, hseq⟩, hlow⟩ := hB
  have htl : (l.take n).length = n := by simp; omega
  have main : ∀ (f : Nat) (L : Array Bool) (x : Nat → Value) (w' : World), unlisted n L = f → HeadInv .any l.toArray n L → (∀ i, i < n → L.getD i false = true → R i (x i)) → S (fun j => j < n ∧ L.getD j false = true) x w' →
      wpAnyIn F n0 P .any l.toArray Q (f + (l.length - n)) L (fill (l.take n) 0 x a) w' := by
    intro f
    induction f with
    | zero =>
      intro L x w' hf inv hR hg
      have hall := unlisted_zero hf
      have hLs : L.size = l.length := by simpa using inv.size
      have hL : L = Array.replicate n true ++ Array.replicate (l.length - n) false := by
        refine Array.ext (by simp; omega) fun i h1 h2 => ?_
        by_cases hin : i < n
        · have := hall i hin
          rw [Array.getD_eq_getD_getElem?, Array.getElem?_eq_getElem h1] at this
          rw [Array.getElem_append_left (by simpa using hin)]
          simpa using this
        · have := inv.tail i (by omega) (by simpa using (by omega : i < l.length))
          rw [Array.getD_eq_getD_getElem?, Array.getElem?_eq_getElem h1] at this
          rw [Array.getElem_append_right (by simpa using hin)]
          simpa using this
      have hfull : ∀ i, i < n → L.getD i false = true := fun i hi => by
        have := hall i hi
        have hlt : i < L.size := by omega
        rw [Array.getD_eq_getD_getElem?, Array.getElem?_eq_getElem hlt] at this ⊢
        simpa using this
      rw [Nat.zero_add]
      have := wpAnyIn_of_seq (md := .any) (Q' := Q) (l.drop n) n L (fill (l.take n) 0 x a) w' (fun j => by simp [List.getElem?_drop]) (by rw [hL]; simpa using hseq)
        (hend x w' (by
          have e : (fun j => j < n ∧ L.getD j false = true) = (fun j => j < n) := by
            funext j; exact propext ⟨fun h => h.1, fun h => ⟨h, hfull j h⟩⟩
          rw [← e]; exact hg) <| AllV.mk fun i hi => hR i hi (by
          have := hall i hi
          have hlt : i < L.size := by omega
          rw [Array.getD_eq_getD_getElem?, Array.getElem?_eq_getElem hlt] at this ⊢
          simpa using this))
      simpa using this
    | succ f ih =>
      intro L x w' hf inv hR hg
      have hLs : L.size = l.length := by simpa using inv.size
      rw [show f + 1 + (l.length - n) = f + (l.length - n) + 1 by omega]
      obtain ⟨m, hmn, hmf, hmin⟩ := unlisted_pos hf
      have hnr : ∀ j, j ∈ Region.ready .any l.toArray L → j < n := by
        intro j hj
        rcases hsc with hsc | hsc
        · have := (mem_ready.1 hj)
          obtain ⟨_, oj, hoj, _⟩ := this
          have := (Array.getElem?_eq_some_iff.1 hoj).1
          simp at this
          omega
        · rcases Nat.lt_or_ge j n with h | h
          · exact h
          · have hlt : n < l.toArray.size := by
              obtain ⟨_, oj, hoj, _⟩ := mem_ready.1 hj
              have := (Array.getElem?_eq_some_iff.1 hoj).1
              omega
            exact absurd hj (tail_waits hsc.1 hsc.2 hlt inv _ m rfl hmn hmf j h)
      refine ⟨fun h0 => ?_, fun i hi => ?_⟩
      · exfalso
        have hml : m < l.length := by omega
        have : m ∈ Region.ready .any l.toArray L := by
          refine mem_ready.2 ⟨hmf, l[m], by simp [hml], fun e he hbe => ?_⟩
          have h1 := hlow m hmn
          rw [List.getElem?_eq_getElem hml] at h1
          have h2 := Array.all_eq_true'.1 h1 e he
          simp only [hbe, Bool.not_true, Bool.false_or, decide_eq_true_eq] at h2
          have h3 := hmin e.on h2
          have hlt : e.on < L.size := by omega
          rw [Array.getD_eq_getD_getElem?, Array.getElem?_eq_getElem hlt] at h3 ⊢
          simpa using h3
        rw [h0] at this
        cases this
      · have hin := hnr i hi
        obtain ⟨hun, o, ho, hdeps⟩ := mem_ready.1 hi
        have ho' : l[i]? = some o := by simpa using ho
        have hot : (l.take n)[i]? = some o := by rw [List.getElem?_take]; simp [hin, ho']
        have h1 := hlow i hin
        rw [ho'] at h1
        have hpre : ∀ e ∈ o.after.toList.filter (Region.binds .any), R e.on (x e.on) := by
          intro e he
          obtain ⟨he, hbe⟩ := List.mem_filter.1 he
          have h2 := Array.all_eq_true'.1 h1 e (by simpa using he)
          simp only [hbe, Bool.not_true, Bool.false_or, decide_eq_true_eq] at h2
          exact hR e.on (by omega) (hdeps e (by simpa using he) hbe)
        have next : ∀ v w'', R i v → S (fun j => (j < n ∧ L.getD j false = true) ∨ j = i) (upd x i v) w'' → wpAnyIn F n0 P .any l.toArray Q (f + (l.length - n)) (L.setIfInBounds i true) ((fill (l.take n) 0 x a).put o.dst v) w'' := by
          intro v w'' hv hg'
          rw [fill_put (l.take n) 0 i o x v a hd hot, Nat.zero_add]
          refine ih _ _ _ (by have := unlisted_set hin hun; omega) (inv.set hi hin) (fun j hj hl => ?_) ?_
          · by_cases hji : j = i
            · subst hji; simpa [upd] using hv
            · rw [getD_set_ne false (Ne.symm hji)] at hl
              simpa [upd, hji] using hR j hj hl
          · have e : (fun j => j < n ∧ (L.setIfInBounds i true).getD j false = true) = (fun j => (j < n ∧ L.getD j false = true) ∨ j = i) := by
              funext j
              by_cases hji : j = i
              · subst hji
                exact propext ⟨fun _ => .inr rfl, fun _ => ⟨hin, getD_set_true' hun (by omega)⟩⟩
              · rw [getD_set_ne false (Ne.symm hji)]
                exact propext ⟨fun h => .inl h, fun h => h.resolve_right hji⟩
            rw [e]; exact hg'
        have hdl : DepsL (fun j => j < n ∧ L.getD j false = true) (o.after.toList.filter (Region.binds .any)) := DepsL.mk fun e he => by
          obtain ⟨he, hbe⟩ := List.mem_filter.1 he
          have h2 := Array.all_eq_true'.1 h1 e (by simpa using he)
          simp only [hbe, Bool.not_true, Bool.false_or, decide_eq_true_eq] at h2
          exact ⟨by omega, hdeps e (by simpa using he) hbe⟩
        have hcl : Closed (fun j => j < n ∧ L.getD j false = true) (l.take n) 0 := by
          refine Closed.mk _ _ fun j oj hoj hl => DepsL.mk fun e he => ?_
          obtain ⟨he, hbe⟩ := List.mem_filter.1 he
          rw [Nat.zero_add] at hl
          have hjn : j < n := hl.1
          have hoj' : l[j]? = some oj := by rw [List.getElem?_take] at hoj; simpa [hjn] using hoj
          have h1 := hlow j hjn
          rw [hoj'] at h1
          have h2 := Array.all_eq_true'.1 h1 e (by simpa using he)
          simp only [hbe, Bool.not_true, Bool.false_or, decide_eq_true_eq] at h2
          exact ⟨by omega, inv.closed j oj (by simpa using hoj') hl.2 e (by simpa using he) hbe⟩
        have hop := hops.at_ (l.take n) 0 i o hot (fun j => j < n ∧ L.getD j false = true) x w' hg hcl (by rw [Nat.zero_add]; exact fun h => by rw [getD_both hun] at h; exact absurd h.2 (by simp)) hdl (DepsV.mk hpre) (wpAnyIn F n0 P .any l.toArray Q (f + (l.length - n)) (L.setIfInBounds i true)) Q
          (fun v w'' h1 h2 => next v w'' (by simpa using h1) (by simpa using h2))
        unfold wpOpIn
        rw [ho]
        unfold wpListIn at hop
        dsimp only
        split
        · rename_i hw
          rw [if_pos hw] at hop
          have hq : ∀ (K : Act → World → Prop), o.wpIn F n0 P (fill (l.take n) 0 x a) w' K (Exit.then (wpAnyIn F n0 P .any l.toArray Q (f + (l.length - n)) (L.setIfInBounds i true)) Q) → o.wpIn F n0 P (fill (l.take n) 0 x a) w' K Q := by
            intro K hK
            unfold Oper.wpIn at hK ⊢
            refine ⟨hK.1, ?_⟩
            have hK := hK.2
            generalize (o.semAt F.round (fill (l.take n) 0 x a).eval).run P w' = r at hK ⊢
            cases r with
            | ok v w'' =>
              cases v <;> simp only [Oper.uponIn] at hK ⊢ <;> first
                | exact hK
                | exact ⟨hK.1, CallsIn.mono hK.2 (fun e w3 he => by cases e <;> first | exact he | (obtain ⟨a2, w2, h3⟩ := he; exact ⟨a2, w2, h3⟩))⟩
                | exact ⟨hK.1, RoundIn.mono hK.2 (fun e w3 he => by cases e <;> first | exact he | (obtain ⟨a2, w2, h3⟩ := he; exact ⟨a2, w2, h3⟩))⟩
            | halt x w'' => cases x <;> simp only [Oper.uponIn] at hK ⊢ <;> exact hK
          exact hq _ (Oper.wpIn_mono (fun a' w'' h => h) hop)
        · rename_i hw
          rw [if_neg hw] at hop
          exact hop
  have inv0 : HeadInv .any l.toArray n (Array.replicate l.length false) :=
    ⟨by simp, fun j oj _ hl => (by rw [getD_replicate_false] at hl; cases hl), fun t _ ht => getD_in (by simpa using ht) (getD_replicate_false _ _)⟩
  refine wpIn_region_any hm ?_
  have h0 : unlisted n (Array.replicate l.length false) = n := by
    unfold unlisted
    have : (List.range n).countP (fun i => !(Array.replicate l.length false).getD i true) = (List.range n).length := List.countP_eq_length.2 fun i hi => by
      have : i < l.length := by have := List.mem_range.1 hi; omega
      simp [this]
    simpa using this
  -- at first each slot of the head holds what it held
  have hfill : ∀ (l' : List Oper) (k : Nat), distinct l' = true → ∃ x, fill l' k x a = a := by
    intro l'
    induction l' with
    | nil => intro k _; exact ⟨fun _ => undef, rfl⟩
    | cons o l' ih =>
      intro k hd'
      simp only [distinct, Bool.and_eq_true] at hd'
      obtain ⟨x', hx'⟩ := ih (k + 1) hd'.2
      cases ho : o.dst with
      | none =>
        refine ⟨x', ?_⟩
        simp only [fill, ho]
        exact hx'
      | some d =>
        refine ⟨upd x' k (a.tmps.getD d undef), ?_⟩
        simp only [fill, ho]
        have e1 : a.put (some d) (upd x' k (a.tmps.getD d undef) k) = a := by
          simp only [upd, if_true, Act.put]
          rw [Array.getD_eq_getD_getElem?]
          rcases Nat.lt_or_ge d a.tmps.size with h | h
          · rw [Array.getElem?_eq_getElem h]; simp [Array.setIfInBounds, h]
          · rw [Array.setIfInBounds_eq_of_size_le h]
        rw [e1, fill_congr l' (k + 1) _ x' a fun j hj => by simp [upd]; intro h; omega]
        exact hx'
  obtain ⟨x0, hx0⟩ := hfill (l.take n) 0 hd
  have := main n _ x0 w.drew h0 inv0 (fun i hi hl => by rw [getD_replicate_false] at hl; cases hl) (by
    have e : (fun j => j < n ∧ (Array.replicate l.length false).getD j false = true) = (fun _ => False) := by
      funext j; rw [getD_replicate_false]; simp
    rw [e]; exact hS0 x0)
  rw [hx0, show n + (l.length - n) = l.length by omega] at this
  simpa using this
end
end Go.Proofs.Pet
namespace Go.Proofs.Pet
open Go Go.RowKit
/-- a without b -/
def sdiff (a b : Nat) : Nat := a ^^^ (a &&& b)
theorem pow_le_of_testBit {s k : Nat} (h : s.testBit k = true) : 2 ^ k ≤ s := Nat.ge_two_pow_of_testBit h
end Go.Proofs.Pet
namespace Go.Proofs.Pet
open Go Go.RowKit
section
variable {P : Program} {w : World}
/-- what is appended: nothing, or cells that lie in a row -/
def Src (w : World) (A : Option Addr) (news : List Value) : Prop :=
  news = [] ∨ ∃ ad, A = some ad ∧ ∀ j u, news[j]? = some u → w.cell? (ad.add j) = some u
theorem Src.ext {w' : World} {A : Option Addr} {news : List Value} (h : Src w A news) (he : Ext w w') : Src w' A news := by
  rcases h with h | ⟨ad, h1, h2⟩
  · exact .inl h
  · exact .inr ⟨ad, h1, fun j u hu => he.cell (h2 j u hu)⟩
theorem Src.one (w : World) (x : Value) (t : TypeId) : Src (w.alloc (.cells #[x] t)) (some ⟨w.heap.size, 0, none⟩) [x] := .inr ⟨_, rfl, cell_one_new w x t⟩
theorem IntsAt.src {A : Option Addr} {xs : List Int} (h : IntsAt w A xs) : Src w A (xs.map (Value.int .i64)) := by
  cases xs with
  | nil => exact .inl rfl
  | cons x l =>
    obtain ⟨b, o, rfl, _⟩ := h 0 (by simp)
    refine .inr ⟨_, rfl, fun j u hu => ?_⟩
    have hj : j < (x :: l).length := by
      rcases Nat.lt_or_ge j (x :: l).length with h' | h'
      · exact h'
      · rw [List.getElem?_eq_none (by simpa using h')] at hu; cases hu
    obtain ⟨b', o', e, hc⟩ := h j hj
    simp only [Option.some.injEq, Addr.mk.injEq, and_true] at e
    obtain ⟨rfl, rfl⟩ := e
    have e2 : (⟨b, o, none⟩ : Addr).add j = ⟨b, o + j, none⟩ := by unfold Addr.add; split <;> simp_all
    rw [e2, hc]
    rw [List.getElem?_map, List.getElem?_eq_getElem hj] at hu
    rw [List.getElem?_eq_getElem hj]
    simpa using hu

theorem run_append_nil (base : Nat) (t ty e : TypeId) (i : TypeInfo) (size : Nat) (ht : P.underlying t = some (.slice e)) (hi : P.info? e = some i)
    (v : Value) (n : Nat) (xs : List Value) (hown : w.ownsRow base e size v n xs) (c : Nat) : (Builtin.append_ #[t, t] ty #[v, .slice none 0 c]).run P w = .ok v w := by
  rcases hown.2 with ⟨rfl, rfl⟩ | ⟨g, cap, cur, rfl, _, _, hnc, _⟩
  · simp [Builtin.append_, run_underlying ht, sizeOf, typeInfo, hi, Builtin.lenOf, Builtin.firstCells]
  · simp [Builtin.append_, run_underlying ht, sizeOf, typeInfo, hi, Builtin.lenOf, Builtin.firstCells, hnc, storeCells]

theorem run_app (base : Nat) (t ty e : TypeId) (i : TypeInfo) (z : Value) (size bytes : Nat) (ht : P.underlying t = some (.slice e)) (hi : P.info? e = some i) (hz : i.zero = some z)
    (hsize : i.size = size) (hby : i.bytes = bytes) (hzs : z.cells.size = size) (hsz : 0 < size)
    (v : Value) (n : Nat) (xs : List Value) (hown : w.ownsRow base e size v n xs)
    (A : Option Addr) (m c : Nat) (news : List Value) (hl : news.length = m * size) (hr : Src w A news) (h1 : ∀ u ∈ news, u.oneCell' = true)
    (h63 : n + m ≤ maxLen) (hbytes : (n + m) * bytes ≤ 140737488355328) (hbase : base ≤ w.heap.size) :
    ∃ v' w', (Builtin.append_ #[t, t] ty #[v, .slice A m c]).run P w = .ok v' w' ∧ w'.ownsRow base e size v' (n + m) (xs ++ news) ∧ w.grownBy w' v.ownBlock ∧
      (v'.ownBlock = v.ownBlock ∨ v'.ownBlock = some w.heap.size) := by
  have hm0 : news = [] → m = 0 := by
    rintro rfl
    rcases Nat.eq_zero_or_pos m with h | h
    · exact h
    · have := Nat.mul_pos h hsz
      simp at hl
      omega
  cases A with
  | none =>
    have hn : news = [] := by
      rcases hr with h | ⟨ad, h, _⟩
      · exact h
      · cases h
    have := hm0 hn
    subst hn
    subst this
    exact ⟨v, w, run_append_nil base t ty e i size ht hi v n xs hown c, by simpa using hown, ⟨rfl, rfl, rfl, Nat.le_refl _, fun _ _ _ => rfl⟩, .inl rfl⟩
  | some ad =>
    have hc : ∀ j u, news[j]? = some u → w.cell? (ad.add j) = some u := by
      rcases hr with h | ⟨ad', h, h2⟩
      · subst h; intro j u hu; simp at hu
      · simp only [Option.some.injEq] at h
        subst h
        exact h2
    obtain ⟨v', w', hrun, h2, h3, _, h5⟩ := run_append_own_at (P := P) w base t ty e i z size bytes ht hi hz hsize hby hzs hsz v n xs hown ad m c news hl hc h1 h63 hbytes hbase
    exact ⟨v', w', hrun, h2, h3, h5⟩

theorem wpList_app {ops : Array Oper} {rest : List Oper} {o : Oper} {a : Act} {Q : Exit → Act → World → Prop} (hgd : o.guard = none) (s x : Operand) (t : TypeId)
    (ho : o.op = .call { callee := .builtin .append, args := #[s, x], argTypes := #[t, t] })
    (base : Nat) (e : TypeId) (i : TypeInfo) (z : Value) (size bytes : Nat) (ht : P.underlying t = some (.slice e)) (hi : P.info? e = some i) (hz : i.zero = some z)
    (hsize : i.size = size) (hby : i.bytes = bytes) (hzs : z.cells.size = size) (hsz : 0 < size)
    (v : Value) (n : Nat) (xs : List Value) (hs : a.eval s = v) (hown : w.ownsRow base e size v n xs)
    (A : Option Addr) (m c : Nat) (news : List Value) (hx : a.eval x = .slice A m c) (hl : news.length = m * size) (hr : Src w A news) (h1 : ∀ u ∈ news, u.oneCell' = true)
    (h63 : n + m ≤ maxLen) (hbytes : (n + m) * bytes ≤ 140737488355328) (hbase : base ≤ w.heap.size)
    (h : ∀ v' w', w'.ownsRow base e size v' (n + m) (xs ++ news) → w.grownBy w' v.ownBlock → (v'.ownBlock = v.ownBlock ∨ v'.ownBlock = some w.heap.size) → wpList P ops Q rest (a.put o.dst v') w') : wpList P ops Q (o :: rest) a w :=
  wpList_plain hgd fun K hK => by
    obtain ⟨v', w', hrun, h2, h3, h4⟩ := run_app (P := P) base t o.type e i z size bytes ht hi hz hsize hby hzs hsz v n xs hown A m c news hl hr h1 h63 hbytes hbase
    unfold Oper.wp execOp
    simp only [ho, resolve, invoke, builtin, Sem.run_bind, Sem.run_pure, Result.andThen_ok, List.map_toArray, List.map_cons, List.map_nil, hs, hx, hrun]
    exact hK _ _ (h v' w' h2 h3 h4)

/-- a slice of ints of the call's own: from block base on; e is the number of the type int -/
def OwnI (w : World) (base : Nat) (e : TypeId) (v : Value) (xs : List Int) : Prop := w.ownsRow base e 1 v xs.length (xs.map (Value.int .i64))
theorem OwnI.nil (w : World) (base : Nat) (e : TypeId) : OwnI w base e (.slice none 0 0) [] := World.ownsRow_nil w base e 1
theorem OwnI.open_ {base : Nat} {e : TypeId} {v : Value} {xs : List Int} (h : OwnI w base e v xs) :
    ∃ A c, v = .slice A xs.length c ∧ xs.length ≤ c ∧ c ≤ maxLen ∧ IntsAt w A xs ∧ (∀ ad, A = some ad → base ≤ ad.block ∧ ad.block < w.heap.size ∧ v.ownBlock = some ad.block) ∧ (A = none → xs = []) := by
  obtain ⟨_, h2⟩ := h
  rcases h2 with ⟨rfl, h0⟩ | ⟨g, cap, cur, rfl, hg, hb, hn, hm, hs, hc⟩
  · have : xs = [] := List.length_eq_zero_iff.1 h0
    subst this
    exact ⟨none, 0, rfl, by simp, Nat.zero_le _, fun k hk => absurd hk (by simp), (fun ad h => by cases h), fun _ => rfl⟩
  · refine ⟨some ⟨g, 0, none⟩, cap, rfl, hn, hm, fun k hk => ⟨g, 0, rfl, ?_⟩, ?_, fun h => by cases h⟩
    · rw [cell_of_row w g (0 + k) cur e (0, 0) hb, Nat.zero_add]
      have h1 : (cur.toList.take (xs.length * 1))[k]? = (xs.map (Value.int .i64))[k]? := by rw [hc]
      rw [List.getElem?_take, if_pos (by omega), List.getElem?_map, List.getElem?_eq_getElem hk] at h1
      rw [List.getElem?_eq_getElem hk, ← Array.getElem?_toList, h1]
      rfl
    · intro ad h
      simp only [Option.some.injEq] at h
      subst h
      exact ⟨hg, (Array.getElem?_eq_some_iff.1 hb).1, rfl⟩
theorem OwnI.ext {w' : World} {base : Nat} {e : TypeId} {v : Value} {xs : List Int} (h : OwnI w base e v xs) (he : Ext w w') : OwnI w' base e v xs := by
  obtain ⟨h1, h2⟩ := h
  refine ⟨h1, ?_⟩
  rcases h2 with h2 | ⟨g, cap, cur, rfl, hg, hb, r⟩
  · exact .inl h2
  · exact .inr ⟨g, cap, cur, rfl, hg, he.block hb, r⟩
theorem OwnI.mono {base base' : Nat} {e : TypeId} {v : Value} {xs : List Int} (h : OwnI w base e v xs) (hb : base' ≤ base) : OwnI w base' e v xs := by
  obtain ⟨h1, h2⟩ := h
  refine ⟨h1, ?_⟩
  rcases h2 with h2 | ⟨g, cap, cur, rfl, hg, r⟩
  · exact .inl h2
  · exact .inr ⟨g, cap, cur, rfl, by omega, r⟩
end
theorem ext_alloc_grown {w w' : World} {o : Obj} {row : Option Nat} (hg : (w.alloc o).grownBy w' row) (hr : ∀ k, row = some k → w.heap.size ≤ k) : Ext w w' :=
  Below.grown (Ext.alloc w o) hg (by simp) hr
end Go.Proofs.Pet
namespace Go.Proofs.Pet
open Go Go.RowKit
theorem ownsRow_mono {w : World} {base base' size n : Nat} {e : TypeId} {v : Value} {xs : List Value} (h : w.ownsRow base e size v n xs) (hb : base' ≤ base) : w.ownsRow base' e size v n xs := by
  obtain ⟨h1, h2⟩ := h
  refine ⟨h1, ?_⟩
  rcases h2 with h2 | ⟨g, cap, cur, rfl, hg, r⟩
  · exact .inl h2
  · exact .inr ⟨g, cap, cur, rfl, by omega, r⟩
end Go.Proofs.Pet
namespace Go.Proofs.Pet
open Go Go.RowKit
section
variable {P : Program} {w W : World}
theorem Blk.row {g : Nat} {t : TypeId} {old : Array Value} (h : Blk w g t old) (cs : Array Value) : Blk (w.setRow g cs) g t cs := setRow_heap w g old cs t (0, 0) h
theorem Blk.rowFar {g g' : Nat} {t : TypeId} {cs : Array Value} (h : Blk w g t cs) (hne : g ≠ g') (cs' : Array Value) : Blk (w.setRow g' cs') g t cs := (setRow_other w g' g cs' hne).trans h
theorem Ext.setRow {g : Nat} (he : Ext w W) (hg : w.heap.size ≤ g) (cs : Array Value) : Ext w (W.setRow g cs) :=
  ⟨he.os, he.tape, he.output, by simpa [World.setRow] using he.size, fun k hk => (setRow_other W g k cs (by omega)).trans (Below.block he k hk)⟩

/-- rows of slices of ints, all of the call's own -/
def OwnR (w : World) (base : Nat) (v : Value) (xss : List (List Int)) : Prop :=
  ∃ vs : List Value, w.ownsRow base 28 1 v xss.length vs ∧ vs.length = xss.length ∧ ∀ i, i < xss.length → OwnI w base 3 (vs[i]?.getD undef) (xss[i]?.getD [])
theorem OwnI.one {w : World} {base : Nat} {e : TypeId} {v : Value} {xs : List Int} (h : OwnI w base e v xs) : v.oneCell' = true := by
  obtain ⟨A, c, rfl, _⟩ := h.open_
  rfl
theorem ownsRow_ext2 {w' : World} {base : Nat} {e : TypeId} {size : Nat} {v : Value} {n : Nat} {xs : List Value} (h : w.ownsRow base e size v n xs) (he : Ext w w') : w'.ownsRow base e size v n xs := by
  obtain ⟨h1, h2⟩ := h
  refine ⟨h1, ?_⟩
  rcases h2 with h2 | ⟨g, cap, cur, rfl, hg, hb, r⟩
  · exact .inl h2
  · exact .inr ⟨g, cap, cur, rfl, hg, he.block hb, r⟩
theorem OwnR.ext {w' : World} {base : Nat} {v : Value} {xss : List (List Int)} (h : OwnR w base v xss) (he : Ext w w') : OwnR w' base v xss := by
  obtain ⟨vs, h1, h2, h3⟩ := h
  exact ⟨vs, ownsRow_ext2 h1 he, h2, fun i hi => (h3 i hi).ext he⟩
theorem ownsRow_ne_blk {base : Nat} {e t : TypeId} {size n g : Nat} {v : Value} {xs : List Value} {cs : Array Value} (h : w.ownsRow base e size v n xs) (hb : Blk w g t cs) (hne : t ≠ e) : some g ≠ v.ownBlock := by
  intro he
  rcases h.2 with ⟨rfl, _⟩ | ⟨g', cap, cur, rfl, _, hb', _⟩
  · cases he
  · have : g = g' := Option.some.inj he
    subst this
    unfold Blk at hb
    rw [hb] at hb'
    simp only [Option.some.injEq, Obj.cells.injEq] at hb'
    exact hne hb'.2.1
theorem OwnI.ne_blk {base : Nat} {e t : TypeId} {v : Value} {xs : List Int} {g : Nat} {cs : Array Value} (h : OwnI w base e v xs) (hb : Blk w g t cs) (hne : t ≠ e) : some g ≠ v.ownBlock := ownsRow_ne_blk h hb hne
end
end Go.Proofs.Pet
namespace Go.Proofs.Pet
open Go Go.RowKit
set_option maxHeartbeats 400000 in
theorem indexFuncI (g : Nat) (fs lb : Array Value) (eg : Enters Try.prog g) (p : Int → Bool) (A : Option Addr) (c : Nat) (xs : List Int) (w : World) (hb : xs.length ≤ maxLen)
    (hx : IntsAt w A xs) (hp : ∀ x ∈ xs, Tells Try.prog w g fs lb IntVal x (p x)) :
    Calls Try.prog 92 #[.slice A xs.length c, .func (.func g) fs lb] w fun e w' => (∃ i : Int, (0 ≤ i ↔ xs.any p = true) ∧ e = .returned (.int .i64 i)) ∧ Ext w w' := by
  unfold maxLen at hb
  go_enter Try.func92, Try.ntmps92
  go_wp2
  go_loopw [5, 8] (fun _ i wr => ∃ k : Nat, k ≤ xs.length ∧ i = .int .i64 k ∧ Hid (∀ j, j < k → p (xs[j]?.getD 0) = false) ∧ Ext w wr) (fun _ i _ => xs.length - (intOf i).toNat)
  case atStart => exact ⟨0, by omega, rfl, fun j hj => absurd hj (by omega), Ext.refl _⟩
  case round =>
    obtain ⟨k, hk, rfl, hm, he⟩ := hrel
    by_cases hlt : k < xs.length
    · obtain ⟨b, o, rfl, h1⟩ := hx.ext he k hlt
      have hmem0 : (xs[k]?.getD 0) ∈ xs := by simp [hlt]
      have hmem := Lib.hid hmem0
      generalize hgx : xs[k]?.getD 0 = x at *
      have Hgx := Lib.hid hgx; clear hgx
      have hc := hp x hmem0 wr _ he rfl
      clear hmem0
      obtain ⟨q, hq⟩ : ∃ q, p x = q := ⟨_, rfl⟩
      rw [hq] at hc
      have Hc := Lib.hid hc; clear hc
      have Hq := Lib.hid hq; clear hq
      have eg' := eg
      unfold Enters at eg'
      cases q with
      | true =>
        go_wp2_with fail
        refine Hc.out.mono ?_
        rintro e w' ⟨rfl, he'⟩
        go_wp2
        go_ret
        have ha : xs.any p = true := List.any_eq_true.2 ⟨x, hmem.out, Hq.out⟩
        exact ⟨⟨_, ⟨fun _ => ha, fun _ => by omega⟩, rfl⟩, he.trans he'⟩
      | false =>
        go_wp2_with fail
        refine Hc.out.mono ?_
        rintro e w' ⟨rfl, he'⟩
        go_wp2
        go_roundw
        case rel =>
          refine ⟨k + 1, by omega, by go_num, fun j hj => ?_, he.trans he'⟩
          by_cases ej : j = k
          · subst ej; rw [Hgx.out]; exact Hq.out
          · exact hm.out j (by omega)
        case measure => simp [intOf]; omega
    · go_wp2
      go_ret
      have hn : xs.any p = false := by
        rw [List.any_eq_false]
        intro y hy hpy
        obtain ⟨j, hj, rfl⟩ := List.mem_iff_getElem.1 hy
        have := hm.out j (by omega)
        simp [hj, hpy] at this
      exact ⟨⟨-1, ⟨fun h => absurd h (by omega), fun h => by rw [hn] at h; cases h⟩, rfl⟩, he⟩

theorem containsFuncI (g : Nat) (fs lb : Array Value) (eg : Enters Try.prog g) (p : Int → Bool) (A : Option Addr) (c : Nat) (xs : List Int) (w : World) (hb : xs.length ≤ maxLen)
    (hx : IntsAt w A xs) (hp : ∀ x ∈ xs, Tells Try.prog w g fs lb IntVal x (p x)) :
    Calls Try.prog 69 #[.slice A xs.length c, .func (.func g) fs lb] w fun e w' => e = .returned (.bool (xs.any p)) ∧ Ext w w' := by
  have h := indexFuncI g fs lb eg p A c xs w hb hx hp
  clear hx hp
  obtain ⟨q, hq⟩ : ∃ q, xs.any p = q := ⟨_, rfl⟩
  rw [hq] at h ⊢
  have H := Lib.hid h; clear h hq
  go_enter Try.func69, Try.ntmps69
  go_wp2_with fail
  refine H.out.mono ?_
  rintro e w' ⟨⟨i, hi, rfl⟩, he⟩
  cases q with
  | true =>
    have h0 : 0 ≤ i := hi.2 rfl
    clear hi
    go_wp2
    go_ret
    exact ⟨rfl, he⟩
  | false =>
    have h0 : decide (0 ≤ i) = false := by
      rw [decide_eq_false_iff_not]
      exact fun h => absurd (hi.1 h) (by simp)
    clear hi
    go_wp2
    go_ret
    exact ⟨rfl, he⟩

end Go.Proofs.Pet
namespace Go.Proofs.Pet
open Go Go.RowKit
set_option maxHeartbeats 400000 in
theorem index_any (x : Int) (A : Option Addr) (c n : Nat) (xs : List Int) (hn : xs.length = n) (w : World) (hb : xs.length ≤ maxLen) (hx : IntsAt w A xs) :
    Calls Try.prog 93 #[.slice A n c, .int .i64 x] w fun e w' => (∃ i : Int, (0 ≤ i ↔ x ∈ xs) ∧ e = .returned (.int .i64 i)) ∧ w = w' := by
  subst hn
  unfold maxLen at hb
  go_enter Try.func93, Try.ntmps93
  go_wp2
  go_loop [5, 8] (fun _ i => ∃ k : Nat, k ≤ xs.length ∧ i = .int .i64 k ∧ Hid (∀ j, j < k → xs[j]?.getD 0 ≠ x)) (fun _ i => xs.length - (intOf i).toNat)
  case atStart => exact ⟨0, by omega, rfl, fun j hj => absurd hj (by omega)⟩
  case round =>
    obtain ⟨k, hk, rfl, hm⟩ := hrel
    by_cases hlt : k < xs.length
    · obtain ⟨b, o, rfl, h1⟩ := hx k hlt
      have hmem0 : (xs[k]?.getD 0) ∈ xs := by simp [hlt]
      have hmem := Lib.hid hmem0; clear hmem0
      generalize hgx : xs[k]?.getD 0 = y at *
      have Hgx := Lib.hid hgx; clear hgx
      by_cases he : x = y
      · subst he
        go_wp2
        go_ret
        exact ⟨⟨_, ⟨fun _ => hmem.out, fun _ => by omega⟩, rfl⟩, rfl⟩
      · have hd : (x == y) = false := by simpa using he
        have He := Lib.hid he; clear he
        go_wp2
        go_round
        case rel =>
          refine ⟨k + 1, by omega, by go_num, fun j hj => ?_⟩
          by_cases ej : j = k
          · subst ej; rw [Hgx.out]; exact fun h => He.out h.symm
          · exact hm.out j (by omega)
        case measure => simp [intOf]; omega
    · go_wp2
      go_ret
      refine ⟨⟨-1, ⟨fun h => absurd h (by omega), fun h => ?_⟩, rfl⟩, rfl⟩
      obtain ⟨j, hj, rfl⟩ := List.mem_iff_getElem.1 h
      have := hm.out j (by omega)
      simp [hj] at this

theorem contains_any (x : Int) (A : Option Addr) (c n : Nat) (xs : List Int) (hn : xs.length = n) (q : Bool) (hq : xs.contains x = q) (w : World) (hb : xs.length ≤ maxLen) (hx : IntsAt w A xs) :
    Calls Try.prog 71 #[.slice A n c, .int .i64 x] w fun e w' => e = .returned (.bool q) ∧ w = w' := by
  subst hn
  have H := Lib.hid (index_any x A c _ xs rfl w hb hx)
  have Hq : Hid (q = decide (x ∈ xs)) := by unfold Hid; rw [← hq]; simp
  clear hq hx
  go_enter Try.func71, Try.ntmps71
  go_wp2_with fail
  refine H.out.mono ?_
  rintro e w' ⟨⟨i, hi, rfl⟩, rfl⟩
  by_cases h0 : 0 ≤ i
  · have Hi := Lib.hid hi; clear hi
    go_wp2
    go_ret
    exact ⟨by rw [Hq.out, decide_eq_true (Hi.out.1 h0)]; rfl, rfl⟩
  · have hd : decide (0 ≤ i) = false := by simpa using h0
    have Hi := Lib.hid hi; clear hi
    have H0 := Lib.hid h0; clear h0
    go_wp2
    go_ret
    exact ⟨by rw [Hq.out, decide_eq_false (fun h => absurd (Hi.out.2 h) (by have := H0.out; omega))]; rfl, rfl⟩

end Go.Proofs.Pet
namespace Go.Proofs.Pet
open Go Go.RowKit
theorem info_int : (Try.prog.info? 3).map (fun i => (i.zero, i.size, i.bytes)) = some (some (.int .i64 0), 1, 8) := by kernel_rfl

set_option maxHeartbeats 400000 in
theorem dupI (A : Option Addr) (c : Nat) (xs : List Int) (w : World) (hb : xs.length * 8 ≤ 140737488355328) (hx : IntsAt w A xs) :
    Calls Try.prog 21 #[.slice A xs.length c] w fun e w' => ∃ v, e = .returned v ∧ OwnI w' w.heap.size 3 v xs ∧ Ext w w' := by
  obtain ⟨i, hi, hz0, hz1, hz2⟩ := info_parts info_int
  have hmk : ∀ W : World, (Instr.makeSlice 28 (.int .i64 0) (.int .i64 (xs.length : Int))).run Try.prog W = .ok (.slice (some ⟨W.heap.size, 0, none⟩) 0 xs.length) (W.alloc (.cells (madeCells #[.int .i64 0] xs.length) 3)) := by
    intro W
    have := run_make (P := Try.prog) W 28 3 i _ Try.underlying28 hi hz0 .i64 .i64 0 xs.length (by omega) (by omega) (by rw [hz2]; omega) (by omega)
    simpa [hz1, Value.cells] using this
  have hE := Ext.alloc w (.cells (madeCells #[.int .i64 0] xs.length) 3)
  have hsrc := Lib.hid (hx.ext hE).src
  have hown := Lib.hid (World.ownsRow_made (w := w) (e := 3) (size := 1) (madeCells #[.int .i64 0] xs.length) xs.length (Nat.le_refl _) (by unfold maxLen; omega) (by simp [madeCells]))
  clear hx
  go_enter Try.func21, Try.ntmps21
  go_wp2_with (at_builtin; go_must (refine wpList_app rfl _ _ 28 rfl w.heap.size 3 i (.int .i64 0) 1 8 Try.underlying28 hi hz0 hz1 hz2 rfl (by decide) _ _ _ rfl hown.out A xs.length c (xs.map (Value.int .i64)) rfl ?c1 hsrc.out ?c2 ?c3 ?c4 ?c5 ?_); (case c1 => simp); (case c2 => (intro u hu; obtain ⟨y, _, rfl⟩ := List.mem_map.1 hu; rfl)); (case c3 => (unfold maxLen; omega)); (case c4 => omega); (case c5 => simp); intro v' w' hown' hg hblk)
  go_ret
  refine ⟨_, rfl, ?_, ext_alloc_grown hg (fun k hk => Nat.le_of_eq (Option.some.inj hk))⟩
  simp only [Nat.zero_add, List.nil_append] at hown'
  exact hown'

end Go.Proofs.Pet
namespace Go.Proofs.Pet
open Go Go.RowKit
/-- what the operations of 'out.Orders[i].On = Dup(o.On)' leave -/
def ownR2 (g o t k : Nat) (r a : Value) (on : List Int) : Nat → Value → World → Prop
  | 0 => fun v _ => v = .pointer (some ⟨g, 2, none⟩)
  | 1 => fun v _ => v = r
  | 2 => fun v _ => v = .int .i64 k
  | 3 => fun v _ => v = .pointer (some ⟨o, 3, none⟩)
  | 4 => fun v _ => v = a
  | 5 => fun v W => ∃ A c, v = .slice A on.length c ∧ on.length ≤ c ∧ c ≤ maxLen ∧ IntsAt W A on ∧ ∀ ad, A = some ad → t ≤ ad.block
  | _ => fun _ _ => True
/-- whatever is laid later is none of its blocks -/
theorem cell_lt {w : World} {p : Addr} {v : Value} (h : w.cell? p = some v) : p.block < w.heap.size := by
  rcases Nat.lt_or_ge p.block w.heap.size with g | g
  · exact g
  · unfold World.cell? at h
    simp [Array.getElem?_eq_none g] at h
end Go.Proofs.Pet
namespace Go.Proofs.Pet
open Go Go.RowKit
/-- the numbers whose bits are in a set, below n -/
def bits (n s : Nat) : List Nat := (List.range n).filter fun k => s.testBit k
def ints (l : List Nat) : List Int := l.map fun k : Nat => (k : Int)
theorem bits_succ (n s : Nat) : bits (n + 1) s = if s.testBit n then bits n s ++ [n] else bits n s := by
  unfold bits
  rw [List.range_succ, List.filter_append]
  by_cases h : s.testBit n <;> simp [h]
theorem ints_append (a b : List Nat) : ints (a ++ b) = ints a ++ ints b := by unfold ints; simp
end Go.Proofs.Pet
namespace Go.Proofs.Pet
open Go Go.RowKit
theorem IntsAt.take {w : World} {A : Option Addr} {xs : List Int} (h : IntsAt w A xs) (i : Nat) : IntsAt w A (xs.take i) := by
  intro k hk
  have hk' : k < xs.length := by have := List.length_take_le i xs; have := List.length_take (i := i) (l := xs); omega
  have hki : k < i := by have := List.length_take (i := i) (l := xs); omega
  obtain ⟨b, o, e, hc⟩ := h k hk'
  exact ⟨b, o, e, by rw [List.getElem?_take, if_pos hki]; exact hc⟩
theorem twiceB_true {xs : List Int} {k : Nat} (hk : k < xs.length) (h : (xs.take k).contains (xs[k]?.getD 0) = true) : twiceB xs = true := by
  unfold twiceB
  rw [List.any_eq_true]
  exact ⟨k, List.mem_range.2 hk, h⟩
theorem twiceB_false {xs : List Int} (h : ∀ k, k < xs.length → (xs.take k).contains (xs[k]?.getD 0) = false) : twiceB xs = false := by
  unfold twiceB
  rw [List.any_eq_false]
  intro k hk
  rw [h k (List.mem_range.1 hk)]
  simp

end Go.Proofs.Pet
namespace Go.Proofs.Pet
open Go Go.RowKit
end Go.Proofs.Pet
namespace Go.Proofs.Pet
open Go Go.RowKit Go.Shelf
/-- an order of a set -/
abbrev In (s : Nat) : Type := { i : Nat // s.testBit i = true }
/-- the orders of a set, below k -/
def bitsS (s k : Nat) : List (In s) := (List.range k).filterMap fun i => if h : s.testBit i = true then some ⟨i, h⟩ else none
def encK (s : Nat) (x : In s) : Array Value := #[.int .i64 (x.1 : Int), .int .i64 (sdiff s (2 ^ x.1) : Nat)]
/-- what an iterator of lacking asks its rounds to keep: its two boxes -/
def KeepsTwo (B : Nat) (W W' : World) : Prop := W'.heap[B]? = W.heap[B]? ∧ W'.heap[B + 1]? = W.heap[B + 1]?

def lackR (s k p2 p3 p10 p11 : Nat) (l : Nat) (q : Bool) : Nat → Value → World → Prop
  | 0 => fun v _ => v = .int .i64 s
  | 1 => fun v _ => v = .int .i64 k
  | 2 => fun v _ => v = .int .i64 p2
  | 3 => fun v _ => v = .int .i64 p3
  | 4 => fun v _ => v = .bool q
  | 5 => fun v _ => v = .bool q
  | 6 => fun v _ => v = if q then .func (.yield l) #[] #[] else undef
  | 7 => fun v _ => v = if q then .int .i64 k else undef
  | 8 => fun v _ => v = if q then .int .i64 s else undef
  | 9 => fun v _ => v = if q then .int .i64 k else undef
  | 10 => fun v _ => v = if q then .int .i64 p10 else undef
  | 11 => fun v _ => v = if q then .int .i64 p11 else undef
  | _ => fun _ _ => True

/-- what the book-keeping of a range over a function leaves: cells, and whatever lay below B -/
structure Loops (B : Nat) (W W' : World) : Prop where
  os : W'.os = W.os
  tape : W'.tape = W.tape
  output : W'.output = W.output
  size : W.heap.size ≤ W'.heap.size
  cells : ∀ (k : Nat) (c : Array Value) (e : TypeId) (fz : Nat × Nat), W.heap[k]? = some (Obj.cells c e fz) → W'.heap[k]? = some (Obj.cells c e fz)
  low : ∀ (k : Nat), k < B → k < W.heap.size → W'.heap[k]? = W.heap[k]?
theorem Blk.loops {W W' : World} {B b : Nat} {t : TypeId} {cs : Array Value} (h : Blk W b t cs) (hk : Loops B W W') : Blk W' b t cs := hk.cells _ _ _ _ h
theorem Ext.loops {w W W' : World} {B : Nat} (h : Ext w W) (hk : Loops B W W') (hB : w.heap.size ≤ B) : Ext w W' :=
  ⟨hk.os.trans h.os, hk.tape.trans h.tape, hk.output.trans h.output, Nat.le_trans h.size hk.size, fun k hlt => (hk.low k (by omega) (by have := h.size; omega)).trans (Below.block h k hlt)⟩
theorem ownFrom_keep {β : Type} {B : Nat} {I : β → World → Prop} (h : ∀ s W W', I s W → Loops B W W' → I s W') : OwnFrom B I := by
  intro s W W' row hs hg hr
  refine h s W W' hs ⟨hg.os, hg.tape, hg.output, hg.size, fun k c e fz hc => ?_, fun k hk hlt => hg.block k hlt (fun e' => by have := (hr k e'.symm).1; omega)⟩
  rw [hg.block k (Array.getElem?_eq_some_iff.1 hc).1 (fun e' => by
    obtain ⟨_, o, ho, hw⟩ := hr k e'.symm
    rw [hc] at ho; cases ho; cases hw)]
  exact hc
theorem keepsFrom_ext {B : Nat} {W W' : World} (h : Ext W W') : KeepsFrom B W W' := ⟨h.size, fun _k _o _ hk _ => h.block hk⟩

end Go.Proofs.Pet
namespace Go.Proofs.Pet
open Go Go.RowKit Go.Maps
/-- a map from sets to numbers, 0 where there is nothing -/
def DaysMap (w : World) (M cnt : Nat) (f : Nat → Int) : Prop :=
  ∃ D : DataW Unit, w.ownsMap Try.prog 3 (plainElem Try.prog 3) M cnt D ∧ ∀ s : Nat, D.atKey (.int .i64 s) (.lit (.int .i64 0)) = .lit (.int .i64 (f s))
def openR (D M o s : Nat) (c d : Int) : Nat → Value → World → Prop
  | 0 => fun v _ => v = .pointer (some ⟨D, 0, none⟩)
  | 1 => fun v _ => v = .pointer (some ⟨D, 0, none⟩)
  | 2 => fun v _ => v = .pointer (some ⟨D, 3, none⟩)
  | 3 => fun v _ => v = .map (some M)
  | 4 => fun v _ => v = .int .i64 s
  | 5 => fun v _ => v = .int .i64 c
  | 6 => fun v _ => v = .pointer (some ⟨o, 1, none⟩)
  | 7 => fun v _ => v = .int .i64 d
  | 8 => fun v _ => v = .int .i64 (c + d)
  | _ => fun _ _ => True

end Go.Proofs.Pet
namespace Go.Proofs.Pet
open Go Go.RowKit
def markOf (D : Nat) : Deferred := { target := .collected D, args := #[] }
/-- the marks that lie there, each at a block of its own, from lo on and ahead of hi -/
def Marks (W : World) (lo hi : Nat) (ds : List Deferred) : Prop :=
  ∃ l : List Nat, ds = l.map markOf ∧ l.Nodup ∧ ∀ D ∈ l, lo ≤ D ∧ D < hi ∧ W.heap[D]? = some (.deferred (some []))
theorem Marks.nil (W : World) (lo hi : Nat) : Marks W lo hi [] := ⟨[], rfl, List.nodup_nil, fun _ h => by cases h⟩
theorem Marks.ext {W W' : World} {lo hi : Nat} {ds : List Deferred} (h : Marks W lo hi ds) (he : Ext W W') : Marks W' lo hi ds := by
  obtain ⟨l, h1, h2, h3⟩ := h
  exact ⟨l, h1, h2, fun D hD => ⟨(h3 D hD).1, (h3 D hD).2.1, he.block (h3 D hD).2.2⟩⟩
theorem Marks.mono {W : World} {lo hi hi' : Nat} {ds : List Deferred} (h : Marks W lo hi ds) (hh : hi ≤ hi') : Marks W lo hi' ds := by
  obtain ⟨l, h1, h2, h3⟩ := h
  exact ⟨l, h1, h2, fun D hD => ⟨(h3 D hD).1, Nat.lt_of_lt_of_le (h3 D hD).2.1 hh, (h3 D hD).2.2⟩⟩
theorem Marks.set_ {W : World} {lo hi : Nat} {ds : List Deferred} {p : Addr} {t : TypeId} {cs : Array Value} (h : Marks W lo hi ds) (hb : Blk W p.block t cs) (v : Value) : Marks (W.setCell p v) lo hi ds := by
  obtain ⟨l, h1, h2, h3⟩ := h
  refine ⟨l, h1, h2, fun D hD => ⟨(h3 D hD).1, (h3 D hD).2.1, ?_⟩⟩
  refine (Below.heap_setCell W p v D fun e => ?_).trans (h3 D hD).2.2
  have h4 := (h3 D hD).2.2
  rw [e] at h4
  unfold Blk at hb
  rw [hb] at h4
  cases h4
theorem Marks.loops {W W' : World} {lo hi B : Nat} {ds : List Deferred} (h : Marks W lo hi ds) (hk : Loops B W W') (hB : hi ≤ B) : Marks W' lo hi ds := by
  obtain ⟨l, h1, h2, h3⟩ := h
  refine ⟨l, h1, h2, fun D hD => ⟨(h3 D hD).1, (h3 D hD).2.1, ?_⟩⟩
  have h4 := (h3 D hD).2.2
  exact (hk.low D (Nat.lt_of_lt_of_le (h3 D hD).2.1 hB) (Array.getElem?_eq_some_iff.1 h4).1).trans h4
theorem Marks.push {W : World} {lo hi : Nat} {ds : List Deferred} {D : Nat} (h : Marks W lo hi ds) (hlo : lo ≤ D) (hhi : hi ≤ D) (hD : W.heap[D]? = some (.deferred (some []))) : Marks W lo (D + 1) (markOf D :: ds) := by
  obtain ⟨l, h1, h2, h3⟩ := h
  refine ⟨D :: l, by rw [h1]; rfl, List.nodup_cons.2 ⟨fun hm => ?_, h2⟩, fun D' hD' => ?_⟩
  · have := (h3 D hm).2.1
    omega
  · rcases List.mem_cons.1 hD' with rfl | hm
    · exact ⟨hlo, by omega, hD⟩
    · exact ⟨(h3 D' hm).1, by have := (h3 D' hm).2.1; omega, (h3 D' hm).2.2⟩

theorem leaves_marks {F : Fence} {n : Nat} {P : Program} {fn : Func} {tmps : Array Value} {R : Ending → World → Prop} {lo hi : Nat} {v : Value} : ∀ (ds : List Deferred) (W : World), Marks W lo hi ds →
    (∀ W', (results fn tmps).run P W' = .ok v W') → (∀ W', (∀ k, (k < lo ∨ ∃ c e fz, W.heap[k]? = some (Obj.cells c e fz)) → W'.heap[k]? = W.heap[k]?) → W'.os = W.os → W'.tape = W.tape → W'.output = W.output → W.heap.size ≤ W'.heap.size → R (.returned v) W') → LeavesInM F n P fn tmps R ds .returning W
  | [], W, _, hr, hR => by
    unfold LeavesInM LeavesIn
    exact ⟨v, hr W, hR W (fun _ _ => rfl) rfl rfl rfl (Nat.le_refl _)⟩
  | d :: ds, W, hm, hr, hR => by
    obtain ⟨l, h1, h2, h3⟩ := hm
    cases l with
    | nil => cases h1
    | cons D l =>
      rw [List.map_cons] at h1
      injection h1 with h1a h1b
      subst h1a h1b
      have hD := h3 D (by simp)
      have hg := grownBy_putObj' W D (.deferred none)
      refine ⟨by simp, .inl ⟨D, _, rfl, run_takeDeferred hD.2.2, ?_⟩⟩
      refine leaves_marks (lo := lo) (hi := hi) (l.map markOf) _ ⟨l, rfl, (List.nodup_cons.1 h2).2, fun D' hD' => ?_⟩ hr (fun W' hk ho ht hp hs => hR W' (fun k hkk => ?_) (ho.trans hg.os) (ht.trans hg.tape) (hp.trans hg.output) (Nat.le_trans hg.size hs))
      · have h4 := h3 D' (List.mem_cons_of_mem _ hD')
        refine ⟨h4.1, h4.2.1, ?_⟩
        rw [World.putObj_heap_other (fun e : D' = D => (List.nodup_cons.1 h2).1 (by rw [← e]; exact hD'))]
        exact h4.2.2
      · have hne : k ≠ D := by
          rintro rfl
          rcases hkk with hlt | ⟨c, e, fz, hc⟩
          · have := hD.1; omega
          · rw [hD.2.2] at hc; cases hc
        have e1 : (W.putObj D (.deferred none)).heap[k]? = W.heap[k]? := World.putObj_heap_other hne
        rw [hk k ?_, e1]
        rw [e1]; exact hkk
/-- what a return through marks leaves -/
structure Quits (lo : Nat) (W W' : World) : Prop where
  same : ∀ k, (k < lo ∨ ∃ c e fz, W.heap[k]? = some (Obj.cells c e fz)) → W'.heap[k]? = W.heap[k]?
  os : W'.os = W.os
  tape : W'.tape = W.tape
  output : W'.output = W.output
  size : W.heap.size ≤ W'.heap.size
theorem Quits.blk {lo : Nat} {W W' : World} (h : Quits lo W W') {b : Nat} {t : TypeId} {cs : Array Value} (hb : Blk W b t cs) : Blk W' b t cs := (h.same b (.inr ⟨_, _, _, hb⟩)).trans hb
theorem Quits.ext {lo : Nat} {w W W' : World} (h : Quits lo W W') (he : Ext w W) (hlo : w.heap.size ≤ lo) : Ext w W' :=
  ⟨h.os.trans he.os, h.tape.trans he.tape, h.output.trans he.output, Nat.le_trans he.size h.size, fun k hk => (h.same k (.inl (by omega))).trans (Below.block he k hk)⟩
theorem leaves_marks' {F : Fence} {n : Nat} {P : Program} {fn : Func} {tmps : Array Value} {R : Ending → World → Prop} {lo hi : Nat} {v : Value} (ds : List Deferred) (W : World) (hm : Marks W lo hi ds)
    (hr : ∀ W', (results fn tmps).run P W' = .ok v W') (hR : ∀ W', Quits lo W W' → R (.returned v) W') : LeavesInM F n P fn tmps R ds .returning W :=
  leaves_marks ds W hm hr fun W' h1 h2 h3 h4 h5 => hR W' ⟨h1, h2, h3, h4, h5⟩
end Go.Proofs.Pet
namespace Go.Proofs.Pet
open Go Go.RowKit Go.Maps Go.Shelf
def chg (a b : Int) : Int := if a = b then 0 else 1
/-- a function value that gives numbers for the rest of a set -/
def Gives (P : Program) (w : World) (g : Nat) (lb : Array Value) (num : Nat → Nat → Int) (rest n : Nat) : Prop :=
  ∀ W, Ext w W → ∀ x, x < n → rest.testBit x = true → Calls P g (#[.int .i64 (rest : Int), .int .i64 (x : Int)] ++ lb) W fun e W' => e = .returned (.int .i64 (num rest x)) ∧ Ext W W'

def stepR2 (D O b o : Nat) (A2 : Value) (last : Nat) (acc kv pl p ch sum res : Int) : Nat → Value → World → Prop
  | 0 => fun v _ => v = .int .i64 acc
  | 1 => fun v _ => v = .int .i64 kv
  | 2 => fun v _ => v = .pointer (some ⟨D, 0, none⟩)
  | 3 => fun v _ => v = .pointer (some ⟨D, 0, none⟩)
  | 4 => fun v _ => v = .pointer (some ⟨D, 0, none⟩)
  | 5 => fun v _ => v = .pointer (some ⟨D, 2, none⟩)
  | 6 => fun v _ => v = A2
  | 7 => fun v _ => v = .int .i64 last
  | 8 => fun v _ => v = .pointer (some ⟨b, o + last * 4, none⟩)
  | 9 => fun v _ => v = .pointer (some ⟨b, o + last * 4, none⟩)
  | 10 => fun v _ => v = .int .i64 pl
  | 11 => fun v _ => v = .pointer (some ⟨O, 0, none⟩)
  | 12 => fun v _ => v = .int .i64 p
  | 13 => fun v _ => v = .int .i64 ch
  | 14 => fun v _ => v = .int .i64 sum
  | 15 => fun v W => ∃ g, v = .slice (some ⟨g, 0, none⟩) 1 1 ∧ Blk W g 3 #[.int .i64 sum]
  | 16 => fun v _ => v = .int .i64 res
  | _ => fun _ _ => True
end Go.Proofs.Pet
namespace Go.Proofs.Pet
open Go Go.RowKit Go.Maps Go.Shelf
def costR1 (B i s k : Nat) : Nat → Value → World → Prop
  | 0 => fun v _ => v = .int .i64 i
  | 1 => fun v _ => v = .int .i64 s
  | 2 => fun v _ => v = .int .i64 k
  | 3 => fun v _ => v = .pointer (some ⟨B, i * 896, none⟩)
  | 4 => fun v _ => v = .pointer (some ⟨B, i * 896 + s * 7, none⟩)
  | 5 => fun v _ => v = .pointer (some ⟨B, i * 896 + s * 7 + k, none⟩)
  | _ => fun _ _ => True
theorem mem_bits {n s k : Nat} : k ∈ bits n s ↔ k < n ∧ s.testBit k = true := by
  unfold bits; rw [List.mem_filter, List.mem_range]
end Go.Proofs.Pet
namespace Go.Proofs.Pet
open Go Go.RowKit Go.Maps Go.Shelf
end Go.Proofs.Pet
namespace Go.Proofs.Pet
open Go Go.RowKit Go.Maps Go.Shelf
/-- a row whose first n cells hold c -/
def repRow (c : Int) (n N : Nat) : Array Value := (List.replicate n (Value.int .i64 c) ++ List.replicate (N - n) (Value.int .i64 0)).toArray
def repR (S n k N : Nat) (c : Int) (_d1 : Nat) : Nat → Value → World → Prop
  | 0 => fun v _ => v = .int .i64 n
  | 1 => fun v _ => v = .slice (some ⟨S, 0, none⟩) N N
  | 2 => fun v _ => v = .int .i64 n
  | 3 => fun v _ => v = .slice (some ⟨S, n, none⟩) (N - n) (N - n)
  | 4 => fun v _ => v = .slice (some ⟨S, 0, none⟩) N N
  | 5 => fun v _ => v = .int .i64 n
  | 6 => fun v _ => v = .slice (some ⟨S, 0, none⟩) n N
  | 7 => fun v W => v = .int .i64 k ∧ Blk W S 3 (repRow c (n + k) N)
  | _ => fun _ _ => True

end Go.Proofs.Pet
namespace Go.Proofs.Pet
open Go Go.RowKit Go.Maps Go.Shelf
/-- a row of numbers, known whole -/
def Row (w : World) (b N : Nat) (f : Nat → Int) : Prop := ∃ cs, Blk w b 3 cs ∧ cs.size = N ∧ ∀ j, j < N → cs[j]? = some (.int .i64 (f j))
section
variable {w w' : World} {b N : Nat} {f g : Nat → Int}
theorem Row.cell (h : Row w b N f) {j : Nat} (hj : j < N) : w.cell? ⟨b, j, none⟩ = some (.int .i64 (f j)) := by
  obtain ⟨cs, h1, h2, h3⟩ := h
  rw [h1.cell, h3 j hj]
theorem Row.frozen (h : Row w b N f) (j : Nat) : w.frozen? ⟨b, j, none⟩ = false := by
  obtain ⟨cs, h1, h2, h3⟩ := h
  exact h1.frozen j
theorem Row.ext (h : Row w b N f) (he : Ext w w') : Row w' b N f := by
  obtain ⟨cs, h1, h2, h3⟩ := h
  exact ⟨cs, h1.ext he, h2, h3⟩
theorem Row.congr (h : Row w b N f) (hg : ∀ j, j < N → f j = g j) : Row w b N g := by
  obtain ⟨cs, h1, h2, h3⟩ := h
  exact ⟨cs, h1, h2, fun j hj => by rw [h3 j hj, hg j hj]⟩
theorem Row.set_ (h : Row w b N f) {j : Nat} (_hj : j < N) (v : Int) : Row (w.setCell ⟨b, j, none⟩ (.int .i64 v)) b N (fun j' => if j' = j then v else f j') := by
  obtain ⟨cs, h1, h2, h3⟩ := h
  refine ⟨_, h1.set_ _ _, by simpa using h2, fun j' hj' => ?_⟩
  rw [Array.getElem?_setIfInBounds]
  dsimp only
  by_cases e : j = j'
  · rw [if_pos e, if_pos (by omega), if_pos e.symm]
  · rw [if_neg e, if_neg (fun h => e h.symm), h3 j' hj']
theorem Row.const {c : Int} (hb : Blk w b 3 (Array.replicate N (.int .i64 c))) : Row w b N (fun _ => c) :=
  ⟨_, hb, by simp, fun j hj => by rw [Array.getElem?_replicate, if_pos hj]⟩
end
/-- rows in a row: those from lo up to hi are known whole, and lie below lim -/
def RowsTo (w : World) (S n1 N lo hi lim : Nat) (F : Nat → Nat → Int) : Prop :=
  ∃ (cs : Array Value) (bs : Nat → Nat), Blk w S 28 cs ∧ cs.size = n1 ∧ ∀ i, lo ≤ i → i < hi → cs[i]? = some (.slice (some ⟨bs i, 0, none⟩) N N) ∧ bs i < lim ∧ Row w (bs i) N (F i)
/-- the best way to give some orders of a set to one more loom: those tried from the greatest set down -/
def pickA (num rest : Nat → Int) (all : Nat) : Nat → Int × Nat
  | 0 => (297, 0)
  | c + 1 =>
    let own := all - c
    let p := pickA num rest all c
    if own &&& all = own then (if num own < 99 ∧ rest (sdiff all own) < 297 ∧ num own + rest (sdiff all own) < p.1 then (num own + rest (sdiff all own), own) else p) else p
def sumF (num : Nat → Nat → Int) : Nat → Nat → Int
  | 0, all => if all = 0 then 0 else 297
  | l + 1, all => (pickA (num l) (sumF num l) all (all + 1)).1
def getF (num : Nat → Nat → Int) (l all : Nat) : Nat := (pickA (num l) (sumF num l) all (all + 1)).2
theorem pickA_bd (num rest : Nat → Int) (all : Nat) (hn : ∀ s, 0 ≤ num s) (hr : ∀ s, 0 ≤ rest s) : ∀ c, 0 ≤ (pickA num rest all c).1 ∧ (pickA num rest all c).1 ≤ 297 ∧ (pickA num rest all c).2 ≤ all
  | 0 => by simp [pickA]
  | c + 1 => by
    have ih := pickA_bd num rest all hn hr c
    have h1 := hn (all - c)
    have h2 := hr (sdiff all (all - c))
    unfold pickA
    dsimp only
    split
    · split
      · dsimp only; omega
      · exact ih
    · exact ih
end Go.Proofs.Pet
namespace Go.Proofs.Pet
open Go Go.RowKit Go.Maps Go.Shelf
def fct : Nat → Nat
  | 0 => 1
  | n + 1 => (n + 1) * fct n
def rowR1 (b o i N c : Nat) : Nat → Value → Prop
  | 1 => fun v => v = .slice (some ⟨b, o, none⟩) (N + 1) c
  | 2 => fun v => v = .int .i64 i
  | 3 => fun v => v = .slice (some ⟨b, o, none⟩) i c
  | 5 => fun v => v = .slice (some ⟨b, o, none⟩) (N + 1) c
  | 6 => fun v => v = .int .i64 i
  | 7 => fun v => v = .int .i64 (i + 1)
  | 8 => fun v => ∃ A' c', v = .slice A' (N - i) c' ∧ (N - i = 0 ∨ A' = some ⟨b, o + (i + 1), none⟩)
  | _ => fun _ => True
def rowS1 (wr : World) (ys zs : List Int) (Ld : Nat → Prop) (x : Nat → Value) (W : World) : Prop :=
  Ext wr W ∧ (Ld 0 → ¬ Ld 4 → OwnI W wr.heap.size 3 (x 0) []) ∧ (Ld 4 → ¬ Ld 9 → OwnI W wr.heap.size 3 (x 4) ys) ∧ (Ld 9 → OwnI W wr.heap.size 3 (x 9) zs)
def rowR2 (b o i c n b' k cR len : Nat) (vout u : Value) (xi : Int) : Nat → Value → Prop
  | 0 => fun v => v = vout
  | 1 => fun v => v = .slice (some ⟨b, o, none⟩) (n + 1) c
  | 2 => fun v => v = .int .i64 i
  | 3 => fun v => v = .pointer (some ⟨b, o + i, none⟩)
  | 4 => fun v => v = .int .i64 xi
  | 5 => fun _ => True
  | 6 => fun v => v = .slice (some ⟨b', 0, none⟩) len cR
  | 7 => fun v => v = .int .i64 k
  | 8 => fun v => v = .pointer (some ⟨b', k, none⟩)
  | 9 => fun v => v = u
  | _ => fun _ => True
def rowS2 (wr : World) (B0 n : Nat) (vout : Value) (vs : List Value) (xi : Int) (Rk : List Int) (Ld : Nat → Prop) (x : Nat → Value) (W : World) : Prop :=
  (¬ Ld 12 → Ext wr W) ∧ (Ld 5 → ¬ Ld 10 → OwnI W wr.heap.size 3 (x 5) [xi]) ∧ (Ld 10 → ¬ Ld 12 → OwnI W wr.heap.size 3 (x 10) (xi :: Rk)) ∧
    (Ld 11 → ¬ Ld 12 → ∃ g, x 11 = .slice (some ⟨g, 0, none⟩) 1 1 ∧ Blk W g 28 #[x 10]) ∧
    (Ld 12 → ∃ W1, Ext wr W1 ∧ OwnI W1 wr.heap.size 3 (x 10) (xi :: Rk) ∧ W.ownsRow B0 28 1 (x 12) (n + 1) (vs ++ [x 10]) ∧ W1.grownBy W vout.ownBlock ∧ ((x 12).ownBlock = vout.ownBlock ∨ (x 12).ownBlock = some W1.heap.size))
end Go.Proofs.Pet
namespace Go.Proofs.Pet
open Go Go.RowKit Go.Maps Go.Shelf
/-- a slice of ints, wherever it lies -/
def SlI (w : World) (v : Value) (xs : List Int) : Prop := ∃ A c, v = .slice A xs.length c ∧ xs.length ≤ c ∧ c ≤ maxLen ∧ IntsAt w A xs
theorem SlI.ext {w w' : World} {v : Value} {xs : List Int} (h : SlI w v xs) (he : Ext w w') : SlI w' v xs := by
  obtain ⟨A, c, h1, h2, h3, h4⟩ := h
  exact ⟨A, c, h1, h2, h3, h4.ext he⟩
def bestR5 (mv : Value) (l b k len cR : Nat) (u : Value) (ch : Int) (q : Bool) : Nat → Value → World → Prop
  | 0 => fun v _ => v = mv
  | 1 => fun v _ => v = .int .i64 l
  | 2 => fun v _ => v = .slice (some ⟨b, 0, none⟩) len cR
  | 3 => fun v _ => v = .int .i64 k
  | 4 => fun v _ => v = .pointer (some ⟨b, k, none⟩)
  | 5 => fun v _ => v = u
  | 6 => fun v _ => ∃ r, v = .tuple #[r, .int .i64 ch, .bool q]
  | 7 => fun v _ => ∃ r, v = .tuple #[r, .int .i64 ch, .bool q]
  | 8 => fun _ _ => True
  | 9 => fun v _ => v = .int .i64 ch
  | 10 => fun v _ => v = .bool q
  | 11 => fun _ _ => True
  | 12 => fun v _ => v = .int .i64 ch
  | 13 => fun v _ => v = .bool q
  | _ => fun _ _ => True
end Go.Proofs.Pet
namespace Go.Proofs.Pet
open Go Go.RowKit Go.Maps Go.Shelf
theorem lt_of_bit {n s k : Nat} (hs : s < 2 ^ n) (h : s.testBit k = true) : k < n := by
  have h5 := pow_le_of_testBit h
  exact (Nat.pow_lt_pow_iff_right (by omega : 1 < 2)).1 (by omega)
end Go.Proofs.Pet
namespace Go.Proofs.Pet
open Go Go.RowKit Go.Maps Go.Shelf
/-- nothing has turned that was there, aside from a block -/
structure Apart (b : Nat) (w W : World) : Prop where
  os : W.os = w.os
  tape : W.tape = w.tape
  output : W.output = w.output
  size : w.heap.size ≤ W.heap.size
  block : ∀ k, k < w.heap.size → k ≠ b → W.heap[k]? = w.heap[k]?
theorem Apart.refl (b : Nat) (w : World) : Apart b w w := ⟨rfl, rfl, rfl, Nat.le_refl _, fun _ _ _ => rfl⟩
theorem Apart.of_ext {b : Nat} {w W : World} (h : Ext w W) : Apart b w W := ⟨h.os, h.tape, h.output, h.size, fun k hk _ => Below.block h k hk⟩
theorem Apart.trans {b : Nat} {w W V : World} (h : Apart b w W) (k : Apart b W V) : Apart b w V :=
  ⟨k.os.trans h.os, k.tape.trans h.tape, k.output.trans h.output, Nat.le_trans h.size k.size, fun j hj hne => (k.block j (Nat.lt_of_lt_of_le hj h.size) hne).trans (h.block j hj hne)⟩
theorem Apart.set_ {b : Nat} {w W : World} (h : Apart b w W) (i : Nat) (v : Value) : Apart b w (W.setCell ⟨b, i, none⟩ v) := by
  have e := Below.setCell (B := b) (Below.refl b W) (p := ⟨b, i, none⟩) (by exact Nat.le_refl _) v
  refine ⟨e.os.trans h.os, e.tape.trans h.tape, e.output.trans h.output, by rw [World.size_setCell]; exact h.size, fun k hk hne => ?_⟩
  rw [Below.heap_setCell W ⟨b, i, none⟩ v k hne]
  exact h.block k hk hne
theorem Apart.ext_of {b : Nat} {w0 w W : World} (h0 : Ext w0 w) (hb : w0.heap.size ≤ b) (h : Apart b w W) : Ext w0 W :=
  ⟨h.os.trans h0.os, h.tape.trans h0.tape, h.output.trans h0.output, Nat.le_trans h0.size h.size, fun k hk => (h.block k (Nat.lt_of_lt_of_le hk h0.size) (by omega)).trans (Below.block h0 k hk)⟩
def sumP : List Nat → Nat
  | [] => 0
  | k :: ks => 2 ^ k + sumP ks
def tabOf (t : Nat → Nat → Int) (N L : Nat) : List (List Int) := (List.range L).map fun i => (List.range N).map (t i)
def shR (mv tv lv ov : Value) (ks : List Nat) (b : Nat) (w : World) (sv : Int) : Nat → Value → World → Prop
  | 0 => fun v _ => v = mv
  | 1 => fun v _ => v = tv
  | 2 => fun v _ => v = lv
  | 3 => fun v _ => ∃ A' c', v = .slice A' ks.length c' ∧ ks.length ≤ c' ∧ c' ≤ maxLen ∧ ∀ W, Apart b w W → IntsAt W A' (ints ks)
  | 4 => fun v _ => v = ov
  | 5 => fun v _ => v = .int .i64 sv
  | _ => fun _ _ => True
end Go.Proofs.Pet
namespace Go.Proofs.Pet
open Go Go.RowKit Go.Maps Go.Shelf
theorem OwnI.apart {w W : World} {base b : Nat} {e : TypeId} {v : Value} {xs : List Int} (h : OwnI w base e v xs) (hne : v.ownBlock ≠ some b) (ha : Apart b w W) : OwnI W base e v xs := by
  obtain ⟨h1, h2⟩ := h
  refine ⟨h1, ?_⟩
  rcases h2 with h2 | ⟨g, cap, cur, rfl, hg1, hb, r⟩
  · exact .inl h2
  · refine .inr ⟨g, cap, cur, rfl, hg1, ?_, r⟩
    rw [← hb]
    exact ha.block g (Array.getElem?_eq_some_iff.1 hb).1 (fun e => hne (by rw [e]; rfl))
def fewS (S N s L M : Nat) (mv tv : Value) (A1 : Option Addr) (c1 Lb n : Nat) (r : Int) : Nat → Value → World → Prop
  | 0 => fun v _ => v = .slice (some ⟨S, 0, none⟩) N N
  | 1 => fun v _ => v = .int .i64 s
  | 2 => fun v _ => v = mv
  | 3 => fun v _ => v = tv
  | 4 => fun v _ => v = mv
  | 5 => fun v _ => v = .int .i64 s
  | 6 => fun v W => OwnI W Lb 3 v (ints (bits n s))
  | 7 => fun v _ => v = .pointer (some ⟨M, 0, none⟩)
  | 8 => fun v _ => v = .slice A1 L c1
  | 9 => fun v _ => v = .int .i64 L
  | 10 => fun v W => ∃ b, v = .slice (some ⟨b, 0, none⟩) L L ∧ Lb ≤ b ∧ Row W b L (fun _ => 0)
  | 11 => fun v _ => v = .int .i64 r
  | _ => fun _ _ => True
def fewAp (i : Nat) (u : Value) (j : Nat) (v : Value) : Prop := (i = 6 ∧ j = 10) ∨ (i = 10 ∧ j = 6) → ∀ g, u.ownBlock = some g → v.ownBlock ≠ some g

end Go.Proofs.Pet
namespace Go.Proofs.Pet
open Go Go.RowKit Go.Maps Go.Shelf
end Go.Proofs.Pet
namespace Go.Proofs.Pet
open Go Go.RowKit Go.Maps Go.Shelf
theorem ownsRow_slice {w : World} {base n : Nat} {e : TypeId} {size : Nat} {v : Value} {xs : List Value} (h : w.ownsRow base e size v n xs) : ∃ A c, v = .slice A n c := by
  rcases h.2 with ⟨rfl, rfl⟩ | ⟨g, cap, cur, rfl, _⟩
  · exact ⟨none, 0, rfl⟩
  · exact ⟨_, _, rfl⟩
/-- the frame of Late at its loop -/
def lateF (N D S B : Nat) (mv v7 v8 v27 : Value) (u : Nat → Value) (ds : List Deferred) : Act := ⟨#[mv, .pointer (some ⟨B, 0, none⟩), .slice none 0 0, .int .i64 0, .pointer (some ⟨D, 0, none⟩), u 5, .slice (some ⟨S, 0, none⟩) N N, v7, v8, u 9, u 10, u 11, u 12, u 13, u 14, u 15, u 16, u 17, u 18, u 19, u 20, u 21, u 22, u 23, u 24, u 25, .int .i64 (N : Int), v27, u 28, u 29, u 30, u 31, u 32, u 33, u 34, u 35, u 36, u 37, u 38, u 39, u 40, u 41, u 42, u 43, u 44, u 45, u 46, u 47, u 48, u 49, u 50, u 51, u 52, u 53, u 54, u 55, u 56, u 57, u 58, u 59, u 60, u 61, u 62, u 63, u 64, u 65, u 66, u 67, u 68, u 69, u 70, u 71, u 72, u 73, u 74, u 75, u 76, u 77, u 78], ds⟩

end Go.Proofs.Pet
namespace Go.Proofs.Pet
open Go Go.RowKit Go.Maps Go.Shelf
theorem ownsRow_apart {w W : World} {base b size n : Nat} {e : TypeId} {v : Value} {xs : List Value} (h : w.ownsRow base e size v n xs) (hne : v.ownBlock ≠ some b) (ha : Apart b w W) : W.ownsRow base e size v n xs := by
  obtain ⟨h1, h2⟩ := h
  refine ⟨h1, ?_⟩
  rcases h2 with h2 | ⟨g, cap, cur, rfl, hg1, hb, r⟩
  · exact .inl h2
  · refine .inr ⟨g, cap, cur, rfl, hg1, ?_, r⟩
    rw [← hb]
    exact ha.block g (Array.getElem?_eq_some_iff.1 hb).1 (fun e => hne (by rw [e]; rfl))
end Go.Proofs.Pet
namespace Go.Proofs.Pet
open Go Go.RowKit Go.Maps Go.Shelf
/-- the set of some orders -/
def setF (xs : List Int) : Nat := xs.foldl (fun s x => s ||| 2 ^ x.toNat) 0
end Go.Proofs.Pet
namespace Go.Proofs.Pet
open Go Go.RowKit
end Go.Proofs.Pet
namespace Go.Proofs.Pet
open Go Go.RowKit Go.Maps Go.Shelf
/-- rows of ints, wherever they lie -/
def RowsI (w : World) (v : Value) (xss : List (List Int)) : Prop :=
  ∃ A c, v = .slice A xss.length c ∧ xss.length ≤ c ∧ c ≤ maxLen ∧ ∀ i, i < xss.length → ∃ b o u, A = some ⟨b, o, none⟩ ∧ w.cell? ⟨b, o + i, none⟩ = some u ∧ SlI w u (xss[i]?.getD [])
end Go.Proofs.Pet
namespace Go.Proofs.Pet
open Go Go.RowKit Go.Maps Go.Shelf
def planR (mv pv : Value) (fl : List Int) (le : Int) : Nat → Value → World → Prop
  | 0 => fun v _ => v = mv
  | 1 => fun v _ => v = pv
  | 2 => fun v W => SlI W v fl
  | 3 => fun v _ => v = .int .i64 le
  | 4 => fun v _ => v = .int .i64 le
  | _ => fun _ _ => True
end Go.Proofs.Pet
namespace Go.Proofs.Pet
open Go Go.RowKit Go.Maps Go.Shelf
def lst (f : Nat → Int) (n : Nat) : List Int := (List.range n).map f
theorem OwnI.own_lt {w : World} {base : Nat} {e : TypeId} {v : Value} {xs : List Int} (h : OwnI w base e v xs) (b : Nat) (hb : v.ownBlock = some b) : base ≤ b ∧ b < w.heap.size := by
  obtain ⟨A, c, rfl, _, _, _, h5, _⟩ := h.open_
  cases A with
  | none => cases hb
  | some ad =>
    obtain ⟨h6, h7, h8⟩ := h5 ad rfl
    rw [h8] at hb
    have := Option.some.inj hb
    omega
theorem Row.made {w : World} {S n : Nat} (h : Blk w S 3 (madeCells #[.int .i64 0] n)) : Row w S n (fun _ => 0) := by
  have e : madeCells #[Value.int .i64 0] n = Array.replicate n (.int .i64 0) := by
    apply Array.toList_inj.1
    simp [madeCells, Nat.mod_one, List.map_const']
  rw [e] at h
  exact Row.const h
end Go.Proofs.Pet
namespace Go.Proofs.Pet
open Go Go.RowKit Go.Maps Go.Shelf
def setJ (f : Nat → Int) (l es : List Int) : Nat → Nat → Int
  | 0 => f
  | j + 1 => fun k => if k = (l[j]?.getD 0).toNat then es[j]?.getD 0 else setJ f l es j k
end Go.Proofs.Pet
namespace Go.Proofs.Pet
open Go Go.RowKit Go.Maps Go.Shelf
end Go.Proofs.Pet
namespace Go.Proofs.Pet
open Go Go.RowKit Go.Maps Go.Shelf
theorem nodup_of_twice {xs : List Int} (h : twiceB xs = false) : xs.Nodup := by
  rw [List.nodup_iff_pairwise_ne, List.pairwise_iff_getElem]
  intro i j hi hj hij e
  unfold twiceB at h
  rw [List.any_eq_false] at h
  have := h j (List.mem_range.2 hj)
  refine this ?_
  have e1 : xs[j]?.getD 0 = xs[j] := by simp [hj]
  rw [e1, List.contains_iff_mem, List.mem_take_iff_getElem]
  exact ⟨i, by omega, e⟩
/-- no order below n is without an end -/
def allSet (f : Nat → Int) (q : Bool) : Nat → Bool
  | 0 => q
  | k + 1 => allSet f q k && !decide (f k = -1)
end Go.Proofs.Pet
namespace Go.Proofs.Pet
open Go Go.RowKit Go.Maps Go.Shelf
def crA (mv : Value) (s b _cb _z Lb : Nat) (ov : Int) (_c3 : Bool) : Nat → Value → World → Prop
  | 0 => fun v _ => v = mv
  | 1 => fun v _ => v = .int .i64 s
  | 2 => fun v W => OwnI W Lb 3 v (ints (bits 8 s))
  | 3 => fun v _ => v = .int .i64 ((b : Int) + 1)
  | 4 => fun v _ => v = .int .i64 ov
  | 5 => fun v _ => v = .bool false
  | 6 => fun v _ => v = .bool false
  | 7 => fun v _ => v = undef
  | 8 => fun v _ => v = undef
  | 9 => fun v _ => v = undef
  | 10 => fun v _ => v = undef
  | 11 => fun v _ => v = undef
  | 12 => fun v _ => v = undef
  | 13 => fun v _ => v = undef
  | 14 => fun v _ => v = undef
  | 15 => fun v _ => v = undef
  | 16 => fun v _ => v = undef
  | 17 => fun v _ => v = undef
  | 18 => fun v _ => v = undef
  | 19 => fun v _ => v = .bool false
  | _ => fun _ _ => True
def crB (mv : Value) (s b _cb _z Lb : Nat) (ov : Int) (_c3 : Bool) : Nat → Value → World → Prop
  | 0 => fun v _ => v = mv
  | 1 => fun v _ => v = .int .i64 s
  | 2 => fun v W => OwnI W Lb 3 v (ints (bits 8 s))
  | 3 => fun v _ => v = .int .i64 ((b : Int) + 1)
  | 4 => fun v _ => v = .int .i64 ov
  | 5 => fun v _ => v = .bool true
  | 6 => fun v _ => v = .bool true
  | 7 => fun v _ => v = .agg #[.int .i64 0, .int .i64 0]
  | 8 => fun v _ => v = .agg #[.int .i64 0, .int .i64 0]
  | 9 => fun v _ => v = .bool true
  | 10 => fun v _ => v = .bool true
  | 11 => fun v _ => v = undef
  | 12 => fun v _ => v = undef
  | 13 => fun v _ => v = undef
  | 14 => fun v _ => v = undef
  | 15 => fun v _ => v = undef
  | 16 => fun v _ => v = undef
  | 17 => fun v _ => v = undef
  | 18 => fun v _ => v = .bool true
  | 19 => fun v _ => v = .bool true
  | _ => fun _ _ => True
def crC (mv : Value) (s b cb z Lb : Nat) (ov : Int) (c3 : Bool) : Nat → Value → World → Prop
  | 0 => fun v _ => v = mv
  | 1 => fun v _ => v = .int .i64 s
  | 2 => fun v W => OwnI W Lb 3 v (ints (bits 8 s))
  | 3 => fun v _ => v = .int .i64 ((b : Int) + 1)
  | 4 => fun v _ => v = .int .i64 ov
  | 5 => fun v _ => v = .bool true
  | 6 => fun v _ => v = .bool true
  | 7 => fun v _ => v = .agg #[.int .i64 ((b : Int) + 1), .int .i64 z]
  | 8 => fun v _ => v = .agg #[.int .i64 0, .int .i64 0]
  | 9 => fun v _ => v = .bool false
  | 10 => fun v _ => v = .bool false
  | 11 => fun v _ => v = .int .i64 s
  | 12 => fun v W => OwnI W Lb 3 v (ints (bits 8 s))
  | 13 => fun v _ => v = .pointer (some ⟨cb, 1, none⟩)
  | 14 => fun v _ => v = .int .i64 z
  | 15 => fun v W => OwnI W Lb 3 v (ints (bits 8 z))
  | 16 => fun v _ => ∃ r : Int, v = .int .i64 r ∧ decide (r < 0) = c3
  | 17 => fun v _ => v = .bool c3
  | 18 => fun v _ => v = .bool c3
  | 19 => fun v _ => v = .bool c3
  | _ => fun _ _ => True
def crD (y z cb Lb : Nat) : Nat → Value → World → Prop
  | 0 => fun v _ => v = .pointer (some ⟨cb, 1, none⟩)
  | 1 => fun v _ => v = .int .i64 z
  | 2 => fun v W => OwnI W Lb 3 v (ints (bits 8 z))
  | 3 => fun v _ => v = .pointer (some ⟨cb, 0, none⟩)
  | 4 => fun v _ => v = .int .i64 y
  | 5 => fun v W => ∃ r, v = .agg #[r, .int .i64 y] ∧ OwnI W Lb 3 r (ints (bits 8 z))
  | _ => fun _ _ => True
end Go.Proofs.Pet
namespace Go.Proofs.Pet
open Go Go.RowKit Go.Maps Go.Shelf
theorem Quits.loops {lo : Nat} {W W' : World} (h : Quits lo W W') : Loops lo W W' :=
  ⟨h.os, h.tape, h.output, h.size, fun k c e fz hc => (h.same k (.inr ⟨c, e, fz, hc⟩)).trans hc, fun k hk _ => h.same k (.inl hk)⟩
theorem Apart.above {b : Nat} {w W : World} {p : Addr} (h : Apart b w W) (hp : w.heap.size ≤ p.block) (v : Value) : Apart b w (W.setCell p v) :=
  ⟨h.os, h.tape, h.output, by rw [World.size_setCell]; exact h.size, fun k hk hne => (Below.heap_setCell W p v k (by omega)).trans (h.block k hk hne)⟩
/-- the region of the call that goes on -/
def moR (n c : Nat) (A : Option Addr) (fv : Value) (k r : Nat) : Nat → Value → Prop
  | 0 => fun v => v = fv
  | 1 => fun v => v = .slice A n c
  | 3 => fun v => v = .int .i64 k
  | 6 => fun v => v = .int .i64 r
  | _ => fun _ => True
def moS (wr : World) (es : List Int) (k : Nat) (Ld : Nat → Prop) (x : Nat → Value) (W : World) : Prop :=
  Ext wr W ∧ (Ld 2 → ¬ Ld 5 → OwnI W wr.heap.size 3 (x 2) es) ∧ (Ld 4 → ¬ Ld 5 → ∃ g, x 4 = .slice (some ⟨g, 0, none⟩) 1 1 ∧ Blk W g 3 #[.int .i64 k]) ∧ (Ld 5 → OwnI W wr.heap.size 3 (x 5) (es ++ [(k : Int)]))
theorem Blk.apart {w W : World} {b g : Nat} {t : TypeId} {cs : Array Value} (h : Blk w g t cs) (hne : g ≠ b) (ha : Apart b w W) : Blk W g t cs := (ha.block g h.lt hne).trans h
/-- what the operations of the first region leave -/
def mo1R (D l n c : Nat) (A : Option Addr) (mv : Value) (cv : Int) (es : List Int) (Lb : Nat) : Nat → Value → World → Prop
  | 0 => fun v _ => v = .pointer (some ⟨D, 0, none⟩)
  | 1 => fun v _ => v = .pointer (some ⟨D, 0, none⟩)
  | 2 => fun v _ => v = .pointer (some ⟨D, 0, none⟩)
  | 3 => fun v _ => v = mv
  | 4 => fun v _ => v = .int .i64 l
  | 5 => fun v _ => v = .slice A n c
  | 6 => fun v W => ∃ r, v = .tuple #[r, .int .i64 cv] ∧ OwnI W Lb 3 r es
  | 7 => fun v W => ∃ r, v = .tuple #[r, .int .i64 cv] ∧ OwnI W Lb 3 r es
  | 8 => fun v W => OwnI W Lb 3 v es
  | 9 => fun v _ => v = .int .i64 cv
  | 10 => fun v W => OwnI W Lb 3 v es
  | 11 => fun v _ => v = .int .i64 cv
  | _ => fun _ _ => True
end Go.Proofs.Pet
namespace Go.Proofs.Pet
open Go Go.RowKit Go.Maps Go.Shelf
end Go.Proofs.Pet
namespace Go.Proofs.Pet
open Go Go.RowKit Go.Maps Go.Shelf
/-- the blocks of the two variables, as far as they are laid -/
def ownB (c d : Nat) (Ld : Nat → Prop) (x : Nat → Value) (b : Nat) : Prop := (Ld c ∧ x c = .pointer (some ⟨b, 0, none⟩)) ∨ (Ld d ∧ x d = .pointer (some ⟨b, 0, none⟩))
def zeroM : Array Value := #[.slice none 0 0, .int .i64 0, .slice none 0 0]
end Go.Proofs.Pet
namespace Go.Proofs.Pet
open Go Go.RowKit Go.WideShapes Go.ChangeShapes Go.Joins Go.Deep
section
variable {H : Type} {enc : TypeId × Value → H} {P : Program}
/-- the end of a law's row: the call left all that lay as it lay -/
theorem law_post {f : Func} {s : ChangeSpec} {apart fresh handsOn again : Bool} {W W' : World} {args : Array Value} {v : Value} {ds gs : List (DataW H)} {before pa pv : List MemPlace}
    (hW : DataW.Whole enc P f.params.toList s.vars apart W args.toList ds gs before)
    (hres : ∀ (b : Nat) (sp : Nat → Bool) (hd : Bool), DataW.TrodAll enc P W' b sp hd f.resultTypes.toList (v.resultList f.resultTypes.size) (s.fn H (ds ++ gs)).results [])
    (hargs : ∀ sp : Nat → Bool, (∀ p ∈ before, sp p.block = true) → DataW.TrodAll enc P W' 0 sp true f.params.toList args.toList (s.fn H (ds ++ gs)).args pa)
    (hvars : ∀ sp : Nat → Bool, (∀ p ∈ before, sp p.block = true) → DataW.TrodVars enc P W' sp s.vars (s.fn H (ds ++ gs)).vars pv)
    (hps : before = pa ++ pv) (hb : Below W.heap.size W W')
    (hok : ∀ (j : Nat) (t : TypeId) (r : Value), f.resultTypes[j]? = some t → (v.resultList f.resultTypes.size)[j]? = some r → Value.okWide P W' .any 0 t r) :
    s.post enc P f apart fresh handsOn again W args v W' := by
  have hlt : ∀ p ∈ before, p.block < W.heap.size := fun p hp => hW.lt p hp
  have hold : ∀ p ∈ before, (fun b => decide (b < W.heap.size)) p.block = true := fun p hp => by simpa using hlt p hp
  refine ⟨ds, gs, before, [], pa, pv, hW, hres _ _ _, hargs _ hold, hvars _ hold, World.keptBut_mono (fun p hp => ⟨hp, ?_⟩) (hb.frame (· ∈ before)), fun _ => ?_⟩
  · rw [hps, List.mem_append] at hp
    exact Or.inr hp
  · obtain ⟨_, _, _, _, _, hz, hn⟩ := hW
    refine ⟨hok, _, _, ([] ++ pa) ++ pv, ⟨[] ++ pa, pv, trodAll_append (hargs _ (fun _ _ => rfl)) (hres _ _ _), hvars _ (fun _ _ => rfl), rfl, ?_, ?_⟩, ?_⟩
    · intro b off hp
      have hin : MemPlace.cell b off ∈ before := by rw [hps]; simpa using hp
      rw [hb.frozen (hlt _ hin)]
      exact hz b off hin
    · intro ha
      have := hn ha
      rw [hps] at this
      simpa using this
    · intro p hp _
      rw [hps]
      simpa using hp
/-- what was read reads as it did -/
theorem trodAll_stays (hl : laidOutB P = true) {W W' : World} (hb : Below W.heap.size W W') {sp : Nat → Bool} : ∀ (ts : List TypeId) (vs : List Value) (ds : List (DataW H)) (ps : List MemPlace), (ts.all fun t => P.readableRec t && decide (t < P.types.size)) = true →
    (∀ p ∈ ps, p.block < W.heap.size) → (∀ p ∈ ps, sp p.block = true) → DataW.TrodAll enc P W 0 (fun _ => true) true ts vs ds ps → DataW.TrodAll enc P W' 0 sp true ts vs ds ps
  | [], [], [], ps, _, _, _, h => h
  | t :: ts, v :: vs, d :: ds, ps, hr, hlt, hs, h => by
    obtain ⟨p, q, h1, h2, rfl⟩ := h
    simp only [List.all_cons, Bool.and_eq_true, decide_eq_true_eq] at hr
    exact ⟨p, q, WideElems.Trod_stays hl hr.1.1 hr.1.2 h1 (fun x hx => hb.same (hlt x (by simp [hx]))) (fun x hx => hs x (by simp [hx])),
      trodAll_stays hl hb ts vs ds q hr.2 (fun x hx => hlt x (by simp [hx])) (fun x hx => hs x (by simp [hx])) h2, rfl⟩
  | [], [], _ :: _, _, _, _, _, h => by simp [DataW.TrodAll] at h
  | [], _ :: _, _, _, _, _, _, h => by cases h
  | _ :: _, [], _, _, _, _, _, h => by simp [DataW.TrodAll] at h
  | _ :: _, _ :: _, [], _, _, _, _, h => by simp [DataW.TrodAll] at h
variable {w : World} {base : Nat} {spare : Nat → Bool} {held : Bool}
theorem spot_none {w : World} {a : Addr} {v : Value} (h : w.cell? a = some v) : a.spot = none := by
  unfold World.cell? at h
  split at h
  · cases e : a.spot with
    | none => rfl
    | some x => simp [e] at h
  · cases h
theorem addr_add (b o i : Nat) : (⟨b, o, none⟩ : Addr).add i = ⟨b, o + i, none⟩ := by unfold Addr.add; split <;> simp_all
end
end Go.Proofs.Pet
namespace Go.Proofs.Pet
open Go Go.RowKit
def edges (o : Oper) : List Edge := o.after.toList.filter (Region.binds .any)
def DepsE (y x : Nat → Value) : List Edge → Prop
  | [] => True
  | e :: l => x e.on = y e.on ∧ DepsE y x l
def closeB (l : List Oper) : Nat → List Nat → List Nat
  | 0, s => s
  | i + 1, s => closeB l i (if s.contains i then s ++ ((l[i]?.map edges).getD []).map (·.on) else s)
/-- what must be done before an operation -/
def anc (l : List Oper) (k : Nat) : List Nat := closeB l k (((l[k]?.map edges).getD []).map (·.on))
def chainOrd (l : List Oper) : List (Nat × Bool) → Bool
  | [] => true
  | [_] => true
  | p :: q :: r => (anc l q.1).contains p.1 && chainOrd l (q :: r)
/-- all but ms (the second says: it only makes memory) float, those of rs in whatever memory -/
def chainB2 (l : List Oper) (n : Nat) (ms : List (Nat × Bool)) (rs : List Nat) : Bool :=
  ((List.range n).all fun k => ms.any (fun p => p.1 == k) || ((l[k]?.map edges).getD []).all fun e => !(ms.any fun p => p.1 == e.on)) && chainOrd l ms &&
    ms.all fun p => decide (p.1 < n) && (p.2 || (List.range n).all fun j => ms.any (fun q => q.1 == j) || rs.contains j || (anc l p.1).contains j)
theorem depsE_mk {y x : Nat → Value} : ∀ {l : List Edge}, (∀ e ∈ l, x e.on = y e.on) → DepsE y x l
  | [], _ => trivial
  | e :: _, h => ⟨h e (by simp), depsE_mk fun e' he => h e' (by simp [he])⟩
theorem depsL_mem {Ld : Nat → Prop} : ∀ {l : List Edge}, DepsL Ld l → ∀ e ∈ l, Ld e.on
  | _ :: _, h, e', he => by
    rcases List.mem_cons.1 he with h1 | h1
    · subst h1; exact h.1
    · exact depsL_mem h.2 e' h1
theorem Closed.at_ {Ld : Nat → Prop} : ∀ (l : List Oper) (k : Nat), Closed Ld l k → ∀ i o, l[i]? = some o → Ld (k + i) → DepsL Ld (edges o)
  | [], _, _, i, o, hi, _ => by simp at hi
  | o :: l, k, h, i, o', hi, hl => by
    rcases i with _ | i
    · simp only [List.getElem?_cons_zero, Option.some.injEq] at hi
      subst hi
      exact h.1 hl
    · exact Closed.at_ l (k + 1) h.2 i o' (by simpa using hi) (by rwa [show k + 1 + i = k + (i + 1) by omega])
theorem closeB_ok {l : List Oper} {n : Nat} {Ld : Nat → Prop} (hcl : Closed Ld (l.take n) 0) : ∀ {i : Nat} {s : List Nat}, i ≤ n → (∀ j ∈ s, Ld j) → ∀ j, (closeB l i s).contains j = true → Ld j
  | 0, s, _, h, j, hj => h j (by simpa [closeB] using hj)
  | i + 1, s, hi, h, j, hj => by
    unfold closeB at hj
    refine closeB_ok hcl (by omega) ?_ j hj
    intro j hj
    split at hj
    · rename_i hs
      rcases List.mem_append.1 hj with h1 | h1
      · exact h j h1
      · obtain ⟨e, he, rfl⟩ := List.mem_map.1 h1
        cases ho : l[i]? with
        | none => rw [ho] at he; simp at he
        | some o =>
          rw [ho] at he
          simp only [Option.map_some, Option.getD_some] at he
          have hLi : Ld (0 + i) := by rw [Nat.zero_add]; exact h i (by simpa using hs)
          exact depsL_mem (hcl.at_ _ _ i o (by rw [List.getElem?_take]; simp [show i < n by omega, ho]) hLi) e he
    · exact h j hj
theorem chainOrd_suffix {l : List Oper} : ∀ (pre : List (Nat × Bool)) {s : List (Nat × Bool)}, chainOrd l (pre ++ s) = true → chainOrd l s = true
  | [], _, h => h
  | [p], s, h => by
    cases s with
    | nil => rfl
    | cons q r =>
      simp only [List.cons_append, List.nil_append, chainOrd, Bool.and_eq_true] at h
      exact h.2
  | p :: q :: r, s, h => by
    simp only [List.cons_append, chainOrd, Bool.and_eq_true] at h
    exact chainOrd_suffix (q :: r) h.2
theorem chainOrd_pred {l : List Oper} : ∀ {r : List (Nat × Bool)} {p q : Nat × Bool}, chainOrd l (p :: r) = true → q ∈ r → ∃ p', p' ∈ p :: r ∧ (anc l q.1).contains p'.1 = true
  | q' :: r, p, q, h, hq => by
    simp only [chainOrd, Bool.and_eq_true] at h
    rcases List.mem_cons.1 hq with h1 | h1
    · subst h1; exact ⟨p, by simp, h.1⟩
    · obtain ⟨p', hp, hc⟩ := chainOrd_pred h.2 h1
      exact ⟨p', by simp only [List.mem_cons] at hp ⊢; exact .inr hp, hc⟩
theorem fill_congr' (l : List Oper) : ∀ (k : Nat) (x y : Nat → Value) (a : Act), (∀ j, k ≤ j → j < k + l.length → x j = y j) → fill l k x a = fill l k y a := by
  induction l with
  | nil => intro k x y a _; rfl
  | cons o l ih =>
    intro k x y a h
    simp only [fill]
    rw [h k (Nat.le_refl _) (by simp)]
    exact ih (k + 1) x y _ fun j h1 h2 => h j (by omega) (by simp; omega)

def Chain (P : Program) (ops : Array Oper) (G : World → Prop) (hd tl : List Oper) (fr : (Nat → Value) → Act) (Q : Exit → Act → World → Prop) : List (Nat × Bool) → (Nat → Value) → World → Prop
  | [], y, W => wpList P ops Q tl (fr y) W
  | (k, e) :: ms, y, W => ∀ x, DepsE y x ((hd[k]?.map edges).getD []) → ∀ (K : Act → World → Prop) (Q' : Exit → Act → World → Prop),
      (∀ v W', (e = true → G W') → Chain P ops G hd tl fr Q ms (upd y k v) W' → K ((fr x).put ((hd[k]?.map (·.dst)).getD none) v) W') → wpList P ops (Exit.then K Q') ((hd[k]?.map fun o => [o]).getD []) (fr x) W
def FloatOk (P : Program) (ops : Array Oper) (G : World → Prop) (fr : (Nat → Value) → Act) (reg : Bool) (o : Oper) (y : Nat → Value) (v : Value) : Prop :=
  ∀ (x : Nat → Value) (W : World), (reg = false → G W) → DepsE y x (edges o) → ∀ (K : Act → World → Prop) (Q : Exit → Act → World → Prop), K ((fr x).put o.dst v) W → wpList P ops (Exit.then K Q) [o] (fr x) W
def Floats (P : Program) (ops : Array Oper) (w : World) (G : World → Prop) (hd tl : List Oper) (fr : (Nat → Value) → Act) (Q : Exit → Act → World → Prop) (ms : List (Nat × Bool)) (rs : List Nat) : List Oper → Nat → (Nat → Value) → Prop
  | [], _, y => ∀ W, Ext w W → G W → Chain P ops G hd tl fr Q ms y W
  | o :: l, k, y => if ms.any (fun p => p.1 == k) then Floats P ops w G hd tl fr Q ms rs l (k + 1) y else ∃ v, FloatOk P ops G fr (rs.contains k) o y v ∧ Floats P ops w G hd tl fr Q ms rs l (k + 1) (upd y k v)
theorem DepsE.congr {y z x : Nat → Value} : ∀ {l : List Edge}, (∀ e ∈ l, y e.on = z e.on) → DepsE y x l → DepsE z x l
  | [], _, _ => trivial
  | e :: l, h, hd => ⟨by rw [← h e (by simp)]; exact hd.1, DepsE.congr (fun e' he => h e' (by simp [he])) hd.2⟩
theorem Floats.split {P : Program} {ops : Array Oper} {w : World} {G : World → Prop} {hd tl : List Oper} {fr : (Nat → Value) → Act} {Q : Exit → Act → World → Prop} {ms : List (Nat × Bool)} {rs : List Nat} :
    ∀ (l : List Oper) (k : Nat) (y : Nat → Value), (∀ i o, l[i]? = some o → ∀ e ∈ edges o, e.on < k + i) → Floats P ops w G hd tl fr Q ms rs l k y →
      ∃ z, (∀ j, j < k → z j = y j) ∧ (∀ i o, l[i]? = some o → ms.any (fun p => p.1 == k + i) = false → FloatOk P ops G fr (rs.contains (k + i)) o z (z (k + i))) ∧ ∀ W, Ext w W → G W → Chain P ops G hd tl fr Q ms z W
  | [], k, y, _, h => ⟨y, fun _ _ => rfl, fun i o hi => by simp at hi, h⟩
  | o :: l, k, y, hlow, h => by
    have hlow' : ∀ i o', l[i]? = some o' → ∀ e ∈ edges o', e.on < k + 1 + i := fun i o' hi e he => by
      have := hlow (i + 1) o' (by simpa using hi) e he
      omega
    unfold Floats at h
    by_cases hm : ms.any (fun p => p.1 == k) = true
    · rw [if_pos hm] at h
      obtain ⟨z, h1, h2, h3⟩ := Floats.split l (k + 1) y hlow' h
      refine ⟨z, fun j hj => h1 j (by omega), fun i o' hi hf => ?_, h3⟩
      rcases i with _ | i
      · rw [Nat.add_zero, hm] at hf; cases hf
      · rw [show k + (i + 1) = k + 1 + i by omega] at hf ⊢
        exact h2 i o' (by simpa using hi) hf
    · rw [if_neg hm] at h
      obtain ⟨v, hv, h⟩ := h
      obtain ⟨z, h1, h2, h3⟩ := Floats.split l (k + 1) _ hlow' h
      have hzk : z k = v := by rw [h1 k (by omega)]; simp [upd]
      refine ⟨z, fun j hj => by rw [h1 j (by omega)]; unfold upd; rw [if_neg (by omega)], fun i o' hi hf => ?_, h3⟩
      rcases i with _ | i
      · simp only [List.getElem?_cons_zero, Option.some.injEq] at hi
        subst hi
        rw [Nat.add_zero, hzk]
        intro x W he hd' K Q' hK
        refine hv x W he (DepsE.congr (fun e he => ?_) hd') K Q' hK
        have hlt := hlow 0 o rfl e he
        rw [h1 e.on (by omega)]; unfold upd; rw [if_neg (by omega)]
      · rw [show k + (i + 1) = k + 1 + i by omega] at hf ⊢
        exact h2 i o' (by simpa using hi) hf
/-- what is known while a region with floating operations and a forced chain goes on -/
def ChainS (P : Program) (ops : Array Oper) (G : World → Prop) (hd tl : List Oper) (fr : (Nat → Value) → Act) (Q : Exit → Act → World → Prop) (ms : List (Nat × Bool)) (rs : List Nat) (n : Nat) (z : Nat → Value) (Ld : Nat → Prop) (x : Nat → Value) (W : World) : Prop :=
  (∀ i, i < n → ms.any (fun p => p.1 == i) = false → Ld i → x i = z i) ∧ ∃ pre ms' y, ms = pre ++ ms' ∧ (∀ p ∈ pre, Ld p.1) ∧ (∀ p ∈ ms', ¬ Ld p.1) ∧ (∀ i, ms.any (fun p => p.1 == i) = false → y i = z i) ∧ (∀ p ∈ pre, x p.1 = y p.1) ∧
    Chain P ops G hd tl fr Q ms' y W ∧ ((∀ p ∈ pre, p.2 = true) → G W) ∧ ((∀ p ∈ pre, p.2 = true) ∨ ∀ j, j < n → ms.any (fun p => p.1 == j) = false → rs.contains j = false → Ld j)
section
variable {P : Program} {ops : Array Oper} {w : World} {G : World → Prop} {hd tl : List Oper} {fr : (Nat → Value) → Act} {Q : Exit → Act → World → Prop} {ms : List (Nat × Bool)} {rs : List Nat} {l : List Oper} {o : Oper} {k : Nat} {y : Nat → Value} {e : Bool} {W : World}
theorem Floats.mut (hk : ms.any (fun p => p.1 == k) = true) (h : Floats P ops w G hd tl fr Q ms rs l (k + 1) y) : Floats P ops w G hd tl fr Q ms rs (o :: l) k y := by
  unfold Floats; rw [if_pos hk]; exact h
theorem Floats.float {v : Value} (hk : ms.any (fun p => p.1 == k) = false) (hf : FloatOk P ops G fr (rs.contains k) o y v) (h : Floats P ops w G hd tl fr Q ms rs l (k + 1) (upd y k v)) : Floats P ops w G hd tl fr Q ms rs (o :: l) k y := by
  unfold Floats; rw [if_neg (by rw [hk]; decide)]; exact ⟨v, hf, h⟩
theorem Floats.done (h : ∀ W, Ext w W → G W → Chain P ops G hd tl fr Q ms y W) : Floats P ops w G hd tl fr Q ms rs [] k y := h
theorem Chain.cons (o : Oper) (ho : hd[k]? = some o) (h : ∀ x, DepsE y x (edges o) → ∀ (K : Act → World → Prop) (Q' : Exit → Act → World → Prop),
      (∀ v W', (e = true → G W') → Chain P ops G hd tl fr Q ms (upd y k v) W' → K ((fr x).put o.dst v) W') → wpList P ops (Exit.then K Q') [o] (fr x) W) : Chain P ops G hd tl fr Q ((k, e) :: ms) y W := by
  unfold Chain; rw [ho]; exact h
theorem Chain.nil (h : wpList P ops Q tl (fr y) W) : Chain P ops G hd tl fr Q [] y W := h
end
theorem allOps3_mk {P : Program} {ops : Array Oper} {hd : List Oper} {S : (Nat → Prop) → (Nat → Value) → World → Prop} {R : Nat → Value → Prop} {fr : (Nat → Value) → Act} : ∀ (l : List Oper) (k : Nat),
    (∀ (i : Nat) (o : Oper), l[i]? = some o → ∀ (Ld : Nat → Prop) (x : Nat → Value) (w : World), S Ld x w → Closed Ld hd 0 → ¬ Ld (k + i) → DepsL Ld (o.after.toList.filter (Region.binds .any)) → DepsV R x (o.after.toList.filter (Region.binds .any)) → ∀ (K : Act → World → Prop) (Q : Exit → Act → World → Prop),
      (∀ v w', R (k + i) v → S (fun j => Ld j ∨ j = k + i) (upd x (k + i) v) w' → K ((fr x).put o.dst v) w') → wpList P ops (Exit.then K Q) [o] (fr x) w) → AllOps3 P ops hd S R fr l k
  | [], _, _ => trivial
  | o :: l, k, h => ⟨h 0 o rfl, allOps3_mk l (k + 1) fun i o' hi => by
      have := h (i + 1) o' (by simpa using hi)
      rw [show k + (i + 1) = k + 1 + i by omega] at this
      exact this⟩
theorem wp_region_chainG {P : Program} {id : Nat} {Q : Exit → Act → World → Prop} {a : Act} {w : World} {l : List Oper} (G : World → Prop) (hG : G w.drew) (n : Nat) (ms : List (Nat × Bool)) (rs : List Nat) (hm : P.follows .mixedOrders = true) (hB : headB2 l n = true) (hC : chainB2 l n ms rs = true)
    (h : Floats P l.toArray w G (l.take n) (l.drop n) (fun x => fill (l.take n) 0 x a) Q ms rs (l.take n) 0 (fun _ => undef)) :
    (Code.region id l.toArray true).wp P Q a w := by
  have hB' := hB
  simp only [headB2, Bool.and_eq_true, decide_eq_true_eq, Bool.or_eq_true, List.all_eq_true, List.mem_range] at hB'
  obtain ⟨⟨⟨⟨hn, hdist⟩, _⟩, _⟩, hlow⟩ := hB'
  have hlow2 : ∀ i o, (l.take n)[i]? = some o → ∀ e ∈ edges o, e.on < 0 + i := fun i o hi e he => by
    have hin : i < n := by have := (List.getElem?_eq_some_iff.1 hi).1; simp at this; omega
    have ho : l[i]? = some o := by rw [List.getElem?_take] at hi; simpa [hin] using hi
    have h1 := hlow i hin
    rw [ho] at h1
    obtain ⟨he, hbe⟩ := List.mem_filter.1 he
    have h2 := Array.all_eq_true'.1 h1 e (by simpa using he)
    simp only [hbe, Bool.not_true, Bool.false_or, decide_eq_true_eq] at h2
    omega
  obtain ⟨z, _, hfl, hch⟩ := Floats.split (l.take n) 0 _ hlow2 h
  simp only [chainB2, Bool.and_eq_true, List.all_eq_true, List.mem_range] at hC
  obtain ⟨⟨hc1, hc2⟩, hc3⟩ := hC
  refine wp_region_stage n hm hB (ChainS P l.toArray G (l.take n) (l.drop n) (fun x => fill (l.take n) 0 x a) Q ms rs n z) (fun _ _ => True)
    (fun x => ⟨fun i _ _ h => h.elim, [], ms, z, rfl, fun p hp => by simp at hp, fun p _ h => h, fun _ _ => rfl, fun p hp => by simp at hp, hch _ (Ext.drew w) hG, fun _ => hG, .inl fun p hp => by simp at hp⟩) ?_ ?_
  · refine allOps3_mk (l.take n) 0 fun i o hi Ld x W hS hcl hnl hdl _ K Q' hK => ?_
    rw [Nat.zero_add] at hnl hK
    have hin : i < n := by have := (List.getElem?_eq_some_iff.1 hi).1; simp at this; omega
    have ho : l[i]? = some o := by rw [List.getElem?_take] at hi; simpa [hin] using hi
    obtain ⟨hxf, pre, ms', y, hms, hpre, hsuf, hyz, hxy, hchn, hext, hrd⟩ := hS
    have hanc : ∀ j, (anc l i).contains j = true → Ld j := fun j hj => by
      unfold anc at hj
      rw [ho] at hj
      refine closeB_ok (l := l) (n := n) hcl (by omega) ?_ j hj
      intro j hj
      simp only [Option.map_some, Option.getD_some, List.mem_map] at hj
      obtain ⟨e, he, rfl⟩ := hj
      exact depsL_mem hdl e he
    by_cases hmi : ms.any (fun p => p.1 == i) = true
    · -- an operation of the chain
      obtain ⟨⟨i', e⟩, hp, hpi⟩ := List.any_eq_true.1 hmi
      simp only [beq_iff_eq] at hpi
      subst hpi
      have hps : (i', e) ∈ ms' := by
        rw [hms] at hp
        rcases List.mem_append.1 hp with h1 | h1
        · exact absurd (hpre _ h1) hnl
        · exact h1
      obtain ⟨⟨k0, e0⟩, r, rfl⟩ : ∃ p r, ms' = p :: r := by cases ms' with | nil => simp at hps | cons p r => exact ⟨p, r, rfl⟩
      have hk0 : (i', e) = (k0, e0) := by
        rcases List.mem_cons.1 hps with h1 | h1
        · exact h1
        · exfalso
          obtain ⟨p, hp1, hp2⟩ := chainOrd_pred (chainOrd_suffix pre (hms ▸ hc2)) h1
          exact hsuf p hp1 (hanc _ hp2)
      simp only [Prod.mk.injEq] at hk0
      obtain ⟨rfl, rfl⟩ := hk0
      have hdeps : DepsE y x ((((l.take n)[i']?).map edges).getD []) := by
        rw [hi]
        refine depsE_mk fun e' he' => ?_
        have hld := depsL_mem hdl e' he'
        by_cases hmj : ms.any (fun p => p.1 == e'.on) = true
        · obtain ⟨p, hpm, hpe⟩ := List.any_eq_true.1 hmj
          simp only [beq_iff_eq] at hpe
          rw [hms] at hpm
          rcases List.mem_append.1 hpm with h1 | h1
          · rw [← hpe]; exact hxy p h1
          · exact absurd (hpe ▸ hld) (hsuf p h1)
        · have hmj' : ms.any (fun p => p.1 == e'.on) = false := Bool.eq_false_iff.2 hmj
          have hlt : e'.on < n := by have := hlow2 i' o hi e' he'; omega
          rw [hyz _ hmj', hxf _ hlt hmj' hld]
      have hrun := hchn x hdeps K Q'
      rw [hi] at hrun
      simp only [Option.map_some, Option.getD_some] at hrun
      refine hrun fun v W' hev hrest => hK v W' trivial ?_
      have hnd : ∀ p ∈ r, p.1 ≠ i' := fun p hp hpe => by
        obtain ⟨q, hq1, hq2⟩ := chainOrd_pred (chainOrd_suffix pre (hms ▸ hc2)) hp
        have : (anc l i').contains q.1 = true := hpe ▸ hq2
        exact hsuf q hq1 (hanc _ this)
      refine ⟨fun j hj hmj hl => ?_, pre ++ [(i', e)], r, upd y i' v, by simp [hms], ?_, ?_, ?_, ?_, hrest, ?_, ?_⟩
      · have hji : j ≠ i' := fun h => by subst h; rw [hmj] at hmi; cases hmi
        unfold upd; rw [if_neg hji]
        exact hxf j hj hmj (hl.resolve_right hji)
      · intro p hp
        rcases List.mem_append.1 hp with h1 | h1
        · exact .inl (hpre p h1)
        · rw [List.mem_singleton] at h1; subst h1; exact .inr rfl
      · intro p hp h1
        exact h1.elim (hsuf p (by simp [hp])) (hnd p hp)
      · intro j hmj
        have hji : j ≠ i' := fun h => by subst h; rw [hmj] at hmi; cases hmi
        unfold upd; rw [if_neg hji]; exact hyz j hmj
      · intro p hp
        rcases List.mem_append.1 hp with h1 | h1
        · have hpi : p.1 ≠ i' := fun h => hnl (h ▸ hpre p h1)
          unfold upd; rw [if_neg hpi, if_neg hpi]; exact hxy p h1
        · rw [List.mem_singleton] at h1; subst h1; simp [upd]
      · intro hall
        exact hev (hall (i', e) (by simp))
      · cases e with
        | true =>
          rcases hrd with h1 | h1
          · refine .inl fun p hp => ?_
            rcases List.mem_append.1 hp with h2 | h2
            · exact h1 p h2
            · rw [List.mem_singleton] at h2; subst h2; rfl
          · exact .inr fun j hj hmj hrj => .inl (h1 j hj hmj hrj)
        | false =>
          refine .inr fun j hj hmj hrj => .inl ?_
          have h4 := hc3 (i', false) (hms ▸ by simp)
          simp only [Bool.false_or, List.all_eq_true, List.mem_range, decide_eq_true_eq] at h4
          have h5 := h4.2 j hj
          rw [hmj, hrj] at h5
          exact hanc j (by simpa using h5)
    · -- a floating one
      have hmi' : ms.any (fun p => p.1 == i) = false := Bool.eq_false_iff.2 hmi
      have hf := hfl i o hi (by rw [Nat.zero_add]; exact hmi')
      rw [Nat.zero_add] at hf
      refine hf x W (fun hr => ?_) (depsE_mk fun e he => ?_) K Q' (hK (z i) W trivial ⟨fun j hj hmj hl => ?_, pre, ms', y, hms, fun p hp => .inl (hpre p hp), fun p hp h1 => ?_, hyz, fun p hp => ?_, hchn, hext, hrd.imp (fun h => h) fun h1 j hj hmj hrj => .inl (h1 j hj hmj hrj)⟩)
      · rcases hrd with h1 | h1
        · exact hext h1
        · exact absurd (h1 i hin hmi' hr) hnl
      · have hlt : e.on < n := by have := hlow2 i o hi e he; omega
        have h4 := hc1 i hin
        rw [hmi', ho] at h4
        simp only [Bool.false_or, List.all_eq_true] at h4
        have h5 := h4 e he
        exact hxf _ hlt (by simpa using h5) (depsL_mem hdl e he)
      · by_cases hji : j = i
        · subst hji; simp [upd]
        · unfold upd; rw [if_neg hji]; exact hxf j hj hmj (hl.resolve_right hji)
      · refine h1.elim (hsuf p hp) fun h2 => ?_
        have : ms.any (fun q => q.1 == i) = true := List.any_eq_true.2 ⟨p, hms ▸ by simp [hp], by simp [h2]⟩
        rw [hmi'] at this; cases this
      · have hpi : p.1 ≠ i := fun h2 => by
          have : ms.any (fun q => q.1 == i) = true := List.any_eq_true.2 ⟨p, hms ▸ by simp [hp], by simp [h2]⟩
          rw [hmi'] at this; cases this
        unfold upd; rw [if_neg hpi]; exact hxy p hp
  · intro x W hS _
    obtain ⟨hxf, pre, ms', y, hms, hpre, hsuf, hyz, hxy, hchn, _, _⟩ := hS
    have hnil : ms' = [] := by
      cases ms' with
      | nil => rfl
      | cons p r =>
        have h4 := hc3 p (hms ▸ by simp)
        simp only [decide_eq_true_eq] at h4
        exact absurd h4.1 (hsuf p (by simp))
    subst hnil
    rw [List.append_nil] at hms
    subst hms
    have hxy' : ∀ j, j < n → x j = y j := fun j hj => by
      by_cases hmj : ms.any (fun p => p.1 == j) = true
      · obtain ⟨p, hpm, hpe⟩ := List.any_eq_true.1 hmj
        simp only [beq_iff_eq] at hpe
        rw [← hpe]; exact hxy p hpm
      · have hmj' : ms.any (fun p => p.1 == j) = false := Bool.eq_false_iff.2 hmj
        rw [hyz _ hmj']; exact hxf j hj hmj' hj
    rw [fill_congr' (l.take n) 0 x y a fun j _ hj => hxy' j (by simp at hj; omega)]
    exact hchn
theorem wp_region_chain {P : Program} {id : Nat} {Q : Exit → Act → World → Prop} {a : Act} {w : World} {l : List Oper} (n : Nat) (ms : List (Nat × Bool)) (rs : List Nat) (hm : P.follows .mixedOrders = true) (hB : headB2 l n = true) (hC : chainB2 l n ms rs = true)
    (h : Floats P l.toArray w (Ext w) (l.take n) (l.drop n) (fun x => fill (l.take n) 0 x a) Q ms rs (l.take n) 0 (fun _ => undef)) :
    (Code.region id l.toArray true).wp P Q a w := wp_region_chainG (Ext w) (Ext.drew w) n ms rs hm hB hC h


def ChainIn (F : Fence) (n0 : Nat) (P : Program) (ops : Array Oper) (G : World → Prop) (hd tl : List Oper) (fr : (Nat → Value) → Act) (Q : Exit → Act → World → Prop) : List (Nat × Bool) → (Nat → Value) → World → Prop
  | [], y, W => wpListIn F n0 P ops Q tl (fr y) W
  | (k, e) :: ms, y, W => ∀ x, DepsE y x ((hd[k]?.map edges).getD []) → ∀ (K : Act → World → Prop) (Q' : Exit → Act → World → Prop),
      (∀ v W', (e = true → G W') → ChainIn F n0 P ops G hd tl fr Q ms (upd y k v) W' → K ((fr x).put ((hd[k]?.map (·.dst)).getD none) v) W') → wpListIn F n0 P ops (Exit.then K Q') ((hd[k]?.map fun o => [o]).getD []) (fr x) W
def FloatOkIn (F : Fence) (n0 : Nat) (P : Program) (ops : Array Oper) (G : World → Prop) (fr : (Nat → Value) → Act) (reg : Bool) (o : Oper) (y : Nat → Value) (v : Value) : Prop :=
  ∀ (x : Nat → Value) (W : World), (reg = false → G W) → DepsE y x (edges o) → ∀ (K : Act → World → Prop) (Q : Exit → Act → World → Prop), K ((fr x).put o.dst v) W → wpListIn F n0 P ops (Exit.then K Q) [o] (fr x) W
def FloatsIn (F : Fence) (n0 : Nat) (P : Program) (ops : Array Oper) (w : World) (G : World → Prop) (hd tl : List Oper) (fr : (Nat → Value) → Act) (Q : Exit → Act → World → Prop) (ms : List (Nat × Bool)) (rs : List Nat) : List Oper → Nat → (Nat → Value) → Prop
  | [], _, y => ∀ W, Ext w W → G W → ChainIn F n0 P ops G hd tl fr Q ms y W
  | o :: l, k, y => if ms.any (fun p => p.1 == k) then FloatsIn F n0 P ops w G hd tl fr Q ms rs l (k + 1) y else ∃ v, FloatOkIn F n0 P ops G fr (rs.contains k) o y v ∧ FloatsIn F n0 P ops w G hd tl fr Q ms rs l (k + 1) (upd y k v)
theorem DepsE.congrIn {y z x : Nat → Value} : ∀ {l : List Edge}, (∀ e ∈ l, y e.on = z e.on) → DepsE y x l → DepsE z x l
  | [], _, _ => trivial
  | e :: l, h, hd => ⟨by rw [← h e (by simp)]; exact hd.1, DepsE.congrIn (fun e' he => h e' (by simp [he])) hd.2⟩
theorem FloatsIn.split {F : Fence} {n0 : Nat} {P : Program} {ops : Array Oper} {w : World} {G : World → Prop} {hd tl : List Oper} {fr : (Nat → Value) → Act} {Q : Exit → Act → World → Prop} {ms : List (Nat × Bool)} {rs : List Nat} :
    ∀ (l : List Oper) (k : Nat) (y : Nat → Value), (∀ i o, l[i]? = some o → ∀ e ∈ edges o, e.on < k + i) → FloatsIn F n0 P ops w G hd tl fr Q ms rs l k y →
      ∃ z, (∀ j, j < k → z j = y j) ∧ (∀ i o, l[i]? = some o → ms.any (fun p => p.1 == k + i) = false → FloatOkIn F n0 P ops G fr (rs.contains (k + i)) o z (z (k + i))) ∧ ∀ W, Ext w W → G W → ChainIn F n0 P ops G hd tl fr Q ms z W
  | [], k, y, _, h => ⟨y, fun _ _ => rfl, fun i o hi => by simp at hi, h⟩
  | o :: l, k, y, hlow, h => by
    have hlow' : ∀ i o', l[i]? = some o' → ∀ e ∈ edges o', e.on < k + 1 + i := fun i o' hi e he => by
      have := hlow (i + 1) o' (by simpa using hi) e he
      omega
    unfold FloatsIn at h
    by_cases hm : ms.any (fun p => p.1 == k) = true
    · rw [if_pos hm] at h
      obtain ⟨z, h1, h2, h3⟩ := FloatsIn.split l (k + 1) y hlow' h
      refine ⟨z, fun j hj => h1 j (by omega), fun i o' hi hf => ?_, h3⟩
      rcases i with _ | i
      · rw [Nat.add_zero, hm] at hf; cases hf
      · rw [show k + (i + 1) = k + 1 + i by omega] at hf ⊢
        exact h2 i o' (by simpa using hi) hf
    · rw [if_neg hm] at h
      obtain ⟨v, hv, h⟩ := h
      obtain ⟨z, h1, h2, h3⟩ := FloatsIn.split l (k + 1) _ hlow' h
      have hzk : z k = v := by rw [h1 k (by omega)]; simp [upd]
      refine ⟨z, fun j hj => by rw [h1 j (by omega)]; unfold upd; rw [if_neg (by omega)], fun i o' hi hf => ?_, h3⟩
      rcases i with _ | i
      · simp only [List.getElem?_cons_zero, Option.some.injEq] at hi
        subst hi
        rw [Nat.add_zero, hzk]
        intro x W he hd' K Q' hK
        refine hv x W he (DepsE.congrIn (fun e he => ?_) hd') K Q' hK
        have hlt := hlow 0 o rfl e he
        rw [h1 e.on (by omega)]; unfold upd; rw [if_neg (by omega)]
      · rw [show k + (i + 1) = k + 1 + i by omega] at hf ⊢
        exact h2 i o' (by simpa using hi) hf
/-- what is known while a region with floating operations and a forced chain goes on -/
def ChainSIn (F : Fence) (n0 : Nat) (P : Program) (ops : Array Oper) (G : World → Prop) (hd tl : List Oper) (fr : (Nat → Value) → Act) (Q : Exit → Act → World → Prop) (ms : List (Nat × Bool)) (rs : List Nat) (n : Nat) (z : Nat → Value) (Ld : Nat → Prop) (x : Nat → Value) (W : World) : Prop :=
  (∀ i, i < n → ms.any (fun p => p.1 == i) = false → Ld i → x i = z i) ∧ ∃ pre ms' y, ms = pre ++ ms' ∧ (∀ p ∈ pre, Ld p.1) ∧ (∀ p ∈ ms', ¬ Ld p.1) ∧ (∀ i, ms.any (fun p => p.1 == i) = false → y i = z i) ∧ (∀ p ∈ pre, x p.1 = y p.1) ∧
    ChainIn F n0 P ops G hd tl fr Q ms' y W ∧ ((∀ p ∈ pre, p.2 = true) → G W) ∧ ((∀ p ∈ pre, p.2 = true) ∨ ∀ j, j < n → ms.any (fun p => p.1 == j) = false → rs.contains j = false → Ld j)
section
variable {F : Fence} {n0 : Nat} {P : Program} {ops : Array Oper} {w : World} {G : World → Prop} {hd tl : List Oper} {fr : (Nat → Value) → Act} {Q : Exit → Act → World → Prop} {ms : List (Nat × Bool)} {rs : List Nat} {l : List Oper} {o : Oper} {k : Nat} {y : Nat → Value} {e : Bool} {W : World}
theorem FloatsIn.mut (hk : ms.any (fun p => p.1 == k) = true) (h : FloatsIn F n0 P ops w G hd tl fr Q ms rs l (k + 1) y) : FloatsIn F n0 P ops w G hd tl fr Q ms rs (o :: l) k y := by
  unfold FloatsIn; rw [if_pos hk]; exact h
theorem FloatsIn.float {v : Value} (hk : ms.any (fun p => p.1 == k) = false) (hf : FloatOkIn F n0 P ops G fr (rs.contains k) o y v) (h : FloatsIn F n0 P ops w G hd tl fr Q ms rs l (k + 1) (upd y k v)) : FloatsIn F n0 P ops w G hd tl fr Q ms rs (o :: l) k y := by
  unfold FloatsIn; rw [if_neg (by rw [hk]; decide)]; exact ⟨v, hf, h⟩
theorem FloatsIn.done (h : ∀ W, Ext w W → G W → ChainIn F n0 P ops G hd tl fr Q ms y W) : FloatsIn F n0 P ops w G hd tl fr Q ms rs [] k y := h
theorem ChainIn.cons (o : Oper) (ho : hd[k]? = some o) (h : ∀ x, DepsE y x (edges o) → ∀ (K : Act → World → Prop) (Q' : Exit → Act → World → Prop),
      (∀ v W', (e = true → G W') → ChainIn F n0 P ops G hd tl fr Q ms (upd y k v) W' → K ((fr x).put o.dst v) W') → wpListIn F n0 P ops (Exit.then K Q') [o] (fr x) W) : ChainIn F n0 P ops G hd tl fr Q ((k, e) :: ms) y W := by
  unfold ChainIn; rw [ho]; exact h
theorem ChainIn.nil (h : wpListIn F n0 P ops Q tl (fr y) W) : ChainIn F n0 P ops G hd tl fr Q [] y W := h
end
theorem allOps3_mkIn {F : Fence} {n0 : Nat} {P : Program} {ops : Array Oper} {hd : List Oper} {S : (Nat → Prop) → (Nat → Value) → World → Prop} {R : Nat → Value → Prop} {fr : (Nat → Value) → Act} : ∀ (l : List Oper) (k : Nat),
    (∀ (i : Nat) (o : Oper), l[i]? = some o → ∀ (Ld : Nat → Prop) (x : Nat → Value) (w : World), S Ld x w → Closed Ld hd 0 → ¬ Ld (k + i) → DepsL Ld (o.after.toList.filter (Region.binds .any)) → DepsV R x (o.after.toList.filter (Region.binds .any)) → ∀ (K : Act → World → Prop) (Q : Exit → Act → World → Prop),
      (∀ v w', R (k + i) v → S (fun j => Ld j ∨ j = k + i) (upd x (k + i) v) w' → K ((fr x).put o.dst v) w') → wpListIn F n0 P ops (Exit.then K Q) [o] (fr x) w) → AllOps3In F n0 P ops hd S R fr l k
  | [], _, _ => trivial
  | o :: l, k, h => ⟨h 0 o rfl, allOps3_mkIn l (k + 1) fun i o' hi => by
      have := h (i + 1) o' (by simpa using hi)
      rw [show k + (i + 1) = k + 1 + i by omega] at this
      exact this⟩
theorem wpIn_region_chainG {F : Fence} {n0 : Nat} {P : Program} {id : Nat} {Q : Exit → Act → World → Prop} {a : Act} {w : World} {l : List Oper} (G : World → Prop) (hG : G w.drew) (n : Nat) (ms : List (Nat × Bool)) (rs : List Nat) (hm : P.follows .mixedOrders = true) (hB : headB2 l n = true) (hC : chainB2 l n ms rs = true)
    (h : FloatsIn F n0 P l.toArray w G (l.take n) (l.drop n) (fun x => fill (l.take n) 0 x a) Q ms rs (l.take n) 0 (fun _ => undef)) :
    (Code.region id l.toArray true).wpIn F n0 P Q a w := by
  have hB' := hB
  simp only [headB2, Bool.and_eq_true, decide_eq_true_eq, Bool.or_eq_true, List.all_eq_true, List.mem_range] at hB'
  obtain ⟨⟨⟨⟨hn, hdist⟩, _⟩, _⟩, hlow⟩ := hB'
  have hlow2 : ∀ i o, (l.take n)[i]? = some o → ∀ e ∈ edges o, e.on < 0 + i := fun i o hi e he => by
    have hin : i < n := by have := (List.getElem?_eq_some_iff.1 hi).1; simp at this; omega
    have ho : l[i]? = some o := by rw [List.getElem?_take] at hi; simpa [hin] using hi
    have h1 := hlow i hin
    rw [ho] at h1
    obtain ⟨he, hbe⟩ := List.mem_filter.1 he
    have h2 := Array.all_eq_true'.1 h1 e (by simpa using he)
    simp only [hbe, Bool.not_true, Bool.false_or, decide_eq_true_eq] at h2
    omega
  obtain ⟨z, _, hfl, hch⟩ := FloatsIn.split (l.take n) 0 _ hlow2 h
  simp only [chainB2, Bool.and_eq_true, List.all_eq_true, List.mem_range] at hC
  obtain ⟨⟨hc1, hc2⟩, hc3⟩ := hC
  refine wpIn_region_stage n hm hB (ChainSIn F n0 P l.toArray G (l.take n) (l.drop n) (fun x => fill (l.take n) 0 x a) Q ms rs n z) (fun _ _ => True)
    (fun x => ⟨fun i _ _ h => h.elim, [], ms, z, rfl, fun p hp => by simp at hp, fun p _ h => h, fun _ _ => rfl, fun p hp => by simp at hp, hch _ (Ext.drew w) hG, fun _ => hG, .inl fun p hp => by simp at hp⟩) ?_ ?_
  · refine allOps3_mkIn (l.take n) 0 fun i o hi Ld x W hS hcl hnl hdl _ K Q' hK => ?_
    rw [Nat.zero_add] at hnl hK
    have hin : i < n := by have := (List.getElem?_eq_some_iff.1 hi).1; simp at this; omega
    have ho : l[i]? = some o := by rw [List.getElem?_take] at hi; simpa [hin] using hi
    obtain ⟨hxf, pre, ms', y, hms, hpre, hsuf, hyz, hxy, hchn, hext, hrd⟩ := hS
    have hanc : ∀ j, (anc l i).contains j = true → Ld j := fun j hj => by
      unfold anc at hj
      rw [ho] at hj
      refine closeB_ok (l := l) (n := n) hcl (by omega) ?_ j hj
      intro j hj
      simp only [Option.map_some, Option.getD_some, List.mem_map] at hj
      obtain ⟨e, he, rfl⟩ := hj
      exact depsL_mem hdl e he
    by_cases hmi : ms.any (fun p => p.1 == i) = true
    · -- an operation of the chain
      obtain ⟨⟨i', e⟩, hp, hpi⟩ := List.any_eq_true.1 hmi
      simp only [beq_iff_eq] at hpi
      subst hpi
      have hps : (i', e) ∈ ms' := by
        rw [hms] at hp
        rcases List.mem_append.1 hp with h1 | h1
        · exact absurd (hpre _ h1) hnl
        · exact h1
      obtain ⟨⟨k0, e0⟩, r, rfl⟩ : ∃ p r, ms' = p :: r := by cases ms' with | nil => simp at hps | cons p r => exact ⟨p, r, rfl⟩
      have hk0 : (i', e) = (k0, e0) := by
        rcases List.mem_cons.1 hps with h1 | h1
        · exact h1
        · exfalso
          obtain ⟨p, hp1, hp2⟩ := chainOrd_pred (chainOrd_suffix pre (hms ▸ hc2)) h1
          exact hsuf p hp1 (hanc _ hp2)
      simp only [Prod.mk.injEq] at hk0
      obtain ⟨rfl, rfl⟩ := hk0
      have hdeps : DepsE y x ((((l.take n)[i']?).map edges).getD []) := by
        rw [hi]
        refine depsE_mk fun e' he' => ?_
        have hld := depsL_mem hdl e' he'
        by_cases hmj : ms.any (fun p => p.1 == e'.on) = true
        · obtain ⟨p, hpm, hpe⟩ := List.any_eq_true.1 hmj
          simp only [beq_iff_eq] at hpe
          rw [hms] at hpm
          rcases List.mem_append.1 hpm with h1 | h1
          · rw [← hpe]; exact hxy p h1
          · exact absurd (hpe ▸ hld) (hsuf p h1)
        · have hmj' : ms.any (fun p => p.1 == e'.on) = false := Bool.eq_false_iff.2 hmj
          have hlt : e'.on < n := by have := hlow2 i' o hi e' he'; omega
          rw [hyz _ hmj', hxf _ hlt hmj' hld]
      have hrun := hchn x hdeps K Q'
      rw [hi] at hrun
      simp only [Option.map_some, Option.getD_some] at hrun
      refine hrun fun v W' hev hrest => hK v W' trivial ?_
      have hnd : ∀ p ∈ r, p.1 ≠ i' := fun p hp hpe => by
        obtain ⟨q, hq1, hq2⟩ := chainOrd_pred (chainOrd_suffix pre (hms ▸ hc2)) hp
        have : (anc l i').contains q.1 = true := hpe ▸ hq2
        exact hsuf q hq1 (hanc _ this)
      refine ⟨fun j hj hmj hl => ?_, pre ++ [(i', e)], r, upd y i' v, by simp [hms], ?_, ?_, ?_, ?_, hrest, ?_, ?_⟩
      · have hji : j ≠ i' := fun h => by subst h; rw [hmj] at hmi; cases hmi
        unfold upd; rw [if_neg hji]
        exact hxf j hj hmj (hl.resolve_right hji)
      · intro p hp
        rcases List.mem_append.1 hp with h1 | h1
        · exact .inl (hpre p h1)
        · rw [List.mem_singleton] at h1; subst h1; exact .inr rfl
      · intro p hp h1
        exact h1.elim (hsuf p (by simp [hp])) (hnd p hp)
      · intro j hmj
        have hji : j ≠ i' := fun h => by subst h; rw [hmj] at hmi; cases hmi
        unfold upd; rw [if_neg hji]; exact hyz j hmj
      · intro p hp
        rcases List.mem_append.1 hp with h1 | h1
        · have hpi : p.1 ≠ i' := fun h => hnl (h ▸ hpre p h1)
          unfold upd; rw [if_neg hpi, if_neg hpi]; exact hxy p h1
        · rw [List.mem_singleton] at h1; subst h1; simp [upd]
      · intro hall
        exact hev (hall (i', e) (by simp))
      · cases e with
        | true =>
          rcases hrd with h1 | h1
          · refine .inl fun p hp => ?_
            rcases List.mem_append.1 hp with h2 | h2
            · exact h1 p h2
            · rw [List.mem_singleton] at h2; subst h2; rfl
          · exact .inr fun j hj hmj hrj => .inl (h1 j hj hmj hrj)
        | false =>
          refine .inr fun j hj hmj hrj => .inl ?_
          have h4 := hc3 (i', false) (hms ▸ by simp)
          simp only [Bool.false_or, List.all_eq_true, List.mem_range, decide_eq_true_eq] at h4
          have h5 := h4.2 j hj
          rw [hmj, hrj] at h5
          exact hanc j (by simpa using h5)
    · -- a floating one
      have hmi' : ms.any (fun p => p.1 == i) = false := Bool.eq_false_iff.2 hmi
      have hf := hfl i o hi (by rw [Nat.zero_add]; exact hmi')
      rw [Nat.zero_add] at hf
      refine hf x W (fun hr => ?_) (depsE_mk fun e he => ?_) K Q' (hK (z i) W trivial ⟨fun j hj hmj hl => ?_, pre, ms', y, hms, fun p hp => .inl (hpre p hp), fun p hp h1 => ?_, hyz, fun p hp => ?_, hchn, hext, hrd.imp (fun h => h) fun h1 j hj hmj hrj => .inl (h1 j hj hmj hrj)⟩)
      · rcases hrd with h1 | h1
        · exact hext h1
        · exact absurd (h1 i hin hmi' hr) hnl
      · have hlt : e.on < n := by have := hlow2 i o hi e he; omega
        have h4 := hc1 i hin
        rw [hmi', ho] at h4
        simp only [Bool.false_or, List.all_eq_true] at h4
        have h5 := h4 e he
        exact hxf _ hlt (by simpa using h5) (depsL_mem hdl e he)
      · by_cases hji : j = i
        · subst hji; simp [upd]
        · unfold upd; rw [if_neg hji]; exact hxf j hj hmj (hl.resolve_right hji)
      · refine h1.elim (hsuf p hp) fun h2 => ?_
        have : ms.any (fun q => q.1 == i) = true := List.any_eq_true.2 ⟨p, hms ▸ by simp [hp], by simp [h2]⟩
        rw [hmi'] at this; cases this
      · have hpi : p.1 ≠ i := fun h2 => by
          have : ms.any (fun q => q.1 == i) = true := List.any_eq_true.2 ⟨p, hms ▸ by simp [hp], by simp [h2]⟩
          rw [hmi'] at this; cases this
        unfold upd; rw [if_neg hpi]; exact hxy p hp
  · intro x W hS _
    obtain ⟨hxf, pre, ms', y, hms, hpre, hsuf, hyz, hxy, hchn, _, _⟩ := hS
    have hnil : ms' = [] := by
      cases ms' with
      | nil => rfl
      | cons p r =>
        have h4 := hc3 p (hms ▸ by simp)
        simp only [decide_eq_true_eq] at h4
        exact absurd h4.1 (hsuf p (by simp))
    subst hnil
    rw [List.append_nil] at hms
    subst hms
    have hxy' : ∀ j, j < n → x j = y j := fun j hj => by
      by_cases hmj : ms.any (fun p => p.1 == j) = true
      · obtain ⟨p, hpm, hpe⟩ := List.any_eq_true.1 hmj
        simp only [beq_iff_eq] at hpe
        rw [← hpe]; exact hxy p hpm
      · have hmj' : ms.any (fun p => p.1 == j) = false := Bool.eq_false_iff.2 hmj
        rw [hyz _ hmj']; exact hxf j hj hmj' hj
    rw [fill_congr' (l.take n) 0 x y a fun j _ hj => hxy' j (by simp at hj; omega)]
    exact hchn
theorem wpIn_region_chain {F : Fence} {n0 : Nat} {P : Program} {id : Nat} {Q : Exit → Act → World → Prop} {a : Act} {w : World} {l : List Oper} (n : Nat) (ms : List (Nat × Bool)) (rs : List Nat) (hm : P.follows .mixedOrders = true) (hB : headB2 l n = true) (hC : chainB2 l n ms rs = true)
    (h : FloatsIn F n0 P l.toArray w (Ext w) (l.take n) (l.drop n) (fun x => fill (l.take n) 0 x a) Q ms rs (l.take n) 0 (fun _ => undef)) :
    (Code.region id l.toArray true).wpIn F n0 P Q a w := wpIn_region_chainG (Ext w) (Ext.drew w) n ms rs hm hB hC h
end Go.Proofs.Pet
namespace Go.Proofs.Pet
open Go Go.RowKit
/-- a fact on the memory w, and the same on a later one -/
class Lift (A : Prop) (w w' : World) (B : outParam Prop) : Prop where
  lift : Ext w w' → A → B
section
variable {w w' : World}
theorem up (he : Ext w w') {A B : Prop} (h : A) [Lift A w w' B] : B := Lift.lift he h
end
end Go.Proofs.Pet
namespace Go.Proofs.Pet
open Go Go.RowKit
def LateOk (P : Program) (ops : Array Oper) (fr : (Nat → Value) → Act) (o : Oper) (y : Nat → Value) (W : World) (v : Value) : Prop :=
  ∀ (x : Nat → Value), DepsE y x (edges o) → ∀ (K : Act → World → Prop) (Q : Exit → Act → World → Prop), K ((fr x).put o.dst v) W → wpList P ops (Exit.then K Q) [o] (fr x) W
def Lates (P : Program) (ops : Array Oper) (tl : List Oper) (fr : (Nat → Value) → Act) (Q : Exit → Act → World → Prop) (ls : List Nat) (W : World) : List Oper → Nat → (Nat → Value) → Prop
  | [], _, y => wpList P ops Q tl (fr y) W
  | o :: l, k, y => if ls.contains k then ∃ v, LateOk P ops fr o y W v ∧ Lates P ops tl fr Q ls W l (k + 1) (upd y k v) else Lates P ops tl fr Q ls W l (k + 1) y
def ChainL (P : Program) (ops : Array Oper) (G : World → Prop) (hd tl : List Oper) (fr : (Nat → Value) → Act) (Q : Exit → Act → World → Prop) (ls : List Nat) : List (Nat × Bool) → (Nat → Value) → World → Prop
  | [], y, W => Lates P ops tl fr Q ls W hd 0 y
  | (k, e) :: ms, y, W => ∀ x, DepsE y x ((hd[k]?.map edges).getD []) → ∀ (K : Act → World → Prop) (Q' : Exit → Act → World → Prop),
      (∀ v W', (e = true → G W') → ChainL P ops G hd tl fr Q ls ms (upd y k v) W' → K ((fr x).put ((hd[k]?.map (·.dst)).getD none) v) W') → wpList P ops (Exit.then K Q') ((hd[k]?.map fun o => [o]).getD []) (fr x) W
def FloatsL (P : Program) (ops : Array Oper) (w : World) (G : World → Prop) (hd tl : List Oper) (fr : (Nat → Value) → Act) (Q : Exit → Act → World → Prop) (ms : List (Nat × Bool)) (rs ls : List Nat) : List Oper → Nat → (Nat → Value) → Prop
  | [], _, y => ∀ W, Ext w W → G W → ChainL P ops G hd tl fr Q ls ms y W
  | o :: l, k, y => if ms.any (fun p => p.1 == k) || ls.contains k then FloatsL P ops w G hd tl fr Q ms rs ls l (k + 1) y else ∃ v, FloatOk P ops G fr (rs.contains k) o y v ∧ FloatsL P ops w G hd tl fr Q ms rs ls l (k + 1) (upd y k v)
/-- all but ms and ls float, those of rs in whatever memory; those of ls come behind all of ms -/
def chainB3 (l : List Oper) (n : Nat) (ms : List (Nat × Bool)) (rs ls : List Nat) : Bool :=
  ((List.range n).all fun k => ms.any (fun p => p.1 == k) || ls.contains k || ((l[k]?.map edges).getD []).all fun e => !(ms.any fun p => p.1 == e.on) && !ls.contains e.on) && chainOrd l ms &&
    (ms.all fun p => decide (p.1 < n) && !ls.contains p.1 && (((l[p.1]?.map edges).getD []).all fun e => !ls.contains e.on) && (p.2 || (List.range n).all fun j => ms.any (fun q => q.1 == j) || rs.contains j || ls.contains j || (anc l p.1).contains j)) &&
    ls.all fun k => ms.all fun p => (anc l k).contains p.1
/-- what is known while such a region goes on -/
def ChainSL (P : Program) (ops : Array Oper) (G : World → Prop) (hd tl : List Oper) (fr : (Nat → Value) → Act) (Q : Exit → Act → World → Prop) (ms : List (Nat × Bool)) (rs ls : List Nat) (n : Nat) (z : Nat → Value) (Ld : Nat → Prop) (x : Nat → Value) (W : World) : Prop :=
  (∀ i, i < n → ms.any (fun p => p.1 == i) = false → ls.contains i = false → Ld i → x i = z i) ∧ ∃ pre ms' y, ms = pre ++ ms' ∧ (∀ p ∈ pre, Ld p.1) ∧ (∀ p ∈ ms', ¬ Ld p.1) ∧ (∀ i, ms.any (fun p => p.1 == i) = false → y i = z i) ∧ (∀ p ∈ pre, x p.1 = y p.1) ∧
    (ms' ≠ [] → (∀ i, ls.contains i = true → ¬ Ld i) ∧ ChainL P ops G hd tl fr Q ls ms' y W) ∧
    (ms' = [] → ∃ z2, (∀ j, ls.contains j = false → z2 j = y j) ∧ (∀ i o, hd[i]? = some o → ls.contains i = true → LateOk P ops fr o z2 W (z2 i)) ∧ wpList P ops Q tl (fr z2) W ∧ ∀ i, ls.contains i = true → Ld i → x i = z2 i) ∧
    ((∀ p ∈ pre, p.2 = true) → G W) ∧ ((∀ p ∈ pre, p.2 = true) ∨ ∀ j, j < n → ms.any (fun p => p.1 == j) = false → rs.contains j = false → ls.contains j = false → Ld j)
end Go.Proofs.Pet
namespace Go.Proofs.Pet
open Go Go.RowKit
/-- which of those that are left may be the next one -/
def en (l : List Oper) (rem : List (Nat × Bool)) : List (Nat × Bool) := rem.filter fun p => rem.all fun q => !((anc l p.1).contains q.1)
def rest (rem : List (Nat × Bool)) (k : Nat) : List (Nat × Bool) := rem.filter fun q => q.1 != k
def isM (ms : List (Nat × Bool)) (k : Nat) : Bool := ms.any fun p => p.1 == k
/-- which floating ones wait for none but the next one -/
def unl (l : List Oper) (n : Nat) (ms rem : List (Nat × Bool)) (k : Nat) : List Nat := (List.range n).filter fun d => !isM ms d && (anc l d).contains k && rem.all fun q => q.1 == k || !((anc l d).contains q.1)
def early (l : List Oper) (ms : List (Nat × Bool)) (d : Nat) : Bool := !isM ms d && ms.all fun q => !((anc l d).contains q.1)
def treeB (l : List Oper) (n : Nat) (ms : List (Nat × Bool)) (rs : List Nat) : Bool :=
  ((List.range n).all fun d => ((l[d]?.map edges).getD []).all fun e => (anc l d).contains e.on && (anc l e.on).all fun j => (anc l d).contains j) &&
    ms.all fun p => decide (p.1 < n) && (p.2 || (List.range n).all fun j => isM ms j || rs.contains j || (anc l p.1).contains j)
/-- floating ones, one by one -/
def Unlock (P : Program) (ops : Array Oper) (G : World → Prop) (hd : List Oper) (fr : (Nat → Value) → Act) (rs : List Nat) (C : (Nat → Value) → Prop) : List Nat → (Nat → Value) → Prop
  | [], y => C y
  | d :: ds, y => ∃ v, (∀ o, hd[d]? = some o → FloatOk P ops G fr (rs.contains d) o y v) ∧ Unlock P ops G hd fr rs C ds (upd y d v)
def Tree (P : Program) (ops : Array Oper) (G : World → Prop) (l : List Oper) (n : Nat) (hd tl : List Oper) (fr : (Nat → Value) → Act) (Q : Exit → Act → World → Prop) (ms : List (Nat × Bool)) (rs : List Nat) : Nat → List (Nat × Bool) → (Nat → Value) → World → Prop
  | 0, rem, y, W => rem = [] → wpList P ops Q tl (fr y) W
  | f + 1, rem, y, W => (rem = [] → wpList P ops Q tl (fr y) W) ∧ ∀ p ∈ en l rem, ∀ x, DepsE y x ((hd[p.1]?.map edges).getD []) → ∀ (K : Act → World → Prop) (Q' : Exit → Act → World → Prop),
      (∀ v W', (p.2 = true → G W') → Unlock P ops G hd fr rs (fun y' => Tree P ops G l n hd tl fr Q ms rs f (rest rem p.1) y' W') (unl l n ms rem p.1) (upd y p.1 v) → K ((fr x).put ((hd[p.1]?.map (·.dst)).getD none) v) W') → wpList P ops (Exit.then K Q') ((hd[p.1]?.map fun o => [o]).getD []) (fr x) W
/-- the goals of those that may be next -/
def TSteps (P : Program) (ops : Array Oper) (G : World → Prop) (l : List Oper) (n : Nat) (hd tl : List Oper) (fr : (Nat → Value) → Act) (Q : Exit → Act → World → Prop) (ms : List (Nat × Bool)) (rs : List Nat) (f : Nat) (rem : List (Nat × Bool)) (y : Nat → Value) (W : World) : List (Nat × Bool) → Prop
  | [] => True
  | p :: r => (∀ x, DepsE y x ((hd[p.1]?.map edges).getD []) → ∀ (K : Act → World → Prop) (Q' : Exit → Act → World → Prop),
      (∀ v W', (p.2 = true → G W') → Unlock P ops G hd fr rs (fun y' => Tree P ops G l n hd tl fr Q ms rs f (rest rem p.1) y' W') (unl l n ms rem p.1) (upd y p.1 v) → K ((fr x).put ((hd[p.1]?.map (·.dst)).getD none) v) W') → wpList P ops (Exit.then K Q') ((hd[p.1]?.map fun o => [o]).getD []) (fr x) W) ∧ TSteps P ops G l n hd tl fr Q ms rs f rem y W r
section
variable {P : Program} {ops : Array Oper} {w : World} {G : World → Prop} {hd tl : List Oper} {fr : (Nat → Value) → Act} {Q : Exit → Act → World → Prop} {ms : List (Nat × Bool)} {rs : List Nat} {l : List Oper} {n : Nat} {o : Oper} {k : Nat} {y : Nat → Value} {e : Bool} {W : World} {C : (Nat → Value) → Prop}
theorem Unlock.of {ds ds' : List Nat} (h : ds' = ds) (p : Unlock P ops G hd fr rs C ds y) : Unlock P ops G hd fr rs C ds' y := h ▸ p
theorem Unlock.nil (h : C y) : Unlock P ops G hd fr rs C [] y := h
theorem Unlock.float {d : Nat} {ds : List Nat} {v : Value} (ho : hd[d]? = some o) (hf : FloatOk P ops G fr (rs.contains d) o y v) (h : Unlock P ops G hd fr rs C ds (upd y d v)) : Unlock P ops G hd fr rs C (d :: ds) y :=
  ⟨v, fun o' ho' => by rw [ho] at ho'; cases ho'; exact hf, h⟩
theorem FloatOk.congr {y' : Nat → Value} {reg : Bool} {v : Value} (hf : FloatOk P ops G fr reg o y v) (h : ∀ e ∈ edges o, y' e.on = y e.on) : FloatOk P ops G fr reg o y' v :=
  fun x W he hd K Q hK => hf x W he (DepsE.congr h hd) K Q hK
theorem Unlock.split : ∀ (ds : List Nat) (y : Nat → Value), ds.Pairwise (· < ·) → (∀ d o, hd[d]? = some o → ∀ e ∈ edges o, e.on < d) → Unlock P ops G hd fr rs C ds y →
    ∃ y', (∀ j, j ∉ ds → y' j = y j) ∧ (∀ d o, d ∈ ds → hd[d]? = some o → FloatOk P ops G fr (rs.contains d) o y' (y' d)) ∧ C y'
  | [], y, _, _, h => ⟨y, fun _ _ => rfl, fun _ _ hd => by simp at hd, h⟩
  | d :: ds, y, hp, hlow, ⟨v, hv, h⟩ => by
    obtain ⟨hp1, hp2⟩ := List.pairwise_cons.1 hp
    obtain ⟨y', h1, h2, h3⟩ := Unlock.split ds _ hp2 hlow h
    have hd' : d ∉ ds := fun h => absurd (hp1 d h) (by omega)
    refine ⟨y', fun j hj => ?_, fun d' o hd ho => ?_, h3⟩
    · rw [List.mem_cons, not_or] at hj
      rw [h1 j hj.2]; unfold upd; rw [if_neg hj.1]
    · rcases List.mem_cons.1 hd with e | e
      · subst e
        have e1 : y' d' = v := by rw [h1 d' hd']; simp [upd]
        rw [e1]
        refine (hv o ho).congr fun e he => ?_
        have hlt := hlow d' o ho e he
        rw [h1 e.on fun h => by have := hp1 _ h; omega]
        unfold upd; rw [if_neg (by omega)]
      · exact h2 d' o e ho
theorem TSteps.mem {f : Nat} {rem : List (Nat × Bool)} : ∀ {r : List (Nat × Bool)}, TSteps P ops G l n hd tl fr Q ms rs f rem y W r → ∀ p ∈ r, ∀ x, DepsE y x ((hd[p.1]?.map edges).getD []) → ∀ (K : Act → World → Prop) (Q' : Exit → Act → World → Prop),
      (∀ v W', (p.2 = true → G W') → Unlock P ops G hd fr rs (fun y' => Tree P ops G l n hd tl fr Q ms rs f (rest rem p.1) y' W') (unl l n ms rem p.1) (upd y p.1 v) → K ((fr x).put ((hd[p.1]?.map (·.dst)).getD none) v) W') → wpList P ops (Exit.then K Q') ((hd[p.1]?.map fun o => [o]).getD []) (fr x) W
  | _ :: _, h, p, hp => by
    rcases List.mem_cons.1 hp with h1 | h1
    · subst h1; exact h.1
    · exact TSteps.mem h.2 p h1
theorem Tree.next {f : Nat} {rem ks : List (Nat × Bool)} (hk : (rem.isEmpty, en l rem) = (false, ks)) (h : TSteps P ops G l n hd tl fr Q ms rs f rem y W ks) : Tree P ops G l n hd tl fr Q ms rs (f + 1) rem y W := by
  simp only [Prod.mk.injEq] at hk
  refine ⟨fun e => ?_, fun p hp => ?_⟩
  · rw [e] at hk; exact absurd hk.1 (by decide)
  · rw [hk.2] at hp
    exact TSteps.mem h p hp
theorem TSteps.cons {f : Nat} {rem r : List (Nat × Bool)} (o : Oper) (ho : hd[k]? = some o) (h : ∀ x, DepsE y x (edges o) → ∀ (K : Act → World → Prop) (Q' : Exit → Act → World → Prop),
      (∀ v W', (e = true → G W') → Unlock P ops G hd fr rs (fun y' => Tree P ops G l n hd tl fr Q ms rs f (rest rem k) y' W') (unl l n ms rem k) (upd y k v) → K ((fr x).put o.dst v) W') → wpList P ops (Exit.then K Q') [o] (fr x) W) (hr : TSteps P ops G l n hd tl fr Q ms rs f rem y W r) : TSteps P ops G l n hd tl fr Q ms rs f rem y W ((k, e) :: r) := by
  refine ⟨?_, hr⟩
  simp only [ho]
  exact h
theorem Tree.nil {f : Nat} {rem : List (Nat × Bool)} (hk : rem = []) (h : wpList P ops Q tl (fr y) W) : Tree P ops G l n hd tl fr Q ms rs f rem y W := by
  subst hk
  cases f with
  | zero => exact fun _ => h
  | succ f => exact ⟨fun _ => h, fun p hp => by simp [en] at hp⟩
/-- where ways meet again -/
theorem Tree.cut {f f' : Nat} {rem rem' : List (Nat × Bool)} (R : (Nat → Value) → (Nat → Value) → World → Prop) (h : ∀ y' W', R y y' W' → Tree P ops G l n hd tl fr Q ms rs f' rem' y' W')
    (k : (∀ y' W', R y y' W' → Tree P ops G l n hd tl fr Q ms rs f' rem' y' W') → Tree P ops G l n hd tl fr Q ms rs f rem y W) : Tree P ops G l n hd tl fr Q ms rs f rem y W := k h
theorem Tree.eq {f : Nat} {rem rem' : List (Nat × Bool)} (h : rem = rem') (p : Tree P ops G l n hd tl fr Q ms rs f rem' y W) : Tree P ops G l n hd tl fr Q ms rs f rem y W := h ▸ p
end
theorem upd_comm {y : Nat → Value} {a b : Nat} {u v : Value} (h : a ≠ b) : upd (upd y a u) b v = upd (upd y b v) a u := by
  funext j
  unfold upd
  by_cases h1 : j = b
  · subst h1; rw [if_pos rfl, if_neg (fun e => h e.symm), if_pos rfl]
  · rw [if_neg h1, if_neg h1]
/-- what is known while such a region goes on -/
def TreeS (P : Program) (ops : Array Oper) (G : World → Prop) (l : List Oper) (n : Nat) (hd tl : List Oper) (fr : (Nat → Value) → Act) (Q : Exit → Act → World → Prop) (ms : List (Nat × Bool)) (rs : List Nat) (Ld : Nat → Prop) (x : Nat → Value) (W : World) : Prop :=
  ∃ f rem y, rem.length ≤ f ∧ (∀ p ∈ rem, p ∈ ms) ∧ (∀ p ∈ ms, p ∈ rem ∨ Ld p.1) ∧ (∀ p ∈ rem, ¬ Ld p.1) ∧
    (∀ d o, hd[d]? = some o → isM ms d = false → (∀ q ∈ rem, (anc l d).contains q.1 = false) → FloatOk P ops G fr (rs.contains d) o y (y d)) ∧
    (∀ j, j < n → Ld j → x j = y j) ∧
    Tree P ops G l n hd tl fr Q ms rs f rem y W ∧ ((∀ p ∈ ms, Ld p.1 → p.2 = true) → G W) ∧ ((∀ p ∈ ms, Ld p.1 → p.2 = true) ∨ ∀ j, j < n → isM ms j = false → rs.contains j = false → Ld j)
theorem filter_len_lt {α : Type} {p : α → Bool} : ∀ {l : List α} {a : α}, a ∈ l → p a = false → (l.filter p).length < l.length
  | b :: l, a, h, hp => by
    rcases List.mem_cons.1 h with h1 | h1
    · subst h1
      rw [List.filter_cons_of_neg (by simp [hp])]
      have := List.length_filter_le p l
      simp only [List.length_cons]; omega
    · have := filter_len_lt h1 hp
      by_cases hb : p b = true
      · rw [List.filter_cons_of_pos hb]; simp only [List.length_cons]; omega
      · rw [List.filter_cons_of_neg hb]; simp only [List.length_cons]; omega
theorem isM_ne {ms : List (Nat × Bool)} {i : Nat} (h : isM ms i = false) {p : Nat × Bool} (hp : p ∈ ms) : p.1 ≠ i := fun h2 => by
  have : isM ms i = true := List.any_eq_true.2 ⟨p, hp, by simp [h2]⟩
  rw [h] at this; cases this
theorem wp_region_treeG {P : Program} {id : Nat} {Q : Exit → Act → World → Prop} {a : Act} {w : World} {l : List Oper} (G : World → Prop) (hG : G w.drew) (n : Nat) (ms : List (Nat × Bool)) (rs : List Nat) (hm : P.follows .mixedOrders = true) (hB : headB2 l n = true) (hC : treeB l n ms rs = true) {ds : List Nat} (hds : (List.range n).filter (early l ms) = ds)
    (h : Unlock P l.toArray G (l.take n) (fun x => fill (l.take n) 0 x a) rs (fun y => ∀ W, Ext w W → G W → Tree P l.toArray G l n (l.take n) (l.drop n) (fun x => fill (l.take n) 0 x a) Q ms rs ms.length ms y W) ds (fun _ => undef)) :
    (Code.region id l.toArray true).wp P Q a w := by
  have hB' := hB
  simp only [headB2, Bool.and_eq_true, decide_eq_true_eq, Bool.or_eq_true, List.all_eq_true, List.mem_range] at hB'
  obtain ⟨⟨⟨⟨hn, hdist⟩, _⟩, _⟩, hlow⟩ := hB'
  have htk : ∀ i o, (l.take n)[i]? = some o → i < n ∧ l[i]? = some o := fun i o hi => by
    have hin : i < n := by have := (List.getElem?_eq_some_iff.1 hi).1; simp at this; omega
    exact ⟨hin, by rw [List.getElem?_take] at hi; simpa [hin] using hi⟩
  have hlow2 : ∀ i o, (l.take n)[i]? = some o → ∀ e ∈ edges o, e.on < i := fun i o hi e he => by
    obtain ⟨hin, ho⟩ := htk i o hi
    have h1 := hlow i hin
    rw [ho] at h1
    obtain ⟨he, hbe⟩ := List.mem_filter.1 he
    have h2 := Array.all_eq_true'.1 h1 e (by simpa using he)
    simp only [hbe, Bool.not_true, Bool.false_or, decide_eq_true_eq] at h2
    omega
  have hpw : ∀ p : Nat → Bool, ((List.range n).filter p).Pairwise (· < ·) := fun p => List.Pairwise.filter _ List.pairwise_lt_range
  obtain ⟨y0, _, hfl, hch⟩ := Unlock.split ds _ (hds ▸ hpw _) hlow2 h
  simp only [treeB, Bool.and_eq_true, List.all_eq_true, List.mem_range] at hC
  obtain ⟨hc1, hc3⟩ := hC
  have htr : ∀ d o, (l.take n)[d]? = some o → ∀ e ∈ edges o, (anc l d).contains e.on = true ∧ ∀ j, (anc l e.on).contains j = true → (anc l d).contains j = true := fun d o hd e he => by
    obtain ⟨hin, ho⟩ := htk d o hd
    have h1 := hc1 d hin
    rw [ho] at h1
    simp only [Option.map_some, Option.getD_some] at h1
    obtain ⟨h2, h3⟩ := h1 e he
    exact ⟨h2, fun j hj => h3 j (by simpa using hj)⟩
  refine wp_region_stage n hm hB (TreeS P l.toArray G l n (l.take n) (l.drop n) (fun x => fill (l.take n) 0 x a) Q ms rs) (fun _ _ => True)
    (fun x => ⟨ms.length, ms, y0, Nat.le_refl _, fun _ h => h, fun p hp => .inl hp, fun p _ h => h, fun d o hd hmd hq => hfl d o ?_ hd, fun p _ h => h.elim, hch _ (Ext.drew w) hG, fun _ => hG, .inl fun p _ h => h.elim⟩) ?_ ?_
  · rw [← hds]
    refine List.mem_filter.2 ⟨List.mem_range.2 (htk d o hd).1, ?_⟩
    unfold early
    rw [hmd, Bool.not_false, Bool.true_and, List.all_eq_true]
    intro q hq'
    rw [hq q hq']; rfl
  · refine allOps3_mk (l.take n) 0 fun i o hi Ld x W hS hcl hnl hdl _ K Q' hK => ?_
    rw [Nat.zero_add] at hnl hK
    obtain ⟨hin, ho⟩ := htk i o hi
    obtain ⟨f, rem, y, hlen, hsub, hdone, hsuf, hfo, hxy, hchn, hext, hrd⟩ := hS
    have hanc : ∀ j, (anc l i).contains j = true → Ld j := fun j hj => by
      unfold anc at hj
      rw [ho] at hj
      refine closeB_ok (l := l) (n := n) hcl (by omega) ?_ j hj
      intro j hj
      simp only [Option.map_some, Option.getD_some, List.mem_map] at hj
      obtain ⟨e, he, rfl⟩ := hj
      exact depsL_mem hdl e he
    have hdepE : DepsE y x (edges o) := depsE_mk fun e he => hxy _ (by have := hlow2 i o hi e he; omega) (depsL_mem hdl e he)
    by_cases hmi : isM ms i = true
    · obtain ⟨⟨i', e⟩, hp, hpi⟩ := List.any_eq_true.1 hmi
      simp only [beq_iff_eq] at hpi
      subst hpi
      have hps : (i', e) ∈ rem := (hdone _ hp).resolve_right hnl
      have hen : (i', e) ∈ en l rem := by
        refine List.mem_filter.2 ⟨hps, List.all_eq_true.2 fun q hq => ?_⟩
        rw [Bool.not_eq_true']
        exact Bool.eq_false_iff.2 fun h1 => hsuf q hq (hanc _ h1)
      have hdeps : DepsE y x ((((l.take n)[i']?).map edges).getD []) := by rw [hi]; exact hdepE
      obtain ⟨f, rfl⟩ : ∃ g, f = g + 1 := by
        cases f with
        | zero => exact absurd hps (by rw [List.length_eq_zero_iff.1 (by omega : rem.length = 0)]; simp)
        | succ g => exact ⟨g, rfl⟩
      have hrun := hchn.2 _ hen x hdeps K Q'
      rw [hi] at hrun
      simp only [Option.map_some, Option.getD_some] at hrun
      refine hrun fun v W' hev hrest => hK v W' trivial ?_
      obtain ⟨y', u1, u2, u3⟩ := Unlock.split (unl l n ms rem i') _ (hpw _) hlow2 hrest
      have hds : ∀ d, d ∈ unl l n ms rem i' ↔ d < n ∧ isM ms d = false ∧ (anc l d).contains i' = true ∧ ∀ q ∈ rem, q.1 = i' ∨ (anc l d).contains q.1 = false := fun d => by
        unfold unl
        rw [List.mem_filter, List.mem_range]
        simp only [Bool.and_eq_true, Bool.not_eq_true', List.all_eq_true, Bool.or_eq_true, beq_iff_eq, and_assoc]
      -- what was known stays
      have hold : ∀ j, j ≠ i' → ((anc l j).contains i' = false ∨ isM ms j = true) → y' j = y j := fun j hne hj => by
        rw [u1 j fun h => ?_]
        · unfold upd; rw [if_neg hne]
        · obtain ⟨_, h2, h3, _⟩ := (hds j).1 h
          rcases hj with hj | hj
          · rw [hj] at h3; cases h3
          · rw [hj] at h2; cases h2
      have hi'' : y' i' = v := by
        rw [u1 i' fun h => ?_]
        · simp [upd]
        · obtain ⟨_, h2, _⟩ := (hds i').1 h
          rw [hmi] at h2; cases h2
      refine ⟨f, rest rem i', y', ?_, ?_, ?_, ?_, ?_, ?_, u3, ?_, ?_⟩
      · have : (rest rem i').length < rem.length := filter_len_lt hps (by simp)
        omega
      · exact fun p hp => hsub p (List.mem_filter.1 hp).1
      · intro p hp
        by_cases h1 : p.1 = i'
        · exact .inr (.inr h1)
        · rcases hdone p hp with h2 | h2
          · exact .inl (List.mem_filter.2 ⟨h2, by simpa using h1⟩)
          · exact .inr (.inl h2)
      · intro p hp h1
        obtain ⟨h2, h3⟩ := List.mem_filter.1 hp
        exact h1.elim (hsuf p h2) (by simpa using h3)
      · intro d od hd hmd hq
        have hq' : ∀ q ∈ rem, q.1 = i' ∨ (anc l d).contains q.1 = false := fun q hqr => by
          by_cases h1 : q.1 = i'
          · exact .inl h1
          · exact .inr (hq q (List.mem_filter.2 ⟨hqr, by simpa using h1⟩))
        cases hci : (anc l d).contains i' with
        | true => exact u2 d od ((hds d).2 ⟨(htk d od hd).1, hmd, hci, hq'⟩) hd
        | false =>
          have hne : d ≠ i' := fun h => by subst h; rw [hmd] at hmi; cases hmi
          rw [hold d hne (.inl hci)]
          refine (hfo d od hd hmd fun q hqr => ?_).congr fun e he => ?_
          · rcases hq' q hqr with h1 | h1
            · rw [h1]; exact hci
            · exact h1
          · obtain ⟨h1, h2⟩ := htr d od hd e he
            refine hold e.on (fun h => ?_) (.inl ?_)
            · rw [h, hci] at h1; cases h1
            · cases h3 : (anc l e.on).contains i' with
              | false => rfl
              | true => rw [h2 _ h3] at hci; cases hci
      · intro j hj hl
        by_cases hji : j = i'
        · subst hji; rw [hi'']; simp [upd]
        · have hl' := hl.resolve_right hji
          have h1 : y' j = y j := by
            cases hmj : isM ms j with
            | true => exact hold j hji (.inr hmj)
            | false =>
              refine hold j hji (.inl ?_)
              cases h3 : (anc l j).contains i' with
              | false => rfl
              | true =>
                exfalso
                have : Ld i' := by
                  cases hoj : l[j]? with
                  | none => rw [show anc l j = closeB l j [] by unfold anc; rw [hoj]; rfl] at h3; exact closeB_ok (l := l) (n := n) hcl (by omega) (fun j hj => by simp at hj) _ h3
                  | some oj =>
                    have hdj := hcl.at_ _ _ j oj (by rw [List.getElem?_take]; simp [hj, hoj]) (by rw [Nat.zero_add]; exact hl')
                    unfold anc at h3
                    rw [hoj] at h3
                    refine closeB_ok (l := l) (n := n) hcl (by omega) ?_ _ h3
                    intro j' hj'
                    simp only [Option.map_some, Option.getD_some, List.mem_map] at hj'
                    obtain ⟨e, he, rfl⟩ := hj'
                    exact depsL_mem hdj e he
                exact hnl this
          rw [h1]; unfold upd; rw [if_neg hji]
          exact hxy j hj hl'
      · intro hall
        exact hev (hall (i', e) hp (.inr rfl))
      · have hF : ∀ p ∈ ms, p.1 = i' → p.2 = false → ∀ j, j < n → isM ms j = false → rs.contains j = false → Ld j := fun p h6 h7 h8 j hj hmj hrj => by
          have h4 := hc3 p h6
          simp only [h8, Bool.false_or, List.all_eq_true, List.mem_range, decide_eq_true_eq] at h4
          have h9 := h4.2 j hj
          rw [hmj, hrj, h7] at h9
          exact hanc j (by simpa using h9)
        rcases hrd with h1 | h1
        · by_cases h5 : ∃ p ∈ ms, p.1 = i' ∧ p.2 = false
          · obtain ⟨p, h6, h7, h8⟩ := h5
            exact .inr fun j hj hmj hrj => .inl (hF p h6 h7 h8 j hj hmj hrj)
          · refine .inl fun p hp hl => ?_
            rcases hl with h2 | h2
            · exact h1 p hp h2
            · cases h3 : p.2 with
              | true => rfl
              | false => exact absurd ⟨p, hp, h2, h3⟩ h5
        · exact .inr fun j hj hmj hrj => .inl (h1 j hj hmj hrj)
    · have hmi' : isM ms i = false := Bool.eq_false_iff.2 hmi
      have hne : ∀ p ∈ ms, p.1 ≠ i := fun p hp => isM_ne hmi' hp
      have hf := hfo i o hi hmi' fun q hq => by
        cases h3 : (anc l i).contains q.1 with
        | false => rfl
        | true => exact absurd (hanc _ h3) (hsuf q hq)
      refine hf x W (fun hr => ?_) hdepE K Q' (hK (y i) W trivial ⟨f, rem, y, hlen, hsub, fun p hp => (hdone p hp).imp (fun h => h) .inl, fun p hp h1 => h1.elim (hsuf p hp) (hne p (hsub p hp)), hfo, fun j hj hl => ?_, hchn, fun hall => hext fun p hp hl => hall p hp (.inl hl), ?_⟩)
      · rcases hrd with h1 | h1
        · exact hext h1
        · exact absurd (h1 i hin hmi' hr) hnl
      · by_cases hji : j = i
        · subst hji; simp [upd]
        · unfold upd; rw [if_neg hji]; exact hxy j hj (hl.resolve_right hji)
      · rcases hrd with h1 | h1
        · exact .inl fun p hp hl => h1 p hp (hl.resolve_right (hne p hp))
        · exact .inr fun j hj hmj hrj => .inl (h1 j hj hmj hrj)
  · intro x W hS _
    obtain ⟨f, rem, y, hlen, hsub, hdone, hsuf, hfo, hxy, hchn, _, _⟩ := hS
    have hlt : ∀ p ∈ ms, p.1 < n := fun p hp => by
      have h4 := hc3 p hp
      simp only [decide_eq_true_eq] at h4
      exact h4.1
    have hnil : rem = [] := by
      cases rem with
      | nil => rfl
      | cons p r => exact absurd (hlt p (hsub p (by simp))) (hsuf p (by simp))
    subst hnil
    rw [fill_congr' (l.take n) 0 x y a fun j _ hj => hxy j (by simp at hj; omega) (by simp at hj; omega)]
    cases f with
    | zero => exact hchn rfl
    | succ f => exact hchn.1 rfl
theorem wp_region_tree {P : Program} {id : Nat} {Q : Exit → Act → World → Prop} {a : Act} {w : World} {l : List Oper} (n : Nat) (ms : List (Nat × Bool)) (rs : List Nat) (hm : P.follows .mixedOrders = true) (hB : headB2 l n = true) (hC : treeB l n ms rs = true) {ds : List Nat} (hds : (List.range n).filter (early l ms) = ds)
    (h : Unlock P l.toArray (Ext w) (l.take n) (fun x => fill (l.take n) 0 x a) rs (fun y => ∀ W, Ext w W → Ext w W → Tree P l.toArray (Ext w) l n (l.take n) (l.drop n) (fun x => fill (l.take n) 0 x a) Q ms rs ms.length ms y W) ds (fun _ => undef)) :
    (Code.region id l.toArray true).wp P Q a w := wp_region_treeG (Ext w) (Ext.drew w) n ms rs hm hB hC hds h
end Go.Proofs.Pet
namespace Go.Proofs.Pet
open Go
theorem ints_mem {l : List Nat} {x : Int} : x ∈ ints l ↔ ∃ k, k ∈ l ∧ (k : Int) = x := by unfold ints; exact List.mem_map
theorem rising_snoc {l : List Int} {x : Int} (h : risingB l = true) (hx : ∀ y, y ∈ l → y < x) : risingB (l ++ [x]) = true := by
  rw [risingB_iff] at h ⊢
  intro i h1 h2
  rw [List.length_append, List.length_singleton] at h2
  rcases Nat.lt_or_ge i l.length with g | g
  · rw [List.getElem?_append_left (by omega), List.getElem?_append_left g]
    exact h i h1 g
  · have : i = l.length := by omega
    subst this
    rw [List.getElem?_append_left (by omega), List.getElem?_append_right (Nat.le_refl _), Nat.sub_self]
    have hlt : l.length - 1 < l.length := by omega
    rw [List.getElem?_eq_getElem hlt]
    exact hx _ (List.getElem_mem hlt)
end Go.Proofs.Pet
namespace Go.Proofs.Pet
open Go Go.RowKit Go.Maps Go.Shelf
theorem OwnI.apartB {w W : World} {base b : Nat} {e : TypeId} {v : Value} {xs : List Int} (h : OwnI w base e v xs) (hb : b < base) (ha : Apart b w W) : OwnI W base e v xs :=
  h.apart (fun e => by have := (h.own_lt b e).1; omega) ha
theorem ownsRow_own {w : World} {base size n : Nat} {e : TypeId} {v : Value} {xs : List Value} (h : w.ownsRow base e size v n xs) (j : Nat) (hj : v.ownBlock = some j) : base ≤ j ∧ j < w.heap.size := by
  rcases h.2 with ⟨rfl, _⟩ | ⟨g, cap, cur, rfl, hg, hb, _⟩
  · cases hj
  · have : g = j := Option.some.inj hj
    subst this
    exact ⟨hg, (Array.getElem?_eq_some_iff.1 hb).1⟩
/-- a store into a block of another type -/
theorem OwnI.far {w : World} {base g : Nat} {t : TypeId} {cs : Array Value} {u : Value} {xs : List Int} (h : OwnI w base 3 u xs) (hb : Blk w g t cs) (hne : t ≠ 3) (i : Nat) (v : Value) : OwnI (w.setCell ⟨g, i, none⟩ v) base 3 u xs :=
  h.apart (fun e => h.ne_blk hb hne e.symm) ((Apart.refl g w).set_ i v)
/-- a row of another type grows -/
theorem OwnI.grownT {w w' : World} {base base' size n : Nat} {e : TypeId} {u v : Value} {xs : List Int} {vs : List Value} (h : OwnI w base 3 u xs) (hne : e ≠ 3) (hg : w.grownBy w' v.ownBlock) (hv : w.ownsRow base' e size v n vs) : OwnI w' base 3 u xs := by
  obtain ⟨h1, h2⟩ := h
  refine ⟨h1, ?_⟩
  rcases h2 with h2 | ⟨g, cap, cur, rfl, hg1, hb, r⟩
  · exact .inl h2
  · refine .inr ⟨g, cap, cur, rfl, hg1, ?_, r⟩
    rw [← hb]
    refine hg.block g (Array.getElem?_eq_some_iff.1 hb).1 fun e' => ?_
    exact ownsRow_ne_blk hv (show Blk w g 3 cur from hb) (fun h => hne h.symm) e'
/-- two rows of ints apart, of which one grows -/
theorem OwnI.grownI {w w' : World} {base base' n : Nat} {u v : Value} {xs : List Int} {vs : List Value} (h : OwnI w base 3 u xs) (hg : w.grownBy w' v.ownBlock) (_hv : w.ownsRow base' 3 1 v n vs) (hne : ∀ g, u.ownBlock = some g → v.ownBlock ≠ some g) : OwnI w' base 3 u xs := by
  obtain ⟨h1, h2⟩ := h
  refine ⟨h1, ?_⟩
  rcases h2 with h2 | ⟨g, cap, cur, rfl, hg1, hb, r⟩
  · exact .inl h2
  · refine .inr ⟨g, cap, cur, rfl, hg1, ?_, r⟩
    rw [← hb]
    exact hg.block g (Array.getElem?_eq_some_iff.1 hb).1 fun e' => hne g rfl e'.symm
end Go.Proofs.Pet
namespace Go.Proofs.Pet
open Go Go.RowKit Go.Maps Go.Shelf Go.Sort
/-- the values of some numbers below n -/
def vals {n : Nat} (xs : List (Fin n)) : List Int := xs.map fun k => (k.val : Int)
end Go.Proofs.Pet
namespace Go.Proofs.Pet
open Go Go.ChangeShapes Go.WideShapes Go.ChangeAt Go.RowKit
theorem ownKnob_ : ownKnob Try.prog.godebug = none := by kernel_rfl
theorem laidOut_ : laidOutB Try.prog = true := by kernel_rfl
end Go.Proofs.Pet
