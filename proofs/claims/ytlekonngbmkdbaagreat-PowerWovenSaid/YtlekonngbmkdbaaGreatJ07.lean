/- Joined texts: V1, V4, V5, UA, V2, QA, OA, O0, O1. -/
import Derived.Test.YtlekonngbmkdbaaGreatJ01
import Derived.Test.YtlekonngbmkdbaaGreatJ06
namespace Go.Proofs.Pet
open Go Go.RowKit

/-- a fact on the memory w, and the same on a later one -/
class Lift (A : Prop) (w w' : World) (B : outParam Prop) : Prop where
  lift : Ext w w' → A → B
section
variable {w w' : World}
theorem up (he : Ext w w') {A B : Prop} (h : A) [Lift A w w' B] : B := Lift.lift he h
instance (priority := low) {A : Prop} : Lift A w w' A := ⟨fun _ h => h⟩
instance {w0 : World} : Lift (Ext w0 w) w w' (Ext w0 w') := ⟨fun he h => h.trans he⟩
instance {p : Addr} {v : Value} : Lift (w.cell? p = some v) w w' (w'.cell? p = some v) := ⟨fun he h => he.cell h⟩
instance {A B A' B' : Prop} [Lift A w w' A'] [Lift B w w' B'] : Lift (A ∧ B) w w' (A' ∧ B') := ⟨fun he h => ⟨Lift.lift he h.1, Lift.lift he h.2⟩⟩
instance {A A' : Prop} [Lift A w w' A'] : Lift (Hid A) w w' (Hid A') := ⟨fun he h => Lib.hid (Lift.lift he h.out)⟩
instance {α : Sort _} {A B : α → Prop} [∀ x, Lift (A x) w w' (B x)] : Lift (∃ x, A x) w w' (∃ x, B x) := ⟨fun he ⟨x, h⟩ => ⟨x, Lift.lift he h⟩⟩
instance {α : Sort _} {A B : α → Prop} [∀ x, Lift (A x) w w' (B x)] : Lift (∀ x, A x) w w' (∀ x, B x) := ⟨fun he h x => Lift.lift he (h x)⟩
instance {g : Nat} {t : TypeId} {cs : Array Value} : Lift (Blk w g t cs) w w' (Blk w' g t cs) := ⟨fun he h => h.ext he⟩
instance {A : Option Addr} {xs : List Int} : Lift (IntsAt w A xs) w w' (IntsAt w' A xs) := ⟨fun he h => h.ext he⟩
instance {A : Option Addr} {xs : List Ord} : Lift (OrdsAt w A xs) w w' (OrdsAt w' A xs) := ⟨fun he h => h.ext he⟩
instance {v : Value} {x : Ord} : Lift (OrdVal w v x) w w' (OrdVal w' v x) := ⟨fun he h => h.ext he⟩
instance {v : Value} {m : Mill} : Lift (MillVal w v m) w w' (MillVal w' v m) := ⟨fun he h => h.ext he⟩
instance {S : Nat → Prop} {v : Value} {m : Mill} : Lift (MillValS S w v m) w w' (MillValS S w' v m) := ⟨fun he h => h.ext he⟩
instance {b : Nat} {e : TypeId} {v : Value} {xs : List Int} : Lift (OwnI w b e v xs) w w' (OwnI w' b e v xs) := ⟨fun he h => h.ext he⟩
instance {b : Nat} {e : TypeId} {v : Value} {xs : List Ord} : Lift (OwnO w b e v xs) w w' (OwnO w' b e v xs) := ⟨fun he h => h.ext he⟩
instance {b : Nat} {v : Value} {xs : List (List Int)} : Lift (OwnR w b v xs) w w' (OwnR w' b v xs) := ⟨fun he h => h.ext he⟩
instance {v : Value} {xs : List (List Int)} : Lift (RowsI w v xs) w w' (RowsI w' v xs) := ⟨fun he h => h.ext he⟩
instance {v : Value} {xs : List Int} : Lift (SlI w v xs) w w' (SlI w' v xs) := ⟨fun he h => h.ext he⟩
instance {b N : Nat} {f : Nat → Int} : Lift (Row w b N f) w w' (Row w' b N f) := ⟨fun he h => h.ext he⟩
instance {D : Nat} {m : Mill} : Lift (Desk w D m) w w' (Desk w' D m) := ⟨fun he h => h.ext he⟩
instance {B : Nat} {f : Nat → Nat → Nat → Int} : Lift (CostsAt w B f) w w' (CostsAt w' B f) := ⟨fun he h => h.ext he⟩
instance {b : Nat} {e : TypeId} {s : Nat} {v : Value} {n : Nat} {xs : List Value} : Lift (w.ownsRow b e s v n xs) w w' (w'.ownsRow b e s v n xs) := ⟨fun he h => ownsRow_ext2 h he⟩
end
example {w w1 w2 : World} {v : Value} {m : Mill} (he : Ext w1 w2) (h : Ext w w1 ∧ MillVal w1 v m ∧ w1.cell? ⟨3, 0, none⟩ = some v ∧ Hid (∃ b, Blk w1 b 3 #[])) : True := by
  replace h := up he h
  have : MillVal w2 v m := h.2.1
  trivial
end Go.Proofs.Pet

namespace Go.Proofs.Pet
open Go Go.RowKit

def LateOk (P : Program) (ops : Array Oper) (fr : (Nat → Value) → Act) (o : Oper) (y : Nat → Value) (W : World) (v : Value) : Prop :=
  ∀ (x : Nat → Value), DepsE y x (edges o) → ∀ (K : Act → World → Prop) (Q : Exit → Act → World → Prop), K ((fr x).put o.dst v) W → wpList P ops (Exit.then K Q) [o] (fr x) W
def Lates (P : Program) (ops : Array Oper) (tl : List Oper) (fr : (Nat → Value) → Act) (Q : Exit → Act → World → Prop) (ls : List Nat) (W : World) : List Oper → Nat → (Nat → Value) → Prop
  | [], _, y => wpList P ops Q tl (fr y) W
  | o :: l, k, y => if ls.contains k then ∃ v, LateOk P ops fr o y W v ∧ Lates P ops tl fr Q ls W l (k + 1) (upd y k v) else Lates P ops tl fr Q ls W l (k + 1) y
def ChainL (P : Program) (ops : Array Oper) (G : World → Prop) (hd tl : List Oper) (fr : (Nat → Value) → Act) (Q : Exit → Act → World → Prop) (ls : List Nat) : List (Nat × Bool) → (Nat → Value) → World → Prop
  | [], y, W => Lates P ops tl fr Q ls W hd 0 y
  | (k, e) :: ms, y, W => ∀ x, DepsE y x ((hd[k]?.map edges).getD []) → ∀ (K : Act → World → Prop) (Q' : Exit → Act → World → Prop),
      (∀ v W', (e = true → G W') → ChainL P ops G hd tl fr Q ls ms (upd y k v) W' → K ((fr x).put ((hd[k]?.map (·.dst)).getD none) v) W') → wpList P ops (Exit.then K Q') ((hd[k]?.map fun o => [o]).getD []) (fr x) W
def FloatsL (P : Program) (ops : Array Oper) (w : World) (G : World → Prop) (hd tl : List Oper) (fr : (Nat → Value) → Act) (Q : Exit → Act → World → Prop) (ms : List (Nat × Bool)) (rs ls : List Nat) : List Oper → Nat → (Nat → Value) → Prop
  | [], _, y => ∀ W, Ext w W → G W → ChainL P ops G hd tl fr Q ls ms y W
  | o :: l, k, y => if ms.any (fun p => p.1 == k) || ls.contains k then FloatsL P ops w G hd tl fr Q ms rs ls l (k + 1) y else ∃ v, FloatOk P ops G fr (rs.contains k) o y v ∧ FloatsL P ops w G hd tl fr Q ms rs ls l (k + 1) (upd y k v)
/-- all but ms and ls float, those of rs in whatever memory; those of ls come behind all of ms -/
def chainB3 (l : List Oper) (n : Nat) (ms : List (Nat × Bool)) (rs ls : List Nat) : Bool :=
  ((List.range n).all fun k => ms.any (fun p => p.1 == k) || ls.contains k || ((l[k]?.map edges).getD []).all fun e => !(ms.any fun p => p.1 == e.on) && !ls.contains e.on) && chainOrd l ms &&
    (ms.all fun p => decide (p.1 < n) && !ls.contains p.1 && (((l[p.1]?.map edges).getD []).all fun e => !ls.contains e.on) && (p.2 || (List.range n).all fun j => ms.any (fun q => q.1 == j) || rs.contains j || ls.contains j || (anc l p.1).contains j)) &&
    ls.all fun k => ms.all fun p => (anc l k).contains p.1
/-- what is known while such a region goes on -/
def ChainSL (P : Program) (ops : Array Oper) (G : World → Prop) (hd tl : List Oper) (fr : (Nat → Value) → Act) (Q : Exit → Act → World → Prop) (ms : List (Nat × Bool)) (rs ls : List Nat) (n : Nat) (z : Nat → Value) (Ld : Nat → Prop) (x : Nat → Value) (W : World) : Prop :=
  (∀ i, i < n → ms.any (fun p => p.1 == i) = false → ls.contains i = false → Ld i → x i = z i) ∧ ∃ pre ms' y, ms = pre ++ ms' ∧ (∀ p ∈ pre, Ld p.1) ∧ (∀ p ∈ ms', ¬ Ld p.1) ∧ (∀ i, ms.any (fun p => p.1 == i) = false → y i = z i) ∧ (∀ p ∈ pre, x p.1 = y p.1) ∧
    (ms' ≠ [] → (∀ i, ls.contains i = true → ¬ Ld i) ∧ ChainL P ops G hd tl fr Q ls ms' y W) ∧
    (ms' = [] → ∃ z2, (∀ j, ls.contains j = false → z2 j = y j) ∧ (∀ i o, hd[i]? = some o → ls.contains i = true → LateOk P ops fr o z2 W (z2 i)) ∧ wpList P ops Q tl (fr z2) W ∧ ∀ i, ls.contains i = true → Ld i → x i = z2 i) ∧
    ((∀ p ∈ pre, p.2 = true) → G W) ∧ ((∀ p ∈ pre, p.2 = true) ∨ ∀ j, j < n → ms.any (fun p => p.1 == j) = false → rs.contains j = false → ls.contains j = false → Ld j)
end Go.Proofs.Pet

namespace Go.Proofs.Pet
open Go Go.RowKit

/-- which of those that are left may be the next one -/
def en (l : List Oper) (rem : List (Nat × Bool)) : List (Nat × Bool) := rem.filter fun p => rem.all fun q => !((anc l p.1).contains q.1)
def rest (rem : List (Nat × Bool)) (k : Nat) : List (Nat × Bool) := rem.filter fun q => q.1 != k
def isM (ms : List (Nat × Bool)) (k : Nat) : Bool := ms.any fun p => p.1 == k
/-- which floating ones wait for none but the next one -/
def unl (l : List Oper) (n : Nat) (ms rem : List (Nat × Bool)) (k : Nat) : List Nat := (List.range n).filter fun d => !isM ms d && (anc l d).contains k && rem.all fun q => q.1 == k || !((anc l d).contains q.1)
def early (l : List Oper) (ms : List (Nat × Bool)) (d : Nat) : Bool := !isM ms d && ms.all fun q => !((anc l d).contains q.1)
def treeB (l : List Oper) (n : Nat) (ms : List (Nat × Bool)) (rs : List Nat) : Bool :=
  ((List.range n).all fun d => ((l[d]?.map edges).getD []).all fun e => (anc l d).contains e.on && (anc l e.on).all fun j => (anc l d).contains j) &&
    ms.all fun p => decide (p.1 < n) && (p.2 || (List.range n).all fun j => isM ms j || rs.contains j || (anc l p.1).contains j)
/-- floating ones, one by one -/
def Unlock (P : Program) (ops : Array Oper) (G : World → Prop) (hd : List Oper) (fr : (Nat → Value) → Act) (rs : List Nat) (C : (Nat → Value) → Prop) : List Nat → (Nat → Value) → Prop
  | [], y => C y
  | d :: ds, y => ∃ v, (∀ o, hd[d]? = some o → FloatOk P ops G fr (rs.contains d) o y v) ∧ Unlock P ops G hd fr rs C ds (upd y d v)
def Tree (P : Program) (ops : Array Oper) (G : World → Prop) (l : List Oper) (n : Nat) (hd tl : List Oper) (fr : (Nat → Value) → Act) (Q : Exit → Act → World → Prop) (ms : List (Nat × Bool)) (rs : List Nat) : Nat → List (Nat × Bool) → (Nat → Value) → World → Prop
  | 0, rem, y, W => rem = [] → wpList P ops Q tl (fr y) W
  | f + 1, rem, y, W => (rem = [] → wpList P ops Q tl (fr y) W) ∧ ∀ p ∈ en l rem, ∀ x, DepsE y x ((hd[p.1]?.map edges).getD []) → ∀ (K : Act → World → Prop) (Q' : Exit → Act → World → Prop),
      (∀ v W', (p.2 = true → G W') → Unlock P ops G hd fr rs (fun y' => Tree P ops G l n hd tl fr Q ms rs f (rest rem p.1) y' W') (unl l n ms rem p.1) (upd y p.1 v) → K ((fr x).put ((hd[p.1]?.map (·.dst)).getD none) v) W') → wpList P ops (Exit.then K Q') ((hd[p.1]?.map fun o => [o]).getD []) (fr x) W
/-- the goals of those that may be next -/
def TSteps (P : Program) (ops : Array Oper) (G : World → Prop) (l : List Oper) (n : Nat) (hd tl : List Oper) (fr : (Nat → Value) → Act) (Q : Exit → Act → World → Prop) (ms : List (Nat × Bool)) (rs : List Nat) (f : Nat) (rem : List (Nat × Bool)) (y : Nat → Value) (W : World) : List (Nat × Bool) → Prop
  | [] => True
  | p :: r => (∀ x, DepsE y x ((hd[p.1]?.map edges).getD []) → ∀ (K : Act → World → Prop) (Q' : Exit → Act → World → Prop),
      (∀ v W', (p.2 = true → G W') → Unlock P ops G hd fr rs (fun y' => Tree P ops G l n hd tl fr Q ms rs f (rest rem p.1) y' W') (unl l n ms rem p.1) (upd y p.1 v) → K ((fr x).put ((hd[p.1]?.map (·.dst)).getD none) v) W') → wpList P ops (Exit.then K Q') ((hd[p.1]?.map fun o => [o]).getD []) (fr x) W) ∧ TSteps P ops G l n hd tl fr Q ms rs f rem y W r
section
variable {P : Program} {ops : Array Oper} {w : World} {G : World → Prop} {hd tl : List Oper} {fr : (Nat → Value) → Act} {Q : Exit → Act → World → Prop} {ms : List (Nat × Bool)} {rs : List Nat} {l : List Oper} {n : Nat} {o : Oper} {k : Nat} {y : Nat → Value} {e : Bool} {W : World} {C : (Nat → Value) → Prop}
theorem Unlock.of {ds ds' : List Nat} (h : ds' = ds) (p : Unlock P ops G hd fr rs C ds y) : Unlock P ops G hd fr rs C ds' y := h ▸ p
theorem Unlock.nil (h : C y) : Unlock P ops G hd fr rs C [] y := h
theorem Unlock.float {d : Nat} {ds : List Nat} {v : Value} (ho : hd[d]? = some o) (hf : FloatOk P ops G fr (rs.contains d) o y v) (h : Unlock P ops G hd fr rs C ds (upd y d v)) : Unlock P ops G hd fr rs C (d :: ds) y :=
  ⟨v, fun o' ho' => by rw [ho] at ho'; cases ho'; exact hf, h⟩
theorem FloatOk.congr {y' : Nat → Value} {reg : Bool} {v : Value} (hf : FloatOk P ops G fr reg o y v) (h : ∀ e ∈ edges o, y' e.on = y e.on) : FloatOk P ops G fr reg o y' v :=
  fun x W he hd K Q hK => hf x W he (DepsE.congr h hd) K Q hK
theorem Unlock.split : ∀ (ds : List Nat) (y : Nat → Value), ds.Pairwise (· < ·) → (∀ d o, hd[d]? = some o → ∀ e ∈ edges o, e.on < d) → Unlock P ops G hd fr rs C ds y →
    ∃ y', (∀ j, j ∉ ds → y' j = y j) ∧ (∀ d o, d ∈ ds → hd[d]? = some o → FloatOk P ops G fr (rs.contains d) o y' (y' d)) ∧ C y'
  | [], y, _, _, h => ⟨y, fun _ _ => rfl, fun _ _ hd => by simp at hd, h⟩
  | d :: ds, y, hp, hlow, ⟨v, hv, h⟩ => by
    obtain ⟨hp1, hp2⟩ := List.pairwise_cons.1 hp
    obtain ⟨y', h1, h2, h3⟩ := Unlock.split ds _ hp2 hlow h
    have hd' : d ∉ ds := fun h => absurd (hp1 d h) (by omega)
    refine ⟨y', fun j hj => ?_, fun d' o hd ho => ?_, h3⟩
    · rw [List.mem_cons, not_or] at hj
      rw [h1 j hj.2]; unfold upd; rw [if_neg hj.1]
    · rcases List.mem_cons.1 hd with e | e
      · subst e
        have e1 : y' d' = v := by rw [h1 d' hd']; simp [upd]
        rw [e1]
        refine (hv o ho).congr fun e he => ?_
        have hlt := hlow d' o ho e he
        rw [h1 e.on fun h => by have := hp1 _ h; omega]
        unfold upd; rw [if_neg (by omega)]
      · exact h2 d' o e ho
theorem TSteps.mem {f : Nat} {rem : List (Nat × Bool)} : ∀ {r : List (Nat × Bool)}, TSteps P ops G l n hd tl fr Q ms rs f rem y W r → ∀ p ∈ r, ∀ x, DepsE y x ((hd[p.1]?.map edges).getD []) → ∀ (K : Act → World → Prop) (Q' : Exit → Act → World → Prop),
      (∀ v W', (p.2 = true → G W') → Unlock P ops G hd fr rs (fun y' => Tree P ops G l n hd tl fr Q ms rs f (rest rem p.1) y' W') (unl l n ms rem p.1) (upd y p.1 v) → K ((fr x).put ((hd[p.1]?.map (·.dst)).getD none) v) W') → wpList P ops (Exit.then K Q') ((hd[p.1]?.map fun o => [o]).getD []) (fr x) W
  | _ :: _, h, p, hp => by
    rcases List.mem_cons.1 hp with h1 | h1
    · subst h1; exact h.1
    · exact TSteps.mem h.2 p h1
theorem Tree.next {f : Nat} {rem ks : List (Nat × Bool)} (hk : (rem.isEmpty, en l rem) = (false, ks)) (h : TSteps P ops G l n hd tl fr Q ms rs f rem y W ks) : Tree P ops G l n hd tl fr Q ms rs (f + 1) rem y W := by
  simp only [Prod.mk.injEq] at hk
  refine ⟨fun e => ?_, fun p hp => ?_⟩
  · rw [e] at hk; exact absurd hk.1 (by decide)
  · rw [hk.2] at hp
    exact TSteps.mem h p hp
theorem TSteps.cons {f : Nat} {rem r : List (Nat × Bool)} (o : Oper) (ho : hd[k]? = some o) (h : ∀ x, DepsE y x (edges o) → ∀ (K : Act → World → Prop) (Q' : Exit → Act → World → Prop),
      (∀ v W', (e = true → G W') → Unlock P ops G hd fr rs (fun y' => Tree P ops G l n hd tl fr Q ms rs f (rest rem k) y' W') (unl l n ms rem k) (upd y k v) → K ((fr x).put o.dst v) W') → wpList P ops (Exit.then K Q') [o] (fr x) W) (hr : TSteps P ops G l n hd tl fr Q ms rs f rem y W r) : TSteps P ops G l n hd tl fr Q ms rs f rem y W ((k, e) :: r) := by
  refine ⟨?_, hr⟩
  simp only [ho]
  exact h
theorem Tree.nil {f : Nat} {rem : List (Nat × Bool)} (hk : rem = []) (h : wpList P ops Q tl (fr y) W) : Tree P ops G l n hd tl fr Q ms rs f rem y W := by
  subst hk
  cases f with
  | zero => exact fun _ => h
  | succ f => exact ⟨fun _ => h, fun p hp => by simp [en] at hp⟩
/-- where ways meet again -/
theorem Tree.cut {f f' : Nat} {rem rem' : List (Nat × Bool)} (R : (Nat → Value) → (Nat → Value) → World → Prop) (h : ∀ y' W', R y y' W' → Tree P ops G l n hd tl fr Q ms rs f' rem' y' W')
    (k : (∀ y' W', R y y' W' → Tree P ops G l n hd tl fr Q ms rs f' rem' y' W') → Tree P ops G l n hd tl fr Q ms rs f rem y W) : Tree P ops G l n hd tl fr Q ms rs f rem y W := k h
theorem Tree.eq {f : Nat} {rem rem' : List (Nat × Bool)} (h : rem = rem') (p : Tree P ops G l n hd tl fr Q ms rs f rem' y W) : Tree P ops G l n hd tl fr Q ms rs f rem y W := h ▸ p
end
theorem upd_comm {y : Nat → Value} {a b : Nat} {u v : Value} (h : a ≠ b) : upd (upd y a u) b v = upd (upd y b v) a u := by
  funext j
  unfold upd
  by_cases h1 : j = b
  · subst h1; rw [if_pos rfl, if_neg (fun e => h e.symm), if_pos rfl]
  · rw [if_neg h1, if_neg h1]
/-- what is known while such a region goes on -/
def TreeS (P : Program) (ops : Array Oper) (G : World → Prop) (l : List Oper) (n : Nat) (hd tl : List Oper) (fr : (Nat → Value) → Act) (Q : Exit → Act → World → Prop) (ms : List (Nat × Bool)) (rs : List Nat) (Ld : Nat → Prop) (x : Nat → Value) (W : World) : Prop :=
  ∃ f rem y, rem.length ≤ f ∧ (∀ p ∈ rem, p ∈ ms) ∧ (∀ p ∈ ms, p ∈ rem ∨ Ld p.1) ∧ (∀ p ∈ rem, ¬ Ld p.1) ∧
    (∀ d o, hd[d]? = some o → isM ms d = false → (∀ q ∈ rem, (anc l d).contains q.1 = false) → FloatOk P ops G fr (rs.contains d) o y (y d)) ∧
    (∀ j, j < n → Ld j → x j = y j) ∧
    Tree P ops G l n hd tl fr Q ms rs f rem y W ∧ ((∀ p ∈ ms, Ld p.1 → p.2 = true) → G W) ∧ ((∀ p ∈ ms, Ld p.1 → p.2 = true) ∨ ∀ j, j < n → isM ms j = false → rs.contains j = false → Ld j)
theorem filter_len_lt {α : Type} {p : α → Bool} : ∀ {l : List α} {a : α}, a ∈ l → p a = false → (l.filter p).length < l.length
  | b :: l, a, h, hp => by
    rcases List.mem_cons.1 h with h1 | h1
    · subst h1
      rw [List.filter_cons_of_neg (by simp [hp])]
      have := List.length_filter_le p l
      simp only [List.length_cons]; omega
    · have := filter_len_lt h1 hp
      by_cases hb : p b = true
      · rw [List.filter_cons_of_pos hb]; simp only [List.length_cons]; omega
      · rw [List.filter_cons_of_neg hb]; simp only [List.length_cons]; omega
theorem isM_ne {ms : List (Nat × Bool)} {i : Nat} (h : isM ms i = false) {p : Nat × Bool} (hp : p ∈ ms) : p.1 ≠ i := fun h2 => by
  have : isM ms i = true := List.any_eq_true.2 ⟨p, hp, by simp [h2]⟩
  rw [h] at this; cases this
theorem wp_region_treeG {P : Program} {id : Nat} {Q : Exit → Act → World → Prop} {a : Act} {w : World} {l : List Oper} (G : World → Prop) (hG : G w.drew) (n : Nat) (ms : List (Nat × Bool)) (rs : List Nat) (hm : P.follows .mixedOrders = true) (hB : headB2 l n = true) (hC : treeB l n ms rs = true) {ds : List Nat} (hds : (List.range n).filter (early l ms) = ds)
    (h : Unlock P l.toArray G (l.take n) (fun x => fill (l.take n) 0 x a) rs (fun y => ∀ W, Ext w W → G W → Tree P l.toArray G l n (l.take n) (l.drop n) (fun x => fill (l.take n) 0 x a) Q ms rs ms.length ms y W) ds (fun _ => undef)) :
    (Code.region id l.toArray true).wp P Q a w := by
  have hB' := hB
  simp only [headB2, Bool.and_eq_true, decide_eq_true_eq, Bool.or_eq_true, List.all_eq_true, List.mem_range] at hB'
  obtain ⟨⟨⟨⟨hn, hdist⟩, _⟩, _⟩, hlow⟩ := hB'
  have htk : ∀ i o, (l.take n)[i]? = some o → i < n ∧ l[i]? = some o := fun i o hi => by
    have hin : i < n := by have := (List.getElem?_eq_some_iff.1 hi).1; simp at this; omega
    exact ⟨hin, by rw [List.getElem?_take] at hi; simpa [hin] using hi⟩
  have hlow2 : ∀ i o, (l.take n)[i]? = some o → ∀ e ∈ edges o, e.on < i := fun i o hi e he => by
    obtain ⟨hin, ho⟩ := htk i o hi
    have h1 := hlow i hin
    rw [ho] at h1
    obtain ⟨he, hbe⟩ := List.mem_filter.1 he
    have h2 := Array.all_eq_true'.1 h1 e (by simpa using he)
    simp only [hbe, Bool.not_true, Bool.false_or, decide_eq_true_eq] at h2
    omega
  have hpw : ∀ p : Nat → Bool, ((List.range n).filter p).Pairwise (· < ·) := fun p => List.Pairwise.filter _ List.pairwise_lt_range
  obtain ⟨y0, _, hfl, hch⟩ := Unlock.split ds _ (hds ▸ hpw _) hlow2 h
  simp only [treeB, Bool.and_eq_true, List.all_eq_true, List.mem_range] at hC
  obtain ⟨hc1, hc3⟩ := hC
  have htr : ∀ d o, (l.take n)[d]? = some o → ∀ e ∈ edges o, (anc l d).contains e.on = true ∧ ∀ j, (anc l e.on).contains j = true → (anc l d).contains j = true := fun d o hd e he => by
    obtain ⟨hin, ho⟩ := htk d o hd
    have h1 := hc1 d hin
    rw [ho] at h1
    simp only [Option.map_some, Option.getD_some] at h1
    obtain ⟨h2, h3⟩ := h1 e he
    exact ⟨h2, fun j hj => h3 j (by simpa using hj)⟩
  refine wp_region_stage n hm hB (TreeS P l.toArray G l n (l.take n) (l.drop n) (fun x => fill (l.take n) 0 x a) Q ms rs) (fun _ _ => True)
    (fun x => ⟨ms.length, ms, y0, Nat.le_refl _, fun _ h => h, fun p hp => .inl hp, fun p _ h => h, fun d o hd hmd hq => hfl d o ?_ hd, fun p _ h => h.elim, hch _ (Ext.drew w) hG, fun _ => hG, .inl fun p _ h => h.elim⟩) ?_ ?_
  · rw [← hds]
    refine List.mem_filter.2 ⟨List.mem_range.2 (htk d o hd).1, ?_⟩
    unfold early
    rw [hmd, Bool.not_false, Bool.true_and, List.all_eq_true]
    intro q hq'
    rw [hq q hq']; rfl
  · refine allOps3_mk (l.take n) 0 fun i o hi Ld x W hS hcl hnl hdl _ K Q' hK => ?_
    rw [Nat.zero_add] at hnl hK
    obtain ⟨hin, ho⟩ := htk i o hi
    obtain ⟨f, rem, y, hlen, hsub, hdone, hsuf, hfo, hxy, hchn, hext, hrd⟩ := hS
    have hanc : ∀ j, (anc l i).contains j = true → Ld j := fun j hj => by
      unfold anc at hj
      rw [ho] at hj
      refine closeB_ok (l := l) (n := n) hcl (by omega) ?_ j hj
      intro j hj
      simp only [Option.map_some, Option.getD_some, List.mem_map] at hj
      obtain ⟨e, he, rfl⟩ := hj
      exact depsL_mem hdl e he
    have hdepE : DepsE y x (edges o) := depsE_mk fun e he => hxy _ (by have := hlow2 i o hi e he; omega) (depsL_mem hdl e he)
    by_cases hmi : isM ms i = true
    · obtain ⟨⟨i', e⟩, hp, hpi⟩ := List.any_eq_true.1 hmi
      simp only [beq_iff_eq] at hpi
      subst hpi
      have hps : (i', e) ∈ rem := (hdone _ hp).resolve_right hnl
      have hen : (i', e) ∈ en l rem := by
        refine List.mem_filter.2 ⟨hps, List.all_eq_true.2 fun q hq => ?_⟩
        rw [Bool.not_eq_true']
        exact Bool.eq_false_iff.2 fun h1 => hsuf q hq (hanc _ h1)
      have hdeps : DepsE y x ((((l.take n)[i']?).map edges).getD []) := by rw [hi]; exact hdepE
      obtain ⟨f, rfl⟩ : ∃ g, f = g + 1 := by
        cases f with
        | zero => exact absurd hps (by rw [List.length_eq_zero_iff.1 (by omega : rem.length = 0)]; simp)
        | succ g => exact ⟨g, rfl⟩
      have hrun := hchn.2 _ hen x hdeps K Q'
      rw [hi] at hrun
      simp only [Option.map_some, Option.getD_some] at hrun
      refine hrun fun v W' hev hrest => hK v W' trivial ?_
      obtain ⟨y', u1, u2, u3⟩ := Unlock.split (unl l n ms rem i') _ (hpw _) hlow2 hrest
      have hds : ∀ d, d ∈ unl l n ms rem i' ↔ d < n ∧ isM ms d = false ∧ (anc l d).contains i' = true ∧ ∀ q ∈ rem, q.1 = i' ∨ (anc l d).contains q.1 = false := fun d => by
        unfold unl
        rw [List.mem_filter, List.mem_range]
        simp only [Bool.and_eq_true, Bool.not_eq_true', List.all_eq_true, Bool.or_eq_true, beq_iff_eq, and_assoc]
      -- what was known stays
      have hold : ∀ j, j ≠ i' → ((anc l j).contains i' = false ∨ isM ms j = true) → y' j = y j := fun j hne hj => by
        rw [u1 j fun h => ?_]
        · unfold upd; rw [if_neg hne]
        · obtain ⟨_, h2, h3, _⟩ := (hds j).1 h
          rcases hj with hj | hj
          · rw [hj] at h3; cases h3
          · rw [hj] at h2; cases h2
      have hi'' : y' i' = v := by
        rw [u1 i' fun h => ?_]
        · simp [upd]
        · obtain ⟨_, h2, _⟩ := (hds i').1 h
          rw [hmi] at h2; cases h2
      refine ⟨f, rest rem i', y', ?_, ?_, ?_, ?_, ?_, ?_, u3, ?_, ?_⟩
      · have : (rest rem i').length < rem.length := filter_len_lt hps (by simp)
        omega
      · exact fun p hp => hsub p (List.mem_filter.1 hp).1
      · intro p hp
        by_cases h1 : p.1 = i'
        · exact .inr (.inr h1)
        · rcases hdone p hp with h2 | h2
          · exact .inl (List.mem_filter.2 ⟨h2, by simpa using h1⟩)
          · exact .inr (.inl h2)
      · intro p hp h1
        obtain ⟨h2, h3⟩ := List.mem_filter.1 hp
        exact h1.elim (hsuf p h2) (by simpa using h3)
      · intro d od hd hmd hq
        have hq' : ∀ q ∈ rem, q.1 = i' ∨ (anc l d).contains q.1 = false := fun q hqr => by
          by_cases h1 : q.1 = i'
          · exact .inl h1
          · exact .inr (hq q (List.mem_filter.2 ⟨hqr, by simpa using h1⟩))
        cases hci : (anc l d).contains i' with
        | true => exact u2 d od ((hds d).2 ⟨(htk d od hd).1, hmd, hci, hq'⟩) hd
        | false =>
          have hne : d ≠ i' := fun h => by subst h; rw [hmd] at hmi; cases hmi
          rw [hold d hne (.inl hci)]
          refine (hfo d od hd hmd fun q hqr => ?_).congr fun e he => ?_
          · rcases hq' q hqr with h1 | h1
            · rw [h1]; exact hci
            · exact h1
          · obtain ⟨h1, h2⟩ := htr d od hd e he
            refine hold e.on (fun h => ?_) (.inl ?_)
            · rw [h, hci] at h1; cases h1
            · cases h3 : (anc l e.on).contains i' with
              | false => rfl
              | true => rw [h2 _ h3] at hci; cases hci
      · intro j hj hl
        by_cases hji : j = i'
        · subst hji; rw [hi'']; simp [upd]
        · have hl' := hl.resolve_right hji
          have h1 : y' j = y j := by
            cases hmj : isM ms j with
            | true => exact hold j hji (.inr hmj)
            | false =>
              refine hold j hji (.inl ?_)
              cases h3 : (anc l j).contains i' with
              | false => rfl
              | true =>
                exfalso
                have : Ld i' := by
                  cases hoj : l[j]? with
                  | none => rw [show anc l j = closeB l j [] by unfold anc; rw [hoj]; rfl] at h3; exact closeB_ok (l := l) (n := n) hcl (by omega) (fun j hj => by simp at hj) _ h3
                  | some oj =>
                    have hdj := hcl.at_ _ _ j oj (by rw [List.getElem?_take]; simp [hj, hoj]) (by rw [Nat.zero_add]; exact hl')
                    unfold anc at h3
                    rw [hoj] at h3
                    refine closeB_ok (l := l) (n := n) hcl (by omega) ?_ _ h3
                    intro j' hj'
                    simp only [Option.map_some, Option.getD_some, List.mem_map] at hj'
                    obtain ⟨e, he, rfl⟩ := hj'
                    exact depsL_mem hdj e he
                exact hnl this
          rw [h1]; unfold upd; rw [if_neg hji]
          exact hxy j hj hl'
      · intro hall
        exact hev (hall (i', e) hp (.inr rfl))
      · have hF : ∀ p ∈ ms, p.1 = i' → p.2 = false → ∀ j, j < n → isM ms j = false → rs.contains j = false → Ld j := fun p h6 h7 h8 j hj hmj hrj => by
          have h4 := hc3 p h6
          simp only [h8, Bool.false_or, List.all_eq_true, List.mem_range, decide_eq_true_eq] at h4
          have h9 := h4.2 j hj
          rw [hmj, hrj, h7] at h9
          exact hanc j (by simpa using h9)
        rcases hrd with h1 | h1
        · by_cases h5 : ∃ p ∈ ms, p.1 = i' ∧ p.2 = false
          · obtain ⟨p, h6, h7, h8⟩ := h5
            exact .inr fun j hj hmj hrj => .inl (hF p h6 h7 h8 j hj hmj hrj)
          · refine .inl fun p hp hl => ?_
            rcases hl with h2 | h2
            · exact h1 p hp h2
            · cases h3 : p.2 with
              | true => rfl
              | false => exact absurd ⟨p, hp, h2, h3⟩ h5
        · exact .inr fun j hj hmj hrj => .inl (h1 j hj hmj hrj)
    · have hmi' : isM ms i = false := Bool.eq_false_iff.2 hmi
      have hne : ∀ p ∈ ms, p.1 ≠ i := fun p hp => isM_ne hmi' hp
      have hf := hfo i o hi hmi' fun q hq => by
        cases h3 : (anc l i).contains q.1 with
        | false => rfl
        | true => exact absurd (hanc _ h3) (hsuf q hq)
      refine hf x W (fun hr => ?_) hdepE K Q' (hK (y i) W trivial ⟨f, rem, y, hlen, hsub, fun p hp => (hdone p hp).imp (fun h => h) .inl, fun p hp h1 => h1.elim (hsuf p hp) (hne p (hsub p hp)), hfo, fun j hj hl => ?_, hchn, fun hall => hext fun p hp hl => hall p hp (.inl hl), ?_⟩)
      · rcases hrd with h1 | h1
        · exact hext h1
        · exact absurd (h1 i hin hmi' hr) hnl
      · by_cases hji : j = i
        · subst hji; simp [upd]
        · unfold upd; rw [if_neg hji]; exact hxy j hj (hl.resolve_right hji)
      · rcases hrd with h1 | h1
        · exact .inl fun p hp hl => h1 p hp (hl.resolve_right (hne p hp))
        · exact .inr fun j hj hmj hrj => .inl (h1 j hj hmj hrj)
  · intro x W hS _
    obtain ⟨f, rem, y, hlen, hsub, hdone, hsuf, hfo, hxy, hchn, _, _⟩ := hS
    have hlt : ∀ p ∈ ms, p.1 < n := fun p hp => by
      have h4 := hc3 p hp
      simp only [decide_eq_true_eq] at h4
      exact h4.1
    have hnil : rem = [] := by
      cases rem with
      | nil => rfl
      | cons p r => exact absurd (hlt p (hsub p (by simp))) (hsuf p (by simp))
    subst hnil
    rw [fill_congr' (l.take n) 0 x y a fun j _ hj => hxy j (by simp at hj; omega) (by simp at hj; omega)]
    cases f with
    | zero => exact hchn rfl
    | succ f => exact hchn.1 rfl
theorem wp_region_tree {P : Program} {id : Nat} {Q : Exit → Act → World → Prop} {a : Act} {w : World} {l : List Oper} (n : Nat) (ms : List (Nat × Bool)) (rs : List Nat) (hm : P.follows .mixedOrders = true) (hB : headB2 l n = true) (hC : treeB l n ms rs = true) {ds : List Nat} (hds : (List.range n).filter (early l ms) = ds)
    (h : Unlock P l.toArray (Ext w) (l.take n) (fun x => fill (l.take n) 0 x a) rs (fun y => ∀ W, Ext w W → Ext w W → Tree P l.toArray (Ext w) l n (l.take n) (l.drop n) (fun x => fill (l.take n) 0 x a) Q ms rs ms.length ms y W) ds (fun _ => undef)) :
    (Code.region id l.toArray true).wp P Q a w := wp_region_treeG (Ext w) (Ext.drew w) n ms rs hm hB hC hds h
end Go.Proofs.Pet

namespace Go.Proofs.Pet
open Go Go.RowKit Go.Maps Go.Shelf

def lst (f : Nat → Int) (n : Nat) : List Int := (List.range n).map f
theorem OwnI.own_lt {w : World} {base : Nat} {e : TypeId} {v : Value} {xs : List Int} (h : OwnI w base e v xs) (b : Nat) (hb : v.ownBlock = some b) : base ≤ b ∧ b < w.heap.size := by
  obtain ⟨A, c, rfl, _, _, _, h5, _⟩ := h.open_
  cases A with
  | none => cases hb
  | some ad =>
    obtain ⟨h6, h7, h8⟩ := h5 ad rfl
    rw [h8] at hb
    have := Option.some.inj hb
    omega
theorem Row.made {w : World} {S n : Nat} (h : Blk w S 3 (madeCells #[.int .i64 0] n)) : Row w S n (fun _ => 0) := by
  have e : madeCells #[Value.int .i64 0] n = Array.replicate n (.int .i64 0) := by
    apply Array.toList_inj.1
    simp [madeCells, Nat.mod_one, List.map_const']
  rw [e] at h
  exact Row.const h
end Go.Proofs.Pet

namespace Go.Proofs.Pet
open Go Go.RowKit Go.Maps Go.Shelf

def setJ (f : Nat → Int) (l es : List Int) : Nat → Nat → Int
  | 0 => f
  | j + 1 => fun k => if k = (l[j]?.getD 0).toNat then es[j]?.getD 0 else setJ f l es j k
/-- the ends that the first runs of a plan give -/
def endsUp (m : Mill) (xss : List (List Int)) : Nat → Nat → Int
  | 0 => fun _ => -1
  | i + 1 => setJ (endsUp m xss i) (xss[i]?.getD []) (endsF m i (xss[i]?.getD []) (xss[i]?.getD []).length) (xss[i]?.getD []).length
def endsL (m : Mill) (xss : List (List Int)) : List Int := (List.range m.orders.length).map (endsUp m xss xss.length)
theorem Row.ints {w : World} {b N : Nat} {f : Nat → Int} (h : Row w b N f) : IntsAt w (some ⟨b, 0, none⟩) ((List.range N).map f) := by
  intro k hk
  rw [List.length_map, List.length_range] at hk
  refine ⟨b, 0, rfl, ?_⟩
  rw [Nat.zero_add, h.cell hk, List.getElem?_map, List.getElem?_range hk]
  rfl
theorem plE_ok {m : Mill} {xss : List (List Int)} (h : plE m xss = 0) : checkE m = 0 ∧ xss.length = m.laced.length ∧ listedE m xss.flatten = 0 ∧ weavesAll m xss = true := by
  unfold plE at h
  by_cases a1 : checkE m ≠ 0
  · rw [if_pos a1] at h; exact absurd h a1
  rw [if_neg a1] at h
  by_cases a2 : xss.length ≠ m.laced.length
  · rw [if_pos a2] at h; omega
  rw [if_neg a2] at h
  by_cases a3 : listedE m xss.flatten ≠ 0
  · rw [if_pos a3] at h; exact absurd h a3
  rw [if_neg a3] at h
  by_cases a4 : weavesAll m xss = false
  · rw [if_pos a4] at h; omega
  exact ⟨by omega, by omega, by omega, by simpa using a4⟩
set_option maxRecDepth 20000 in
set_option maxHeartbeats 1000000 in
theorem ends_any (v pv : Value) (m : Mill) (xss : List (List Int)) (e0 : Int) (he0 : plE m xss = e0) (hb : xss.flatten.length ≤ 100) (hb2 : xss.length ≤ 1000) (w : World) (hv : MillVal w v m) (hp : RowsI w pv xss) :
    Calls Tryz.prog 48 #[v, pv] w fun e w' => ∃ r, e = .returned (.tuple #[r, .int .i64 e0]) ∧ SlI w' r (if e0 = 0 then endsL m xss else []) ∧ Ext w w' := by
  have Hv := Lib.hid hv
  have Hp := Lib.hid hp
  have Hlen : Hid (∀ j, j < xss.length → (xss[j]?.getD []).length ≤ 100) := fun j hj => by
    have h1 := flat_take hj
    have h2 := flat_le xss (j + 1)
    rw [h1, List.length_append] at h2
    omega
  obtain ⟨A1, c1, A2, c2, rfl, h2, h3, h4, h5, h6, h7⟩ := hv
  obtain ⟨PA, pc, rfl, g2, g3, g4⟩ := hp
  have G4 := Lib.hid g4; clear g4
  unfold maxLen at g3
  have hE := Ext.alloc w (.cells #[.slice A1 m.laced.length c1, .int .i64 m.change, .slice A2 m.orders.length c2] 25)
  have hM := Blk.new w 25 #[.slice A1 m.laced.length c1, .int .i64 m.change, .slice A2 m.orders.length c2]
  have hpl := Lib.hid (planned_any _ _ m xss e0 he0 (by omega) hb2 _ (Hv.out.ext hE) (Hp.out.ext hE))
  have He0 := Lib.hid he0; clear he0
  clear h6 h7 h3 h5 hb
  obtain ⟨k0, k1, k2⟩ := hM.c3
  go_enter Tryz.func48, Tryz.ntmps48
  go_wp2_with fail
  refine hpl.out.mono ?_
  rintro e w1 ⟨rfl, he1⟩
  have hE1 := hE.trans he1
  have hM1 := hM.ext he1
  clear hM hE he1 hpl k0 k1 k2
  by_cases h0 : e0 = 0
  · subst h0
    have hck := Lib.hid (plE_ok He0.out)
    have Hrange := Lib.hid (inB_range (listedE_ok hck.out.2.2.1).1)
    obtain ⟨l1, l2, l3⟩ := check_len hck.out.1
    have hX := Ext.alloc w1 (.cells #[.int .i64 (-1)] 3)
    have hB := Blk.new w1 3 #[.int .i64 (-1)]
    have hB1 : IntsAt (w1.alloc (.cells #[.int .i64 (-1)] 3)) (some ⟨w1.heap.size, 0, none⟩) [-1] := fun k hk => by
      match k, hk with
      | 0, _ => exact ⟨_, 0, rfl, hB.cell 0⟩
    have hrep := Lib.hid (repeat_any (-1) (some ⟨w1.heap.size, 0, none⟩) 1 m.orders.length (by omega) _ hB1 ⟨Nat.le_refl _, by simp [maxLen]⟩)
    have hM2 := hM1.alloc (.cells #[.int .i64 (-1)] 3)
    have hE2 := hE1.trans hX
    obtain ⟨k0, k1, k2⟩ := hM2.c3
    clear hM1 hE1 hX hB hB1
    go_wp2_with fail
    refine hrep.out.mono ?_
    rintro e w3 ⟨S, rfl, hS1, hS2, he3⟩
    have hE3 := hE2.trans he3
    have hM3 := hM2.ext he3
    have hR3 := Row.const hS2
    have hSw : w.heap.size < S := by have := hM2.lt; omega
    clear hM2 hE2 he3 hrep hS2 k0 k1 k2 hS1
    go_wp2_with fail
    go_loopw [27] (fun iv wr => ∃ k : Nat, k ≤ xss.length ∧ iv = .int .i64 k ∧ Ext w wr ∧ Blk wr w.heap.size 25 #[.slice A1 m.laced.length c1, .int .i64 m.change, .slice A2 m.orders.length c2] ∧ Hid (Row wr S m.orders.length (endsUp m xss k))) (fun iv _ => xss.length - (intOf iv).toNat)
    case atStart => exact ⟨0, by omega, rfl, hE3, hM3, hR3⟩
    case round =>
      clear hE3 hM3 hR3
      obtain ⟨k, hk, rfl, he, hMr, hR⟩ := hrel
      obtain ⟨k0, k1, k2⟩ := hMr.c3
      by_cases hlt : k < xss.length
      · obtain ⟨pb, po, u, e1, q1, hsl⟩ := G4.out k hlt
        subst e1
        have q1' := he.cell q1
        obtain ⟨LA, lc, rfl, s1, s2, s3⟩ := hsl
        have hst : Hid (endsUp m xss (k + 1) = setJ (endsUp m xss k) (xss[k]?.getD []) (endsF m k (xss[k]?.getD []) (xss[k]?.getD []).length) (xss[k]?.getD []).length) := rfl
        have hran := Lib.hid (ran_any _ m hck.out.1 k (by have := hck.out.2.1; omega) LA lc (xss[k]?.getD []).length (xss[k]?.getD []) rfl (Hlen.out k hlt) (fun x hx => Hrange.out x (mem_flat hlt hx)) wr (Hv.out.ext he) (s3.ext he))
        have Hmem : Hid (∀ x, x ∈ xss[k]?.getD [] → 0 ≤ x ∧ x < m.orders.length) := fun x hx => Hrange.out x (mem_flat hlt hx)
        have hyl := Hlen.out k hlt
        have S3 := Lib.hid s3; clear s3
        have hRlt := hR.out.lt
        generalize (xss[k]?.getD []) = ys at *
        obtain ⟨es, hes⟩ : ∃ es, endsF m k ys ys.length = es := ⟨_, rfl⟩
        have hesl : es.length = ys.length := by rw [← hes, endsF_len]
        rw [hes] at hran hst
        have Hes := Lib.hid hes; clear hes
        have Hesl := Lib.hid hesl; clear hesl
        generalize chR m k (rvI ys) = cc at *
        go_wp2_with fail
        refine hran.out.mono ?_
        rintro e w4 ⟨rr, rfl, hrr, he4⟩
        have hE4 := he.trans he4
        have hM4 := hMr.ext he4
        have hR4 : Hid (Row w4 S m.orders.length (endsUp m xss k)) := hR.out.ext he4
        have Hrr := Lib.hid hrr
        obtain ⟨Ar, cr, rfl, _, _, _, ho5, _⟩ := hrr.open_
        have hne : (Value.slice Ar es.length cr).ownBlock ≠ some S := by
          intro h
          cases hA : Ar with
          | none => rw [hA] at h; cases h
          | some ad =>
            have h1 := ho5 ad hA
            rw [h1.2.2] at h
            have := Option.some.inj h
            omega
        have Hne := Lib.hid hne
        clear he he4 hMr hR hran hrr ho5 hne k0 k1 k2 q1'
        go_wp2_with fail
        go_loopw [41] (fun jv w2 => ∃ j : Nat, j ≤ ys.length ∧ jv = .int .i64 j ∧ Ext w w2 ∧ Blk w2 w.heap.size 25 #[.slice A1 m.laced.length c1, .int .i64 m.change, .slice A2 m.orders.length c2] ∧ Hid (Row w2 S m.orders.length (setJ (endsUp m xss k) ys es j)) ∧ Hid (OwnI w2 w.heap.size 3 (.slice Ar es.length cr) es)) (fun jv _ => ys.length - (intOf jv).toNat)
        case atStart => exact ⟨0, by omega, rfl, hE4, hM4, hR4, Hrr.out.mono (by omega)⟩
        case round =>
          clear hE4 hM4 hR4
          obtain ⟨j, hj, rfl, heJ, hMJ, hRJ, hrJ⟩ := hrel
          by_cases hltj : j < ys.length
          · obtain ⟨bb, oo, rfl, cy⟩ := S3.out.ext heJ j hltj
            obtain ⟨ko, hko⟩ : ∃ ko : Nat, ys[j]?.getD 0 = (ko : Int) ∧ ko < m.orders.length := by
              have h1 := Hmem.out (ys[j]?.getD 0) (by simp [hltj])
              exact ⟨(ys[j]?.getD 0).toNat, by omega, by omega⟩
            obtain ⟨hko1, hko2⟩ := hko
            rw [hko1] at cy
            obtain ⟨Ae, ce, ee, _, _, ho3, _⟩ := hrJ.out.open_
            injection ee with ee1 _ ee2
            subst ee1; subst ee2
            obtain ⟨be, oe, rfl, ce'⟩ := ho3 j (by rw [Hesl.out]; exact hltj)
            obtain ⟨ev, hev⟩ : ∃ ev, es[j]?.getD 0 = ev := ⟨_, rfl⟩
            rw [hev] at ce'
            have hrc := hRJ.out.cell hko2
            have hrf := hRJ.out.frozen ko
            have hRN : Hid (Row (wr.setCell ⟨S, ko, none⟩ (.int .i64 ev)) S m.orders.length (setJ (endsUp m xss k) ys es (j + 1))) := by
              have := hRJ.out.set_ hko2 ev
              refine this.congr fun q _ => ?_
              show (if q = ko then ev else _) = if q = (ys[j]?.getD 0).toNat then es[j]?.getD 0 else _
              rw [hko1, hev, Int.toNat_natCast]
            have hEN := Lib.hid (Below.setCell heJ (p := ⟨S, ko, none⟩) (by show _ ≤ S; omega) (.int .i64 ev))
            have hMN := Lib.hid (hMJ.far (p := ⟨S, ko, none⟩) (by show w.heap.size ≠ S; omega) (.int .i64 ev))
            have hrN := Lib.hid (hrJ.out.apart (b := S) Hne.out ((Apart.refl S wr).set_ ko (.int .i64 ev)))
            have hel : j < es.length := by rw [Hesl.out]; exact hltj
            clear hko1 hev ho3 hRJ hMJ hrJ heJ
            go_wp2_with fail
            go_roundw
            case rel => exact ⟨j + 1, by omega, by go_num, hEN.out, hMN.out, hRN, hrN⟩
            case measure => simp [intOf]; omega
          · obtain rfl : j = ys.length := by omega
            go_wp2_with fail
            go_roundw
            case rel => exact ⟨k + 1, by omega, by go_num, heJ, hMJ, by unfold Hid; rw [hst.out]; exact hRJ.out⟩
            case measure => simp [intOf]; omega
      · obtain rfl : k = xss.length := by omega
        go_wp2_with fail
        go_ret2
        refine ⟨_, rfl, ?_, he⟩
        exact ⟨some ⟨S, 0, none⟩, m.orders.length, by unfold endsL; simp, by unfold endsL; simp, by unfold maxLen; omega, hR.out.ints⟩
  · have hd : (e0 != 0) = true := by simpa using h0
    have H0 := Lib.hid h0; clear h0
    go_wp2_with fail
    go_ret2
    refine ⟨_, rfl, ?_, hE1⟩
    exact ⟨none, 0, rfl, Nat.le_refl _, Nat.zero_le _, fun k hk => by cases hk⟩
end Go.Proofs.Pet

namespace Go.Proofs.Pet
open Go Go.RowKit Go.Maps Go.Shelf

def keepK (m : Mill) (f : Nat → Int) (k : Nat) : Bool := !decide (f k = -1) && decide (f k ≤ m.byy k)
def keepsB (m : Mill) (xss : List (List Int)) : Bool := (List.range m.orders.length).all (keepK m (endsUp m xss xss.length))
theorem endsL_len (m : Mill) (xss : List (List Int)) : (endsL m xss).length = m.orders.length := by unfold endsL; simp
end Go.Proofs.Pet

namespace Go.Proofs.Pet
open Go Go.RowKit Go.Maps Go.Shelf

end Go.Proofs.Pet

namespace Go.Proofs.Pet
open Go Go.RowKit Go.Maps Go.Shelf

end Go.Proofs.Pet

namespace Go.Proofs.Pet
open Go Go.RowKit Go.Maps Go.Shelf

theorem nodup_of_twice {xs : List Int} (h : twiceB xs = false) : xs.Nodup := by
  rw [List.nodup_iff_pairwise_ne, List.pairwise_iff_getElem]
  intro i j hi hj hij e
  unfold twiceB at h
  rw [List.any_eq_false] at h
  have := h j (List.mem_range.2 hj)
  refine this ?_
  have e1 : xs[j]?.getD 0 = xs[j] := by simp [hj]
  rw [e1, List.contains_iff_mem, List.mem_take_iff_getElem]
  exact ⟨i, by omega, e⟩
theorem setJ_last (f : Nat → Int) (l es : List Int) (k : Nat) : ∀ n, (setJ f l es n k = f k ∧ ∀ j, j < n → (l[j]?.getD 0).toNat ≠ k) ∨ ∃ j, j < n ∧ (l[j]?.getD 0).toNat = k ∧ setJ f l es n k = es[j]?.getD 0
  | 0 => .inl ⟨rfl, fun j h => absurd h (by omega)⟩
  | n + 1 => by
    by_cases e : k = (l[n]?.getD 0).toNat
    · exact .inr ⟨n, by omega, e.symm, if_pos e⟩
    · rcases setJ_last f l es k n with ⟨h1, h2⟩ | ⟨j, h1, h2, h3⟩
      · refine .inl ⟨(if_neg e).trans h1, fun j hj => ?_⟩
        by_cases ej : j = n
        · subst ej; exact fun h => e h.symm
        · exact h2 j (by omega)
      · exact .inr ⟨j, by omega, h2, (if_neg e).trans h3⟩
theorem endsF_get (m : Mill) (l : Nat) (xs : List Int) {j : Nat} (hj : j < xs.length) : (endsF m l xs xs.length)[j]?.getD 0 = dyR m l (rvI (xs.take (j + 1))) := by
  unfold endsF; rw [List.getElem?_map, List.getElem?_range hj]; rfl
def tmU (m : Mill) (xss : List (List Int)) : Nat → Bool
  | 0 => true
  | k + 1 => tmU m xss k && tmR m k (rvI (xss[k]?.getD []))
/-- no order below n is without an end -/
def allSet (f : Nat → Int) (q : Bool) : Nat → Bool
  | 0 => q
  | k + 1 => allSet f q k && !decide (f k = -1)
end Go.Proofs.Pet

namespace Go.Proofs.Pet
open Go

theorem bits_all {n : Nat} : bits n (2 ^ n - 1) = List.range n := by
  unfold bits
  rw [List.filter_eq_self]
  intro k hk
  rw [Nat.testBit_two_pow_sub_one]
  simpa using hk
theorem chgF_sum (m : Mill) (xss : List (List Int)) : ∀ k, chgF m xss k = ((List.range k).map fun i => chR m i (rvI (xss[i]?.getD []))).sum
  | 0 => rfl
  | k + 1 => by rw [chgF, chgF_sum m xss k, List.range_succ, List.map_append, List.sum_append]; simp
/-- what a plan of Plan is -/
structure PlanIsOk (m : Mill) (rows : List (List Int)) : Prop where
  len : rows.length = m.laced.length
  pl : plE m rows = 0
  short : ∀ i, i < rows.length → (rows[i]?.getD []).length ≤ 7
  rng : ∀ i, i < rows.length → ∀ x, x ∈ rows[i]?.getD [] → 0 ≤ x ∧ x < m.orders.length
  tm : ∀ i, i < rows.length → tmR m i (rvI (rows[i]?.getD [])) = true
  sum : chgF m rows rows.length = fewR m (2 ^ m.orders.length - 1)
  all : rows.flatten.length = m.orders.length
  perm : rows.flatten.Perm (ints (List.range m.orders.length))
theorem twice_of_nodup {xs : List Int} (h : xs.Nodup) : twiceB xs = false := twiceB_false fun _ hk => nodup_not_take h hk
theorem plan_law {m : Mill} (hch : checkE m = 0) {rows : List (List Int)} (h : planF m = some rows) : PlanIsOk m rows := by
  unfold planF at h
  split at h
  · rename_i hs
    have hr : planB m m.laced.length (2 ^ m.orders.length - 1) = rows := Option.some.inj h
    have hlt : 2 ^ m.orders.length - 1 < 2 ^ m.orders.length := by have := Nat.two_pow_pos m.orders.length; omega
    obtain ⟨⟨h1, h2, h3⟩, h4⟩ := planB_ok m hch m.laced.length (2 ^ m.orders.length - 1) hlt hs
    rw [hr] at h1 h2 h3 h4
    rw [bits_all] at h3
    have hlen : rows.flatten.length = m.orders.length := by rw [h3.length_eq]; simp [ints]
    have hmem : ∀ x, x ∈ rows.flatten → 0 ≤ x ∧ x < m.orders.length := fun x hx => by
      have := h3.mem_iff.1 hx
      unfold ints at this
      obtain ⟨k, hk, rfl⟩ := List.mem_map.1 this
      have := List.mem_range.1 hk
      omega
    have hrow : ∀ i, i < rows.length → ∀ x, x ∈ rows[i]?.getD [] → x ∈ rows.flatten := fun i hi x hx => mem_flat hi hx
    have hnd : rows.flatten.Nodup := h3.symm.nodup_iff.1 (nodup_ints List.nodup_range)
    obtain ⟨_, _, l3⟩ := check_len hch
    refine ⟨h1, ?_, fun i hi => ?_, fun i hi x hx => hmem x (hrow i hi x hx), fun i hi => ?_, ?_, hlen, h3⟩
    · unfold plE
      rw [if_neg (by rw [hch]; simp), if_neg (by rw [h1]; simp)]
      have hl0 : listedE m rows.flatten = 0 := by
        unfold listedE
        rw [if_neg, if_neg]
        · rw [twice_of_nodup hnd]; simp
        · rw [Bool.not_eq_false, List.all_eq_true]
          intro x hx
          have := hmem x hx
          unfold inB
          simp; omega
      rw [if_neg (by rw [hl0]; simp)]
      rw [if_neg]
      rw [Bool.not_eq_false]
      refine weavesAll_true fun j hj => List.all_eq_true.2 fun x hx => ?_
      obtain ⟨s, _, _, hw, _⟩ := h2 j (by omega)
      exact hw x hx
    · obtain ⟨s, _, hp, _⟩ := h2 i (by omega)
      rw [hp.length_eq]
      have := bits_length_le m.orders.length s
      simp [ints]; omega
    · obtain ⟨s, _, _, _, ht, _⟩ := h2 i (by omega)
      exact ht
    · rw [chgF_sum, h1, h4, fewR_sum m hch _ hlt, if_pos hs]
  · cases h
end Go.Proofs.Pet

namespace Go.Proofs.Pet
open Go Go.RowKit Go.Maps Go.Shelf

theorem all_take_snoc (xs : List Int) (p : Int → Bool) {k : Nat} (hk : k < xs.length) : (xs.take (k + 1)).all p = ((xs.take k).all p && p (xs[k]?.getD 0)) := by
  rw [List.take_succ_eq_append_getElem hk, List.all_append]
  simp [hk]
end Go.Proofs.Pet

namespace Go.Proofs.Pet
open Go Go.RowKit Go.Maps Go.Shelf

/-- the errors of looms and a day -/
def crowdC (m : Mill) (looms : List Int) (b : Int) : Int :=
  if (looms.all fun k => inB k 0 (m.laced.length - 1)) = false then 1 else if looms.length = 0 ∨ risingB looms = false then 4 else if inB b 1 99 = false then 3 else 0
/-- what Over answers -/
def overE (m : Mill) (looms : List Int) (b : Int) : Int × Int :=
  if checkE m ≠ 0 then (0, checkE m) else if crowdC m looms b ≠ 0 then (0, crowdC m looms b) else if overF m looms b m.orders.length < 1 then (0, 6) else (overF m looms b m.orders.length, 0)
/-- what Crowded answers, whatever the mill -/
def crowE (m : Mill) : Nat × Nat := if checkE m = 0 then crBy m (2 ^ m.laced.length - 1) 99 else (0, 0)
end Go.Proofs.Pet

namespace Go.Proofs.Pet
open Go

theorem dyR_sum {m : Mill} (hch : checkE m = 0) (l : Nat) : ∀ r : List Nat, (r.map m.dys).sum ≤ dyR m l r
  | [] => by simp [dyR]
  | k :: r => by
    have h1 := dyR_sum hch l r
    have h2 := check_change hch
    have h3 := chg_bd (lastPat m l r) (m.pat k)
    have h4 : 0 ≤ m.change * chg (lastPat m l r) (m.pat k) := Int.mul_nonneg h2 h3.1
    simp only [List.map_cons, List.sum_cons, dyR]
    omega
/-- the days of the orders of a run that a test takes -/
def daysT (m : Mill) (t : Nat → Bool) (r : List Nat) : Int := (r.map fun k => if t k = true then m.dys k else 0).sum
theorem dys_nonneg {m : Mill} (hch : checkE m = 0) (k : Nat) : 0 ≤ m.dys k := by
  unfold Mill.dys
  by_cases h : k < m.orders.length
  · have := (check_orders hch).1 _ (List.getElem_mem h)
    simp only [List.getElem?_eq_getElem h, Option.getD_some]
    omega
  · rw [List.getElem?_eq_none (by omega)]; exact Int.le_refl _
theorem daysT_le {m : Mill} (hch : checkE m = 0) (t : Nat → Bool) : ∀ r, daysT m t r ≤ (r.map m.dys).sum
  | [] => by simp [daysT]
  | k :: r => by
    have h1 := daysT_le hch t r
    have h2 := dys_nonneg hch k
    unfold daysT at h1 ⊢
    simp only [List.map_cons, List.sum_cons]
    split <;> omega
theorem ints_mem {l : List Nat} {x : Int} : x ∈ ints l ↔ ∃ k, k ∈ l ∧ (k : Int) = x := by unfold ints; exact List.mem_map
theorem rising_snoc {l : List Int} {x : Int} (h : risingB l = true) (hx : ∀ y, y ∈ l → y < x) : risingB (l ++ [x]) = true := by
  rw [risingB_iff] at h ⊢
  intro i h1 h2
  rw [List.length_append, List.length_singleton] at h2
  rcases Nat.lt_or_ge i l.length with g | g
  · rw [List.getElem?_append_left (by omega), List.getElem?_append_left g]
    exact h i h1 g
  · have : i = l.length := by omega
    subst this
    rw [List.getElem?_append_left (by omega), List.getElem?_append_right (Nat.le_refl _), Nat.sub_self]
    have hlt : l.length - 1 < l.length := by omega
    rw [List.getElem?_eq_getElem hlt]
    exact hx _ (List.getElem_mem hlt)
/-- what an order of a mill of L looms must be -/
structure OrdOk (L : Nat) (o : Ord) : Prop where
  pat : 0 ≤ o.pattern ∧ o.pattern ≤ 9
  dys : 1 ≤ o.days ∧ o.days ≤ 20
  byy : 1 ≤ o.by_ ∧ o.by_ ≤ 99
  ne : o.on ≠ []
  on : ∀ x, x ∈ o.on → 0 ≤ x ∧ x < L
  up : risingB o.on = true
structure MillOk (m : Mill) : Prop where
  looms : 1 ≤ m.laced.length ∧ m.laced.length ≤ 3
  few : m.orders.length ≤ 7
  laced : ∀ x, x ∈ m.laced → -1 ≤ x ∧ x ≤ 9
  change : 0 ≤ m.change ∧ m.change ≤ 5
  ords : ∀ o, o ∈ m.orders → OrdOk m.laced.length o
theorem check_iff (m : Mill) : checkE m = 0 ↔ MillOk m := by
  constructor
  · intro h
    have h0 := check_len h
    obtain ⟨h1, h2⟩ := check_orders h
    unfold checkE at h
    split at h
    · cases h
    split at h
    · cases h
    · rename_i g2
      split at h
      · cases h
      split at h
      · cases h
      · rename_i g4
        split at h
        · cases h
        · rename_i g5
          split at h
          · cases h
          · rename_i g6
            simp only [not_or, Bool.not_eq_false, List.all_eq_true] at g2 g4 g5 g6
            refine ⟨⟨h0.1, h0.2.1⟩, h0.2.2, fun x hx => ?_, h2, fun o ho => ⟨(h1 o ho).1, (h1 o ho).2.1, (h1 o ho).2.2, ?_, fun x hx => ?_, g6 o ho⟩⟩
            · have := g2.1 x hx
              unfold inB at this; simp at this; omega
            · have := g4 o ho
              intro e; rw [e] at this; simp at this
            · have := g5 o ho x hx
              unfold inB at this; simp at this; omega
  · intro ⟨h1, h2, h3, h4, h5⟩
    unfold checkE
    rw [if_neg, if_neg, if_neg, if_neg, if_neg, if_neg]
    · rw [Bool.not_eq_false, List.all_eq_true]; exact fun o ho => (h5 o ho).up
    · rw [Bool.not_eq_false, List.all_eq_true]
      intro o ho
      rw [List.all_eq_true]
      intro x hx
      have := (h5 o ho).on x hx
      unfold inB; simp; omega
    · rw [Bool.not_eq_false, List.all_eq_true]
      intro o ho
      have := (h5 o ho).ne
      simpa using List.length_pos_iff.2 this
    · rw [Bool.not_eq_false, List.all_eq_true]
      intro o ho
      obtain ⟨g1, g2, g3, _⟩ := h5 o ho
      unfold inB; simp; omega
    · rw [not_or, Bool.not_eq_false, Bool.not_eq_false, List.all_eq_true]
      refine ⟨fun x hx => ?_, ?_⟩
      · have := h3 x hx; unfold inB; simp; omega
      · unfold inB; simp; omega
    · rw [not_or, Bool.not_eq_false]
      refine ⟨?_, by omega⟩
      unfold inB; simp; omega
end Go.Proofs.Pet

namespace Go.Proofs.Pet
open Go

def okW (m : Mill) (n : Nat) (xs : List Int) : Bool := (xs.all fun k => inB k 0 (m.orders.length - 1)) && !twiceB xs && (xs.all fun k => weavesI m n k) && tmR m n (rvI xs)
theorem twiceB_iff (xs : List Int) : twiceB xs = false ↔ xs.Nodup := ⟨nodup_of_twice, twice_of_nodup⟩
theorem twiceB_snoc (xs : List Int) (x : Int) : twiceB (xs ++ [x]) = (twiceB xs || xs.contains x) := by
  rw [Bool.eq_iff_iff, ← Bool.not_eq_false, ← Bool.not_eq_false, Bool.or_eq_false_iff, twiceB_iff, twiceB_iff, List.nodup_append]
  simp only [List.nodup_cons, List.not_mem_nil, not_false_eq_true, List.nodup_nil, and_self, true_and, List.mem_singleton]
  constructor
  · intro h1 h2
    apply h1
    refine ⟨h2.1, fun a ha b hb => ?_⟩
    subst hb
    intro e
    subst e
    have := h2.2
    rw [List.contains_iff_mem.2 ha] at this
    cases this
  · intro h1 h2
    apply h1
    refine ⟨h2.1, ?_⟩
    rw [← Bool.not_eq_true, List.contains_iff_mem]
    intro hm
    exact h2.2 x hm x rfl rfl
theorem okW_succ (m : Mill) (n : Nat) {xs : List Int} {i : Nat} (hi : i < xs.length) : okW m n (xs.take (i + 1)) =
    (okW m n (xs.take i) && inB (xs[i]?.getD 0) 0 (m.orders.length - 1) && !(xs.take i).contains (xs[i]?.getD 0) && weavesI m n (xs[i]?.getD 0) && decide (dyR m n (rvI (xs.take (i + 1))) ≤ m.byy (xs[i]?.getD 0).toNat)) := by
  have ht : xs.take (i + 1) = xs.take i ++ [xs[i]?.getD 0] := by rw [List.take_succ_eq_append_getElem hi]; simp [hi]
  unfold okW
  rw [all_take_snoc xs _ hi, all_take_snoc xs _ hi]
  have h3 : twiceB (xs.take (i + 1)) = (twiceB (xs.take i) || (xs.take i).contains (xs[i]?.getD 0)) := by rw [ht, twiceB_snoc]
  have h4 : tmR m n (rvI (xs.take (i + 1))) = (tmR m n (rvI (xs.take i)) && decide (dyR m n (rvI (xs.take (i + 1))) ≤ m.byy (xs[i]?.getD 0).toNat)) := by rw [rvI_take hi]; rfl
  rw [h3, h4]
  cases (xs.take i).all (fun k => inB k 0 (m.orders.length - 1)) <;> cases inB (xs[i]?.getD 0) 0 (m.orders.length - 1) <;> cases twiceB (xs.take i) <;> cases (xs.take i).contains (xs[i]?.getD 0) <;> cases (xs.take i).all (fun k => weavesI m n k) <;> cases weavesI m n (xs[i]?.getD 0) <;> cases tmR m n (rvI (xs.take i)) <;> rfl
end Go.Proofs.Pet

namespace Go.Proofs.Pet
set_option linter.unusedSimpArgs false
open Go Go.RowKit Go.Maps Go.Shelf

/-- bytes that can be read, all of them ahead of the block b -/
def BytesAt (w : World) (b : Nat) (A : Option Addr) (n : Nat) : Prop :=
  ∀ j, j < n → ∃ b' o u, A = some ⟨b', o, none⟩ ∧ b' < b ∧ w.cell? ⟨b', o + j, none⟩ = some (.int .u8 u)
/-- a spool, of which at most k numbers have been wound off -/
def SpoolAt (w : World) (b k : Nat) : Prop :=
  ∃ A n c st, ∃ at_ : Nat, Blk w b 222 #[.slice A n c, .int .i64 (at_ : Int), .int .u64 st] ∧ n ≤ c ∧ c ≤ maxLen ∧ at_ ≤ k ∧ BytesAt w b A n
theorem BytesAt.ext {w w' : World} {b n : Nat} {A : Option Addr} (h : BytesAt w b A n) (he : Ext w w') : BytesAt w' b A n := fun j hj => by
  obtain ⟨b', o, u, h1, h2, h3⟩ := h j hj
  exact ⟨b', o, u, h1, h2, he.cell h3⟩
theorem BytesAt.apart {w w' : World} {b n : Nat} {A : Option Addr} (h : BytesAt w b A n) (he : Apart b w w') : BytesAt w' b A n := fun j hj => by
  obtain ⟨b', o, u, h1, h2, h3⟩ := h j hj
  refine ⟨b', o, u, h1, h2, ?_⟩
  have hlt := cell_lt h3
  unfold World.cell? at h3 ⊢
  rw [he.block b' hlt (Nat.ne_of_lt h2)]
  exact h3
theorem SpoolAt.ext {w w' : World} {b k : Nat} (h : SpoolAt w b k) (he : Ext w w') : SpoolAt w' b k := by
  obtain ⟨A, n, c, st, a, h1, h2, h3, h4, h5⟩ := h
  exact ⟨A, n, c, st, a, h1.ext he, h2, h3, h4, h5.ext he⟩
theorem SpoolAt.mono {w : World} {b k k' : Nat} (h : SpoolAt w b k) (hk : k ≤ k') : SpoolAt w b k' := by
  obtain ⟨A, n, c, st, a, h1, h2, h3, h4, h5⟩ := h
  exact ⟨A, n, c, st, a, h1, h2, h3, by omega, h5⟩
instance {w w' : World} {b k : Nat} : Lift (SpoolAt w b k) w w' (SpoolAt w' b k) := ⟨fun he h => h.ext he⟩
theorem SpoolAt.lt {w : World} {b k : Nat} (h : SpoolAt w b k) : b < w.heap.size := by
  obtain ⟨A, n, c, st, a, h1, _⟩ := h
  exact h1.lt
theorem mask_bd (x : Int) : 0 ≤ Go.bits .and .i64 x 65535 ∧ Go.bits .and .i64 x 65535 ≤ 65535 := by
  have h16 : (BitVec.ofInt 64 65535).toNat = 2 ^ 16 - 1 := by decide
  have key : (BitVec.ofInt 64 x &&& BitVec.ofInt 64 65535).toNat = (x % ((2 ^ 64 : Nat) : Int)).toNat % 2 ^ 16 := by
    rw [BitVec.toNat_and, BitVec.toNat_ofInt, h16, Nat.and_two_pow_sub_one_eq_mod]
  have e : Go.bits .and .i64 x 65535 = IntKind.i64.wrap ((BitVec.ofInt 64 x &&& BitVec.ofInt 64 65535).toNat : Nat) := rfl
  rw [e, key, IntKind.wrap_i64]
  omega
/-- a number of a spool in its bounds, and the spool goes on -/
def Turned (b k : Nat) (lo hi : Int) (w : World) (e : Ending) (w' : World) : Prop :=
  ∃ r : Int, e = .returned (.int .i64 r) ∧ lo ≤ r ∧ r ≤ hi ∧ SpoolAt w' b (k + 1) ∧ Apart b w w'
set_option maxRecDepth 20000 in
set_option maxHeartbeats 4000000 in
theorem turn_any (b k : Nat) (hk : k ≤ 1000000) (w : World) (hs : SpoolAt w b k) :
    Calls Tryz.prog 230 #[.pointer (some ⟨b, 0, none⟩)] w (Turned b k 0 65535 w) := by
  obtain ⟨A, n, c, st, a, hb, h2, h3, h4, h5⟩ := hs
  obtain ⟨k0, k1, k2⟩ := hb.c3
  have f1 := hb.frozen 1; have f2 := hb.frozen 2
  unfold maxLen at h3
  have H5 := Lib.hid h5; clear h5
  have Hb := Lib.hid hb; clear hb
  by_cases hn : 0 < n
  · have hm : a % n < n := Nat.mod_lt _ hn
    obtain ⟨b', o, u, rfl, hne, hu⟩ := H5.out (a % n) hm
    have hmod : (a : Int).tmod n = ((a % n : Nat) : Int) := by rw [Int.tmod_eq_emod_of_nonneg (by omega)]; rfl
    have hn0 : ((n : Int) == 0) = false := by simp; omega
    go_enter Tryz.func230, Tryz.ntmps230
    go_wp2_with fail
    refine wp_region_chain 25 [] [] (by kernel_rfl) (by kernel_rfl) (by kernel_rfl) ?_
    simp only [List.take, List.drop, fill, Act.put, List.setIfInBounds_toArray, List.set_cons_zero, List.set_cons_succ, Nat.reduceAdd]
    repeat (first
      | refine Floats.mut rfl ?_
      | (apply Floats.float rfl
         · intro x W he hd K Q hK
           try (have he := he (by decide); have k0 := he.cell k0; have k1 := he.cell k1; have k2 := he.cell k2; have hu := he.cell hu)
           try simp only [edges, DepsE, List.filter_cons, List.filter_nil, Region.binds, if_true, and_true, true_and, upd, Nat.reduceEqDiff, if_false] at hd
           try simp only [hd] at hK ⊢
           have HK := Lib.hid hK; clear hK
           go_wp2_with fail
           exact HK.out))
    refine Floats.done fun W he hG => ?_
    have hbW := Hb.out.ext he
    obtain ⟨k0, k1, k2⟩ := hbW.c3
    have f1 := hbW.frozen 1; have f2 := hbW.frozen 2
    refine Chain.nil ?_
    simp only [upd, Nat.reduceEqDiff, if_false, if_true]
    go_wp2_with fail
    have hb1 := (hbW.set_ 2 (.int .u64 (IntKind.u64.wrap (st + IntKind.u64.wrap (IntKind.u64.wrap u * 977))))).set_ 1 (.int .i64 ((a : Int) + 1))
    have hbX : Blk ((W.setCell ⟨b, 2, none⟩ (.int .u64 (IntKind.u64.wrap (st + IntKind.u64.wrap (IntKind.u64.wrap u * 977))))).setCell ⟨b, 1, none⟩ (.int .i64 ((a : Int) + 1))) b 222 #[.slice (some ⟨b', o, none⟩) n c, .int .i64 ((a : Int) + 1), .int .u64 (IntKind.u64.wrap (st + IntKind.u64.wrap (IntKind.u64.wrap u * 977)))] := hb1
    have haX : Apart b w ((W.setCell ⟨b, 2, none⟩ (.int .u64 (IntKind.u64.wrap (st + IntKind.u64.wrap (IntKind.u64.wrap u * 977))))).setCell ⟨b, 1, none⟩ (.int .i64 ((a : Int) + 1))) := ((Apart.of_ext he).set_ 2 _).set_ 1 _
    have ha1 : ((a : Int) + 1) = ((a + 1 : Nat) : Int) := by omega
    rw [ha1] at hbX haX ⊢
    generalize (W.setCell ⟨b, 2, none⟩ (.int .u64 (IntKind.u64.wrap (st + IntKind.u64.wrap (IntKind.u64.wrap u * 977))))).setCell ⟨b, 1, none⟩ (.int .i64 ((a + 1 : Nat) : Int)) = W4 at *
    generalize IntKind.u64.wrap (st + IntKind.u64.wrap (IntKind.u64.wrap u * 977)) = st4 at *
    obtain ⟨a1, ha2⟩ : ∃ a1, a + 1 = a1 := ⟨_, rfl⟩
    rw [ha2] at hbX ⊢
    have ha3 : a1 ≤ k + 1 := by omega
    clear ha1 ha2 he hG hbW k0 k1 k2 f1 f2 hb1 hu
    clear hn0 hmod
    obtain ⟨k0, k1, k2⟩ := hbX.c3
    have f2 := hbX.frozen 2
    have HbX := Lib.hid hbX; clear hbX
    by_cases hgt : n < a1
    · go_wp2_with fail
      refine wp_region_chain 10 [] [] (by kernel_rfl) (by kernel_rfl) (by kernel_rfl) ?_
      simp only [List.take, List.drop, fill, Act.put, List.setIfInBounds_toArray, List.set_cons_zero, List.set_cons_succ, Nat.reduceAdd]
      repeat (first
        | refine Floats.mut rfl ?_
        | (apply Floats.float rfl
           · intro x W he hd K Q hK
             try (have he := he (by decide); have k0 := he.cell k0; have k1 := he.cell k1)
             try simp only [edges, DepsE, List.filter_cons, List.filter_nil, Region.binds, if_true, and_true, true_and, upd, Nat.reduceEqDiff, if_false] at hd
             try simp only [hd] at hK ⊢
             have HK := Lib.hid hK; clear hK
             go_wp2_with fail
             exact HK.out))
      refine Floats.done fun W he hG => ?_
      obtain ⟨k0, k1, k2⟩ := (HbX.out.ext he).c3
      have f2 := (HbX.out.ext he).frozen 2
      have hb6 := (HbX.out.ext he).set_ 2 (.int .u64 (IntKind.u64.wrap (IntKind.u64.wrap (st4 * 1103515245) + 12345)))
      have ha6 := (haX.trans (Apart.of_ext he)).set_ 2 (.int .u64 (IntKind.u64.wrap (IntKind.u64.wrap (st4 * 1103515245) + 12345)))
      have HB6 := Lib.hid hb6; clear hb6
      refine Chain.nil ?_
      simp only [upd, Nat.reduceEqDiff, if_false, if_true]
      go_wp2_with fail
      clear k0 k1 k2 f2 he hG
      obtain ⟨k0, k1, k2⟩ := HB6.out.c3
      refine wp_region_chain 13 [] [] (by kernel_rfl) (by kernel_rfl) (by kernel_rfl) ?_
      simp only [List.take, List.drop, fill, Act.put, List.setIfInBounds_toArray, List.set_cons_zero, List.set_cons_succ, Nat.reduceAdd]
      repeat (first
        | refine Floats.mut rfl ?_
        | (apply Floats.float rfl
           · intro x W he hd K Q hK
             try (have he := he (by decide); have k0 := he.cell k0; have k1 := he.cell k1; have k2 := he.cell k2)
             try simp only [edges, DepsE, List.filter_cons, List.filter_nil, Region.binds, if_true, and_true, true_and, upd, Nat.reduceEqDiff, if_false] at hd
             try simp only [hd] at hK ⊢
             have HK := Lib.hid hK; clear hK
             go_wp2_with fail
             exact HK.out))
      refine Floats.done fun W he hG => ?_
      have hb9 := HB6.out.ext he
      have ha9 := ha6.trans (Apart.of_ext he)
      refine Chain.nil ?_
      simp only [upd, Nat.reduceEqDiff, if_false, if_true]
      go_wp2_with fail
      go_ret
      exact ⟨_, rfl, (mask_bd _).1, (mask_bd _).2, ⟨_, n, c, _, a1, hb9, h2, by unfold maxLen; omega, ha3, H5.out.apart ha9⟩, ha9⟩
    · go_wp2_with fail
      refine wp_region_chain 10 [] [] (by kernel_rfl) (by kernel_rfl) (by kernel_rfl) ?_
      simp only [List.take, List.drop, fill, Act.put, List.setIfInBounds_toArray, List.set_cons_zero, List.set_cons_succ, Nat.reduceAdd]
      repeat (first
        | refine Floats.mut rfl ?_
        | (apply Floats.float rfl
           · intro x W he hd K Q hK
             try (have he := he (by decide); have k0 := he.cell k0; have k1 := he.cell k1)
             try simp only [edges, DepsE, List.filter_cons, List.filter_nil, Region.binds, if_true, and_true, true_and, upd, Nat.reduceEqDiff, if_false] at hd
             try simp only [hd] at hK ⊢
             have HK := Lib.hid hK; clear hK
             go_wp2_with fail
             exact HK.out))
      refine Floats.done fun W he hG => ?_
      have hb6 := HbX.out.ext he
      have ha6 := haX.trans (Apart.of_ext he)
      have HB6 := Lib.hid hb6; clear hb6
      refine Chain.nil ?_
      simp only [upd, Nat.reduceEqDiff, if_false, if_true]
      go_wp2_with fail
      clear k0 k1 k2 f2 he hG
      obtain ⟨k0, k1, k2⟩ := HB6.out.c3
      refine wp_region_chain 13 [] [] (by kernel_rfl) (by kernel_rfl) (by kernel_rfl) ?_
      simp only [List.take, List.drop, fill, Act.put, List.setIfInBounds_toArray, List.set_cons_zero, List.set_cons_succ, Nat.reduceAdd]
      repeat (first
        | refine Floats.mut rfl ?_
        | (apply Floats.float rfl
           · intro x W he hd K Q hK
             try (have he := he (by decide); have k0 := he.cell k0; have k1 := he.cell k1; have k2 := he.cell k2)
             try simp only [edges, DepsE, List.filter_cons, List.filter_nil, Region.binds, if_true, and_true, true_and, upd, Nat.reduceEqDiff, if_false] at hd
             try simp only [hd] at hK ⊢
             have HK := Lib.hid hK; clear hK
             go_wp2_with fail
             exact HK.out))
      refine Floats.done fun W he hG => ?_
      have hb9 := HB6.out.ext he
      have ha9 := ha6.trans (Apart.of_ext he)
      refine Chain.nil ?_
      simp only [upd, Nat.reduceEqDiff, if_false, if_true]
      go_wp2_with fail
      go_ret
      exact ⟨_, rfl, (mask_bd _).1, (mask_bd _).2, ⟨_, n, c, _, a1, hb9, h2, by unfold maxLen; omega, ha3, H5.out.apart ha9⟩, ha9⟩
  · have hn0 : n = 0 := by omega
    subst hn0
    go_enter Tryz.func230, Tryz.ntmps230
    go_wp2_with fail
    have hbX := Hb.out.set_ 1 (.int .i64 ((a : Int) + 1))
    have haX : Apart b w (w.setCell ⟨b, 1, none⟩ (.int .i64 ((a : Int) + 1))) := (Apart.refl b w).set_ 1 _
    have hbX : Blk (w.setCell ⟨b, 1, none⟩ (.int .i64 ((a : Int) + 1))) b 222 #[.slice A 0 c, .int .i64 ((a : Int) + 1), .int .u64 st] := hbX
    have ha1 : ((a : Int) + 1) = ((a + 1 : Nat) : Int) := by omega
    rw [ha1] at hbX haX ⊢
    generalize w.setCell ⟨b, 1, none⟩ (.int .i64 ((a + 1 : Nat) : Int)) = W4 at *
    obtain ⟨a1, ha2⟩ : ∃ a1, a + 1 = a1 := ⟨_, rfl⟩
    rw [ha2] at hbX ⊢
    have ha3 : a1 ≤ k + 1 := by omega
    clear ha1 ha2 k0 k1 k2 f1 f2
    obtain ⟨k0, k1, k2⟩ := hbX.c3
    have f2 := hbX.frozen 2
    have HbX := Lib.hid hbX; clear hbX
    by_cases hgt : 0 < a1
    · go_wp2_with fail
      refine wp_region_chain 10 [] [] (by kernel_rfl) (by kernel_rfl) (by kernel_rfl) ?_
      simp only [List.take, List.drop, fill, Act.put, List.setIfInBounds_toArray, List.set_cons_zero, List.set_cons_succ, Nat.reduceAdd]
      repeat (first
        | refine Floats.mut rfl ?_
        | (apply Floats.float rfl
           · intro x W he hd K Q hK
             try (have he := he (by decide); have k0 := he.cell k0; have k1 := he.cell k1)
             try simp only [edges, DepsE, List.filter_cons, List.filter_nil, Region.binds, if_true, and_true, true_and, upd, Nat.reduceEqDiff, if_false] at hd
             try simp only [hd] at hK ⊢
             have HK := Lib.hid hK; clear hK
             go_wp2_with fail
             exact HK.out))
      refine Floats.done fun W he hG => ?_
      obtain ⟨k0, k1, k2⟩ := (HbX.out.ext he).c3
      have f2 := (HbX.out.ext he).frozen 2
      have hb6 := (HbX.out.ext he).set_ 2 (.int .u64 (IntKind.u64.wrap (IntKind.u64.wrap (st * 1103515245) + 12345)))
      have ha6 := (haX.trans (Apart.of_ext he)).set_ 2 (.int .u64 (IntKind.u64.wrap (IntKind.u64.wrap (st * 1103515245) + 12345)))
      have HB6 := Lib.hid hb6; clear hb6
      refine Chain.nil ?_
      simp only [upd, Nat.reduceEqDiff, if_false, if_true]
      go_wp2_with fail
      clear k0 k1 k2 f2 he hG
      obtain ⟨k0, k1, k2⟩ := HB6.out.c3
      refine wp_region_chain 13 [] [] (by kernel_rfl) (by kernel_rfl) (by kernel_rfl) ?_
      simp only [List.take, List.drop, fill, Act.put, List.setIfInBounds_toArray, List.set_cons_zero, List.set_cons_succ, Nat.reduceAdd]
      repeat (first
        | refine Floats.mut rfl ?_
        | (apply Floats.float rfl
           · intro x W he hd K Q hK
             try (have he := he (by decide); have k0 := he.cell k0; have k1 := he.cell k1; have k2 := he.cell k2)
             try simp only [edges, DepsE, List.filter_cons, List.filter_nil, Region.binds, if_true, and_true, true_and, upd, Nat.reduceEqDiff, if_false] at hd
             try simp only [hd] at hK ⊢
             have HK := Lib.hid hK; clear hK
             go_wp2_with fail
             exact HK.out))
      refine Floats.done fun W he hG => ?_
      have hb9 := HB6.out.ext he
      have ha9 := ha6.trans (Apart.of_ext he)
      refine Chain.nil ?_
      simp only [upd, Nat.reduceEqDiff, if_false, if_true]
      go_wp2_with fail
      go_ret
      exact ⟨_, rfl, (mask_bd _).1, (mask_bd _).2, ⟨_, 0, c, _, a1, hb9, h2, by unfold maxLen; omega, ha3, H5.out.apart ha9⟩, ha9⟩
    · go_wp2_with fail
      refine wp_region_chain 10 [] [] (by kernel_rfl) (by kernel_rfl) (by kernel_rfl) ?_
      simp only [List.take, List.drop, fill, Act.put, List.setIfInBounds_toArray, List.set_cons_zero, List.set_cons_succ, Nat.reduceAdd]
      repeat (first
        | refine Floats.mut rfl ?_
        | (apply Floats.float rfl
           · intro x W he hd K Q hK
             try (have he := he (by decide); have k0 := he.cell k0; have k1 := he.cell k1)
             try simp only [edges, DepsE, List.filter_cons, List.filter_nil, Region.binds, if_true, and_true, true_and, upd, Nat.reduceEqDiff, if_false] at hd
             try simp only [hd] at hK ⊢
             have HK := Lib.hid hK; clear hK
             go_wp2_with fail
             exact HK.out))
      refine Floats.done fun W he hG => ?_
      have hb6 := HbX.out.ext he
      have ha6 := haX.trans (Apart.of_ext he)
      have HB6 := Lib.hid hb6; clear hb6
      refine Chain.nil ?_
      simp only [upd, Nat.reduceEqDiff, if_false, if_true]
      go_wp2_with fail
      clear k0 k1 k2 f2 he hG
      obtain ⟨k0, k1, k2⟩ := HB6.out.c3
      refine wp_region_chain 13 [] [] (by kernel_rfl) (by kernel_rfl) (by kernel_rfl) ?_
      simp only [List.take, List.drop, fill, Act.put, List.setIfInBounds_toArray, List.set_cons_zero, List.set_cons_succ, Nat.reduceAdd]
      repeat (first
        | refine Floats.mut rfl ?_
        | (apply Floats.float rfl
           · intro x W he hd K Q hK
             try (have he := he (by decide); have k0 := he.cell k0; have k1 := he.cell k1; have k2 := he.cell k2)
             try simp only [edges, DepsE, List.filter_cons, List.filter_nil, Region.binds, if_true, and_true, true_and, upd, Nat.reduceEqDiff, if_false] at hd
             try simp only [hd] at hK ⊢
             have HK := Lib.hid hK; clear hK
             go_wp2_with fail
             exact HK.out))
      refine Floats.done fun W he hG => ?_
      have hb9 := HB6.out.ext he
      have ha9 := ha6.trans (Apart.of_ext he)
      refine Chain.nil ?_
      simp only [upd, Nat.reduceEqDiff, if_false, if_true]
      go_wp2_with fail
      go_ret
      exact ⟨_, rfl, (mask_bd _).1, (mask_bd _).2, ⟨_, 0, c, _, a1, hb9, h2, by unfold maxLen; omega, ha3, H5.out.apart ha9⟩, ha9⟩
theorem upto_any (b k : Nat) (hk : k ≤ 1000000) (n : Int) (hn : -1000000 ≤ n ∧ n ≤ 1000000) (hi : Int) (hhi : max 0 n = hi) (w : World) (hs : SpoolAt w b k) :
    Calls Tryz.prog 155 #[.pointer (some ⟨b, 0, none⟩), .int .i64 n] w (Turned b k 0 hi w) := by
  have ht := Lib.hid (turn_any b k hk w hs)
  have Hhi := Lib.hid hhi; clear hhi
  go_enter Tryz.func155, Tryz.ntmps155
  go_wp2_with fail
  refine ht.out.mono ?_
  rintro e w1 ⟨r, rfl, h1, h2, h3, h4⟩
  clear ht
  go_wp2_with fail
  all_goals
    go_ret
    refine ⟨_, rfl, ?_, ?_, h3, h4⟩
  all_goals have := Hhi.out
  all_goals first
    | exact Int.le_refl _
    | omega
    | exact Int.emod_nonneg _ (by omega)
    | (have h9 := Int.emod_lt_of_pos r (show 0 < n + 1 by omega); omega)
    | (have h9 := Int.emod_lt_of_pos r (show 0 < max 1 (n + 1) by omega); omega)
theorem from_any (b k : Nat) (hk : k ≤ 1000000) (lo hi : Int) (hn : -1000 ≤ lo ∧ lo ≤ 1000 ∧ -1000 ≤ hi ∧ hi ≤ 1000) (h' : Int) (hh : max lo hi = h') (w : World) (hs : SpoolAt w b k) :
    Calls Tryz.prog 156 #[.pointer (some ⟨b, 0, none⟩), .int .i64 lo, .int .i64 hi] w (Turned b k lo h' w) := by
  have ht := Lib.hid (upto_any b k hk (hi - lo) (by omega) _ rfl w hs)
  have Hh := Lib.hid hh; clear hh
  go_enter Tryz.func156, Tryz.ntmps156
  go_wp2_with fail
  refine ht.out.mono ?_
  rintro e w1 ⟨r, rfl, h1, h2, h3, h4⟩
  clear ht
  have h2' : r ≤ 2000 := by omega
  have H2 := Lib.hid h2; clear h2
  go_wp2_with fail
  go_ret
  have := Hh.out; have := H2.out
  exact ⟨_, rfl, by omega, by omega, h3, h4⟩
/-- a yes or no of a spool -/
def TurnedB (b k : Nat) (w : World) (e : Ending) (w' : World) : Prop :=
  ∃ q : Bool, e = .returned (.bool q) ∧ SpoolAt w' b (k + 1) ∧ Apart b w w'
theorem once_any (b k : Nat) (hk : k ≤ 1000000) (n : Int) (hn : -1000 ≤ n ∧ n ≤ 1000) (w : World) (hs : SpoolAt w b k) :
    Calls Tryz.prog 157 #[.pointer (some ⟨b, 0, none⟩), .int .i64 n] w (TurnedB b k w) := by
  have ht := Lib.hid (upto_any b k hk (n - 1) (by omega) _ rfl w hs)
  go_enter Tryz.func157, Tryz.ntmps157
  go_wp2_with fail
  refine ht.out.mono ?_
  rintro e w1 ⟨r, rfl, h1, h2, h3, h4⟩
  clear ht
  have H2 := Lib.hid h2; clear h2
  go_wp2_with fail
  go_ret
  exact ⟨_, rfl, h3, h4⟩
/-- bytes that can be read -/
def BytesIn (w : World) (v : Value) : Prop := ∃ A n c, v = .slice A n c ∧ n ≤ c ∧ c ≤ maxLen ∧ ∀ j, j < n → ∃ b' o u, A = some ⟨b', o, none⟩ ∧ w.cell? ⟨b', o + j, none⟩ = some (.int .u8 u)
theorem BytesIn.ext {w w' : World} {v : Value} (h : BytesIn w v) (he : Ext w w') : BytesIn w' v := by
  obtain ⟨A, n, c, h1, h2, h3, h4⟩ := h
  exact ⟨A, n, c, h1, h2, h3, fun j hj => by obtain ⟨b', o, u, g1, g2⟩ := h4 j hj; exact ⟨b', o, u, g1, he.cell g2⟩⟩
instance {w w' : World} {v : Value} : Lift (BytesIn w v) w w' (BytesIn w' v) := ⟨fun he h => h.ext he⟩
theorem wound_any (v : Value) (w : World) (hv : BytesIn w v) :
    Calls Tryz.prog 47 #[v] w fun e w' => e = .returned (.pointer (some ⟨w.heap.size, 0, none⟩)) ∧ SpoolAt w' w.heap.size 0 ∧ Ext w w' := by
  obtain ⟨A, n, c, rfl, h2, h3, h4⟩ := hv
  have H4 := Lib.hid h4; clear h4
  go_enter Tryz.func47, Tryz.ntmps47
  go_wp2_with fail
  go_ret
  refine ⟨rfl, ⟨A, n, c, _, 0, Blk.new w 222 _, h2, h3, Nat.le_refl _, fun j hj => ?_⟩, Ext.alloc _ _⟩
  obtain ⟨b', o, u, e1, e2⟩ := H4.out j hj
  have hlt := cell_lt e2
  exact ⟨b', o, u, e1, hlt, (Ext.alloc w _).cell e2⟩
/-- an order of the numbers below n -/
def PermOf (n : Nat) (l : List Int) : Prop := l.Perm (ints (List.range n))
theorem SpoolAt.apart {w W : World} {b k g : Nat} (h : SpoolAt w b k) (hg : b < g) (ha : Apart g w W) : SpoolAt W b k := by
  obtain ⟨A, n, c, st, a, h1, h2, h3, h4, h5⟩ := h
  refine ⟨A, n, c, st, a, h1.apart (Nat.ne_of_lt hg) ha, h2, h3, h4, fun j hj => ?_⟩
  obtain ⟨b', o, u, rfl, g2, g3⟩ := h5 j hj
  refine ⟨b', o, u, rfl, g2, ?_⟩
  have hlt := cell_lt g3
  unfold World.cell? at g3 ⊢
  rw [ha.block b' hlt (by show b' ≠ g; omega)]
  exact g3
end Go.Proofs.Pet

namespace Go.Proofs.Pet
open Go Go.RowKit Go.Maps Go.Shelf

/-- orders as values, their lists of looms in rows of the call's own -/
def OrdOwn (w : World) (base : Nat) : List Value → List Ord → Prop
  | [], [] => True
  | p :: d :: b :: s :: cs, x :: xs => p = .int .i64 x.pattern ∧ d = .int .i64 x.days ∧ b = .int .i64 x.by_ ∧ OwnI w base 3 s x.on ∧ OrdOwn w base cs xs
  | _, _ => False
theorem OrdOwn.list {w : World} {base : Nat} : ∀ {cs : List Value} {xs : List Ord}, OrdOwn w base cs xs → OrdList w cs xs
  | [], [], _ => trivial
  | p :: d :: b :: s :: cs, x :: xs, ⟨h1, h2, h3, h4, h5⟩ => by
    obtain ⟨A, c, e, g1, g2, g3, _⟩ := h4.open_
    exact ⟨h1, h2, h3, ⟨A, c, ⟨g1, g2⟩, e, g3⟩, h5.list⟩
theorem OrdOwn.map {w w' : World} {base base' : Nat} (f : ∀ u xs, OwnI w base 3 u xs → OwnI w' base' 3 u xs) : ∀ {cs : List Value} {xs : List Ord}, OrdOwn w base cs xs → OrdOwn w' base' cs xs
  | [], [], _ => trivial
  | _p :: _d :: _b :: _s :: _cs, _x :: _xs, ⟨h1, h2, h3, h4, h5⟩ => ⟨h1, h2, h3, f _ _ h4, h5.map f⟩
theorem OrdOwn.append {w : World} {base : Nat} : ∀ {cs : List Value} {xs : List Ord} {ds : List Value} {ys : List Ord}, OrdOwn w base cs xs → OrdOwn w base ds ys → OrdOwn w base (cs ++ ds) (xs ++ ys)
  | [], [], _, _, _, h => h
  | _p :: _d :: _b :: _s :: _cs, _x :: _xs, _ds, _ys, ⟨h1, h2, h3, h4, h5⟩, h => ⟨h1, h2, h3, h4, h5.append h⟩
def OwnOB (w : World) (base : Nat) (v : Value) (xs : List Ord) : Prop :=
  ∃ cs, w.ownsRow base 28 4 v xs.length cs ∧ OrdOwn w base cs xs
theorem OwnOB.nil (w : World) (base : Nat) : OwnOB w base (.slice none 0 0) [] := ⟨[], World.ownsRow_nil _ _ _ _, trivial⟩
theorem OwnOB.ext {w w' : World} {base : Nat} {v : Value} {xs : List Ord} (h : OwnOB w base v xs) (he : Ext w w') : OwnOB w' base v xs := by
  obtain ⟨cs, h1, h2⟩ := h
  exact ⟨cs, ownsRow_ext2 h1 he, h2.map fun _ _ g => g.ext he⟩
instance {w w' : World} {b : Nat} {v : Value} {xs : List Ord} : Lift (OwnOB w b v xs) w w' (OwnOB w' b v xs) := ⟨fun he h => h.ext he⟩
theorem OwnI.apartB {w W : World} {base b : Nat} {e : TypeId} {v : Value} {xs : List Int} (h : OwnI w base e v xs) (hb : b < base) (ha : Apart b w W) : OwnI W base e v xs :=
  h.apart (fun e => by have := (h.own_lt b e).1; omega) ha
theorem ownsRow_own {w : World} {base size n : Nat} {e : TypeId} {v : Value} {xs : List Value} (h : w.ownsRow base e size v n xs) (j : Nat) (hj : v.ownBlock = some j) : base ≤ j ∧ j < w.heap.size := by
  rcases h.2 with ⟨rfl, _⟩ | ⟨g, cap, cur, rfl, hg, hb, _⟩
  · cases hj
  · have : g = j := Option.some.inj hj
    subst this
    exact ⟨hg, (Array.getElem?_eq_some_iff.1 hb).1⟩
theorem OwnOB.apart {w W : World} {base b : Nat} {v : Value} {xs : List Ord} (h : OwnOB w base v xs) (hb : b < base) (ha : Apart b w W) : OwnOB W base v xs := by
  obtain ⟨cs, h1, h2⟩ := h
  exact ⟨cs, ownsRow_apart h1 (fun e => by have := (ownsRow_own h1 b e).1; omega) ha, h2.map fun _ _ g => g.apartB hb ha⟩
/-- a store into a block of another type -/
theorem OwnI.far {w : World} {base g : Nat} {t : TypeId} {cs : Array Value} {u : Value} {xs : List Int} (h : OwnI w base 3 u xs) (hb : Blk w g t cs) (hne : t ≠ 3) (i : Nat) (v : Value) : OwnI (w.setCell ⟨g, i, none⟩ v) base 3 u xs :=
  h.apart (fun e => h.ne_blk hb hne e.symm) ((Apart.refl g w).set_ i v)
theorem OwnOB.far {w : World} {base g : Nat} {t : TypeId} {cs : Array Value} {u : Value} {xs : List Ord} (h : OwnOB w base u xs) (hb : Blk w g t cs) (h1 : t ≠ 3) (h2 : t ≠ 28 ∨ g < base) (i : Nat) (v : Value) : OwnOB (w.setCell ⟨g, i, none⟩ v) base u xs := by
  obtain ⟨cs', g1, g2⟩ := h
  refine ⟨cs', ownsRow_apart g1 (fun e => ?_) ((Apart.refl g w).set_ i v), g2.map fun _ _ g => g.far hb h1 i v⟩
  rcases h2 with h2 | h2
  · exact ownsRow_ne_blk g1 hb h2 e.symm
  · have := (ownsRow_own g1 g e).1; omega
/-- a row of another type grows -/
theorem OwnI.grownT {w w' : World} {base base' size n : Nat} {e : TypeId} {u v : Value} {xs : List Int} {vs : List Value} (h : OwnI w base 3 u xs) (hne : e ≠ 3) (hg : w.grownBy w' v.ownBlock) (hv : w.ownsRow base' e size v n vs) : OwnI w' base 3 u xs := by
  obtain ⟨h1, h2⟩ := h
  refine ⟨h1, ?_⟩
  rcases h2 with h2 | ⟨g, cap, cur, rfl, hg1, hb, r⟩
  · exact .inl h2
  · refine .inr ⟨g, cap, cur, rfl, hg1, ?_, r⟩
    rw [← hb]
    refine hg.block g (Array.getElem?_eq_some_iff.1 hb).1 fun e' => ?_
    exact ownsRow_ne_blk hv (show Blk w g 3 cur from hb) (fun h => hne h.symm) e'
/-- an order more -/
theorem OwnOB.push {w w' : World} {base : Nat} {v v' s : Value} {cs : List Value} {xs : List Ord} {x : Ord} (h1 : w.ownsRow base 28 4 v xs.length cs) (h2 : OrdOwn w base cs xs) (hs : OwnI w base 3 s x.on)
    (hown : w'.ownsRow base 28 4 v' (xs.length + 1) (cs ++ [.int .i64 x.pattern, .int .i64 x.days, .int .i64 x.by_, s])) (hg : w.grownBy w' v.ownBlock) : OwnOB w' base v' (xs ++ [x]) := by
  refine ⟨_, by rw [List.length_append]; exact hown, ?_⟩
  exact OrdOwn.map (fun _ _ g => g.grownT (by decide) hg h1) (h2.append ⟨rfl, rfl, rfl, hs, trivial⟩)
theorem OwnOB.ords {w : World} {base : Nat} {v : Value} {xs : List Ord} (h : OwnOB w base v xs) : ∃ A c, v = .slice A xs.length c ∧ xs.length ≤ c ∧ c ≤ maxLen ∧ OrdsAt w A xs := by
  obtain ⟨cs, h1, h2⟩ := h
  obtain ⟨A, c, e, g1, g2, g3, _⟩ := OwnO.open_ (⟨cs, h1, h2.list⟩ : OwnO w base 28 v xs)
  exact ⟨A, c, e, g1, g2, g3⟩
end Go.Proofs.Pet
