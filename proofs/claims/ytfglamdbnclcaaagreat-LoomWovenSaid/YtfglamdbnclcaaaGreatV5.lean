/-
  A region that draws its order: some operations (those that turn or make memory) are done in any order that their edges let, all others float: each gives the same value wherever it is done, once those that it waits for are done.
-/
import Derived.Test.YtfglamdbnclcaaaGreatV0
namespace Go.Proofs.Pet
open Go Go.RowKit

/-- which of those that are left may be the next one -/
def en (l : List Oper) (rem : List (Nat × Bool)) : List (Nat × Bool) := rem.filter fun p => rem.all fun q => !((anc l p.1).contains q.1)
def rest (rem : List (Nat × Bool)) (k : Nat) : List (Nat × Bool) := rem.filter fun q => q.1 != k
def isM (ms : List (Nat × Bool)) (k : Nat) : Bool := ms.any fun p => p.1 == k
/-- which floating ones wait for none but the next one -/
def unl (l : List Oper) (n : Nat) (ms rem : List (Nat × Bool)) (k : Nat) : List Nat := (List.range n).filter fun d => !isM ms d && (anc l d).contains k && rem.all fun q => q.1 == k || !((anc l d).contains q.1)
def early (l : List Oper) (ms : List (Nat × Bool)) (d : Nat) : Bool := !isM ms d && ms.all fun q => !((anc l d).contains q.1)
def treeB (l : List Oper) (n : Nat) (ms : List (Nat × Bool)) (rs : List Nat) : Bool :=
  ((List.range n).all fun d => ((l[d]?.map edges).getD []).all fun e => (anc l d).contains e.on && (anc l e.on).all fun j => (anc l d).contains j) &&
    ms.all fun p => decide (p.1 < n) && (p.2 || (List.range n).all fun j => isM ms j || rs.contains j || (anc l p.1).contains j)
/-- floating ones, one by one -/
def Unlock (P : Program) (ops : Array Oper) (G : World → Prop) (hd : List Oper) (fr : (Nat → Value) → Act) (rs : List Nat) (C : (Nat → Value) → Prop) : List Nat → (Nat → Value) → Prop
  | [], y => C y
  | d :: ds, y => ∃ v, (∀ o, hd[d]? = some o → FloatOk P ops G fr (rs.contains d) o y v) ∧ Unlock P ops G hd fr rs C ds (upd y d v)
def Tree (P : Program) (ops : Array Oper) (G : World → Prop) (l : List Oper) (n : Nat) (hd tl : List Oper) (fr : (Nat → Value) → Act) (Q : Exit → Act → World → Prop) (ms : List (Nat × Bool)) (rs : List Nat) : Nat → List (Nat × Bool) → (Nat → Value) → World → Prop
  | 0, rem, y, W => rem = [] → wpList P ops Q tl (fr y) W
  | f + 1, rem, y, W => (rem = [] → wpList P ops Q tl (fr y) W) ∧ ∀ p ∈ en l rem, ∀ x, DepsE y x ((hd[p.1]?.map edges).getD []) → ∀ (K : Act → World → Prop) (Q' : Exit → Act → World → Prop),
      (∀ v W', (p.2 = true → G W') → Unlock P ops G hd fr rs (fun y' => Tree P ops G l n hd tl fr Q ms rs f (rest rem p.1) y' W') (unl l n ms rem p.1) (upd y p.1 v) → K ((fr x).put ((hd[p.1]?.map (·.dst)).getD none) v) W') → wpList P ops (Exit.then K Q') ((hd[p.1]?.map fun o => [o]).getD []) (fr x) W
/-- the goals of those that may be next -/
def TSteps (P : Program) (ops : Array Oper) (G : World → Prop) (l : List Oper) (n : Nat) (hd tl : List Oper) (fr : (Nat → Value) → Act) (Q : Exit → Act → World → Prop) (ms : List (Nat × Bool)) (rs : List Nat) (f : Nat) (rem : List (Nat × Bool)) (y : Nat → Value) (W : World) : List (Nat × Bool) → Prop
  | [] => True
  | p :: r => (∀ x, DepsE y x ((hd[p.1]?.map edges).getD []) → ∀ (K : Act → World → Prop) (Q' : Exit → Act → World → Prop),
      (∀ v W', (p.2 = true → G W') → Unlock P ops G hd fr rs (fun y' => Tree P ops G l n hd tl fr Q ms rs f (rest rem p.1) y' W') (unl l n ms rem p.1) (upd y p.1 v) → K ((fr x).put ((hd[p.1]?.map (·.dst)).getD none) v) W') → wpList P ops (Exit.then K Q') ((hd[p.1]?.map fun o => [o]).getD []) (fr x) W) ∧ TSteps P ops G l n hd tl fr Q ms rs f rem y W r
section
variable {P : Program} {ops : Array Oper} {w : World} {G : World → Prop} {hd tl : List Oper} {fr : (Nat → Value) → Act} {Q : Exit → Act → World → Prop} {ms : List (Nat × Bool)} {rs : List Nat} {l : List Oper} {n : Nat} {o : Oper} {k : Nat} {y : Nat → Value} {e : Bool} {W : World} {C : (Nat → Value) → Prop}
theorem Unlock.of {ds ds' : List Nat} (h : ds' = ds) (p : Unlock P ops G hd fr rs C ds y) : Unlock P ops G hd fr rs C ds' y := h ▸ p
theorem Unlock.nil (h : C y) : Unlock P ops G hd fr rs C [] y := h
theorem Unlock.float {d : Nat} {ds : List Nat} {v : Value} (ho : hd[d]? = some o) (hf : FloatOk P ops G fr (rs.contains d) o y v) (h : Unlock P ops G hd fr rs C ds (upd y d v)) : Unlock P ops G hd fr rs C (d :: ds) y :=
  ⟨v, fun o' ho' => by rw [ho] at ho'; cases ho'; exact hf, h⟩
theorem FloatOk.congr {y' : Nat → Value} {reg : Bool} {v : Value} (hf : FloatOk P ops G fr reg o y v) (h : ∀ e ∈ edges o, y' e.on = y e.on) : FloatOk P ops G fr reg o y' v :=
  fun x W he hd K Q hK => hf x W he (DepsE.congr h hd) K Q hK
theorem Unlock.split : ∀ (ds : List Nat) (y : Nat → Value), ds.Pairwise (· < ·) → (∀ d o, hd[d]? = some o → ∀ e ∈ edges o, e.on < d) → Unlock P ops G hd fr rs C ds y →
    ∃ y', (∀ j, j ∉ ds → y' j = y j) ∧ (∀ d o, d ∈ ds → hd[d]? = some o → FloatOk P ops G fr (rs.contains d) o y' (y' d)) ∧ C y'
  | [], y, _, _, h => ⟨y, fun _ _ => rfl, fun _ _ hd => by simp at hd, h⟩
  | d :: ds, y, hp, hlow, ⟨v, hv, h⟩ => by
    obtain ⟨hp1, hp2⟩ := List.pairwise_cons.1 hp
    obtain ⟨y', h1, h2, h3⟩ := Unlock.split ds _ hp2 hlow h
    have hd' : d ∉ ds := fun h => absurd (hp1 d h) (by omega)
    refine ⟨y', fun j hj => ?_, fun d' o hd ho => ?_, h3⟩
    · rw [List.mem_cons, not_or] at hj
      rw [h1 j hj.2]; unfold upd; rw [if_neg hj.1]
    · rcases List.mem_cons.1 hd with e | e
      · subst e
        have e1 : y' d' = v := by rw [h1 d' hd']; simp [upd]
        rw [e1]
        refine (hv o ho).congr fun e he => ?_
        have hlt := hlow d' o ho e he
        rw [h1 e.on fun h => by have := hp1 _ h; omega]
        unfold upd; rw [if_neg (by omega)]
      · exact h2 d' o e ho
theorem TSteps.mem {f : Nat} {rem : List (Nat × Bool)} : ∀ {r : List (Nat × Bool)}, TSteps P ops G l n hd tl fr Q ms rs f rem y W r → ∀ p ∈ r, ∀ x, DepsE y x ((hd[p.1]?.map edges).getD []) → ∀ (K : Act → World → Prop) (Q' : Exit → Act → World → Prop),
      (∀ v W', (p.2 = true → G W') → Unlock P ops G hd fr rs (fun y' => Tree P ops G l n hd tl fr Q ms rs f (rest rem p.1) y' W') (unl l n ms rem p.1) (upd y p.1 v) → K ((fr x).put ((hd[p.1]?.map (·.dst)).getD none) v) W') → wpList P ops (Exit.then K Q') ((hd[p.1]?.map fun o => [o]).getD []) (fr x) W
  | _ :: _, h, p, hp => by
    rcases List.mem_cons.1 hp with h1 | h1
    · subst h1; exact h.1
    · exact TSteps.mem h.2 p h1
theorem Tree.next {f : Nat} {rem ks : List (Nat × Bool)} (hk : (rem.isEmpty, en l rem) = (false, ks)) (h : TSteps P ops G l n hd tl fr Q ms rs f rem y W ks) : Tree P ops G l n hd tl fr Q ms rs (f + 1) rem y W := by
  simp only [Prod.mk.injEq] at hk
  refine ⟨fun e => ?_, fun p hp => ?_⟩
  · rw [e] at hk; exact absurd hk.1 (by decide)
  · rw [hk.2] at hp
    exact TSteps.mem h p hp
theorem TSteps.cons {f : Nat} {rem r : List (Nat × Bool)} (o : Oper) (ho : hd[k]? = some o) (h : ∀ x, DepsE y x (edges o) → ∀ (K : Act → World → Prop) (Q' : Exit → Act → World → Prop),
      (∀ v W', (e = true → G W') → Unlock P ops G hd fr rs (fun y' => Tree P ops G l n hd tl fr Q ms rs f (rest rem k) y' W') (unl l n ms rem k) (upd y k v) → K ((fr x).put o.dst v) W') → wpList P ops (Exit.then K Q') [o] (fr x) W) (hr : TSteps P ops G l n hd tl fr Q ms rs f rem y W r) : TSteps P ops G l n hd tl fr Q ms rs f rem y W ((k, e) :: r) := by
  refine ⟨?_, hr⟩
  simp only [ho]
  exact h
theorem Tree.nil {f : Nat} {rem : List (Nat × Bool)} (hk : rem = []) (h : wpList P ops Q tl (fr y) W) : Tree P ops G l n hd tl fr Q ms rs f rem y W := by
  subst hk
  cases f with
  | zero => exact fun _ => h
  | succ f => exact ⟨fun _ => h, fun p hp => by simp [en] at hp⟩
/-- where ways meet again -/
theorem Tree.cut {f f' : Nat} {rem rem' : List (Nat × Bool)} (R : (Nat → Value) → (Nat → Value) → World → Prop) (h : ∀ y' W', R y y' W' → Tree P ops G l n hd tl fr Q ms rs f' rem' y' W')
    (k : (∀ y' W', R y y' W' → Tree P ops G l n hd tl fr Q ms rs f' rem' y' W') → Tree P ops G l n hd tl fr Q ms rs f rem y W) : Tree P ops G l n hd tl fr Q ms rs f rem y W := k h
theorem Tree.eq {f : Nat} {rem rem' : List (Nat × Bool)} (h : rem = rem') (p : Tree P ops G l n hd tl fr Q ms rs f rem' y W) : Tree P ops G l n hd tl fr Q ms rs f rem y W := h ▸ p
end
theorem upd_comm {y : Nat → Value} {a b : Nat} {u v : Value} (h : a ≠ b) : upd (upd y a u) b v = upd (upd y b v) a u := by
  funext j
  unfold upd
  by_cases h1 : j = b
  · subst h1; rw [if_pos rfl, if_neg (fun e => h e.symm), if_pos rfl]
  · rw [if_neg h1, if_neg h1]
/-- what is known while such a region goes on -/
def TreeS (P : Program) (ops : Array Oper) (G : World → Prop) (l : List Oper) (n : Nat) (hd tl : List Oper) (fr : (Nat → Value) → Act) (Q : Exit → Act → World → Prop) (ms : List (Nat × Bool)) (rs : List Nat) (Ld : Nat → Prop) (x : Nat → Value) (W : World) : Prop :=
  ∃ f rem y, rem.length ≤ f ∧ (∀ p ∈ rem, p ∈ ms) ∧ (∀ p ∈ ms, p ∈ rem ∨ Ld p.1) ∧ (∀ p ∈ rem, ¬ Ld p.1) ∧
    (∀ d o, hd[d]? = some o → isM ms d = false → (∀ q ∈ rem, (anc l d).contains q.1 = false) → FloatOk P ops G fr (rs.contains d) o y (y d)) ∧
    (∀ j, j < n → Ld j → x j = y j) ∧
    Tree P ops G l n hd tl fr Q ms rs f rem y W ∧ ((∀ p ∈ ms, Ld p.1 → p.2 = true) → G W) ∧ ((∀ p ∈ ms, Ld p.1 → p.2 = true) ∨ ∀ j, j < n → isM ms j = false → rs.contains j = false → Ld j)
theorem filter_len_lt {α : Type} {p : α → Bool} : ∀ {l : List α} {a : α}, a ∈ l → p a = false → (l.filter p).length < l.length
  | b :: l, a, h, hp => by
    rcases List.mem_cons.1 h with h1 | h1
    · subst h1
      rw [List.filter_cons_of_neg (by simp [hp])]
      have := List.length_filter_le p l
      simp only [List.length_cons]; omega
    · have := filter_len_lt h1 hp
      by_cases hb : p b = true
      · rw [List.filter_cons_of_pos hb]; simp only [List.length_cons]; omega
      · rw [List.filter_cons_of_neg hb]; simp only [List.length_cons]; omega
theorem isM_ne {ms : List (Nat × Bool)} {i : Nat} (h : isM ms i = false) {p : Nat × Bool} (hp : p ∈ ms) : p.1 ≠ i := fun h2 => by
  have : isM ms i = true := List.any_eq_true.2 ⟨p, hp, by simp [h2]⟩
  rw [h] at this; cases this
theorem wp_region_treeG {P : Program} {id : Nat} {Q : Exit → Act → World → Prop} {a : Act} {w : World} {l : List Oper} (G : World → Prop) (hG : G w.drew) (n : Nat) (ms : List (Nat × Bool)) (rs : List Nat) (hm : P.follows .mixedOrders = true) (hB : headB2 l n = true) (hC : treeB l n ms rs = true) {ds : List Nat} (hds : (List.range n).filter (early l ms) = ds)
    (h : Unlock P l.toArray G (l.take n) (fun x => fill (l.take n) 0 x a) rs (fun y => ∀ W, Ext w W → G W → Tree P l.toArray G l n (l.take n) (l.drop n) (fun x => fill (l.take n) 0 x a) Q ms rs ms.length ms y W) ds (fun _ => undef)) :
    (Code.region id l.toArray true).wp P Q a w := by
  have hB' := hB
  simp only [headB2, Bool.and_eq_true, decide_eq_true_eq, Bool.or_eq_true, List.all_eq_true, List.mem_range] at hB'
  obtain ⟨⟨⟨⟨hn, hdist⟩, _⟩, _⟩, hlow⟩ := hB'
  have htk : ∀ i o, (l.take n)[i]? = some o → i < n ∧ l[i]? = some o := fun i o hi => by
    have hin : i < n := by have := (List.getElem?_eq_some_iff.1 hi).1; simp at this; omega
    exact ⟨hin, by rw [List.getElem?_take] at hi; simpa [hin] using hi⟩
  have hlow2 : ∀ i o, (l.take n)[i]? = some o → ∀ e ∈ edges o, e.on < i := fun i o hi e he => by
    obtain ⟨hin, ho⟩ := htk i o hi
    have h1 := hlow i hin
    rw [ho] at h1
    obtain ⟨he, hbe⟩ := List.mem_filter.1 he
    have h2 := Array.all_eq_true'.1 h1 e (by simpa using he)
    simp only [hbe, Bool.not_true, Bool.false_or, decide_eq_true_eq] at h2
    omega
  have hpw : ∀ p : Nat → Bool, ((List.range n).filter p).Pairwise (· < ·) := fun p => List.Pairwise.filter _ List.pairwise_lt_range
  obtain ⟨y0, _, hfl, hch⟩ := Unlock.split ds _ (hds ▸ hpw _) hlow2 h
  simp only [treeB, Bool.and_eq_true, List.all_eq_true, List.mem_range] at hC
  obtain ⟨hc1, hc3⟩ := hC
  have htr : ∀ d o, (l.take n)[d]? = some o → ∀ e ∈ edges o, (anc l d).contains e.on = true ∧ ∀ j, (anc l e.on).contains j = true → (anc l d).contains j = true := fun d o hd e he => by
    obtain ⟨hin, ho⟩ := htk d o hd
    have h1 := hc1 d hin
    rw [ho] at h1
    simp only [Option.map_some, Option.getD_some] at h1
    obtain ⟨h2, h3⟩ := h1 e he
    exact ⟨h2, fun j hj => h3 j (by simpa using hj)⟩
  refine wp_region_stage n hm hB (TreeS P l.toArray G l n (l.take n) (l.drop n) (fun x => fill (l.take n) 0 x a) Q ms rs) (fun _ _ => True)
    (fun x => ⟨ms.length, ms, y0, Nat.le_refl _, fun _ h => h, fun p hp => .inl hp, fun p _ h => h, fun d o hd hmd hq => hfl d o ?_ hd, fun p _ h => h.elim, hch _ (Ext.drew w) hG, fun _ => hG, .inl fun p _ h => h.elim⟩) ?_ ?_
  · rw [← hds]
    refine List.mem_filter.2 ⟨List.mem_range.2 (htk d o hd).1, ?_⟩
    unfold early
    rw [hmd, Bool.not_false, Bool.true_and, List.all_eq_true]
    intro q hq'
    rw [hq q hq']; rfl
  · refine allOps3_mk (l.take n) 0 fun i o hi Ld x W hS hcl hnl hdl _ K Q' hK => ?_
    rw [Nat.zero_add] at hnl hK
    obtain ⟨hin, ho⟩ := htk i o hi
    obtain ⟨f, rem, y, hlen, hsub, hdone, hsuf, hfo, hxy, hchn, hext, hrd⟩ := hS
    have hanc : ∀ j, (anc l i).contains j = true → Ld j := fun j hj => by
      unfold anc at hj
      rw [ho] at hj
      refine closeB_ok (l := l) (n := n) hcl (by omega) ?_ j hj
      intro j hj
      simp only [Option.map_some, Option.getD_some, List.mem_map] at hj
      obtain ⟨e, he, rfl⟩ := hj
      exact depsL_mem hdl e he
    have hdepE : DepsE y x (edges o) := depsE_mk fun e he => hxy _ (by have := hlow2 i o hi e he; omega) (depsL_mem hdl e he)
    by_cases hmi : isM ms i = true
    · obtain ⟨⟨i', e⟩, hp, hpi⟩ := List.any_eq_true.1 hmi
      simp only [beq_iff_eq] at hpi
      subst hpi
      have hps : (i', e) ∈ rem := (hdone _ hp).resolve_right hnl
      have hen : (i', e) ∈ en l rem := by
        refine List.mem_filter.2 ⟨hps, List.all_eq_true.2 fun q hq => ?_⟩
        rw [Bool.not_eq_true']
        exact Bool.eq_false_iff.2 fun h1 => hsuf q hq (hanc _ h1)
      have hdeps : DepsE y x ((((l.take n)[i']?).map edges).getD []) := by rw [hi]; exact hdepE
      obtain ⟨f, rfl⟩ : ∃ g, f = g + 1 := by
        cases f with
        | zero => exact absurd hps (by rw [List.length_eq_zero_iff.1 (by omega : rem.length = 0)]; simp)
        | succ g => exact ⟨g, rfl⟩
      have hrun := hchn.2 _ hen x hdeps K Q'
      rw [hi] at hrun
      simp only [Option.map_some, Option.getD_some] at hrun
      refine hrun fun v W' hev hrest => hK v W' trivial ?_
      obtain ⟨y', u1, u2, u3⟩ := Unlock.split (unl l n ms rem i') _ (hpw _) hlow2 hrest
      have hds : ∀ d, d ∈ unl l n ms rem i' ↔ d < n ∧ isM ms d = false ∧ (anc l d).contains i' = true ∧ ∀ q ∈ rem, q.1 = i' ∨ (anc l d).contains q.1 = false := fun d => by
        unfold unl
        rw [List.mem_filter, List.mem_range]
        simp only [Bool.and_eq_true, Bool.not_eq_true', List.all_eq_true, Bool.or_eq_true, beq_iff_eq, and_assoc]
      -- what was known stays
      have hold : ∀ j, j ≠ i' → ((anc l j).contains i' = false ∨ isM ms j = true) → y' j = y j := fun j hne hj => by
        rw [u1 j fun h => ?_]
        · unfold upd; rw [if_neg hne]
        · obtain ⟨_, h2, h3, _⟩ := (hds j).1 h
          rcases hj with hj | hj
          · rw [hj] at h3; cases h3
          · rw [hj] at h2; cases h2
      have hi'' : y' i' = v := by
        rw [u1 i' fun h => ?_]
        · simp [upd]
        · obtain ⟨_, h2, _⟩ := (hds i').1 h
          rw [hmi] at h2; cases h2
      refine ⟨f, rest rem i', y', ?_, ?_, ?_, ?_, ?_, ?_, u3, ?_, ?_⟩
      · have : (rest rem i').length < rem.length := filter_len_lt hps (by simp)
        omega
      · exact fun p hp => hsub p (List.mem_filter.1 hp).1
      · intro p hp
        by_cases h1 : p.1 = i'
        · exact .inr (.inr h1)
        · rcases hdone p hp with h2 | h2
          · exact .inl (List.mem_filter.2 ⟨h2, by simpa using h1⟩)
          · exact .inr (.inl h2)
      · intro p hp h1
        obtain ⟨h2, h3⟩ := List.mem_filter.1 hp
        exact h1.elim (hsuf p h2) (by simpa using h3)
      · intro d od hd hmd hq
        have hq' : ∀ q ∈ rem, q.1 = i' ∨ (anc l d).contains q.1 = false := fun q hqr => by
          by_cases h1 : q.1 = i'
          · exact .inl h1
          · exact .inr (hq q (List.mem_filter.2 ⟨hqr, by simpa using h1⟩))
        cases hci : (anc l d).contains i' with
        | true => exact u2 d od ((hds d).2 ⟨(htk d od hd).1, hmd, hci, hq'⟩) hd
        | false =>
          have hne : d ≠ i' := fun h => by subst h; rw [hmd] at hmi; cases hmi
          rw [hold d hne (.inl hci)]
          refine (hfo d od hd hmd fun q hqr => ?_).congr fun e he => ?_
          · rcases hq' q hqr with h1 | h1
            · rw [h1]; exact hci
            · exact h1
          · obtain ⟨h1, h2⟩ := htr d od hd e he
            refine hold e.on (fun h => ?_) (.inl ?_)
            · rw [h, hci] at h1; cases h1
            · cases h3 : (anc l e.on).contains i' with
              | false => rfl
              | true => rw [h2 _ h3] at hci; cases hci
      · intro j hj hl
        by_cases hji : j = i'
        · subst hji; rw [hi'']; simp [upd]
        · have hl' := hl.resolve_right hji
          have h1 : y' j = y j := by
            cases hmj : isM ms j with
            | true => exact hold j hji (.inr hmj)
            | false =>
              refine hold j hji (.inl ?_)
              cases h3 : (anc l j).contains i' with
              | false => rfl
              | true =>
                exfalso
                have : Ld i' := by
                  cases hoj : l[j]? with
                  | none => rw [show anc l j = closeB l j [] by unfold anc; rw [hoj]; rfl] at h3; exact closeB_ok (l := l) (n := n) hcl (by omega) (fun j hj => by simp at hj) _ h3
                  | some oj =>
                    have hdj := hcl.at_ _ _ j oj (by rw [List.getElem?_take]; simp [hj, hoj]) (by rw [Nat.zero_add]; exact hl')
                    unfold anc at h3
                    rw [hoj] at h3
                    refine closeB_ok (l := l) (n := n) hcl (by omega) ?_ _ h3
                    intro j' hj'
                    simp only [Option.map_some, Option.getD_some, List.mem_map] at hj'
                    obtain ⟨e, he, rfl⟩ := hj'
                    exact depsL_mem hdj e he
                exact hnl this
          rw [h1]; unfold upd; rw [if_neg hji]
          exact hxy j hj hl'
      · intro hall
        exact hev (hall (i', e) hp (.inr rfl))
      · have hF : ∀ p ∈ ms, p.1 = i' → p.2 = false → ∀ j, j < n → isM ms j = false → rs.contains j = false → Ld j := fun p h6 h7 h8 j hj hmj hrj => by
          have h4 := hc3 p h6
          simp only [h8, Bool.false_or, List.all_eq_true, List.mem_range, decide_eq_true_eq] at h4
          have h9 := h4.2 j hj
          rw [hmj, hrj, h7] at h9
          exact hanc j (by simpa using h9)
        rcases hrd with h1 | h1
        · by_cases h5 : ∃ p ∈ ms, p.1 = i' ∧ p.2 = false
          · obtain ⟨p, h6, h7, h8⟩ := h5
            exact .inr fun j hj hmj hrj => .inl (hF p h6 h7 h8 j hj hmj hrj)
          · refine .inl fun p hp hl => ?_
            rcases hl with h2 | h2
            · exact h1 p hp h2
            · cases h3 : p.2 with
              | true => rfl
              | false => exact absurd ⟨p, hp, h2, h3⟩ h5
        · exact .inr fun j hj hmj hrj => .inl (h1 j hj hmj hrj)
    · have hmi' : isM ms i = false := Bool.eq_false_iff.2 hmi
      have hne : ∀ p ∈ ms, p.1 ≠ i := fun p hp => isM_ne hmi' hp
      have hf := hfo i o hi hmi' fun q hq => by
        cases h3 : (anc l i).contains q.1 with
        | false => rfl
        | true => exact absurd (hanc _ h3) (hsuf q hq)
      refine hf x W (fun hr => ?_) hdepE K Q' (hK (y i) W trivial ⟨f, rem, y, hlen, hsub, fun p hp => (hdone p hp).imp (fun h => h) .inl, fun p hp h1 => h1.elim (hsuf p hp) (hne p (hsub p hp)), hfo, fun j hj hl => ?_, hchn, fun hall => hext fun p hp hl => hall p hp (.inl hl), ?_⟩)
      · rcases hrd with h1 | h1
        · exact hext h1
        · exact absurd (h1 i hin hmi' hr) hnl
      · by_cases hji : j = i
        · subst hji; simp [upd]
        · unfold upd; rw [if_neg hji]; exact hxy j hj (hl.resolve_right hji)
      · rcases hrd with h1 | h1
        · exact .inl fun p hp hl => h1 p hp (hl.resolve_right (hne p hp))
        · exact .inr fun j hj hmj hrj => .inl (h1 j hj hmj hrj)
  · intro x W hS _
    obtain ⟨f, rem, y, hlen, hsub, hdone, hsuf, hfo, hxy, hchn, _, _⟩ := hS
    have hlt : ∀ p ∈ ms, p.1 < n := fun p hp => by
      have h4 := hc3 p hp
      simp only [decide_eq_true_eq] at h4
      exact h4.1
    have hnil : rem = [] := by
      cases rem with
      | nil => rfl
      | cons p r => exact absurd (hlt p (hsub p (by simp))) (hsuf p (by simp))
    subst hnil
    rw [fill_congr' (l.take n) 0 x y a fun j _ hj => hxy j (by simp at hj; omega) (by simp at hj; omega)]
    cases f with
    | zero => exact hchn rfl
    | succ f => exact hchn.1 rfl
end Go.Proofs.Pet
