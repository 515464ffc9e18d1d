/-
  A region that draws its order, in which all operations but a forced chain of some float: a floating one gives the same value wherever it is done.
-/
import Derived.Test.YtfglamdbnclcaaaGreatP01
namespace Go.Proofs.Pet
open Go Go.RowKit

def edges (o : Oper) : List Edge := o.after.toList.filter (Region.binds .any)
def DepsE (y x : Nat → Value) : List Edge → Prop
  | [] => True
  | e :: l => x e.on = y e.on ∧ DepsE y x l
def closeB (l : List Oper) : Nat → List Nat → List Nat
  | 0, s => s
  | i + 1, s => closeB l i (if s.contains i then s ++ ((l[i]?.map edges).getD []).map (·.on) else s)
/-- what must be done before an operation -/
def anc (l : List Oper) (k : Nat) : List Nat := closeB l k (((l[k]?.map edges).getD []).map (·.on))
def chainOrd (l : List Oper) : List (Nat × Bool) → Bool
  | [] => true
  | [_] => true
  | p :: q :: r => (anc l q.1).contains p.1 && chainOrd l (q :: r)
/-- all but ms (the second says: it only makes memory) float, those of rs in whatever memory -/
def chainB2 (l : List Oper) (n : Nat) (ms : List (Nat × Bool)) (rs : List Nat) : Bool :=
  ((List.range n).all fun k => ms.any (fun p => p.1 == k) || ((l[k]?.map edges).getD []).all fun e => !(ms.any fun p => p.1 == e.on)) && chainOrd l ms &&
    ms.all fun p => decide (p.1 < n) && (p.2 || (List.range n).all fun j => ms.any (fun q => q.1 == j) || rs.contains j || (anc l p.1).contains j)
theorem depsE_mk {y x : Nat → Value} : ∀ {l : List Edge}, (∀ e ∈ l, x e.on = y e.on) → DepsE y x l
  | [], _ => trivial
  | e :: _, h => ⟨h e (by simp), depsE_mk fun e' he => h e' (by simp [he])⟩
theorem depsL_mem {Ld : Nat → Prop} : ∀ {l : List Edge}, DepsL Ld l → ∀ e ∈ l, Ld e.on
  | _ :: _, h, e', he => by
    rcases List.mem_cons.1 he with h1 | h1
    · subst h1; exact h.1
    · exact depsL_mem h.2 e' h1
theorem Closed.at_ {Ld : Nat → Prop} : ∀ (l : List Oper) (k : Nat), Closed Ld l k → ∀ i o, l[i]? = some o → Ld (k + i) → DepsL Ld (edges o)
  | [], _, _, i, o, hi, _ => by simp at hi
  | o :: l, k, h, i, o', hi, hl => by
    rcases i with _ | i
    · simp only [List.getElem?_cons_zero, Option.some.injEq] at hi
      subst hi
      exact h.1 hl
    · exact Closed.at_ l (k + 1) h.2 i o' (by simpa using hi) (by rwa [show k + 1 + i = k + (i + 1) by omega])
theorem closeB_ok {l : List Oper} {n : Nat} {Ld : Nat → Prop} (hcl : Closed Ld (l.take n) 0) : ∀ {i : Nat} {s : List Nat}, i ≤ n → (∀ j ∈ s, Ld j) → ∀ j, (closeB l i s).contains j = true → Ld j
  | 0, s, _, h, j, hj => h j (by simpa [closeB] using hj)
  | i + 1, s, hi, h, j, hj => by
    unfold closeB at hj
    refine closeB_ok hcl (by omega) ?_ j hj
    intro j hj
    split at hj
    · rename_i hs
      rcases List.mem_append.1 hj with h1 | h1
      · exact h j h1
      · obtain ⟨e, he, rfl⟩ := List.mem_map.1 h1
        cases ho : l[i]? with
        | none => rw [ho] at he; simp at he
        | some o =>
          rw [ho] at he
          simp only [Option.map_some, Option.getD_some] at he
          have hLi : Ld (0 + i) := by rw [Nat.zero_add]; exact h i (by simpa using hs)
          exact depsL_mem (hcl.at_ _ _ i o (by rw [List.getElem?_take]; simp [show i < n by omega, ho]) hLi) e he
    · exact h j hj
theorem chainOrd_suffix {l : List Oper} : ∀ (pre : List (Nat × Bool)) {s : List (Nat × Bool)}, chainOrd l (pre ++ s) = true → chainOrd l s = true
  | [], _, h => h
  | [p], s, h => by
    cases s with
    | nil => rfl
    | cons q r =>
      simp only [List.cons_append, List.nil_append, chainOrd, Bool.and_eq_true] at h
      exact h.2
  | p :: q :: r, s, h => by
    simp only [List.cons_append, chainOrd, Bool.and_eq_true] at h
    exact chainOrd_suffix (q :: r) h.2
theorem chainOrd_pred {l : List Oper} : ∀ {r : List (Nat × Bool)} {p q : Nat × Bool}, chainOrd l (p :: r) = true → q ∈ r → ∃ p', p' ∈ p :: r ∧ (anc l q.1).contains p'.1 = true
  | q' :: r, p, q, h, hq => by
    simp only [chainOrd, Bool.and_eq_true] at h
    rcases List.mem_cons.1 hq with h1 | h1
    · subst h1; exact ⟨p, by simp, h.1⟩
    · obtain ⟨p', hp, hc⟩ := chainOrd_pred h.2 h1
      exact ⟨p', by simp only [List.mem_cons] at hp ⊢; exact .inr hp, hc⟩
theorem fill_congr' (l : List Oper) : ∀ (k : Nat) (x y : Nat → Value) (a : Act), (∀ j, k ≤ j → j < k + l.length → x j = y j) → fill l k x a = fill l k y a := by
  induction l with
  | nil => intro k x y a _; rfl
  | cons o l ih =>
    intro k x y a h
    simp only [fill]
    rw [h k (Nat.le_refl _) (by simp)]
    exact ih (k + 1) x y _ fun j h1 h2 => h j (by omega) (by simp; omega)

def Chain (P : Program) (ops : Array Oper) (G : World → Prop) (hd tl : List Oper) (fr : (Nat → Value) → Act) (Q : Exit → Act → World → Prop) : List (Nat × Bool) → (Nat → Value) → World → Prop
  | [], y, W => wpList P ops Q tl (fr y) W
  | (k, e) :: ms, y, W => ∀ x, DepsE y x ((hd[k]?.map edges).getD []) → ∀ (K : Act → World → Prop) (Q' : Exit → Act → World → Prop),
      (∀ v W', (e = true → G W') → Chain P ops G hd tl fr Q ms (upd y k v) W' → K ((fr x).put ((hd[k]?.map (·.dst)).getD none) v) W') → wpList P ops (Exit.then K Q') ((hd[k]?.map fun o => [o]).getD []) (fr x) W
def FloatOk (P : Program) (ops : Array Oper) (G : World → Prop) (fr : (Nat → Value) → Act) (reg : Bool) (o : Oper) (y : Nat → Value) (v : Value) : Prop :=
  ∀ (x : Nat → Value) (W : World), (reg = false → G W) → DepsE y x (edges o) → ∀ (K : Act → World → Prop) (Q : Exit → Act → World → Prop), K ((fr x).put o.dst v) W → wpList P ops (Exit.then K Q) [o] (fr x) W
def Floats (P : Program) (ops : Array Oper) (w : World) (G : World → Prop) (hd tl : List Oper) (fr : (Nat → Value) → Act) (Q : Exit → Act → World → Prop) (ms : List (Nat × Bool)) (rs : List Nat) : List Oper → Nat → (Nat → Value) → Prop
  | [], _, y => ∀ W, Ext w W → G W → Chain P ops G hd tl fr Q ms y W
  | o :: l, k, y => if ms.any (fun p => p.1 == k) then Floats P ops w G hd tl fr Q ms rs l (k + 1) y else ∃ v, FloatOk P ops G fr (rs.contains k) o y v ∧ Floats P ops w G hd tl fr Q ms rs l (k + 1) (upd y k v)
theorem DepsE.congr {y z x : Nat → Value} : ∀ {l : List Edge}, (∀ e ∈ l, y e.on = z e.on) → DepsE y x l → DepsE z x l
  | [], _, _ => trivial
  | e :: l, h, hd => ⟨by rw [← h e (by simp)]; exact hd.1, DepsE.congr (fun e' he => h e' (by simp [he])) hd.2⟩
theorem Floats.split {P : Program} {ops : Array Oper} {w : World} {G : World → Prop} {hd tl : List Oper} {fr : (Nat → Value) → Act} {Q : Exit → Act → World → Prop} {ms : List (Nat × Bool)} {rs : List Nat} :
    ∀ (l : List Oper) (k : Nat) (y : Nat → Value), (∀ i o, l[i]? = some o → ∀ e ∈ edges o, e.on < k + i) → Floats P ops w G hd tl fr Q ms rs l k y →
      ∃ z, (∀ j, j < k → z j = y j) ∧ (∀ i o, l[i]? = some o → ms.any (fun p => p.1 == k + i) = false → FloatOk P ops G fr (rs.contains (k + i)) o z (z (k + i))) ∧ ∀ W, Ext w W → G W → Chain P ops G hd tl fr Q ms z W
  | [], k, y, _, h => ⟨y, fun _ _ => rfl, fun i o hi => by simp at hi, h⟩
  | o :: l, k, y, hlow, h => by
    have hlow' : ∀ i o', l[i]? = some o' → ∀ e ∈ edges o', e.on < k + 1 + i := fun i o' hi e he => by
      have := hlow (i + 1) o' (by simpa using hi) e he
      omega
    unfold Floats at h
    by_cases hm : ms.any (fun p => p.1 == k) = true
    · rw [if_pos hm] at h
      obtain ⟨z, h1, h2, h3⟩ := Floats.split l (k + 1) y hlow' h
      refine ⟨z, fun j hj => h1 j (by omega), fun i o' hi hf => ?_, h3⟩
      rcases i with _ | i
      · rw [Nat.add_zero, hm] at hf; cases hf
      · rw [show k + (i + 1) = k + 1 + i by omega] at hf ⊢
        exact h2 i o' (by simpa using hi) hf
    · rw [if_neg hm] at h
      obtain ⟨v, hv, h⟩ := h
      obtain ⟨z, h1, h2, h3⟩ := Floats.split l (k + 1) _ hlow' h
      have hzk : z k = v := by rw [h1 k (by omega)]; simp [upd]
      refine ⟨z, fun j hj => by rw [h1 j (by omega)]; unfold upd; rw [if_neg (by omega)], fun i o' hi hf => ?_, h3⟩
      rcases i with _ | i
      · simp only [List.getElem?_cons_zero, Option.some.injEq] at hi
        subst hi
        rw [Nat.add_zero, hzk]
        intro x W he hd' K Q' hK
        refine hv x W he (DepsE.congr (fun e he => ?_) hd') K Q' hK
        have hlt := hlow 0 o rfl e he
        rw [h1 e.on (by omega)]; unfold upd; rw [if_neg (by omega)]
      · rw [show k + (i + 1) = k + 1 + i by omega] at hf ⊢
        exact h2 i o' (by simpa using hi) hf
/-- what is known while a region with floating operations and a forced chain goes on -/
def ChainS (P : Program) (ops : Array Oper) (G : World → Prop) (hd tl : List Oper) (fr : (Nat → Value) → Act) (Q : Exit → Act → World → Prop) (ms : List (Nat × Bool)) (rs : List Nat) (n : Nat) (z : Nat → Value) (Ld : Nat → Prop) (x : Nat → Value) (W : World) : Prop :=
  (∀ i, i < n → ms.any (fun p => p.1 == i) = false → Ld i → x i = z i) ∧ ∃ pre ms' y, ms = pre ++ ms' ∧ (∀ p ∈ pre, Ld p.1) ∧ (∀ p ∈ ms', ¬ Ld p.1) ∧ (∀ i, ms.any (fun p => p.1 == i) = false → y i = z i) ∧ (∀ p ∈ pre, x p.1 = y p.1) ∧
    Chain P ops G hd tl fr Q ms' y W ∧ ((∀ p ∈ pre, p.2 = true) → G W) ∧ ((∀ p ∈ pre, p.2 = true) ∨ ∀ j, j < n → ms.any (fun p => p.1 == j) = false → rs.contains j = false → Ld j)
section
variable {P : Program} {ops : Array Oper} {w : World} {G : World → Prop} {hd tl : List Oper} {fr : (Nat → Value) → Act} {Q : Exit → Act → World → Prop} {ms : List (Nat × Bool)} {rs : List Nat} {l : List Oper} {o : Oper} {k : Nat} {y : Nat → Value} {e : Bool} {W : World}
theorem Floats.mut (hk : ms.any (fun p => p.1 == k) = true) (h : Floats P ops w G hd tl fr Q ms rs l (k + 1) y) : Floats P ops w G hd tl fr Q ms rs (o :: l) k y := by
  unfold Floats; rw [if_pos hk]; exact h
theorem Floats.float {v : Value} (hk : ms.any (fun p => p.1 == k) = false) (hf : FloatOk P ops G fr (rs.contains k) o y v) (h : Floats P ops w G hd tl fr Q ms rs l (k + 1) (upd y k v)) : Floats P ops w G hd tl fr Q ms rs (o :: l) k y := by
  unfold Floats; rw [if_neg (by rw [hk]; decide)]; exact ⟨v, hf, h⟩
theorem Floats.done (h : ∀ W, Ext w W → G W → Chain P ops G hd tl fr Q ms y W) : Floats P ops w G hd tl fr Q ms rs [] k y := h
theorem Chain.cons (o : Oper) (ho : hd[k]? = some o) (h : ∀ x, DepsE y x (edges o) → ∀ (K : Act → World → Prop) (Q' : Exit → Act → World → Prop),
      (∀ v W', (e = true → G W') → Chain P ops G hd tl fr Q ms (upd y k v) W' → K ((fr x).put o.dst v) W') → wpList P ops (Exit.then K Q') [o] (fr x) W) : Chain P ops G hd tl fr Q ((k, e) :: ms) y W := by
  unfold Chain; rw [ho]; exact h
theorem Chain.nil (h : wpList P ops Q tl (fr y) W) : Chain P ops G hd tl fr Q [] y W := h
end
theorem allOps3_mk {P : Program} {ops : Array Oper} {hd : List Oper} {S : (Nat → Prop) → (Nat → Value) → World → Prop} {R : Nat → Value → Prop} {fr : (Nat → Value) → Act} : ∀ (l : List Oper) (k : Nat),
    (∀ (i : Nat) (o : Oper), l[i]? = some o → ∀ (Ld : Nat → Prop) (x : Nat → Value) (w : World), S Ld x w → Closed Ld hd 0 → ¬ Ld (k + i) → DepsL Ld (o.after.toList.filter (Region.binds .any)) → DepsV R x (o.after.toList.filter (Region.binds .any)) → ∀ (K : Act → World → Prop) (Q : Exit → Act → World → Prop),
      (∀ v w', R (k + i) v → S (fun j => Ld j ∨ j = k + i) (upd x (k + i) v) w' → K ((fr x).put o.dst v) w') → wpList P ops (Exit.then K Q) [o] (fr x) w) → AllOps3 P ops hd S R fr l k
  | [], _, _ => trivial
  | o :: l, k, h => ⟨h 0 o rfl, allOps3_mk l (k + 1) fun i o' hi => by
      have := h (i + 1) o' (by simpa using hi)
      rw [show k + (i + 1) = k + 1 + i by omega] at this
      exact this⟩
theorem wp_region_chainG {P : Program} {id : Nat} {Q : Exit → Act → World → Prop} {a : Act} {w : World} {l : List Oper} (G : World → Prop) (hG : G w.drew) (n : Nat) (ms : List (Nat × Bool)) (rs : List Nat) (hm : P.follows .mixedOrders = true) (hB : headB2 l n = true) (hC : chainB2 l n ms rs = true)
    (h : Floats P l.toArray w G (l.take n) (l.drop n) (fun x => fill (l.take n) 0 x a) Q ms rs (l.take n) 0 (fun _ => undef)) :
    (Code.region id l.toArray true).wp P Q a w := by
  have hB' := hB
  simp only [headB2, Bool.and_eq_true, decide_eq_true_eq, Bool.or_eq_true, List.all_eq_true, List.mem_range] at hB'
  obtain ⟨⟨⟨⟨hn, hdist⟩, _⟩, _⟩, hlow⟩ := hB'
  have hlow2 : ∀ i o, (l.take n)[i]? = some o → ∀ e ∈ edges o, e.on < 0 + i := fun i o hi e he => by
    have hin : i < n := by have := (List.getElem?_eq_some_iff.1 hi).1; simp at this; omega
    have ho : l[i]? = some o := by rw [List.getElem?_take] at hi; simpa [hin] using hi
    have h1 := hlow i hin
    rw [ho] at h1
    obtain ⟨he, hbe⟩ := List.mem_filter.1 he
    have h2 := Array.all_eq_true'.1 h1 e (by simpa using he)
    simp only [hbe, Bool.not_true, Bool.false_or, decide_eq_true_eq] at h2
    omega
  obtain ⟨z, _, hfl, hch⟩ := Floats.split (l.take n) 0 _ hlow2 h
  simp only [chainB2, Bool.and_eq_true, List.all_eq_true, List.mem_range] at hC
  obtain ⟨⟨hc1, hc2⟩, hc3⟩ := hC
  refine wp_region_stage n hm hB (ChainS P l.toArray G (l.take n) (l.drop n) (fun x => fill (l.take n) 0 x a) Q ms rs n z) (fun _ _ => True)
    (fun x => ⟨fun i _ _ h => h.elim, [], ms, z, rfl, fun p hp => by simp at hp, fun p _ h => h, fun _ _ => rfl, fun p hp => by simp at hp, hch _ (Ext.drew w) hG, fun _ => hG, .inl fun p hp => by simp at hp⟩) ?_ ?_
  · refine allOps3_mk (l.take n) 0 fun i o hi Ld x W hS hcl hnl hdl _ K Q' hK => ?_
    rw [Nat.zero_add] at hnl hK
    have hin : i < n := by have := (List.getElem?_eq_some_iff.1 hi).1; simp at this; omega
    have ho : l[i]? = some o := by rw [List.getElem?_take] at hi; simpa [hin] using hi
    obtain ⟨hxf, pre, ms', y, hms, hpre, hsuf, hyz, hxy, hchn, hext, hrd⟩ := hS
    have hanc : ∀ j, (anc l i).contains j = true → Ld j := fun j hj => by
      unfold anc at hj
      rw [ho] at hj
      refine closeB_ok (l := l) (n := n) hcl (by omega) ?_ j hj
      intro j hj
      simp only [Option.map_some, Option.getD_some, List.mem_map] at hj
      obtain ⟨e, he, rfl⟩ := hj
      exact depsL_mem hdl e he
    by_cases hmi : ms.any (fun p => p.1 == i) = true
    · -- an operation of the chain
      obtain ⟨⟨i', e⟩, hp, hpi⟩ := List.any_eq_true.1 hmi
      simp only [beq_iff_eq] at hpi
      subst hpi
      have hps : (i', e) ∈ ms' := by
        rw [hms] at hp
        rcases List.mem_append.1 hp with h1 | h1
        · exact absurd (hpre _ h1) hnl
        · exact h1
      obtain ⟨⟨k0, e0⟩, r, rfl⟩ : ∃ p r, ms' = p :: r := by cases ms' with | nil => simp at hps | cons p r => exact ⟨p, r, rfl⟩
      have hk0 : (i', e) = (k0, e0) := by
        rcases List.mem_cons.1 hps with h1 | h1
        · exact h1
        · exfalso
          obtain ⟨p, hp1, hp2⟩ := chainOrd_pred (chainOrd_suffix pre (hms ▸ hc2)) h1
          exact hsuf p hp1 (hanc _ hp2)
      simp only [Prod.mk.injEq] at hk0
      obtain ⟨rfl, rfl⟩ := hk0
      have hdeps : DepsE y x ((((l.take n)[i']?).map edges).getD []) := by
        rw [hi]
        refine depsE_mk fun e' he' => ?_
        have hld := depsL_mem hdl e' he'
        by_cases hmj : ms.any (fun p => p.1 == e'.on) = true
        · obtain ⟨p, hpm, hpe⟩ := List.any_eq_true.1 hmj
          simp only [beq_iff_eq] at hpe
          rw [hms] at hpm
          rcases List.mem_append.1 hpm with h1 | h1
          · rw [← hpe]; exact hxy p h1
          · exact absurd (hpe ▸ hld) (hsuf p h1)
        · have hmj' : ms.any (fun p => p.1 == e'.on) = false := Bool.eq_false_iff.2 hmj
          have hlt : e'.on < n := by have := hlow2 i' o hi e' he'; omega
          rw [hyz _ hmj', hxf _ hlt hmj' hld]
      have hrun := hchn x hdeps K Q'
      rw [hi] at hrun
      simp only [Option.map_some, Option.getD_some] at hrun
      refine hrun fun v W' hev hrest => hK v W' trivial ?_
      have hnd : ∀ p ∈ r, p.1 ≠ i' := fun p hp hpe => by
        obtain ⟨q, hq1, hq2⟩ := chainOrd_pred (chainOrd_suffix pre (hms ▸ hc2)) hp
        have : (anc l i').contains q.1 = true := hpe ▸ hq2
        exact hsuf q hq1 (hanc _ this)
      refine ⟨fun j hj hmj hl => ?_, pre ++ [(i', e)], r, upd y i' v, by simp [hms], ?_, ?_, ?_, ?_, hrest, ?_, ?_⟩
      · have hji : j ≠ i' := fun h => by subst h; rw [hmj] at hmi; cases hmi
        unfold upd; rw [if_neg hji]
        exact hxf j hj hmj (hl.resolve_right hji)
      · intro p hp
        rcases List.mem_append.1 hp with h1 | h1
        · exact .inl (hpre p h1)
        · rw [List.mem_singleton] at h1; subst h1; exact .inr rfl
      · intro p hp h1
        exact h1.elim (hsuf p (by simp [hp])) (hnd p hp)
      · intro j hmj
        have hji : j ≠ i' := fun h => by subst h; rw [hmj] at hmi; cases hmi
        unfold upd; rw [if_neg hji]; exact hyz j hmj
      · intro p hp
        rcases List.mem_append.1 hp with h1 | h1
        · have hpi : p.1 ≠ i' := fun h => hnl (h ▸ hpre p h1)
          unfold upd; rw [if_neg hpi, if_neg hpi]; exact hxy p h1
        · rw [List.mem_singleton] at h1; subst h1; simp [upd]
      · intro hall
        exact hev (hall (i', e) (by simp))
      · cases e with
        | true =>
          rcases hrd with h1 | h1
          · refine .inl fun p hp => ?_
            rcases List.mem_append.1 hp with h2 | h2
            · exact h1 p h2
            · rw [List.mem_singleton] at h2; subst h2; rfl
          · exact .inr fun j hj hmj hrj => .inl (h1 j hj hmj hrj)
        | false =>
          refine .inr fun j hj hmj hrj => .inl ?_
          have h4 := hc3 (i', false) (hms ▸ by simp)
          simp only [Bool.false_or, List.all_eq_true, List.mem_range, decide_eq_true_eq] at h4
          have h5 := h4.2 j hj
          rw [hmj, hrj] at h5
          exact hanc j (by simpa using h5)
    · -- a floating one
      have hmi' : ms.any (fun p => p.1 == i) = false := Bool.eq_false_iff.2 hmi
      have hf := hfl i o hi (by rw [Nat.zero_add]; exact hmi')
      rw [Nat.zero_add] at hf
      refine hf x W (fun hr => ?_) (depsE_mk fun e he => ?_) K Q' (hK (z i) W trivial ⟨fun j hj hmj hl => ?_, pre, ms', y, hms, fun p hp => .inl (hpre p hp), fun p hp h1 => ?_, hyz, fun p hp => ?_, hchn, hext, hrd.imp (fun h => h) fun h1 j hj hmj hrj => .inl (h1 j hj hmj hrj)⟩)
      · rcases hrd with h1 | h1
        · exact hext h1
        · exact absurd (h1 i hin hmi' hr) hnl
      · have hlt : e.on < n := by have := hlow2 i o hi e he; omega
        have h4 := hc1 i hin
        rw [hmi', ho] at h4
        simp only [Bool.false_or, List.all_eq_true] at h4
        have h5 := h4 e he
        exact hxf _ hlt (by simpa using h5) (depsL_mem hdl e he)
      · by_cases hji : j = i
        · subst hji; simp [upd]
        · unfold upd; rw [if_neg hji]; exact hxf j hj hmj (hl.resolve_right hji)
      · refine h1.elim (hsuf p hp) fun h2 => ?_
        have : ms.any (fun q => q.1 == i) = true := List.any_eq_true.2 ⟨p, hms ▸ by simp [hp], by simp [h2]⟩
        rw [hmi'] at this; cases this
      · have hpi : p.1 ≠ i := fun h2 => by
          have : ms.any (fun q => q.1 == i) = true := List.any_eq_true.2 ⟨p, hms ▸ by simp [hp], by simp [h2]⟩
          rw [hmi'] at this; cases this
        unfold upd; rw [if_neg hpi]; exact hxy p hp
  · intro x W hS _
    obtain ⟨hxf, pre, ms', y, hms, hpre, hsuf, hyz, hxy, hchn, _, _⟩ := hS
    have hnil : ms' = [] := by
      cases ms' with
      | nil => rfl
      | cons p r =>
        have h4 := hc3 p (hms ▸ by simp)
        simp only [decide_eq_true_eq] at h4
        exact absurd h4.1 (hsuf p (by simp))
    subst hnil
    rw [List.append_nil] at hms
    subst hms
    have hxy' : ∀ j, j < n → x j = y j := fun j hj => by
      by_cases hmj : ms.any (fun p => p.1 == j) = true
      · obtain ⟨p, hpm, hpe⟩ := List.any_eq_true.1 hmj
        simp only [beq_iff_eq] at hpe
        rw [← hpe]; exact hxy p hpm
      · have hmj' : ms.any (fun p => p.1 == j) = false := Bool.eq_false_iff.2 hmj
        rw [hyz _ hmj']; exact hxf j hj hmj' hj
    rw [fill_congr' (l.take n) 0 x y a fun j _ hj => hxy' j (by simp at hj; omega)]
    exact hchn
theorem wp_region_chain {P : Program} {id : Nat} {Q : Exit → Act → World → Prop} {a : Act} {w : World} {l : List Oper} (n : Nat) (ms : List (Nat × Bool)) (rs : List Nat) (hm : P.follows .mixedOrders = true) (hB : headB2 l n = true) (hC : chainB2 l n ms rs = true)
    (h : Floats P l.toArray w (Ext w) (l.take n) (l.drop n) (fun x => fill (l.take n) 0 x a) Q ms rs (l.take n) 0 (fun _ => undef)) :
    (Code.region id l.toArray true).wp P Q a w := wp_region_chainG (Ext w) (Ext.drew w) n ms rs hm hB hC h


def ChainIn (F : Fence) (n0 : Nat) (P : Program) (ops : Array Oper) (G : World → Prop) (hd tl : List Oper) (fr : (Nat → Value) → Act) (Q : Exit → Act → World → Prop) : List (Nat × Bool) → (Nat → Value) → World → Prop
  | [], y, W => wpListIn F n0 P ops Q tl (fr y) W
  | (k, e) :: ms, y, W => ∀ x, DepsE y x ((hd[k]?.map edges).getD []) → ∀ (K : Act → World → Prop) (Q' : Exit → Act → World → Prop),
      (∀ v W', (e = true → G W') → ChainIn F n0 P ops G hd tl fr Q ms (upd y k v) W' → K ((fr x).put ((hd[k]?.map (·.dst)).getD none) v) W') → wpListIn F n0 P ops (Exit.then K Q') ((hd[k]?.map fun o => [o]).getD []) (fr x) W
def FloatOkIn (F : Fence) (n0 : Nat) (P : Program) (ops : Array Oper) (G : World → Prop) (fr : (Nat → Value) → Act) (reg : Bool) (o : Oper) (y : Nat → Value) (v : Value) : Prop :=
  ∀ (x : Nat → Value) (W : World), (reg = false → G W) → DepsE y x (edges o) → ∀ (K : Act → World → Prop) (Q : Exit → Act → World → Prop), K ((fr x).put o.dst v) W → wpListIn F n0 P ops (Exit.then K Q) [o] (fr x) W
def FloatsIn (F : Fence) (n0 : Nat) (P : Program) (ops : Array Oper) (w : World) (G : World → Prop) (hd tl : List Oper) (fr : (Nat → Value) → Act) (Q : Exit → Act → World → Prop) (ms : List (Nat × Bool)) (rs : List Nat) : List Oper → Nat → (Nat → Value) → Prop
  | [], _, y => ∀ W, Ext w W → G W → ChainIn F n0 P ops G hd tl fr Q ms y W
  | o :: l, k, y => if ms.any (fun p => p.1 == k) then FloatsIn F n0 P ops w G hd tl fr Q ms rs l (k + 1) y else ∃ v, FloatOkIn F n0 P ops G fr (rs.contains k) o y v ∧ FloatsIn F n0 P ops w G hd tl fr Q ms rs l (k + 1) (upd y k v)
theorem DepsE.congrIn {y z x : Nat → Value} : ∀ {l : List Edge}, (∀ e ∈ l, y e.on = z e.on) → DepsE y x l → DepsE z x l
  | [], _, _ => trivial
  | e :: l, h, hd => ⟨by rw [← h e (by simp)]; exact hd.1, DepsE.congrIn (fun e' he => h e' (by simp [he])) hd.2⟩
theorem FloatsIn.split {F : Fence} {n0 : Nat} {P : Program} {ops : Array Oper} {w : World} {G : World → Prop} {hd tl : List Oper} {fr : (Nat → Value) → Act} {Q : Exit → Act → World → Prop} {ms : List (Nat × Bool)} {rs : List Nat} :
    ∀ (l : List Oper) (k : Nat) (y : Nat → Value), (∀ i o, l[i]? = some o → ∀ e ∈ edges o, e.on < k + i) → FloatsIn F n0 P ops w G hd tl fr Q ms rs l k y →
      ∃ z, (∀ j, j < k → z j = y j) ∧ (∀ i o, l[i]? = some o → ms.any (fun p => p.1 == k + i) = false → FloatOkIn F n0 P ops G fr (rs.contains (k + i)) o z (z (k + i))) ∧ ∀ W, Ext w W → G W → ChainIn F n0 P ops G hd tl fr Q ms z W
  | [], k, y, _, h => ⟨y, fun _ _ => rfl, fun i o hi => by simp at hi, h⟩
  | o :: l, k, y, hlow, h => by
    have hlow' : ∀ i o', l[i]? = some o' → ∀ e ∈ edges o', e.on < k + 1 + i := fun i o' hi e he => by
      have := hlow (i + 1) o' (by simpa using hi) e he
      omega
    unfold FloatsIn at h
    by_cases hm : ms.any (fun p => p.1 == k) = true
    · rw [if_pos hm] at h
      obtain ⟨z, h1, h2, h3⟩ := FloatsIn.split l (k + 1) y hlow' h
      refine ⟨z, fun j hj => h1 j (by omega), fun i o' hi hf => ?_, h3⟩
      rcases i with _ | i
      · rw [Nat.add_zero, hm] at hf; cases hf
      · rw [show k + (i + 1) = k + 1 + i by omega] at hf ⊢
        exact h2 i o' (by simpa using hi) hf
    · rw [if_neg hm] at h
      obtain ⟨v, hv, h⟩ := h
      obtain ⟨z, h1, h2, h3⟩ := FloatsIn.split l (k + 1) _ hlow' h
      have hzk : z k = v := by rw [h1 k (by omega)]; simp [upd]
      refine ⟨z, fun j hj => by rw [h1 j (by omega)]; unfold upd; rw [if_neg (by omega)], fun i o' hi hf => ?_, h3⟩
      rcases i with _ | i
      · simp only [List.getElem?_cons_zero, Option.some.injEq] at hi
        subst hi
        rw [Nat.add_zero, hzk]
        intro x W he hd' K Q' hK
        refine hv x W he (DepsE.congrIn (fun e he => ?_) hd') K Q' hK
        have hlt := hlow 0 o rfl e he
        rw [h1 e.on (by omega)]; unfold upd; rw [if_neg (by omega)]
      · rw [show k + (i + 1) = k + 1 + i by omega] at hf ⊢
        exact h2 i o' (by simpa using hi) hf
/-- what is known while a region with floating operations and a forced chain goes on -/
def ChainSIn (F : Fence) (n0 : Nat) (P : Program) (ops : Array Oper) (G : World → Prop) (hd tl : List Oper) (fr : (Nat → Value) → Act) (Q : Exit → Act → World → Prop) (ms : List (Nat × Bool)) (rs : List Nat) (n : Nat) (z : Nat → Value) (Ld : Nat → Prop) (x : Nat → Value) (W : World) : Prop :=
  (∀ i, i < n → ms.any (fun p => p.1 == i) = false → Ld i → x i = z i) ∧ ∃ pre ms' y, ms = pre ++ ms' ∧ (∀ p ∈ pre, Ld p.1) ∧ (∀ p ∈ ms', ¬ Ld p.1) ∧ (∀ i, ms.any (fun p => p.1 == i) = false → y i = z i) ∧ (∀ p ∈ pre, x p.1 = y p.1) ∧
    ChainIn F n0 P ops G hd tl fr Q ms' y W ∧ ((∀ p ∈ pre, p.2 = true) → G W) ∧ ((∀ p ∈ pre, p.2 = true) ∨ ∀ j, j < n → ms.any (fun p => p.1 == j) = false → rs.contains j = false → Ld j)
section
variable {F : Fence} {n0 : Nat} {P : Program} {ops : Array Oper} {w : World} {G : World → Prop} {hd tl : List Oper} {fr : (Nat → Value) → Act} {Q : Exit → Act → World → Prop} {ms : List (Nat × Bool)} {rs : List Nat} {l : List Oper} {o : Oper} {k : Nat} {y : Nat → Value} {e : Bool} {W : World}
theorem FloatsIn.mut (hk : ms.any (fun p => p.1 == k) = true) (h : FloatsIn F n0 P ops w G hd tl fr Q ms rs l (k + 1) y) : FloatsIn F n0 P ops w G hd tl fr Q ms rs (o :: l) k y := by
  unfold FloatsIn; rw [if_pos hk]; exact h
theorem FloatsIn.float {v : Value} (hk : ms.any (fun p => p.1 == k) = false) (hf : FloatOkIn F n0 P ops G fr (rs.contains k) o y v) (h : FloatsIn F n0 P ops w G hd tl fr Q ms rs l (k + 1) (upd y k v)) : FloatsIn F n0 P ops w G hd tl fr Q ms rs (o :: l) k y := by
  unfold FloatsIn; rw [if_neg (by rw [hk]; decide)]; exact ⟨v, hf, h⟩
theorem FloatsIn.done (h : ∀ W, Ext w W → G W → ChainIn F n0 P ops G hd tl fr Q ms y W) : FloatsIn F n0 P ops w G hd tl fr Q ms rs [] k y := h
theorem ChainIn.cons (o : Oper) (ho : hd[k]? = some o) (h : ∀ x, DepsE y x (edges o) → ∀ (K : Act → World → Prop) (Q' : Exit → Act → World → Prop),
      (∀ v W', (e = true → G W') → ChainIn F n0 P ops G hd tl fr Q ms (upd y k v) W' → K ((fr x).put o.dst v) W') → wpListIn F n0 P ops (Exit.then K Q') [o] (fr x) W) : ChainIn F n0 P ops G hd tl fr Q ((k, e) :: ms) y W := by
  unfold ChainIn; rw [ho]; exact h
theorem ChainIn.nil (h : wpListIn F n0 P ops Q tl (fr y) W) : ChainIn F n0 P ops G hd tl fr Q [] y W := h
end
theorem allOps3_mkIn {F : Fence} {n0 : Nat} {P : Program} {ops : Array Oper} {hd : List Oper} {S : (Nat → Prop) → (Nat → Value) → World → Prop} {R : Nat → Value → Prop} {fr : (Nat → Value) → Act} : ∀ (l : List Oper) (k : Nat),
    (∀ (i : Nat) (o : Oper), l[i]? = some o → ∀ (Ld : Nat → Prop) (x : Nat → Value) (w : World), S Ld x w → Closed Ld hd 0 → ¬ Ld (k + i) → DepsL Ld (o.after.toList.filter (Region.binds .any)) → DepsV R x (o.after.toList.filter (Region.binds .any)) → ∀ (K : Act → World → Prop) (Q : Exit → Act → World → Prop),
      (∀ v w', R (k + i) v → S (fun j => Ld j ∨ j = k + i) (upd x (k + i) v) w' → K ((fr x).put o.dst v) w') → wpListIn F n0 P ops (Exit.then K Q) [o] (fr x) w) → AllOps3In F n0 P ops hd S R fr l k
  | [], _, _ => trivial
  | o :: l, k, h => ⟨h 0 o rfl, allOps3_mkIn l (k + 1) fun i o' hi => by
      have := h (i + 1) o' (by simpa using hi)
      rw [show k + (i + 1) = k + 1 + i by omega] at this
      exact this⟩
theorem wpIn_region_chainG {F : Fence} {n0 : Nat} {P : Program} {id : Nat} {Q : Exit → Act → World → Prop} {a : Act} {w : World} {l : List Oper} (G : World → Prop) (hG : G w.drew) (n : Nat) (ms : List (Nat × Bool)) (rs : List Nat) (hm : P.follows .mixedOrders = true) (hB : headB2 l n = true) (hC : chainB2 l n ms rs = true)
    (h : FloatsIn F n0 P l.toArray w G (l.take n) (l.drop n) (fun x => fill (l.take n) 0 x a) Q ms rs (l.take n) 0 (fun _ => undef)) :
    (Code.region id l.toArray true).wpIn F n0 P Q a w := by
  have hB' := hB
  simp only [headB2, Bool.and_eq_true, decide_eq_true_eq, Bool.or_eq_true, List.all_eq_true, List.mem_range] at hB'
  obtain ⟨⟨⟨⟨hn, hdist⟩, _⟩, _⟩, hlow⟩ := hB'
  have hlow2 : ∀ i o, (l.take n)[i]? = some o → ∀ e ∈ edges o, e.on < 0 + i := fun i o hi e he => by
    have hin : i < n := by have := (List.getElem?_eq_some_iff.1 hi).1; simp at this; omega
    have ho : l[i]? = some o := by rw [List.getElem?_take] at hi; simpa [hin] using hi
    have h1 := hlow i hin
    rw [ho] at h1
    obtain ⟨he, hbe⟩ := List.mem_filter.1 he
    have h2 := Array.all_eq_true'.1 h1 e (by simpa using he)
    simp only [hbe, Bool.not_true, Bool.false_or, decide_eq_true_eq] at h2
    omega
  obtain ⟨z, _, hfl, hch⟩ := FloatsIn.split (l.take n) 0 _ hlow2 h
  simp only [chainB2, Bool.and_eq_true, List.all_eq_true, List.mem_range] at hC
  obtain ⟨⟨hc1, hc2⟩, hc3⟩ := hC
  refine wpIn_region_stage n hm hB (ChainSIn F n0 P l.toArray G (l.take n) (l.drop n) (fun x => fill (l.take n) 0 x a) Q ms rs n z) (fun _ _ => True)
    (fun x => ⟨fun i _ _ h => h.elim, [], ms, z, rfl, fun p hp => by simp at hp, fun p _ h => h, fun _ _ => rfl, fun p hp => by simp at hp, hch _ (Ext.drew w) hG, fun _ => hG, .inl fun p hp => by simp at hp⟩) ?_ ?_
  · refine allOps3_mkIn (l.take n) 0 fun i o hi Ld x W hS hcl hnl hdl _ K Q' hK => ?_
    rw [Nat.zero_add] at hnl hK
    have hin : i < n := by have := (List.getElem?_eq_some_iff.1 hi).1; simp at this; omega
    have ho : l[i]? = some o := by rw [List.getElem?_take] at hi; simpa [hin] using hi
    obtain ⟨hxf, pre, ms', y, hms, hpre, hsuf, hyz, hxy, hchn, hext, hrd⟩ := hS
    have hanc : ∀ j, (anc l i).contains j = true → Ld j := fun j hj => by
      unfold anc at hj
      rw [ho] at hj
      refine closeB_ok (l := l) (n := n) hcl (by omega) ?_ j hj
      intro j hj
      simp only [Option.map_some, Option.getD_some, List.mem_map] at hj
      obtain ⟨e, he, rfl⟩ := hj
      exact depsL_mem hdl e he
    by_cases hmi : ms.any (fun p => p.1 == i) = true
    · -- an operation of the chain
      obtain ⟨⟨i', e⟩, hp, hpi⟩ := List.any_eq_true.1 hmi
      simp only [beq_iff_eq] at hpi
      subst hpi
      have hps : (i', e) ∈ ms' := by
        rw [hms] at hp
        rcases List.mem_append.1 hp with h1 | h1
        · exact absurd (hpre _ h1) hnl
        · exact h1
      obtain ⟨⟨k0, e0⟩, r, rfl⟩ : ∃ p r, ms' = p :: r := by cases ms' with | nil => simp at hps | cons p r => exact ⟨p, r, rfl⟩
      have hk0 : (i', e) = (k0, e0) := by
        rcases List.mem_cons.1 hps with h1 | h1
        · exact h1
        · exfalso
          obtain ⟨p, hp1, hp2⟩ := chainOrd_pred (chainOrd_suffix pre (hms ▸ hc2)) h1
          exact hsuf p hp1 (hanc _ hp2)
      simp only [Prod.mk.injEq] at hk0
      obtain ⟨rfl, rfl⟩ := hk0
      have hdeps : DepsE y x ((((l.take n)[i']?).map edges).getD []) := by
        rw [hi]
        refine depsE_mk fun e' he' => ?_
        have hld := depsL_mem hdl e' he'
        by_cases hmj : ms.any (fun p => p.1 == e'.on) = true
        · obtain ⟨p, hpm, hpe⟩ := List.any_eq_true.1 hmj
          simp only [beq_iff_eq] at hpe
          rw [hms] at hpm
          rcases List.mem_append.1 hpm with h1 | h1
          · rw [← hpe]; exact hxy p h1
          · exact absurd (hpe ▸ hld) (hsuf p h1)
        · have hmj' : ms.any (fun p => p.1 == e'.on) = false := Bool.eq_false_iff.2 hmj
          have hlt : e'.on < n := by have := hlow2 i' o hi e' he'; omega
          rw [hyz _ hmj', hxf _ hlt hmj' hld]
      have hrun := hchn x hdeps K Q'
      rw [hi] at hrun
      simp only [Option.map_some, Option.getD_some] at hrun
      refine hrun fun v W' hev hrest => hK v W' trivial ?_
      have hnd : ∀ p ∈ r, p.1 ≠ i' := fun p hp hpe => by
        obtain ⟨q, hq1, hq2⟩ := chainOrd_pred (chainOrd_suffix pre (hms ▸ hc2)) hp
        have : (anc l i').contains q.1 = true := hpe ▸ hq2
        exact hsuf q hq1 (hanc _ this)
      refine ⟨fun j hj hmj hl => ?_, pre ++ [(i', e)], r, upd y i' v, by simp [hms], ?_, ?_, ?_, ?_, hrest, ?_, ?_⟩
      · have hji : j ≠ i' := fun h => by subst h; rw [hmj] at hmi; cases hmi
        unfold upd; rw [if_neg hji]
        exact hxf j hj hmj (hl.resolve_right hji)
      · intro p hp
        rcases List.mem_append.1 hp with h1 | h1
        · exact .inl (hpre p h1)
        · rw [List.mem_singleton] at h1; subst h1; exact .inr rfl
      · intro p hp h1
        exact h1.elim (hsuf p (by simp [hp])) (hnd p hp)
      · intro j hmj
        have hji : j ≠ i' := fun h => by subst h; rw [hmj] at hmi; cases hmi
        unfold upd; rw [if_neg hji]; exact hyz j hmj
      · intro p hp
        rcases List.mem_append.1 hp with h1 | h1
        · have hpi : p.1 ≠ i' := fun h => hnl (h ▸ hpre p h1)
          unfold upd; rw [if_neg hpi, if_neg hpi]; exact hxy p h1
        · rw [List.mem_singleton] at h1; subst h1; simp [upd]
      · intro hall
        exact hev (hall (i', e) (by simp))
      · cases e with
        | true =>
          rcases hrd with h1 | h1
          · refine .inl fun p hp => ?_
            rcases List.mem_append.1 hp with h2 | h2
            · exact h1 p h2
            · rw [List.mem_singleton] at h2; subst h2; rfl
          · exact .inr fun j hj hmj hrj => .inl (h1 j hj hmj hrj)
        | false =>
          refine .inr fun j hj hmj hrj => .inl ?_
          have h4 := hc3 (i', false) (hms ▸ by simp)
          simp only [Bool.false_or, List.all_eq_true, List.mem_range, decide_eq_true_eq] at h4
          have h5 := h4.2 j hj
          rw [hmj, hrj] at h5
          exact hanc j (by simpa using h5)
    · -- a floating one
      have hmi' : ms.any (fun p => p.1 == i) = false := Bool.eq_false_iff.2 hmi
      have hf := hfl i o hi (by rw [Nat.zero_add]; exact hmi')
      rw [Nat.zero_add] at hf
      refine hf x W (fun hr => ?_) (depsE_mk fun e he => ?_) K Q' (hK (z i) W trivial ⟨fun j hj hmj hl => ?_, pre, ms', y, hms, fun p hp => .inl (hpre p hp), fun p hp h1 => ?_, hyz, fun p hp => ?_, hchn, hext, hrd.imp (fun h => h) fun h1 j hj hmj hrj => .inl (h1 j hj hmj hrj)⟩)
      · rcases hrd with h1 | h1
        · exact hext h1
        · exact absurd (h1 i hin hmi' hr) hnl
      · have hlt : e.on < n := by have := hlow2 i o hi e he; omega
        have h4 := hc1 i hin
        rw [hmi', ho] at h4
        simp only [Bool.false_or, List.all_eq_true] at h4
        have h5 := h4 e he
        exact hxf _ hlt (by simpa using h5) (depsL_mem hdl e he)
      · by_cases hji : j = i
        · subst hji; simp [upd]
        · unfold upd; rw [if_neg hji]; exact hxf j hj hmj (hl.resolve_right hji)
      · refine h1.elim (hsuf p hp) fun h2 => ?_
        have : ms.any (fun q => q.1 == i) = true := List.any_eq_true.2 ⟨p, hms ▸ by simp [hp], by simp [h2]⟩
        rw [hmi'] at this; cases this
      · have hpi : p.1 ≠ i := fun h2 => by
          have : ms.any (fun q => q.1 == i) = true := List.any_eq_true.2 ⟨p, hms ▸ by simp [hp], by simp [h2]⟩
          rw [hmi'] at this; cases this
        unfold upd; rw [if_neg hpi]; exact hxy p hp
  · intro x W hS _
    obtain ⟨hxf, pre, ms', y, hms, hpre, hsuf, hyz, hxy, hchn, _, _⟩ := hS
    have hnil : ms' = [] := by
      cases ms' with
      | nil => rfl
      | cons p r =>
        have h4 := hc3 p (hms ▸ by simp)
        simp only [decide_eq_true_eq] at h4
        exact absurd h4.1 (hsuf p (by simp))
    subst hnil
    rw [List.append_nil] at hms
    subst hms
    have hxy' : ∀ j, j < n → x j = y j := fun j hj => by
      by_cases hmj : ms.any (fun p => p.1 == j) = true
      · obtain ⟨p, hpm, hpe⟩ := List.any_eq_true.1 hmj
        simp only [beq_iff_eq] at hpe
        rw [← hpe]; exact hxy p hpm
      · have hmj' : ms.any (fun p => p.1 == j) = false := Bool.eq_false_iff.2 hmj
        rw [hyz _ hmj']; exact hxf j hj hmj' hj
    rw [fill_congr' (l.take n) 0 x y a fun j _ hj => hxy' j (by simp at hj; omega)]
    exact hchn
theorem wpIn_region_chain {F : Fence} {n0 : Nat} {P : Program} {id : Nat} {Q : Exit → Act → World → Prop} {a : Act} {w : World} {l : List Oper} (n : Nat) (ms : List (Nat × Bool)) (rs : List Nat) (hm : P.follows .mixedOrders = true) (hB : headB2 l n = true) (hC : chainB2 l n ms rs = true)
    (h : FloatsIn F n0 P l.toArray w (Ext w) (l.take n) (l.drop n) (fun x => fill (l.take n) 0 x a) Q ms rs (l.take n) 0 (fun _ => undef)) :
    (Code.region id l.toArray true).wpIn F n0 P Q a w := wpIn_region_chainG (Ext w) (Ext.drew w) n ms rs hm hB hC h
end Go.Proofs.Pet
