/- Joined texts: V0, P02, P03, P04. -/
import Derived.Test.YtlekonngbmkdbaaGreatP01
import Derived.Test.YtlekonngbmkdbaaGreatChecked
namespace Go.Proofs.Pet
open Go Go.RowKit

def edges (o : Oper) : List Edge := o.after.toList.filter (Region.binds .any)
def DepsE (y x : Nat → Value) : List Edge → Prop
  | [] => True
  | e :: l => x e.on = y e.on ∧ DepsE y x l
def closeB (l : List Oper) : Nat → List Nat → List Nat
  | 0, s => s
  | i + 1, s => closeB l i (if s.contains i then s ++ ((l[i]?.map edges).getD []).map (·.on) else s)
/-- what must be done before an operation -/
def anc (l : List Oper) (k : Nat) : List Nat := closeB l k (((l[k]?.map edges).getD []).map (·.on))
def chainOrd (l : List Oper) : List (Nat × Bool) → Bool
  | [] => true
  | [_] => true
  | p :: q :: r => (anc l q.1).contains p.1 && chainOrd l (q :: r)
/-- all but ms (the second says: it only makes memory) float, those of rs in whatever memory -/
def chainB2 (l : List Oper) (n : Nat) (ms : List (Nat × Bool)) (rs : List Nat) : Bool :=
  ((List.range n).all fun k => ms.any (fun p => p.1 == k) || ((l[k]?.map edges).getD []).all fun e => !(ms.any fun p => p.1 == e.on)) && chainOrd l ms &&
    ms.all fun p => decide (p.1 < n) && (p.2 || (List.range n).all fun j => ms.any (fun q => q.1 == j) || rs.contains j || (anc l p.1).contains j)
theorem depsE_mk {y x : Nat → Value} : ∀ {l : List Edge}, (∀ e ∈ l, x e.on = y e.on) → DepsE y x l
  | [], _ => trivial
  | e :: _, h => ⟨h e (by simp), depsE_mk fun e' he => h e' (by simp [he])⟩
theorem depsL_mem {Ld : Nat → Prop} : ∀ {l : List Edge}, DepsL Ld l → ∀ e ∈ l, Ld e.on
  | _ :: _, h, e', he => by
    rcases List.mem_cons.1 he with h1 | h1
    · subst h1; exact h.1
    · exact depsL_mem h.2 e' h1
theorem Closed.at_ {Ld : Nat → Prop} : ∀ (l : List Oper) (k : Nat), Closed Ld l k → ∀ i o, l[i]? = some o → Ld (k + i) → DepsL Ld (edges o)
  | [], _, _, i, o, hi, _ => by simp at hi
  | o :: l, k, h, i, o', hi, hl => by
    rcases i with _ | i
    · simp only [List.getElem?_cons_zero, Option.some.injEq] at hi
      subst hi
      exact h.1 hl
    · exact Closed.at_ l (k + 1) h.2 i o' (by simpa using hi) (by rwa [show k + 1 + i = k + (i + 1) by omega])
theorem closeB_ok {l : List Oper} {n : Nat} {Ld : Nat → Prop} (hcl : Closed Ld (l.take n) 0) : ∀ {i : Nat} {s : List Nat}, i ≤ n → (∀ j ∈ s, Ld j) → ∀ j, (closeB l i s).contains j = true → Ld j
  | 0, s, _, h, j, hj => h j (by simpa [closeB] using hj)
  | i + 1, s, hi, h, j, hj => by
    unfold closeB at hj
    refine closeB_ok hcl (by omega) ?_ j hj
    intro j hj
    split at hj
    · rename_i hs
      rcases List.mem_append.1 hj with h1 | h1
      · exact h j h1
      · obtain ⟨e, he, rfl⟩ := List.mem_map.1 h1
        cases ho : l[i]? with
        | none => rw [ho] at he; simp at he
        | some o =>
          rw [ho] at he
          simp only [Option.map_some, Option.getD_some] at he
          have hLi : Ld (0 + i) := by rw [Nat.zero_add]; exact h i (by simpa using hs)
          exact depsL_mem (hcl.at_ _ _ i o (by rw [List.getElem?_take]; simp [show i < n by omega, ho]) hLi) e he
    · exact h j hj
theorem chainOrd_suffix {l : List Oper} : ∀ (pre : List (Nat × Bool)) {s : List (Nat × Bool)}, chainOrd l (pre ++ s) = true → chainOrd l s = true
  | [], _, h => h
  | [p], s, h => by
    cases s with
    | nil => rfl
    | cons q r =>
      simp only [List.cons_append, List.nil_append, chainOrd, Bool.and_eq_true] at h
      exact h.2
  | p :: q :: r, s, h => by
    simp only [List.cons_append, chainOrd, Bool.and_eq_true] at h
    exact chainOrd_suffix (q :: r) h.2
theorem chainOrd_pred {l : List Oper} : ∀ {r : List (Nat × Bool)} {p q : Nat × Bool}, chainOrd l (p :: r) = true → q ∈ r → ∃ p', p' ∈ p :: r ∧ (anc l q.1).contains p'.1 = true
  | q' :: r, p, q, h, hq => by
    simp only [chainOrd, Bool.and_eq_true] at h
    rcases List.mem_cons.1 hq with h1 | h1
    · subst h1; exact ⟨p, by simp, h.1⟩
    · obtain ⟨p', hp, hc⟩ := chainOrd_pred h.2 h1
      exact ⟨p', by simp only [List.mem_cons] at hp ⊢; exact .inr hp, hc⟩
theorem fill_congr' (l : List Oper) : ∀ (k : Nat) (x y : Nat → Value) (a : Act), (∀ j, k ≤ j → j < k + l.length → x j = y j) → fill l k x a = fill l k y a := by
  induction l with
  | nil => intro k x y a _; rfl
  | cons o l ih =>
    intro k x y a h
    simp only [fill]
    rw [h k (Nat.le_refl _) (by simp)]
    exact ih (k + 1) x y _ fun j h1 h2 => h j (by omega) (by simp; omega)

def Chain (P : Program) (ops : Array Oper) (G : World → Prop) (hd tl : List Oper) (fr : (Nat → Value) → Act) (Q : Exit → Act → World → Prop) : List (Nat × Bool) → (Nat → Value) → World → Prop
  | [], y, W => wpList P ops Q tl (fr y) W
  | (k, e) :: ms, y, W => ∀ x, DepsE y x ((hd[k]?.map edges).getD []) → ∀ (K : Act → World → Prop) (Q' : Exit → Act → World → Prop),
      (∀ v W', (e = true → G W') → Chain P ops G hd tl fr Q ms (upd y k v) W' → K ((fr x).put ((hd[k]?.map (·.dst)).getD none) v) W') → wpList P ops (Exit.then K Q') ((hd[k]?.map fun o => [o]).getD []) (fr x) W
def FloatOk (P : Program) (ops : Array Oper) (G : World → Prop) (fr : (Nat → Value) → Act) (reg : Bool) (o : Oper) (y : Nat → Value) (v : Value) : Prop :=
  ∀ (x : Nat → Value) (W : World), (reg = false → G W) → DepsE y x (edges o) → ∀ (K : Act → World → Prop) (Q : Exit → Act → World → Prop), K ((fr x).put o.dst v) W → wpList P ops (Exit.then K Q) [o] (fr x) W
def Floats (P : Program) (ops : Array Oper) (w : World) (G : World → Prop) (hd tl : List Oper) (fr : (Nat → Value) → Act) (Q : Exit → Act → World → Prop) (ms : List (Nat × Bool)) (rs : List Nat) : List Oper → Nat → (Nat → Value) → Prop
  | [], _, y => ∀ W, Ext w W → G W → Chain P ops G hd tl fr Q ms y W
  | o :: l, k, y => if ms.any (fun p => p.1 == k) then Floats P ops w G hd tl fr Q ms rs l (k + 1) y else ∃ v, FloatOk P ops G fr (rs.contains k) o y v ∧ Floats P ops w G hd tl fr Q ms rs l (k + 1) (upd y k v)
theorem DepsE.congr {y z x : Nat → Value} : ∀ {l : List Edge}, (∀ e ∈ l, y e.on = z e.on) → DepsE y x l → DepsE z x l
  | [], _, _ => trivial
  | e :: l, h, hd => ⟨by rw [← h e (by simp)]; exact hd.1, DepsE.congr (fun e' he => h e' (by simp [he])) hd.2⟩
theorem Floats.split {P : Program} {ops : Array Oper} {w : World} {G : World → Prop} {hd tl : List Oper} {fr : (Nat → Value) → Act} {Q : Exit → Act → World → Prop} {ms : List (Nat × Bool)} {rs : List Nat} :
    ∀ (l : List Oper) (k : Nat) (y : Nat → Value), (∀ i o, l[i]? = some o → ∀ e ∈ edges o, e.on < k + i) → Floats P ops w G hd tl fr Q ms rs l k y →
      ∃ z, (∀ j, j < k → z j = y j) ∧ (∀ i o, l[i]? = some o → ms.any (fun p => p.1 == k + i) = false → FloatOk P ops G fr (rs.contains (k + i)) o z (z (k + i))) ∧ ∀ W, Ext w W → G W → Chain P ops G hd tl fr Q ms z W
  | [], k, y, _, h => ⟨y, fun _ _ => rfl, fun i o hi => by simp at hi, h⟩
  | o :: l, k, y, hlow, h => by
    have hlow' : ∀ i o', l[i]? = some o' → ∀ e ∈ edges o', e.on < k + 1 + i := fun i o' hi e he => by
      have := hlow (i + 1) o' (by simpa using hi) e he
      omega
    unfold Floats at h
    by_cases hm : ms.any (fun p => p.1 == k) = true
    · rw [if_pos hm] at h
      obtain ⟨z, h1, h2, h3⟩ := Floats.split l (k + 1) y hlow' h
      refine ⟨z, fun j hj => h1 j (by omega), fun i o' hi hf => ?_, h3⟩
      rcases i with _ | i
      · rw [Nat.add_zero, hm] at hf; cases hf
      · rw [show k + (i + 1) = k + 1 + i by omega] at hf ⊢
        exact h2 i o' (by simpa using hi) hf
    · rw [if_neg hm] at h
      obtain ⟨v, hv, h⟩ := h
      obtain ⟨z, h1, h2, h3⟩ := Floats.split l (k + 1) _ hlow' h
      have hzk : z k = v := by rw [h1 k (by omega)]; simp [upd]
      refine ⟨z, fun j hj => by rw [h1 j (by omega)]; unfold upd; rw [if_neg (by omega)], fun i o' hi hf => ?_, h3⟩
      rcases i with _ | i
      · simp only [List.getElem?_cons_zero, Option.some.injEq] at hi
        subst hi
        rw [Nat.add_zero, hzk]
        intro x W he hd' K Q' hK
        refine hv x W he (DepsE.congr (fun e he => ?_) hd') K Q' hK
        have hlt := hlow 0 o rfl e he
        rw [h1 e.on (by omega)]; unfold upd; rw [if_neg (by omega)]
      · rw [show k + (i + 1) = k + 1 + i by omega] at hf ⊢
        exact h2 i o' (by simpa using hi) hf
/-- what is known while a region with floating operations and a forced chain goes on -/
def ChainS (P : Program) (ops : Array Oper) (G : World → Prop) (hd tl : List Oper) (fr : (Nat → Value) → Act) (Q : Exit → Act → World → Prop) (ms : List (Nat × Bool)) (rs : List Nat) (n : Nat) (z : Nat → Value) (Ld : Nat → Prop) (x : Nat → Value) (W : World) : Prop :=
  (∀ i, i < n → ms.any (fun p => p.1 == i) = false → Ld i → x i = z i) ∧ ∃ pre ms' y, ms = pre ++ ms' ∧ (∀ p ∈ pre, Ld p.1) ∧ (∀ p ∈ ms', ¬ Ld p.1) ∧ (∀ i, ms.any (fun p => p.1 == i) = false → y i = z i) ∧ (∀ p ∈ pre, x p.1 = y p.1) ∧
    Chain P ops G hd tl fr Q ms' y W ∧ ((∀ p ∈ pre, p.2 = true) → G W) ∧ ((∀ p ∈ pre, p.2 = true) ∨ ∀ j, j < n → ms.any (fun p => p.1 == j) = false → rs.contains j = false → Ld j)
section
variable {P : Program} {ops : Array Oper} {w : World} {G : World → Prop} {hd tl : List Oper} {fr : (Nat → Value) → Act} {Q : Exit → Act → World → Prop} {ms : List (Nat × Bool)} {rs : List Nat} {l : List Oper} {o : Oper} {k : Nat} {y : Nat → Value} {e : Bool} {W : World}
theorem Floats.mut (hk : ms.any (fun p => p.1 == k) = true) (h : Floats P ops w G hd tl fr Q ms rs l (k + 1) y) : Floats P ops w G hd tl fr Q ms rs (o :: l) k y := by
  unfold Floats; rw [if_pos hk]; exact h
theorem Floats.float {v : Value} (hk : ms.any (fun p => p.1 == k) = false) (hf : FloatOk P ops G fr (rs.contains k) o y v) (h : Floats P ops w G hd tl fr Q ms rs l (k + 1) (upd y k v)) : Floats P ops w G hd tl fr Q ms rs (o :: l) k y := by
  unfold Floats; rw [if_neg (by rw [hk]; decide)]; exact ⟨v, hf, h⟩
theorem Floats.done (h : ∀ W, Ext w W → G W → Chain P ops G hd tl fr Q ms y W) : Floats P ops w G hd tl fr Q ms rs [] k y := h
theorem Chain.cons (o : Oper) (ho : hd[k]? = some o) (h : ∀ x, DepsE y x (edges o) → ∀ (K : Act → World → Prop) (Q' : Exit → Act → World → Prop),
      (∀ v W', (e = true → G W') → Chain P ops G hd tl fr Q ms (upd y k v) W' → K ((fr x).put o.dst v) W') → wpList P ops (Exit.then K Q') [o] (fr x) W) : Chain P ops G hd tl fr Q ((k, e) :: ms) y W := by
  unfold Chain; rw [ho]; exact h
theorem Chain.nil (h : wpList P ops Q tl (fr y) W) : Chain P ops G hd tl fr Q [] y W := h
end
theorem allOps3_mk {P : Program} {ops : Array Oper} {hd : List Oper} {S : (Nat → Prop) → (Nat → Value) → World → Prop} {R : Nat → Value → Prop} {fr : (Nat → Value) → Act} : ∀ (l : List Oper) (k : Nat),
    (∀ (i : Nat) (o : Oper), l[i]? = some o → ∀ (Ld : Nat → Prop) (x : Nat → Value) (w : World), S Ld x w → Closed Ld hd 0 → ¬ Ld (k + i) → DepsL Ld (o.after.toList.filter (Region.binds .any)) → DepsV R x (o.after.toList.filter (Region.binds .any)) → ∀ (K : Act → World → Prop) (Q : Exit → Act → World → Prop),
      (∀ v w', R (k + i) v → S (fun j => Ld j ∨ j = k + i) (upd x (k + i) v) w' → K ((fr x).put o.dst v) w') → wpList P ops (Exit.then K Q) [o] (fr x) w) → AllOps3 P ops hd S R fr l k
  | [], _, _ => trivial
  | o :: l, k, h => ⟨h 0 o rfl, allOps3_mk l (k + 1) fun i o' hi => by
      have := h (i + 1) o' (by simpa using hi)
      rw [show k + (i + 1) = k + 1 + i by omega] at this
      exact this⟩
theorem wp_region_chainG {P : Program} {id : Nat} {Q : Exit → Act → World → Prop} {a : Act} {w : World} {l : List Oper} (G : World → Prop) (hG : G w.drew) (n : Nat) (ms : List (Nat × Bool)) (rs : List Nat) (hm : P.follows .mixedOrders = true) (hB : headB2 l n = true) (hC : chainB2 l n ms rs = true)
    (h : Floats P l.toArray w G (l.take n) (l.drop n) (fun x => fill (l.take n) 0 x a) Q ms rs (l.take n) 0 (fun _ => undef)) :
    (Code.region id l.toArray true).wp P Q a w := by
  have hB' := hB
  simp only [headB2, Bool.and_eq_true, decide_eq_true_eq, Bool.or_eq_true, List.all_eq_true, List.mem_range] at hB'
  obtain ⟨⟨⟨⟨hn, hdist⟩, _⟩, _⟩, hlow⟩ := hB'
  have hlow2 : ∀ i o, (l.take n)[i]? = some o → ∀ e ∈ edges o, e.on < 0 + i := fun i o hi e he => by
    have hin : i < n := by have := (List.getElem?_eq_some_iff.1 hi).1; simp at this; omega
    have ho : l[i]? = some o := by rw [List.getElem?_take] at hi; simpa [hin] using hi
    have h1 := hlow i hin
    rw [ho] at h1
    obtain ⟨he, hbe⟩ := List.mem_filter.1 he
    have h2 := Array.all_eq_true'.1 h1 e (by simpa using he)
    simp only [hbe, Bool.not_true, Bool.false_or, decide_eq_true_eq] at h2
    omega
  obtain ⟨z, _, hfl, hch⟩ := Floats.split (l.take n) 0 _ hlow2 h
  simp only [chainB2, Bool.and_eq_true, List.all_eq_true, List.mem_range] at hC
  obtain ⟨⟨hc1, hc2⟩, hc3⟩ := hC
  refine wp_region_stage n hm hB (ChainS P l.toArray G (l.take n) (l.drop n) (fun x => fill (l.take n) 0 x a) Q ms rs n z) (fun _ _ => True)
    (fun x => ⟨fun i _ _ h => h.elim, [], ms, z, rfl, fun p hp => by simp at hp, fun p _ h => h, fun _ _ => rfl, fun p hp => by simp at hp, hch _ (Ext.drew w) hG, fun _ => hG, .inl fun p hp => by simp at hp⟩) ?_ ?_
  · refine allOps3_mk (l.take n) 0 fun i o hi Ld x W hS hcl hnl hdl _ K Q' hK => ?_
    rw [Nat.zero_add] at hnl hK
    have hin : i < n := by have := (List.getElem?_eq_some_iff.1 hi).1; simp at this; omega
    have ho : l[i]? = some o := by rw [List.getElem?_take] at hi; simpa [hin] using hi
    obtain ⟨hxf, pre, ms', y, hms, hpre, hsuf, hyz, hxy, hchn, hext, hrd⟩ := hS
    have hanc : ∀ j, (anc l i).contains j = true → Ld j := fun j hj => by
      unfold anc at hj
      rw [ho] at hj
      refine closeB_ok (l := l) (n := n) hcl (by omega) ?_ j hj
      intro j hj
      simp only [Option.map_some, Option.getD_some, List.mem_map] at hj
      obtain ⟨e, he, rfl⟩ := hj
      exact depsL_mem hdl e he
    by_cases hmi : ms.any (fun p => p.1 == i) = true
    · -- an operation of the chain
      obtain ⟨⟨i', e⟩, hp, hpi⟩ := List.any_eq_true.1 hmi
      simp only [beq_iff_eq] at hpi
      subst hpi
      have hps : (i', e) ∈ ms' := by
        rw [hms] at hp
        rcases List.mem_append.1 hp with h1 | h1
        · exact absurd (hpre _ h1) hnl
        · exact h1
      obtain ⟨⟨k0, e0⟩, r, rfl⟩ : ∃ p r, ms' = p :: r := by cases ms' with | nil => simp at hps | cons p r => exact ⟨p, r, rfl⟩
      have hk0 : (i', e) = (k0, e0) := by
        rcases List.mem_cons.1 hps with h1 | h1
        · exact h1
        · exfalso
          obtain ⟨p, hp1, hp2⟩ := chainOrd_pred (chainOrd_suffix pre (hms ▸ hc2)) h1
          exact hsuf p hp1 (hanc _ hp2)
      simp only [Prod.mk.injEq] at hk0
      obtain ⟨rfl, rfl⟩ := hk0
      have hdeps : DepsE y x ((((l.take n)[i']?).map edges).getD []) := by
        rw [hi]
        refine depsE_mk fun e' he' => ?_
        have hld := depsL_mem hdl e' he'
        by_cases hmj : ms.any (fun p => p.1 == e'.on) = true
        · obtain ⟨p, hpm, hpe⟩ := List.any_eq_true.1 hmj
          simp only [beq_iff_eq] at hpe
          rw [hms] at hpm
          rcases List.mem_append.1 hpm with h1 | h1
          · rw [← hpe]; exact hxy p h1
          · exact absurd (hpe ▸ hld) (hsuf p h1)
        · have hmj' : ms.any (fun p => p.1 == e'.on) = false := Bool.eq_false_iff.2 hmj
          have hlt : e'.on < n := by have := hlow2 i' o hi e' he'; omega
          rw [hyz _ hmj', hxf _ hlt hmj' hld]
      have hrun := hchn x hdeps K Q'
      rw [hi] at hrun
      simp only [Option.map_some, Option.getD_some] at hrun
      refine hrun fun v W' hev hrest => hK v W' trivial ?_
      have hnd : ∀ p ∈ r, p.1 ≠ i' := fun p hp hpe => by
        obtain ⟨q, hq1, hq2⟩ := chainOrd_pred (chainOrd_suffix pre (hms ▸ hc2)) hp
        have : (anc l i').contains q.1 = true := hpe ▸ hq2
        exact hsuf q hq1 (hanc _ this)
      refine ⟨fun j hj hmj hl => ?_, pre ++ [(i', e)], r, upd y i' v, by simp [hms], ?_, ?_, ?_, ?_, hrest, ?_, ?_⟩
      · have hji : j ≠ i' := fun h => by subst h; rw [hmj] at hmi; cases hmi
        unfold upd; rw [if_neg hji]
        exact hxf j hj hmj (hl.resolve_right hji)
      · intro p hp
        rcases List.mem_append.1 hp with h1 | h1
        · exact .inl (hpre p h1)
        · rw [List.mem_singleton] at h1; subst h1; exact .inr rfl
      · intro p hp h1
        exact h1.elim (hsuf p (by simp [hp])) (hnd p hp)
      · intro j hmj
        have hji : j ≠ i' := fun h => by subst h; rw [hmj] at hmi; cases hmi
        unfold upd; rw [if_neg hji]; exact hyz j hmj
      · intro p hp
        rcases List.mem_append.1 hp with h1 | h1
        · have hpi : p.1 ≠ i' := fun h => hnl (h ▸ hpre p h1)
          unfold upd; rw [if_neg hpi, if_neg hpi]; exact hxy p h1
        · rw [List.mem_singleton] at h1; subst h1; simp [upd]
      · intro hall
        exact hev (hall (i', e) (by simp))
      · cases e with
        | true =>
          rcases hrd with h1 | h1
          · refine .inl fun p hp => ?_
            rcases List.mem_append.1 hp with h2 | h2
            · exact h1 p h2
            · rw [List.mem_singleton] at h2; subst h2; rfl
          · exact .inr fun j hj hmj hrj => .inl (h1 j hj hmj hrj)
        | false =>
          refine .inr fun j hj hmj hrj => .inl ?_
          have h4 := hc3 (i', false) (hms ▸ by simp)
          simp only [Bool.false_or, List.all_eq_true, List.mem_range, decide_eq_true_eq] at h4
          have h5 := h4.2 j hj
          rw [hmj, hrj] at h5
          exact hanc j (by simpa using h5)
    · -- a floating one
      have hmi' : ms.any (fun p => p.1 == i) = false := Bool.eq_false_iff.2 hmi
      have hf := hfl i o hi (by rw [Nat.zero_add]; exact hmi')
      rw [Nat.zero_add] at hf
      refine hf x W (fun hr => ?_) (depsE_mk fun e he => ?_) K Q' (hK (z i) W trivial ⟨fun j hj hmj hl => ?_, pre, ms', y, hms, fun p hp => .inl (hpre p hp), fun p hp h1 => ?_, hyz, fun p hp => ?_, hchn, hext, hrd.imp (fun h => h) fun h1 j hj hmj hrj => .inl (h1 j hj hmj hrj)⟩)
      · rcases hrd with h1 | h1
        · exact hext h1
        · exact absurd (h1 i hin hmi' hr) hnl
      · have hlt : e.on < n := by have := hlow2 i o hi e he; omega
        have h4 := hc1 i hin
        rw [hmi', ho] at h4
        simp only [Bool.false_or, List.all_eq_true] at h4
        have h5 := h4 e he
        exact hxf _ hlt (by simpa using h5) (depsL_mem hdl e he)
      · by_cases hji : j = i
        · subst hji; simp [upd]
        · unfold upd; rw [if_neg hji]; exact hxf j hj hmj (hl.resolve_right hji)
      · refine h1.elim (hsuf p hp) fun h2 => ?_
        have : ms.any (fun q => q.1 == i) = true := List.any_eq_true.2 ⟨p, hms ▸ by simp [hp], by simp [h2]⟩
        rw [hmi'] at this; cases this
      · have hpi : p.1 ≠ i := fun h2 => by
          have : ms.any (fun q => q.1 == i) = true := List.any_eq_true.2 ⟨p, hms ▸ by simp [hp], by simp [h2]⟩
          rw [hmi'] at this; cases this
        unfold upd; rw [if_neg hpi]; exact hxy p hp
  · intro x W hS _
    obtain ⟨hxf, pre, ms', y, hms, hpre, hsuf, hyz, hxy, hchn, _, _⟩ := hS
    have hnil : ms' = [] := by
      cases ms' with
      | nil => rfl
      | cons p r =>
        have h4 := hc3 p (hms ▸ by simp)
        simp only [decide_eq_true_eq] at h4
        exact absurd h4.1 (hsuf p (by simp))
    subst hnil
    rw [List.append_nil] at hms
    subst hms
    have hxy' : ∀ j, j < n → x j = y j := fun j hj => by
      by_cases hmj : ms.any (fun p => p.1 == j) = true
      · obtain ⟨p, hpm, hpe⟩ := List.any_eq_true.1 hmj
        simp only [beq_iff_eq] at hpe
        rw [← hpe]; exact hxy p hpm
      · have hmj' : ms.any (fun p => p.1 == j) = false := Bool.eq_false_iff.2 hmj
        rw [hyz _ hmj']; exact hxf j hj hmj' hj
    rw [fill_congr' (l.take n) 0 x y a fun j _ hj => hxy' j (by simp at hj; omega)]
    exact hchn
theorem wp_region_chain {P : Program} {id : Nat} {Q : Exit → Act → World → Prop} {a : Act} {w : World} {l : List Oper} (n : Nat) (ms : List (Nat × Bool)) (rs : List Nat) (hm : P.follows .mixedOrders = true) (hB : headB2 l n = true) (hC : chainB2 l n ms rs = true)
    (h : Floats P l.toArray w (Ext w) (l.take n) (l.drop n) (fun x => fill (l.take n) 0 x a) Q ms rs (l.take n) 0 (fun _ => undef)) :
    (Code.region id l.toArray true).wp P Q a w := wp_region_chainG (Ext w) (Ext.drew w) n ms rs hm hB hC h


def ChainIn (F : Fence) (n0 : Nat) (P : Program) (ops : Array Oper) (G : World → Prop) (hd tl : List Oper) (fr : (Nat → Value) → Act) (Q : Exit → Act → World → Prop) : List (Nat × Bool) → (Nat → Value) → World → Prop
  | [], y, W => wpListIn F n0 P ops Q tl (fr y) W
  | (k, e) :: ms, y, W => ∀ x, DepsE y x ((hd[k]?.map edges).getD []) → ∀ (K : Act → World → Prop) (Q' : Exit → Act → World → Prop),
      (∀ v W', (e = true → G W') → ChainIn F n0 P ops G hd tl fr Q ms (upd y k v) W' → K ((fr x).put ((hd[k]?.map (·.dst)).getD none) v) W') → wpListIn F n0 P ops (Exit.then K Q') ((hd[k]?.map fun o => [o]).getD []) (fr x) W
def FloatOkIn (F : Fence) (n0 : Nat) (P : Program) (ops : Array Oper) (G : World → Prop) (fr : (Nat → Value) → Act) (reg : Bool) (o : Oper) (y : Nat → Value) (v : Value) : Prop :=
  ∀ (x : Nat → Value) (W : World), (reg = false → G W) → DepsE y x (edges o) → ∀ (K : Act → World → Prop) (Q : Exit → Act → World → Prop), K ((fr x).put o.dst v) W → wpListIn F n0 P ops (Exit.then K Q) [o] (fr x) W
def FloatsIn (F : Fence) (n0 : Nat) (P : Program) (ops : Array Oper) (w : World) (G : World → Prop) (hd tl : List Oper) (fr : (Nat → Value) → Act) (Q : Exit → Act → World → Prop) (ms : List (Nat × Bool)) (rs : List Nat) : List Oper → Nat → (Nat → Value) → Prop
  | [], _, y => ∀ W, Ext w W → G W → ChainIn F n0 P ops G hd tl fr Q ms y W
  | o :: l, k, y => if ms.any (fun p => p.1 == k) then FloatsIn F n0 P ops w G hd tl fr Q ms rs l (k + 1) y else ∃ v, FloatOkIn F n0 P ops G fr (rs.contains k) o y v ∧ FloatsIn F n0 P ops w G hd tl fr Q ms rs l (k + 1) (upd y k v)
theorem DepsE.congrIn {y z x : Nat → Value} : ∀ {l : List Edge}, (∀ e ∈ l, y e.on = z e.on) → DepsE y x l → DepsE z x l
  | [], _, _ => trivial
  | e :: l, h, hd => ⟨by rw [← h e (by simp)]; exact hd.1, DepsE.congrIn (fun e' he => h e' (by simp [he])) hd.2⟩
theorem FloatsIn.split {F : Fence} {n0 : Nat} {P : Program} {ops : Array Oper} {w : World} {G : World → Prop} {hd tl : List Oper} {fr : (Nat → Value) → Act} {Q : Exit → Act → World → Prop} {ms : List (Nat × Bool)} {rs : List Nat} :
    ∀ (l : List Oper) (k : Nat) (y : Nat → Value), (∀ i o, l[i]? = some o → ∀ e ∈ edges o, e.on < k + i) → FloatsIn F n0 P ops w G hd tl fr Q ms rs l k y →
      ∃ z, (∀ j, j < k → z j = y j) ∧ (∀ i o, l[i]? = some o → ms.any (fun p => p.1 == k + i) = false → FloatOkIn F n0 P ops G fr (rs.contains (k + i)) o z (z (k + i))) ∧ ∀ W, Ext w W → G W → ChainIn F n0 P ops G hd tl fr Q ms z W
  | [], k, y, _, h => ⟨y, fun _ _ => rfl, fun i o hi => by simp at hi, h⟩
  | o :: l, k, y, hlow, h => by
    have hlow' : ∀ i o', l[i]? = some o' → ∀ e ∈ edges o', e.on < k + 1 + i := fun i o' hi e he => by
      have := hlow (i + 1) o' (by simpa using hi) e he
      omega
    unfold FloatsIn at h
    by_cases hm : ms.any (fun p => p.1 == k) = true
    · rw [if_pos hm] at h
      obtain ⟨z, h1, h2, h3⟩ := FloatsIn.split l (k + 1) y hlow' h
      refine ⟨z, fun j hj => h1 j (by omega), fun i o' hi hf => ?_, h3⟩
      rcases i with _ | i
      · rw [Nat.add_zero, hm] at hf; cases hf
      · rw [show k + (i + 1) = k + 1 + i by omega] at hf ⊢
        exact h2 i o' (by simpa using hi) hf
    · rw [if_neg hm] at h
      obtain ⟨v, hv, h⟩ := h
      obtain ⟨z, h1, h2, h3⟩ := FloatsIn.split l (k + 1) _ hlow' h
      have hzk : z k = v := by rw [h1 k (by omega)]; simp [upd]
      refine ⟨z, fun j hj => by rw [h1 j (by omega)]; unfold upd; rw [if_neg (by omega)], fun i o' hi hf => ?_, h3⟩
      rcases i with _ | i
      · simp only [List.getElem?_cons_zero, Option.some.injEq] at hi
        subst hi
        rw [Nat.add_zero, hzk]
        intro x W he hd' K Q' hK
        refine hv x W he (DepsE.congrIn (fun e he => ?_) hd') K Q' hK
        have hlt := hlow 0 o rfl e he
        rw [h1 e.on (by omega)]; unfold upd; rw [if_neg (by omega)]
      · rw [show k + (i + 1) = k + 1 + i by omega] at hf ⊢
        exact h2 i o' (by simpa using hi) hf
/-- what is known while a region with floating operations and a forced chain goes on -/
def ChainSIn (F : Fence) (n0 : Nat) (P : Program) (ops : Array Oper) (G : World → Prop) (hd tl : List Oper) (fr : (Nat → Value) → Act) (Q : Exit → Act → World → Prop) (ms : List (Nat × Bool)) (rs : List Nat) (n : Nat) (z : Nat → Value) (Ld : Nat → Prop) (x : Nat → Value) (W : World) : Prop :=
  (∀ i, i < n → ms.any (fun p => p.1 == i) = false → Ld i → x i = z i) ∧ ∃ pre ms' y, ms = pre ++ ms' ∧ (∀ p ∈ pre, Ld p.1) ∧ (∀ p ∈ ms', ¬ Ld p.1) ∧ (∀ i, ms.any (fun p => p.1 == i) = false → y i = z i) ∧ (∀ p ∈ pre, x p.1 = y p.1) ∧
    ChainIn F n0 P ops G hd tl fr Q ms' y W ∧ ((∀ p ∈ pre, p.2 = true) → G W) ∧ ((∀ p ∈ pre, p.2 = true) ∨ ∀ j, j < n → ms.any (fun p => p.1 == j) = false → rs.contains j = false → Ld j)
section
variable {F : Fence} {n0 : Nat} {P : Program} {ops : Array Oper} {w : World} {G : World → Prop} {hd tl : List Oper} {fr : (Nat → Value) → Act} {Q : Exit → Act → World → Prop} {ms : List (Nat × Bool)} {rs : List Nat} {l : List Oper} {o : Oper} {k : Nat} {y : Nat → Value} {e : Bool} {W : World}
theorem FloatsIn.mut (hk : ms.any (fun p => p.1 == k) = true) (h : FloatsIn F n0 P ops w G hd tl fr Q ms rs l (k + 1) y) : FloatsIn F n0 P ops w G hd tl fr Q ms rs (o :: l) k y := by
  unfold FloatsIn; rw [if_pos hk]; exact h
theorem FloatsIn.float {v : Value} (hk : ms.any (fun p => p.1 == k) = false) (hf : FloatOkIn F n0 P ops G fr (rs.contains k) o y v) (h : FloatsIn F n0 P ops w G hd tl fr Q ms rs l (k + 1) (upd y k v)) : FloatsIn F n0 P ops w G hd tl fr Q ms rs (o :: l) k y := by
  unfold FloatsIn; rw [if_neg (by rw [hk]; decide)]; exact ⟨v, hf, h⟩
theorem FloatsIn.done (h : ∀ W, Ext w W → G W → ChainIn F n0 P ops G hd tl fr Q ms y W) : FloatsIn F n0 P ops w G hd tl fr Q ms rs [] k y := h
theorem ChainIn.nil (h : wpListIn F n0 P ops Q tl (fr y) W) : ChainIn F n0 P ops G hd tl fr Q [] y W := h
end
theorem allOps3_mkIn {F : Fence} {n0 : Nat} {P : Program} {ops : Array Oper} {hd : List Oper} {S : (Nat → Prop) → (Nat → Value) → World → Prop} {R : Nat → Value → Prop} {fr : (Nat → Value) → Act} : ∀ (l : List Oper) (k : Nat),
    (∀ (i : Nat) (o : Oper), l[i]? = some o → ∀ (Ld : Nat → Prop) (x : Nat → Value) (w : World), S Ld x w → Closed Ld hd 0 → ¬ Ld (k + i) → DepsL Ld (o.after.toList.filter (Region.binds .any)) → DepsV R x (o.after.toList.filter (Region.binds .any)) → ∀ (K : Act → World → Prop) (Q : Exit → Act → World → Prop),
      (∀ v w', R (k + i) v → S (fun j => Ld j ∨ j = k + i) (upd x (k + i) v) w' → K ((fr x).put o.dst v) w') → wpListIn F n0 P ops (Exit.then K Q) [o] (fr x) w) → AllOps3In F n0 P ops hd S R fr l k
  | [], _, _ => trivial
  | o :: l, k, h => ⟨h 0 o rfl, allOps3_mkIn l (k + 1) fun i o' hi => by
      have := h (i + 1) o' (by simpa using hi)
      rw [show k + (i + 1) = k + 1 + i by omega] at this
      exact this⟩
theorem wpIn_region_chainG {F : Fence} {n0 : Nat} {P : Program} {id : Nat} {Q : Exit → Act → World → Prop} {a : Act} {w : World} {l : List Oper} (G : World → Prop) (hG : G w.drew) (n : Nat) (ms : List (Nat × Bool)) (rs : List Nat) (hm : P.follows .mixedOrders = true) (hB : headB2 l n = true) (hC : chainB2 l n ms rs = true)
    (h : FloatsIn F n0 P l.toArray w G (l.take n) (l.drop n) (fun x => fill (l.take n) 0 x a) Q ms rs (l.take n) 0 (fun _ => undef)) :
    (Code.region id l.toArray true).wpIn F n0 P Q a w := by
  have hB' := hB
  simp only [headB2, Bool.and_eq_true, decide_eq_true_eq, Bool.or_eq_true, List.all_eq_true, List.mem_range] at hB'
  obtain ⟨⟨⟨⟨hn, hdist⟩, _⟩, _⟩, hlow⟩ := hB'
  have hlow2 : ∀ i o, (l.take n)[i]? = some o → ∀ e ∈ edges o, e.on < 0 + i := fun i o hi e he => by
    have hin : i < n := by have := (List.getElem?_eq_some_iff.1 hi).1; simp at this; omega
    have ho : l[i]? = some o := by rw [List.getElem?_take] at hi; simpa [hin] using hi
    have h1 := hlow i hin
    rw [ho] at h1
    obtain ⟨he, hbe⟩ := List.mem_filter.1 he
    have h2 := Array.all_eq_true'.1 h1 e (by simpa using he)
    simp only [hbe, Bool.not_true, Bool.false_or, decide_eq_true_eq] at h2
    omega
  obtain ⟨z, _, hfl, hch⟩ := FloatsIn.split (l.take n) 0 _ hlow2 h
  simp only [chainB2, Bool.and_eq_true, List.all_eq_true, List.mem_range] at hC
  obtain ⟨⟨hc1, hc2⟩, hc3⟩ := hC
  refine wpIn_region_stage n hm hB (ChainSIn F n0 P l.toArray G (l.take n) (l.drop n) (fun x => fill (l.take n) 0 x a) Q ms rs n z) (fun _ _ => True)
    (fun x => ⟨fun i _ _ h => h.elim, [], ms, z, rfl, fun p hp => by simp at hp, fun p _ h => h, fun _ _ => rfl, fun p hp => by simp at hp, hch _ (Ext.drew w) hG, fun _ => hG, .inl fun p hp => by simp at hp⟩) ?_ ?_
  · refine allOps3_mkIn (l.take n) 0 fun i o hi Ld x W hS hcl hnl hdl _ K Q' hK => ?_
    rw [Nat.zero_add] at hnl hK
    have hin : i < n := by have := (List.getElem?_eq_some_iff.1 hi).1; simp at this; omega
    have ho : l[i]? = some o := by rw [List.getElem?_take] at hi; simpa [hin] using hi
    obtain ⟨hxf, pre, ms', y, hms, hpre, hsuf, hyz, hxy, hchn, hext, hrd⟩ := hS
    have hanc : ∀ j, (anc l i).contains j = true → Ld j := fun j hj => by
      unfold anc at hj
      rw [ho] at hj
      refine closeB_ok (l := l) (n := n) hcl (by omega) ?_ j hj
      intro j hj
      simp only [Option.map_some, Option.getD_some, List.mem_map] at hj
      obtain ⟨e, he, rfl⟩ := hj
      exact depsL_mem hdl e he
    by_cases hmi : ms.any (fun p => p.1 == i) = true
    · -- an operation of the chain
      obtain ⟨⟨i', e⟩, hp, hpi⟩ := List.any_eq_true.1 hmi
      simp only [beq_iff_eq] at hpi
      subst hpi
      have hps : (i', e) ∈ ms' := by
        rw [hms] at hp
        rcases List.mem_append.1 hp with h1 | h1
        · exact absurd (hpre _ h1) hnl
        · exact h1
      obtain ⟨⟨k0, e0⟩, r, rfl⟩ : ∃ p r, ms' = p :: r := by cases ms' with | nil => simp at hps | cons p r => exact ⟨p, r, rfl⟩
      have hk0 : (i', e) = (k0, e0) := by
        rcases List.mem_cons.1 hps with h1 | h1
        · exact h1
        · exfalso
          obtain ⟨p, hp1, hp2⟩ := chainOrd_pred (chainOrd_suffix pre (hms ▸ hc2)) h1
          exact hsuf p hp1 (hanc _ hp2)
      simp only [Prod.mk.injEq] at hk0
      obtain ⟨rfl, rfl⟩ := hk0
      have hdeps : DepsE y x ((((l.take n)[i']?).map edges).getD []) := by
        rw [hi]
        refine depsE_mk fun e' he' => ?_
        have hld := depsL_mem hdl e' he'
        by_cases hmj : ms.any (fun p => p.1 == e'.on) = true
        · obtain ⟨p, hpm, hpe⟩ := List.any_eq_true.1 hmj
          simp only [beq_iff_eq] at hpe
          rw [hms] at hpm
          rcases List.mem_append.1 hpm with h1 | h1
          · rw [← hpe]; exact hxy p h1
          · exact absurd (hpe ▸ hld) (hsuf p h1)
        · have hmj' : ms.any (fun p => p.1 == e'.on) = false := Bool.eq_false_iff.2 hmj
          have hlt : e'.on < n := by have := hlow2 i' o hi e' he'; omega
          rw [hyz _ hmj', hxf _ hlt hmj' hld]
      have hrun := hchn x hdeps K Q'
      rw [hi] at hrun
      simp only [Option.map_some, Option.getD_some] at hrun
      refine hrun fun v W' hev hrest => hK v W' trivial ?_
      have hnd : ∀ p ∈ r, p.1 ≠ i' := fun p hp hpe => by
        obtain ⟨q, hq1, hq2⟩ := chainOrd_pred (chainOrd_suffix pre (hms ▸ hc2)) hp
        have : (anc l i').contains q.1 = true := hpe ▸ hq2
        exact hsuf q hq1 (hanc _ this)
      refine ⟨fun j hj hmj hl => ?_, pre ++ [(i', e)], r, upd y i' v, by simp [hms], ?_, ?_, ?_, ?_, hrest, ?_, ?_⟩
      · have hji : j ≠ i' := fun h => by subst h; rw [hmj] at hmi; cases hmi
        unfold upd; rw [if_neg hji]
        exact hxf j hj hmj (hl.resolve_right hji)
      · intro p hp
        rcases List.mem_append.1 hp with h1 | h1
        · exact .inl (hpre p h1)
        · rw [List.mem_singleton] at h1; subst h1; exact .inr rfl
      · intro p hp h1
        exact h1.elim (hsuf p (by simp [hp])) (hnd p hp)
      · intro j hmj
        have hji : j ≠ i' := fun h => by subst h; rw [hmj] at hmi; cases hmi
        unfold upd; rw [if_neg hji]; exact hyz j hmj
      · intro p hp
        rcases List.mem_append.1 hp with h1 | h1
        · have hpi : p.1 ≠ i' := fun h => hnl (h ▸ hpre p h1)
          unfold upd; rw [if_neg hpi, if_neg hpi]; exact hxy p h1
        · rw [List.mem_singleton] at h1; subst h1; simp [upd]
      · intro hall
        exact hev (hall (i', e) (by simp))
      · cases e with
        | true =>
          rcases hrd with h1 | h1
          · refine .inl fun p hp => ?_
            rcases List.mem_append.1 hp with h2 | h2
            · exact h1 p h2
            · rw [List.mem_singleton] at h2; subst h2; rfl
          · exact .inr fun j hj hmj hrj => .inl (h1 j hj hmj hrj)
        | false =>
          refine .inr fun j hj hmj hrj => .inl ?_
          have h4 := hc3 (i', false) (hms ▸ by simp)
          simp only [Bool.false_or, List.all_eq_true, List.mem_range, decide_eq_true_eq] at h4
          have h5 := h4.2 j hj
          rw [hmj, hrj] at h5
          exact hanc j (by simpa using h5)
    · -- a floating one
      have hmi' : ms.any (fun p => p.1 == i) = false := Bool.eq_false_iff.2 hmi
      have hf := hfl i o hi (by rw [Nat.zero_add]; exact hmi')
      rw [Nat.zero_add] at hf
      refine hf x W (fun hr => ?_) (depsE_mk fun e he => ?_) K Q' (hK (z i) W trivial ⟨fun j hj hmj hl => ?_, pre, ms', y, hms, fun p hp => .inl (hpre p hp), fun p hp h1 => ?_, hyz, fun p hp => ?_, hchn, hext, hrd.imp (fun h => h) fun h1 j hj hmj hrj => .inl (h1 j hj hmj hrj)⟩)
      · rcases hrd with h1 | h1
        · exact hext h1
        · exact absurd (h1 i hin hmi' hr) hnl
      · have hlt : e.on < n := by have := hlow2 i o hi e he; omega
        have h4 := hc1 i hin
        rw [hmi', ho] at h4
        simp only [Bool.false_or, List.all_eq_true] at h4
        have h5 := h4 e he
        exact hxf _ hlt (by simpa using h5) (depsL_mem hdl e he)
      · by_cases hji : j = i
        · subst hji; simp [upd]
        · unfold upd; rw [if_neg hji]; exact hxf j hj hmj (hl.resolve_right hji)
      · refine h1.elim (hsuf p hp) fun h2 => ?_
        have : ms.any (fun q => q.1 == i) = true := List.any_eq_true.2 ⟨p, hms ▸ by simp [hp], by simp [h2]⟩
        rw [hmi'] at this; cases this
      · have hpi : p.1 ≠ i := fun h2 => by
          have : ms.any (fun q => q.1 == i) = true := List.any_eq_true.2 ⟨p, hms ▸ by simp [hp], by simp [h2]⟩
          rw [hmi'] at this; cases this
        unfold upd; rw [if_neg hpi]; exact hxy p hp
  · intro x W hS _
    obtain ⟨hxf, pre, ms', y, hms, hpre, hsuf, hyz, hxy, hchn, _, _⟩ := hS
    have hnil : ms' = [] := by
      cases ms' with
      | nil => rfl
      | cons p r =>
        have h4 := hc3 p (hms ▸ by simp)
        simp only [decide_eq_true_eq] at h4
        exact absurd h4.1 (hsuf p (by simp))
    subst hnil
    rw [List.append_nil] at hms
    subst hms
    have hxy' : ∀ j, j < n → x j = y j := fun j hj => by
      by_cases hmj : ms.any (fun p => p.1 == j) = true
      · obtain ⟨p, hpm, hpe⟩ := List.any_eq_true.1 hmj
        simp only [beq_iff_eq] at hpe
        rw [← hpe]; exact hxy p hpm
      · have hmj' : ms.any (fun p => p.1 == j) = false := Bool.eq_false_iff.2 hmj
        rw [hyz _ hmj']; exact hxf j hj hmj' hj
    rw [fill_congr' (l.take n) 0 x y a fun j _ hj => hxy' j (by simp at hj; omega)]
    exact hchn
theorem wpIn_region_chain {F : Fence} {n0 : Nat} {P : Program} {id : Nat} {Q : Exit → Act → World → Prop} {a : Act} {w : World} {l : List Oper} (n : Nat) (ms : List (Nat × Bool)) (rs : List Nat) (hm : P.follows .mixedOrders = true) (hB : headB2 l n = true) (hC : chainB2 l n ms rs = true)
    (h : FloatsIn F n0 P l.toArray w (Ext w) (l.take n) (l.drop n) (fun x => fill (l.take n) 0 x a) Q ms rs (l.take n) 0 (fun _ => undef)) :
    (Code.region id l.toArray true).wpIn F n0 P Q a w := wpIn_region_chainG (Ext w) (Ext.drew w) n ms rs hm hB hC h
end Go.Proofs.Pet

namespace Go.Proofs.Pet
open Go Go.RowKit

set_option maxHeartbeats 400000 in
theorem indexFuncI (g : Nat) (fs lb : Array Value) (eg : Enters Tryz.prog g) (p : Int → Bool) (A : Option Addr) (c : Nat) (xs : List Int) (w : World) (hb : xs.length ≤ maxLen)
    (hx : IntsAt w A xs) (hp : ∀ x ∈ xs, Tells Tryz.prog w g fs lb IntVal x (p x)) :
    Calls Tryz.prog 242 #[.slice A xs.length c, .func (.func g) fs lb] w fun e w' => (∃ i : Int, (0 ≤ i ↔ xs.any p = true) ∧ e = .returned (.int .i64 i)) ∧ Ext w w' := by
  unfold maxLen at hb
  go_enter Tryz.func242, Tryz.ntmps242
  go_wp2
  go_loopw [5, 8] (fun _ i wr => ∃ k : Nat, k ≤ xs.length ∧ i = .int .i64 k ∧ Hid (∀ j, j < k → p (xs[j]?.getD 0) = false) ∧ Ext w wr) (fun _ i _ => xs.length - (intOf i).toNat)
  case atStart => exact ⟨0, by omega, rfl, fun j hj => absurd hj (by omega), Ext.refl _⟩
  case round =>
    obtain ⟨k, hk, rfl, hm, he⟩ := hrel
    by_cases hlt : k < xs.length
    · obtain ⟨b, o, rfl, h1⟩ := hx.ext he k hlt
      have hmem0 : (xs[k]?.getD 0) ∈ xs := by simp [hlt]
      have hmem := Lib.hid hmem0
      generalize hgx : xs[k]?.getD 0 = x at *
      have Hgx := Lib.hid hgx; clear hgx
      have hc := hp x hmem0 wr _ he rfl
      clear hmem0
      obtain ⟨q, hq⟩ : ∃ q, p x = q := ⟨_, rfl⟩
      rw [hq] at hc
      have Hc := Lib.hid hc; clear hc
      have Hq := Lib.hid hq; clear hq
      have eg' := eg
      unfold Enters at eg'
      cases q with
      | true =>
        go_wp2_with fail
        refine Hc.out.mono ?_
        rintro e w' ⟨rfl, he'⟩
        go_wp2
        go_ret
        have ha : xs.any p = true := List.any_eq_true.2 ⟨x, hmem.out, Hq.out⟩
        exact ⟨⟨_, ⟨fun _ => ha, fun _ => by omega⟩, rfl⟩, he.trans he'⟩
      | false =>
        go_wp2_with fail
        refine Hc.out.mono ?_
        rintro e w' ⟨rfl, he'⟩
        go_wp2
        go_roundw
        case rel =>
          refine ⟨k + 1, by omega, by go_num, fun j hj => ?_, he.trans he'⟩
          by_cases ej : j = k
          · subst ej; rw [Hgx.out]; exact Hq.out
          · exact hm.out j (by omega)
        case measure => simp [intOf]; omega
    · go_wp2
      go_ret
      have hn : xs.any p = false := by
        rw [List.any_eq_false]
        intro y hy hpy
        obtain ⟨j, hj, rfl⟩ := List.mem_iff_getElem.1 hy
        have := hm.out j (by omega)
        simp [hj, hpy] at this
      exact ⟨⟨-1, ⟨fun h => absurd h (by omega), fun h => by rw [hn] at h; cases h⟩, rfl⟩, he⟩

theorem containsFuncI (g : Nat) (fs lb : Array Value) (eg : Enters Tryz.prog g) (p : Int → Bool) (A : Option Addr) (c : Nat) (xs : List Int) (w : World) (hb : xs.length ≤ maxLen)
    (hx : IntsAt w A xs) (hp : ∀ x ∈ xs, Tells Tryz.prog w g fs lb IntVal x (p x)) :
    Calls Tryz.prog 189 #[.slice A xs.length c, .func (.func g) fs lb] w fun e w' => e = .returned (.bool (xs.any p)) ∧ Ext w w' := by
  have h := indexFuncI g fs lb eg p A c xs w hb hx hp
  clear hx hp
  obtain ⟨q, hq⟩ : ∃ q, xs.any p = q := ⟨_, rfl⟩
  rw [hq] at h ⊢
  have H := Lib.hid h; clear h hq
  go_enter Tryz.func189, Tryz.ntmps189
  go_wp2_with fail
  refine H.out.mono ?_
  rintro e w' ⟨⟨i, hi, rfl⟩, he⟩
  cases q with
  | true =>
    have h0 : 0 ≤ i := hi.2 rfl
    clear hi
    go_wp2
    go_ret
    exact ⟨rfl, he⟩
  | false =>
    have h0 : decide (0 ≤ i) = false := by
      rw [decide_eq_false_iff_not]
      exact fun h => absurd (hi.1 h) (by simp)
    clear hi
    go_wp2
    go_ret
    exact ⟨rfl, he⟩

theorem everyI1 (g : Nat) (fs lb : Array Value) (eg : Enters Tryz.prog g) (B : Nat) (x : Int) (q : Bool) (w : World) (hp : Tells Tryz.prog w g fs lb IntVal x q) (hB : w.cell? ⟨B, 0, none⟩ = some (.func (.func g) fs lb)) :
    Tells Tryz.prog w 190 #[] #[.pointer (some ⟨B, 0, none⟩)] IntVal x (!q) := by
  intro W v hW hv
  have hB' := hW.cell hB
  obtain rfl : v = .int .i64 x := hv
  have hW' : Ext W W := Ext.refl W
  have Hp := Lib.hid hp
  clear hp hB
  have eg' := eg
  unfold Enters at eg'
  have hB2 := hW'.cell hB'
  show Calls Tryz.prog 190 #[_, .pointer (some ⟨B, 0, none⟩)] W _
  go_enter Tryz.func190, Tryz.ntmps190
  cases q with
  | true =>
    go_wp2_with fail
    refine (Hp.out _ _ (hW.trans hW') rfl).mono ?_
    rintro e w' ⟨rfl, he⟩
    go_wp2
    go_ret
    exact ⟨rfl, hW'.trans he⟩
  | false =>
    go_wp2_with fail
    refine (Hp.out _ _ (hW.trans hW') rfl).mono ?_
    rintro e w' ⟨rfl, he⟩
    go_wp2
    go_ret
    exact ⟨rfl, hW'.trans he⟩

theorem everyI (g : Nat) (fs lb : Array Value) (eg : Enters Tryz.prog g) (p : Int → Bool) (A : Option Addr) (c : Nat) (xs : List Int) (w : World) (hb : xs.length ≤ maxLen)
    (hx : IntsAt w A xs) (hp : ∀ x ∈ xs, Tells Tryz.prog w g fs lb IntVal x (p x)) :
    Calls Tryz.prog 85 #[.slice A xs.length c, .func (.func g) fs lb] w fun e w' => e = .returned (.bool (xs.all p)) ∧ Ext w w' := by
  have hmf : ∀ (fn : Fn) (first cap : Array Value) (w : World), (Instr.makeFunc fn first cap).run Tryz.prog w = .ok (.func fn first cap) w := fun _ _ _ _ => rfl
  have hq0 : xs.all p = !(xs.any fun x => !p x) := by rw [List.not_any_eq_all_not]; simp
  obtain ⟨q, hq⟩ : ∃ q, xs.any (fun x => !p x) = q := ⟨_, rfl⟩
  rw [hq0, hq]
  have hE : Ext w (w.alloc (.cells #[.func (.func g) fs lb] 156)) := Ext.alloc _ _
  have h := containsFuncI 190 #[] #[.pointer (some ⟨w.heap.size, 0, none⟩)] (enters_of Tryz.func190 (by kernel_rfl) rfl) (fun x => !p x) A c xs _ hb (hx.ext hE) (fun x hxm => everyI1 g fs lb eg w.heap.size x (p x) _ ((hp x hxm).ext hE) (cell_new_l w _ _).1)
  rw [hq] at h
  have H := Lib.hid h; clear h hx hp hq hq0
  go_enter Tryz.func85, Tryz.ntmps85
  go_wp2_with fail
  refine H.out.mono ?_
  rintro e w' ⟨rfl, he⟩
  cases q with
  | true =>
    go_wp2
    go_ret
    exact ⟨rfl, hE.trans he⟩
  | false =>
    go_wp2
    go_ret
    exact ⟨rfl, hE.trans he⟩


set_option maxHeartbeats 400000 in
theorem indexFuncO (g : Nat) (fs lb : Array Value) (eg : Enters Tryz.prog g) (p : Ord → Bool) (A : Option Addr) (c : Nat) (xs : List Ord) (w : World) (hb : xs.length ≤ maxLen)
    (hx : OrdsAt w A xs) (hp : ∀ x ∈ xs, Tells Tryz.prog w g fs lb OrdVal x (p x)) :
    Calls Tryz.prog 243 #[.slice A xs.length c, .func (.func g) fs lb] w fun e w' => (∃ i : Int, (0 ≤ i ↔ xs.any p = true) ∧ e = .returned (.int .i64 i)) ∧ Ext w w' := by
  unfold maxLen at hb
  go_enter Tryz.func243, Tryz.ntmps243
  go_wp2
  go_loopw [5, 8] (fun _ i wr => ∃ k : Nat, k ≤ xs.length ∧ i = .int .i64 k ∧ Hid (∀ j, j < k → p (xs[j]?.getD default) = false) ∧ Ext w wr) (fun _ i _ => xs.length - (intOf i).toNat)
  case atStart => exact ⟨0, by omega, rfl, fun j hj => absurd hj (by omega), Ext.refl _⟩
  case round =>
    obtain ⟨k, hk, rfl, hm, he⟩ := hrel
    by_cases hlt : k < xs.length
    · obtain ⟨b, o, rfl, A, ca, hca, h1, h2, h3, h4, h5⟩ := hx.ext he k hlt
      have hmem0 : (xs[k]?.getD default) ∈ xs := by simp [hlt]
      have hmem := Lib.hid hmem0
      generalize hgx : xs[k]?.getD default = x at *
      have Hgx := Lib.hid hgx; clear hgx
      have hc := hp x hmem0 wr _ he ⟨A, ca, hca, rfl, h5⟩
      clear hmem0
      obtain ⟨q, hq⟩ : ∃ q, p x = q := ⟨_, rfl⟩
      rw [hq] at hc
      have Hc := Lib.hid hc; clear hc
      have Hq := Lib.hid hq; clear hq
      have eg' := eg
      unfold Enters at eg'
      cases q with
      | true =>
        go_wp2_with fail
        refine Hc.out.mono ?_
        rintro e w' ⟨rfl, he'⟩
        go_wp2
        go_ret
        have ha : xs.any p = true := List.any_eq_true.2 ⟨x, hmem.out, Hq.out⟩
        exact ⟨⟨_, ⟨fun _ => ha, fun _ => by omega⟩, rfl⟩, he.trans he'⟩
      | false =>
        go_wp2_with fail
        refine Hc.out.mono ?_
        rintro e w' ⟨rfl, he'⟩
        go_wp2
        go_roundw
        case rel =>
          refine ⟨k + 1, by omega, by go_num, fun j hj => ?_, he.trans he'⟩
          by_cases ej : j = k
          · subst ej; rw [Hgx.out]; exact Hq.out
          · exact hm.out j (by omega)
        case measure => simp [intOf]; omega
    · go_wp2
      go_ret
      have hn : xs.any p = false := by
        rw [List.any_eq_false]
        intro y hy hpy
        obtain ⟨j, hj, rfl⟩ := List.mem_iff_getElem.1 hy
        have := hm.out j (by omega)
        simp [hj, hpy] at this
      exact ⟨⟨-1, ⟨fun h => absurd h (by omega), fun h => by rw [hn] at h; cases h⟩, rfl⟩, he⟩

theorem containsFuncO (g : Nat) (fs lb : Array Value) (eg : Enters Tryz.prog g) (p : Ord → Bool) (A : Option Addr) (c : Nat) (xs : List Ord) (w : World) (hb : xs.length ≤ maxLen)
    (hx : OrdsAt w A xs) (hp : ∀ x ∈ xs, Tells Tryz.prog w g fs lb OrdVal x (p x)) :
    Calls Tryz.prog 191 #[.slice A xs.length c, .func (.func g) fs lb] w fun e w' => e = .returned (.bool (xs.any p)) ∧ Ext w w' := by
  have h := indexFuncO g fs lb eg p A c xs w hb hx hp
  clear hx hp
  obtain ⟨q, hq⟩ : ∃ q, xs.any p = q := ⟨_, rfl⟩
  rw [hq] at h ⊢
  have H := Lib.hid h; clear h hq
  go_enter Tryz.func191, Tryz.ntmps191
  go_wp2_with fail
  refine H.out.mono ?_
  rintro e w' ⟨⟨i, hi, rfl⟩, he⟩
  cases q with
  | true =>
    have h0 : 0 ≤ i := hi.2 rfl
    clear hi
    go_wp2
    go_ret
    exact ⟨rfl, he⟩
  | false =>
    have h0 : decide (0 ≤ i) = false := by
      rw [decide_eq_false_iff_not]
      exact fun h => absurd (hi.1 h) (by simp)
    clear hi
    go_wp2
    go_ret
    exact ⟨rfl, he⟩

theorem everyO1 (g : Nat) (fs lb : Array Value) (eg : Enters Tryz.prog g) (B : Nat) (x : Ord) (q : Bool) (w : World) (hp : Tells Tryz.prog w g fs lb OrdVal x q) (hB : w.cell? ⟨B, 0, none⟩ = some (.func (.func g) fs lb)) :
    Tells Tryz.prog w 192 #[] #[.pointer (some ⟨B, 0, none⟩)] OrdVal x (!q) := by
  intro W v hW hv
  have hB' := hW.cell hB
  obtain ⟨A, ca, hca, rfl, h5⟩ := hv
  have hW' := Ext.alloc W (.cells #[.int .i64 x.pattern, .int .i64 x.days, .int .i64 x.by_, .slice A x.on.length ca] 28)
  have Hp := Lib.hid hp
  clear hp hB
  have eg' := eg
  unfold Enters at eg'
  have hB2 := hW'.cell hB'
  show Calls Tryz.prog 192 #[_, .pointer (some ⟨B, 0, none⟩)] W _
  go_enter Tryz.func192, Tryz.ntmps192
  cases q with
  | true =>
    go_wp2_with fail
    refine (Hp.out _ _ (hW.trans hW') ⟨A, ca, hca, rfl, h5.ext hW'⟩).mono ?_
    rintro e w' ⟨rfl, he⟩
    go_wp2
    go_ret
    exact ⟨rfl, hW'.trans he⟩
  | false =>
    go_wp2_with fail
    refine (Hp.out _ _ (hW.trans hW') ⟨A, ca, hca, rfl, h5.ext hW'⟩).mono ?_
    rintro e w' ⟨rfl, he⟩
    go_wp2
    go_ret
    exact ⟨rfl, hW'.trans he⟩

theorem everyO (g : Nat) (fs lb : Array Value) (eg : Enters Tryz.prog g) (p : Ord → Bool) (A : Option Addr) (c : Nat) (xs : List Ord) (w : World) (hb : xs.length ≤ maxLen)
    (hx : OrdsAt w A xs) (hp : ∀ x ∈ xs, Tells Tryz.prog w g fs lb OrdVal x (p x)) :
    Calls Tryz.prog 87 #[.slice A xs.length c, .func (.func g) fs lb] w fun e w' => e = .returned (.bool (xs.all p)) ∧ Ext w w' := by
  have hmf : ∀ (fn : Fn) (first cap : Array Value) (w : World), (Instr.makeFunc fn first cap).run Tryz.prog w = .ok (.func fn first cap) w := fun _ _ _ _ => rfl
  have hq0 : xs.all p = !(xs.any fun x => !p x) := by rw [List.not_any_eq_all_not]; simp
  obtain ⟨q, hq⟩ : ∃ q, xs.any (fun x => !p x) = q := ⟨_, rfl⟩
  rw [hq0, hq]
  have hE : Ext w (w.alloc (.cells #[.func (.func g) fs lb] 160)) := Ext.alloc _ _
  have h := containsFuncO 192 #[] #[.pointer (some ⟨w.heap.size, 0, none⟩)] (enters_of Tryz.func192 (by kernel_rfl) rfl) (fun x => !p x) A c xs _ hb (hx.ext hE) (fun x hxm => everyO1 g fs lb eg w.heap.size x (p x) _ ((hp x hxm).ext hE) (cell_new_l w _ _).1)
  rw [hq] at h
  have H := Lib.hid h; clear h hx hp hq hq0
  go_enter Tryz.func87, Tryz.ntmps87
  go_wp2_with fail
  refine H.out.mono ?_
  rintro e w' ⟨rfl, he⟩
  cases q with
  | true =>
    go_wp2
    go_ret
    exact ⟨rfl, hE.trans he⟩
  | false =>
    go_wp2
    go_ret
    exact ⟨rfl, hE.trans he⟩

end Go.Proofs.Pet

namespace Go.Proofs.Pet
open Go Go.RowKit

theorem in_any (n lo hi : Int) (q : Bool) (hq : inB n lo hi = q) (w : World) :
    Calls Tryz.prog 84 #[.int .i64 n, .int .i64 lo, .int .i64 hi] w fun e w' => e = .returned (.bool q) ∧ w = w' := by
  subst hq
  unfold inB
  by_cases h1 : lo ≤ n
  · by_cases h2 : n ≤ hi
    · go_enter Tryz.func84, Tryz.ntmps84
      go_wp2
      go_ret
      exact ⟨by simp [h1, h2], rfl⟩
    · have hd : decide (n ≤ hi) = false := by simp; omega
      go_enter Tryz.func84, Tryz.ntmps84
      go_wp2
      go_ret
      exact ⟨by simp, rfl⟩
  · have hd : decide (lo ≤ n) = false := by simp; omega
    go_enter Tryz.func84, Tryz.ntmps84
    go_wp2
    go_ret
    exact ⟨by simp, rfl⟩

theorem loom_any (v : Value) (m : Mill) (n : Int) (q : Bool) (hq : inB n 0 (m.laced.length - 1) = q) (w : World) (hv : MillVal w v m) :
    Calls Tryz.prog 83 #[v, .int .i64 n] w fun e w' => e = .returned (.bool q) ∧ Ext w w' := by
  obtain ⟨A1, c1, A2, c2, rfl, h2, h3, h4, h5, h6, h7⟩ := hv
  unfold maxLen at h3
  have hE := Ext.alloc w (.cells #[.slice A1 m.laced.length c1, .int .i64 m.change, .slice A2 m.orders.length c2] 25)
  have Hc := Lib.hid (in_any n 0 (m.laced.length - 1) q hq)
  clear hq
  go_enter Tryz.func83, Tryz.ntmps83
  go_wp2_with fail
  refine (Hc.out _).mono ?_
  rintro e w' ⟨rfl, rfl⟩
  go_wp2
  go_ret
  exact ⟨rfl, hE⟩

theorem order_any (v : Value) (m : Mill) (n : Int) (q : Bool) (hq : inB n 0 (m.orders.length - 1) = q) (w : World) (hv : MillVal w v m) :
    Calls Tryz.prog 240 #[v, .int .i64 n] w fun e w' => e = .returned (.bool q) ∧ Ext w w' := by
  obtain ⟨A1, c1, A2, c2, rfl, h2, h3, h4, h5, h6, h7⟩ := hv
  unfold maxLen at h5
  have hE := Ext.alloc w (.cells #[.slice A1 m.laced.length c1, .int .i64 m.change, .slice A2 m.orders.length c2] 25)
  have Hc := Lib.hid (in_any n 0 (m.orders.length - 1) q hq)
  clear hq
  go_enter Tryz.func240, Tryz.ntmps240
  go_wp2_with fail
  refine (Hc.out _).mono ?_
  rintro e w' ⟨rfl, rfl⟩
  go_wp2
  go_ret
  exact ⟨rfl, hE⟩

theorem changed_any (a b : Int) (w : World) :
    Calls Tryz.prog 235 #[.int .i64 a, .int .i64 b] w fun e w' => e = .returned (.int .i64 (if a = b then 0 else 1)) ∧ w = w' := by
  by_cases h : a = b
  · subst h
    go_enter Tryz.func235, Tryz.ntmps235
    go_wp2
    go_ret
    exact ⟨by simp, rfl⟩
  · have hd : (a == b) = false := by simpa using h
    rw [if_neg h]
    clear h
    go_enter Tryz.func235, Tryz.ntmps235
    go_wp2
    go_ret
    exact ⟨rfl, rfl⟩

set_option maxHeartbeats 400000 in
theorem index_any (x : Int) (A : Option Addr) (c n : Nat) (xs : List Int) (hn : xs.length = n) (w : World) (hb : xs.length ≤ maxLen) (hx : IntsAt w A xs) :
    Calls Tryz.prog 238 #[.slice A n c, .int .i64 x] w fun e w' => (∃ i : Int, (0 ≤ i ↔ x ∈ xs) ∧ e = .returned (.int .i64 i)) ∧ w = w' := by
  subst hn
  unfold maxLen at hb
  go_enter Tryz.func238, Tryz.ntmps238
  go_wp2
  go_loop [5, 8] (fun _ i => ∃ k : Nat, k ≤ xs.length ∧ i = .int .i64 k ∧ Hid (∀ j, j < k → xs[j]?.getD 0 ≠ x)) (fun _ i => xs.length - (intOf i).toNat)
  case atStart => exact ⟨0, by omega, rfl, fun j hj => absurd hj (by omega)⟩
  case round =>
    obtain ⟨k, hk, rfl, hm⟩ := hrel
    by_cases hlt : k < xs.length
    · obtain ⟨b, o, rfl, h1⟩ := hx k hlt
      have hmem0 : (xs[k]?.getD 0) ∈ xs := by simp [hlt]
      have hmem := Lib.hid hmem0; clear hmem0
      generalize hgx : xs[k]?.getD 0 = y at *
      have Hgx := Lib.hid hgx; clear hgx
      by_cases he : x = y
      · subst he
        go_wp2
        go_ret
        exact ⟨⟨_, ⟨fun _ => hmem.out, fun _ => by omega⟩, rfl⟩, rfl⟩
      · have hd : (x == y) = false := by simpa using he
        have He := Lib.hid he; clear he
        go_wp2
        go_round
        case rel =>
          refine ⟨k + 1, by omega, by go_num, fun j hj => ?_⟩
          by_cases ej : j = k
          · subst ej; rw [Hgx.out]; exact fun h => He.out h.symm
          · exact hm.out j (by omega)
        case measure => simp [intOf]; omega
    · go_wp2
      go_ret
      refine ⟨⟨-1, ⟨fun h => absurd h (by omega), fun h => ?_⟩, rfl⟩, rfl⟩
      obtain ⟨j, hj, rfl⟩ := List.mem_iff_getElem.1 h
      have := hm.out j (by omega)
      simp [hj] at this

theorem contains_any (x : Int) (A : Option Addr) (c n : Nat) (xs : List Int) (hn : xs.length = n) (q : Bool) (hq : xs.contains x = q) (w : World) (hb : xs.length ≤ maxLen) (hx : IntsAt w A xs) :
    Calls Tryz.prog 172 #[.slice A n c, .int .i64 x] w fun e w' => e = .returned (.bool q) ∧ w = w' := by
  subst hn
  have H := Lib.hid (index_any x A c _ xs rfl w hb hx)
  have Hq : Hid (q = decide (x ∈ xs)) := by unfold Hid; rw [← hq]; simp
  clear hq hx
  go_enter Tryz.func172, Tryz.ntmps172
  go_wp2_with fail
  refine H.out.mono ?_
  rintro e w' ⟨⟨i, hi, rfl⟩, rfl⟩
  by_cases h0 : 0 ≤ i
  · have Hi := Lib.hid hi; clear hi
    go_wp2
    go_ret
    exact ⟨by rw [Hq.out, decide_eq_true (Hi.out.1 h0)]; rfl, rfl⟩
  · have hd : decide (0 ≤ i) = false := by simpa using h0
    have Hi := Lib.hid hi; clear hi
    have H0 := Lib.hid h0; clear h0
    go_wp2
    go_ret
    exact ⟨by rw [Hq.out, decide_eq_false (fun h => absurd (Hi.out.2 h) (by have := H0.out; omega))]; rfl, rfl⟩

set_option maxHeartbeats 400000 in
theorem rising_any (A : Option Addr) (c : Nat) (xs : List Int) (q : Bool) (hq : risingB xs = q) (w : World) (hl : xs.length ≤ maxLen) (hx : IntsAt w A xs) :
    Calls Tryz.prog 92 #[.slice A xs.length c] w fun e w' => e = .returned (.bool q) ∧ Ext w w' := by
  unfold maxLen at hl
  have Hq : Hid (q = true ↔ risingTo xs xs.length) := by unfold Hid; rw [← hq]; exact risingB_iff xs
  clear hq
  go_enter Tryz.func92, Tryz.ntmps92
  go_wp2
  go_loopw [3] (fun i wr => ∃ k : Nat, 1 ≤ k ∧ (k ≤ xs.length ∨ k = 1) ∧ i = .int .i64 k ∧ Hid (risingTo xs k) ∧ Ext w wr) (fun i _ => xs.length + 1 - (intOf i).toNat)
  case atStart => exact ⟨1, by omega, by omega, rfl, by intro i h1 h2; omega, Ext.refl _⟩
  case round =>
    obtain ⟨k, hk1, hk2, rfl, hr, he⟩ := hrel
    by_cases hlt : k < xs.length
    · obtain ⟨b, o, rfl, c1⟩ := hx.ext he k hlt
      obtain ⟨b', o', e', c2⟩ := hx.ext he (k-1) (by omega)
      simp only [Option.some.injEq, Addr.mk.injEq, and_true] at e'
      obtain ⟨rfl, rfl⟩ := e'
      have e1 : ((k : Int) - 1).toNat = k - 1 := by omega
      have b1 : (0:Int) ≤ (k : Int) - 1 := by omega
      have b2 : (k : Int) - 1 < xs.length := by omega
      have hk2' := Lib.hid hk2; clear hk2
      generalize hga : xs[k]?.getD 0 = x at *
      generalize hgb : xs[k-1]?.getD 0 = y at *
      have Hga := Lib.hid hga; clear hga
      have Hgb := Lib.hid hgb; clear hgb
      by_cases hle : x ≤ y
      · go_wp2_with fail
        go_quiet (fail)
        go_wp2
        go_ret
        refine ⟨?_, he.trans (Ext.drewN _ _)⟩
        have : ¬ risingTo xs xs.length := fun h => by
          have := h k hk1 hlt
          rw [Hga.out, Hgb.out] at this
          omega
        cases q with
        | true => exact absurd (Hq.out.1 rfl) this
        | false => rfl
      · have hd : decide (x ≤ y) = false := by simpa using hle
        have Hle := Lib.hid hle; clear hle
        go_wp2_with fail
        go_quiet (fail)
        go_wp2
        go_roundw
        case rel =>
          refine ⟨k + 1, by omega, by omega, by go_num, fun i h1 h2 => ?_, he.trans (Ext.drewN _ _)⟩
          by_cases ei : i = k
          · subst ei; rw [Hga.out, Hgb.out]; have := Hle.out; omega
          · exact hr.out i h1 (by omega)
        case measure => simp [intOf]; omega
    · go_wp2
      go_ret
      refine ⟨?_, he⟩
      have : risingTo xs xs.length := by
        rcases hk2 with h | h
        · have : k = xs.length := by omega
          rw [← this]; exact hr.out
        · intro i h1 h2; omega
      rw [Hq.out.2 this]; rfl
end Go.Proofs.Pet

namespace Go.Proofs.Pet
open Go Go.RowKit

theorem check1 (w : World) (x : Int) : Tells Tryz.prog w 86 #[] #[] IntVal x (inB x (-1) 9) := by
  intro W v hW hv
  obtain rfl : v = .int .i64 x := hv
  have Hc := Lib.hid (in_any x (-1) 9 _ rfl)
  generalize inB x (-1) 9 = q at Hc ⊢
  show Calls Tryz.prog 86 #[_] W _
  go_enter Tryz.func86, Tryz.ntmps86
  go_wp2_with fail
  refine (Hc.out _).mono ?_
  rintro e w' ⟨rfl, rfl⟩
  go_wp2
  go_ret
  exact ⟨rfl, Ext.refl _⟩

theorem check2 (w : World) (x : Ord) : Tells Tryz.prog w 88 #[] #[] OrdVal x (inB x.pattern 0 9 && inB x.days 1 20 && inB x.by_ 1 99) := by
  intro W v hW hv
  obtain ⟨A, c, h1, rfl, h3⟩ := hv
  have H1 := Lib.hid (in_any x.pattern 0 9 _ rfl)
  have H2 := Lib.hid (in_any x.days 1 20 _ rfl)
  have H3 := Lib.hid (in_any x.by_ 1 99 _ rfl)
  have hE := Ext.alloc W (.cells #[.int .i64 x.pattern, .int .i64 x.days, .int .i64 x.by_, .slice A x.on.length c] 28)
  generalize inB x.pattern 0 9 = q1 at H1 ⊢
  generalize inB x.days 1 20 = q2 at H2 ⊢
  generalize inB x.by_ 1 99 = q3 at H3 ⊢
  show Calls Tryz.prog 88 #[_] W _
  go_enter Tryz.func88, Tryz.ntmps88
  go_wp2_with fail
  refine (H1.out _).mono ?_
  rintro e w' ⟨rfl, rfl⟩
  cases q1 with
  | false =>
    go_wp2
    go_ret
    exact ⟨rfl, hE⟩
  | true =>
    go_wp2_with fail
    refine (H2.out _).mono ?_
    rintro e w' ⟨rfl, rfl⟩
    cases q2 with
    | false =>
      go_wp2
      go_ret
      exact ⟨rfl, hE⟩
    | true =>
      go_wp2_with fail
      refine (H3.out _).mono ?_
      rintro e w' ⟨rfl, rfl⟩
      go_wp2
      go_ret
      exact ⟨rfl, hE⟩

theorem check3 (w : World) (x : Ord) : Tells Tryz.prog w 89 #[] #[] OrdVal x (decide (0 < x.on.length)) := by
  intro W v hW hv
  obtain ⟨A, c, h1, rfl, h3⟩ := hv
  have hE := Ext.alloc W (.cells #[.int .i64 x.pattern, .int .i64 x.days, .int .i64 x.by_, .slice A x.on.length c] 28)
  show Calls Tryz.prog 89 #[_] W _
  go_enter Tryz.func89, Tryz.ntmps89
  go_wp2
  go_ret
  exact ⟨by simp, hE⟩

theorem check5 (w : World) (x : Ord) : Tells Tryz.prog w 91 #[] #[] OrdVal x (risingB x.on) := by
  intro W v hW hv
  obtain ⟨A, c, h1, rfl, h3⟩ := hv
  have hE := Ext.alloc W (.cells #[.int .i64 x.pattern, .int .i64 x.days, .int .i64 x.by_, .slice A x.on.length c] 28)
  have H := Lib.hid (rising_any A c x.on _ rfl _ (Nat.le_trans h1.1 h1.2) (h3.ext hE))
  generalize risingB x.on = q at H ⊢
  show Calls Tryz.prog 91 #[_] W _
  go_enter Tryz.func91, Tryz.ntmps91
  go_wp2_with fail
  refine H.out.mono ?_
  rintro e w' ⟨rfl, he⟩
  go_wp2
  go_ret
  exact ⟨rfl, hE.trans he⟩

theorem check4 (w : World) (B : Nat) (mv : Value) (m : Mill) (hB : w.cell? ⟨B, 0, none⟩ = some (.func (.func 83) #[mv] #[])) (hm : MillVal w mv m) (x : Ord) :
    Tells Tryz.prog w 90 #[] #[.pointer (some ⟨B, 0, none⟩)] OrdVal x (x.on.all fun n => inB n 0 (m.laced.length - 1)) := by
  intro W v hW hv
  obtain ⟨A, c, h1, rfl, h3⟩ := hv
  have hB' := hW.cell hB
  have hE := Ext.alloc W (.cells #[.int .i64 x.pattern, .int .i64 x.days, .int .i64 x.by_, .slice A x.on.length c] 28)
  have hB2 := hE.cell hB'
  have h := everyI 83 #[mv] #[] (enters_of Tryz.func83 (by kernel_rfl) rfl) (fun n => inB n 0 (m.laced.length - 1)) A c x.on _ (Nat.le_trans h1.1 h1.2) (h3.ext hE)
    (fun y _ => fun W' v' hW' hv' => by
      obtain rfl : v' = .int .i64 y := hv'
      exact loom_any mv m y _ rfl W' (hm.ext (hW.trans (hE.trans hW'))))
  have H := Lib.hid h; clear h
  generalize (x.on.all fun n => inB n 0 (m.laced.length - 1)) = q at H ⊢
  clear hB
  show Calls Tryz.prog 90 #[_, .pointer (some ⟨B, 0, none⟩)] W _
  go_enter Tryz.func90, Tryz.ntmps90
  go_wp2_with fail
  refine H.out.mono ?_
  rintro e w' ⟨rfl, he⟩
  go_wp2
  go_ret
  exact ⟨rfl, hE.trans he⟩

set_option maxHeartbeats 1000000 in
theorem check_any (v : Value) (m : Mill) (w : World) (hv : MillVal w v m) :
    Calls Tryz.prog 17 #[v] w fun e w' => e = .returned (.int .i64 (checkE m)) ∧ Ext w w' := by
  have hmf : ∀ (fn : Fn) (first cap : Array Value) (w : World), (Instr.makeFunc fn first cap).run Tryz.prog w = .ok (.func fn first cap) w := fun _ _ _ _ => rfl
  have Hv := Lib.hid hv
  obtain ⟨A1, c1, A2, c2, rfl, h2, h3, h4, h5, h6, h7⟩ := hv
  have h3' := Lib.hid h3
  have h5' := Lib.hid h5
  unfold maxLen at h3 h5
  have g1 : m.laced.length ≤ maxLen := by unfold maxLen; omega
  have g2 : m.orders.length ≤ maxLen := by unfold maxLen; omega
  unfold checkE
  have hin := in_any m.laced.length 1 3 _ rfl
  have hch := in_any m.change 0 5 _ rfl
  -- the three worlds at which all is asked
  have hE1 := Ext.alloc w (.cells #[.slice A1 m.laced.length c1, .int .i64 m.change, .slice A2 m.orders.length c2] 25)
  have hB1 := cell_new_l (w.alloc (.cells #[.slice A1 m.laced.length c1, .int .i64 m.change, .slice A2 m.orders.length c2] 25)) (.func (.func 83) #[.agg #[.slice A1 m.laced.length c1, .int .i64 m.change, .slice A2 m.orders.length c2]] #[]) 156
  have hE2 := hE1.trans (Ext.alloc _ (.cells #[.func (.func 83) #[.agg #[.slice A1 m.laced.length c1, .int .i64 m.change, .slice A2 m.orders.length c2]] #[]] 156))
  simp only [World.size_alloc] at hB1
  have hM := Lib.hid ((Blk.new w 25 #[.slice A1 m.laced.length c1, .int .i64 m.change, .slice A2 m.orders.length c2]).alloc (.cells #[.func (.func 83) #[.agg #[.slice A1 m.laced.length c1, .int .i64 m.change, .slice A2 m.orders.length c2]] #[]] 156))
  have hB1' := Lib.hid hB1.1; clear hB1
  have e1 := fun W (hW : Ext w W) => everyI 86 #[] #[] (enters_of Tryz.func86 (by kernel_rfl) rfl) _ A1 c1 m.laced W g1 (h6.ext hW) (fun x _ => check1 W x)
  have e2 := fun W (hW : Ext w W) => everyO 88 #[] #[] (enters_of Tryz.func88 (by kernel_rfl) rfl) _ A2 c2 m.orders W g2 (h7.ext hW) (fun x _ => check2 W x)
  have e3 := fun W (hW : Ext w W) => everyO 89 #[] #[] (enters_of Tryz.func89 (by kernel_rfl) rfl) _ A2 c2 m.orders W g2 (h7.ext hW) (fun x _ => check3 W x)
  have e5 := fun W (hW : Ext w W) => everyO 91 #[] #[] (enters_of Tryz.func91 (by kernel_rfl) rfl) _ A2 c2 m.orders W g2 (h7.ext hW) (fun x _ => check5 W x)
  have e4 := fun W B (hW : Ext w W) (hB : W.cell? ⟨B, 0, none⟩ = some (.func (.func 83) #[.agg #[.slice A1 m.laced.length c1, .int .i64 m.change, .slice A2 m.orders.length c2]] #[])) =>
    everyO 90 #[] #[.pointer (some ⟨B, 0, none⟩)] (enters_of Tryz.func90 (by kernel_rfl) rfl) _ A2 c2 m.orders W g2 (h7.ext hW) (fun x _ => check4 W B _ m hB (Hv.out.ext hW) x)
  generalize inB m.laced.length 1 3 = q1 at hin ⊢
  generalize inB m.change 0 5 = q2 at hch ⊢
  generalize (m.laced.all fun n => inB n (-1) 9) = q3 at e1 ⊢
  generalize (m.orders.all fun o => inB o.pattern 0 9 && inB o.days 1 20 && inB o.by_ 1 99) = q4 at e2 ⊢
  generalize (m.orders.all fun o => decide (0 < o.on.length)) = q5 at e3 ⊢
  generalize (m.orders.all fun o => o.on.all fun n => inB n 0 (m.laced.length - 1)) = q6 at e4 ⊢
  generalize (m.orders.all fun o => risingB o.on) = q7 at e5 ⊢
  have Hin := Lib.hid hin
  have Hch := Lib.hid hch
  have E1 := Lib.hid e1
  have E2 := Lib.hid e2
  have E3 := Lib.hid e3
  have E4 := Lib.hid e4
  have E5 := Lib.hid e5
  clear hin hch e1 e2 e3 e4 e5
  go_enter Tryz.func17, Tryz.ntmps17
  go_wp2_with fail
  refine (Hin.out _).mono ?_
  rintro e w' ⟨rfl, rfl⟩
  cases q1 with
  | false =>
    go_wp2
    go_ret
    exact ⟨by simp, hE2⟩
  | true =>
    by_cases hlen : 7 < m.orders.length
    · go_wp2
      go_ret
      exact ⟨by simp, hE2⟩
    · have hlen' : decide (7 < (m.orders.length : Int)) = false := by simp; omega
      go_wp2_with fail
      refine (E1.out _ hE2).mono ?_
      rintro e w3 ⟨rfl, hE3⟩
      have hE3' := hE2.trans hE3
      have hB3 := Lib.hid (hE3.cell hB1'.out)
      obtain ⟨k0, k1, k2⟩ := (hM.out.ext hE3).c3
      cases q3 with
      | false =>
        go_wp2
        go_ret
        exact ⟨by simp, hE3'⟩
      | true =>
        go_wp2_with fail
        refine (Hch.out _).mono ?_
        rintro e w' ⟨rfl, rfl⟩
        cases q2 with
        | false =>
          go_wp2
          go_ret
          exact ⟨by simp, hE3'⟩
        | true =>
          go_wp2_with fail
          refine (E2.out _ hE3').mono ?_
          rintro e w4 ⟨rfl, hE4⟩
          have hE4' := hE3'.trans hE4
          have hM4 := hM.out.ext (hE3.trans hE4)
          have hB4 := Lib.hid (hE4.cell hB3.out)
          clear k0 k1 k2
          obtain ⟨k0, k1, k2⟩ := hM4.c3
          cases q4 with
          | false =>
            go_wp2
            go_ret
            exact ⟨by simp, hE4'⟩
          | true =>
            go_wp2_with fail
            refine (E3.out _ hE4').mono ?_
            rintro e w5 ⟨rfl, hE5⟩
            have hE5' := hE4'.trans hE5
            have hM5 := hM4.ext hE5
            have hB5 := Lib.hid (hE5.cell hB4.out)
            clear k0 k1 k2
            obtain ⟨k0, k1, k2⟩ := hM5.c3
            cases q5 with
            | false =>
              go_wp2
              go_ret
              exact ⟨by simp, hE5'⟩
            | true =>
              go_wp2_with fail
              refine (E4.out _ _ hE5' hB5.out).mono ?_
              rintro e w6 ⟨rfl, hE6⟩
              have hE6' := hE5'.trans hE6
              have hM6 := hM5.ext hE6
              clear k0 k1 k2
              obtain ⟨k0, k1, k2⟩ := hM6.c3
              cases q6 with
              | false =>
                go_wp2
                go_ret
                exact ⟨by simp, hE6'⟩
              | true =>
                go_wp2_with fail
                refine (E5.out _ hE6').mono ?_
                rintro e w7 ⟨rfl, hE7⟩
                have hE7' := hE6'.trans hE7
                cases q7 with
                | false =>
                  go_wp2
                  go_ret
                  exact ⟨by simp, hE7'⟩
                | true =>
                  go_wp2
                  all_goals
                    go_ret
                    exact ⟨by first | rfl | simp, hE7'⟩
end Go.Proofs.Pet

namespace Go.Proofs.Pet
open Go Go.RowKit

theorem info_int : (Tryz.prog.info? 3).map (fun i => (i.zero, i.size, i.bytes)) = some (some (.int .i64 0), 1, 8) := by kernel_rfl

set_option maxHeartbeats 400000 in
theorem cloneI (A : Option Addr) (c : Nat) (xs : List Int) (w : World) (hb : xs.length * 8 ≤ 140737488355328) (hx : IntsAt w A xs) :
    Calls Tryz.prog 52 #[.slice A xs.length c] w fun e w' => ∃ v, e = .returned v ∧ OwnI w' w.heap.size 3 v xs ∧ Ext w w' := by
  obtain ⟨i, hi, hz0, hz1, hz2⟩ := info_parts info_int
  have hnil : ∀ W : World, (binOp .eql 22 (.slice A xs.length c) (.slice none 0 0)).run Tryz.prog W = .ok (.bool A.isNone) W := fun W => Lib.run_eql_slice_nil W 22 _ A _ _ 0 0 Tryz.underlying22
  cases A with
  | none =>
    have hx0 : xs = [] := by
      cases xs with
      | nil => rfl
      | cons x l => obtain ⟨b, o, e, _⟩ := hx 0 (by simp); cases e
    subst hx0
    have hnil' : ∀ W : World, (binOp .eql 22 (.slice none 0 c) (.slice none 0 0)).run Tryz.prog W = .ok (.bool true) W := fun W => hnil W
    clear hnil hx hb
    go_enter Tryz.func52, Tryz.ntmps52
    go_wp2
    go_ret
    exact ⟨_, rfl, OwnI.nil _ _ _, Ext.refl _⟩
  | some ad =>
    have hnil' : ∀ W : World, (binOp .eql 22 (.slice (some ad) xs.length c) (.slice none 0 0)).run Tryz.prog W = .ok (.bool false) W := fun W => hnil W
    clear hnil
    have hE := Ext.alloc w (.cells #[] 3)
    have hsrc := Lib.hid (hx.ext hE).src
    have hown := Lib.hid (World.ownsRow_made (w := w) (e := 3) (size := 1) #[] 0 (Nat.le_refl _) (by unfold maxLen; omega) (by simp))
    clear hx
    go_enter Tryz.func52, Tryz.ntmps52
    go_wp2_with (at_builtin; go_must (refine wpList_app rfl _ _ 22 rfl w.heap.size 3 i (.int .i64 0) 1 8 Tryz.underlying22 hi hz0 hz1 hz2 rfl (by decide) _ _ _ rfl hown.out (some ad) xs.length c (xs.map (Value.int .i64)) rfl ?c1 hsrc.out ?c2 ?c3 ?c4 ?c5 ?_); (case c1 => simp); (case c2 => (intro u hu; obtain ⟨y, _, rfl⟩ := List.mem_map.1 hu; rfl)); (case c3 => (unfold maxLen; omega)); (case c4 => omega); (case c5 => simp); intro v' w' hown' hg hblk)
    go_ret
    refine ⟨_, rfl, ?_, ext_alloc_grown hg (fun k hk => Nat.le_of_eq (Option.some.inj hk))⟩
    simp only [Nat.zero_add, List.nil_append] at hown'
    exact hown'

set_option maxHeartbeats 400000 in
theorem equalI (A B : Option Addr) (c d : Nat) (xs ys : List Int) (q : Bool) (hq : decide (xs = ys) = q) (w : World) (hb : xs.length ≤ maxLen) (hx : IntsAt w A xs) (hy : IntsAt w B ys) :
    Calls Tryz.prog 115 #[.slice A xs.length c, .slice B ys.length d] w fun e w' => e = .returned (.bool q) ∧ Ext w w' := by
  unfold maxLen at hb
  by_cases hlen : xs.length = ys.length
  · have Hq := Lib.hid hq; clear hq
    have Hlen := Lib.hid hlen
    have hne : ((xs.length : Int) != (ys.length : Int)) = false := by rw [hlen]; simp
    clear hlen
    go_enter Tryz.func115, Tryz.ntmps115
    go_wp2
    go_loopw [5, 13] (fun _ i wr => ∃ k : Nat, k ≤ xs.length ∧ i = .int .i64 k ∧ Hid (∀ j, j < k → xs[j]?.getD 0 = ys[j]?.getD 0) ∧ Ext w wr) (fun _ i _ => xs.length - (intOf i).toNat)
    case atStart => exact ⟨0, by omega, rfl, fun j hj => absurd hj (by omega), Ext.refl _⟩
    case round =>
      obtain ⟨k, hk, rfl, hm, he⟩ := hrel
      by_cases hlt : k < xs.length
      · obtain ⟨b, o, rfl, h1⟩ := hx.ext he k hlt
        obtain ⟨b2, o2, rfl, h2⟩ := hy.ext he k (by have := Hlen.out; omega)
        have hlt2 : k < ys.length := by have := Hlen.out; omega
        generalize hga : xs[k]?.getD 0 = x at *
        generalize hgb : ys[k]?.getD 0 = y at *
        have Hga := Lib.hid hga; clear hga
        have Hgb := Lib.hid hgb; clear hgb
        by_cases hxy : x = y
        · subst hxy
          have hd : (x != x) = false := by simp
          go_wp2_with fail
          go_quiet (fail)
          go_wp2
          go_roundw
          case rel =>
            refine ⟨k + 1, by omega, by go_num, fun j hj => ?_, he.trans (Ext.drewN _ _)⟩
            by_cases ej : j = k
            · subst ej; rw [Hga.out, Hgb.out]
            · exact hm.out j (by omega)
          case measure => simp [intOf]; omega
        · have hd : (x != y) = true := by simpa using hxy
          have Hxy := Lib.hid hxy; clear hxy
          go_wp2_with fail
          go_quiet (fail)
          go_wp2
          go_ret
          refine ⟨?_, he.trans (Ext.drewN _ _)⟩
          rw [← Hq.out, decide_eq_false (fun h => Hxy.out (by rw [← Hga.out, ← Hgb.out, h]))]; rfl
      · go_wp2
        go_ret
        refine ⟨?_, he⟩
        have : xs = ys := List.ext_getElem Hlen.out fun j h1 h2 => by
          have := hm.out j (by omega)
          simpa [h1, h2] using this
        rw [← Hq.out, decide_eq_true this]; rfl
  · have hne : ((xs.length : Int) != (ys.length : Int)) = true := by simp; omega
    have : decide (xs = ys) = false := decide_eq_false (fun h => hlen (by rw [h]))
    rw [this] at hq
    subst hq
    clear hlen
    go_enter Tryz.func115, Tryz.ntmps115
    go_wp2
    go_ret
    exact ⟨rfl, Ext.refl _⟩

theorem eqI (A B : Option Addr) (c d : Nat) (xs ys : List Int) (q : Bool) (hq : decide (xs = ys) = q) (w : World) (hb : xs.length ≤ maxLen) (hx : IntsAt w A xs) (hy : IntsAt w B ys) :
    Calls Tryz.prog 35 #[.slice A xs.length c, .slice B ys.length d] w fun e w' => e = .returned (.bool q) ∧ Ext w w' := by
  have H := Lib.hid (equalI A B c d xs ys q hq w hb hx hy)
  clear hq hx hy
  go_enter Tryz.func35, Tryz.ntmps35
  go_wp2_with fail
  refine H.out.mono ?_
  rintro e w' ⟨rfl, he⟩
  go_wp2
  go_ret
  exact ⟨rfl, he⟩

def greatB (m : Mill) : Bool := (m.orders.any fun o => decide (8 < o.on.length)) || decide (8 < m.laced.length) || decide (12 < m.orders.length)

end Go.Proofs.Pet

namespace Go.Proofs.Pet
open Go Go.RowKit

theorem info_order : (Tryz.prog.info? 28).map (fun i => (i.zero, i.size, i.bytes)) = some (some (.agg #[.int .i64 0, .int .i64 0, .int .i64 0, .slice none 0 0]), 4, 48) := by kernel_rfl

/-- what the operations of 'out := loom.Mill{Laced: Dup(m.Laced), ..}' leave -/
def ownR (w0 : World) (s t : Nat) (m : Mill) (A1 A2 : Option Addr) (c1 c2 : Nat) : Nat → Value → World → Prop
  | 0 => fun v _ => v = .pointer (some ⟨s, 0, none⟩)
  | 1 => fun v _ => v = .slice A1 m.laced.length c1
  | 2 => fun v W => OwnI W t 3 v m.laced
  | 3 => fun v _ => v = .pointer (some ⟨s, 1, none⟩)
  | 4 => fun v _ => v = .int .i64 m.change
  | 5 => fun v _ => v = .pointer (some ⟨s, 2, none⟩)
  | 6 => fun v _ => v = .slice A2 m.orders.length c2
  | 7 => fun v W => ∃ cs, W.ownsRow t 28 4 v m.orders.length cs ∧ OrdList w0 cs m.orders
  | 8 => fun v W => ∃ a b, v = .agg #[a, .int .i64 m.change, b] ∧ OwnI W t 3 a m.laced ∧ ∃ cs, W.ownsRow t 28 4 b m.orders.length cs ∧ OrdList w0 cs m.orders
  | 9 => fun v W => ∃ g, v = .pointer (some ⟨g, 0, none⟩) ∧ t ≤ g ∧ Blk W g 25 #[.slice none 0 0, .int .i64 0, .slice none 0 0]
  | _ => fun _ _ => True
/-- what the operations of 'out.Orders[i].On = Dup(o.On)' leave -/
def ownR2 (g o t k : Nat) (r a : Value) (on : List Int) : Nat → Value → World → Prop
  | 0 => fun v _ => v = .pointer (some ⟨g, 2, none⟩)
  | 1 => fun v _ => v = r
  | 2 => fun v _ => v = .int .i64 k
  | 3 => fun v _ => v = .pointer (some ⟨o, 3, none⟩)
  | 4 => fun v _ => v = a
  | 5 => fun v W => ∃ A c, v = .slice A on.length c ∧ on.length ≤ c ∧ c ≤ maxLen ∧ IntsAt W A on ∧ ∀ ad, A = some ad → t ≤ ad.block
  | _ => fun _ _ => True
/-- a mill as a value, none of whose arrays lies in a block of S -/
def OrdCellsS (S : Nat → Prop) (w : World) (b o : Nat) (x : Ord) : Prop :=
  ∃ A c, (x.on.length ≤ c ∧ c ≤ maxLen) ∧ w.cell? ⟨b, o, none⟩ = some (.int .i64 x.pattern) ∧ w.cell? ⟨b, o + 1, none⟩ = some (.int .i64 x.days) ∧
    w.cell? ⟨b, o + 2, none⟩ = some (.int .i64 x.by_) ∧ w.cell? ⟨b, o + 3, none⟩ = some (.slice A x.on.length c) ∧ IntsAt w A x.on ∧ (x.on ≠ [] → ∀ ad, A = some ad → ¬ S ad.block)
def MillValS (S : Nat → Prop) (w : World) (v : Value) (m : Mill) : Prop :=
  ∃ A1 c1 A2 c2, v = .agg #[.slice A1 m.laced.length c1, .int .i64 m.change, .slice A2 m.orders.length c2] ∧ m.laced.length ≤ c1 ∧ c1 ≤ maxLen ∧ m.orders.length ≤ c2 ∧ c2 ≤ maxLen ∧
    IntsAt w A1 m.laced ∧ (m.laced ≠ [] → ∀ ad, A1 = some ad → ¬ S ad.block) ∧ ∀ k, k < m.orders.length → ∃ b o, A2 = some ⟨b, o, none⟩ ∧ ¬ S b ∧ OrdCellsS S w b (o + k * 4) (m.orders[k]?.getD default)
theorem MillValS.ext {S : Nat → Prop} {w w' : World} {v : Value} {m : Mill} (h : MillValS S w v m) (he : Ext w w') : MillValS S w' v m := by
  obtain ⟨A1, c1, A2, c2, h1, h2, h3, h4, h5, h6, h7, h8⟩ := h
  refine ⟨A1, c1, A2, c2, h1, h2, h3, h4, h5, h6.ext he, h7, fun k hk => ?_⟩
  obtain ⟨b, o, e, hb, A, c, g1, g2, g3, g4, g5, g6, g7⟩ := h8 k hk
  exact ⟨b, o, e, hb, A, c, g1, he.cell g2, he.cell g3, he.cell g4, he.cell g5, g6.ext he, g7⟩
/-- whatever is laid later is none of its blocks -/
theorem cell_lt {w : World} {p : Addr} {v : Value} (h : w.cell? p = some v) : p.block < w.heap.size := by
  rcases Nat.lt_or_ge p.block w.heap.size with g | g
  · exact g
  · unfold World.cell? at h
    simp [Array.getElem?_eq_none g] at h
end Go.Proofs.Pet

namespace Go.Proofs.Pet
open Go Go.RowKit

/-- a loom can weave an order -/
def Mill.weaves (m : Mill) (l k : Nat) : Bool := ((m.orders[k]?.getD default).on).contains (l : Int)

theorem weaves_any (v : Value) (m : Mill) (l : Int) (k : Nat) (hk : k < m.orders.length) (q : Bool) (hq : ((m.orders[k]?.getD default).on).contains l = q) (w : World) (hv : MillVal w v m) :
    Calls Tryz.prog 233 #[v, .int .i64 l, .int .i64 k] w fun e w' => e = .returned (.bool q) ∧ Ext w w' := by
  obtain ⟨A1, c1, A2, c2, rfl, h2, h3, h4, h5, h6, h7⟩ := hv
  unfold maxLen at h5
  have hE := Ext.alloc w (.cells #[.slice A1 m.laced.length c1, .int .i64 m.change, .slice A2 m.orders.length c2] 25)
  obtain ⟨b, o, rfl, A, ca, hca, q1, q2, q3, q4, q5⟩ := h7.ext hE k hk
  have Hc := Lib.hid (contains_any l A ca _ _ rfl q hq _ (Nat.le_trans hca.1 hca.2) q5)
  clear hq h7 h6 q5
  generalize m.orders[k]?.getD default = x0 at *
  go_enter Tryz.func233, Tryz.ntmps233
  go_wp2_with fail
  refine Hc.out.mono ?_
  rintro e w' ⟨rfl, rfl⟩
  go_wp2
  go_ret
  exact ⟨rfl, hE⟩

theorem wrap64_pow (n : Nat) (hn : n ≤ 62) : wrap64 (2 ^ n) = ((2 ^ n : Nat) : Int) := by
  have h1 : 2 ^ n ≤ 2 ^ 62 := Nat.pow_le_pow_right (by omega) hn
  have h2 : (2 : Nat) ^ 62 = 4611686018427387904 := by decide
  have h3 : ((2 ^ n : Nat) : Int) = (2 : Int) ^ n := by simp
  have h4 : ∀ p : Nat, p ≤ 4611686018427387904 → wrap64 (p : Int) = p := fun p hp => IntWalk.wrap64_in _ (by omega)
  have h5 := h4 (2 ^ n) (by omega)
  rw [h3] at h5 ⊢
  exact h5
theorem sets_any (v : Value) (m : Mill) (hn : m.orders.length ≤ 60) (s : Nat) (hs : s = 2 ^ m.orders.length) (w : World) (hv : MillVal w v m) :
    Calls Tryz.prog 51 #[v] w fun e w' => e = .returned (.int .i64 s) ∧ Ext w w' := by
  have Hs := Lib.hid hs; clear hs
  obtain ⟨A1, c1, A2, c2, rfl, h2, h3, h4, h5, h6, h7⟩ := hv
  have hE := Ext.alloc w (.cells #[.slice A1 m.laced.length c1, .int .i64 m.change, .slice A2 m.orders.length c2] 25)
  clear h6 h7 h3 h5
  go_enter Tryz.func51, Tryz.ntmps51
  go_wp2
  rw [wrap64_pow m.orders.length (by omega)]
  rw [← Hs.out]
  go_ret
  exact ⟨rfl, hE⟩

/-- the numbers whose bits are in a set, below n -/
def bits (n s : Nat) : List Nat := (List.range n).filter fun k => s.testBit k
def ints (l : List Nat) : List Int := l.map fun k : Nat => (k : Int)
theorem bits_succ (n s : Nat) : bits (n + 1) s = if s.testBit n then bits n s ++ [n] else bits n s := by
  unfold bits
  rw [List.range_succ, List.filter_append]
  by_cases h : s.testBit n <;> simp [h]
theorem ints_append (a b : List Nat) : ints (a ++ b) = ints a ++ ints b := by unfold ints; simp
theorem bits_length_le (n s : Nat) : (bits n s).length ≤ n := by
  unfold bits
  have := List.length_filter_le (fun k => s.testBit k) (List.range n)
  simpa using this

theorem ownsRow_alloc_of {w : World} {base : Nat} {e : TypeId} {v : Value} {xs : List Int} {L : Nat} {o : Obj} (hL : xs.length = L) (h : OwnI w base e v xs) : (w.alloc o).ownsRow base e 1 v L (xs.map (Value.int .i64)) := by
  subst hL; exact World.ownsRow.alloc h o
end Go.Proofs.Pet

namespace Go.Proofs.Pet
open Go Go.RowKit

theorem IntsAt.take {w : World} {A : Option Addr} {xs : List Int} (h : IntsAt w A xs) (i : Nat) : IntsAt w A (xs.take i) := by
  intro k hk
  have hk' : k < xs.length := by have := List.length_take_le i xs; have := List.length_take (i := i) (l := xs); omega
  have hki : k < i := by have := List.length_take (i := i) (l := xs); omega
  obtain ⟨b, o, e, hc⟩ := h k hk'
  exact ⟨b, o, e, by rw [List.getElem?_take, if_pos hki]; exact hc⟩
def listedE (m : Mill) (l : List Int) : Int :=
  if (l.all fun k => inB k 0 (m.orders.length - 1)) = false then 1 else if twiceB l = true then 5 else 0
def weavesI (m : Mill) (loom k : Int) : Bool := ((m.orders[k.toNat]?.getD default).on).contains loom
def runningE (m : Mill) (loom : Int) (l : List Int) : Int :=
  if inB loom 0 (m.laced.length - 1) = false then 1 else if listedE m l ≠ 0 then listedE m l else if (l.all fun k => weavesI m loom k) = false then 8 else 0

theorem twiceB_true {xs : List Int} {k : Nat} (hk : k < xs.length) (h : (xs.take k).contains (xs[k]?.getD 0) = true) : twiceB xs = true := by
  unfold twiceB
  rw [List.any_eq_true]
  exact ⟨k, List.mem_range.2 hk, h⟩
theorem twiceB_false {xs : List Int} (h : ∀ k, k < xs.length → (xs.take k).contains (xs[k]?.getD 0) = false) : twiceB xs = false := by
  unfold twiceB
  rw [List.any_eq_false]
  intro k hk
  rw [h k (List.mem_range.1 hk)]
  simp

end Go.Proofs.Pet

namespace Go.Proofs.Pet
open Go Go.RowKit

end Go.Proofs.Pet
