/-
  The region with which a law begins: its own copy of the mill, and the reference's mill.
  From what can be read of a law's arguments to mills, orders and lists; and back: what was read reads as it did.
-/
import Derived.Test.YtknokjnplbdmeaaGreatP14
import Derived.Test.YtknokjnplbdmeaaGreatP01
import Derived.Test.YtknokjnplbdmeaaGreatChecked
import Derived.ProofKit
import Derived.Below
import Derived.ChangeSame
import Derived.Deep.Slices
import Derived.Deep.Fields
import Derived.Lib.SmallJoins
import Derived.ChangeSlices
import Derived.WideKeyArgs
namespace Go.Proofs.Pet
open Go Go.RowKit Go.Maps Go.Shelf

/-- the blocks of the two variables, as far as they are laid -/
def ownB (c d : Nat) (Ld : Nat → Prop) (x : Nat → Value) (b : Nat) : Prop := (Ld c ∧ x c = .pointer (some ⟨b, 0, none⟩)) ∨ (Ld d ∧ x d = .pointer (some ⟨b, 0, none⟩))
def zeroM : Array Value := #[.slice none 0 0, .int .i64 0, .slice none 0 0]
/-- what is known while operations a (Own), b (theirs), c, d (two variables) are done in whatever order -/
structure OwnS (a b c d : Nat) (wr : World) (m : Mill) (Ld : Nat → Prop) (x : Nat → Value) (W : World) : Prop where
  ext : Ext wr W
  own : Ld a → MillValS (ownB c d Ld x) W (x a) m
  ref : Ld b → MillValS (ownB c d Ld x) W (x b) m
  c_ : Ld c → ∃ g, x c = .pointer (some ⟨g, 0, none⟩) ∧ wr.heap.size ≤ g ∧ Blk W g 25 zeroM
  d_ : Ld d → ∃ g, x d = .pointer (some ⟨g, 0, none⟩) ∧ wr.heap.size ≤ g ∧ Blk W g 35 zeroM
section
variable {a b c d : Nat} {wr : World} {m : Mill} {Ld : Nat → Prop} {x : Nat → Value} {W W' : World}
theorem OwnS.start (a b c d : Nat) (wr : World) (m : Mill) (x : Nat → Value) : OwnS a b c d wr m (fun _ => False) x wr.drew :=
  ⟨Ext.drew _, fun h => h.elim, fun h => h.elim, fun h => h.elim, fun h => h.elim⟩
theorem OwnS.blocks (h : OwnS a b c d wr m Ld x W) (g : Nat) (hg : ownB c d Ld x g) : wr.heap.size ≤ g ∧ g < W.heap.size := by
  rcases hg with ⟨h1, h2⟩ | ⟨h1, h2⟩
  · obtain ⟨g', e, h3, h4⟩ := h.c_ h1
    rw [h2] at e
    cases e
    exact ⟨h3, h4.lt⟩
  · obtain ⟨g', e, h3, h4⟩ := h.d_ h1
    rw [h2] at e
    cases e
    exact ⟨h3, h4.lt⟩
theorem ownB.upd {k : Nat} {v : Value} {g : Nat} (hc : k ≠ c) (hd : k ≠ d) : ownB c d (fun j => Ld j ∨ j = k) (upd x k v) g ↔ ownB c d Ld x g := by
  unfold ownB
  have e1 : Pet.upd x k v c = x c := by unfold Pet.upd; rw [if_neg (fun h => hc h.symm)]
  have e2 : Pet.upd x k v d = x d := by unfold Pet.upd; rw [if_neg (fun h => hd h.symm)]
  rw [e1, e2]
  show ((Ld c ∨ c = k) ∧ _ ∨ (Ld d ∨ d = k) ∧ _) ↔ _
  have h1 : (Ld c ∨ c = k) ↔ Ld c := ⟨fun h => h.resolve_right (fun h => hc h.symm), .inl⟩
  have h2 : (Ld d ∨ d = k) ↔ Ld d := ⟨fun h => h.resolve_right (fun h => hd h.symm), .inl⟩
  rw [h1, h2]
theorem upd_ne {k j : Nat} {v : Value} (h : j ≠ k) : Pet.upd x k v j = x j := by unfold Pet.upd; rw [if_neg h]
theorem upd_self {k : Nat} {v : Value} : Pet.upd x k v k = v := by unfold Pet.upd; rw [if_pos rfl]
theorem OwnS.pure (h : OwnS a b c d wr m Ld x W) (he : Ext W W') (k : Nat) (v : Value) (hk : k ≠ a ∧ k ≠ b ∧ k ≠ c ∧ k ≠ d) : OwnS a b c d wr m (fun j => Ld j ∨ j = k) (upd x k v) W' := by
  obtain ⟨k1, k2, k3, k4⟩ := hk
  refine ⟨h.ext.trans he, fun g => ?_, fun g => ?_, fun g => ?_, fun g => ?_⟩
  · rw [upd_ne (fun h => k1 h.symm)]
    exact ((h.own (g.resolve_right (fun h => k1 h.symm))).ext he).mono fun g hg => (ownB.upd k3 k4).1 hg
  · rw [upd_ne (fun h => k2 h.symm)]
    exact ((h.ref (g.resolve_right (fun h => k2 h.symm))).ext he).mono fun g hg => (ownB.upd k3 k4).1 hg
  · rw [upd_ne (fun h => k3 h.symm)]
    obtain ⟨g', e, h1, h2⟩ := h.c_ (g.resolve_right (fun h => k3 h.symm))
    exact ⟨g', e, h1, h2.ext he⟩
  · rw [upd_ne (fun h => k4 h.symm)]
    obtain ⟨g', e, h1, h2⟩ := h.d_ (g.resolve_right (fun h => k4 h.symm))
    exact ⟨g', e, h1, h2.ext he⟩
theorem OwnS.doOwn (h : OwnS a b c d wr m Ld x W) (he : Ext W W') (v : Value) (hv : MillValS (fun b => wr.heap.size ≤ b ∧ b < W.heap.size) W' v m) (k1 : a ≠ b) (k3 : a ≠ c) (k4 : a ≠ d) : OwnS a b c d wr m (fun j => Ld j ∨ j = a) (upd x a v) W' := by
  refine ⟨h.ext.trans he, fun g => ?_, fun g => ?_, fun g => ?_, fun g => ?_⟩
  · rw [upd_self]
    exact hv.mono fun g hg => h.blocks g ((ownB.upd k3 k4).1 hg)
  · rw [upd_ne (fun h => k1 h.symm)]
    exact ((h.ref (g.resolve_right (fun h => k1 h.symm))).ext he).mono fun g hg => (ownB.upd k3 k4).1 hg
  · rw [upd_ne (fun h => k3 h.symm)]
    obtain ⟨g', e, h1, h2⟩ := h.c_ (g.resolve_right (fun h => k3 h.symm))
    exact ⟨g', e, h1, h2.ext he⟩
  · rw [upd_ne (fun h => k4 h.symm)]
    obtain ⟨g', e, h1, h2⟩ := h.d_ (g.resolve_right (fun h => k4 h.symm))
    exact ⟨g', e, h1, h2.ext he⟩
theorem OwnS.doRef (h : OwnS a b c d wr m Ld x W) (he : Ext W W') (v : Value) (hv : MillValS (fun b => wr.heap.size ≤ b ∧ b < W.heap.size) W' v m) (k1 : b ≠ a) (k3 : b ≠ c) (k4 : b ≠ d) : OwnS a b c d wr m (fun j => Ld j ∨ j = b) (upd x b v) W' := by
  refine ⟨h.ext.trans he, fun g => ?_, fun g => ?_, fun g => ?_, fun g => ?_⟩
  · rw [upd_ne (fun h => k1 h.symm)]
    exact ((h.own (g.resolve_right (fun h => k1 h.symm))).ext he).mono fun g hg => (ownB.upd k3 k4).1 hg
  · rw [upd_self]
    exact hv.mono fun g hg => h.blocks g ((ownB.upd k3 k4).1 hg)
  · rw [upd_ne (fun h => k3 h.symm)]
    obtain ⟨g', e, h1, h2⟩ := h.c_ (g.resolve_right (fun h => k3 h.symm))
    exact ⟨g', e, h1, h2.ext he⟩
  · rw [upd_ne (fun h => k4 h.symm)]
    obtain ⟨g', e, h1, h2⟩ := h.d_ (g.resolve_right (fun h => k4 h.symm))
    exact ⟨g', e, h1, h2.ext he⟩
theorem MillValS.or {S T : Nat → Prop} {w : World} {v : Value} {m : Mill} (h : MillValS S w v m) (hT : MillValS T w v m) : MillValS (fun b => S b ∨ T b) w v m := by
  obtain ⟨A1, c1, A2, c2, h1, h2, h3, h4, h5, h6, h7, h8⟩ := h
  obtain ⟨A1', c1', A2', c2', e1, _, _, _, _, _, h7', h8'⟩ := hT
  rw [h1] at e1
  injection e1 with e1
  simp only [Array.mk.injEq, List.cons.injEq, Value.slice.injEq, and_true] at e1
  obtain ⟨⟨rfl, _, rfl⟩, _, ⟨rfl, _, rfl⟩⟩ := e1
  refine ⟨A1, c1, A2, c2, h1, h2, h3, h4, h5, h6, fun hn ad e g => g.elim (h7 hn ad e) (h7' hn ad e), fun k hk => ?_⟩
  obtain ⟨b, o, e, hb, A, c, g1, g2, g3, g4, g5, g6, g7⟩ := h8 k hk
  obtain ⟨b', o', e', hb', A', c', _, _, _, _, g5', _, g7'⟩ := h8' k hk
  rw [e] at e'
  simp only [Option.some.injEq, Addr.mk.injEq, and_true] at e'
  obtain ⟨rfl, rfl⟩ := e'
  rw [g5] at g5'
  simp only [Option.some.injEq, Value.slice.injEq] at g5'
  obtain ⟨rfl, _, rfl⟩ := g5'
  exact ⟨b, o, e, fun h => h.elim hb hb', A, c, g1, g2, g3, g4, g5, g6, fun hn ad e g => g.elim (g7 hn ad e) (g7' hn ad e)⟩
theorem OwnS.doC (h : OwnS a b c d wr m Ld x W) (k1 : c ≠ a) (k3 : c ≠ b) (k4 : c ≠ d) : OwnS a b c d wr m (fun j => Ld j ∨ j = c) (upd x c (.pointer (some ⟨W.heap.size, 0, none⟩))) (W.alloc (.cells zeroM 25)) := by
  have he := Ext.alloc W (.cells zeroM 25)
  have hB : ∀ g, ownB c d (fun j => Ld j ∨ j = c) (upd x c (.pointer (some ⟨W.heap.size, 0, none⟩))) g → g = W.heap.size ∨ ownB c d Ld x g := by
    rintro g (⟨h1, h2⟩ | ⟨h1, h2⟩)
    · rw [upd_self] at h2; cases h2; exact .inl rfl
    · rw [upd_ne (fun h => k4 h.symm)] at h2
      exact .inr (.inr ⟨h1.resolve_right (fun h => k4 h.symm), h2⟩)
  refine ⟨h.ext.trans he, fun g => ?_, fun g => ?_, fun g => ?_, fun g => ?_⟩
  · rw [upd_ne (fun h => k1 h.symm)]
    have h1 := h.own (g.resolve_right (fun h => k1 h.symm))
    exact (((h1.val.late (fun b => b = W.heap.size) (fun b e => by omega)).or h1).ext he).mono fun g hg => hB g hg
  · rw [upd_ne (fun h => k3 h.symm)]
    have h1 := h.ref (g.resolve_right (fun h => k3 h.symm))
    exact (((h1.val.late (fun b => b = W.heap.size) (fun b e => by omega)).or h1).ext he).mono fun g hg => hB g hg
  · rw [upd_self]
    exact ⟨_, rfl, h.ext.size, Blk.new _ _ _⟩
  · rw [upd_ne (fun h => k4 h.symm)]
    obtain ⟨g', e, h1, h2⟩ := h.d_ (g.resolve_right (fun h => k4 h.symm))
    exact ⟨g', e, h1, h2.ext he⟩
theorem OwnS.doD (h : OwnS a b c d wr m Ld x W) (k1 : d ≠ a) (k3 : d ≠ b) (k4 : d ≠ c) : OwnS a b c d wr m (fun j => Ld j ∨ j = d) (upd x d (.pointer (some ⟨W.heap.size, 0, none⟩))) (W.alloc (.cells zeroM 35)) := by
  have he := Ext.alloc W (.cells zeroM 35)
  have hB : ∀ g, ownB c d (fun j => Ld j ∨ j = d) (upd x d (.pointer (some ⟨W.heap.size, 0, none⟩))) g → g = W.heap.size ∨ ownB c d Ld x g := by
    rintro g (⟨h1, h2⟩ | ⟨h1, h2⟩)
    · rw [upd_ne (fun h => k4 h.symm)] at h2
      exact .inr (.inl ⟨h1.resolve_right (fun h => k4 h.symm), h2⟩)
    · rw [upd_self] at h2; cases h2; exact .inl rfl
  refine ⟨h.ext.trans he, fun g => ?_, fun g => ?_, fun g => ?_, fun g => ?_⟩
  · rw [upd_ne (fun h => k1 h.symm)]
    have h1 := h.own (g.resolve_right (fun h => k1 h.symm))
    exact (((h1.val.late (fun b => b = W.heap.size) (fun b e => by omega)).or h1).ext he).mono fun g hg => hB g hg
  · rw [upd_ne (fun h => k3 h.symm)]
    have h1 := h.ref (g.resolve_right (fun h => k3 h.symm))
    exact (((h1.val.late (fun b => b = W.heap.size) (fun b e => by omega)).or h1).ext he).mono fun g hg => hB g hg
  · rw [upd_ne (fun h => k4 h.symm)]
    obtain ⟨g', e, h1, h2⟩ := h.c_ (g.resolve_right (fun h => k4 h.symm))
    exact ⟨g', e, h1, h2.ext he⟩
  · rw [upd_self]
    exact ⟨_, rfl, h.ext.size, Blk.new _ _ _⟩
/-- what both variables hold behind the region -/
theorem OwnS.done (h : OwnS a b c d wr m Ld x W) (ha : Ld a) (hb : Ld b) (hc : Ld c) (hd : Ld d) :
    ∃ g g' A1 c1 A2 c2 B1 e1 B2 e2, x c = .pointer (some ⟨g, 0, none⟩) ∧ x d = .pointer (some ⟨g', 0, none⟩) ∧ wr.heap.size ≤ g ∧ wr.heap.size ≤ g' ∧ Blk W g 25 zeroM ∧ Blk W g' 35 zeroM ∧ g ≠ g' ∧
      x a = .agg #[.slice A1 m.laced.length c1, .int .i64 m.change, .slice A2 m.orders.length c2] ∧ x b = .agg #[.slice B1 m.laced.length e1, .int .i64 m.change, .slice B2 m.orders.length e2] ∧
      MillValS (fun b => b = g ∨ b = g') W (x a) m ∧ MillValS (fun b => b = g ∨ b = g') W (x b) m := by
  obtain ⟨g, e1, h1, h2⟩ := h.c_ hc
  obtain ⟨g', e1', h1', h2'⟩ := h.d_ hd
  have hB : ∀ b, (b = g ∨ b = g') → ownB c d Ld x b := by
    rintro b (rfl | rfl)
    · exact .inl ⟨hc, e1⟩
    · exact .inr ⟨hd, e1'⟩
  have q1 := (h.own ha).mono hB
  have q2 := (h.ref hb).mono hB
  obtain ⟨A1, c1, A2, c2, r1, _⟩ := id q1
  obtain ⟨B1, e1_, B2, e2, r2, _⟩ := id q2
  exact ⟨g, g', A1, c1, A2, c2, B1, e1_, B2, e2, e1, e1', h1, h1', h2, h2', h2.ne_ h2' (by decide), r1, r2, q1, q2⟩
end
theorem own_stored {w W : World} {g g' : Nat} {m : Mill} (a0 a1 a2 b0 b1 b2 : Value) {va vb : Value} (he : Ext w W) (hg : w.heap.size ≤ g) (hg' : w.heap.size ≤ g') (b4 : Blk W g 25 zeroM) (b5 : Blk W g' 35 zeroM) (hne : g ≠ g')
    (v1 : MillValS (fun b => b = g ∨ b = g') W va m) (v3 : MillValS (fun b => b = g ∨ b = g') W vb m) :
    let W' := (((((W.setCell ⟨g, 0, none⟩ a0).setCell ⟨g, 1, none⟩ a1).setCell ⟨g, 2, none⟩ a2).setCell ⟨g', 0, none⟩ b0).setCell ⟨g', 1, none⟩ b1).setCell ⟨g', 2, none⟩ b2
    Ext w W' ∧ Blk W' g 25 #[a0, a1, a2] ∧ Blk W' g' 35 #[b0, b1, b2] ∧ MillVal W' va m ∧ MillVal W' vb m := by
  intro W'
  have ha1 : Apart g W (((W.setCell ⟨g, 0, none⟩ a0).setCell ⟨g, 1, none⟩ a1).setCell ⟨g, 2, none⟩ a2) := (((Apart.refl g W).set_ 0 a0).set_ 1 a1).set_ 2 a2
  have ha2 : Apart g' (((W.setCell ⟨g, 0, none⟩ a0).setCell ⟨g, 1, none⟩ a1).setCell ⟨g, 2, none⟩ a2) W' := (((Apart.refl g' _).set_ 0 b0).set_ 1 b1).set_ 2 b2
  refine ⟨?_, ?_, ?_, ?_, ?_⟩
  · exact Below.setCell (Below.setCell (Below.setCell (Below.setCell (Below.setCell (Below.setCell he (p := ⟨g, 0, none⟩) hg _) (p := ⟨g, 1, none⟩) hg _) (p := ⟨g, 2, none⟩) hg _) (p := ⟨g', 0, none⟩) hg' _) (p := ⟨g', 1, none⟩) hg' _) (p := ⟨g', 2, none⟩) hg' _
  · exact ((((((b4.set_ 0 a0).set_ 1 a1).set_ 2 a2).far (p := ⟨g', 0, none⟩) hne _).far (p := ⟨g', 1, none⟩) hne _).far (p := ⟨g', 2, none⟩) hne _)
  · exact ((((((b5.far (p := ⟨g, 0, none⟩) (Ne.symm hne) a0).far (p := ⟨g, 1, none⟩) (Ne.symm hne) a1).far (p := ⟨g, 2, none⟩) (Ne.symm hne) a2).set_ 0 b0).set_ 1 b1).set_ 2 b2)
  · exact ((v1.apart (.inl rfl) ha1).apart (.inr rfl) ha2).val
  · exact ((v3.apart (.inl rfl) ha1).apart (.inr rfl) ha2).val
end Go.Proofs.Pet

namespace Go.Proofs.Pet
open Go Go.RowKit Go.WideShapes Go.ChangeShapes Go.Joins Go.Deep
section
variable {H : Type} {enc : TypeId × Value → H} {P : Program}

/-- the end of a law's row: the call left all that lay as it lay -/
theorem law_post {f : Func} {s : ChangeSpec} {apart fresh handsOn again : Bool} {W W' : World} {args : Array Value} {v : Value} {ds gs : List (DataW H)} {before pa pv : List MemPlace}
    (hW : DataW.Whole enc P f.params.toList s.vars apart W args.toList ds gs before)
    (hres : ∀ (b : Nat) (sp : Nat → Bool) (hd : Bool), DataW.TrodAll enc P W' b sp hd f.resultTypes.toList (v.resultList f.resultTypes.size) (s.fn H (ds ++ gs)).results [])
    (hargs : ∀ sp : Nat → Bool, (∀ p ∈ before, sp p.block = true) → DataW.TrodAll enc P W' 0 sp true f.params.toList args.toList (s.fn H (ds ++ gs)).args pa)
    (hvars : ∀ sp : Nat → Bool, (∀ p ∈ before, sp p.block = true) → DataW.TrodVars enc P W' sp s.vars (s.fn H (ds ++ gs)).vars pv)
    (hps : before = pa ++ pv) (hb : Below W.heap.size W W')
    (hok : ∀ (j : Nat) (t : TypeId) (r : Value), f.resultTypes[j]? = some t → (v.resultList f.resultTypes.size)[j]? = some r → Value.okWide P W' .any 0 t r) :
    s.post enc P f apart fresh handsOn again W args v W' := by
  have hlt : ∀ p ∈ before, p.block < W.heap.size := fun p hp => hW.lt p hp
  have hold : ∀ p ∈ before, (fun b => decide (b < W.heap.size)) p.block = true := fun p hp => by simpa using hlt p hp
  refine ⟨ds, gs, before, [], pa, pv, hW, hres _ _ _, hargs _ hold, hvars _ hold, World.keptBut_mono (fun p hp => ⟨hp, ?_⟩) (hb.frame (· ∈ before)), fun _ => ?_⟩
  · rw [hps, List.mem_append] at hp
    exact Or.inr hp
  · obtain ⟨_, _, _, _, _, hz, hn⟩ := hW
    refine ⟨hok, _, _, ([] ++ pa) ++ pv, ⟨[] ++ pa, pv, trodAll_append (hargs _ (fun _ _ => rfl)) (hres _ _ _), hvars _ (fun _ _ => rfl), rfl, ?_, ?_⟩, ?_⟩
    · intro b off hp
      have hin : MemPlace.cell b off ∈ before := by rw [hps]; simpa using hp
      rw [hb.frozen (hlt _ hin)]
      exact hz b off hin
    · intro ha
      have := hn ha
      rw [hps] at this
      simpa using this
    · intro p hp _
      rw [hps]
      simpa using hp
/-- what was read reads as it did -/
theorem trodAll_stays (hl : laidOutB P = true) {W W' : World} (hb : Below W.heap.size W W') {sp : Nat → Bool} : ∀ (ts : List TypeId) (vs : List Value) (ds : List (DataW H)) (ps : List MemPlace), (ts.all fun t => P.readableRec t && decide (t < P.types.size)) = true →
    (∀ p ∈ ps, p.block < W.heap.size) → (∀ p ∈ ps, sp p.block = true) → DataW.TrodAll enc P W 0 (fun _ => true) true ts vs ds ps → DataW.TrodAll enc P W' 0 sp true ts vs ds ps
  | [], [], [], ps, _, _, _, h => h
  | t :: ts, v :: vs, d :: ds, ps, hr, hlt, hs, h => by
    obtain ⟨p, q, h1, h2, rfl⟩ := h
    simp only [List.all_cons, Bool.and_eq_true, decide_eq_true_eq] at hr
    exact ⟨p, q, WideElems.Trod_stays hl hr.1.1 hr.1.2 h1 (fun x hx => hb.same (hlt x (by simp [hx]))) (fun x hx => hs x (by simp [hx])),
      trodAll_stays hl hb ts vs ds q hr.2 (fun x hx => hlt x (by simp [hx])) (fun x hx => hs x (by simp [hx])) h2, rfl⟩
  | [], [], _ :: _, _, _, _, _, h => by simp [DataW.TrodAll] at h
  | [], _ :: _, _, _, _, _, _, h => by cases h
  | _ :: _, [], _, _, _, _, _, h => by simp [DataW.TrodAll] at h
  | _ :: _, _ :: _, [], _, _, _, _, h => by simp [DataW.TrodAll] at h
variable {w : World} {base : Nat} {spare : Nat → Bool} {held : Bool}
theorem spot_none {w : World} {a : Addr} {v : Value} (h : w.cell? a = some v) : a.spot = none := by
  unfold World.cell? at h
  split at h
  · cases e : a.spot with
    | none => rfl
    | some x => simp [e] at h
  · cases h
theorem addr_add (b o i : Nat) : (⟨b, o, none⟩ : Addr).add i = ⟨b, o + i, none⟩ := by unfold Addr.add; split <;> simp_all
/-- a list of ints that can be read -/
theorem ints_reads {t e : TypeId} {fuel : Nat} {v : Value} {x : DataW H × List MemPlace} (ht : P.underlying t = some (.slice e)) (he : P.underlying e = some (.int .i64)) (hc : P.cellsOf e = 1)
    (h : DataW.trod enc P w base spare held fuel t [v] = some x) : ∃ A c xs, v = .slice A xs.length c ∧ xs.length ≤ c ∧ c ≤ maxLen ∧ IntsAt w A xs := by
  rcases open_ints ht he hc h with ⟨h1, _⟩ | ⟨a, len, cap, zs, h1, _, h2, h3, h4, _, h5, _⟩
  · injection h1 with h1 _
    exact ⟨none, 0, [], h1, Nat.le_refl _, Nat.zero_le _, fun k hk => by cases hk⟩
  · injection h1 with h1 _
    have hz : len ≤ zs.length := by rw [h4]; split <;> omega
    refine ⟨some a, cap, zs.take len, ?_, ?_, h3, fun k hk => ?_⟩
    · rw [List.length_take, Nat.min_eq_left hz]; exact h1
    · rw [List.length_take, Nat.min_eq_left hz]; exact h2
    · rw [List.length_take, Nat.min_eq_left hz] at hk
      have hcell := h5 k (by omega)
      have hs := spot_none (h5 0 (by omega))
      obtain ⟨b, o, s⟩ := a
      have hs' : s = none := hs
      subst hs'
      rw [addr_add] at hcell
      refine ⟨b, o, rfl, ?_⟩
      rw [hcell, List.getElem?_take, if_pos hk]
      simp [List.getD]
/-- an order's four cells that can be read -/
theorem ord_reads {e ti tl : TypeId} {n0 n1 n2 n3 g0 g1 g2 g3 p0 p1 p2 p3 : String} {m0 m1 m2 m3 : Bool} {o0 o1 o2 o3 : Nat} {fuel : Nat} {cs : List Value} {x : DataW H × List MemPlace}
    (he : P.underlying e = some (.struct #[⟨n0, ti, 0, m0, g0, p0, o0⟩, ⟨n1, ti, 1, m1, g1, p1, o1⟩, ⟨n2, ti, 2, m2, g2, p2, o2⟩, ⟨n3, tl, 3, m3, g3, p3, o3⟩])) (hi : P.underlying ti = some (.int .i64)) (hl : P.underlying tl = some (.slice ti)) (ci : P.cellsOf ti = 1) (cl : P.cellsOf tl = 1) (hC : P.cellsOf e = 4)
    (h : DataW.trod enc P w base spare held fuel e cs = some x) : ∃ (o : Ord) (A : Option Addr) (c : Nat), cs = [.int .i64 o.pattern, .int .i64 o.days, .int .i64 o.by_, .slice A o.on.length c] ∧ o.on.length ≤ c ∧ c ≤ maxLen ∧ IntsAt w A o.on := by
  obtain ⟨xs, n, _, _, hlen, hxs, hg⟩ := DataW.trod_struct he h
  rw [hC] at hlen
  match cs, hlen with
  | [c0, c1, c2, c3], _ =>
    match xs, hxs with
    | [y0, y1, y2, y3], _ =>
      have h0 : DataW.trod enc P w base spare held n ti (([c0, c1, c2, c3].drop 0).take (P.cellsOf ti)) = [y0, y1, y2, y3][0]? := hg 0 _ rfl
      have h1 : DataW.trod enc P w base spare held n ti (([c0, c1, c2, c3].drop 1).take (P.cellsOf ti)) = [y0, y1, y2, y3][1]? := hg 1 _ rfl
      have h2 : DataW.trod enc P w base spare held n ti (([c0, c1, c2, c3].drop 2).take (P.cellsOf ti)) = [y0, y1, y2, y3][2]? := hg 2 _ rfl
      have h3 : DataW.trod enc P w base spare held n tl (([c0, c1, c2, c3].drop 3).take (P.cellsOf tl)) = [y0, y1, y2, y3][3]? := hg 3 _ rfl
      rw [ci] at h0 h1 h2
      rw [cl] at h3
      simp only [List.drop_zero, List.drop_succ_cons, List.take_succ_cons, List.take_zero, List.getElem?_cons_zero, List.getElem?_cons_succ] at h0 h1 h2 h3
      obtain ⟨q0, e0, _, _⟩ := DataW.trod_int hi h0
      obtain ⟨q1, e1, _, _⟩ := DataW.trod_int hi h1
      obtain ⟨q2, e2, _, _⟩ := DataW.trod_int hi h2
      obtain ⟨A, c, on, e3, r1, r2, r3⟩ := ints_reads hl hi ci h3
      injection e0 with e0 _
      injection e1 with e1 _
      injection e2 with e2 _
      exact ⟨⟨q0, q1, q2, on⟩, A, c, by rw [e0, e1, e2, e3], r1, r2, r3⟩
/-- a list of orders that can be read -/
theorem ords_reads {t e ti tl : TypeId} {n0 n1 n2 n3 g0 g1 g2 g3 p0 p1 p2 p3 : String} {m0 m1 m2 m3 : Bool} {o0 o1 o2 o3 : Nat} {fuel : Nat} {v : Value} {x : DataW H × List MemPlace} (ht : P.underlying t = some (.slice e))
    (he : P.underlying e = some (.struct #[⟨n0, ti, 0, m0, g0, p0, o0⟩, ⟨n1, ti, 1, m1, g1, p1, o1⟩, ⟨n2, ti, 2, m2, g2, p2, o2⟩, ⟨n3, tl, 3, m3, g3, p3, o3⟩])) (hi : P.underlying ti = some (.int .i64)) (hl : P.underlying tl = some (.slice ti)) (ci : P.cellsOf ti = 1) (cl : P.cellsOf tl = 1) (hC : P.cellsOf e = 4)
    (h : DataW.trod enc P w base spare held fuel t [v] = some x) : ∃ A c xs, v = .slice A xs.length c ∧ xs.length ≤ c ∧ c ≤ maxLen ∧ OrdsAt w A xs := by
  rcases open_slice ht h with ⟨h1, _⟩ | ⟨a, len, cap, m, n, D, Pl, h1, _, h2, h3, h4, _, h5⟩
  · injection h1 with h1 _
    exact ⟨none, 0, [], h1, Nat.le_refl _, Nat.zero_le _, fun k hk => by cases hk⟩
  · injection h1 with h1 _
    have hm : len ≤ m := by rw [h4]; split <;> omega
    have key : ∀ i : Nat, ∃ o : Ord, i < m → ∃ b q, a = ⟨b, q, none⟩ ∧ OrdCells w b (q + i * 4) o := by
      intro i
      by_cases him : i < m
      · obtain ⟨cs, hc, htr⟩ := h5 i him
        obtain ⟨o, A, c, rfl, r1, r2, r3⟩ := ord_reads he hi hl ci cl hC htr
        refine ⟨o, fun _ => ?_⟩
        rw [hC] at hc
        obtain ⟨_, _, hat⟩ := World.cells?_some hc
        obtain ⟨cs0, hc0, _⟩ := h5 0 (by omega)
        rw [hC] at hc0
        obtain ⟨_, hl0, hat0⟩ := World.cells?_some hc0
        have hz := hat0 0 (by omega)
        rw [List.getElem?_eq_getElem (by omega)] at hz
        have hs := spot_none hz
        obtain ⟨b, q, s⟩ := a
        have hs' : s = none := hs
        subst hs'
        refine ⟨b, q, rfl, A, c, ⟨r1, r2⟩, ?_, ?_, ?_, ?_, r3⟩
        · have := hat 0 (by omega); rw [addr_add, addr_add] at this; exact this
        · have := hat 1 (by omega); rw [addr_add, addr_add] at this; exact this
        · have := hat 2 (by omega); rw [addr_add, addr_add] at this; exact this
        · have := hat 3 (by omega); rw [addr_add, addr_add] at this; exact this
      · exact ⟨default, fun h => absurd h him⟩
    have hch : ∃ F : Nat → Ord, ∀ i, i < m → ∃ b q, a = ⟨b, q, none⟩ ∧ OrdCells w b (q + i * 4) (F i) := ⟨fun i => (key i).choose, fun i => (key i).choose_spec⟩
    obtain ⟨F, hF⟩ := hch
    refine ⟨some a, cap, (List.range len).map F, by simpa using h1, by simpa using h2, h3, fun k hk => ?_⟩
    rw [List.length_map, List.length_range] at hk
    obtain ⟨b, q, rfl, hc⟩ := hF k (by omega)
    refine ⟨b, q, rfl, ?_⟩
    rw [List.getElem?_map, List.getElem?_range hk]
    exact hc
end
set_option maxRecDepth 100000 in
/-- a mill that can be read -/
theorem mill_reads {H : Type} {enc : TypeId × Value → H} {w : World} {base : Nat} {spare : Nat → Bool} {held : Bool} {r : Reach} {b0 : Nat} {v : Value} {d : DataW H} {p : List MemPlace} (hv : Value.okWide Tryz.prog w r b0 25 v) (h : DataW.Trod enc Tryz.prog w base spare held 25 v d p) : ∃ m, MillVal w v m := by
  obtain ⟨v0, v1, v2, y0, y1, y2, n, rfl, _, _, h0, h1, h2⟩ := open_agg3 Tryz.underlying25 (by kernel_rfl) (by kernel_rfl) hv h
  obtain ⟨A1, c1, xs, rfl, q1, q2, q3⟩ := ints_reads Tryz.underlying22 Tryz.underlying3 (by kernel_rfl) h0
  obtain ⟨k, e1, _, _⟩ := DataW.trod_int Tryz.underlying3 h1
  injection e1 with e1 _
  subst e1
  obtain ⟨A2, c2, os, rfl, r1, r2, r3⟩ := ords_reads Tryz.underlying23 Tryz.underlying51 Tryz.underlying3 Tryz.underlying22 (by kernel_rfl) (by kernel_rfl) (by kernel_rfl) h2
  exact ⟨⟨xs, k, os⟩, A1, c1, A2, c2, rfl, q1, q2, r1, r2, q3, r3⟩
set_option maxRecDepth 100000 in
theorem list_reads {H : Type} {enc : TypeId × Value → H} {w : World} {base : Nat} {spare : Nat → Bool} {held : Bool} {r : Reach} {b0 : Nat} {v : Value} {d : DataW H} {p : List MemPlace} (hv : Value.okWide Tryz.prog w r b0 22 v) (h : DataW.Trod enc Tryz.prog w base spare held 22 v d p) :
    ∃ A c xs, v = .slice A xs.length c ∧ xs.length ≤ c ∧ c ≤ maxLen ∧ IntsAt w A xs := by
  obtain ⟨n, hn⟩ := h
  obtain ⟨a, l, c, rfl⟩ := okWide_slice Tryz.underlying22 hv
  exact ints_reads Tryz.underlying22 Tryz.underlying3 (by kernel_rfl) hn
end Go.Proofs.Pet
