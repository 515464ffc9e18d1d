/-
  What LoomRuns holds while it walks.
-/
import Derived.Test.YtknokjnplbdmeaaGreatU0
import Derived.Test.YtknokjnplbdmeaaGreatU5
import Derived.Test.YtknokjnplbdmeaaGreatQ2
namespace Go.Proofs.Pet
open Go Go.RowKit Go.Maps Go.Shelf

theorem OwnR.stored {W : World} {g g' base : Nat} {a0 a1 a2 b0 b1 b2 v : Value} {xss : List (List Int)} {c5 c6 : Array Value} (h : OwnR W base v xss) (b4 : Blk W g 25 c5) (b5 : Blk W g' 35 c6) :
    OwnR ((((((W.setCell ⟨g, 0, none⟩ a0).setCell ⟨g, 1, none⟩ a1).setCell ⟨g, 2, none⟩ a2).setCell ⟨g', 0, none⟩ b0).setCell ⟨g', 1, none⟩ b1).setCell ⟨g', 2, none⟩ b2) base v xss := by
  obtain ⟨vs, ⟨h1, h2⟩, h3, h4⟩ := h
  refine ⟨vs, ⟨h1, ?_⟩, h3, fun i hi => (h4 i hi).stored b4 b5⟩
  rcases h2 with h2 | ⟨q, cap, cur, rfl, hg, hb, r⟩
  · exact .inl h2
  · have n1 : q ≠ g := Blk.ne_ hb b4 (by decide)
    have n2 : q ≠ g' := Blk.ne_ hb b5 (by decide)
    exact .inr ⟨q, cap, cur, rfl, hg, (((((Blk.far (p := ⟨g, 0, none⟩) hb n1 _).far (p := ⟨g, 1, none⟩) n1 _).far (p := ⟨g, 2, none⟩) n1 _).far (p := ⟨g', 0, none⟩) n2 _).far (p := ⟨g', 1, none⟩) n2 _).far (p := ⟨g', 2, none⟩) n2 _, r⟩
theorem flat_12 : ∀ (xss : List (List Int)), (∀ j, j < xss.length → (xss[j]?.getD []).length ≤ 12) → xss.flatten.length ≤ 12 * xss.length
  | [], _ => by simp
  | x :: xss, h => by
    have h0 := h 0 (by simp)
    have ih := flat_12 xss (fun j hj => by have := h (j + 1) (by simp; omega); simpa using this)
    simp at h0 ⊢
    rw [List.length_flatten] at ih
    omega
/-- what Run answers -/
def RunIs (m : Mill) (n : Int) (xs : List Int) (u : Int) (es : List Int) (ch : Int) : Prop :=
  runE m n xs = u ∧ (if u = 0 then endsF m n.toNat xs xs.length else []) = es ∧ (if u = 0 then chR m n.toNat (rvI xs) else 0) = ch
/-- what Ends, Changes and Keeps answer -/
def PlanIs (m : Mill) (xss : List (List Int)) (u : Int) (al : List Int) (sm : Int) (kp : Bool) : Prop :=
  plE m xss = u ∧ (if u = 0 then endsL m xss else []) = al ∧ (if u = 0 then chgF m xss xss.length else 0) = sm ∧ (if u = 0 then keepsB m xss else false) = kp
theorem runTop_to (v : Value) (m : Mill) (n : Int) (A : Option Addr) (c : Nat) (xs : List Int) (u : Int) (es : List Int) (ch : Int) (h : RunIs m n xs u es ch) (w : World) (hv : MillVal w v m) (hlc : xs.length ≤ c) (hl : c ≤ maxLen) (hb : xs.length ≤ 100) (hx : IntsAt w A xs) :
    Calls Tryz.prog 44 #[v, .int .i64 n, .slice A xs.length c] w fun e w' => ∃ r, e = .returned (.tuple #[r, .int .i64 ch, .int .i64 u]) ∧ SlI w' r es ∧ Ext w w' := by
  obtain ⟨h1, h2, h3⟩ := h
  have := runTop_any v m n A c xs u h1 w hv hlc hl hb hx
  rw [h2, h3] at this
  exact this
section
variable (v pv : Value) (m : Mill) (xss : List (List Int)) (u : Int) (al : List Int) (sm : Int) (kp : Bool) (h : PlanIs m xss u al sm kp) (hb : xss.flatten.length ≤ 100) (hb2 : xss.length ≤ 1000) (w : World) (hv : MillVal w v m) (hp : RowsI w pv xss)
include h hb hb2 hv hp
theorem ends_to : Calls Tryz.prog 86 #[v, pv] w fun e w' => ∃ r, e = .returned (.tuple #[r, .int .i64 u]) ∧ SlI w' r al ∧ Ext w w' := by
  obtain ⟨h1, h2, h3, h4⟩ := h
  have := ends_any v pv m xss u h1 hb hb2 w hv hp
  rw [h2] at this
  exact this
theorem changes_to : Calls Tryz.prog 52 #[v, pv] w fun e w' => e = .returned (.tuple #[.int .i64 sm, .int .i64 u]) ∧ Ext w w' := by
  obtain ⟨h1, h2, h3, h4⟩ := h
  have := changes_any v pv m xss u h1 hb hb2 w hv hp
  rw [h3] at this
  exact this
theorem keeps_to : Calls Tryz.prog 53 #[v, pv] w fun e w' => e = .returned (.tuple #[.bool kp, .int .i64 u]) ∧ Ext w w' := by
  obtain ⟨h1, h2, h3, h4⟩ := h
  exact keeps_any v pv m xss u h1 kp h4 hb hb2 w hv hp
end
structure Got (w : World) (m : Mill) (xs : List Int) (xss : List (List Int)) (g g' : Nat) (a0 a2 o0 o2 r0 r2 : Value) (A Am : Option Addr) (pv qv : Value) (W : World) : Prop where
  ext : Ext w W
  bM : Blk W w.heap.size 25 #[a0, .int .i64 m.change, a2]
  bO : Blk W g 25 #[o0, .int .i64 m.change, o2]
  bX : Blk W g' 35 #[r0, .int .i64 m.change, r2]
  vM : MillVal W (.agg #[a0, .int .i64 m.change, a2]) m
  vO : MillVal W (.agg #[o0, .int .i64 m.change, o2]) m
  vX : MillVal W (.agg #[r0, .int .i64 m.change, r2]) m
  x0 : IntsAt W A xs
  x1 : IntsAt W Am xs
  p0 : RowsI W pv xss
  p1 : RowsI W qv xss
theorem Got.to {w : World} {m : Mill} {xs : List Int} {xss : List (List Int)} {g g' : Nat} {a0 a2 o0 o2 r0 r2 : Value} {A Am : Option Addr} {pv qv : Value} {W W' : World} (h : Got w m xs xss g g' a0 a2 o0 o2 r0 r2 A Am pv qv W) (he : Ext W W') : Got w m xs xss g g' a0 a2 o0 o2 r0 r2 A Am pv qv W' :=
  ⟨h.ext.trans he, h.bM.ext he, h.bO.ext he, h.bX.ext he, h.vM.ext he, h.vO.ext he, h.vX.ext he, h.x0.ext he, h.x1.ext he, h.p0.ext he, h.p1.ext he⟩
end Go.Proofs.Pet
