/-
  Dup, Equal, Eq of sights, walked; the opening of a statement that compares: own copy, the reference's mill, copies of the lists, boxes.
-/
import Derived.Test.YtjlglbhafopomaaGreatPF0
import Derived.Test.YtjlglbhafopomaaGreatPD7
namespace Go.Proofs.Pet
open Go Go.RowKit Go.Maps Go.Shelf
open Go.Proofs.Pow (PM Sh Wv POk Up)

set_option maxHeartbeats 400000 in
theorem dupS (A : Option Addr) (c : Nat) (xs : List Int) (w : World) (hb : xs.length * 8 ≤ 140737488355328) (hx : IntsAt w A xs) :
    Calls Tryz.prog 58 #[.slice A xs.length c] w fun e w' => ∃ v, e = .returned v ∧ OwnI w' w.heap.size 36 v xs ∧ Ext w w' := by
  obtain ⟨i, hi, hz0, hz1, hz2⟩ := info_parts info_sight
  have hmk : ∀ W : World, (Instr.makeSlice 30 (.int .i64 0) (.int .i64 (xs.length : Int))).run Tryz.prog W = .ok (.slice (some ⟨W.heap.size, 0, none⟩) 0 xs.length) (W.alloc (.cells (madeCells #[.int .i64 0] xs.length) 36)) := by
    intro W
    have := run_make (P := Tryz.prog) W 30 36 i _ Tryz.underlying30 hi hz0 .i64 .i64 0 xs.length (by omega) (by omega) (by rw [hz2]; omega) (by omega)
    simpa [hz1, Value.cells] using this
  have hE := Ext.alloc w (.cells (madeCells #[.int .i64 0] xs.length) 36)
  have hsrc := Lib.hid (hx.ext hE).src
  have hown := Lib.hid (World.ownsRow_made (w := w) (e := 36) (size := 1) (madeCells #[.int .i64 0] xs.length) xs.length (Nat.le_refl _) (by unfold maxLen; omega) (by simp [madeCells]))
  clear hx
  go_enter Tryz.func58, Tryz.ntmps58
  go_wp2_with (at_builtin; go_must (refine wpList_app rfl _ _ 30 rfl w.heap.size 36 i (.int .i64 0) 1 8 Tryz.underlying30 hi hz0 hz1 hz2 rfl (by decide) _ _ _ rfl hown.out A xs.length c (xs.map (Value.int .i64)) rfl ?c1 hsrc.out ?c2 ?c3 ?c4 ?c5 ?_); (case c1 => simp); (case c2 => (intro u hu; obtain ⟨y, _, rfl⟩ := List.mem_map.1 hu; rfl)); (case c3 => (unfold maxLen; omega)); (case c4 => omega); (case c5 => simp); intro v' w' hown' hg hblk)
  go_ret
  refine ⟨_, rfl, ?_, ext_alloc_grown hg (fun k hk => Nat.le_of_eq (Option.some.inj hk))⟩
  simp only [Nat.zero_add, List.nil_append] at hown'
  exact hown'

set_option maxHeartbeats 400000 in
theorem equalS (A B : Option Addr) (c d : Nat) (xs ys : List Int) (q : Bool) (hq : decide (xs = ys) = q) (w : World) (hb : xs.length ≤ maxLen) (hx : IntsAt w A xs) (hy : IntsAt w B ys) :
    Calls Tryz.prog 132 #[.slice A xs.length c, .slice B ys.length d] w fun e w' => e = .returned (.bool q) ∧ Ext w w' := by
  unfold maxLen at hb
  by_cases hlen : xs.length = ys.length
  · have Hq := Lib.hid hq; clear hq
    have Hlen := Lib.hid hlen
    have hne : ((xs.length : Int) != (ys.length : Int)) = false := by rw [hlen]; simp
    clear hlen
    go_enter Tryz.func132, Tryz.ntmps132
    go_wp2
    go_loopw [5, 13] (fun _ i wr => ∃ k : Nat, k ≤ xs.length ∧ i = .int .i64 k ∧ Hid (∀ j, j < k → xs[j]?.getD 0 = ys[j]?.getD 0) ∧ Ext w wr) (fun _ i _ => xs.length - (intOf i).toNat)
    case atStart => exact ⟨0, by omega, rfl, fun j hj => absurd hj (by omega), Ext.refl _⟩
    case round =>
      obtain ⟨k, hk, rfl, hm, he⟩ := hrel
      by_cases hlt : k < xs.length
      · obtain ⟨b, o, rfl, h1⟩ := hx.ext he k hlt
        obtain ⟨b2, o2, rfl, h2⟩ := hy.ext he k (by have := Hlen.out; omega)
        have hlt2 : k < ys.length := by have := Hlen.out; omega
        generalize hga : xs[k]?.getD 0 = x at *
        generalize hgb : ys[k]?.getD 0 = y at *
        have Hga := Lib.hid hga; clear hga
        have Hgb := Lib.hid hgb; clear hgb
        by_cases hxy : x = y
        · subst hxy
          have hd : (x != x) = false := by simp
          go_wp2_with fail
          go_quiet (fail)
          go_wp2
          go_roundw
          case rel =>
            refine ⟨k + 1, by omega, by go_num, fun j hj => ?_, he.trans (Ext.drewN _ _)⟩
            by_cases ej : j = k
            · subst ej; rw [Hga.out, Hgb.out]
            · exact hm.out j (by omega)
          case measure => simp [intOf]; omega
        · have hd : (x != y) = true := by simpa using hxy
          have Hxy := Lib.hid hxy; clear hxy
          go_wp2_with fail
          go_quiet (fail)
          go_wp2
          go_ret
          refine ⟨?_, he.trans (Ext.drewN _ _)⟩
          rw [← Hq.out, decide_eq_false (fun h => Hxy.out (by rw [← Hga.out, ← Hgb.out, h]))]; rfl
      · go_wp2
        go_ret
        refine ⟨?_, he⟩
        have : xs = ys := List.ext_getElem Hlen.out fun j h1 h2 => by
          have := hm.out j (by omega)
          simpa [h1, h2] using this
        rw [← Hq.out, decide_eq_true this]; rfl
  · have hne : ((xs.length : Int) != (ys.length : Int)) = true := by simp; omega
    have : decide (xs = ys) = false := decide_eq_false (fun h => hlen (by rw [h]))
    rw [this] at hq
    subst hq
    clear hlen
    go_enter Tryz.func132, Tryz.ntmps132
    go_wp2
    go_ret
    exact ⟨rfl, Ext.refl _⟩

theorem eqS (A B : Option Addr) (c d : Nat) (xs ys : List Int) (q : Bool) (hq : decide (xs = ys) = q) (w : World) (hb : xs.length ≤ maxLen) (hx : IntsAt w A xs) (hy : IntsAt w B ys) :
    Calls Tryz.prog 67 #[.slice A xs.length c, .slice B ys.length d] w fun e w' => e = .returned (.bool q) ∧ Ext w w' := by
  have H := Lib.hid (equalS A B c d xs ys q hq w hb hx hy)
  clear hq hx hy
  go_enter Tryz.func67, Tryz.ntmps67
  go_wp2_with fail
  refine H.out.mono ?_
  rintro e w' ⟨rfl, he⟩
  go_wp2
  go_ret
  exact ⟨rfl, he⟩

theorem great_bd {m : PM} (h : greatP m = false) : m.shafts.length ≤ 14 ∧ m.wvs.length ≤ 10 ∧ ∀ k, k < m.wvs.length → (m.wv k).hours.length ≤ 30 := by
  unfold greatP at h
  simp only [Bool.or_eq_false_iff, decide_eq_false_iff_not] at h
  refine ⟨by omega, by omega, fun k hk => ?_⟩
  have := List.any_eq_false.1 h.1.1 (m.wv k) (wv_mem hk)
  simpa using this
/-- the operations of the opening: own copy a, the reference's b, the boxes c and d, copies of lists by D -/
def OpenG (a b c d : Nat) (D : Nat → Option (TypeId × List Int)) (w0 : World) (m : PM) (k : Nat) (W : World) (v : Value) : Prop :=
  (k = a → OwnPM W w0.heap.size v m) ∧ (k = b → TheirM w0 W w0.heap.size v m) ∧ (k = c → BoxP 26 w0.heap.size W v) ∧ (k = d → BoxP 54 w0.heap.size W v) ∧ ∀ t l, D k = some (t, l) → OwnI W w0.heap.size t v l
theorem OpenG.ext {a b c d : Nat} {D : Nat → Option (TypeId × List Int)} {w0 : World} {m : PM} : ∀ k W W' v, Ext W W' → OpenG a b c d D w0 m k W v → OpenG a b c d D w0 m k W' v :=
  fun _ _ _ _ he ⟨h1, h2, h3, h4, h5⟩ => ⟨fun e => (h1 e).ext he, fun e => (h2 e).ext he, fun e => (h3 e).ext he, fun e => (h4 e).ext he, fun t l e => (h5 t l e).ext he⟩
theorem OwnI.opened {W : World} {base g g' : Nat} {t : TypeId} {v s1 s2 r1 r2 : Value} {xs : List Int} {c4 c5 : Array Value} (h : OwnI W base t v xs) (b4 : Blk W g 26 c4) (b5 : Blk W g' 54 c5) (n1 : 26 ≠ t) (n2 : 54 ≠ t) :
    OwnI ((((W.setCell ⟨g, 0, none⟩ s1).setCell ⟨g, 1, none⟩ s2).setCell ⟨g', 0, none⟩ r1).setCell ⟨g', 1, none⟩ r2) base t v xs := by
  have hne : g ≠ g' := b4.ne_ b5 (by decide)
  have hap1 : Apart g W ((W.setCell ⟨g, 0, none⟩ s1).setCell ⟨g, 1, none⟩ s2) := ((Apart.refl g W).set_ 0 _).set_ 1 _
  have p5 : Blk ((W.setCell ⟨g, 0, none⟩ s1).setCell ⟨g, 1, none⟩ s2) g' 54 c5 := (b5.far (by show g' ≠ g; exact fun h => hne h.symm) _).far (by show g' ≠ g; exact fun h => hne h.symm) _
  have h1 := OwnI.apart h (fun e => OwnI.ne_blk h b4 n1 e.symm) hap1
  generalize (W.setCell _ _).setCell _ _ = W1 at *
  have hap2 : Apart g' W1 ((W1.setCell ⟨g', 0, none⟩ r1).setCell ⟨g', 1, none⟩ r2) := ((Apart.refl g' W1).set_ 0 _).set_ 1 _
  exact OwnI.apart h1 (fun e => OwnI.ne_blk h1 p5 n2 e.symm) hap2
end Go.Proofs.Pet
