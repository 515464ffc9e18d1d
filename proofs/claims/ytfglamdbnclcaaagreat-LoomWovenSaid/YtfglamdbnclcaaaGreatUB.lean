/-
  What LoomRuns holds while it walks.
  The reference's step of the table.
  The reference's step of the table, walked.
  The reference's table of tables.
  The reference's Made, walked.
  Rows of a table, as the law compares them. loom.Made, walked. loom.Made, walked: the table.
  loom.Made, walked.
-/
import Derived.Test.YtfglamdbnclcaaaGreatUA
import Derived.Test.YtfglamdbnclcaaaGreatQ2
import Derived.Test.YtfglamdbnclcaaaGreatV0
namespace Go.Proofs.Pet
set_option linter.unusedSimpArgs false
open Go Go.RowKit Go.Maps Go.Shelf

/-- what Run answers -/
def RunIs (m : Mill) (n : Int) (xs : List Int) (u : Int) (es : List Int) (ch : Int) : Prop :=
  runE m n xs = u ∧ (if u = 0 then endsF m n.toNat xs xs.length else []) = es ∧ (if u = 0 then chR m n.toNat (rvI xs) else 0) = ch
/-- what Ends, Changes and Keeps answer -/
def PlanIs (m : Mill) (xss : List (List Int)) (u : Int) (al : List Int) (sm : Int) (kp : Bool) : Prop :=
  plE m xss = u ∧ (if u = 0 then endsL m xss else []) = al ∧ (if u = 0 then chgF m xss xss.length else 0) = sm ∧ (if u = 0 then keepsB m xss else false) = kp
section
variable (v pv : Value) (m : Mill) (xss : List (List Int)) (u : Int) (al : List Int) (sm : Int) (kp : Bool) (h : PlanIs m xss u al sm kp) (hb : xss.flatten.length ≤ 100) (hb2 : xss.length ≤ 1000) (w : World) (hv : MillVal w v m) (hp : RowsI w pv xss)
include h hb hb2 hv hp
end
structure Got (w : World) (m : Mill) (xs : List Int) (xss : List (List Int)) (g g' : Nat) (a0 a2 o0 o2 r0 r2 : Value) (A Am : Option Addr) (pv qv : Value) (W : World) : Prop where
  ext : Ext w W
  bM : Blk W w.heap.size 25 #[a0, .int .i64 m.change, a2]
  bO : Blk W g 25 #[o0, .int .i64 m.change, o2]
  bX : Blk W g' 102 #[r0, .int .i64 m.change, r2]
  vM : MillVal W (.agg #[a0, .int .i64 m.change, a2]) m
  vO : MillVal W (.agg #[o0, .int .i64 m.change, o2]) m
  vX : MillVal W (.agg #[r0, .int .i64 m.change, r2]) m
  x0 : IntsAt W A xs
  x1 : IntsAt W Am xs
  p0 : RowsI W pv xss
  p1 : RowsI W qv xss
end Go.Proofs.Pet

namespace Go.Proofs.Pet
set_option linter.unusedSimpArgs false
open Go Go.RowKit Go.Maps Go.Shelf

def dsL (m : Mill) (l : List Nat) : Int := l.foldl (fun d x => d + (m.orders[x]?.getD default).days) 0
theorem dsL_snoc (m : Mill) (l : List Nat) (x : Nat) : dsL m (l ++ [x]) = dsL m l + (m.orders[x]?.getD default).days := by
  unfold dsL; rw [List.foldl_append]; rfl
def acL (m : Mill) (T : Nat → Int) (order : Nat) (a : Int) (l : List Nat) : Int :=
  l.foldl (fun n x => if x = order ∨ T x = 99 then n else min n (T x + chg (m.pat x) (m.pat order))) a
/-- a row of a table of tables -/
def RowIn (w : World) (tv : Value) (loom rest n : Nat) (T : Nat → Int) : Prop :=
  ∃ a ao N c b bo N' c2 d d0 K c3, tv = .slice (some ⟨a, ao, none⟩) N c ∧ loom < N ∧ w.cell? ⟨a, ao + loom, none⟩ = some (.slice (some ⟨b, bo, none⟩) N' c2) ∧ rest < N' ∧
    w.cell? ⟨b, bo + rest, none⟩ = some (.slice (some ⟨d, d0, none⟩) K c3) ∧ n ≤ K ∧ ∀ x, x < n → w.cell? ⟨d, d0 + x, none⟩ = some (.int .i64 (T x))
end Go.Proofs.Pet

namespace Go.Proofs.Pet
set_option linter.unusedSimpArgs false
open Go Go.RowKit Go.Maps Go.Shelf

end Go.Proofs.Pet

namespace Go.Proofs.Pet
set_option linter.unusedSimpArgs false
open Go Go.RowKit Go.Maps Go.Shelf

/-- rows of ints, each in a block of its own -/
structure Rows2 (w : World) (base : Nat) (v : Value) (s n : Nat) (R : Nat → Nat) (F : Nat → Nat → Int) : Prop where
  own : w.ownsRow base 22 1 v s ((List.range s).map fun j => Value.slice (some ⟨R j, 0, none⟩) n n)
  row : ∀ j, j < s → base ≤ R j ∧ Row w (R j) n (F j)
  inj : ∀ i j, i < s → j < s → R i = R j → i = j
/-- tables of rows, each row in a block of its own -/
structure Rows3 (w : World) (base : Nat) (v : Value) (l s n : Nat) (V : Nat → Value) (R : Nat → Nat → Nat) (F : Nat → Nat → Nat → Int) : Prop where
  own : w.ownsRow base 29 1 v l ((List.range l).map V)
  tab : ∀ i, i < l → Rows2 w base (V i) s n (R i) (F i)
  inj : ∀ i i' j j', i < l → i' < l → j < s → j' < s → R i j = R i' j' → i = i'
end Go.Proofs.Pet

namespace Go.Proofs.Pet
set_option linter.unusedSimpArgs false
open Go Go.RowKit Go.Maps Go.Shelf

theorem info_slII : (Tryz.prog.info? 29).map (fun i => (i.zero, i.size, i.bytes)) = some (some (.slice none 0 0), 1, 24) := by kernel_rfl
theorem own_ge2 {w : World} {base n : Nat} {e : TypeId} {v : Value} {vs : List Value} (h : w.ownsRow base e 1 v n vs) (j : Nat) (hj : v.ownBlock = some j) : base ≤ j ∧ j < w.heap.size := by
  rcases h.2 with ⟨rfl, _⟩ | ⟨g, cap, cur, rfl, hg, hb, _⟩
  · cases hj
  · have : g = j := Option.some.inj hj
    subst this
    exact ⟨hg, (Array.getElem?_eq_some_iff.1 hb).1⟩
def OwnLen (v : Value) (n : Nat) : Prop := ∃ A c, v = .slice A n c ∧ n ≤ c
def madeV (tv pa bv pb rv lv pl mv : Value) (i s j x cv : Int) : Nat → Value → World → Prop
  | 0 => fun v _ => v = tv
  | 1 => fun v _ => v = .int .i64 i
  | 2 => fun v _ => v = pa
  | 3 => fun v _ => v = bv
  | 4 => fun v _ => v = .int .i64 s
  | 5 => fun v _ => v = pb
  | 6 => fun v _ => v = rv
  | 7 => fun v _ => v = lv
  | 8 => fun v _ => v = .int .i64 j
  | 9 => fun v _ => v = pl
  | 10 => fun v _ => v = .int .i64 x
  | 11 => fun v _ => v = mv
  | 12 => fun v _ => v = tv
  | 13 => fun v _ => v = .int .i64 i
  | 14 => fun v _ => v = .int .i64 s
  | 15 => fun v _ => v = lv
  | 16 => fun v _ => v = .int .i64 j
  | 17 => fun v _ => v = pl
  | 18 => fun v _ => v = .int .i64 x
  | 19 => fun v _ => v = .int .i64 cv
  | _ => fun _ _ => True
/-- the table half done -/
def madeF (m : Mill) (i s0 : Nat) (pre : List Nat) (l s k : Nat) : Int :=
  if l < i ∨ (l = i ∧ s < s0) then costC m l s k else if l = i ∧ s = s0 ∧ k ∈ pre then costC m l s k else 99
end Go.Proofs.Pet

namespace Go.Proofs.Pet
set_option linter.unusedSimpArgs false
open Go Go.RowKit Go.Maps Go.Shelf

def rowsC (m : Mill) (i N : Nat) : List (List Int) := (List.range N).map fun s => lst (costC m i s) m.orders.length
theorem rowsC_len (m : Mill) (i N : Nat) : (rowsC m i N).length = N := by unfold rowsC; simp
theorem rowsC_succ (m : Mill) (i N : Nat) : rowsC m i (N + 1) = rowsC m i N ++ [lst (costC m i N) m.orders.length] := by
  unfold rowsC; rw [List.range_succ, List.map_append]; rfl
theorem OwnR.far {w : World} {base b : Nat} {v u : Value} {k : Nat} {xss : List (List Int)} {cs : Array Value} (h : OwnR w base v xss) (hb : Blk w b 29 cs) : OwnR (w.setCell ⟨b, k, none⟩ u) base v xss := by
  have hI : ∀ x xs, OwnI w base 3 x xs → OwnI (w.setCell ⟨b, k, none⟩ u) base 3 x xs := fun x xs hx => by
    obtain ⟨h1, h2⟩ := hx
    refine ⟨h1, ?_⟩
    rcases h2 with h2 | ⟨q, cap, cur, rfl, hg, hB, r⟩
    · exact .inl h2
    · exact .inr ⟨q, cap, cur, rfl, hg, Blk.far (p := ⟨b, k, none⟩) hB (Blk.ne_ hB hb (by decide)) u, r⟩
  obtain ⟨vs, ⟨h1, h2⟩, h3, h4⟩ := h
  refine ⟨vs, ⟨h1, ?_⟩, h3, fun i hi => hI _ _ (h4 i hi)⟩
  rcases h2 with h2 | ⟨q, cap, cur, rfl, hg, hB, r⟩
  · exact .inl h2
  · exact .inr ⟨q, cap, cur, rfl, hg, Blk.far (p := ⟨b, k, none⟩) hB (Blk.ne_ hB hb (by decide)) u, r⟩
end Go.Proofs.Pet

namespace Go.Proofs.Pet
set_option linter.unusedSimpArgs false
open Go Go.RowKit Go.Maps Go.Shelf

end Go.Proofs.Pet

namespace Go.Proofs.Pet
set_option linter.unusedSimpArgs false
open Go Go.RowKit Go.Maps Go.Shelf

/-- a table being made: the array of tables, each of its own rows, no two in one array -/
def TabIn (w : World) (base S L : Nat) (X : Nat → List (List Int)) : Prop :=
  ∃ cs : Array Value, Blk w S 29 cs ∧ cs.size = L ∧ (∀ i, i < L → ∃ u, cs[i]? = some u ∧ OwnR w base u (X i)) ∧
    ∀ i j u v, i < L → j < L → i ≠ j → cs[i]? = some u → cs[j]? = some v → ∀ g, u.ownBlock = some g → v.ownBlock ≠ some g
theorem TabIn.ext {w w' : World} {base S L : Nat} {X : Nat → List (List Int)} (h : TabIn w base S L X) (he : Ext w w') : TabIn w' base S L X := by
  obtain ⟨cs, h1, h2, h3, h4⟩ := h
  exact ⟨cs, h1.ext he, h2, fun i hi => by obtain ⟨u, g1, g2⟩ := h3 i hi; exact ⟨u, g1, g2.ext he⟩, h4⟩
theorem TabIn.mono {w : World} {base base' S L : Nat} {X : Nat → List (List Int)} (h : TabIn w base S L X) (hb : base' ≤ base) : TabIn w base' S L X := by
  obtain ⟨cs, h1, h2, h3, h4⟩ := h
  exact ⟨cs, h1, h2, fun i hi => by obtain ⟨u, g1, g2⟩ := h3 i hi; exact ⟨u, g1, g2.mono hb⟩, h4⟩
theorem TabIn.congr {w : World} {base S L : Nat} {X Y : Nat → List (List Int)} (h : TabIn w base S L X) (e : ∀ i, i < L → X i = Y i) : TabIn w base S L Y := by
  obtain ⟨cs, h1, h2, h3, h4⟩ := h
  exact ⟨cs, h1, h2, fun i hi => by obtain ⟨u, g1, g2⟩ := h3 i hi; exact ⟨u, g1, e i hi ▸ g2⟩, h4⟩
theorem TabIn.at {w : World} {base S L : Nat} {X : Nat → List (List Int)} (h : TabIn w base S L X) {i : Nat} (hi : i < L) : ∃ u, w.cell? ⟨S, i, none⟩ = some u ∧ w.frozen? ⟨S, i, none⟩ = false ∧ OwnR w base u (X i) := by
  obtain ⟨cs, h1, h2, h3, _⟩ := h
  obtain ⟨u, g1, g2⟩ := h3 i hi
  exact ⟨u, by rw [h1.cell, g1], h1.frozen i, g2⟩
/-- a row more in one of the tables -/
theorem TabIn.push {w w' : World} {base S L n : Nat} {X : Nat → List (List Int)} (h : TabIn w base S L X) {i : Nat} (hi : i < L) {u v' r : Value} {row : List Int} {vs : List Value} (hu : w.cell? ⟨S, i, none⟩ = some u) (hn : (X i).length = n)
    (hv : w.ownsRow base 22 1 u n vs) (hl : vs.length = n) (hr : ∀ j, j < n → OwnI w base 3 (vs[j]?.getD undef) ((X i)[j]?.getD [])) (hrow : OwnI w base 3 r row)
    (hown : w'.ownsRow base 22 1 v' (n + 1) (vs ++ [r])) (hg : w.grownBy w' u.ownBlock) (hblk : v'.ownBlock = u.ownBlock ∨ v'.ownBlock = some w.heap.size) :
    w'.cell? ⟨S, i, none⟩ = some u ∧ w'.frozen? ⟨S, i, none⟩ = false ∧ TabIn (w'.setCell ⟨S, i, none⟩ v') base S L (fun j => if j = i then X i ++ [row] else X j) := by
  obtain ⟨cs, h1, h2, h3, h4⟩ := h
  have hS : some S ≠ u.ownBlock := ownsRow_ne_blk hv h1 (by decide)
  have h1' := h1.grown hg hS
  have hui : cs[i]? = some u := by rw [← h1.cell]; exact hu
  refine ⟨by rw [h1'.cell, hui], h1'.frozen i, cs.setIfInBounds i v', h1'.set_ i v', by simpa using h2, fun j hj => ?_, ?_⟩
  · by_cases e : j = i
    · subst e
      refine ⟨v', by rw [Array.getElem?_setIfInBounds, if_pos rfl, if_pos (by omega)], ?_⟩
      show OwnR _ _ _ (if j = j then X j ++ [row] else X j)
      rw [if_pos rfl]
      exact (OwnR.push hn hv hl hr hrow hown hg).far h1'
    · obtain ⟨x, g1, g2⟩ := h3 j hj
      refine ⟨x, by rw [Array.getElem?_setIfInBounds, if_neg (fun h => e h.symm)]; exact g1, ?_⟩
      show OwnR _ _ _ (if j = i then X i ++ [row] else X j)
      rw [if_neg e]
      exact (g2.grown hg hv fun g hg' he => h4 j i x u hj hi e g1 hui g hg' he.symm).far h1'
  · have hlt : ∀ j x, j < L → cs[j]? = some x → x.ownBlock ≠ some w.heap.size := fun j x hj hx he => by
      obtain ⟨y, g1, ys, g2, _⟩ := h3 j hj
      rw [hx] at g1
      cases g1
      have := (own_ge2 g2 _ he).2
      omega
    intro j k x y hj hk hne hx hy g hg1 hg2
    rw [Array.getElem?_setIfInBounds] at hx hy
    by_cases e1 : i = j
    · subst e1
      rw [if_pos rfl, if_pos (by omega)] at hx
      rw [if_neg hne] at hy
      cases hx
      rcases hblk with hb | hb
      · rw [hb] at hg1
        exact h4 i k u y hj hk hne hui hy g hg1 hg2
      · rw [hb] at hg1
        exact hlt k y hk hy (hg1 ▸ hg2)
    · rw [if_neg e1] at hx
      by_cases e2 : i = k
      · subst e2
        rw [if_pos rfl, if_pos (by omega)] at hy
        cases hy
        rcases hblk with hb | hb
        · rw [hb] at hg2
          exact h4 j i x u hj hk hne hx hui g hg1 hg2
        · rw [hb] at hg2
          exact hlt j x hj hx (hg2 ▸ hg1)
      · rw [if_neg e2] at hy
        exact h4 j k x y hj hk hne hx hy g hg1 hg2
end Go.Proofs.Pet

namespace Go.Proofs.Pet
set_option linter.unusedSimpArgs false
open Go Go.RowKit Go.Maps Go.Shelf

set_option maxRecDepth 20000 in
set_option maxHeartbeats 4000000 in
theorem made_any (v : Value) (m : Mill) (hch : checkE m = 0) (w : World) (hv : MillVal w v m) :
    Calls Tryz.prog 7 #[v] w fun e w' => ∃ S, e = .returned (.tuple #[.slice (some ⟨S, 0, none⟩) m.laced.length m.laced.length, .int .i64 0]) ∧ TabIn w' w.heap.size S m.laced.length (fun i => rowsC m i (2 ^ m.orders.length)) ∧ Ext w w' := by
  obtain ⟨ti, hi, hz0, hz1, hz2⟩ := info_parts info_int
  obtain ⟨ti2, hi2, hy0, hy1, hy2⟩ := info_parts info_slI
  obtain ⟨ti3, hi3, hx0, hx1, hx2⟩ := info_parts info_slII
  have Hv := Lib.hid hv
  obtain ⟨A1, c1, A2, c2, rfl, h2, h3, h4, h5, h6, h7⟩ := hv
  have hE := Ext.alloc w (.cells #[.slice A1 m.laced.length c1, .int .i64 m.change, .slice A2 m.orders.length c2] 25)
  have hM := Blk.new w 25 #[.slice A1 m.laced.length c1, .int .i64 m.change, .slice A2 m.orders.length c2]
  have hop := Lib.hid (opened_any _ m hch _ (Hv.out.ext hE))
  obtain ⟨l1, l2, l3⟩ := check_len hch
  have Hch := Lib.hid hch; clear hch
  clear h6 h7 h3 h5
  obtain ⟨N, hN⟩ : ∃ N, 2 ^ m.orders.length = N := ⟨_, rfl⟩
  have hNb : N ≤ 128 := by
    have h1 : 2 ^ m.orders.length ≤ 2 ^ 7 := Nat.pow_le_pow_right (by omega) l3
    have h2 : (2 : Nat) ^ 7 = 128 := by decide
    omega
  rw [hN]
  have HN := Lib.hid hN; clear hN
  obtain ⟨k0, k1, k2⟩ := hM.c3
  go_enter Tryz.func7, Tryz.ntmps7
  go_wp2_with fail
  refine hop.out.mono ?_
  rintro e w1 ⟨D, rfl, hD, hdk, he1⟩
  have hE1 := hE.trans he1
  have hM1 := hM.ext he1
  have hco := Lib.hid (costs_any D m Hch.out w1 hdk)
  clear hE hM he1 hop k0 k1 k2
  go_wp2_with fail
  refine hco.out.mono ?_
  rintro e w2 ⟨B, rfl, hB, hcA, he2⟩
  have hE2 := hE1.trans he2
  have hM2 := hM1.ext he2
  have hdk2 := Lib.hid (hdk.ext he2)
  rw [HN.out] at hcA
  have hmk : ∀ W : World, (Instr.makeSlice 33 (.int .i64 (m.laced.length : Int)) (.int .i64 (m.laced.length : Int))).run Tryz.prog W = .ok (.slice (some ⟨W.heap.size, 0, none⟩) m.laced.length m.laced.length) (W.alloc (.cells (Array.replicate m.laced.length (.slice none 0 0)) 29)) := by
    intro W
    have := run_make (P := Tryz.prog) W 33 29 ti3 _ Tryz.underlying33 hi3 hx0 .i64 .i64 m.laced.length m.laced.length (by omega) (by omega) (by rw [hx2]; omega) (by omega)
    have e : madeCells #[Value.slice none 0 0] m.laced.length = Array.replicate m.laced.length (.slice none 0 0) := by
      apply Array.ext
      · simp [madeCells]
      · intro j h1 h2
        simp [madeCells, Nat.mod_one]
    simpa [hx1, Value.cells, e] using this
  have hS := Blk.new w2 29 (Array.replicate m.laced.length (.slice none 0 0))
  have hT0 : TabIn (w2.alloc (.cells (Array.replicate m.laced.length (.slice none 0 0)) 29)) w2.heap.size w2.heap.size m.laced.length (fun _ => []) :=
    ⟨_, hS, by simp, fun i hi => ⟨.slice none 0 0, by rw [Array.getElem?_replicate, if_pos hi], OwnR.nil _ _⟩, fun i j u v _ hj _ _ h2 g _ hg => by
      rw [Array.getElem?_replicate, if_pos hj] at h2
      cases h2
      cases hg⟩
  have hX := Ext.alloc w2 (.cells (Array.replicate m.laced.length (.slice none 0 0)) 29)
  have Hca := Lib.hid hcA
  clear hE1 hM1 hdk hco he2 hcA
  obtain ⟨k0, k1, k2⟩ := hM2.c3
  go_wp2_with fail
  obtain ⟨S, hS'⟩ : ∃ S, w2.heap.size = S := ⟨_, rfl⟩
  rw [hS'] at hS hT0 ⊢
  have hSw : w.heap.size < S := by have := hM2.lt; omega
  have hTX : Hid (TabIn _ S S m.laced.length (fun i => if i < 0 then rowsC m i N else [])) := hT0.congr fun i _ => by rw [if_neg (by omega)]
  have HS' := Lib.hid hS'
  clear hT0 hS hmk k0 k1 k2 hS'
  generalize w2.alloc _ = W0 at *
  go_loopw [8, 9, 26] (fun _ _ iv wr => ∃ l : Nat, l ≤ m.laced.length ∧ iv = .int .i64 l ∧ Ext w2 wr ∧ Hid (TabIn wr S S m.laced.length (fun i => if i < l then rowsC m i N else []))) (fun _ _ iv _ => m.laced.length - (intOf iv).toNat)
  case atStart => exact ⟨0, by omega, rfl, hX, hTX⟩
  case round =>
    clear hX hTX
    obtain ⟨l, hl, rfl, he, hTr⟩ := hrel
    by_cases hlt : l < m.laced.length
    · obtain ⟨B1, d1, B2, d2, MM, cnt, hb, g2, g3, g4, g5, g6, g7, _, _⟩ := hdk2.out.ext he
      have hvD := Lib.hid (show MillVal wr (.agg #[.slice B1 m.laced.length d1, .int .i64 m.change, .slice B2 m.orders.length d2]) m from ⟨B1, d1, B2, d2, rfl, g2, g3, g4, g5, g6, g7⟩)
      have hse := Lib.hid (sets_any _ m (by omega) N HN.out.symm wr hvD.out)
      obtain ⟨k0, k1, k2, k3⟩ := hb.c4
      clear g2 g3 g4 g5 g6 g7
      go_wp2_with fail
      refine hse.out.mono ?_
      rintro e w3 ⟨rfl, he3⟩
      have heX := he.trans he3
      have hTX : Hid (TabIn w3 S S m.laced.length (fun i => if i < l then rowsC m i N else if i = l then rowsC m i 0 else [])) := (hTr.out.ext he3).congr fun i _ => by
        by_cases h1 : i < l
        · rw [if_pos h1, if_pos h1]
        · rw [if_neg h1, if_neg h1]; split <;> rfl
      clear he hTr he3 hvD hse hb k0 k1 k2 k3
      go_wp2_with fail
      go_loopw [9, 34] (fun _ sv wr => ∃ s : Nat, s ≤ N ∧ sv = .int .i64 s ∧ Ext w2 wr ∧ Hid (TabIn wr S S m.laced.length (fun i => if i < l then rowsC m i N else if i = l then rowsC m i s else []))) (fun _ sv _ => N - (intOf sv).toNat)
      case atStart => exact ⟨0, by omega, rfl, heX, hTX⟩
      case round =>
        clear heX hTX
        obtain ⟨s, hs, rfl, he, hTr⟩ := hrel
        by_cases hlts : s < N
        · have hcell : Hid (∀ k, k < m.orders.length → wr.cell? ⟨B, l * 896 + s * 7 + k, none⟩ = some (.int .i64 (costC m l s k))) := fun k hk => by
            rw [(Hca.out.ext he).cell (by omega) (by omega) (by omega), if_pos ⟨hlt, hlts⟩]
          obtain ⟨u, hu1, hu2, hu3⟩ := hTr.out.at hlt
          rw [if_neg (by omega), if_pos rfl] at hu3
          obtain ⟨vs, hv1, hv2, hv3⟩ := hu3
          rw [rowsC_len] at hv1 hv2 hv3
          have Hv1 := Lib.hid hv1; have Hv2 := Lib.hid hv2; have Hv3 := Lib.hid hv3
          have Hu1 := Lib.hid hu1
          clear hv1 hv2 hv3 hu1 hu2
          have hsz0 := he.size
          go_wp2_with fail
          have hsl : ∀ W : World, (Instr.sliceAt 85 (.pointer (some ⟨B, l * 896 + s * 7, none⟩)) none (some (.int .i64 (m.orders.length : Int))) none).run Tryz.prog W = .ok (.slice (some ⟨B, l * 896 + s * 7, none⟩) m.orders.length 7) W := by
            intro W
            have hal : Tryz.prog.arrayLen 85 = 7 := by kernel_rfl
            rw [run_sliceAt_array_h (P := Tryz.prog) W 85 ⟨B, l * 896 + s * 7, none⟩ (by kernel_rfl) .i64 m.orders.length (by omega) (by rw [hal]; omega)]
            have hsz : (sizeOf (Tryz.prog.elem 85)).run Tryz.prog W = .ok 1 W := by kernel_rfl
            rw [hsz, hal]
            simp [Result.andThen, slicedAt, Addr.add]
          obtain ⟨k0, k1, k2⟩ := (hM2.ext he).c3
          have heL := he
          refine wp_region_chain 19 [(16, true), (17, true), (18, false)] [0, 1, 2, 3, 6, 7, 8] (by kernel_rfl) (by kernel_rfl) (by kernel_rfl) ?_
          simp only [List.take, List.drop, fill, Act.put, List.setIfInBounds_toArray, List.set_cons_zero, List.set_cons_succ, Nat.reduceAdd]
          repeat (first
            | refine Floats.mut rfl ?_
            | (apply Floats.float rfl
               · intro x W he hd K Q hK
                 try (have he := he (by decide); have k0 := he.cell k0; have k1 := he.cell k1; have k2 := he.cell k2; have hu := he.cell Hu1.out)
                 try simp only [edges, DepsE, List.filter_cons, List.filter_nil, Region.binds, if_true, and_true, true_and, upd, Nat.reduceEqDiff, if_false] at hd
                 try simp only [hd] at hK ⊢
                 have HK := Lib.hid hK; clear hK
                 go_wp2_with fail
                 exact HK.out))
          refine Floats.done fun W he hG => ?_
          refine Chain.cons _ rfl ?_
          intro x hd K Q hK
          try simp only [edges, DepsE, List.filter_cons, List.filter_nil, Region.binds, if_true, and_true, true_and, upd, Nat.reduceEqDiff, if_false] at hd
          try simp only [hd] at hK ⊢
          clear hd
          have HK := Lib.hid hK; clear hK
          go_wp2_with fail
          have hcl := cloneI (some ⟨B, l * 896 + s * 7, none⟩) 7 (lst (costC m l s) m.orders.length) W (by rw [lst_len]; omega) (fun k hk => by
            rw [lst_len] at hk
            exact ⟨B, _, rfl, by rw [lst_get _ hk]; exact he.cell (hcell.out k hk)⟩)
          rw [lst_len] at hcl
          refine hcl.mono ?_
          rintro e w4 ⟨r, rfl, hr, he4⟩
          have hr' := hr.mono he.size
          have he' := he.trans he4
          clear hr hcl
          go_wp2_with fail
          refine HK.out _ _ (fun _ => he') ?_
          obtain ⟨Ar, cr, rfl, r1, r2, r3, r4, r5⟩ := hr'.open_
          have Hr := Lib.hid hr'; clear hr' r1 r2 r3 r4 r5
          clear HK
          refine Chain.cons _ rfl ?_
          intro x hd K Q hK
          try simp only [edges, DepsE, List.filter_cons, List.filter_nil, Region.binds, if_true, and_true, true_and, upd, Nat.reduceEqDiff, if_false] at hd
          try simp only [hd] at hK ⊢
          clear hd
          have HK := Lib.hid hK; clear hK
          go_wp2_with fail
          have hb := Blk.new w4 22 #[.slice Ar (lst (costC m l s) m.orders.length).length cr]
          refine HK.out _ _ (fun _ => he'.trans (Ext.alloc _ _)) ?_
          clear HK
          refine Chain.cons _ rfl ?_
          intro x hd K Q hK
          try simp only [edges, DepsE, List.filter_cons, List.filter_nil, Region.binds, if_true, and_true, true_and, upd, Nat.reduceEqDiff, if_false] at hd
          try simp only [hd] at hK ⊢
          clear hd
          have HK := Lib.hid hK; clear hK
          have he2 := he'.trans (Ext.alloc w4 (.cells #[.slice Ar (lst (costC m l s) m.orders.length).length cr] 22))
          have hrow := ownsRow_ext2 Hv1.out he2
          have hsrc := Src.one w4 (.slice Ar (lst (costC m l s) m.orders.length).length cr) 22
          refine wpList_app rfl _ _ 29 rfl S 22 ti2 (.slice none 0 0) 1 24 Tryz.underlying29 hi2 hy0 hy1 hy2 rfl (by decide) u s vs rfl hrow (some ⟨w4.heap.size, 0, none⟩) 1 _ [.slice Ar (lst (costC m l s) m.orders.length).length cr] rfl rfl hsrc (fun u hu => by rw [List.mem_singleton] at hu; subst hu; rfl) (by simp only [maxLen]; omega) (by omega) (by have := he2.size; have := HS'.out; omega) ?_
          intro v' w5 hown hg hblk
          have hTp := TabIn.push (hTr.out.ext he2) hlt (he2.cell Hu1.out) (by rw [if_neg (by omega), if_pos rfl, rowsC_len]) hrow Hv2.out (fun j hj => by rw [if_neg (by omega), if_pos rfl]; exact (Hv3.out j hj).ext he2) ((Hr.out.ext (Ext.alloc _ _)).mono (by have := HS'.out; omega)) hown hg hblk
          obtain ⟨q1, q2, hTp⟩ := hTp
          have HT := Lib.hid hTp; clear hTp
          have hge : ∀ j, u.ownBlock = some j → S ≤ j := fun j hj => (own_ge2 hrow j hj).1
          have heN := heL.trans he2
          have hex : Ext w2 w5 := Below.grown heN hg heN.size (by rw [HS'.out]; exact hge)
          obtain ⟨A9, c9, rfl⟩ := ownsRow_slice hown
          have hex' : Ext w2 (w5.setCell ⟨S, l, none⟩ (.slice A9 (s + 1) c9)) := Below.setCell hex (by show w2.heap.size ≤ S; rw [HS'.out]; omega) _
          refine HK.out _ _ (fun h => by cases h) ?_
          refine Chain.nil ?_
          simp only [upd, Nat.reduceEqDiff, if_false, if_true]
          go_wp2_with fail
          go_roundw
          case rel =>
            refine ⟨s + 1, by omega, by go_num, hex', ?_⟩
            · refine HT.out.congr fun i hi => ?_
              by_cases h1 : i = l
              · subst h1
                rw [if_pos rfl, if_neg (by omega), if_pos rfl, if_neg (by omega), if_pos rfl, rowsC_succ]
              · rw [if_neg h1]
                by_cases h2 : i < l
                · rw [if_pos h2, if_pos h2]
                · rw [if_neg h2, if_neg h1, if_neg h2, if_neg h1]
          case measure => simp [intOf]; omega
        · obtain rfl : s = N := by omega
          go_wp2_with fail
          go_roundw
          case rel =>
            refine ⟨l + 1, by omega, by go_num, he, hTr.out.congr fun i _ => ?_⟩
            by_cases h1 : i < l
            · rw [if_pos h1, if_pos (by omega)]
            · by_cases h2 : i = l
              · rw [if_neg h1, if_pos h2, if_pos (by omega)]
              · rw [if_neg h1, if_neg h2, if_neg (by omega)]
          case measure => simp [intOf]; omega
    · obtain rfl : l = m.laced.length := by omega
      go_wp2_with fail
      go_ret2
      exact ⟨S, rfl, (hTr.out.mono (by omega)).congr fun i hi => by rw [if_pos hi], hE2.trans he⟩
end Go.Proofs.Pet
