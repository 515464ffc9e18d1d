/-
  The reference's table of tables.
-/
import Derived.Test.YtknokjnplbdmeaaGreatU8
namespace Go.Proofs.Pet
open Go Go.RowKit Go.Maps Go.Shelf

/-- rows of ints, each in a block of its own -/
structure Rows2 (w : World) (base : Nat) (v : Value) (s n : Nat) (R : Nat → Nat) (F : Nat → Nat → Int) : Prop where
  own : w.ownsRow base 22 1 v s ((List.range s).map fun j => Value.slice (some ⟨R j, 0, none⟩) n n)
  row : ∀ j, j < s → base ≤ R j ∧ Row w (R j) n (F j)
  inj : ∀ i j, i < s → j < s → R i = R j → i = j
theorem Rows2.ext {w w' : World} {base s n : Nat} {v : Value} {R : Nat → Nat} {F : Nat → Nat → Int} (h : Rows2 w base v s n R F) (he : Ext w w') : Rows2 w' base v s n R F :=
  ⟨ownsRow_ext2 h.own he, fun j hj => ⟨(h.row j hj).1, (h.row j hj).2.ext he⟩, h.inj⟩
theorem Row.grown2 {w w' : World} {b N base n : Nat} {f : Nat → Int} {v : Value} {vs : List Value} {e : TypeId} (h : Row w b N f) (hg : w.grownBy w' v.ownBlock) (hv : w.ownsRow base e 1 v n vs) (hne : 3 ≠ e) : Row w' b N f := by
  obtain ⟨cs, h1, h2, h3⟩ := h
  exact ⟨cs, h1.grown hg (ownsRow_ne_blk hv h1 hne), h2, h3⟩
/-- one row more -/
theorem Rows2.push {w w' : World} {base s n : Nat} {v v' : Value} {R : Nat → Nat} {F : Nat → Nat → Int} {r : Nat} {f : Nat → Int} (h : Rows2 w base v s n R F) (hr : base ≤ r) (hf : Row w r n f) (hnew : ∀ j, j < s → R j ≠ r)
    (hown : w'.ownsRow base 22 1 v' (s + 1) ((List.range s).map (fun j => Value.slice (some ⟨R j, 0, none⟩) n n) ++ [.slice (some ⟨r, 0, none⟩) n n])) (hg : w.grownBy w' v.ownBlock) :
    Rows2 w' base v' (s + 1) n (fun j => if j = s then r else R j) (fun j => if j = s then f else F j) := by
  refine ⟨?_, fun j hj => ?_, fun i j hi hj e => ?_⟩
  · have e1 : (List.range (s + 1)).map (fun j => Value.slice (some ⟨if j = s then r else R j, 0, none⟩) n n) = (List.range s).map (fun j => Value.slice (some ⟨R j, 0, none⟩) n n) ++ [.slice (some ⟨r, 0, none⟩) n n] := by
      rw [List.range_succ, List.map_append]
      congr 1
      · refine List.map_congr_left fun j hj => ?_
        have := List.mem_range.1 hj
        rw [if_neg (by omega)]
      · simp
    rw [e1]
    exact hown
  · try dsimp only
    by_cases ej : j = s
    · rw [if_pos ej, if_pos ej]
      exact ⟨hr, hf.grown2 hg h.own (by decide)⟩
    · rw [if_neg ej, if_neg ej]
      exact ⟨(h.row j (by omega)).1, (h.row j (by omega)).2.grown2 hg h.own (by decide)⟩
  · try dsimp only at e
    by_cases ei : i = s
    · by_cases ej : j = s
      · omega
      · rw [if_pos ei, if_neg ej] at e
        exact absurd e.symm (hnew j (by omega))
    · by_cases ej : j = s
      · rw [if_neg ei, if_pos ej] at e
        exact absurd e (hnew i (by omega))
      · rw [if_neg ei, if_neg ej] at e
        exact h.inj i j (by omega) (by omega) e
/-- tables of rows, each row in a block of its own -/
structure Rows3 (w : World) (base : Nat) (v : Value) (l s n : Nat) (V : Nat → Value) (R : Nat → Nat → Nat) (F : Nat → Nat → Nat → Int) : Prop where
  own : w.ownsRow base 30 1 v l ((List.range l).map V)
  tab : ∀ i, i < l → Rows2 w base (V i) s n (R i) (F i)
  inj : ∀ i i' j j', i < l → i' < l → j < s → j' < s → R i j = R i' j' → i = i'
theorem Rows3.ext {w w' : World} {base l s n : Nat} {v : Value} {V : Nat → Value} {R : Nat → Nat → Nat} {F : Nat → Nat → Nat → Int} (h : Rows3 w base v l s n V R F) (he : Ext w w') : Rows3 w' base v l s n V R F :=
  ⟨ownsRow_ext2 h.own he, fun i hi => (h.tab i hi).ext he, h.inj⟩
theorem ownsRow_grown {w w' : World} {base base' n n' : Nat} {e e' : TypeId} {v v' : Value} {vs vs' : List Value} (h : w.ownsRow base e 1 v n vs) (hg : w.grownBy w' v'.ownBlock) (hv : w.ownsRow base' e' 1 v' n' vs') (hne : e ≠ e') : w'.ownsRow base e 1 v n vs := by
  obtain ⟨h0, h1⟩ := h
  refine ⟨h0, ?_⟩
  rcases h1 with h1 | ⟨g, cap, cur, rfl, hg1, hb, r⟩
  · exact .inl h1
  · have hB : Blk w g e cur := hb
    exact .inr ⟨g, cap, cur, rfl, hg1, hB.grown hg (ownsRow_ne_blk hv hB hne), r⟩
theorem Rows2.grown {w w' : World} {base base' s n n' : Nat} {v v' : Value} {R : Nat → Nat} {F : Nat → Nat → Int} {vs' : List Value} (h : Rows2 w base v s n R F) (hg : w.grownBy w' v'.ownBlock) (hv : w.ownsRow base' 30 1 v' n' vs') : Rows2 w' base v s n R F :=
  ⟨ownsRow_grown h.own hg hv (by decide), fun j hj => ⟨(h.row j hj).1, (h.row j hj).2.grown2 hg hv (by decide)⟩, h.inj⟩
theorem Rows2.mono {w : World} {base base' s n : Nat} {v : Value} {R : Nat → Nat} {F : Nat → Nat → Int} (h : Rows2 w base v s n R F) (hb : base' ≤ base) : Rows2 w base' v s n R F := by
  refine ⟨?_, fun j hj => ⟨Nat.le_trans hb (h.row j hj).1, (h.row j hj).2⟩, h.inj⟩
  obtain ⟨h0, h1⟩ := h.own
  refine ⟨h0, ?_⟩
  rcases h1 with h1 | ⟨g, cap, cur, rfl, hg1, r⟩
  · exact .inl h1
  · exact .inr ⟨g, cap, cur, rfl, by omega, r⟩
/-- one table more -/
theorem Rows3.push {w w' : World} {base l s n : Nat} {v v' u : Value} {V : Nat → Value} {R : Nat → Nat → Nat} {F : Nat → Nat → Nat → Int} {r : Nat → Nat} {f : Nat → Nat → Int} (h : Rows3 w base v l s n V R F) (hu : Rows2 w base u s n r f) (hnew : ∀ i j j', i < l → j < s → j' < s → R i j ≠ r j')
    (hown : w'.ownsRow base 30 1 v' (l + 1) ((List.range l).map V ++ [u])) (hg : w.grownBy w' v.ownBlock) :
    Rows3 w' base v' (l + 1) s n (fun i => if i = l then u else V i) (fun i => if i = l then r else R i) (fun i => if i = l then f else F i) := by
  refine ⟨?_, fun i hi => ?_, fun i i' j j' hi hi' hj hj' e => ?_⟩
  · have e1 : (List.range (l + 1)).map (fun i => if i = l then u else V i) = (List.range l).map V ++ [u] := by
      rw [List.range_succ, List.map_append]
      congr 1
      · refine List.map_congr_left fun j hj => ?_
        have := List.mem_range.1 hj
        rw [if_neg (by omega)]
      · simp
    rw [e1]
    exact hown
  · try dsimp only
    by_cases ei : i = l
    · rw [if_pos ei, if_pos ei, if_pos ei]
      exact hu.grown hg h.own
    · rw [if_neg ei, if_neg ei, if_neg ei]
      exact (h.tab i (by omega)).grown hg h.own
  · try dsimp only at e
    by_cases ei : i = l
    · by_cases ei' : i' = l
      · omega
      · rw [if_pos ei, if_neg ei'] at e
        exact absurd e.symm (hnew i' j' j (by omega) hj' hj)
    · by_cases ei' : i' = l
      · rw [if_neg ei, if_pos ei'] at e
        exact absurd e (hnew i j j' (by omega) hj hj')
      · rw [if_neg ei, if_neg ei'] at e
        exact h.inj i i' j j' (by omega) (by omega) hj hj' e
theorem ownsRow_far {w : World} {base n : Nat} {e : TypeId} {v : Value} {vs : List Value} {b k N : Nat} {f : Nat → Int} (h : w.ownsRow base e 1 v n vs) (hb : Row w b N f) (hne : e ≠ 3) (u : Value) : (w.setCell ⟨b, k, none⟩ u).ownsRow base e 1 v n vs := by
  obtain ⟨h0, h1⟩ := h
  refine ⟨h0, ?_⟩
  rcases h1 with h1 | ⟨g, cap, cur, rfl, hg1, hB, r⟩
  · exact .inl h1
  · obtain ⟨cs, c1, _, _⟩ := hb
    have hB' : Blk w g e cur := hB
    exact .inr ⟨g, cap, cur, rfl, hg1, hB'.far (p := ⟨b, k, none⟩) (Blk.ne_ hB' c1 hne) u, r⟩
/-- one number changed -/
theorem Rows3.set {w : World} {base l s n : Nat} {v : Value} {V : Nat → Value} {R : Nat → Nat → Nat} {F : Nat → Nat → Nat → Int} (h : Rows3 w base v l s n V R F) {i j k : Nat} (hi : i < l) (hj : j < s) (hk : k < n) (u : Int) :
    Rows3 (w.setCell ⟨R i j, k, none⟩ (.int .i64 u)) base v l s n V R (fun i' j' k' => if i' = i ∧ j' = j ∧ k' = k then u else F i' j' k') := by
  have hrow := ((h.tab i hi).row j hj).2
  refine ⟨ownsRow_far h.own hrow (by decide) _, fun i' hi' => ⟨ownsRow_far (h.tab i' hi').own hrow (by decide) _, fun j' hj' => ⟨((h.tab i' hi').row j' hj').1, ?_⟩, (h.tab i' hi').inj⟩, h.inj⟩
  have hr' := ((h.tab i' hi').row j' hj').2
  by_cases e : i' = i ∧ j' = j
  · obtain ⟨rfl, rfl⟩ := e
    refine (hr'.set_ hk u).congr fun k' _ => ?_
    by_cases ek : k' = k
    · rw [if_pos ek, if_pos ⟨rfl, rfl, ek⟩]
    · rw [if_neg ek, if_neg (fun h => ek h.2.2)]
  · refine (hr'.far (p := ⟨R i j, k, none⟩) (fun e2 => e ?_) _).congr fun k' _ => ?_
    · have e3 := h.inj i' i j' j hi' hi hj' hj e2
      subst e3
      exact ⟨rfl, (h.tab i' hi').inj j' j hj' hj e2⟩
    · rw [if_neg (fun h => e ⟨h.1, h.2.1⟩)]
theorem ownsRow_at {w : World} {base n : Nat} {e : TypeId} {v : Value} {vs : List Value} (h : w.ownsRow base e 1 v n vs) {i : Nat} (hi : i < n) : ∃ b c, v = .slice (some ⟨b, 0, none⟩) n c ∧ n ≤ c ∧ w.cell? ⟨b, i, none⟩ = vs[i]? := by
  rcases h.2 with ⟨rfl, h0⟩ | ⟨g, cap, cur, rfl, hg, hb, hn, hm, hs, hc⟩
  · omega
  · refine ⟨g, cap, rfl, hn, ?_⟩
    have hB : Blk w g e cur := hb
    rw [hB.cell, ← hc, List.getElem?_take, if_pos (by omega), Array.getElem?_toList]
theorem Rows3.at {w : World} {base l s n : Nat} {v : Value} {V : Nat → Value} {R : Nat → Nat → Nat} {F : Nat → Nat → Nat → Int} (h : Rows3 w base v l s n V R F) {i j : Nat} (hi : i < l) (hj : j < s) :
    ∃ a c b c2, v = .slice (some ⟨a, 0, none⟩) l c ∧ w.cell? ⟨a, i, none⟩ = some (.slice (some ⟨b, 0, none⟩) s c2) ∧ w.cell? ⟨b, j, none⟩ = some (.slice (some ⟨R i j, 0, none⟩) n n) := by
  obtain ⟨a, c, e1, _, e2⟩ := ownsRow_at h.own hi
  obtain ⟨b, c2, f1, _, f2⟩ := ownsRow_at (h.tab i hi).own hj
  refine ⟨a, c, b, c2, e1, ?_, ?_⟩
  · rw [e2, List.getElem?_map, List.getElem?_range hi, ← f1]; rfl
  · rw [f2, List.getElem?_map, List.getElem?_range hj]; rfl
theorem Rows3.rowIn {w : World} {base l s n : Nat} {v : Value} {V : Nat → Value} {R : Nat → Nat → Nat} {F : Nat → Nat → Nat → Int} (h : Rows3 w base v l s n V R F) {i j : Nat} (hi : i < l) (hj : j < s) (T : Nat → Int) (hT : ∀ k, k < n → F i j k = T k) : RowIn w v i j n T := by
  obtain ⟨a, c, b, c2, e1, e2, e3⟩ := h.at hi hj
  refine ⟨a, 0, l, c, b, 0, s, c2, R i j, 0, n, n, e1, hi, by rw [Nat.zero_add]; exact e2, hj, by rw [Nat.zero_add]; exact e3, Nat.le_refl _, fun k hk => ?_⟩
  rw [Nat.zero_add, ((h.tab i hi).row j hj).2.cell hk, hT k hk]
end Go.Proofs.Pet
