/-
  What LoomCarded keeps: two spools, chains of the call's own, rows of numbers apart.
-/
import Derived.Test.YtknokjnplbdmeaaC5
import Derived.Test.YtknokjnplbdmeaaO3
namespace Go.Proofs.Pet
open Go Go.RowKit Go.Maps Go.Shelf

/-- a spool whose bytes lie ahead of block B -/
def SpoolB (w : World) (b B k : Nat) : Prop :=
  B ≤ b ∧ ∃ A n c st, ∃ at_ : Nat, Blk w b 147 #[.slice A n c, .int .i64 (at_ : Int), .int .u64 st] ∧ n ≤ c ∧ c ≤ maxLen ∧ at_ ≤ k ∧ BytesAt w B A n
theorem SpoolB.at_ {w : World} {b B k : Nat} (h : SpoolB w b B k) : SpoolAt w b k := by
  obtain ⟨h0, A, n, c, st, a, h1, h2, h3, h4, h5⟩ := h
  refine ⟨A, n, c, st, a, h1, h2, h3, h4, fun j hj => ?_⟩
  obtain ⟨b', o, u, g1, g2, g3⟩ := h5 j hj
  exact ⟨b', o, u, g1, by omega, g3⟩
theorem SpoolB.ext {w w' : World} {b B k : Nat} (h : SpoolB w b B k) (he : Ext w w') : SpoolB w' b B k := by
  obtain ⟨h0, A, n, c, st, a, h1, h2, h3, h4, h5⟩ := h
  exact ⟨h0, A, n, c, st, a, h1.ext he, h2, h3, h4, h5.ext he⟩
/-- another block ahead of it turns -/
theorem SpoolB.apart {w w' : World} {b B g k : Nat} (h : SpoolB w b B k) (hg : B ≤ g) (hne : g ≠ b) (ha : Apart g w w') : SpoolB w' b B k := by
  obtain ⟨h0, A, n, c, st, a, h1, h2, h3, h4, h5⟩ := h
  refine ⟨h0, A, n, c, st, a, h1.apart (fun e => hne e.symm) ha, h2, h3, h4, fun j hj => ?_⟩
  obtain ⟨b', o, u, g1, g2, g3⟩ := h5 j hj
  refine ⟨b', o, u, g1, g2, ?_⟩
  have hlt := cell_lt g3
  unfold World.cell? at g3 ⊢
  rw [ha.block b' hlt (by omega)]
  exact g3
theorem woundB_any (v : Value) (w0 w : World) (hv : BytesIn w0 v) (h0 : Ext w0 w) :
    Calls Try.prog 38 #[v] w fun e w' => e = .returned (.pointer (some ⟨w.heap.size, 0, none⟩)) ∧ SpoolB w' w.heap.size w0.heap.size 0 ∧ Ext w w' := by
  obtain ⟨A, n, c, rfl, h2, h3, h4⟩ := hv
  have H4 := Lib.hid h4; have H0 := Lib.hid h0; clear h4 h0
  go_enter Try.func38, Try.ntmps38
  go_wp2_with fail
  go_ret
  refine ⟨rfl, ⟨H0.out.size, A, n, c, _, 0, Blk.new w 147 _, h2, h3, Nat.le_refl _, fun j hj => ?_⟩, Ext.alloc _ _⟩
  obtain ⟨b', o, u, e1, e2⟩ := H4.out j hj
  have hlt := cell_lt e2
  exact ⟨b', o, u, e1, hlt, (Ext.alloc w _).cell (H0.out.cell e2)⟩
/-! Chains of the call's own. -/
def ChOwn (w : World) (base : Nat) : List Value → List (List Int) → Prop
  | [], [] => True
  | a :: s :: k :: t :: cs, x :: xs => a = .int .i64 2 ∧ OwnI w base 3 s x ∧ k = .int .i64 0 ∧ t = .int .i64 0 ∧ ChOwn w base cs xs
  | _, _ => False
theorem ChOwn.map {w w' : World} {base : Nat} (f : ∀ u xs, OwnI w base 3 u xs → OwnI w' base 3 u xs) : ∀ {cs : List Value} {xs : List (List Int)}, ChOwn w base cs xs → ChOwn w' base cs xs
  | [], [], _ => trivial
  | _ :: _ :: _ :: _ :: _, _ :: _, ⟨h1, h2, h3, h4, h5⟩ => ⟨h1, f _ _ h2, h3, h4, h5.map f⟩
theorem ChOwn.append {w : World} {base : Nat} : ∀ {cs : List Value} {xs : List (List Int)} {ds : List Value} {ys : List (List Int)}, ChOwn w base cs xs → ChOwn w base ds ys → ChOwn w base (cs ++ ds) (xs ++ ys)
  | [], [], _, _, _, h => h
  | _ :: _ :: _ :: _ :: _, _ :: _, _, _, ⟨h1, h2, h3, h4, h5⟩, h => ⟨h1, h2, h3, h4, h5.append h⟩
theorem ChOwn.get {w : World} {base : Nat} : ∀ {cs : List Value} {xs : List (List Int)}, ChOwn w base cs xs → ∀ k, k < xs.length → ∃ s, cs[k * 4]? = some (.int .i64 2) ∧ cs[k * 4 + 1]? = some s ∧ cs[k * 4 + 2]? = some (.int .i64 0) ∧ cs[k * 4 + 3]? = some (.int .i64 0) ∧ OwnI w base 3 s (xs[k]?.getD [])
  | [], [], _, k, hk => by simp at hk
  | a :: s :: q :: t :: cs, x :: xs, ⟨h1, h2, h3, h4, h5⟩, k, hk => by
    subst h1; subst h3; subst h4
    rcases k with _ | k
    · exact ⟨s, rfl, rfl, rfl, rfl, h2⟩
    · have := ChOwn.get h5 k (by simpa using hk)
      have e1 : (k + 1) * 4 = k * 4 + 1 + 1 + 1 + 1 := by omega
      rw [e1]
      simpa using this
  | [], _ :: _, h, _, _ => by simp [ChOwn] at h
  | _ :: _, [], h, _, _ => by simp [ChOwn] at h
  | [_], _ :: _, h, _, _ => by simp [ChOwn] at h
  | [_, _], _ :: _, h, _, _ => by simp [ChOwn] at h
  | [_, _, _], _ :: _, h, _, _ => by simp [ChOwn] at h
def Chains (w : World) (base : Nat) (v : Value) (css : List (List Int)) : Prop := ∃ cs, w.ownsRow base 100 4 v css.length cs ∧ ChOwn w base cs css
theorem Chains.nil (w : World) (base : Nat) : Chains w base (.slice none 0 0) [] := ⟨[], World.ownsRow_nil _ _ _ _, trivial⟩
theorem Chains.ext {w w' : World} {base : Nat} {v : Value} {css : List (List Int)} (h : Chains w base v css) (he : Ext w w') : Chains w' base v css := by
  obtain ⟨cs, h1, h2⟩ := h
  exact ⟨cs, ownsRow_ext2 h1 he, h2.map fun _ _ g => g.ext he⟩
theorem Chains.apart {w W : World} {base b : Nat} {v : Value} {css : List (List Int)} (h : Chains w base v css) (hb : b < base) (ha : Apart b w W) : Chains W base v css := by
  obtain ⟨cs, h1, h2⟩ := h
  exact ⟨cs, ownsRow_apart h1 (fun e => by have := (ownsRow_own h1 b e).1; omega) ha, h2.map fun _ _ g => g.apartB hb ha⟩
/-- one of them, as it is read -/
theorem Chains.at_ {w : World} {base : Nat} {v : Value} {css : List (List Int)} (h : Chains w base v css) {k : Nat} (hk : k < css.length) :
    ∃ g c A cc, v = .slice (some ⟨g, 0, none⟩) css.length c ∧ w.cell? ⟨g, k * 4, none⟩ = some (.int .i64 2) ∧ w.cell? ⟨g, k * 4 + 1, none⟩ = some (.slice A (css[k]?.getD []).length cc) ∧ w.cell? ⟨g, k * 4 + 2, none⟩ = some (.int .i64 0) ∧ w.cell? ⟨g, k * 4 + 3, none⟩ = some (.int .i64 0) ∧
      ChainVal w (.agg #[.int .i64 2, .slice A (css[k]?.getD []).length cc, .int .i64 0, .int .i64 0]) (css[k]?.getD []) := by
  obtain ⟨cs, ⟨_, h1⟩, h2⟩ := h
  rcases h1 with ⟨_, h0⟩ | ⟨g, cap, cur, rfl, hg, hb, hn, hm, hs, hc⟩
  · omega
  · obtain ⟨s, q0, q1, q2, q3, q4⟩ := h2.get k hk
    obtain ⟨A, cc, rfl, r1, r2, r3, _⟩ := q4.open_
    have hcell := row_cell hb hc
    have h' : ∀ j u, cs[j]? = some u → w.cell? ⟨g, j, none⟩ = some u := fun j u e => by have := hcell j u e; rwa [Nat.zero_add] at this
    exact ⟨g, cap, A, cc, rfl, h' _ _ q0, h' _ _ q1, h' _ _ q2, h' _ _ q3, A, cc, r1, r2, rfl, r3⟩
/-- a chain being made at block Y -/
structure InS (w0 : World) (b Y : Nat) (xs : List Int) (k : Nat) (v : Value) (W : World) : Prop where
  ap : Apart b w0 W
  sp : SpoolAt W b k
  bm : Blk W Y 100 #[.int .i64 2, v, .int .i64 0, .int .i64 0]
  o1 : OwnI W (Y + 1) 3 v xs
  lt : b < w0.heap.size ∧ w0.heap.size ≤ Y
section
variable {w0 W W' : World} {b Y k k' : Nat} {xs : List Int} {v : Value}
theorem InS.turn (h : InS w0 b Y xs k v W) (ha : Apart b W W') (hs : SpoolAt W' b k') : InS w0 b Y xs k' v W' := by
  obtain ⟨h1, h2, h3, h4, g1, g2⟩ := h
  exact ⟨h1.trans ha, hs, h3.apart (by omega) ha, h4.apartB (by omega) ha, g1, g2⟩
theorem InS.ext (h : InS w0 b Y xs k v W) (he : Ext W W') : InS w0 b Y xs k v W' := h.turn (Apart.of_ext he) (h.sp.ext he)
theorem InS.push {v' : Value} {x : Int} (h : InS w0 b Y xs k v W) (hown : W'.ownsRow (Y + 1) 3 1 v' (xs.length + 1) (xs.map (Value.int .i64) ++ [.int .i64 x])) (hg : W.grownBy W' v.ownBlock) :
    W'.cell? ⟨Y, 1, none⟩ = some v ∧ W'.frozen? ⟨Y, 1, none⟩ = false ∧ InS w0 b Y (xs ++ [x]) k v' (W'.setCell ⟨Y, 1, none⟩ v') := by
  obtain ⟨h1, h2, h3, h4, g1, g2⟩ := h
  have hge : ∀ j, v.ownBlock = some j → Y + 1 ≤ j := fun j hj => (h4.own_lt j hj).1
  have hM := h3.grown hg (fun e => by have := hge Y e.symm; omega)
  have h2' := h2.grown hg (fun j hj => by have := hge j hj; omega)
  have hO : OwnI W' (Y + 1) 3 v' (xs ++ [x]) := by
    unfold OwnI; rw [List.length_append, List.map_append]; exact hown
  refine ⟨hM.c4.2.1, hM.frozen 1, ((h1.grown hg (fun j hj => by have := hge j hj; omega)).above (by show w0.heap.size ≤ Y; omega) _), h2'.apart (by omega : b < Y) ((Apart.refl Y W').set_ 1 v'), by simpa using hM.set_ 1 v', hO.far hM (by decide) 1 v', g1, g2⟩
end
theorem Chains.push {w w' : World} {base : Nat} {v v' s : Value} {cs : List Value} {css : List (List Int)} {x : List Int} (h1 : w.ownsRow base 100 4 v css.length cs) (h2 : ChOwn w base cs css) (hs : OwnI w base 3 s x)
    (hown : w'.ownsRow base 100 4 v' (css.length + 1) (cs ++ [.int .i64 2, s, .int .i64 0, .int .i64 0])) (hg : w.grownBy w' v.ownBlock) : Chains w' base v' (css ++ [x]) := by
  refine ⟨_, by rw [List.length_append]; exact hown, ?_⟩
  exact ChOwn.append (h2.map fun _ _ g => g.grownT (by decide) hg h1) ⟨rfl, hs.grownT (by decide) hg h1, rfl, rfl, trivial⟩
theorem info_chain : (Try.prog.info? 100).map (fun i => (i.zero, i.size, i.bytes)) = some (some (.agg #[.int .i64 0, .slice none 0 0, .int .i64 0, .int .i64 0]), 4, 48) := by kernel_rfl
/-! Orders, runs and numbers in rows apart. -/
/-- no list of looms lies in block g -/
def OffB (g : Nat) : List Value → List Ord → Prop
  | _ :: _ :: _ :: s :: cs, _ :: xs => s.ownBlock ≠ some g ∧ OffB g cs xs
  | _, _ => True
theorem OffB.append {g : Nat} {ds : List Value} {ys : List Ord} (h2 : OffB g ds ys) {w : World} {base : Nat} : ∀ {cs : List Value} {xs : List Ord}, OrdOwn w base cs xs → OffB g cs xs → OffB g (cs ++ ds) (xs ++ ys)
  | [], [], _, _ => h2
  | _ :: _ :: _ :: _ :: _, _ :: _, ⟨_, _, _, _, h⟩, ⟨h3, h4⟩ => ⟨h3, h2.append h h4⟩
theorem OrdOwn.offNew {w : World} {base : Nat} : ∀ {cs : List Value} {xs : List Ord}, OrdOwn w base cs xs → OffB w.heap.size cs xs
  | [], [], _ => trivial
  | _ :: _ :: _ :: _ :: _, _ :: _, ⟨_, _, _, h4, h5⟩ => ⟨fun e => by have := (h4.own_lt _ e).2; omega, h5.offNew⟩
theorem OrdOwn.grownI {w w' : World} {base base' n : Nat} {v : Value} {vs : List Value} (hg : w.grownBy w' v.ownBlock) (hv : w.ownsRow base' 3 1 v n vs) : ∀ {cs : List Value} {xs : List Ord}, OrdOwn w base cs xs → (∀ g, v.ownBlock = some g → OffB g cs xs) → OrdOwn w' base cs xs
  | [], [], _, _ => trivial
  | _ :: _ :: _ :: _ :: _, _ :: _, ⟨h1, h2, h3, h4, h5⟩, ho => ⟨h1, h2, h3, h4.grownI hg hv fun g e1 e2 => (ho g e2).1 e1, OrdOwn.grownI hg hv h5 fun g e => (ho g e).2⟩
/-- what is made of the second spool: orders in row vo of the mill at M, the run in row vr, chains in row vs -/
structure RnS (w0 : World) (b M B0 : Nat) (lac : Value) (os : List Ord) (oc : List Nat) (k : Nat) (vo vr vs : Value) (W : World) : Prop where
  ap : Apart b w0 W
  sp : SpoolAt W b k
  bm : Blk W M 25 #[lac, .int .i64 2, vo]
  oo : ∃ cs, W.ownsRow B0 78 4 vo os.length cs ∧ OrdOwn W B0 cs os ∧ (∀ g, vr.ownBlock = some g → OffB g cs os) ∧ (∀ g, vs.ownBlock = some g → OffB g cs os)
  rr : OwnI W B0 3 vr (ints (List.range oc.length))
  ss : OwnI W B0 3 vs (ints oc)
  ne : ∀ g, vr.ownBlock = some g → vs.ownBlock ≠ some g
  lt : b < w0.heap.size ∧ w0.heap.size ≤ M ∧ M < B0
section
variable {w0 W W' : World} {b M B0 k k' : Nat} {lac : Value} {os : List Ord} {oc : List Nat} {vo vr vs : Value}
theorem RnS.turn (h : RnS w0 b M B0 lac os oc k vo vr vs W) (ha : Apart b W W') (hs : SpoolAt W' b k') : RnS w0 b M B0 lac os oc k' vo vr vs W' := by
  obtain ⟨h1, h2, h3, ⟨cs, o1, o2, o3, o4⟩, h5, h6, h7, g1, g2, g3⟩ := h
  exact ⟨h1.trans ha, hs, h3.apart (by omega) ha, ⟨cs, ownsRow_apart o1 (fun e => by have := (ownsRow_own o1 b e).1; omega) ha, o2.map fun _ _ g => g.apartB (by omega) ha, o3, o4⟩, h5.apartB (by omega) ha, h6.apartB (by omega) ha, h7, g1, g2, g3⟩
theorem RnS.ext (h : RnS w0 b M B0 lac os oc k vo vr vs W) (he : Ext W W') : RnS w0 b M B0 lac os oc k vo vr vs W' := h.turn (Apart.of_ext he) (h.sp.ext he)
/-- an order more -/
theorem RnS.pushO {vo' s : Value} {cs : List Value} {x : Ord} (h : RnS w0 b M B0 lac os oc k vo vr vs W) (o1 : W.ownsRow B0 78 4 vo os.length cs) (o2 : OrdOwn W B0 cs os)
    (o3 : ∀ g, vr.ownBlock = some g → OffB g cs os) (o4 : ∀ g, vs.ownBlock = some g → OffB g cs os) (hs : OwnI W B0 3 s x.on) (n1 : ∀ g, vr.ownBlock = some g → s.ownBlock ≠ some g) (n2 : ∀ g, vs.ownBlock = some g → s.ownBlock ≠ some g)
    (hown : W'.ownsRow B0 78 4 vo' (os.length + 1) (cs ++ [.int .i64 x.pattern, .int .i64 x.days, .int .i64 x.by_, s])) (hg : W.grownBy W' vo.ownBlock) :
    W'.cell? ⟨M, 2, none⟩ = some vo ∧ W'.frozen? ⟨M, 2, none⟩ = false ∧ RnS w0 b M B0 lac (os ++ [x]) oc k vo' vr vs (W'.setCell ⟨M, 2, none⟩ vo') := by
  obtain ⟨h1, h2, h3, _, h5, h6, h7, g1, g2, g3⟩ := h
  have hge : ∀ j, vo.ownBlock = some j → B0 ≤ j := fun j hj => (ownsRow_own o1 j hj).1
  have hM := h3.grown hg (fun e => by have := hge M e.symm; omega)
  have h2' := h2.grown hg (fun j hj => by have := hge j hj; omega)
  refine ⟨hM.c3.2.2, hM.frozen 2, (h1.grown hg (fun j hj => by have := hge j hj; omega)).above (by show w0.heap.size ≤ M; omega) _, h2'.apart (by omega : b < M) ((Apart.refl M W').set_ 2 vo'), by simpa using hM.set_ 2 vo', ⟨cs ++ [.int .i64 x.pattern, .int .i64 x.days, .int .i64 x.by_, s], ?_, ?_, ?_, ?_⟩, (h5.grownT (by decide) hg o1).far hM (by decide) 2 vo', (h6.grownT (by decide) hg o1).far hM (by decide) 2 vo', h7, g1, g2, g3⟩
  · rw [List.length_append]
    exact ownsRow_apart hown (fun e => by have := (ownsRow_own hown M e).1; omega) ((Apart.refl M W').set_ 2 vo')
  · exact OrdOwn.append (o2.map fun _ _ g => (g.grownT (by decide) hg o1).far hM (by decide) 2 vo') ⟨rfl, rfl, rfl, (hs.grownT (by decide) hg o1).far hM (by decide) 2 vo', trivial⟩
  · exact fun g e => OffB.append (ds := [.int .i64 x.pattern, .int .i64 x.days, .int .i64 x.by_, s]) (ys := [x]) ⟨n1 g e, trivial⟩ o2 (o3 g e)
  · exact fun g e => OffB.append (ds := [.int .i64 x.pattern, .int .i64 x.days, .int .i64 x.by_, s]) (ys := [x]) ⟨n2 g e, trivial⟩ o2 (o4 g e)
theorem ints_len2 (l : List Nat) : (ints l).length = l.length := by unfold ints; simp
theorem RnS.rowR (h : RnS w0 b M B0 lac os oc k vo vr vs W) : W.ownsRow B0 3 1 vr oc.length ((ints (List.range oc.length)).map (Value.int .i64)) := by
  have := h.rr
  unfold OwnI at this
  rwa [ints_len2, List.length_range] at this
theorem RnS.rowS (h : RnS w0 b M B0 lac os oc k vo vr vs W) : W.ownsRow B0 3 1 vs oc.length ((ints oc).map (Value.int .i64)) := by
  have := h.ss
  unfold OwnI at this
  rwa [ints_len2] at this
theorem RnS.slices (h : RnS w0 b M B0 lac os oc k vo vr vs W) : ∃ A c B d, vr = .slice A oc.length c ∧ vs = .slice B oc.length d := by
  obtain ⟨A, c, e1⟩ := ownsRow_slice h.rowR
  obtain ⟨B, d, e2⟩ := ownsRow_slice h.rowS
  exact ⟨A, c, B, d, e1, e2⟩
/-- both lists go on -/
theorem RnS.pushR {vr' vs' : Value} {W2 W3 : World} {c : Nat} (h : RnS w0 b M B0 lac os oc k vo vr vs W) (hown : W'.ownsRow B0 3 1 vr' (oc.length + 1) ((ints (List.range oc.length)).map (Value.int .i64) ++ [.int .i64 (oc.length : Int)])) (hg : W.grownBy W' vr.ownBlock) (hb : vr'.ownBlock = vr.ownBlock ∨ vr'.ownBlock = some W.heap.size)
    (he : Ext W' W2) (hown2 : W3.ownsRow B0 3 1 vs' (oc.length + 1) ((ints oc).map (Value.int .i64) ++ [.int .i64 (c : Int)])) (hg2 : W2.grownBy W3 vs.ownBlock) (hb2 : vs'.ownBlock = vs.ownBlock ∨ vs'.ownBlock = some W2.heap.size) : RnS w0 b M B0 lac os (oc ++ [c]) k vo vr' vs' W3 := by
  obtain ⟨h1, h2, h3, ⟨cs, o1, o2, o3, o4⟩, h5, h6, h7, g1, g2, g3⟩ := h
  have hlen : (ints (List.range oc.length)).length = oc.length := by unfold ints; simp
  have hlen2 : (ints oc).length = oc.length := by unfold ints; simp
  have r1 : W.ownsRow B0 3 1 vr (ints (List.range oc.length)).length ((ints (List.range oc.length)).map (Value.int .i64)) := h5
  have hge : ∀ j, vr.ownBlock = some j → B0 ≤ j := fun j hj => (h5.own_lt j hj).1
  -- behind the first
  have p1 := h1.grown hg (fun j hj => by have := hge j hj; omega)
  have p2 := h2.grown hg (fun j hj => by have := hge j hj; omega)
  have p3 := h3.grown hg (fun e => by have := hge M e.symm; omega)
  have q1 : W'.ownsRow B0 78 4 vo os.length cs := by
    refine ⟨o1.1, ?_⟩
    rcases o1.2 with hn | ⟨g, cap, c2, rfl, hg', hb', r⟩
    · exact .inl hn
    · exact .inr ⟨g, cap, c2, rfl, hg', (Blk.grown (show Blk W g 78 c2 from hb') hg (fun e => ownsRow_ne_blk r1 (show Blk W g 78 c2 from hb') (by decide) e)), r⟩
  have q2 := OrdOwn.grownI hg r1 o2 o3
  have q5 : OwnI W' B0 3 vr' (ints (List.range (oc.length + 1))) := by
    unfold OwnI
    have e : ints (List.range (oc.length + 1)) = ints (List.range oc.length) ++ [(oc.length : Int)] := by unfold ints; rw [List.range_succ, List.map_append]; rfl
    rw [e, List.length_append, List.map_append, hlen]; exact hown
  have q6 : OwnI W' B0 3 vs (ints oc) := h6.grownI hg r1 fun g e1 e2 => h7 g e2 e1
  have q3 : ∀ g, vr'.ownBlock = some g → OffB g cs os := fun g e => by
    rcases hb with hb | hb
    · exact o3 g (by rw [← hb]; exact e)
    · rw [hb] at e; cases e; exact o2.offNew
  have q7 : ∀ g, vr'.ownBlock = some g → vs.ownBlock ≠ some g := fun g e => by
    rcases hb with hb | hb
    · exact h7 g (by rw [← hb]; exact e)
    · rw [hb] at e; cases e
      exact fun e2 => by have := (h6.own_lt _ e2).2; omega
  -- the second
  have r2 : W2.ownsRow B0 3 1 vs (ints oc).length ((ints oc).map (Value.int .i64)) := ownsRow_ext2 q6 he
  have hge2 : ∀ j, vs.ownBlock = some j → B0 ≤ j := fun j hj => (h6.own_lt j hj).1
  have q1e := ownsRow_ext2 q1 he
  have q2e : OrdOwn W2 B0 cs os := q2.map fun _ _ g => g.ext he
  refine ⟨(p1.trans (Apart.of_ext he)).grown hg2 (fun j hj => by have := hge2 j hj; omega), (p2.ext he).grown hg2 (fun j hj => by have := hge2 j hj; omega), (p3.ext he).grown hg2 (fun e => by have := hge2 M e.symm; omega), ⟨cs, ⟨q1e.1, ?_⟩, OrdOwn.grownI hg2 r2 q2e o4, q3, fun g e => ?_⟩, ?_, ?_, fun g e => ?_, g1, g2, g3⟩
  · rcases q1e.2 with hn | ⟨g, cap, c2, rfl, hg', hb', r⟩
    · exact .inl hn
    · exact .inr ⟨g, cap, c2, rfl, hg', (Blk.grown (show Blk W2 g 78 c2 from hb') hg2 (fun e => ownsRow_ne_blk r2 (show Blk W2 g 78 c2 from hb') (by decide) e)), r⟩
  · rcases hb2 with hb2 | hb2
    · exact o4 g (by rw [← hb2]; exact e)
    · rw [hb2] at e; cases e; exact q2e.offNew
  · rw [List.length_append]
    exact (q5.ext he).grownI hg2 r2 fun g e1 e2 => q7 g e1 e2
  · unfold OwnI
    have e : ints (oc ++ [c]) = ints oc ++ [(c : Int)] := by unfold ints; rw [List.map_append]; rfl
    rw [e, List.length_append, List.map_append, hlen2]; exact hown2
  · rcases hb2 with hb2 | hb2
    · rw [hb2]; exact q7 g e
    · rw [hb2]
      intro e2
      injection e2 with e2
      have := (q5.ext he).own_lt g e
      omega
end
end Go.Proofs.Pet
