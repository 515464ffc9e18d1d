/- Joined texts: TCN, TCO, TCP, TCQ, TCR. -/
import Derived.Test.YtnapmppdjlnbdaaJ08
import Derived.Test.YtnapmppdjlnbdaaJ04
namespace Go.Proofs.Pet
set_option linter.unusedSimpArgs false
open Go Go.RowKit Go.Maps Go.Shelf
open Go.Proofs.Clk (Cl Rd Gp Att foundL atD loF hiF)

def flatG {α : Type} (enc : α → List Value) : List α → List Value
  | [] => []
  | x :: l => enc x ++ flatG enc l
theorem flatG_append {α : Type} (enc : α → List Value) : ∀ l k : List α, flatG enc (l ++ k) = flatG enc l ++ flatG enc k
  | [], _ => rfl
  | x :: l, k => by rw [List.cons_append, flatG, flatG, flatG_append enc l k, List.append_assoc]
theorem flatG_one {α : Type} (enc : α → List Value) (x : α) : flatG enc [x] = enc x := by show enc x ++ [] = _; rw [List.append_nil]
theorem flatG_len {α : Type} {enc : α → List Value} {s : Nat} (he : ∀ x, (enc x).length = s) : ∀ l : List α, (flatG enc l).length = l.length * s
  | [] => by simp [flatG]
  | x :: l => by rw [flatG, List.length_append, flatG_len he l, he, List.length_cons, Nat.add_mul, Nat.one_mul, Nat.add_comm]
theorem flatG_at {α : Type} {enc : α → List Value} {s : Nat} (he : ∀ x, (enc x).length = s) : ∀ (l : List α) (i j : Nat) (x : α), l[i]? = some x → j < s → (flatG enc l)[i * s + j]? = (enc x)[j]?
  | y :: l, 0, j, x, h, hj => by
    rw [List.getElem?_cons_zero] at h
    cases h
    rw [flatG, Nat.zero_mul, Nat.zero_add, List.getElem?_append_left (by rw [he]; exact hj)]
  | y :: l, i + 1, j, x, h, hj => by
    rw [List.getElem?_cons_succ] at h
    rw [flatG, List.getElem?_append_right (by rw [he, Nat.add_mul, Nat.one_mul]; omega), he, show (i + 1) * s + j - s = i * s + j by rw [Nat.add_mul, Nat.one_mul]; omega]
    exact flatG_at he l i j x h hj
/-- elements that lie one behind the other -/
def AtG {α : Type} (enc : α → List Value) (s : Nat) (w : World) (A : Option Addr) (xs : List α) : Prop := ∀ k x, xs[k]? = some x → ∃ b o, A = some ⟨b, o, none⟩ ∧ ∀ j, j < s → w.cell? ⟨b, o + k * s + j, none⟩ = (enc x)[j]?
theorem AtG.src {α : Type} {enc : α → List Value} {s : Nat} (hs : 0 < s) (he : ∀ x, (enc x).length = s) {w : World} {A : Option Addr} {xs : List α} (h : AtG enc s w A xs) : Src w A (flatG enc xs) := by
  cases xs with
  | nil => exact .inl rfl
  | cons y l =>
    obtain ⟨b, o, rfl, _⟩ := h 0 y rfl
    refine .inr ⟨_, rfl, fun j u hu => ?_⟩
    have hj : j < (y :: l).length * s := by
      rw [← flatG_len he]
      exact (List.getElem?_eq_some_iff.1 hu).1
    have hd : j / s < (y :: l).length := by rw [Nat.div_lt_iff_lt_mul hs]; exact hj
    have hm : j % s < s := Nat.mod_lt _ hs
    obtain ⟨b', o', e, hc⟩ := h (j / s) ((y :: l)[j / s]'hd) (List.getElem?_eq_getElem hd)
    cases e
    have e1 : (⟨b, o, none⟩ : Addr).add j = ⟨b, o + j, none⟩ := by rw [addr_add]
    have e2 : j / s * s + j % s = j := Nat.div_add_mod' j s
    have := hc (j % s) hm
    rw [← flatG_at he _ _ _ _ (List.getElem?_eq_getElem hd) hm, Nat.add_assoc, e2, hu] at this
    rw [e1, this]
theorem AtG.own {α : Type} {enc : α → List Value} {s : Nat} (he : ∀ x, (enc x).length = s) {w : World} {base n c : Nat} {e : TypeId} {A : Option Addr} {xs : List α} (h : w.ownsRow base e s (.slice A n c) n (flatG enc xs)) (hn : xs.length = n) : AtG enc s w A xs := by
  intro k x hx
  have hk : k < n := by rw [← hn]; exact (List.getElem?_eq_some_iff.1 hx).1
  rcases h.2 with ⟨e, h0⟩ | ⟨g, cap, cur, e, _⟩
  · omega
  · cases e
    refine ⟨g, 0, rfl, fun j hj => ?_⟩
    have hlt : k * s + j < n * s := by
      have : (k + 1) * s ≤ n * s := Nat.mul_le_mul_right _ hk
      rw [Nat.add_mul, Nat.one_mul] at this
      omega
    rw [Nat.zero_add, World.ownsRow.cellAt h _ hlt, flatG_at he xs k j x hx hj]
def encCl (x : Cl) : List Value := [.int .i64 x.sl, .int .i64 x.sh, .int .i64 x.gl, .int .i64 x.gh]
theorem ClsAt.g {w : World} {A : Option Addr} {xs : List Cl} (h : ClsAt w A xs) : AtG encCl 4 w A xs := by
  intro k x hx
  obtain ⟨hk, e⟩ := List.getElem?_eq_some_iff.1 hx
  obtain ⟨b, o, rfl, hc⟩ := h k hk
  have hd : xs[k]?.getD default = x := by rw [hx]; rfl
  rw [hd] at hc
  unfold ClCells at hc
  refine ⟨b, o, rfl, fun j hj => ?_⟩
  match j, hj with
  | 0, _ => exact hc.1
  | 1, _ => exact hc.2.1
  | 2, _ => exact hc.2.2.1
  | 3, _ => exact hc.2.2.2
theorem ClsAt.of {w : World} {A : Option Addr} {xs : List Cl} (h : AtG encCl 4 w A xs) : ClsAt w A xs := by
  intro k hk
  obtain ⟨b, o, e, hc⟩ := h k (xs[k]'hk) (List.getElem?_eq_getElem hk)
  have hd : xs[k]?.getD default = xs[k]'hk := by rw [List.getElem?_eq_getElem hk]; rfl
  rw [hd]
  exact ⟨b, o, e, hc 0 (by decide), hc 1 (by decide), hc 2 (by decide), hc 3 (by decide)⟩
def encRd (x : Rd) : List Value := [.int .i64 x.clock, .int .i64 x.event, .int .i64 x.shows]
theorem RdsAt.g {w : World} {A : Option Addr} {xs : List Rd} (h : RdsAt w A xs) : AtG encRd 3 w A xs := by
  intro k x hx
  obtain ⟨hk, e⟩ := List.getElem?_eq_some_iff.1 hx
  obtain ⟨b, o, rfl, hc⟩ := h k hk
  have hd : xs[k]?.getD default = x := by rw [hx]; rfl
  rw [hd] at hc
  unfold RdCells at hc
  refine ⟨b, o, rfl, fun j hj => ?_⟩
  match j, hj with
  | 0, _ => exact hc.1
  | 1, _ => exact hc.2.1
  | 2, _ => exact hc.2.2
theorem RdsAt.of {w : World} {A : Option Addr} {xs : List Rd} (h : AtG encRd 3 w A xs) : RdsAt w A xs := by
  intro k hk
  obtain ⟨b, o, e, hc⟩ := h k (xs[k]'hk) (List.getElem?_eq_getElem hk)
  have hd : xs[k]?.getD default = xs[k]'hk := by rw [List.getElem?_eq_getElem hk]; rfl
  rw [hd]
  exact ⟨b, o, e, hc 0 (by decide), hc 1 (by decide), hc 2 (by decide)⟩
def encGp (x : Gp) : List Value := [.int .i64 x.src, .int .i64 x.dst, .int .i64 x.lo, .int .i64 x.hi]
theorem GpsAt.g {w : World} {A : Option Addr} {xs : List Gp} (h : GpsAt w A xs) : AtG encGp 4 w A xs := by
  intro k x hx
  obtain ⟨hk, e⟩ := List.getElem?_eq_some_iff.1 hx
  obtain ⟨b, o, rfl, hc⟩ := h k hk
  have hd : xs[k]?.getD default = x := by rw [hx]; rfl
  rw [hd] at hc
  unfold GpCells at hc
  refine ⟨b, o, rfl, fun j hj => ?_⟩
  match j, hj with
  | 0, _ => exact hc.1
  | 1, _ => exact hc.2.1
  | 2, _ => exact hc.2.2.1
  | 3, _ => exact hc.2.2.2
theorem GpsAt.of {w : World} {A : Option Addr} {xs : List Gp} (h : AtG encGp 4 w A xs) : GpsAt w A xs := by
  intro k hk
  obtain ⟨b, o, e, hc⟩ := h k (xs[k]'hk) (List.getElem?_eq_getElem hk)
  have hd : xs[k]?.getD default = xs[k]'hk := by rw [List.getElem?_eq_getElem hk]; rfl
  rw [hd]
  exact ⟨b, o, e, hc 0 (by decide), hc 1 (by decide), hc 2 (by decide), hc 3 (by decide)⟩

/-- an attic in rows of the call's own -/
structure AttO (w : World) (base : Nat) (cv rv gv : Value) (a : Att) : Prop where
  cl : w.ownsRow base 64 4 cv a.clocks.length (flatG encCl a.clocks)
  rd : w.ownsRow base 66 3 rv a.reads.length (flatG encRd a.reads)
  gp : w.ownsRow base 58 4 gv a.gaps.length (flatG encGp a.gaps)
theorem AttO.ext {w w' : World} {base : Nat} {cv rv gv : Value} {a : Att} (h : AttO w base cv rv gv a) (he : Ext w w') : AttO w' base cv rv gv a := ⟨ownsRow_ext2 h.cl he, ownsRow_ext2 h.rd he, ownsRow_ext2 h.gp he⟩
theorem ownsRow_cap {w : World} {base size n c : Nat} {e : TypeId} {A : Option Addr} {xs : List Value} (h : w.ownsRow base e size (.slice A n c) n xs) : n ≤ c ∧ c ≤ maxLen := by
  rcases h.2 with ⟨e, h0⟩ | ⟨g, cap, cur, e, _, _, h1, h2, _⟩
  · cases e; exact ⟨Nat.le_refl _, Nat.zero_le _⟩
  · cases e; exact ⟨h1, h2⟩
theorem AttO.val {w : World} {base : Nat} {cv rv gv : Value} {a : Att} (h : AttO w base cv rv gv a) : AttVal w (.agg #[.int .i64 a.minutes, .int .i64 a.events, cv, rv, gv]) a := by
  obtain ⟨h1, h2, h3⟩ := h
  obtain ⟨A1, c1, rfl⟩ := ownsRow_slice h1
  obtain ⟨A2, c2, rfl⟩ := ownsRow_slice h2
  obtain ⟨A3, c3, rfl⟩ := ownsRow_slice h3
  exact ⟨A1, c1, A2, c2, A3, c3, rfl, ownsRow_cap h1, ownsRow_cap h2, ownsRow_cap h3, ClsAt.of (AtG.own (s := 4) (enc := encCl) (fun _ => rfl) h1 rfl), RdsAt.of (AtG.own (s := 3) (enc := encRd) (fun _ => rfl) h2 rfl), GpsAt.of (AtG.own (s := 4) (enc := encGp) (fun _ => rfl) h3 rfl)⟩
theorem ownsRow_setFar {w : World} {base size n b : Nat} {e t : TypeId} {v : Value} {xs : List Value} {cs : Array Value} (h : w.ownsRow base e size v n xs) (hb : Blk w b t cs) (hne : t ≠ e) (i : Nat) (u : Value) : (w.setCell ⟨b, i, none⟩ u).ownsRow base e size v n xs := by
  obtain ⟨h1, h2⟩ := h
  refine ⟨h1, ?_⟩
  rcases h2 with h2 | ⟨g, cap, cur, rfl, hb', hg', r⟩
  · exact .inl h2
  · refine .inr ⟨g, cap, cur, rfl, hb', Blk.far (p := ⟨b, i, none⟩) hg' (fun e => ?_) u, r⟩
    have e' : g = b := e
    subst e'
    unfold Blk at hb
    rw [hg'] at hb
    cases hb
    exact hne rfl
theorem AttO.far {w : World} {base b : Nat} {t : TypeId} {cs : Array Value} {cv rv gv : Value} {a : Att} (h : AttO w base cv rv gv a) (hb : Blk w b t cs) (h1 : t ≠ 64) (h2 : t ≠ 66) (h3 : t ≠ 58) (i : Nat) (u : Value) : AttO (w.setCell ⟨b, i, none⟩ u) base cv rv gv a :=
  ⟨ownsRow_setFar h.cl hb h1 i u, ownsRow_setFar h.rd hb h2 i u, ownsRow_setFar h.gp hb h3 i u⟩
/-- a row of another type stays where another one grows -/
theorem ownsRow_grownT {w w' : World} {base base' size size' n n' : Nat} {e e' : TypeId} {u v : Value} {xs ys : List Value} (h : w.ownsRow base e size u n xs) (hne : e ≠ e') (hg : w.grownBy w' v.ownBlock) (hv : w.ownsRow base' e' size' v n' ys) : w'.ownsRow base e size u n xs := by
  obtain ⟨h1, h2⟩ := h
  refine ⟨h1, ?_⟩
  rcases h2 with h2 | ⟨g, cap, cur, rfl, hb, hg', r⟩
  · exact .inl h2
  · exact .inr ⟨g, cap, cur, rfl, hb, Blk.grown hg' hg (ownsRow_ne_blk hv hg' hne), r⟩
theorem AttO.pushG {w w' : World} {base b' : Nat} {cv rv gv v' : Value} {a : Att} {g : Gp} (h : AttO w base cv rv gv a) (hown : w'.ownsRow b' 58 4 v' (a.gaps.length + 1) (flatG encGp a.gaps ++ encGp g)) (hb : base ≤ b') (hg : w.grownBy w' gv.ownBlock) : AttO w' base cv rv v' (a.more g) := by
  refine ⟨ownsRow_grownT h.cl (by decide) hg h.gp, ownsRow_grownT h.rd (by decide) hg h.gp, ?_⟩
  show w'.ownsRow base 58 4 v' (a.gaps ++ [g]).length (flatG encGp (a.gaps ++ [g]))
  rw [flatG_append, flatG_one, List.length_append, List.length_singleton]
  exact ownsRow_mono hown hb
section
variable {P : Program}
/-- copy, at elements of any size -/
theorem run_copy_rowS (w : World) (dT sT ty elem : TypeId) (g o dLen dCap : Nat) (a : Addr) (sLen sCap sz : Nat) (cur : Array Value) (t : TypeId) (cs : List Value)
    (hu : P.underlying dT = some (.slice elem)) (hs : (P.info? elem).map (·.size) = some sz)
    (hg : w.heap[g]? = some (.cells cur t (0, 0))) (hn : cs.length = Nat.min sLen dLen * sz)
    (hsrc : ∀ j v, cs[j]? = some v → w.cell? (a.add j) = some v) (hfit : o + cs.length ≤ cur.size) (h1 : ∀ v ∈ cs, v.oneCell' = true) :
    (Builtin.copy_ #[dT, sT] ty #[.slice (some ⟨g, o, none⟩) dLen dCap, .slice (some a) sLen sCap]).run P w =
      .ok (goInt (Nat.min sLen dLen)) (w.setRow g (cur.toList.take o ++ cs ++ cur.toList.drop (o + cs.length)).toArray) := by
  have hl := run_loadCells_list (P := P) w a cs hsrc
  have hst := run_storeCells_at P g o t cs 0 cur w hg (by simpa using hfit) h1
  cases hq : P.info? elem with
  | none => simp [hq] at hs
  | some i =>
    have hi : i.size = sz := by simpa [hq] using hs
    rw [hn] at hl
    simp [Builtin.copy_, run_underlying hu, Builtin.lenOf, Builtin.firstCells, sizeOf, typeInfo, hq, hi, hl, hst]
theorem run_copy_noneS (w : World) (dT sT ty elem : TypeId) (d a : Option Addr) (dLen dCap sLen sCap sz : Nat) (hu : P.underlying dT = some (.slice elem)) (hs : (P.info? elem).map (·.size) = some sz) (hn : Nat.min sLen dLen = 0) :
    (Builtin.copy_ #[dT, sT] ty #[.slice d dLen dCap, .slice a sLen sCap]).run P w = .ok (goInt 0) w := by
  cases hq : P.info? elem with
  | none => simp [hq] at hs
  | some i =>
    have hl : ∀ (x : Addr), (loadCells x 0).run P w = .ok #[] w := fun x => by simpa using run_loadCells_list (P := P) w x [] (by simp)
    cases d <;> cases a <;> simp [Builtin.copy_, run_underlying hu, Builtin.lenOf, Builtin.firstCells, sizeOf, typeInfo, hq, hn, storeCells, hl]
end
theorem flat_one {α : Type} {enc : α → List Value} (h : ∀ x, ∀ u ∈ enc x, u.oneCell' = true) : ∀ l : List α, ∀ u ∈ flatG enc l, u.oneCell' = true
  | x :: l, u, hu => by
    rw [flatG] at hu
    rcases List.mem_append.1 hu with h1 | h1
    · exact h x u h1
    · exact flat_one h l u h1
theorem oneCl (x : Cl) : ∀ u ∈ encCl x, u.oneCell' = true := by
  intro u hu; unfold encCl at hu; simp only [List.mem_cons, List.not_mem_nil, or_false] at hu; rcases hu with rfl | rfl | rfl | rfl <;> rfl
theorem oneRd (x : Rd) : ∀ u ∈ encRd x, u.oneCell' = true := by
  intro u hu; unfold encRd at hu; simp only [List.mem_cons, List.not_mem_nil, or_false] at hu; rcases hu with rfl | rfl | rfl <;> rfl
theorem oneGp (x : Gp) : ∀ u ∈ encGp x, u.oneCell' = true := by
  intro u hu; unfold encGp at hu; simp only [List.mem_cons, List.not_mem_nil, or_false] at hu; rcases hu with rfl | rfl | rfl | rfl <;> rfl
theorem info_rd : (Try.prog.info? 66).map (fun i => (i.zero, i.size, i.bytes)) = some (some (.agg #[.int .i64 0, .int .i64 0, .int .i64 0]), 3, 24) := by kernel_rfl
theorem info_rds : (Try.prog.info? 66).map (·.size) = some 3 := by kernel_rfl
set_option maxRecDepth 20000 in
set_option maxHeartbeats 4000000 in
theorem copied_any (v : Value) (a : Att) (hok : AttOk a) (w : World) (hv : AttVal w v a) :
    Calls Try.prog 29 #[v] w fun e w' => ∃ cv rv gv, e = .returned (.agg #[.int .i64 a.minutes, .int .i64 a.events, cv, rv, gv]) ∧ AttO w' w.heap.size cv rv gv a ∧ Ext w w' := by
  obtain ⟨i, hi, hz0, hz1, hz2⟩ := info_parts info_rd
  obtain ⟨A1, c1, A2, c2, A3, c3, rfl, -, -, -, h5, h6, h7⟩ := hv
  have hncl := hok.ncl; have hnrd := hok.nrd; have hngp := hok.ngp
  have hX := (Ext.alloc w (.cells #[.int .i64 a.minutes, .int .i64 a.events, .slice A1 a.clocks.length c1, .slice A2 a.reads.length c2, .slice A3 a.gaps.length c3] 27)).trans (Ext.alloc _ (.cells #[.int .i64 0, .int .i64 0, .slice none 0 0, .slice none 0 0, .slice none 0 0] 27))
  have hX2 := hX.trans (Ext.alloc _ (.cells #[.int .i64 a.minutes, .int .i64 a.events, .slice A1 a.clocks.length c1, .slice A2 a.reads.length c2, .slice A3 a.gaps.length c3] 27))
  have hP := ((Blk.new w 27 #[.int .i64 a.minutes, .int .i64 a.events, .slice A1 a.clocks.length c1, .slice A2 a.reads.length c2, .slice A3 a.gaps.length c3]).alloc (.cells #[.int .i64 0, .int .i64 0, .slice none 0 0, .slice none 0 0, .slice none 0 0] 27)).alloc (.cells #[.int .i64 a.minutes, .int .i64 a.events, .slice A1 a.clocks.length c1, .slice A2 a.reads.length c2, .slice A3 a.gaps.length c3] 27)
  have hR := (Blk.new (w.alloc (.cells #[.int .i64 a.minutes, .int .i64 a.events, .slice A1 a.clocks.length c1, .slice A2 a.reads.length c2, .slice A3 a.gaps.length c3] 27)) 27 #[.int .i64 0, .int .i64 0, .slice none 0 0, .slice none 0 0, .slice none 0 0]).alloc (.cells #[.int .i64 a.minutes, .int .i64 a.events, .slice A1 a.clocks.length c1, .slice A2 a.reads.length c2, .slice A3 a.gaps.length c3] 27)
  have hO := Blk.new ((w.alloc (.cells #[.int .i64 a.minutes, .int .i64 a.events, .slice A1 a.clocks.length c1, .slice A2 a.reads.length c2, .slice A3 a.gaps.length c3] 27)).alloc (.cells #[.int .i64 0, .int .i64 0, .slice none 0 0, .slice none 0 0, .slice none 0 0] 27)) 27 #[.int .i64 a.minutes, .int .i64 a.events, .slice A1 a.clocks.length c1, .slice A2 a.reads.length c2, .slice A3 a.gaps.length c3]
  simp only [World.size_alloc] at hR hO
  obtain ⟨p0, p1, p2, p3, p4⟩ := (Blk.new w 27 #[.int .i64 a.minutes, .int .i64 a.events, .slice A1 a.clocks.length c1, .slice A2 a.reads.length c2, .slice A3 a.gaps.length c3]).alloc (.cells #[.int .i64 0, .int .i64 0, .slice none 0 0, .slice none 0 0, .slice none 0 0] 27) |>.c5
  have H5 := Lib.hid h5; have H6 := Lib.hid h6; have H7 := Lib.hid h7; have Hok := Lib.hid hok
  have HE := Lib.hid hX2; have HP := Lib.hid hP; have HR := Lib.hid hR; have HO := Lib.hid hO
  clear h5 h6 h7 hok hX hX2 hP hR hO
  go_enter Try.func29, Try.ntmps29
  go_upto_region 2 with fail
  clear p0 p1 p2 p3 p4
  generalize ((w.alloc _).alloc _).alloc _ = w3 at *
  have hmk : ∀ W : World, ∃ Z : Array Value, Z.size = (a.reads.length + 1) * 3 ∧ (Instr.makeSlice 24 (.int .i64 (a.reads.length : Int)) (.int .i64 ((a.reads.length : Int) + 1))).run Try.prog W = .ok (.slice (some ⟨W.heap.size, 0, none⟩) a.reads.length (a.reads.length + 1)) (W.alloc (.cells Z 66)) := by
    intro W
    have := run_make (P := Try.prog) W 24 66 i _ Try.underlying24 hi hz0 .i64 .i64 a.reads.length ((a.reads.length : Int) + 1) (by omega) (by omega) (by rw [hz2]; omega) (by omega)
    rw [Int.toNat_natCast, show ((a.reads.length : Int) + 1).toNat = a.reads.length + 1 by omega, hz1] at this
    exact ⟨_, size_madeCells _ _, this⟩
  obtain ⟨Z, hZ, hmk3⟩ := hmk w3
  obtain ⟨p0, p1, p2, p3, p4⟩ := HP.out.c5
  obtain ⟨o0, o1, o2, o3, o4⟩ := HO.out.c5
  have of3 := (HO.out.alloc (.cells Z 66)).frozen 3
  obtain ⟨-, -, -, q3, -⟩ := (HO.out.alloc (.cells Z 66)).c5
  clear hmk
  go_upto_region 3 with fail
  clear o0 o1 o2 o3 o4 q3 of3 p0 p1 p2 p3 p4 hmk3
  obtain ⟨M, hM⟩ : ∃ M, w3.heap.size = M := ⟨_, rfl⟩
  obtain ⟨S, hS⟩ : ∃ S, w.heap.size = S := ⟨_, rfl⟩
  have hSM : S + 1 + 1 < M := by have := HO.out.lt; omega
  have HZ := Lib.hid ((Blk.new w3 66 Z).far (p := ⟨w.heap.size + 1 + 1, 3, none⟩) (show w3.heap.size ≠ w.heap.size + 1 + 1 by omega) (.slice (some ⟨w3.heap.size, 0, none⟩) a.reads.length (a.reads.length + 1)))
  have HO4 := Lib.hid ((HO.out.alloc (.cells Z 66)).set_ 3 (.slice (some ⟨w3.heap.size, 0, none⟩) a.reads.length (a.reads.length + 1)))
  have HP4 := Lib.hid ((HP.out.alloc (.cells Z 66)).far (p := ⟨w.heap.size + 1 + 1, 3, none⟩) (show w.heap.size ≠ w.heap.size + 1 + 1 by omega) (.slice (some ⟨w3.heap.size, 0, none⟩) a.reads.length (a.reads.length + 1)))
  have HR4 := Lib.hid ((HR.out.alloc (.cells Z 66)).far (p := ⟨w.heap.size + 1 + 1, 3, none⟩) (show w.heap.size + 1 ≠ w.heap.size + 1 + 1 by omega) (.slice (some ⟨w3.heap.size, 0, none⟩) a.reads.length (a.reads.length + 1)))
  have HE4 := Lib.hid (Below.setCell (HE.out.trans (Ext.alloc w3 (.cells Z 66))) (p := ⟨w.heap.size + 1 + 1, 3, none⟩) (show w.heap.size ≤ w.heap.size + 1 + 1 by omega) (.slice (some ⟨w3.heap.size, 0, none⟩) a.reads.length (a.reads.length + 1)))
  simp only [List.setIfInBounds_toArray, List.set_cons_succ, List.set_cons_zero] at HO4
  clear HO HP HR HE
  rw [hM] at HZ HO4 HP4 HR4 HE4 ⊢
  rw [hS] at HZ HO4 HP4 HR4 HE4 ⊢
  generalize World.setCell _ _ _ = w4 at *
  have HS := Lib.hid hS
  clear hS hM
  obtain ⟨w5, hcp, hrow, hP5, hR5, hO5, hE5⟩ : ∃ w5, (Builtin.copy_ #[24, 24] 3 #[.slice (some ⟨M, 0, none⟩) a.reads.length (a.reads.length + 1), .slice A2 a.reads.length c2]).run Try.prog w4 = .ok (goInt (a.reads.length : Nat)) w5 ∧
      w5.ownsRow S 66 3 (.slice (some ⟨M, 0, none⟩) a.reads.length (a.reads.length + 1)) a.reads.length (flatG encRd a.reads) ∧ Blk w5 S 27 #[.int .i64 a.minutes, .int .i64 a.events, .slice A1 a.clocks.length c1, .slice A2 a.reads.length c2, .slice A3 a.gaps.length c3] ∧ Blk w5 (S + 1) 27 #[.int .i64 0, .int .i64 0, .slice none 0 0, .slice none 0 0, .slice none 0 0] ∧ Blk w5 (S + 1 + 1) 27 #[.int .i64 a.minutes, .int .i64 a.events, .slice A1 a.clocks.length c1, .slice (some ⟨M, 0, none⟩) a.reads.length (a.reads.length + 1), .slice A3 a.gaps.length c3] ∧ Below S w w5 := by
    have hfl : (flatG encRd a.reads).length = a.reads.length * 3 := flatG_len (s := 3) (enc := encRd) (fun _ => rfl) _
    by_cases hn0 : a.reads.length = 0
    · refine ⟨w4, ?_, ?_, HP4.out, HR4.out, HO4.out, HE4.out⟩
      · rw [hn0]
        exact run_copy_noneS w4 _ _ _ 66 _ _ _ _ _ _ 3 Try.underlying24 info_rds rfl
      · refine ⟨hfl, .inr ⟨M, _, Z, rfl, by omega, HZ.out, by omega, by unfold maxLen; omega, hZ, ?_⟩⟩
        rw [hn0, Nat.zero_mul, List.take_zero, List.length_eq_zero_iff.1 hn0]
        rfl
    · obtain ⟨b, o, rfl, -⟩ := H6.out 0 (by omega)
      have hsrc : Src w4 (some ⟨b, o, none⟩) (flatG encRd a.reads) := (AtG.src (s := 3) (enc := encRd) (by decide) (fun _ => rfl) (RdsAt.g (H6.out.ext (by unfold Ext; rw [HS.out]; exact HE4.out))))
      have hsrc' : ∀ j v, (flatG encRd a.reads)[j]? = some v → w4.cell? ((⟨b, o, none⟩ : Addr).add j) = some v := by
        rcases hsrc with h | ⟨ad, e, h⟩
        · rw [h] at hfl; simp at hfl; omega
        · cases e; exact h
      have hmin : Nat.min a.reads.length a.reads.length = a.reads.length := Nat.min_self _
      have := run_copy_rowS (P := Try.prog) w4 24 24 3 66 M 0 a.reads.length (a.reads.length + 1) ⟨b, o, none⟩ a.reads.length c2 3 Z 66 (flatG encRd a.reads) Try.underlying24 info_rds HZ.out (by rw [hmin, hfl]) hsrc' (by rw [hfl, hZ]; omega) (flat_one oneRd _)
      rw [hmin, List.take_zero, List.nil_append, Nat.zero_add] at this
      refine ⟨_, this, ⟨hfl, .inr ⟨M, _, _, rfl, by omega, setRow_heap _ _ _ _ _ _ HZ.out, by omega, by unfold maxLen; omega, ?_, ?_⟩⟩, HP4.out.rowFar (by omega) _, HR4.out.rowFar (by omega) _, HO4.out.rowFar (by omega) _, below_setRow HE4.out (by omega) _⟩
      · simp [hfl, hZ]; omega
      · simp only [List.toList_toArray]
        rw [← hfl, List.take_append_length]
  have HP5 := Lib.hid hP5; have HR5 := Lib.hid hR5; have HO5 := Lib.hid hO5; have HE5 := Lib.hid hE5; have Hrow := Lib.hid hrow
  obtain ⟨p0, p1, p2, p3, p4⟩ := HP4.out.c5
  obtain ⟨o0, o1, o2, o3, o4⟩ := HO4.out.c5
  clear hP5 hR5 hO5 hE5 hrow
  go_upto_region 4 with fail
  clear hcp p0 p1 p2 p3 p4 o0 o1 o2 o3 o4 HZ HO4 HP4 HR4 HE4
  have he05 : Ext w w5 := by unfold Ext; rw [HS.out]; exact HE5.out
  have hclc := Lib.hid fun W (he : Ext w5 W) => cloneClX A1 a.clocks.length c1 (flatG encCl a.clocks) W (by omega) (flatG_len (s := 4) (enc := encCl) (fun _ => rfl) _) (flat_one oneCl _) (AtG.src (s := 4) (enc := encCl) (by decide) (fun _ => rfl) (ClsAt.g (H5.out.ext (he05.trans he)))) (fun e => by
    rcases Nat.eq_zero_or_pos a.clocks.length with h | h
    · exact h
    · obtain ⟨b, o, e', _⟩ := H5.out 0 h; rw [e] at e'; cases e')
  have hclg := Lib.hid fun W (he : Ext w5 W) => cloneGpX A3 a.gaps.length c3 (flatG encGp a.gaps) W (by omega) (flatG_len (s := 4) (enc := encGp) (fun _ => rfl) _) (flat_one oneGp _) (AtG.src (s := 4) (enc := encGp) (by decide) (fun _ => rfl) (GpsAt.g (H7.out.ext (he05.trans he)))) (fun e => by
    rcases Nat.eq_zero_or_pos a.gaps.length with h | h
    · exact h
    · obtain ⟨b, o, e', _⟩ := H7.out 0 h; rw [e] at e'; cases e')
  obtain ⟨-, -, p2, -, p4⟩ := HP5.out.c5
  have hsz5 : S ≤ w5.heap.size := by have := HE5.out.size; have := HS.out; omega
  refine wp_region_tree 9 [(2, true), (5, true), (7, false)] [8] (by kernel_rfl) (by kernel_rfl) (by kernel_rfl) (ds := [0, 1, 3, 4]) (by kernel_rfl) ?_
  simp only [List.take, List.drop, fill, Act.put, List.setIfInBounds_toArray, List.set_cons_zero, List.set_cons_succ, Nat.reduceAdd]
  repeat (first
    | (apply Unlock.float rfl
       · intro x W he hd K Qr hK
         try (have he := he (by decide); have p2 := he.cell p2; have p4 := he.cell p4)
         try simp only [edges, DepsE, List.filter_cons, List.filter_nil, Region.binds, if_true, and_true, true_and, upd, Nat.reduceEqDiff, if_false] at hd
         try simp only [hd] at hK ⊢
         have HK := Lib.hid hK; clear hK
         go_wp2_with fail
         exact HK.out))
  refine Unlock.nil ?_
  intro W he hG
  refine Tree.next (ks := [(2, true)]) (by kernel_rfl) ?_
  refine TSteps.cons _ rfl ?_ trivial
  intro x hd K Qr hK
  try simp only [edges, DepsE, List.filter_cons, List.filter_nil, Region.binds, if_true, and_true, true_and, upd, Nat.reduceEqDiff, if_false] at hd
  try simp only [hd] at hK ⊢
  clear hd
  have HK := Lib.hid hK; clear hK
  go_wp2_with fail
  refine (hclc.out W he).mono ?_
  rintro e w6 ⟨cv, rfl, hc6, he6⟩
  have hE6 := Ext.trans he he6
  go_wp2_with fail
  refine HK.out _ _ (fun _ => hE6) ?_
  clear HK
  refine Unlock.of (ds := [6]) (by kernel_rfl) ?_
  repeat (first
    | (apply Unlock.float rfl
       · intro x W he hd K Qr hK
         try (have he := he (by decide); skip)
         try simp only [edges, DepsE, List.filter_cons, List.filter_nil, Region.binds, if_true, and_true, true_and, upd, Nat.reduceEqDiff, if_false] at hd
         try simp only [hd] at hK ⊢
         have HK := Lib.hid hK; clear hK
         go_wp2_with fail
         exact HK.out))
  refine Unlock.nil ?_
  refine Tree.next (ks := [(5, true)]) (by kernel_rfl) ?_
  refine TSteps.cons _ rfl ?_ trivial
  intro x hd K Qr hK
  try simp only [edges, DepsE, List.filter_cons, List.filter_nil, Region.binds, if_true, and_true, true_and, upd, Nat.reduceEqDiff, if_false] at hd
  try simp only [hd] at hK ⊢
  clear hd
  have HK := Lib.hid hK; clear hK
  go_wp2_with fail
  refine (hclg.out w6 hE6).mono ?_
  rintro e w7 ⟨gv, rfl, hg7, he7⟩
  have hE7 := Ext.trans hE6 he7
  go_wp2_with fail
  refine HK.out _ _ (fun _ => hE7) ?_
  clear HK
  refine Unlock.of (ds := []) (by kernel_rfl) ?_
  repeat (first
    | (apply Unlock.float rfl
       · intro x W he hd K Qr hK
         try (have he := he (by decide))
         try simp only [edges, DepsE, List.filter_cons, List.filter_nil, Region.binds, if_true, and_true, true_and, upd, Nat.reduceEqDiff, if_false] at hd
         try simp only [hd] at hK ⊢
         have HK := Lib.hid hK; clear hK
         go_wp2_with fail
         exact HK.out))
  refine Unlock.nil ?_
  have hszW := Ext.size he
  have hO7 := HO5.out.ext hE7
  have hR7 := HR5.out.ext hE7
  have HA := Lib.hid (show AttO w7 S cv (.slice (some ⟨M, 0, none⟩) a.reads.length (a.reads.length + 1)) gv a from ⟨ownsRow_mono (ownsRow_ext2 hc6 he7) (by omega), ownsRow_ext2 Hrow.out hE7, ownsRow_mono hg7 (by have := he6.size; have := Ext.size he; omega)⟩)
  obtain ⟨Ac, cc, rfl⟩ := ownsRow_slice hc6
  obtain ⟨Ag, cg, rfl⟩ := ownsRow_slice hg7
  have f2 := hO7.frozen 2; have f4 := (hO7.set_ 2 (.slice Ac a.clocks.length cc)).frozen 4
  have hE7w := Lib.hid (he05.trans hE7)
  have HO7 := Lib.hid hO7; have HR7 := Lib.hid hR7
  obtain ⟨o0, o1, o2, o3, o4⟩ := hO7.c5
  clear p2 p4 he he6 he7 hE6 hE7 hc6 hg7 hclc hclg hO7 hR7 hG
  have hB8 := (HO7.out.set_ 2 (.slice Ac a.clocks.length cc)).set_ 4 (.slice Ag a.gaps.length cg)
  simp only [List.setIfInBounds_toArray, List.set_cons_succ, List.set_cons_zero] at hB8
  have HR8 := Lib.hid ((HR7.out.far (p := ⟨S + 1 + 1, 2, none⟩) (show S + 1 ≠ S + 1 + 1 by omega) (.slice Ac a.clocks.length cc)).far (p := ⟨S + 1 + 1, 4, none⟩) (show S + 1 ≠ S + 1 + 1 by omega) (.slice Ag a.gaps.length cg))
  have HA8 := Lib.hid (show AttO ((w7.setCell ⟨S + 1 + 1, 2, none⟩ (.slice Ac a.clocks.length cc)).setCell ⟨S + 1 + 1, 4, none⟩ (.slice Ag a.gaps.length cg)) S (.slice Ac a.clocks.length cc) (.slice (some ⟨M, 0, none⟩) a.reads.length (a.reads.length + 1)) (.slice Ag a.gaps.length cg) a from (HA.out.far HO7.out (by decide) (by decide) (by decide) 2 _).far (HO7.out.set_ 2 _) (by decide) (by decide) (by decide) 4 _)
  have HE8 := Lib.hid (show Below S w ((w7.setCell ⟨S + 1 + 1, 2, none⟩ (.slice Ac a.clocks.length cc)).setCell ⟨S + 1 + 1, 4, none⟩ (.slice Ag a.gaps.length cg)) from Below.setCell (Below.setCell (by have := hE7w.out; unfold Ext at this; rwa [HS.out] at this) (p := ⟨S + 1 + 1, 2, none⟩) (by show S ≤ S + 1 + 1; omega) _) (p := ⟨S + 1 + 1, 4, none⟩) (by show S ≤ S + 1 + 1; omega) _)
  have HB8 := Lib.hid hB8
  clear hB8 HA HO7 HR7
  refine Tree.next (ks := [(7, false)]) (by kernel_rfl) ?_
  refine TSteps.cons _ rfl ?_ trivial
  intro x hd K Qr hK
  try simp only [edges, DepsE, List.filter_cons, List.filter_nil, Region.binds, if_true, and_true, true_and, upd, Nat.reduceEqDiff, if_false] at hd
  try simp only [hd] at hK ⊢
  clear hd
  have HK := Lib.hid hK; clear hK
  go_wp2_with fail
  refine HK.out undef _ (fun h => by cases h) ?_
  clear HK
  refine Unlock.of (ds := [8]) (by kernel_rfl) ?_
  repeat (first
    | (apply Unlock.float rfl
       · intro x W he hd K Qr hK
         try (have he := he (by decide); skip)
         try simp only [edges, DepsE, List.filter_cons, List.filter_nil, Region.binds, if_true, and_true, true_and, upd, Nat.reduceEqDiff, if_false] at hd
         try simp only [hd] at hK ⊢
         have HK := Lib.hid hK; clear hK
         go_wp2_with fail
         exact HK.out))
  refine Unlock.nil ?_
  refine Tree.nil (by kernel_rfl) ?_
  simp only [upd, Nat.reduceEqDiff, if_false, if_true]
  go_upto_region 5 with fail
  clear o0 o1 o2 o3 o4 f2 f4
  generalize (w7.setCell _ _).setCell _ _ = w8 at *
  obtain ⟨o0, o1, o2, o3, o4⟩ := HB8.out.c5
  obtain ⟨r0, r1, r2, r3, r4⟩ := HR8.out.c5
  have f0 := HR8.out.frozen 0
  have f1 := HR8.out.frozen 1
  have f2 := HR8.out.frozen 2
  have f3 := HR8.out.frozen 3
  have f4 := HR8.out.frozen 4
  have hB9 := (((((HR8.out.set_ 0 (.int .i64 a.minutes)).set_ 1 (.int .i64 a.events)).set_ 2 (.slice Ac a.clocks.length cc)).set_ 3 (.slice (some ⟨M, 0, none⟩) a.reads.length (a.reads.length + 1))).set_ 4 (.slice Ag a.gaps.length cg))
  simp only [List.setIfInBounds_toArray, List.set_cons_succ, List.set_cons_zero] at hB9
  obtain ⟨z0, z1, z2, z3, z4⟩ := hB9.c5
  have hE9 : Ext w (((((w8.setCell ⟨S + 1, 0, none⟩ (.int .i64 a.minutes)).setCell ⟨S + 1, 1, none⟩ (.int .i64 a.events)).setCell ⟨S + 1, 2, none⟩ (.slice Ac a.clocks.length cc)).setCell ⟨S + 1, 3, none⟩ (.slice (some ⟨M, 0, none⟩) a.reads.length (a.reads.length + 1))).setCell ⟨S + 1, 4, none⟩ (.slice Ag a.gaps.length cg)) := by unfold Ext; rw [HS.out]; exact (Below.setCell (Below.setCell (Below.setCell (Below.setCell (Below.setCell HE8.out (p := ⟨S + 1, 0, none⟩) (Nat.le_succ _) (.int .i64 a.minutes)) (p := ⟨S + 1, 1, none⟩) (Nat.le_succ _) (.int .i64 a.events)) (p := ⟨S + 1, 2, none⟩) (Nat.le_succ _) (.slice Ac a.clocks.length cc)) (p := ⟨S + 1, 3, none⟩) (Nat.le_succ _) (.slice (some ⟨M, 0, none⟩) a.reads.length (a.reads.length + 1))) (p := ⟨S + 1, 4, none⟩) (Nat.le_succ _) (.slice Ag a.gaps.length cg))
  have hA9 : AttO (((((w8.setCell ⟨S + 1, 0, none⟩ (.int .i64 a.minutes)).setCell ⟨S + 1, 1, none⟩ (.int .i64 a.events)).setCell ⟨S + 1, 2, none⟩ (.slice Ac a.clocks.length cc)).setCell ⟨S + 1, 3, none⟩ (.slice (some ⟨M, 0, none⟩) a.reads.length (a.reads.length + 1))).setCell ⟨S + 1, 4, none⟩ (.slice Ag a.gaps.length cg)) S (.slice Ac a.clocks.length cc) (.slice (some ⟨M, 0, none⟩) a.reads.length (a.reads.length + 1)) (.slice Ag a.gaps.length cg) a := (((((HA8.out.far HR8.out (by decide) (by decide) (by decide) 0 (.int .i64 a.minutes)).far (HR8.out.set_ 0 (.int .i64 a.minutes)) (by decide) (by decide) (by decide) 1 (.int .i64 a.events)).far ((HR8.out.set_ 0 (.int .i64 a.minutes)).set_ 1 (.int .i64 a.events)) (by decide) (by decide) (by decide) 2 (.slice Ac a.clocks.length cc)).far (((HR8.out.set_ 0 (.int .i64 a.minutes)).set_ 1 (.int .i64 a.events)).set_ 2 (.slice Ac a.clocks.length cc)) (by decide) (by decide) (by decide) 3 (.slice (some ⟨M, 0, none⟩) a.reads.length (a.reads.length + 1))).far ((((HR8.out.set_ 0 (.int .i64 a.minutes)).set_ 1 (.int .i64 a.events)).set_ 2 (.slice Ac a.clocks.length cc)).set_ 3 (.slice (some ⟨M, 0, none⟩) a.reads.length (a.reads.length + 1))) (by decide) (by decide) (by decide) 4 (.slice Ag a.gaps.length cg))
  have hz := Lib.hid (And.intro z0 (And.intro z1 (And.intro z2 (And.intro z3 z4))))
  have HA9 := Lib.hid hA9; have HE9 := Lib.hid hE9
  clear hB9 hA9 hE9 z0 z1 z2 z3 z4
  go_wp2_with fail
  refine bodyPost_ret (v := .agg #[.int .i64 a.minutes, .int .i64 a.events, .slice Ac a.clocks.length cc, .slice (some ⟨M, 0, none⟩) a.reads.length (a.reads.length + 1), .slice Ag a.gaps.length cg]) ?_ rfl ⟨_, _, _, rfl, by rw [HS.out]; exact HA9.out, HE9.out⟩
  obtain ⟨z0, z1, z2, z3, z4⟩ := hz.out
  simp [results, Try.results29, go_sem, z0, z1, z2, z3, z4]
end Go.Proofs.Pet

namespace Go.Proofs.Pet
open Go Go.RowKit Go.Maps Go.Shelf
open Go.Proofs.Clk (Cl Rd Gp Att foundL atD loF hiF)

set_option maxRecDepth 20000 in
set_option maxHeartbeats 4000000 in
theorem checked_any (v : Value) (a : Att) (hok : AttOk a) (w : World) (hv : AttVal w v a) :
    Calls Try.prog 30 #[v] w fun e w' => e = .returned (.tuple #[v, .int .i64 0]) ∧ Ext w w' := by
  have Hv := Lib.hid hv
  obtain ⟨A1, c1, A2, c2, A3, c3, rfl, -, -, -, -, -, -⟩ := hv
  have hX := (Ext.alloc w (.cells #[.int .i64 a.minutes, .int .i64 a.events, .slice A1 a.clocks.length c1, .slice A2 a.reads.length c2, .slice A3 a.gaps.length c3] 27)).trans (Ext.alloc _ (.cells #[.int .i64 0, .int .i64 0, .slice none 0 0, .slice none 0 0, .slice none 0 0] 27))
  have hP := (Blk.new w 27 #[.int .i64 a.minutes, .int .i64 a.events, .slice A1 a.clocks.length c1, .slice A2 a.reads.length c2, .slice A3 a.gaps.length c3]).alloc (.cells #[.int .i64 0, .int .i64 0, .slice none 0 0, .slice none 0 0, .slice none 0 0] 27)
  have hR := Blk.new (w.alloc (.cells #[.int .i64 a.minutes, .int .i64 a.events, .slice A1 a.clocks.length c1, .slice A2 a.reads.length c2, .slice A3 a.gaps.length c3] 27)) 27 #[.int .i64 0, .int .i64 0, .slice none 0 0, .slice none 0 0, .slice none 0 0]
  rw [World.size_alloc] at hR
  obtain ⟨p0, p1, p2, p3, p4⟩ := hP.c5
  have hck := Lib.hid (checkC_any _ a hok _ (Hv.out.ext hX))
  have HP := Lib.hid hP; have HR := Lib.hid hR; have HE := Lib.hid hX
  clear hP hR hX hok
  go_enter Try.func30, Try.ntmps30
  go_wp2_with fail
  refine hck.out.mono ?_
  rintro e w1 ⟨rfl, he1⟩
  have HP1 := Lib.hid (HP.out.ext he1); have HR1 := Lib.hid (HR.out.ext he1); have HE1 := Lib.hid (HE.out.trans he1)
  clear p0 p1 p2 p3 p4 hck HP HR HE he1
  generalize w.alloc _ = wx at *
  obtain ⟨p0, p1, p2, p3, p4⟩ := HP1.out.c5
  obtain ⟨r0, r1, r2, r3, r4⟩ := HR1.out.c5
  have f0 := HR1.out.frozen 0
  have f1 := HR1.out.frozen 1
  have f2 := HR1.out.frozen 2
  have f3 := HR1.out.frozen 3
  have f4 := HR1.out.frozen 4
  have hB9 := (((((HR1.out.set_ 0 (.int .i64 a.minutes)).set_ 1 (.int .i64 a.events)).set_ 2 (.slice A1 a.clocks.length c1)).set_ 3 (.slice A2 a.reads.length c2)).set_ 4 (.slice A3 a.gaps.length c3))
  simp only [List.setIfInBounds_toArray, List.set_cons_succ, List.set_cons_zero] at hB9
  obtain ⟨z0, z1, z2, z3, z4⟩ := hB9.c5
  have HE9 := Lib.hid (show Ext w (((((w1.setCell ⟨w.heap.size + 1, 0, none⟩ (.int .i64 a.minutes)).setCell ⟨w.heap.size + 1, 1, none⟩ (.int .i64 a.events)).setCell ⟨w.heap.size + 1, 2, none⟩ (.slice A1 a.clocks.length c1)).setCell ⟨w.heap.size + 1, 3, none⟩ (.slice A2 a.reads.length c2)).setCell ⟨w.heap.size + 1, 4, none⟩ (.slice A3 a.gaps.length c3)) from (Below.setCell (Below.setCell (Below.setCell (Below.setCell (Below.setCell HE1.out (p := ⟨w.heap.size + 1, 0, none⟩) (Nat.le_succ _) (.int .i64 a.minutes)) (p := ⟨w.heap.size + 1, 1, none⟩) (Nat.le_succ _) (.int .i64 a.events)) (p := ⟨w.heap.size + 1, 2, none⟩) (Nat.le_succ _) (.slice A1 a.clocks.length c1)) (p := ⟨w.heap.size + 1, 3, none⟩) (Nat.le_succ _) (.slice A2 a.reads.length c2)) (p := ⟨w.heap.size + 1, 4, none⟩) (Nat.le_succ _) (.slice A3 a.gaps.length c3)))
  have hz := Lib.hid (And.intro z0 (And.intro z1 (And.intro z2 (And.intro z3 z4))))
  clear hB9 z0 z1 z2 z3 z4
  go_wp2_with fail
  refine bodyPost_ret (v := .tuple #[.agg #[.int .i64 a.minutes, .int .i64 a.events, .slice A1 a.clocks.length c1, .slice A2 a.reads.length c2, .slice A3 a.gaps.length c3], .int .i64 0]) ?_ rfl ⟨rfl, HE9.out⟩
  obtain ⟨z0, z1, z2, z3, z4⟩ := hz.out
  simp [results, Try.results30, go_sem, z0, z1, z2, z3, z4]
end Go.Proofs.Pet

namespace Go.Proofs.Pet
open Go Go.RowKit Go.Maps Go.Shelf
open Go.Proofs.Clk (Cl Rd Gp Att foundL atD loF hiF)

set_option maxRecDepth 20000 in
set_option maxHeartbeats 4000000 in
theorem Know_any (v : Value) (a : Att) (g : Gp) (hok : AttOk a) (hf : a.gaps.length < 4) (hok2 : AttOk (a.more g)) (w : World) (hv : AttVal w v a) :
    Calls Try.prog 13 #[v, .agg #[.int .i64 g.src, .int .i64 g.dst, .int .i64 g.lo, .int .i64 g.hi]] w fun e w' => ∃ cv rv gv, e = .returned (.tuple #[.agg #[.int .i64 a.minutes, .int .i64 a.events, cv, rv, gv], .int .i64 0]) ∧ AttO w' w.heap.size cv rv gv (a.more g) ∧ Ext w w' := by
  obtain ⟨ti, hi, hz0, hz1, hz2⟩ := info_parts info_Gp
  have Hv := Lib.hid hv
  obtain ⟨A1, c1, A2, c2, A3, c3, rfl, -, -, -, -, -, -⟩ := hv
  obtain ⟨gs, hgs⟩ : ∃ n, g.src = n := ⟨_, rfl⟩
  obtain ⟨gd, hgd⟩ : ∃ n, g.dst = n := ⟨_, rfl⟩
  obtain ⟨gl, hgl⟩ : ∃ n, g.lo = n := ⟨_, rfl⟩
  obtain ⟨gh, hgh⟩ : ∃ n, g.hi = n := ⟨_, rfl⟩
  have henc : encGp g = [.int .i64 gs, .int .i64 gd, .int .i64 gl, .int .i64 gh] := by unfold encGp; rw [hgs, hgd, hgl, hgh]
  rw [hgs, hgd, hgl, hgh]
  have Henc := Lib.hid henc
  clear hgs hgd hgl hgh henc
  have hX := ((Ext.alloc w (.cells #[.int .i64 a.minutes, .int .i64 a.events, .slice A1 a.clocks.length c1, .slice A2 a.reads.length c2, .slice A3 a.gaps.length c3] 27)).trans (Ext.alloc _ (.cells #[.int .i64 gs, .int .i64 gd, .int .i64 gl, .int .i64 gh] 58))).trans (Ext.alloc _ (.cells #[.int .i64 0, .int .i64 0, .slice none 0 0, .slice none 0 0, .slice none 0 0] 27))
  have hP := ((Blk.new w 27 #[.int .i64 a.minutes, .int .i64 a.events, .slice A1 a.clocks.length c1, .slice A2 a.reads.length c2, .slice A3 a.gaps.length c3]).alloc (.cells #[.int .i64 gs, .int .i64 gd, .int .i64 gl, .int .i64 gh] 58)).alloc (.cells #[.int .i64 0, .int .i64 0, .slice none 0 0, .slice none 0 0, .slice none 0 0] 27)
  have hG := (Blk.new (w.alloc (.cells #[.int .i64 a.minutes, .int .i64 a.events, .slice A1 a.clocks.length c1, .slice A2 a.reads.length c2, .slice A3 a.gaps.length c3] 27)) 58 #[.int .i64 gs, .int .i64 gd, .int .i64 gl, .int .i64 gh]).alloc (.cells #[.int .i64 0, .int .i64 0, .slice none 0 0, .slice none 0 0, .slice none 0 0] 27)
  have hR := Blk.new ((w.alloc (.cells #[.int .i64 a.minutes, .int .i64 a.events, .slice A1 a.clocks.length c1, .slice A2 a.reads.length c2, .slice A3 a.gaps.length c3] 27)).alloc (.cells #[.int .i64 gs, .int .i64 gd, .int .i64 gl, .int .i64 gh] 58)) 27 #[.int .i64 0, .int .i64 0, .slice none 0 0, .slice none 0 0, .slice none 0 0]
  simp only [World.size_alloc] at hR hG
  obtain ⟨p0, p1, p2, p3, p4⟩ := hP.c5
  have hck := Lib.hid (checkC_any _ a hok _ (Hv.out.ext hX))
  have HP := Lib.hid hP; have HR := Lib.hid hR; have HE := Lib.hid hX; have HG := Lib.hid hG
  have Hok := Lib.hid hok; have Hok2 := Lib.hid hok2
  clear hP hR hX hok hok2 hG
  go_enter Try.func13, Try.ntmps13
  go_wp2_with fail
  refine hck.out.mono ?_
  rintro e w1 ⟨rfl, he1⟩
  have HP1 := Lib.hid (HP.out.ext he1); have HR1 := Lib.hid (HR.out.ext he1); have HE1 := Lib.hid (HE.out.trans he1); have HG1 := Lib.hid (HG.out.ext he1)
  clear p0 p1 p2 p3 p4 hck HP HR HE HG he1
  obtain ⟨p0, p1, p2, p3, p4⟩ := HP1.out.c5
  have hcp := Lib.hid (copied_any _ a Hok.out w1 (Hv.out.ext HE1.out))
  have hq : ((a.gaps.length : Int) == 4) = false := by simp; omega
  have hq2 : (a.gaps.length == 4) = false := by simp; omega
  go_wp2_with fail
  refine hcp.out.mono ?_
  rintro e w2 ⟨cv, rv, gv, rfl, hA2, he2⟩
  obtain ⟨Bc, bc, rfl⟩ := ownsRow_slice hA2.cl
  obtain ⟨Br, br, rfl⟩ := ownsRow_slice hA2.rd
  obtain ⟨Bh, bh, rfl⟩ := ownsRow_slice hA2.gp
  have hX3 := Ext.alloc w2 (.cells #[.int .i64 a.minutes, .int .i64 a.events, .slice Bc a.clocks.length bc, .slice Br a.reads.length br, .slice Bh a.gaps.length bh] 27)
  have hO3 := Blk.new w2 27 #[.int .i64 a.minutes, .int .i64 a.events, .slice Bc a.clocks.length bc, .slice Br a.reads.length br, .slice Bh a.gaps.length bh]
  have HA3 := Lib.hid (hA2.ext hX3)
  have HP3 := Lib.hid ((HP1.out.ext he2).ext hX3); have HR3 := Lib.hid ((HR1.out.ext he2).ext hX3); have HE3 := Lib.hid ((HE1.out.trans he2).trans hX3); have HG3 := Lib.hid ((HG1.out.ext he2).ext hX3)
  have hSO0 : w.heap.size + 1 + 1 < w2.heap.size ∧ w1.heap.size ≤ w2.heap.size ∧ w.heap.size + 1 + 1 < w1.heap.size := by
    have h1 := HR1.out.lt; have h2 := he2.size; omega
  have HSO := Lib.hid hSO0
  clear hSO0
  clear p0 p1 p2 p3 p4 hcp HP1 HR1 HE1 HG1 he2 hA2 hX3
  go_upto_region 7 with fail
  have hSO := HSO.out
  obtain ⟨O, hO⟩ : ∃ O, w2.heap.size = O := ⟨_, rfl⟩
  obtain ⟨S, hS⟩ : ∃ S, w.heap.size = S := ⟨_, rfl⟩
  rw [hO] at hO3 hSO ⊢
  rw [hS] at HP3 HR3 HG3 hSO ⊢
  have HS := Lib.hid hS
  have HO3 := Lib.hid hO3
  clear hO hS hO3 hq hq2
  generalize w2.alloc _ = w3 at *
  obtain ⟨o0, o1, o2, o3, o4⟩ := HO3.out.c5
  obtain ⟨g0, g1, g2, g3⟩ := HG3.out.c4
  have hX4 := Ext.alloc w3 (.cells #[.int .i64 gs, .int .i64 gd, .int .i64 gl, .int .i64 gh] 58)
  have hsrcB := Blk.new w3 58 #[.int .i64 gs, .int .i64 gd, .int .i64 gl, .int .i64 gh]
  have hsrc : Src (w3.alloc (.cells #[.int .i64 gs, .int .i64 gd, .int .i64 gl, .int .i64 gh] 58)) (some ⟨w3.heap.size, 0, none⟩) [.int .i64 gs, .int .i64 gd, .int .i64 gl, .int .i64 gh] := .inr ⟨_, rfl, fun j x hj => by
    have e : (⟨w3.heap.size, 0, none⟩ : Addr).add j = ⟨w3.heap.size, j, none⟩ := by rw [addr_add]; simp
    rw [e, hsrcB.cell]
    simpa using hj⟩
  have hown4 := (HA3.out.ext hX4).gp
  have HO4 := Lib.hid (HO3.out.ext hX4); have HA4 := Lib.hid (HA3.out.ext hX4)
  have HP4 := Lib.hid (HP3.out.ext hX4); have HR4 := Lib.hid (HR3.out.ext hX4); have HE4 := Lib.hid (HE3.out.trans hX4)
  have hsz4 : w1.heap.size ≤ (w3.alloc (.cells #[.int .i64 gs, .int .i64 gd, .int .i64 gl, .int .i64 gh] 58)).heap.size := by have := hX4.size; have := HO3.out.lt; omega
  clear hX4 hsrcB
  have Hw : Hid (∀ v' w', w'.ownsRow w1.heap.size 58 4 v' (a.gaps.length + 1) (flatG encGp a.gaps ++ [.int .i64 gs, .int .i64 gd, .int .i64 gl, .int .i64 gh]) → (w3.alloc (.cells #[.int .i64 gs, .int .i64 gd, .int .i64 gl, .int .i64 gh] 58)).grownBy w' (Value.slice Bh a.gaps.length bh).ownBlock →
      AttO w' w1.heap.size (.slice Bc a.clocks.length bc) (.slice Br a.reads.length br) v' (a.more g) ∧ Blk w' O 27 #[.int .i64 a.minutes, .int .i64 a.events, .slice Bc a.clocks.length bc, .slice Br a.reads.length br, .slice Bh a.gaps.length bh] ∧ Blk w' (S + 1 + 1) 27 #[.int .i64 0, .int .i64 0, .slice none 0 0, .slice none 0 0, .slice none 0 0] ∧ Ext w w') := by
    intro v' w' hown hg
    refine ⟨HA4.out.pushG (b' := w1.heap.size) (by rw [Henc.out]; exact hown) (Nat.le_refl _) hg, Blk.grown HO4.out hg (ownsRow_ne_blk HA4.out.gp HO4.out (by decide)), Blk.grown HR4.out hg (ownsRow_ne_blk HA4.out.gp HR4.out (by decide)), Below.grown HE4.out hg HE4.out.size fun j hj => ?_⟩
    have := (ownsRow_own HA4.out.gp j hj).1
    have := HS.out
    omega
  have Hsrc := Lib.hid hsrc
  go_upto_region 8 with (at_builtin; refine wpList_app rfl _ _ 25 rfl w1.heap.size 58 ti (.agg #[.int .i64 0, .int .i64 0, .int .i64 0, .int .i64 0]) 4 32 Try.underlying25 hi hz0 hz1 hz2 rfl (by decide) (.slice Bh a.gaps.length bh) a.gaps.length _ rfl hown4 (some ⟨w3.heap.size, 0, none⟩) 1 1 [.int .i64 gs, .int .i64 gd, .int .i64 gl, .int .i64 gh] rfl rfl Hsrc.out ?c2 ?c3 ?c4 ?c5 ?_; (case c2 => (intro u hu; simp only [List.mem_cons, List.not_mem_nil, or_false] at hu; rcases hu with rfl | rfl | rfl | rfl <;> rfl)); (case c3 => (unfold maxLen; omega)); (case c4 => omega); (case c5 => exact hsz4); intro v' w5 hown hg hblk; obtain ⟨Bg, bg, rfl⟩ := ownsRow_slice hown; have H5 := Lib.hid (Hw.out _ w5 hown hg); obtain ⟨-, -, -, -, q4⟩ := H5.out.2.1.c5; have qf := H5.out.2.1.frozen 4; clear hown hg hblk)
  have hO6 := H5.out.2.1.set_ 4 (.slice Bg (a.gaps.length + 1) bg)
  simp only [List.setIfInBounds_toArray, List.set_cons_succ, List.set_cons_zero] at hO6
  have HO6 := Lib.hid hO6
  have HA6 := Lib.hid (H5.out.1.far H5.out.2.1 (by decide) (by decide) (by decide) 4 (.slice Bg (a.gaps.length + 1) bg))
  have HR6 := Lib.hid (H5.out.2.2.1.far (p := ⟨O, 4, none⟩) (show S + 1 + 1 ≠ O by omega) (.slice Bg (a.gaps.length + 1) bg))
  have HE6 := Lib.hid (Below.setCell H5.out.2.2.2 (p := ⟨O, 4, none⟩) (show w.heap.size ≤ O by have := HS.out; omega) (.slice Bg (a.gaps.length + 1) bg))
  clear q4 qf hO6 H5 Hw hown4 o0 o1 o2 o3 o4 g0 g1 g2 g3 HSO
  generalize w5.setCell _ _ = w6 at *
  have hck := Lib.hid (checked_any _ (a.more g) Hok2.out w6 HA6.out.val)
  obtain ⟨o0, o1, o2, o3, o4⟩ := HO6.out.c5
  have hcv : (a.more g).minutes = a.minutes ∧ (a.more g).events = a.events := ⟨rfl, rfl⟩
  rw [hcv.1, hcv.2] at hck
  clear hcv
  go_wp2_with fail
  refine hck.out.mono ?_
  rintro e w7 ⟨rfl, he7⟩
  have hA7 := HA6.out.ext he7
  have hR7 := HR6.out.ext he7
  have hE7 : Below w.heap.size w w7 := Ext.trans HE6.out he7
  obtain ⟨r0, r1, r2, r3, r4⟩ := hR7.c5
  have f0 := hR7.frozen 0
  have f1 := hR7.frozen 1
  have f2 := hR7.frozen 2
  have f3 := hR7.frozen 3
  have f4 := hR7.frozen 4
  have hB9 := (((((hR7.set_ 0 (.int .i64 a.minutes)).set_ 1 (.int .i64 a.events)).set_ 2 (.slice Bc a.clocks.length bc)).set_ 3 (.slice Br a.reads.length br)).set_ 4 (.slice Bg (a.gaps.length + 1) bg))
  simp only [List.setIfInBounds_toArray, List.set_cons_succ, List.set_cons_zero] at hB9
  obtain ⟨z0, z1, z2, z3, z4⟩ := hB9.c5
  have HE9 := Lib.hid (show Ext w (((((w7.setCell ⟨S + 1 + 1, 0, none⟩ (.int .i64 a.minutes)).setCell ⟨S + 1 + 1, 1, none⟩ (.int .i64 a.events)).setCell ⟨S + 1 + 1, 2, none⟩ (.slice Bc a.clocks.length bc)).setCell ⟨S + 1 + 1, 3, none⟩ (.slice Br a.reads.length br)).setCell ⟨S + 1 + 1, 4, none⟩ (.slice Bg (a.gaps.length + 1) bg)) from (Below.setCell (Below.setCell (Below.setCell (Below.setCell (Below.setCell hE7 (p := ⟨S + 1 + 1, 0, none⟩) (by show w.heap.size ≤ S + 1 + 1; have := HS.out; omega) (.int .i64 a.minutes)) (p := ⟨S + 1 + 1, 1, none⟩) (by show w.heap.size ≤ S + 1 + 1; have := HS.out; omega) (.int .i64 a.events)) (p := ⟨S + 1 + 1, 2, none⟩) (by show w.heap.size ≤ S + 1 + 1; have := HS.out; omega) (.slice Bc a.clocks.length bc)) (p := ⟨S + 1 + 1, 3, none⟩) (by show w.heap.size ≤ S + 1 + 1; have := HS.out; omega) (.slice Br a.reads.length br)) (p := ⟨S + 1 + 1, 4, none⟩) (by show w.heap.size ≤ S + 1 + 1; have := HS.out; omega) (.slice Bg (a.gaps.length + 1) bg)))
  have HA9 := Lib.hid (show AttO (((((w7.setCell ⟨S + 1 + 1, 0, none⟩ (.int .i64 a.minutes)).setCell ⟨S + 1 + 1, 1, none⟩ (.int .i64 a.events)).setCell ⟨S + 1 + 1, 2, none⟩ (.slice Bc a.clocks.length bc)).setCell ⟨S + 1 + 1, 3, none⟩ (.slice Br a.reads.length br)).setCell ⟨S + 1 + 1, 4, none⟩ (.slice Bg (a.gaps.length + 1) bg)) w1.heap.size (.slice Bc a.clocks.length bc) (.slice Br a.reads.length br) (.slice Bg (a.gaps.length + 1) bg) (a.more g) from (((((hA7.far hR7 (by decide) (by decide) (by decide) 0 (.int .i64 a.minutes)).far (hR7.set_ 0 (.int .i64 a.minutes)) (by decide) (by decide) (by decide) 1 (.int .i64 a.events)).far ((hR7.set_ 0 (.int .i64 a.minutes)).set_ 1 (.int .i64 a.events)) (by decide) (by decide) (by decide) 2 (.slice Bc a.clocks.length bc)).far (((hR7.set_ 0 (.int .i64 a.minutes)).set_ 1 (.int .i64 a.events)).set_ 2 (.slice Bc a.clocks.length bc)) (by decide) (by decide) (by decide) 3 (.slice Br a.reads.length br)).far ((((hR7.set_ 0 (.int .i64 a.minutes)).set_ 1 (.int .i64 a.events)).set_ 2 (.slice Bc a.clocks.length bc)).set_ 3 (.slice Br a.reads.length br)) (by decide) (by decide) (by decide) 4 (.slice Bg (a.gaps.length + 1) bg)))
  have hz := Lib.hid (And.intro z0 (And.intro z1 (And.intro z2 (And.intro z3 z4))))
  clear hB9 z0 z1 z2 z3 z4 o0 o1 o2 o3 o4 hA7 hE7 hck he7 HA6 HR6 HE6 HO6
  go_wp2_with fail
  refine bodyPost_ret (v := .tuple #[.agg #[.int .i64 a.minutes, .int .i64 a.events, .slice Bc a.clocks.length bc, .slice Br a.reads.length br, .slice Bg (a.gaps.length + 1) bg], .int .i64 0]) ?_ rfl ⟨_, _, _, rfl, ⟨ownsRow_mono HA9.out.cl (by have := HS.out; omega), ownsRow_mono HA9.out.rd (by have := HS.out; omega), ownsRow_mono HA9.out.gp (by have := HS.out; omega)⟩, HE9.out⟩
  obtain ⟨z0, z1, z2, z3, z4⟩ := hz.out
  simp [results, Try.results13, go_sem, z0, z1, z2, z3, z4]
end Go.Proofs.Pet

namespace Go.Proofs.Pet
open Go Go.RowKit Go.Maps Go.Shelf
open Go.Proofs.Clk (Cl Rd Gp Att shF)

/-- a span around a number -/
def Around (b k : Nat) (n wide most : Int) (w : World) (e : Ending) (w' : World) : Prop :=
  ∃ lo hi : Int, e = .returned (.agg #[.int .i64 lo, .int .i64 hi]) ∧ (-most ≤ lo ∧ lo ≤ n ∧ n ≤ hi ∧ hi ≤ most ∧ hi - lo ≤ wide) ∧ SpoolAt w' b (k + 2) ∧ Apart b w w'
set_option maxRecDepth 20000 in
set_option maxHeartbeats 4000000 in
theorem around_any (b k : Nat) (hk : k ≤ 1000) (n wide most : Int) (hm : 0 ≤ most ∧ most ≤ 1000) (hw : 0 ≤ wide ∧ wide ≤ 100) (hn : -most ≤ n ∧ n ≤ most) (w : World) (hs : SpoolAt w b k) :
    Calls Try.prog 16 #[.pointer (some ⟨b, 0, none⟩), .int .i64 n, .int .i64 wide, .int .i64 most] w (Around b k n wide most w) := by
  have hX := Ext.alloc w (.cells #[.int .i64 0, .int .i64 0] 52)
  have hR := Blk.new w 52 #[.int .i64 0, .int .i64 0]
  have hbl := hs.lt
  have h1 := Lib.hid (upto_any b k (by omega) wide (by omega) wide (by omega) _ (hs.ext hX))
  have HR := Lib.hid hR
  have HX := Lib.hid (Apart.of_ext (b := b) hX)
  clear hX hR hs
  go_enter Try.func16, Try.ntmps16
  go_wp2_with fail
  refine h1.out.mono ?_
  rintro e w1 ⟨u1, rfl, hu1, hu2, hs1, ha1⟩
  have h2 := Lib.hid (upto_any b (k + 1) (by omega) wide (by omega) wide (by omega) _ hs1)
  have HR1 := Lib.hid (HR.out.apart (by omega) ha1)
  have HA1 := Lib.hid (HX.out.trans ha1)
  clear h1 HR HX hs1 ha1
  go_wp2_with fail
  refine h2.out.mono ?_
  rintro e w2 ⟨u2, rfl, hv1, hv2, hs2, ha2⟩
  have hR2 := HR1.out.apart (by omega) ha2
  have HA2 := Lib.hid (HA1.out.trans ha2)
  have Hs2 := Lib.hid hs2
  obtain ⟨r0, r1⟩ := hR2.c2
  have f0 := hR2.frozen 0; have f1 := hR2.frozen 1
  have hlo : Hid ((-most ≤ max (-most) (n - u1) ∧ max (-most) (n - u1) ≤ n) ∧ (n ≤ min most (max n (max (-most) (n - u1) + u2)) ∧ min most (max n (max (-most) (n - u1) + u2)) ≤ most) ∧ min most (max n (max (-most) (n - u1) + u2)) - max (-most) (n - u1) ≤ wide) := by
    unfold Hid; omega
  have hB9 := (hR2.set_ 0 (.int .i64 (max (-most) (n - u1)))).set_ 1 (.int .i64 (min most (max n (max (-most) (n - u1) + u2))))
  simp only [List.setIfInBounds_toArray, List.set_cons_succ, List.set_cons_zero] at hB9
  obtain ⟨z0, z1⟩ := hB9.c2
  have hz := Lib.hid (And.intro z0 z1)
  have HA9 := Lib.hid (show Apart b w ((w2.setCell ⟨w.heap.size, 0, none⟩ (.int .i64 (max (-most) (n - u1)))).setCell ⟨w.heap.size, 1, none⟩ (.int .i64 (min most (max n (max (-most) (n - u1) + u2))))) from (HA2.out.above (p := ⟨w.heap.size, 0, none⟩) (Nat.le_refl _) _).above (p := ⟨w.heap.size, 1, none⟩) (Nat.le_refl _) _)
  have Hs9 := Lib.hid (show SpoolAt ((w2.setCell ⟨w.heap.size, 0, none⟩ (.int .i64 (max (-most) (n - u1)))).setCell ⟨w.heap.size, 1, none⟩ (.int .i64 (min most (max n (max (-most) (n - u1) + u2))))) b (k + 2) from Hs2.out.apart hbl (((Apart.refl _ _).set_ 0 _).set_ 1 _))
  clear h2 HR1 HA1 hs2 ha2 hR2 hB9 z0 z1
  go_wp2_with fail
  refine bodyPost_ret (v := .agg #[.int .i64 (max (-most) (n - u1)), .int .i64 (min most (max n (max (-most) (n - u1) + u2)))]) ?_ rfl ⟨_, _, rfl, by have := hlo.out; omega, Hs9.out, HA9.out⟩
  obtain ⟨z0, z1⟩ := hz.out
  simp [results, Try.results16, go_sem, z0, z1]
theorem sixty {o r s m P : Int} (h : o * 60 + r = (s + m) * 60 + P) (hr : 0 ≤ r ∧ r ≤ 59) : o = s + m + P / 60 := by omega
set_option maxRecDepth 20000 in
set_option maxHeartbeats 4000000 in
theorem showsL_any (s g : Int) (m : Nat) (hs : -60 ≤ s ∧ s ≤ 60) (hg : -30 ≤ g ∧ g ≤ 30) (hm : m ≤ 240) (w : World) :
    Calls Try.prog 17 #[.int .i64 s, .int .i64 g, .int .i64 (m : Int)] w fun e w' => e = .returned (.int .i64 (shF s g m)) ∧ w = w' := by
  go_enter Try.func17, Try.ntmps17
  go_wp2_with fail
  go_loopw [7, 8, 11] (fun ov rv iv wr => ∃ k : Nat, ∃ o r P : Int, k ≤ m ∧ ov = .int .i64 o ∧ rv = .int .i64 r ∧ iv = .int .i64 (k : Int) ∧ (0 ≤ r ∧ r ≤ 59) ∧ (-10000 ≤ o ∧ o ≤ 10000) ∧ Hid (-(30 * (k : Int)) ≤ P ∧ P ≤ 30 * (k : Int)) ∧ Hid (P = (k : Int) * g) ∧ Hid (o * 60 + r = (s + (k : Int)) * 60 + P) ∧ w = wr) (fun _ _ iv _ => m - (intOf iv).toNat)
  case atStart => exact ⟨0, s, 0, 0, Nat.zero_le _, rfl, rfl, rfl, by omega, by omega, Lib.hid (by omega), Lib.hid (by simp), Lib.hid (by omega), rfl⟩
  case round =>
    obtain ⟨k, o, r, P, hk, rfl, rfl, rfl, hr, ho, hPb, hP, hO, rfl⟩ := hrel
    by_cases hlt : k < m
    · -- <<A
      go_wp2_with fail
      obtain ⟨w0, hw0⟩ : ∃ z, z = w := ⟨_, rfl⟩
      subst hw0
      go_loopw [7, 8] (fun ov rv wr => ∃ o' r' : Int, ov = .int .i64 o' ∧ rv = .int .i64 r' ∧ (-30 ≤ r' ∧ r' ≤ 89) ∧ (-20000 ≤ o' ∧ o' ≤ 20000) ∧ Hid (o' * 60 + r' = (o + 1) * 60 + (r + g)) ∧ w0 = wr) (fun _ rv _ => (-intOf rv).toNat)
      case atStart => exact ⟨_, _, rfl, rfl, by omega, by omega, Lib.hid rfl, rfl⟩
      case round =>
        obtain ⟨o', r', rfl, rfl, hr', ho', hO', rfl⟩ := hrel
        by_cases hneg : r' < 0
        · -- <<B
          have hb : Hid (-20000 ≤ o' - 1 ∧ o' - 1 ≤ 20000) := by unfold Hid; have := hO'.out; omega
          go_wp2_with fail
          go_roundw
          case rel => exact ⟨o' - 1, r' + 60, rfl, rfl, by omega, hb.out, Lib.hid (by have := hO'.out; omega), by first | exact True.intro | rfl⟩
          case measure => simp [intOf]; omega
          -- >>
        · -- <<C
          go_wp2_with fail
          obtain ⟨w1, hw1⟩ : ∃ z, z = w0 := ⟨_, rfl⟩
          subst hw1
          go_loopw [7, 8] (fun ov rv wr => ∃ o' r' : Int, ov = .int .i64 o' ∧ rv = .int .i64 r' ∧ (0 ≤ r' ∧ r' ≤ 89) ∧ (-20000 ≤ o' ∧ o' ≤ 20000) ∧ Hid (o' * 60 + r' = (o + 1) * 60 + (r + g)) ∧ w1 = wr) (fun _ rv _ => (intOf rv).toNat)
          case atStart => exact ⟨_, _, rfl, rfl, by omega, by omega, hO', rfl⟩
          case round =>
            clear hr' ho' hO' hneg
            obtain ⟨o', r', rfl, rfl, hr', ho', hO', rfl⟩ := hrel
            by_cases hbig : 59 < r'
            · -- <<D
              have hb : Hid (-20000 ≤ o' + 1 ∧ o' + 1 ≤ 20000) := by unfold Hid; have := hO'.out; omega
              go_wp2_with fail
              go_roundw
              case rel => exact ⟨o' + 1, r' - 60, rfl, rfl, by omega, hb.out, Lib.hid (by have := hO'.out; omega), by first | exact True.intro | rfl⟩
              case measure => simp [intOf]; omega
              -- >>
            · -- <<E
              have hP2 : Hid (-(30 * ((k + 1 : Nat) : Int)) ≤ P + g ∧ P + g ≤ 30 * ((k + 1 : Nat) : Int)) := by unfold Hid; have := hPb.out; omega
              have hE2 : Hid (P + g = ((k + 1 : Nat) : Int) * g) := by
                unfold Hid; rw [hP.out, Int.natCast_add, Int.add_mul]; simp
              have hO2 : Hid (o' * 60 + r' = (s + ((k + 1 : Nat) : Int)) * 60 + (P + g)) := by unfold Hid; have := hO'.out; have := hO.out; omega
              have hb : Hid (-10000 ≤ o' ∧ o' ≤ 10000) := by unfold Hid; have := hO2.out; have := hP2.out; omega
              go_wp2_with fail
              go_roundw
              case rel => exact ⟨k + 1, o', r', P + g, by omega, rfl, rfl, by go_num, by omega, hb.out, hP2, hE2, hO2, by first | exact True.intro | rfl⟩
              case measure => simp [intOf]; omega
              -- >>
          -- >>
      -- >>
    · -- <<Z
      obtain rfl : k = m := by omega
      have e := sixty hO.out hr
      have hsh : o = shF s g k := by unfold shF; rw [e, hP.out]
      have Hsh := Lib.hid hsh
      clear e hsh
      go_wp2_with fail
      go_ret
      exact ⟨by rw [Hsh.out]; rfl, rfl⟩
      -- >>
end Go.Proofs.Pet

namespace Go.Proofs.Clk
/-- what a made attic is -/
structure MadeC (a : Att) (S G T : List Int) : Prop where
  mins : 1 ≤ a.minutes ∧ a.minutes ≤ 200
  evs : 1 ≤ a.events ∧ a.events ≤ 4
  tl : (T.length : Int) = a.events
  ts : ∀ t, t ∈ T → 0 ≤ t ∧ t ≤ a.minutes
  ncl : a.clocks.length ≤ 2
  nrd : a.reads.length ≤ 4
  ngp : a.gaps.length ≤ 2
  sl : S.length = a.clocks.length
  gl : G.length = a.clocks.length
  ss : ∀ s, s ∈ S → -60 ≤ s ∧ s ≤ 60
  gs : ∀ g, g ∈ G → -30 ≤ g ∧ g ≤ 30
  cls : ∀ c, c ∈ a.clocks → (-60 ≤ c.sl ∧ c.sl ≤ c.sh ∧ c.sh ≤ 60 ∧ c.sh - c.sl ≤ 4) ∧ (-30 ≤ c.gl ∧ c.gl ≤ c.gh ∧ c.gh ≤ 30 ∧ c.gh - c.gl ≤ 4)
  clk : ∀ c, c < a.clocks.length → ((a.clocks[c]?.getD default).sl ≤ S[c]?.getD 0 ∧ S[c]?.getD 0 ≤ (a.clocks[c]?.getD default).sh) ∧ ((a.clocks[c]?.getD default).gl ≤ G[c]?.getD 0 ∧ G[c]?.getD 0 ≤ (a.clocks[c]?.getD default).gh)
  rds : ∀ r, r ∈ a.reads → ((0 ≤ r.clock ∧ r.clock < a.clocks.length) ∧ (0 ≤ r.event ∧ r.event < a.events)) ∧ shF (S[r.clock.toNat]?.getD 0) (G[r.clock.toNat]?.getD 0) (T[r.event.toNat]?.getD 0) = r.shows
  gps : ∀ g, g ∈ a.gaps → ((0 ≤ g.src ∧ g.src < a.events) ∧ (0 ≤ g.dst ∧ g.dst < a.events) ∧ (-240 ≤ g.lo ∧ g.lo ≤ g.hi ∧ g.hi ≤ 240)) ∧ g.lo ≤ T[g.dst.toNat]?.getD 0 - T[g.src.toNat]?.getD 0 ∧ T[g.dst.toNat]?.getD 0 - T[g.src.toNat]?.getD 0 ≤ g.hi
theorem MadeC.start {mi : Int} {i : Nat} {T : List Int} (h1 : 1 ≤ mi ∧ mi ≤ 200) (h2 : 1 ≤ i ∧ i ≤ 4) (h3 : T.length = i) (h4 : ∀ t, t ∈ T → 0 ≤ t ∧ t ≤ mi) : MadeC ⟨mi, i, [], [], []⟩ [] [] T where
  mins := h1
  evs := by show (1 : Int) ≤ (i : Int) ∧ (i : Int) ≤ 4; omega
  tl := by show ((T.length : Nat) : Int) = (i : Int); omega
  ts := h4
  ncl := Nat.zero_le _
  nrd := Nat.zero_le _
  ngp := Nat.zero_le _
  sl := rfl
  gl := rfl
  ss := fun s h => by cases h
  gs := fun s h => by cases h
  cls := fun s h => by cases h
  clk := fun c h => absurd h (Nat.not_lt_zero c)
  rds := fun s h => by cases h
  gps := fun s h => by cases h
theorem MadeC.pushC {mi ev : Int} {cs : List Cl} {S G T : List Int} (h : MadeC ⟨mi, ev, cs, [], []⟩ S G T) (hl : cs.length < 2) {s g : Int} {c : Cl} (h1 : (-60 ≤ c.sl ∧ c.sl ≤ s ∧ s ≤ c.sh ∧ c.sh ≤ 60 ∧ c.sh - c.sl ≤ 3)) (h2 : (-30 ≤ c.gl ∧ c.gl ≤ g ∧ g ≤ c.gh ∧ c.gh ≤ 30 ∧ c.gh - c.gl ≤ 3)) :
    MadeC ⟨mi, ev, cs ++ [c], [], []⟩ (S ++ [s]) (G ++ [g]) T where
  mins := h.mins
  evs := h.evs
  tl := h.tl
  ts := h.ts
  ncl := by show (cs ++ [c]).length ≤ 2; rw [List.length_append, List.length_singleton]; omega
  nrd := Nat.zero_le _
  ngp := Nat.zero_le _
  sl := by show (S ++ [s]).length = (cs ++ [c]).length; rw [List.length_append, List.length_append]; have : S.length = cs.length := h.sl; rw [this]; rfl
  gl := by show (G ++ [g]).length = (cs ++ [c]).length; rw [List.length_append, List.length_append]; have : G.length = cs.length := h.gl; rw [this]; rfl
  ss := fun x hx => by
    rcases List.mem_append.1 hx with h' | h'
    · exact h.ss x h'
    · rw [List.mem_singleton] at h'; subst h'; omega
  gs := fun x hx => by
    rcases List.mem_append.1 hx with h' | h'
    · exact h.gs x h'
    · rw [List.mem_singleton] at h'; subst h'; omega
  cls := fun x hx => by
    rcases List.mem_append.1 (show x ∈ cs ++ [c] from hx) with h' | h'
    · exact h.cls x h'
    · rw [List.mem_singleton] at h'; subst h'; omega
  clk := fun j hj => by
    have hj' : j < (cs ++ [c]).length := hj
    rw [List.length_append, List.length_singleton] at hj'
    have e1 : S.length = cs.length := h.sl
    have e2 : G.length = cs.length := h.gl
    show ((((cs ++ [c])[j]?.getD default).sl ≤ (S ++ [s])[j]?.getD 0 ∧ (S ++ [s])[j]?.getD 0 ≤ ((cs ++ [c])[j]?.getD default).sh) ∧ (((cs ++ [c])[j]?.getD default).gl ≤ (G ++ [g])[j]?.getD 0 ∧ (G ++ [g])[j]?.getD 0 ≤ ((cs ++ [c])[j]?.getD default).gh))
    by_cases hlt : j < cs.length
    · rw [List.getElem?_append_left hlt, List.getElem?_append_left (by omega), List.getElem?_append_left (by omega)]
      exact h.clk j hlt
    · obtain rfl : j = cs.length := by omega
      rw [List.getElem?_append_right (Nat.le_refl _), List.getElem?_append_right (by omega), List.getElem?_append_right (by omega), e1, e2, Nat.sub_self]
      show (c.sl ≤ s ∧ s ≤ c.sh) ∧ (c.gl ≤ g ∧ g ≤ c.gh)
      omega
  rds := fun s h => by cases h
  gps := fun s h => by cases h
theorem MadeC.pushR {a : Att} {S G T : List Int} (h : MadeC a S G T) (hl : a.reads.length < 4) {r : Rd} (h1 : (0 ≤ r.clock ∧ r.clock < a.clocks.length) ∧ (0 ≤ r.event ∧ r.event < a.events)) (h2 : shF (S[r.clock.toNat]?.getD 0) (G[r.clock.toNat]?.getD 0) (T[r.event.toNat]?.getD 0) = r.shows) : MadeC { a with reads := a.reads ++ [r] } S G T :=
  { h with
    nrd := by show (a.reads ++ [r]).length ≤ 4; rw [List.length_append, List.length_singleton]; omega
    rds := fun x hx => by
      rcases List.mem_append.1 (show x ∈ a.reads ++ [r] from hx) with h' | h'
      · exact h.rds x h'
      · rw [List.mem_singleton] at h'; subst h'; exact ⟨h1, h2⟩ }
theorem MadeC.pushG {a : Att} {S G T : List Int} (h : MadeC a S G T) (hl : a.gaps.length < 2) {g : Gp} (h1 : (0 ≤ g.src ∧ g.src < a.events) ∧ (0 ≤ g.dst ∧ g.dst < a.events) ∧ (-240 ≤ g.lo ∧ g.hi ≤ 240)) (h2 : g.lo ≤ T[g.dst.toNat]?.getD 0 - T[g.src.toNat]?.getD 0 ∧ T[g.dst.toNat]?.getD 0 - T[g.src.toNat]?.getD 0 ≤ g.hi) : MadeC { a with gaps := a.gaps ++ [g] } S G T :=
  { h with
    ngp := by show (a.gaps ++ [g]).length ≤ 2; rw [List.length_append, List.length_singleton]; omega
    gps := fun x hx => by
      rcases List.mem_append.1 (show x ∈ a.gaps ++ [g] from hx) with h' | h'
      · exact h.gps x h'
      · rw [List.mem_singleton] at h'; subst h'; exact ⟨⟨h1.1, h1.2.1, by omega⟩, h2⟩ }
theorem getD_mem {l : List Int} {P : Int → Prop} (h : ∀ x, x ∈ l → P x) (h0 : P 0) (k : Nat) : P (l[k]?.getD 0) := by
  rcases Nat.lt_or_ge k l.length with hk | hk
  · rw [List.getElem?_eq_getElem hk]; exact h _ (List.getElem_mem hk)
  · rw [List.getElem?_eq_none hk]; exact h0
theorem shF_bd {s g m : Int} (hs : -60 ≤ s ∧ s ≤ 60) (hg : -30 ≤ g ∧ g ≤ 30) (hm : 0 ≤ m ∧ m ≤ 200) : -999 ≤ shF s g m ∧ shF s g m ≤ 999 := by
  unfold shF
  have h1 : m * g ≤ m * 30 := Int.mul_le_mul_of_nonneg_left hg.2 hm.1
  have h2 : m * (-30) ≤ m * g := Int.mul_le_mul_of_nonneg_left hg.1 hm.1
  omega
theorem MadeC.fits {a : Att} {S G T : List Int} (h : MadeC a S G T) : Fits a (fun c => S[c]?.getD 0) (fun c => G[c]?.getD 0) (fun e => T[e]?.getD 0) :=
  ⟨h.clk, fun e _ => getD_mem h.ts (by have := h.mins; omega) e, fun r hr => (h.rds r hr).2, fun g hg => (h.gps g hg).2⟩
end Go.Proofs.Clk
namespace Go.Proofs.Pet
open Go Go.RowKit Go.Maps Go.Shelf
open Go.Proofs.Clk (Cl Rd Gp Att shF MadeC)

theorem made_attok {a : Att} {S G T : List Int} (h : MadeC a S G T) : AttOk a := by
  have hm := h.mins
  refine ⟨by omega, h.evs, by have := h.ncl; omega, by have := h.nrd; omega, by have := h.ngp; omega, h.cls, fun r hr => ?_, fun g hg => (h.gps g hg).1⟩
  obtain ⟨⟨h1, h2⟩, h3⟩ := h.rds r hr
  refine ⟨?_, h1, h2⟩
  rw [← h3]
  exact Clk.shF_bd (Clk.getD_mem h.ss (by omega) _) (Clk.getD_mem h.gs (by omega) _) (by have := Clk.getD_mem (P := fun x => 0 ≤ x ∧ x ≤ a.minutes) h.ts (by omega) r.event.toNat; omega)
theorem Apart.grownC {b : Nat} {w0 w1 W' : World} {v : Value} (h : Apart b w0 w1) (hg : w1.grownBy W' v.ownBlock) (hr : ∀ j, v.ownBlock = some j → w0.heap.size ≤ j) : Apart b w0 W' := by
  obtain ⟨g1, g2, g3, g4, g5⟩ := h
  refine ⟨hg.os.trans g1, hg.tape.trans g2, hg.output.trans g3, Nat.le_trans g4 hg.size, fun j hj hne => ?_⟩
  rw [hg.block j (by omega) (fun e => by have := hr j e.symm; omega)]
  exact g5 j hj hne
theorem SpoolAt.grownC {b k : Nat} {W W' : World} {v : Value} (h : SpoolAt W b k) (hg : W.grownBy W' v.ownBlock) (hr : ∀ j, v.ownBlock = some j → b < j) : SpoolAt W' b k := by
  obtain ⟨A, n, c, st, a, h1, h2, h3, h4, h5⟩ := h
  refine ⟨A, n, c, st, a, h1.grown hg (fun e => by have := hr b e.symm; omega), h2, h3, h4, fun j hj => ?_⟩
  obtain ⟨b', o, u, rfl, g2, g3⟩ := h5 j hj
  refine ⟨b', o, u, rfl, g2, ?_⟩
  have hlt := cell_lt g3
  unfold World.cell? at g3 ⊢
  rw [hg.block b' hlt (fun e => by have := hr b' e.symm; omega)]
  exact g3
theorem SpoolAt.setC {b k g : Nat} {W : World} (h : SpoolAt W b k) (hg : b < g) (i : Nat) (u : Value) : SpoolAt (W.setCell ⟨g, i, none⟩ u) b k := h.apart hg ((Apart.refl g W).set_ i u)
def Z5 : Array Value := #[.int .i64 0, .int .i64 0, .slice none 0 0, .slice none 0 0, .slice none 0 0]
def Z3 : Array Value := #[.slice none 0 0, .slice none 0 0, .slice none 0 0]
/-- the blocks at work: w0 is the world at first, b the spool's block, O the attic's, Tb the truth's; rows lie from B0 on -/
structure MkB (w0 : World) (b O Tb B0 k : Nat) (mi ev : Int) (cv rv gv sv nv tv : Value) (W : World) : Prop where
  ap : Apart b w0 W
  sp : SpoolAt W b k
  br : Blk W w0.heap.size 27 Z5
  bq : Blk W (w0.heap.size + 1) 30 Z3
  bo : Blk W O 27 #[.int .i64 mi, .int .i64 ev, cv, rv, gv]
  bt : Blk W Tb 30 #[sv, nv, tv]
  lt : b < w0.heap.size ∧ w0.heap.size + 1 < O ∧ O < Tb ∧ Tb < B0
section
variable {w0 W W' : World} {b O Tb B0 k k' : Nat} {mi ev : Int} {cv rv gv sv nv tv : Value}
theorem MkB.turn (h : MkB w0 b O Tb B0 k mi ev cv rv gv sv nv tv W) (ha : Apart b W W') (hs : SpoolAt W' b k') : MkB w0 b O Tb B0 k' mi ev cv rv gv sv nv tv W' := by
  obtain ⟨h1, h2, h3, h4, h5, h6, g1, g2, g3, g4⟩ := h
  exact ⟨h1.trans ha, hs, h3.apart (by omega) ha, h4.apart (by omega) ha, h5.apart (by omega) ha, h6.apart (by omega) ha, g1, g2, g3, g4⟩
theorem MkB.ext (h : MkB w0 b O Tb B0 k mi ev cv rv gv sv nv tv W) (he : Ext W W') : MkB w0 b O Tb B0 k mi ev cv rv gv sv nv tv W' := h.turn (Apart.of_ext he) (h.sp.ext he)
theorem MkB.grown {v : Value} (h : MkB w0 b O Tb B0 k mi ev cv rv gv sv nv tv W) (hg : W.grownBy W' v.ownBlock) (hge : ∀ j, v.ownBlock = some j → B0 ≤ j) : MkB w0 b O Tb B0 k mi ev cv rv gv sv nv tv W' := by
  obtain ⟨h1, h2, h3, h4, h5, h6, g1, g2, g3, g4⟩ := h
  have hne : ∀ x, x < B0 → some x ≠ v.ownBlock := fun x hx e => by have := hge x e.symm; omega
  exact ⟨h1.grownC hg (fun j hj => by have := hge j hj; omega), h2.grownC hg (fun j hj => by have := hge j hj; omega), h3.grown hg (hne _ (by omega)), h4.grown hg (hne _ (by omega)), h5.grown hg (hne _ (by omega)), h6.grown hg (hne _ (by omega)), g1, g2, g3, g4⟩
theorem MkB.setO2 (h : MkB w0 b O Tb B0 k mi ev cv rv gv sv nv tv W) (u : Value) : MkB w0 b O Tb B0 k mi ev u rv gv sv nv tv (W.setCell ⟨O, 2, none⟩ u) := by
  obtain ⟨h1, h2, h3, h4, h5, h6, g1, g2, g3, g4⟩ := h
  exact ⟨h1.above (by show w0.heap.size ≤ O; omega) _, h2.setC (by omega) _ _, h3.far (by show w0.heap.size ≠ O; omega) _, h4.far (by show w0.heap.size + 1 ≠ O; omega) _, by simpa using h5.set_ 2 u, h6.far (by show Tb ≠ O; omega) _, g1, g2, g3, g4⟩
theorem MkB.setO3 (h : MkB w0 b O Tb B0 k mi ev cv rv gv sv nv tv W) (u : Value) : MkB w0 b O Tb B0 k mi ev cv u gv sv nv tv (W.setCell ⟨O, 3, none⟩ u) := by
  obtain ⟨h1, h2, h3, h4, h5, h6, g1, g2, g3, g4⟩ := h
  exact ⟨h1.above (by show w0.heap.size ≤ O; omega) _, h2.setC (by omega) _ _, h3.far (by show w0.heap.size ≠ O; omega) _, h4.far (by show w0.heap.size + 1 ≠ O; omega) _, by simpa using h5.set_ 3 u, h6.far (by show Tb ≠ O; omega) _, g1, g2, g3, g4⟩
theorem MkB.setO4 (h : MkB w0 b O Tb B0 k mi ev cv rv gv sv nv tv W) (u : Value) : MkB w0 b O Tb B0 k mi ev cv rv u sv nv tv (W.setCell ⟨O, 4, none⟩ u) := by
  obtain ⟨h1, h2, h3, h4, h5, h6, g1, g2, g3, g4⟩ := h
  exact ⟨h1.above (by show w0.heap.size ≤ O; omega) _, h2.setC (by omega) _ _, h3.far (by show w0.heap.size ≠ O; omega) _, h4.far (by show w0.heap.size + 1 ≠ O; omega) _, by simpa using h5.set_ 4 u, h6.far (by show Tb ≠ O; omega) _, g1, g2, g3, g4⟩
theorem MkB.setT0 (h : MkB w0 b O Tb B0 k mi ev cv rv gv sv nv tv W) (u : Value) : MkB w0 b O Tb B0 k mi ev cv rv gv u nv tv (W.setCell ⟨Tb, 0, none⟩ u) := by
  obtain ⟨h1, h2, h3, h4, h5, h6, g1, g2, g3, g4⟩ := h
  exact ⟨h1.above (by show w0.heap.size ≤ Tb; omega) _, h2.setC (by omega) _ _, h3.far (by show w0.heap.size ≠ Tb; omega) _, h4.far (by show w0.heap.size + 1 ≠ Tb; omega) _, h5.far (by show O ≠ Tb; omega) _, by simpa using h6.set_ 0 u, g1, g2, g3, g4⟩
theorem MkB.setT1 (h : MkB w0 b O Tb B0 k mi ev cv rv gv sv nv tv W) (u : Value) : MkB w0 b O Tb B0 k mi ev cv rv gv sv u tv (W.setCell ⟨Tb, 1, none⟩ u) := by
  obtain ⟨h1, h2, h3, h4, h5, h6, g1, g2, g3, g4⟩ := h
  exact ⟨h1.above (by show w0.heap.size ≤ Tb; omega) _, h2.setC (by omega) _ _, h3.far (by show w0.heap.size ≠ Tb; omega) _, h4.far (by show w0.heap.size + 1 ≠ Tb; omega) _, h5.far (by show O ≠ Tb; omega) _, by simpa using h6.set_ 1 u, g1, g2, g3, g4⟩
theorem MkB.setT2 (h : MkB w0 b O Tb B0 k mi ev cv rv gv sv nv tv W) (u : Value) : MkB w0 b O Tb B0 k mi ev cv rv gv sv nv u (W.setCell ⟨Tb, 2, none⟩ u) := by
  obtain ⟨h1, h2, h3, h4, h5, h6, g1, g2, g3, g4⟩ := h
  exact ⟨h1.above (by show w0.heap.size ≤ Tb; omega) _, h2.setC (by omega) _ _, h3.far (by show w0.heap.size ≠ Tb; omega) _, h4.far (by show w0.heap.size + 1 ≠ Tb; omega) _, h5.far (by show O ≠ Tb; omega) _, by simpa using h6.set_ 2 u, g1, g2, g3, g4⟩
end
/-- no block in common -/
def NoCom (u v : Value) : Prop := ∀ g, u.ownBlock = some g → v.ownBlock ≠ some g
theorem NoCom.symm {u v : Value} (h : NoCom u v) : NoCom v u := fun g h1 h2 => h g h2 h1
theorem NoCom.grown {u v v' : Value} {W : World} {base n size : Nat} {e : TypeId} {xs : List Value} (h : NoCom u v) (hu : W.ownsRow base e size u n xs) (hb : v'.ownBlock = v.ownBlock ∨ v'.ownBlock = some W.heap.size) : NoCom u v' := by
  intro g h1 h2
  rcases hb with hb | hb
  · rw [hb] at h2; exact h g h1 h2
  · have := (ownsRow_own hu g h1).2
    rw [hb] at h2
    have := Option.some.inj h2
    omega
theorem NoCom.nil (u : Value) : NoCom u (.slice none 0 0) := fun g _ h => by cases h
/-- all that is at work -/
structure MkC (w0 : World) (b O Tb B0 k : Nat) (a : Att) (S G T : List Int) (cv rv gv sv nv tv : Value) (W : World) : Prop where
  bk : MkB w0 b O Tb B0 k a.minutes a.events cv rv gv sv nv tv W
  at_ : AttO W B0 cv rv gv a
  os : OwnI W B0 3 sv S
  on : OwnI W B0 3 nv G
  ot : OwnI W B0 3 tv T
  n1 : NoCom sv nv
  n2 : NoCom sv tv
  n3 : NoCom nv tv
section
variable {w0 W W' : World} {b O Tb B0 k k' : Nat} {a : Att} {S G T : List Int} {cv rv gv sv nv tv : Value}
theorem AttO.turn {a : Att} {base : Nat} (h : AttO W base cv rv gv a) (hb : b < base) (ha : Apart b W W') : AttO W' base cv rv gv a :=
  ⟨ownsRow_apart h.cl (fun e => by have := (ownsRow_own h.cl b e).1; omega) ha, ownsRow_apart h.rd (fun e => by have := (ownsRow_own h.rd b e).1; omega) ha, ownsRow_apart h.gp (fun e => by have := (ownsRow_own h.gp b e).1; omega) ha⟩
theorem MkC.turn (h : MkC w0 b O Tb B0 k a S G T cv rv gv sv nv tv W) (ha : Apart b W W') (hs : SpoolAt W' b k') : MkC w0 b O Tb B0 k' a S G T cv rv gv sv nv tv W' := by
  have hl := h.bk.lt
  exact ⟨h.bk.turn ha hs, h.at_.turn (by omega) ha, h.os.apartB (by omega) ha, h.on.apartB (by omega) ha, h.ot.apartB (by omega) ha, h.n1, h.n2, h.n3⟩
theorem MkC.ext (h : MkC w0 b O Tb B0 k a S G T cv rv gv sv nv tv W) (he : Ext W W') : MkC w0 b O Tb B0 k a S G T cv rv gv sv nv tv W' := h.turn (Apart.of_ext he) (h.bk.sp.ext he)
theorem MkC.monoK (h : MkC w0 b O Tb B0 k a S G T cv rv gv sv nv tv W) (hk : k ≤ k') : MkC w0 b O Tb B0 k' a S G T cv rv gv sv nv tv W := h.turn (Apart.refl _ _) (h.bk.sp.mono hk)
theorem AttO.grownI {a : Att} {base base' n : Nat} {v : Value} {xs : List Value} (h : AttO W base cv rv gv a) (hg : W.grownBy W' v.ownBlock) (hv : W.ownsRow base' 3 1 v n xs) : AttO W' base cv rv gv a :=
  ⟨ownsRow_grownT h.cl (by decide) hg hv, ownsRow_grownT h.rd (by decide) hg hv, ownsRow_grownT h.gp (by decide) hg hv⟩
theorem MkC.pushT {u : Value} {x : Int} (h : MkC w0 b O Tb B0 k a S G T cv rv gv sv nv tv W) (hown : W'.ownsRow B0 3 1 u (T.length + 1) (T.map (Value.int .i64) ++ [.int .i64 x])) (hg : W.grownBy W' tv.ownBlock) (hblk : u.ownBlock = tv.ownBlock ∨ u.ownBlock = some W.heap.size) :
    (W'.cell? ⟨Tb, 2, none⟩ = some tv ∧ W'.frozen? ⟨Tb, 2, none⟩ = false) ∧ MkC w0 b O Tb B0 k a S G (T ++ [x]) cv rv gv sv nv u (W'.setCell ⟨Tb, 2, none⟩ u) := by
  have hB := h.bk.grown hg (fun j hj => (ownsRow_own h.ot j hj).1)
  have hT := hB.bt
  exact ⟨⟨hT.cell 2, hT.frozen 2⟩, hB.setT2 u, (h.at_.grownI hg h.ot).far hT (by decide) (by decide) (by decide) 2 u, ((h.os.grownI hg h.ot h.n2).far hT (by decide) 2 u), ((h.on.grownI hg h.ot h.n3).far hT (by decide) 2 u), ((show OwnI W' B0 3 u (T ++ [x]) by unfold OwnI; rw [List.length_append, List.map_append]; exact hown).far hT (by decide) 2 u), h.n1, (NoCom.grown h.n2 h.os hblk), (NoCom.grown h.n3 h.on hblk)⟩
theorem MkC.pushC {u : Value} {x : Cl} (h : MkC w0 b O Tb B0 k a S G T cv rv gv sv nv tv W) (hown : W'.ownsRow B0 64 4 u (a.clocks.length + 1) (flatG encCl a.clocks ++ encCl x)) (hg : W.grownBy W' cv.ownBlock) :
    (W'.cell? ⟨O, 2, none⟩ = some cv ∧ W'.frozen? ⟨O, 2, none⟩ = false) ∧ MkC w0 b O Tb B0 k { a with clocks := a.clocks ++ [x] } S G T u rv gv sv nv tv (W'.setCell ⟨O, 2, none⟩ u) := by
  have hB := h.bk.grown hg (fun j hj => (ownsRow_own h.at_.cl j hj).1)
  have hO := hB.bo
  exact ⟨⟨hO.cell 2, hO.frozen 2⟩, hB.setO2 u, (show AttO W' B0 u rv gv { a with clocks := a.clocks ++ [x] } from ⟨(by show W'.ownsRow B0 64 4 u (a.clocks ++ [x]).length (flatG encCl (a.clocks ++ [x])); rw [flatG_append, flatG_one, List.length_append, List.length_singleton]; exact hown), (ownsRow_grownT h.at_.rd (by decide) hg h.at_.cl), (ownsRow_grownT h.at_.gp (by decide) hg h.at_.cl)⟩).far hO (by decide) (by decide) (by decide) 2 u, (OwnI.grownT h.os (by decide) hg h.at_.cl).far hO (by decide) 2 u, (OwnI.grownT h.on (by decide) hg h.at_.cl).far hO (by decide) 2 u, (OwnI.grownT h.ot (by decide) hg h.at_.cl).far hO (by decide) 2 u, h.n1, h.n2, h.n3⟩
theorem MkC.pushR {u : Value} {x : Rd} (h : MkC w0 b O Tb B0 k a S G T cv rv gv sv nv tv W) (hown : W'.ownsRow B0 66 3 u (a.reads.length + 1) (flatG encRd a.reads ++ encRd x)) (hg : W.grownBy W' rv.ownBlock) :
    (W'.cell? ⟨O, 3, none⟩ = some rv ∧ W'.frozen? ⟨O, 3, none⟩ = false) ∧ MkC w0 b O Tb B0 k { a with reads := a.reads ++ [x] } S G T cv u gv sv nv tv (W'.setCell ⟨O, 3, none⟩ u) := by
  have hB := h.bk.grown hg (fun j hj => (ownsRow_own h.at_.rd j hj).1)
  have hO := hB.bo
  exact ⟨⟨hO.cell 3, hO.frozen 3⟩, hB.setO3 u, (show AttO W' B0 cv u gv { a with reads := a.reads ++ [x] } from ⟨(ownsRow_grownT h.at_.cl (by decide) hg h.at_.rd), (by show W'.ownsRow B0 66 3 u (a.reads ++ [x]).length (flatG encRd (a.reads ++ [x])); rw [flatG_append, flatG_one, List.length_append, List.length_singleton]; exact hown), (ownsRow_grownT h.at_.gp (by decide) hg h.at_.rd)⟩).far hO (by decide) (by decide) (by decide) 3 u, (OwnI.grownT h.os (by decide) hg h.at_.rd).far hO (by decide) 3 u, (OwnI.grownT h.on (by decide) hg h.at_.rd).far hO (by decide) 3 u, (OwnI.grownT h.ot (by decide) hg h.at_.rd).far hO (by decide) 3 u, h.n1, h.n2, h.n3⟩
theorem MkC.pushG {u : Value} {x : Gp} (h : MkC w0 b O Tb B0 k a S G T cv rv gv sv nv tv W) (hown : W'.ownsRow B0 58 4 u (a.gaps.length + 1) (flatG encGp a.gaps ++ encGp x)) (hg : W.grownBy W' gv.ownBlock) :
    (W'.cell? ⟨O, 4, none⟩ = some gv ∧ W'.frozen? ⟨O, 4, none⟩ = false) ∧ MkC w0 b O Tb B0 k { a with gaps := a.gaps ++ [x] } S G T cv rv u sv nv tv (W'.setCell ⟨O, 4, none⟩ u) := by
  have hB := h.bk.grown hg (fun j hj => (ownsRow_own h.at_.gp j hj).1)
  have hO := hB.bo
  exact ⟨⟨hO.cell 4, hO.frozen 4⟩, hB.setO4 u, (show AttO W' B0 cv rv u { a with gaps := a.gaps ++ [x] } from ⟨(ownsRow_grownT h.at_.cl (by decide) hg h.at_.gp), (ownsRow_grownT h.at_.rd (by decide) hg h.at_.gp), (by show W'.ownsRow B0 58 4 u (a.gaps ++ [x]).length (flatG encGp (a.gaps ++ [x])); rw [flatG_append, flatG_one, List.length_append, List.length_singleton]; exact hown)⟩).far hO (by decide) (by decide) (by decide) 4 u, (OwnI.grownT h.os (by decide) hg h.at_.gp).far hO (by decide) 4 u, (OwnI.grownT h.on (by decide) hg h.at_.gp).far hO (by decide) 4 u, (OwnI.grownT h.ot (by decide) hg h.at_.gp).far hO (by decide) 4 u, h.n1, h.n2, h.n3⟩
theorem NoB.of {r base size n : Nat} {t e : TypeId} {v : Value} {xs : List Value} {cs : Array Value} (h : W.ownsRow base e size v n xs) (hb : Blk W r t cs) (hne : t ≠ e) : ∀ g, v.ownBlock = some g → g ≠ r := fun g hg e' => by
  subst e'
  exact ownsRow_ne_blk h hb hne hg.symm
theorem ownsRow_off {r base size n : Nat} {e : TypeId} {v : Value} {xs : List Value} (h : W.ownsRow base e size v n xs) (hr : ∀ g, v.ownBlock = some g → g ≠ r) (i : Nat) (u : Value) : (W.setCell ⟨r, i, none⟩ u).ownsRow base e size v n xs :=
  ownsRow_apart h (fun e' => hr r e' rfl) ((Apart.refl r W).set_ i u)
/-- a store into a block beside all these -/
theorem MkC.off {r : Nat} {t : TypeId} {xs : Array Value} (h : MkC w0 b O Tb B0 k a S G T cv rv gv sv nv tv W) (hb : Blk W r t xs) (ht : t ≠ 3) (hr : Tb < r) (h1 : ∀ g, cv.ownBlock = some g → g ≠ r) (h2 : ∀ g, rv.ownBlock = some g → g ≠ r) (h3 : ∀ g, gv.ownBlock = some g → g ≠ r) (i : Nat) (u : Value) :
    MkC w0 b O Tb B0 k a S G T cv rv gv sv nv tv (W.setCell ⟨r, i, none⟩ u) := by
  obtain ⟨⟨b1, b2, b3, b4, b5, b6, g1, g2, g3, g4⟩, h7, h8, h9, h10, n1, n2, n3⟩ := h
  exact ⟨⟨b1.above (by show w0.heap.size ≤ r; omega) _, b2.setC (by omega) _ _, b3.far (by show w0.heap.size ≠ r; omega) _, b4.far (by show w0.heap.size + 1 ≠ r; omega) _, b5.far (by show O ≠ r; omega) _, b6.far (by show Tb ≠ r; omega) _, g1, g2, g3, g4⟩, ⟨ownsRow_off h7.cl h1 i u, ownsRow_off h7.rd h2 i u, ownsRow_off h7.gp h3 i u⟩, h8.far hb ht i u, h9.far hb ht i u, h10.far hb ht i u, n1, n2, n3⟩
/-- as MkC, where the truth's cells (sc nc) may hold older rows -/
structure MkX (w0 : World) (b O Tb B0 k : Nat) (a : Att) (S G T : List Int) (cv rv gv sc nc sv nv tv : Value) (W : World) : Prop where
  bk : MkB w0 b O Tb B0 k a.minutes a.events cv rv gv sc nc tv W
  at_ : AttO W B0 cv rv gv a
  os : OwnI W B0 3 sv S
  on : OwnI W B0 3 nv G
  ot : OwnI W B0 3 tv T
  n1 : NoCom sv nv
  n2 : NoCom sv tv
  n3 : NoCom nv tv
variable {sc nc : Value}
theorem MkC.x (h : MkC w0 b O Tb B0 k a S G T cv rv gv sv nv tv W) : MkX w0 b O Tb B0 k a S G T cv rv gv sv nv sv nv tv W := ⟨h.bk, h.at_, h.os, h.on, h.ot, h.n1, h.n2, h.n3⟩
theorem MkX.c (h : MkX w0 b O Tb B0 k a S G T cv rv gv sv nv sv nv tv W) : MkC w0 b O Tb B0 k a S G T cv rv gv sv nv tv W := ⟨h.bk, h.at_, h.os, h.on, h.ot, h.n1, h.n2, h.n3⟩
theorem MkX.ext (h : MkX w0 b O Tb B0 k a S G T cv rv gv sc nc sv nv tv W) (he : Ext W W') : MkX w0 b O Tb B0 k a S G T cv rv gv sc nc sv nv tv W' :=
  ⟨h.bk.ext he, h.at_.ext he, h.os.ext he, h.on.ext he, h.ot.ext he, h.n1, h.n2, h.n3⟩
theorem MkX.growS {u : Value} {x : Int} (h : MkX w0 b O Tb B0 k a S G T cv rv gv sc nc sv nv tv W) (hown : W'.ownsRow B0 3 1 u (S.length + 1) (S.map (Value.int .i64) ++ [.int .i64 x])) (hg : W.grownBy W' sv.ownBlock) (hblk : u.ownBlock = sv.ownBlock ∨ u.ownBlock = some W.heap.size) :
    MkX w0 b O Tb B0 k a (S ++ [x]) G T cv rv gv sc nc u nv tv W' :=
  ⟨h.bk.grown hg (fun j hj => (ownsRow_own h.os j hj).1), h.at_.grownI hg h.os, by unfold OwnI; rw [List.length_append, List.map_append]; exact hown, h.on.grownI hg h.os h.n1.symm, h.ot.grownI hg h.os h.n2.symm, (NoCom.grown h.n1.symm h.on hblk).symm, (NoCom.grown h.n2.symm h.ot hblk).symm, h.n3⟩
theorem MkX.growN {u : Value} {x : Int} (h : MkX w0 b O Tb B0 k a S G T cv rv gv sc nc sv nv tv W) (hown : W'.ownsRow B0 3 1 u (G.length + 1) (G.map (Value.int .i64) ++ [.int .i64 x])) (hg : W.grownBy W' nv.ownBlock) (hblk : u.ownBlock = nv.ownBlock ∨ u.ownBlock = some W.heap.size) :
    MkX w0 b O Tb B0 k a S (G ++ [x]) T cv rv gv sc nc sv u tv W' :=
  ⟨h.bk.grown hg (fun j hj => (ownsRow_own h.on j hj).1), h.at_.grownI hg h.on, h.os.grownI hg h.on h.n1, by unfold OwnI; rw [List.length_append, List.map_append]; exact hown, h.ot.grownI hg h.on h.n3.symm, NoCom.grown h.n1 h.os hblk, h.n2, (NoCom.grown h.n3.symm h.ot hblk).symm⟩
theorem MkX.set0 (h : MkX w0 b O Tb B0 k a S G T cv rv gv sc nc sv nv tv W) (u : Value) : MkX w0 b O Tb B0 k a S G T cv rv gv u nc sv nv tv (W.setCell ⟨Tb, 0, none⟩ u) :=
  ⟨h.bk.setT0 u, h.at_.far h.bk.bt (by decide) (by decide) (by decide) 0 u, h.os.far h.bk.bt (by decide) 0 u, h.on.far h.bk.bt (by decide) 0 u, h.ot.far h.bk.bt (by decide) 0 u, h.n1, h.n2, h.n3⟩
theorem MkX.set1 (h : MkX w0 b O Tb B0 k a S G T cv rv gv sc nc sv nv tv W) (u : Value) : MkX w0 b O Tb B0 k a S G T cv rv gv sc u sv nv tv (W.setCell ⟨Tb, 1, none⟩ u) :=
  ⟨h.bk.setT1 u, h.at_.far h.bk.bt (by decide) (by decide) (by decide) 1 u, h.os.far h.bk.bt (by decide) 1 u, h.on.far h.bk.bt (by decide) 1 u, h.ot.far h.bk.bt (by decide) 1 u, h.n1, h.n2, h.n3⟩
end
end Go.Proofs.Pet
