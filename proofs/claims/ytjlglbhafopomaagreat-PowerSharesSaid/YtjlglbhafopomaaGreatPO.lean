/-
  Mills of the call's own: shafts, and weavers each with hours of its own; copies of them.
-/
import Derived.Test.YtjlglbhafopomaaGreatPBC
namespace Go.Proofs.Pet
open Go Go.RowKit Go.Maps Go.Shelf
open Go.Proofs.Pow (PM Sh Wv POk Up)

def shFlat : List Sh → List Value
  | [] => []
  | x :: xs => .int .i64 x.up :: .int .i64 x.price :: shFlat xs
theorem shFlat_len : ∀ xs : List Sh, (shFlat xs).length = xs.length * 2
  | [] => rfl
  | x :: xs => by simp [shFlat, shFlat_len xs]; omega
theorem shFlat_one : ∀ (xs : List Sh), ∀ u ∈ shFlat xs, u.oneCell' = true
  | [], u, h => by cases h
  | x :: xs, u, h => by
    simp only [shFlat, List.mem_cons] at h
    rcases h with rfl | rfl | h
    · rfl
    · rfl
    · exact shFlat_one xs u h
theorem shFlat_append : ∀ xs ys : List Sh, shFlat (xs ++ ys) = shFlat xs ++ shFlat ys
  | [], _ => rfl
  | x :: xs, ys => by simp [shFlat, shFlat_append xs ys]
theorem shFlat_at : ∀ (xs : List Sh) (k : Nat), k < xs.length → (shFlat xs)[k * 2]? = some (.int .i64 (xs[k]?.getD default).up) ∧ (shFlat xs)[k * 2 + 1]? = some (.int .i64 (xs[k]?.getD default).price)
  | x :: xs, 0, _ => ⟨rfl, rfl⟩
  | x :: xs, k + 1, h => by
    have := shFlat_at xs k (by simpa using h)
    rw [show (k + 1) * 2 = k * 2 + 1 + 1 by omega]
    simpa [shFlat] using this
/-- weavers as cells, R says what their hours are -/
def WvF (R : Value → Wv → Prop) : List Value → List Wv → Prop
  | [], [] => True
  | s :: u :: cs, x :: xs => s = .int .i64 x.shaft ∧ R u x ∧ WvF R cs xs
  | _, _ => False
theorem WvF.map {R S : Value → Wv → Prop} (f : ∀ u x, R u x → S u x) : ∀ {cs : List Value} {xs : List Wv}, WvF R cs xs → WvF S cs xs
  | [], [], _ => trivial
  | _ :: _ :: _, _ :: _, ⟨h1, h2, h3⟩ => ⟨h1, f _ _ h2, h3.map f⟩
theorem WvF.append {R : Value → Wv → Prop} : ∀ {cs : List Value} {xs : List Wv} {ds : List Value} {ys : List Wv}, WvF R cs xs → WvF R ds ys → WvF R (cs ++ ds) (xs ++ ys)
  | [], [], _, _, _, h => h
  | _ :: _ :: _, _ :: _, _, _, ⟨h1, h2, h3⟩, h => ⟨h1, h2, h3.append h⟩
theorem WvF.length {R : Value → Wv → Prop} : ∀ {cs : List Value} {xs : List Wv}, WvF R cs xs → cs.length = xs.length * 2
  | [], [], _ => rfl
  | _ :: _ :: _, _ :: _, ⟨_, _, h3⟩ => by have := h3.length; simp; omega
theorem WvF.one {R : Value → Wv → Prop} (hR : ∀ u x, R u x → u.oneCell' = true) : ∀ {cs : List Value} {xs : List Wv}, WvF R cs xs → ∀ u ∈ cs, u.oneCell' = true
  | [], [], _, u, h => by cases h
  | _ :: _ :: _, _ :: _, ⟨h1, h2, h3⟩, u, h => by
    subst h1
    simp only [List.mem_cons] at h
    rcases h with rfl | rfl | h
    · rfl
    · exact hR _ _ h2
    · exact h3.one hR u h
theorem WvF.at_ {R : Value → Wv → Prop} : ∀ {cs : List Value} {xs : List Wv}, WvF R cs xs → ∀ k, k < xs.length → cs[k * 2]? = some (.int .i64 (xs[k]?.getD default).shaft) ∧ ∃ u, cs[k * 2 + 1]? = some u ∧ R u (xs[k]?.getD default)
  | [], [], _, k, h => absurd h (by simp)
  | _ :: _ :: _, _ :: _, ⟨h1, h2, h3⟩, 0, _ => ⟨by rw [h1]; rfl, _, rfl, h2⟩
  | _ :: _ :: cs, _ :: xs, ⟨h1, h2, h3⟩, k + 1, h => by
    obtain ⟨g1, u, g2, g3⟩ := h3.at_ k (by simpa using h)
    rw [show (k + 1) * 2 = k * 2 + 1 + 1 by omega]
    exact ⟨by simpa using g1, u, by simpa using g2, by simpa using g3⟩
theorem WvF.get {R : Value → Wv → Prop} : ∀ {cs : List Value} {x : Wv} {xs : List Wv}, WvF R cs (x :: xs) → ∃ u es, cs = .int .i64 x.shaft :: u :: es ∧ R u x ∧ WvF R es xs
  | _ :: u :: es, _, _, ⟨h1, h2, h3⟩ => ⟨u, es, by rw [h1], h2, h3⟩
/-- hours that can be read -/
def rdW (w : World) (u : Value) (x : Wv) : Prop := SlI w u x.hours
def ownW (w : World) (base : Nat) (u : Value) (x : Wv) : Prop := OwnI w base 3 u x.hours
def OwnShs (w : World) (base : Nat) (v : Value) (xs : List Sh) : Prop := w.ownsRow base 105 2 v xs.length (shFlat xs)
def OwnWvs (w : World) (base : Nat) (v : Value) (xs : List Wv) : Prop := ∃ cs, w.ownsRow base 82 2 v xs.length cs ∧ WvF (ownW w base) cs xs
section
variable {w w' : World} {base base' b : Nat} {v : Value} {xs : List Sh} {ys : List Wv}
theorem OwnShs.nil : OwnShs w base (.slice none 0 0) [] := World.ownsRow_nil _ _ _ _
theorem OwnWvs.nil : OwnWvs w base (.slice none 0 0) [] := ⟨[], World.ownsRow_nil _ _ _ _, trivial⟩
theorem OwnShs.ext (h : OwnShs w base v xs) (he : Ext w w') : OwnShs w' base v xs := ownsRow_ext2 h he
theorem OwnWvs.ext (h : OwnWvs w base v ys) (he : Ext w w') : OwnWvs w' base v ys := by
  obtain ⟨cs, h1, h2⟩ := h
  exact ⟨cs, ownsRow_ext2 h1 he, h2.map fun _ _ g => OwnI.ext g he⟩
theorem OwnShs.mono (h : OwnShs w base v xs) (hb : base' ≤ base) : OwnShs w base' v xs := ownsRow_mono h hb
theorem OwnWvs.mono (h : OwnWvs w base v ys) (hb : base' ≤ base) : OwnWvs w base' v ys := by
  obtain ⟨cs, h1, h2⟩ := h
  exact ⟨cs, ownsRow_mono h1 hb, h2.map fun _ _ g => OwnI.mono g hb⟩
theorem OwnShs.at_ (h : OwnShs w base v xs) : ∃ A c, v = .slice A xs.length c ∧ xs.length ≤ c ∧ c ≤ maxLen ∧ ShsAt w A xs := by
  rcases h.2 with ⟨rfl, h0⟩ | ⟨g, cap, cur, rfl, hg, hb, hn, hm, hs, hc⟩
  · have : xs = [] := List.length_eq_zero_iff.1 h0
    subst this
    exact ⟨none, 0, rfl, Nat.le_refl _, by unfold maxLen; omega, fun k hk => by simp at hk⟩
  · refine ⟨_, cap, rfl, hn, hm, fun k hk => ⟨g, 0, rfl, ?_⟩⟩
    obtain ⟨g1, g2⟩ := shFlat_at xs k hk
    rw [← hc, List.getElem?_take, if_pos (by omega), Array.getElem?_toList] at g1 g2
    have hB : Blk w g 105 cur := hb
    refine ⟨?_, ?_⟩
    · rw [Nat.zero_add, hB.cell]; exact g1
    · rw [Nat.zero_add, hB.cell]; exact g2
theorem OwnWvs.at_ (h : OwnWvs w base v ys) : ∃ A c, v = .slice A ys.length c ∧ ys.length ≤ c ∧ c ≤ maxLen ∧ WvsAt w A ys := by
  obtain ⟨cs, h, h2⟩ := h
  rcases h.2 with ⟨rfl, h0⟩ | ⟨g, cap, cur, rfl, hg, hb, hn, hm, hs, hc⟩
  · have : ys = [] := List.length_eq_zero_iff.1 h0
    subst this
    exact ⟨none, 0, rfl, Nat.le_refl _, by unfold maxLen; omega, fun k hk => by simp at hk⟩
  · refine ⟨_, cap, rfl, hn, hm, fun k hk => ⟨g, 0, rfl, ?_⟩⟩
    obtain ⟨g1, u, g2, g3⟩ := h2.at_ k hk
    obtain ⟨A, c, rfl, r1, r2, r3, -, -⟩ := OwnI.open_ g3
    rw [← hc, List.getElem?_take, if_pos (by omega), Array.getElem?_toList] at g1 g2
    have hB : Blk w g 82 cur := hb
    refine ⟨A, c, ⟨r1, r2⟩, ?_, ?_, r3⟩
    · rw [Nat.zero_add, hB.cell]; exact g1
    · rw [Nat.zero_add, hB.cell]; exact g2
end
/-- a mill of the call's own -/
def OwnPM (w : World) (base : Nat) (v : Value) (m : PM) : Prop := ∃ s1 s2, v = .agg #[s1, s2] ∧ OwnShs w base s1 m.shafts ∧ OwnWvs w base s2 m.wvs
section
variable {w w' : World} {base base' b : Nat} {v : Value} {m : PM}
theorem OwnPM.ext (h : OwnPM w base v m) (he : Ext w w') : OwnPM w' base v m := by
  obtain ⟨s1, s2, e, h1, h2⟩ := h
  exact ⟨s1, s2, e, h1.ext he, h2.ext he⟩
theorem OwnPM.mono (h : OwnPM w base v m) (hb : base' ≤ base) : OwnPM w base' v m := by
  obtain ⟨s1, s2, e, h1, h2⟩ := h
  exact ⟨s1, s2, e, h1.mono hb, h2.mono hb⟩
theorem OwnPM.val (h : OwnPM w base v m) : PMVal w v m := by
  obtain ⟨s1, s2, e, h1, h2⟩ := h
  obtain ⟨A1, c1, e1, g1, g2, g3⟩ := h1.at_
  obtain ⟨A2, c2, e2, g4, g5, g6⟩ := h2.at_
  exact ⟨A1, c1, A2, c2, by rw [e, e1, e2], g1, g2, g4, g5, g3, g6⟩
instance : Lift (OwnPM w b v m) w w' (OwnPM w' b v m) := ⟨fun he h => h.ext he⟩
end
/-! Copies. -/
theorem addr_off (b o j : Nat) : (⟨b, o, none⟩ : Addr).add j = ⟨b, o + j, none⟩ := by unfold Addr.add; split <;> simp_all
theorem ShsAt.src {w : World} {A : Option Addr} {xs : List Sh} (h : ShsAt w A xs) : Src w A (shFlat xs) := by
  cases xs with
  | nil => exact .inl rfl
  | cons x l =>
    obtain ⟨b, o, rfl, _⟩ := h 0 (by simp)
    refine .inr ⟨_, rfl, fun j u hu => ?_⟩
    rw [addr_off]
    have hj : j < (shFlat (x :: l)).length := (List.getElem?_eq_some_iff.1 hu).1
    rw [shFlat_len] at hj
    obtain ⟨k, hjk⟩ : ∃ k, j = k * 2 ∨ j = k * 2 + 1 := ⟨j / 2, by omega⟩
    have hk : k < (x :: l).length := by omega
    obtain ⟨b', o', e, h1, h2⟩ := h k hk
    simp only [Option.some.injEq, Addr.mk.injEq, and_true] at e
    obtain ⟨rfl, rfl⟩ := e
    obtain ⟨g1, g2⟩ := shFlat_at (x :: l) k hk
    rcases hjk with rfl | rfl
    · rw [g1] at hu
      rw [h1, ← hu]
    · rw [g2] at hu
      rw [show o + (k * 2 + 1) = o + k * 2 + 1 by omega, h2, ← hu]
theorem wv_cells {w : World} {b : Nat} : ∀ (xs : List Wv) (o : Nat), (∀ k, k < xs.length → WvCells w b (o + k * 2) (xs[k]?.getD default)) → ∃ cs, WvF (rdW w) cs xs ∧ ∀ j u, cs[j]? = some u → w.cell? ⟨b, o + j, none⟩ = some u
  | [], _, _ => ⟨[], trivial, fun j u h => by simp at h⟩
  | x :: xs, o, h => by
    obtain ⟨cs, h1, h2⟩ := wv_cells xs (o + 2) fun k hk => by
      have := h (k + 1) (by simpa using hk)
      rw [show o + (k + 1) * 2 = o + 2 + k * 2 by omega] at this
      simpa using this
    obtain ⟨A, c, hc, k0, k1, k2⟩ := h 0 (by simp)
    simp only [Nat.zero_mul, Nat.add_zero, List.getElem?_cons_zero, Option.getD_some] at k0 k1 k2 hc
    refine ⟨_ :: _ :: cs, ⟨rfl, ⟨A, c, rfl, hc.1, hc.2, k2⟩, h1⟩, fun j u hj => ?_⟩
    rcases j with _ | _ | j
    · simp at hj; subst hj; simpa using k0
    · simp at hj; subst hj; exact k1
    · have := h2 j u (by simpa using hj)
      rw [show o + (j + 1 + 1) = o + 2 + j by omega]
      exact this
theorem WvsAt.src {w : World} {A : Option Addr} {xs : List Wv} (h : WvsAt w A xs) : ∃ cs, WvF (rdW w) cs xs ∧ Src w A cs := by
  cases xs with
  | nil => exact ⟨[], trivial, .inl rfl⟩
  | cons x l =>
    obtain ⟨b, o, rfl, _⟩ := h 0 (by simp)
    obtain ⟨cs, h1, h2⟩ := wv_cells (w := w) (b := b) (x :: l) o fun k hk => by
      obtain ⟨b', o', e, hc⟩ := h k hk
      simp only [Option.some.injEq, Addr.mk.injEq, and_true] at e
      obtain ⟨rfl, rfl⟩ := e
      exact hc
    exact ⟨cs, h1, .inr ⟨_, rfl, fun j u hu => by rw [addr_off]; exact h2 j u hu⟩⟩
theorem rdW_one {w : World} (u : Value) (x : Wv) (h : rdW w u x) : u.oneCell' = true := by
  obtain ⟨A, c, rfl, _⟩ := h
  rfl
theorem info_shaft : (Tryz.prog.info? 105).map (fun i => (i.zero, i.size, i.bytes)) = some (some (.agg #[.int .i64 0, .int .i64 0]), 2, 16) := by kernel_rfl
theorem info_weaver : (Tryz.prog.info? 82).map (fun i => (i.zero, i.size, i.bytes)) = some (some (.agg #[.int .i64 0, .slice none 0 0]), 2, 32) := by kernel_rfl
set_option maxHeartbeats 400000 in
theorem cloneSh (A : Option Addr) (c : Nat) (xs : List Sh) (w : World) (hb : xs.length ≤ 1000) (hx : ShsAt w A xs) :
    Calls Tryz.prog 145 #[.slice A xs.length c] w fun e w' => ∃ v, e = .returned v ∧ OwnShs w' w.heap.size v xs ∧ Ext w w' := by
  obtain ⟨i, hi, hz0, hz1, hz2⟩ := info_parts info_shaft
  have hnil : ∀ W : World, (binOp .eql 23 (.slice A xs.length c) (.slice none 0 0)).run Tryz.prog W = .ok (.bool A.isNone) W := fun W => Lib.run_eql_slice_nil W 23 _ A _ _ 0 0 Tryz.underlying23
  cases A with
  | none =>
    have hx0 : xs = [] := by
      cases xs with
      | nil => rfl
      | cons x l => obtain ⟨b, o, e, _⟩ := hx 0 (by simp); cases e
    subst hx0
    have hnil' : ∀ W : World, (binOp .eql 23 (.slice none 0 c) (.slice none 0 0)).run Tryz.prog W = .ok (.bool true) W := fun W => hnil W
    clear hnil hx hb
    go_enter Tryz.func145, Tryz.ntmps145
    go_wp2
    go_ret
    exact ⟨_, rfl, OwnShs.nil, Ext.refl _⟩
  | some ad =>
    have hnil' : ∀ W : World, (binOp .eql 23 (.slice (some ad) xs.length c) (.slice none 0 0)).run Tryz.prog W = .ok (.bool false) W := fun W => hnil W
    clear hnil
    have hE := Ext.alloc w (.cells #[] 105)
    have hsrc := Lib.hid (ShsAt.src (hx.ext hE))
    have hlen := Lib.hid (shFlat_len xs)
    have hone := Lib.hid (shFlat_one xs)
    have hown := Lib.hid (World.ownsRow_made (w := w) (e := 105) (size := 2) #[] 0 (Nat.le_refl _) (by unfold maxLen; omega) (by simp))
    clear hx
    go_enter Tryz.func145, Tryz.ntmps145
    go_wp2_with (at_builtin; go_must (refine wpList_app rfl _ _ 23 rfl w.heap.size 105 i (.agg #[.int .i64 0, .int .i64 0]) 2 16 Tryz.underlying23 hi hz0 hz1 hz2 rfl (by decide) _ _ _ rfl hown.out (some ad) xs.length c (shFlat xs) rfl ?c1 hsrc.out ?c2 ?c3 ?c4 ?c5 ?_); (case c1 => exact hlen.out); (case c2 => exact hone.out); (case c3 => (unfold maxLen; omega)); (case c4 => omega); (case c5 => simp); intro v' w' hown' hg hblk)
    go_ret
    have hX : Ext w w' := ext_alloc_grown hg (fun k hk => Nat.le_of_eq (Option.some.inj hk))
    refine ⟨_, rfl, ?_, hX⟩
    simp only [Nat.zero_add, List.nil_append] at hown'
    exact hown'
set_option maxHeartbeats 400000 in
theorem cloneWv (A : Option Addr) (c : Nat) (xs : List Wv) (w0 w : World) (hb : xs.length ≤ 1000) (hx : WvsAt w0 A xs) (h0 : Ext w0 w) :
    Calls Tryz.prog 146 #[.slice A xs.length c] w fun e w' => ∃ v, e = .returned v ∧ (∃ cs, w'.ownsRow w.heap.size 82 2 v xs.length cs ∧ WvF (rdW w0) cs xs) ∧ Ext w w' := by
  obtain ⟨i, hi, hz0, hz1, hz2⟩ := info_parts info_weaver
  have hnil : ∀ W : World, (binOp .eql 24 (.slice A xs.length c) (.slice none 0 0)).run Tryz.prog W = .ok (.bool A.isNone) W := fun W => Lib.run_eql_slice_nil W 24 _ A _ _ 0 0 Tryz.underlying24
  cases A with
  | none =>
    have hx0 : xs = [] := by
      cases xs with
      | nil => rfl
      | cons x l => obtain ⟨b, o, e, _⟩ := hx 0 (by simp); cases e
    subst hx0
    have hnil' : ∀ W : World, (binOp .eql 24 (.slice none 0 c) (.slice none 0 0)).run Tryz.prog W = .ok (.bool true) W := fun W => hnil W
    clear hnil hx hb
    go_enter Tryz.func146, Tryz.ntmps146
    go_wp2
    go_ret
    exact ⟨_, rfl, ⟨[], World.ownsRow_nil _ _ _ _, trivial⟩, Ext.refl _⟩
  | some ad =>
    have hnil' : ∀ W : World, (binOp .eql 24 (.slice (some ad) xs.length c) (.slice none 0 0)).run Tryz.prog W = .ok (.bool false) W := fun W => hnil W
    clear hnil
    have hE := Ext.alloc w (.cells #[] 82)
    obtain ⟨cs, hcs, hsrc0⟩ := hx.src
    have hsrc := Lib.hid (hsrc0.ext (h0.trans hE))
    have hlen := Lib.hid hcs.length
    have hone := Lib.hid (hcs.one rdW_one)
    have Hcs := Lib.hid hcs
    clear hcs hsrc0
    have hown := Lib.hid (World.ownsRow_made (w := w) (e := 82) (size := 2) #[] 0 (Nat.le_refl _) (by unfold maxLen; omega) (by simp))
    clear hx
    go_enter Tryz.func146, Tryz.ntmps146
    go_wp2_with (at_builtin; go_must (refine wpList_app rfl _ _ 24 rfl w.heap.size 82 i (.agg #[.int .i64 0, .slice none 0 0]) 2 32 Tryz.underlying24 hi hz0 hz1 hz2 rfl (by decide) _ _ _ rfl hown.out (some ad) xs.length c cs rfl ?c1 hsrc.out ?c2 ?c3 ?c4 ?c5 ?_); (case c1 => exact hlen.out); (case c2 => exact hone.out); (case c3 => (unfold maxLen; omega)); (case c4 => omega); (case c5 => simp); intro v' w' hown' hg hblk)
    go_ret
    have hX : Ext w w' := ext_alloc_grown hg (fun k hk => Nat.le_of_eq (Option.some.inj hk))
    refine ⟨_, rfl, ?_, hX⟩
    simp only [Nat.zero_add, List.nil_append] at hown'
    exact ⟨cs, hown', Hcs.out⟩
end Go.Proofs.Pet
