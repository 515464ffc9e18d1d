/-
  Contracts of functions, each proved once.
-/
import Derived.Test.YtfglamdbnclcaaaGreatP15
import Derived.Test.YtfglamdbnclcaaaGreatP13
import Derived.Test.YtfglamdbnclcaaaGreatP08
import Derived.Test.YtfglamdbnclcaaaGreatP01
namespace Go.Proofs.Pet
open Go Go.RowKit Go.Maps Go.Shelf
attribute [local go_sem] Oper.semAt_some

theorem IntsAt.loops {w W : World} {A : Option Addr} {xs : List Int} {B : Nat} (h : IntsAt w A xs) (hk : Loops B w W) : IntsAt W A xs := by
  intro k hk'
  obtain ⟨g, o, rfl, hc⟩ := h k hk'
  refine ⟨g, o, rfl, ?_⟩
  unfold World.cell? at hc ⊢
  cases hg : w.heap[g]? with
  | none => simp [hg] at hc
  | some ob =>
    cases ob with
    | cells c e fz =>
      simp only [hg] at hc
      simp only [hk.cells g c e fz hg]
      exact hc
    | _ => simp [hg] at hc
theorem SlI.loops {w W : World} {v : Value} {xs : List Int} {B : Nat} (h : SlI w v xs) (hk : Loops B w W) : SlI W v xs := by
  obtain ⟨A, c, h1, h2, h3, h4⟩ := h
  exact ⟨A, c, h1, h2, h3, h4.loops hk⟩
theorem Quits.loops {lo : Nat} {W W' : World} (h : Quits lo W W') : Loops lo W W' :=
  ⟨h.os, h.tape, h.output, h.size, fun k c e fz hc => (h.same k (.inr ⟨c, e, fz, hc⟩)).trans hc, fun k hk _ => h.same k (.inl hk)⟩
theorem leaves_marks2 {F : Fence} {n : Nat} {P : Program} {fn : Func} {tmps : Array Value} {R : Ending → World → Prop} {lo hi : Nat} {v : Value} (ds : List Deferred) (W : World) (hm : Marks W lo hi ds)
    (hR : ∀ W', Quits lo W W' → (results fn tmps).run P W' = .ok v W' ∧ R (.returned v) W') : LeavesInM F n P fn tmps R ds .returning W := by
  induction ds generalizing W with
  | nil =>
    unfold LeavesInM LeavesIn
    have := hR W ⟨fun _ _ => rfl, rfl, rfl, rfl, Nat.le_refl _⟩
    exact ⟨v, this.1, this.2⟩
  | cons d ds ih =>
    obtain ⟨l, h1, h2, h3⟩ := hm
    cases l with
    | nil => cases h1
    | cons D l =>
      rw [List.map_cons] at h1
      injection h1 with h1a h1b
      subst h1a h1b
      have hD := h3 D (by simp)
      have hg := grownBy_putObj' W D (.deferred none)
      refine ⟨by simp, .inl ⟨D, _, rfl, run_takeDeferred hD.2.2, ?_⟩⟩
      refine ih _ ⟨l, rfl, (List.nodup_cons.1 h2).2, fun D' hD' => ?_⟩ (fun W' hq => hR W' ⟨fun k hkk => ?_, hq.os.trans hg.os, hq.tape.trans hg.tape, hq.output.trans hg.output, Nat.le_trans hg.size hq.size⟩)
      · have h4 := h3 D' (List.mem_cons_of_mem _ hD')
        refine ⟨h4.1, h4.2.1, ?_⟩
        rw [World.putObj_heap_other (fun e : D' = D => (List.nodup_cons.1 h2).1 (by rw [← e]; exact hD'))]
        exact h4.2.2
      · have hne : k ≠ D := by
          rintro rfl
          rcases hkk with hlt | ⟨c, e, fz, hc⟩
          · have := hD.1; omega
          · rw [hD.2.2] at hc; cases hc
        have e1 : (W.putObj D (.deferred none)).heap[k]? = W.heap[k]? := World.putObj_heap_other hne
        rw [hq.same k ?_, e1]
        rw [e1]; exact hkk
theorem bits_split {s k n : Nat} (h : k ≤ n) : ∃ r, bits n s = bits k s ++ r := by
  obtain ⟨d, rfl⟩ : ∃ d, n = k + d := ⟨n - k, by omega⟩
  clear h
  induction d with
  | zero => exact ⟨[], by simp⟩
  | succ d ih =>
    obtain ⟨r, hr⟩ := ih
    rw [show k + (d + 1) = k + d + 1 by omega, bits_succ, hr]
    split
    · exact ⟨r ++ [k + d], by simp⟩
    · exact ⟨r, rfl⟩
theorem Apart.above {b : Nat} {w W : World} {p : Addr} (h : Apart b w W) (hp : w.heap.size ≤ p.block) (v : Value) : Apart b w (W.setCell p v) :=
  ⟨h.os, h.tape, h.output, by rw [World.size_setCell]; exact h.size, fun k hk hne => (Below.heap_setCell W p v k (by omega)).trans (h.block k hk hne)⟩
theorem keepsFrom_apart {B b : Nat} {t : TypeId} {cs : Array Value} {W W' : World} (h : Apart b W W') (hb : Blk W b t cs) : KeepsFrom B W W' :=
  ⟨h.size, fun k o _ hk ho => by
    rw [← hk]
    refine h.block k (Array.getElem?_eq_some_iff.1 hk).1 ?_
    rintro rfl
    unfold Blk at hb
    rw [hb] at hk
    cases hk
    cases ho⟩
theorem IntsAt.apart {w W : World} {A : Option Addr} {xs : List Int} {b n0 c0 : Nat} {t : TypeId} {a0 : Option Addr} (h : IntsAt w A xs) (hb : Blk w b t #[.slice a0 n0 c0]) (ha : Apart b w W) : IntsAt W A xs := by
  intro k hk
  obtain ⟨g, o, rfl, hc⟩ := h k hk
  have hgb : g ≠ b := by
    rintro rfl
    rw [hb.cell] at hc
    rcases Nat.eq_zero_or_pos (o + k) with e | e
    · rw [e] at hc; cases hc
    · rw [Array.getElem?_eq_none (by simp; omega)] at hc; cases hc
  refine ⟨g, o, rfl, ?_⟩
  rw [← hc]
  have hlt : g < w.heap.size := by
    rcases Nat.lt_or_ge g w.heap.size with h | h
    · exact h
    · unfold World.cell? at hc
      simp [Array.getElem?_eq_none h] at hc
  unfold World.cell?
  simp only [ha.block g hlt hgb]
theorem SlI.apart {w W : World} {v : Value} {xs : List Int} {b n0 c0 : Nat} {t : TypeId} {a0 : Option Addr} (h : SlI w v xs) (hb : Blk w b t #[.slice a0 n0 c0]) (ha : Apart b w W) : SlI W v xs := by
  obtain ⟨A, c, h1, h2, h3, h4⟩ := h
  exact ⟨A, c, h1, h2, h3, h4.apart hb ha⟩
/-- the region of the call that goes on -/
def moR (n c : Nat) (A : Option Addr) (fv : Value) (k r : Nat) : Nat → Value → Prop
  | 0 => fun v => v = fv
  | 1 => fun v => v = .slice A n c
  | 3 => fun v => v = .int .i64 k
  | 6 => fun v => v = .int .i64 r
  | _ => fun _ => True
def moS (wr : World) (es : List Int) (k : Nat) (Ld : Nat → Prop) (x : Nat → Value) (W : World) : Prop :=
  Ext wr W ∧ (Ld 2 → ¬ Ld 5 → OwnI W wr.heap.size 3 (x 2) es) ∧ (Ld 4 → ¬ Ld 5 → ∃ g, x 4 = .slice (some ⟨g, 0, none⟩) 1 1 ∧ Blk W g 3 #[.int .i64 k]) ∧ (Ld 5 → OwnI W wr.heap.size 3 (x 5) (es ++ [(k : Int)]))
theorem moS.pure {wr W W' : World} {es : List Int} {i : Nat} {Ld : Nat → Prop} {x : Nat → Value} (h : moS wr es i Ld x W) (he : Ext W W') (k : Nat) (v : Value) (hk : k ≠ 2 ∧ k ≠ 4 ∧ k ≠ 5) : moS wr es i (fun j => Ld j ∨ j = k) (upd x k v) W' := by
  obtain ⟨h1, h2, h3, h4⟩ := h
  have e : ∀ j, j = 2 ∨ j = 4 ∨ j = 5 → upd x k v j = x j := fun j hj => by unfold upd; rw [if_neg (by omega)]
  refine ⟨h1.trans he, fun g1 g2 => ?_, fun g1 g2 => ?_, fun g1 => ?_⟩
  · rw [e 2 (by omega)]; exact (h2 (g1.resolve_right (by omega)) (fun g => g2 (.inl g))).ext he
  · rw [e 4 (by omega)]
    obtain ⟨g, e1, e2⟩ := h3 (g1.resolve_right (by omega)) (fun g => g2 (.inl g))
    exact ⟨g, e1, e2.ext he⟩
  · rw [e 5 (by omega)]; exact (h4 (g1.resolve_right (by omega))).ext he
theorem IntsAt.apartB {w W : World} {A : Option Addr} {xs : List Int} {b : Nat} {t : TypeId} {q : Bool} (h : IntsAt w A xs) (hb : Blk w b t #[.bool q]) (ha : Apart b w W) : IntsAt W A xs := by
  intro k hk
  obtain ⟨g, o, rfl, hc⟩ := h k hk
  have hgb : g ≠ b := by
    rintro rfl
    rw [hb.cell] at hc
    rcases Nat.eq_zero_or_pos (o + k) with e | e
    · rw [e] at hc; cases hc
    · rw [Array.getElem?_eq_none (by simp; omega)] at hc; cases hc
  refine ⟨g, o, rfl, ?_⟩
  rw [← hc]
  have hlt : g < w.heap.size := by
    rcases Nat.lt_or_ge g w.heap.size with h | h
    · exact h
    · unfold World.cell? at hc
      simp [Array.getElem?_eq_none h] at hc
  unfold World.cell?
  simp only [ha.block g hlt hgb]
theorem SlI.apartB {w W : World} {v : Value} {xs : List Int} {b : Nat} {t : TypeId} {q : Bool} (h : SlI w v xs) (hb : Blk w b t #[.bool q]) (ha : Apart b w W) : SlI W v xs := by
  obtain ⟨A, c, h1, h2, h3, h4⟩ := h
  exact ⟨A, c, h1, h2, h3, h4.apartB hb ha⟩
theorem Blk.apart {w W : World} {b g : Nat} {t : TypeId} {cs : Array Value} (h : Blk w g t cs) (hne : g ≠ b) (ha : Apart b w W) : Blk W g t cs := (ha.block g h.lt hne).trans h
/-- what the operations of the first region leave -/
def mo1R (D l n c : Nat) (A : Option Addr) (mv : Value) (cv : Int) (es : List Int) (Lb : Nat) : Nat → Value → World → Prop
  | 0 => fun v _ => v = .pointer (some ⟨D, 0, none⟩)
  | 1 => fun v _ => v = .pointer (some ⟨D, 0, none⟩)
  | 2 => fun v _ => v = .pointer (some ⟨D, 0, none⟩)
  | 3 => fun v _ => v = mv
  | 4 => fun v _ => v = .int .i64 l
  | 5 => fun v _ => v = .slice A n c
  | 6 => fun v W => ∃ r, v = .tuple #[r, .int .i64 cv] ∧ OwnI W Lb 3 r es
  | 7 => fun v W => ∃ r, v = .tuple #[r, .int .i64 cv] ∧ OwnI W Lb 3 r es
  | 8 => fun v W => OwnI W Lb 3 v es
  | 9 => fun v _ => v = .int .i64 cv
  | 10 => fun v W => OwnI W Lb 3 v es
  | 11 => fun v _ => v = .int .i64 cv
  | _ => fun _ _ => True
theorem mo1R.ext {D l n c : Nat} {A : Option Addr} {mv : Value} {cv : Int} {es : List Int} {Lb : Nat} {w w' : World} (he : Ext w w') (j : Nat) (v : Value) (h : mo1R D l n c A mv cv es Lb j v w) : mo1R D l n c A mv cv es Lb j v w' := by
  match j, h with
  | 0, h | 1, h | 2, h | 3, h | 4, h | 5, h | 9, h | 11, h => exact h
  | 6, ⟨r, h1, h2⟩ => exact ⟨r, h1, h2.ext he⟩
  | 7, ⟨r, h1, h2⟩ => exact ⟨r, h1, h2.ext he⟩
  | 8, h => exact OwnI.ext h he
  | 10, h => exact OwnI.ext h he
  | _ + 12, h => trivial

set_option maxRecDepth 100000 in
set_option maxHeartbeats 4000000 in
theorem best1_any (D : Nat) (m : Mill) (hch : checkE m = 0) (l : Nat) (hl : l < m.laced.length) (ch : Int) (_hcb : -1000 ≤ ch ∧ ch ≤ 1000) (bd bl bc bo bm : Nat) :
    ∀ (f : Nat) (ks : List Nat) (s : Nat), (bits m.orders.length s).length ≤ f → s < 2 ^ m.orders.length → ks.length + f ≤ 14 → (∀ k, k ∈ ks → k < m.orders.length) →
    ∀ (w : World) (A : Option Addr) (c : Nat) (a0 : Option Addr) (n0 c0 : Nat), Blk w bd 75 #[.pointer (some ⟨D, 0, none⟩)] → Blk w bl 3 #[.int .i64 l] → Blk w bc 3 #[.int .i64 ch] →
      Blk w bo 22 #[.slice a0 n0 c0] → Blk w bm 148 #[.func (.func 106) #[] #[.pointer (some ⟨bd, 0, none⟩), .pointer (some ⟨bl, 0, none⟩), .pointer (some ⟨bc, 0, none⟩), .pointer (some ⟨bo, 0, none⟩), .pointer (some ⟨bm, 0, none⟩)]] →
      Desk w D m → IntsAt w A (ints ks) → ks.length ≤ c → c ≤ maxLen →
    Calls Tryz.prog 106 #[.slice A ks.length c, .int .i64 s, .pointer (some ⟨bd, 0, none⟩), .pointer (some ⟨bl, 0, none⟩), .pointer (some ⟨bc, 0, none⟩), .pointer (some ⟨bo, 0, none⟩), .pointer (some ⟨bm, 0, none⟩)] w fun e W' =>
      (moreF m l ch f ks s = none ∧ e = .returned (.bool false) ∧ Ext w W') ∨ (∃ ys v, moreF m l ch f ks s = some ys ∧ e = .returned (.bool true) ∧ Apart bo w W' ∧ Blk W' bo 22 #[v] ∧ SlI W' v (ints ys)) := by
  intro f
  induction f using Nat.strongRecOn with
  | _ f ih =>
  intro ks s hfb hs hkf hks w A c a0 n0 c0 hbd hbl hbc hbo hbm hD hx hc1 hc2
  obtain ⟨l1, l2, l3⟩ := check_len hch
  have hs7 : s < 128 := by
    have h1 : 2 ^ m.orders.length ≤ 2 ^ 7 := Nat.pow_le_pow_right (by omega) l3
    have h2 : (2 : Nat) ^ 7 = 128 := by decide
    omega
  refine (callsIn_wide (n := 5)).1 ?_
  refine callsIn_of_wp_marks Tryz.func106 rfl trivial ?_ rfl
  simp only [Tryz.ntmps106, List.size_toArray, List.length_nil, Nat.reduceSub, Array.replicate_succ, Array.replicate_zero, List.push_toArray, List.append_toArray, List.nil_append, List.cons_append, List.length_cons, Nat.reduceAdd]
  refine wpIn_wide.2 ?_
  have IH := Lib.hid ih; clear ih
  have Hx := Lib.hid hx; clear hx
  have Hks := Lib.hid hks; clear hks
  have Hch := Lib.hid hch
  have Hfb := Lib.hid hfb; clear hfb
  obtain ⟨n, hn⟩ : ∃ n, ks.length = n := ⟨_, rfl⟩
  rw [hn] at hkf hc1 ⊢
  go_wp2_with fail
  have hE : Ext w ((w.alloc (.cells #[.slice A n c] 22)).alloc (.cells #[.bool false] 4)) := (Ext.alloc _ _).trans (Ext.alloc _ _)
  have b7 := (Blk.new w 22 #[.slice A n c]).alloc (.cells #[.bool false] 4)
  have b9 := Blk.new (w.alloc (.cells #[.slice A n c] 22)) 4 #[.bool false]
  rw [World.size_alloc] at b9
  have hD0 := hD
  obtain ⟨A1, c1, A2, c2, M, cnt, hb, h2, h3, h4, h5, h6, h7, h8, h9⟩ := hD0
  have Hv : Hid (MillVal w (.agg #[.slice A1 m.laced.length c1, .int .i64 m.change, .slice A2 m.orders.length c2]) m) := ⟨A1, c1, A2, c2, rfl, h2, h3, h4, h5, h6, h7⟩
  have H7 := Lib.hid h7
  have HD := Lib.hid hD
  clear h2 h3 h4 h5 h6 h7 h8 h9 hD
  have hbE := hb.ext hE
  have bdE := hbd.ext hE; have blE := hbl.ext hE; have bcE := hbc.ext hE; have boE := hbo.ext hE; have bmE := hbm.ext hE
  have Hran := Lib.hid (fun (W : World) (hW : Ext w W) => ran_any _ m hch l hl A c n (ints ks) (by unfold ints; simp [hn]) (by omega) (by
    intro x hx
    obtain ⟨k, h1, rfl⟩ := List.mem_map.1 hx
    have := Hks.out k h1; omega) W (Hv.out.ext hW) (Hx.out.ext hW))
  have hrv : rvI (ints ks) = ks.reverse := rvI_intsOf' ks
  rw [hrv] at Hran
  obtain ⟨cv, hcv⟩ : ∃ cv, chR m l ks.reverse = cv := ⟨_, rfl⟩
  have hcvb := chR_bd m l ks.reverse
  rw [List.length_reverse, hn, hcv] at hcvb
  rw [hcv] at Hran
  have Hcv := Lib.hid hcv; clear hcv
  obtain ⟨es, hes⟩ : ∃ es, endsF m l (ints ks) n = es := ⟨_, rfl⟩
  rw [hes] at Hran
  have Hes := Lib.hid hes; clear hes
  have Hn := Lib.hid hn; clear hn hrv
  have hszE : ((w.alloc (.cells #[.slice A n c] 22)).alloc (.cells #[.bool false] 4)).heap.size = w.heap.size + 2 := by simp
  generalize (w.alloc _).alloc _ = W0 at *
  have hb7l := b7.lt; have hb9l := b9.lt
  generalize hg7 : w.heap.size = g7 at *
  refine wp_region_apart 12 (by kernel_rfl) (by kernel_rfl) (fun W' => Ext W0 W') (mo1R D l n c A (.agg #[.slice A1 m.laced.length c1, .int .i64 m.change, .slice A2 m.orders.length c2]) cv es W0.heap.size) (fun _ _ _ _ => True) (Ext.drew _) ?_ ?_
  · simp only [List.take, AllOps2, fill, Act.put, List.setIfInBounds_toArray, List.set_cons_zero, List.set_cons_succ, Nat.reduceAdd, Deps, DepsL, List.filter_cons, List.filter_nil, Region.binds, if_true, and_true]
    refine ⟨?_, ?_, ?_, ?_, ?_, ?_, ?_, ?_, ?_, ?_, ?_, ?_⟩
    all_goals
      intro Ld x W' hG hnl hLR hAp hdl hd K Q hK
    case refine_7 =>
      simp only [mo1R] at hd
      simp only [hd] at hK ⊢
      have HK := Lib.hid hK; clear hK
      have HL := Lib.hid hLR; clear hLR hAp hdl
      go_wp2_with fail
      refine (Hran.out W' (hE.trans hG)).mono ?_
      rintro e w' ⟨r, rfl, hr, he'⟩
      go_wp2
      exact HK.out _ _ ⟨r, rfl, hr.mono hG.size⟩ (hG.trans he') (fun j hj => ⟨mo1R.ext he' j _ (HL.out j hj), .inl trivial⟩)
    case refine_8 =>
      obtain ⟨r, h6, hr⟩ : ∃ r, x 6 = .tuple #[r, .int .i64 cv] ∧ OwnI W' W0.heap.size 3 r es := hd
      simp only [h6] at hK ⊢
      have HK := Lib.hid hK; clear hK
      have HL := Lib.hid hLR; clear hLR hAp hdl
      go_wp2_with fail
      exact HK.out _ _ ⟨r, rfl, hr⟩ hG (fun j hj => ⟨HL.out j hj, .inl trivial⟩)
    case refine_9 =>
      obtain ⟨r, h6, hr⟩ : ∃ r, x 7 = .tuple #[r, .int .i64 cv] ∧ OwnI W' W0.heap.size 3 r es := hd
      simp only [h6] at hK ⊢
      have HK := Lib.hid hK; clear hK
      have HL := Lib.hid hLR; clear hLR hAp hdl
      go_wp2_with fail
      exact HK.out _ _ hr hG (fun j hj => ⟨HL.out j hj, .inl trivial⟩)
    case refine_10 =>
      obtain ⟨r, h6, hr⟩ : ∃ r, x 7 = .tuple #[r, .int .i64 cv] ∧ OwnI W' W0.heap.size 3 r es := hd.1
      simp only [h6] at hK ⊢
      have HK := Lib.hid hK; clear hK
      have HL := Lib.hid hLR; clear hLR hAp hdl
      go_wp2_with fail
      exact HK.out _ _ rfl hG (fun j hj => ⟨HL.out j hj, .inl trivial⟩)
    case refine_11 =>
      have hr : OwnI W' W0.heap.size 3 (x 8) es := hd.1
      have HK := Lib.hid hK; clear hK
      have HL := Lib.hid hLR; clear hLR hAp hdl hd
      go_wp2_with fail
      exact HK.out _ _ hr hG (fun j hj => ⟨HL.out j hj, .inl trivial⟩)
    case refine_12 =>
      have hr : x 9 = .int .i64 cv := hd.1
      simp only [hr] at hK ⊢
      have HK := Lib.hid hK; clear hK
      have HL := Lib.hid hLR; clear hLR hAp hdl hd
      go_wp2_with fail
      exact HK.out _ _ rfl hG (fun j hj => ⟨HL.out j hj, .inl trivial⟩)
    all_goals
      try (simp only [mo1R] at hd; simp only [hd] at hK ⊢)
      have HK := Lib.hid hK; clear hK
      have HL := Lib.hid hLR; clear hLR hAp hdl
      obtain ⟨k0, k1, k2, k3⟩ := (hbE.ext hG).c4
      have u0 := (b7.ext hG).c1
      have u1 := (bdE.ext hG).c1
      have u2 := (blE.ext hG).c1
      go_wp2_with fail
      exact HK.out _ _ rfl hG (fun j hj => ⟨HL.out j hj, .inl trivial⟩)
  · intro x W1 hG _ hR
    simp only [AllR, mo1R, true_and] at hR
    obtain ⟨⟨⟨⟨⟨⟨⟨⟨⟨⟨⟨r0, r1⟩, r2⟩, r3⟩, r4⟩, r5⟩, r6⟩, r7⟩, r8⟩, r9⟩, r10⟩, r11⟩ := hR
    clear r6 r7 r8
    simp only [List.take, List.drop, fill, Act.put, List.setIfInBounds_toArray, List.set_cons_zero, List.set_cons_succ, Nat.reduceAdd, r0, r1, r2, r3, r4, r5, r9, r11]
    clear r0 r1 r2 r3 r4 r5 r9 r11
    obtain ⟨Ar, cr, e10, e1, e2, e3, _⟩ := r10.open_
    rw [e10]
    generalize x 6 = x6
    generalize x 7 = x7
    generalize x 8 = x8
    clear r10 e10
    have hE1 := hE.trans hG
    have f7 := b7.ext hG; have f9 := b9.ext hG
    have fD := hbE.ext hG; have fd := bdE.ext hG; have fl := blE.ext hG; have fc := bcE.ext hG; have fo := boE.ext hG; have fm := bmE.ext hG
    clear hbE bdE blE bcE boE bmE b7 b9 hE hG hb
    have hsz1 := hE1.size
    rw [hg7] at hsz1
    generalize W0.heap.size = L0 at *
    obtain ⟨k0, k1, k2, k3⟩ := fD.c4
    have u7 := f7.c1
    have u9 := f9.c1
    have z9 := f9.frozen 0
    have ud := fd.c1
    have ul := fl.c1
    have uc := fc.c1
    have hel : es.length = n := by rw [← Hes.out]; unfold endsF; simp
    rw [hel]
    have Hel := Lib.hid hel; clear hel
    have Hes1 : Hid (IntsAt W1 Ar es) := e3
    clear e3
    have Hb9 := Lib.hid (f9.set_ 0 (.bool false))
    have hst9 := Below.setCell hE1 (p := ⟨g7 + 1, 0, none⟩) (by show _ ≤ g7 + 1; omega) (.bool false)
    have HSF := Lib.hid (And.intro f7 (And.intro f9 (And.intro fD (And.intro fd (And.intro fl (And.intro fc (And.intro fo fm)))))))
    clear f7 f9 fD fd fl fc fo fm
    go_wp2_with fail
    by_cases hA : ch < cv
    · have HB : Hid (badM m l ch ks = true) := by unfold Hid badM; rw [Hcv.out]; simp [hA]
      clear k0 k1 k2 k3
      go_quiet (fail)
      go_wp2_with fail
      have v0 := fun nq : Nat => ((HSF.out.2.1.drewN nq).set_ 0 (.bool false)).c1
      refine ⟨.bool false, ?_, .inl ⟨moreF_bad HB.out f s, rfl, Below.setCell (hE1.trans (Ext.drewN _ _)) (by show _ ≤ g7 + 1; omega) _⟩⟩
      simp [results, Tryz.results106, go_sem, v0]
    · have hdA : decide (ch < cv) = false := by simpa using hA
      rcases Nat.eq_zero_or_pos n with hn0 | hn0
      case' inl =>
        obtain rfl : n = 0 := hn0
        have HB : Hid (badM m l ch ks = false) := by
          have := List.length_eq_zero_iff.1 Hn.out
          unfold Hid badM
          rw [Hcv.out, this]
          simp [hA]
        clear hA
        go_quiet (fail)
      case' inr =>
        obtain ⟨p, rfl⟩ : ∃ p, n = p + 1 := ⟨n - 1, by omega⟩
        obtain ⟨kl, hkl1, hkl2, hkl3⟩ : ∃ kl : Nat, (ints ks)[p]?.getD 0 = (kl : Int) ∧ kl < m.orders.length ∧ badM m l ch ks = (decide (ch < cv) || decide (m.byy kl < dyR m l ks.reverse)) := by
          have hlen := Hn.out
          rw [← List.length_reverse] at hlen
          cases hr : ks.reverse with
          | nil => rw [hr] at hlen; cases hlen
          | cons kl r =>
            have hks2 : ks = r.reverse ++ [kl] := by rw [← List.reverse_reverse ks, hr]; simp
            have hrl : r.length = p := by rw [hr] at hlen; simpa using hlen
            refine ⟨kl, ?_, Hks.out kl (by rw [hks2]; simp), ?_⟩
            · rw [hks2]; unfold ints; simp [hrl]
            · unfold badM; rw [Hcv.out, hr]
        obtain ⟨dv, hdv⟩ : ∃ dv, dyR m l ks.reverse = dv := ⟨_, rfl⟩
        have hesp : es[p]?.getD 0 = dv := by
          rw [← Hes.out, ← hdv, ← rvI_intsOf' ks]
          unfold endsF
          simp
          rw [List.take_of_length_le (by unfold ints; simp [Hn.out])]
        rw [hdv] at hkl3
        have HB3 := Lib.hid hkl3; clear hkl3
        have hdvb := dyR_bd hch l ks.reverse (fun j hj => Hks.out j (by simpa using hj))
        rw [hdv, List.length_reverse, Hn.out] at hdvb
        have Hdv := Lib.hid hdv; clear hdv
        obtain ⟨ba, oa, rfl, ca⟩ := Hx.out.ext hE1 p (by unfold ints; simp [Hn.out])
        obtain ⟨br, or_, rfl, cr'⟩ := Hes1.out p (by rw [Hel.out]; omega)
        rw [hkl1] at ca
        rw [hesp] at cr'
        have Hkl1 := Lib.hid hkl1; have Hesp := Lib.hid hesp; clear hkl1 hesp
        obtain ⟨b2, o2, rfl, A', ca', hca', q1, q2, q3, q4, q5⟩ := H7.out.ext hE1 kl hkl2
        have hbyy : (m.orders[kl]?.getD default).by_ = m.byy kl := rfl
        rw [hbyy] at q3
        clear q1 q2 q4 q5 hca' hbyy
        generalize m.byy kl = yb at *
        by_cases hC : yb < dv
        · have HB : Hid (badM m l ch ks = true) := by unfold Hid; rw [HB3.out]; simp [hC]
          clear hn0 hA
          go_quiet (fail)
          go_wp2_with fail
          have v0 := fun nq : Nat => ((HSF.out.2.1.drewN nq).set_ 0 (.bool false)).c1
          refine ⟨.bool false, ?_, .inl ⟨moreF_bad HB.out f s, rfl, Below.setCell (hE1.trans (Ext.drewN _ _)) (by show _ ≤ g7 + 1; omega) _⟩⟩
          simp [results, Tryz.results106, go_sem, v0]
        have hdC : decide (yb < dv) = false := by simpa using hC
        have HB : Hid (badM m l ch ks = false) := by unfold Hid; rw [HB3.out, hdA, hdC]; rfl
        clear hn0 hA hC
        go_quiet (fail)
      all_goals
        have zo := HSF.out.2.2.2.2.2.2.1.frozen 0
        have uo := HSF.out.2.2.2.2.2.2.1.c1
        rcases Nat.eq_zero_or_pos s with hs0 | hs0
        · obtain rfl : s = 0 := hs0
          clear k0 k1 k2 k3
          have hbog : bo < g7 := by rw [← hg7]; exact hbo.lt
          have y9 := fun (nq : Nat) (v : Value) => ((HSF.out.2.1.drewN nq).far (p := ⟨bo, 0, none⟩) (by show g7 + 1 ≠ bo; omega) v)
          have y1 := fun (nq : Nat) (v : Value) => (y9 nq v).c1
          have y2 := fun (nq : Nat) (v : Value) => (y9 nq v).frozen 0
          have yo := fun (nq : Nat) (v : Value) => ((HSF.out.2.2.2.2.2.2.1.drewN nq).set_ 0 v).far (p := ⟨g7 + 1, 0, none⟩) (by show bo ≠ g7 + 1; omega) (.bool true)
          have v0 := fun (nq : Nat) (v : Value) => ((y9 nq v).set_ 0 (.bool true)).c1
          have hAp := fun (nq : Nat) (v : Value) => (Apart.of_ext (b := bo) (hE1.trans (Ext.drewN W1 nq))).set_ 0 v
          clear y9
          have hnb1 : bo ≠ g7 + 1 := by omega
          have hnb2 : g7 + 1 ≠ bo := by omega
          have Hyo := Lib.hid yo; have Hap := Lib.hid hAp; have Hv0 := Lib.hid v0
          clear yo hAp v0
          go_wp2_with fail
          refine ⟨.bool true, ?_, .inr ⟨ks, _, moreF_zero HB.out f, rfl, ?_, Hyo.out _ _, ?_⟩⟩
          · simp [results, Tryz.results106, go_sem, Hv0.out]
          · exact Apart.above (Hap.out _ _) (by show _ ≤ g7 + 1; omega) _
          · exact SlI.apart ⟨_, c, by unfold ints; rw [List.length_map, Hn.out], by unfold ints; rw [List.length_map, Hn.out]; exact hc1, hc2, Hx.out⟩ hbo (Apart.above (Hap.out _ _) (by show _ ≤ g7 + 1; omega) _)
        · have hds : ((s : Int) == 0) = false := by simp; omega
          clear zo uo
          obtain ⟨f', rfl⟩ : ∃ f', f = f' + 1 := by
            refine ⟨f - 1, ?_⟩
            have h1 := Hfb.out
            rcases Nat.eq_zero_or_pos (bits m.orders.length s).length with h2 | h2
            · exact absurd (bits_none hs h2) (by omega)
            · omega
          go_wp2_with fail
          refine (lacking_any _ m s _ (Hv.out.ext (hE1.trans (Ext.drewN W1 nq)))).mono ?_
          rintro e W5 ⟨rfl, he5, ⟨a1, a2, a3, B1⟩, B2⟩
          have hE5 : Ext W1 W5 := (Ext.drewN W1 nq).trans he5
          have hsz5 := hE5.size
          have hsd : (W1.drewN nq).heap.size = W1.heap.size := rfl
          rw [hsd] at B1 B2 ⊢
          clear hsd he5 hds
          have hE15 := hE1.trans hE5
          have hsz15 := hE15.size
          have b7 := HSF.out.1.ext hE5
          have b9 := HSF.out.2.1.ext hE5
          have bD := HSF.out.2.2.1.ext hE5
          have cd := HSF.out.2.2.2.1.ext hE5
          have cl := HSF.out.2.2.2.2.1.ext hE5
          have cc := HSF.out.2.2.2.2.2.1.ext hE5
          have co := HSF.out.2.2.2.2.2.2.1.ext hE5
          have cm := HSF.out.2.2.2.2.2.2.2.ext hE5
          have HB1 := Lib.hid HB; clear HB
          obtain ⟨A0, hxi, bL⟩ : ∃ A0, IntsAt W5 A0 (ints ks) ∧ Blk W5 g7 22 #[.slice A0 (ints ks).length c] := ⟨_, Hx.out.ext hE15, by rw [show (ints ks).length = _ from (List.length_map _).trans Hn.out]; exact b7⟩
          have Hxi := Lib.hid hxi; clear hxi b7
          clear k0 k1 k2 k3 u7 u9 z9 ud ul uc Hb9 hst9 HSF hE5 hsz1
          obtain ⟨L, hL⟩ : ∃ L, W1.heap.size = L := ⟨_, rfl⟩
          rw [hL] at B1 B2 hsz5 ⊢
          clear hL
          have hL5 := B2.lt
          have hlk : Hid (moreF m l ch (f' + 1) ks s = (bits m.orders.length s).findSome? fun k => moreF m l ch f' (ks ++ [k]) (sdiff s (2 ^ k))) := moreF_succ HB1.out f' s (by omega)
          go_wp2_with fail
          apply wp_lackingN (show m.orders.length ≤ 20 by omega) (show s ≤ 1048576 by omega) B1 B2 rfl rfl
            (fun pre W => Ext W5 W ∧ Hid (∀ x, x ∈ pre → moreF m l ch f' (ks ++ [x.1]) (sdiff s (2 ^ x.1)) = none))
            (fun c' pre W => c' = .ret ∧ ∃ pre' x ys v, pre = pre' ++ [x] ∧ Hid (∀ x, x ∈ pre' → moreF m l ch f' (ks ++ [x.1]) (sdiff s (2 ^ x.1)) = none) ∧ Hid (moreF m l ch f' (ks ++ [x.1]) (sdiff s (2 ^ x.1)) = some ys) ∧ Apart bo w W ∧ Blk W bo 22 #[v] ∧ SlI W v (ints ys) ∧ Blk W (g7 + 1) 4 #[.bool true])
            (fun pre W W' ⟨h0, h1⟩ hl => ⟨h0.loops hl (Nat.le_refl _), h1⟩)
            (fun c' pre W W' ⟨h0, pre', x, ys, v, h1, h2, h3, h4, h5, h6, h7⟩ hl => ⟨h0, pre', x, ys, v, h1, h2, h3, h4.loops hl hsz15, h5.loops hl, h6.loops hl, h7.loops hl⟩)
            ⟨Ext.refl _, fun x hx => by cases hx⟩
          case hassign =>
            intro lp x W K hK
            simp only [encK]
            gi_wp2
            exact hK
          case hbody =>
            rintro lp pre ⟨k, hkb⟩ W ⟨i0, i1⟩ hplt
            have hkn : k < m.orders.length := bitsS_mem_lt hs ⟨k, hkb⟩
            dsimp only
            have hsdl : sdiff s (2 ^ k) < 2 ^ m.orders.length := Nat.lt_of_le_of_lt (sdiff_le _ _) hs
            have hbl : Hid ((bits m.orders.length (sdiff s (2 ^ k))).length + 1 = (bits m.orders.length s).length) := bits_rem hkb _ hkn
            obtain ⟨r, hr⟩ : ∃ r, sdiff s (2 ^ k) = r := ⟨_, rfl⟩
            rw [hr] at hsdl hbl ⊢
            have Hr := Lib.hid hr; clear hr
            have hxW := Hxi.out.ext i0
            have bi := bL.ext i0
            have Hbi := Lib.hid bi; clear bi
            have Hi1 := Lib.hid i1; clear i1
            have Hkb := Lib.hid hkb
            obtain ⟨ti, hi, hz0, hz1, hz2⟩ := info_parts info_int
            gi_wp2_with fail
            refine wpIn_region_stage 7 (by kernel_rfl) (by kernel_rfl) (moS W (ints ks) k) (moR (ints ks).length c A0 (.func (.func 106) #[] #[.pointer (some ⟨bd, 0, none⟩), .pointer (some ⟨bl, 0, none⟩), .pointer (some ⟨bc, 0, none⟩), .pointer (some ⟨bo, 0, none⟩), .pointer (some ⟨bm, 0, none⟩)]) k r) (fun x => ⟨Ext.drew _, fun h => h.elim, fun h => h.elim, fun h => h.elim⟩) ?_ ?_
            · simp only [List.take, AllOps3In, fill, Act.put, List.setIfInBounds_toArray, List.set_cons_zero, List.set_cons_succ, Nat.reduceAdd, DepsV, DepsL, List.filter_cons, List.filter_nil, Region.binds, if_true, and_true, Closed]
              refine ⟨?_, ?_, ?_, ?_, ?_, ?_, ?_⟩
              all_goals
                intro Ld x W' hS hcl hnl hdl hd K Q hK
                have heW := hS.1
                have k6 := (cm.ext (i0.trans heW)).c1
                have k7 := (Hbi.out.ext heW).c1
                try (simp only [moR, and_true] at hd; simp only [hd] at hK ⊢)
                have HK := Lib.hid hK; clear hK
                have HC := Lib.hid hcl; clear hcl
                have HD := Lib.hid hdl; clear hdl
                have HN := Lib.hid hnl; clear hnl
                have HS := Lib.hid hS; clear hS
              case refine_3 =>
                have hx' := hxW.ext heW
                have hil : (ints ks).length ≤ 14 := by unfold ints; rw [List.length_map, Hn.out]; omega
                gi_wp2_with fail
                refine ⟨trivial, CallsIn.inRound lp (callsIn_wide.2 ((cloneI A0 c (ints ks) W' (by omega) hx').mono ?_))⟩
                rintro e w' ⟨v, rfl, hv, he'⟩
                gi_wp2
                refine HK.out _ _ trivial ⟨heW.trans he', fun h1 h2 => hv.mono heW.size, fun h1 h2 => ?_, fun h1 => ?_⟩
                · obtain ⟨g, e1, e2⟩ := HS.out.2.2.1 (h1.resolve_right (by omega)) (fun g => h2 (.inl g))
                  exact ⟨g, e1, e2.ext he'⟩
                · exact absurd (HC.out.2.2.2.2.2.1 (h1.resolve_right (by omega))).1 HN.out
              case refine_5 =>
                have hb0 := Blk.new W' 3 #[.int .i64 k]
                have hE0 := Ext.alloc W' (.cells #[.int .i64 k] 3)
                have Hb0 := Lib.hid hb0; have He0 := Lib.hid hE0; clear hb0 hE0
                gi_wp2_with fail
                refine HK.out _ _ trivial ⟨heW.trans He0.out, fun h1 h2 => ?_, fun h1 h2 => ?_, fun h1 => ?_⟩
                · exact (HS.out.2.1 (h1.resolve_right (by omega)) (fun g => h2 (.inl g))).ext He0.out
                · exact ⟨_, rfl, Hb0.out⟩
                · exact absurd (HC.out.2.2.2.2.2.1 (h1.resolve_right (by omega))).2.1 HN.out
              case refine_6 =>
                have hd2 := HD.out
                have hv0 := HS.out.2.1 hd2.1 HN.out
                obtain ⟨g, hx4, hbg⟩ := HS.out.2.2.1 hd2.2.1 HN.out
                have hil : (ints ks).length ≤ 14 := by unfold ints; rw [List.length_map, Hn.out]; omega
                have hge : ∀ j, (x 2).ownBlock = some j → W.heap.size ≤ j := by
                  obtain ⟨A1', c1', e0, _, _, _, h5, _⟩ := hv0.open_
                  intro j hj
                  rw [e0] at hj
                  exact own_ge h5 j hj
                have hszW := heW.size
                have hk0 := HK.out; clear HK
                simp only [hx4] at hk0 ⊢
                have HK := Lib.hid hk0; clear hk0
                refine wpListIn_append_own _ rfl _ _ 22 rfl W.heap.size 3 ti (.int .i64 0) 1 8 Tryz.underlying22 hi hz0 hz1 hz2 rfl (by decide) _ _ _ rfl hv0 ⟨g, 0, none⟩ 1 1 [.int .i64 k] rfl rfl ?c1 ?c2 ?c3 ?c4 ?c5 ?_
                case c1 =>
                  intro j u hj
                  match j, hj with
                  | 0, hj =>
                    simp at hj
                    subst hj
                    simpa [Addr.add] using hbg.c1
                case c2 => intro u hu; simp at hu; subst hu; rfl
                case c3 => unfold maxLen; omega
                case c4 => omega
                case c5 => omega
                intro v' w' hown hg hblk
                refine HK.out _ _ trivial ⟨Below.grown heW hg heW.size hge, fun h1 h2 => absurd (.inr rfl) h2, fun h1 h2 => absurd (.inr rfl) h2, fun h1 => ?_⟩
                show OwnI w' W.heap.size 3 v' (ints ks ++ [(k : Int)])
                unfold OwnI
                rw [List.map_append, List.length_append]
                exact hown
              all_goals
                gi_wp2_with fail
                exact HK.out _ _ (by first | trivial | rfl) (HS.out.pure (Ext.refl _) _ _ (by omega))
            · intro x W7 hS hR
              obtain ⟨he7, _, _, hS5⟩ := hS
              have hown := hS5 (by omega)
              simp only [AllV, moR, true_and, and_true] at hR
              obtain ⟨⟨⟨r0, r1⟩, r3⟩, r6⟩ := hR
              simp only [List.take, List.drop, fill, Act.put, List.setIfInBounds_toArray, List.set_cons_zero, List.set_cons_succ, Nat.reduceAdd, r0, r1, r3, r6]
              clear r0 r1 r3 r6 hS5
              generalize x 2 = x2
              generalize x 4 = x4
              have hks1 : ints ks ++ [(k : Int)] = ints (ks ++ [k]) := by unfold ints; rw [List.map_append]; rfl
              rw [hks1] at hown
              obtain ⟨AV, cV, e5, o1, o2, o3, _⟩ := hown.open_
              rw [e5]
              clear e5 hks1 hown
              generalize x 5 = x5
              have hll : (ks ++ [k]).length = ks.length + 1 := by simp
              have hkl : (ints (ks ++ [k])).length = ks.length + 1 := by unfold ints; rw [List.length_map, hll]
              rw [hkl] at o1 ⊢
              clear hkl
              have he57 := i0.trans he7
              have hkn2 := Hn.out
              have hcall0 := IH.out f' (by omega) (ks ++ [k]) r (by have h1 := hbl.out; have h2 := Hfb.out; omega) hsdl (by rw [List.length_append]; simp only [List.length_singleton]; omega) (by
                intro j hj
                rw [List.mem_append, List.mem_singleton] at hj
                rcases hj with hj | rfl
                · exact Hks.out j hj
                · exact hkn) W7 AV cV _ _ _ (cd.ext he57) (cl.ext he57) (cc.ext he57) (co.ext he57) (cm.ext he57) (HD.out.ext (hE15.trans he57)) o3 (by rw [hll]; exact o1) o2
              rw [hll] at hcall0
              have hcall := Lib.hid hcall0; clear hcall0
              have b9W := b9.ext he57
              have coW := co.ext he57
              clear o3 hkn2 hxW hll
              gi_wp2_with fail
              refine ⟨trivial, CallsIn.inRound lp (callsIn_wide.2 (hcall.out.mono ?_))⟩
              rintro e w' (⟨hno, rfl, he'⟩ | ⟨ys, v, hso, rfl, hap, hbo', hsl⟩)
              · have Hno := Lib.hid hno; clear hno
                have heF := he7.trans he'
                gi_wp2
                refine ⟨keepsFrom_ext heF, ⟨Below.block heF _ (by have := i0.size; omega), Below.block heF _ (by have := i0.size; omega)⟩, i0.trans heF, ?_⟩
                intro y hy
                rw [List.mem_append, List.mem_singleton] at hy
                rcases hy with hy | rfl
                · exact Hi1.out y hy
                · show moreF m l ch f' (ks ++ [k]) (sdiff s (2 ^ k)) = none
                  rw [Hr.out]; exact Hno.out
              · have Hso := Lib.hid hso; clear hso
                have hbog : bo < g7 := by rw [← hg7]; exact hbo.lt
                have b9' := b9W.apart (show g7 + 1 ≠ bo by omega) hap
                have u9 := b9'.c1
                have z9 := b9'.frozen 0
                have Hb9 := Lib.hid b9'; clear b9'
                have Hbo := Lib.hid hbo'; clear hbo'
                gi_wp2
                refine ⟨((keepsFrom_ext he7).trans (keepsFrom_apart hap coW)).trans ((KeepsOthers.setCell _ _ _).from _), rfl, pre, ⟨k, hkb⟩, ys, v, rfl, Hi1.out, ?_, ?_, ?_, ?_, ?_⟩
                · show moreF m l ch f' (ks ++ [k]) (sdiff s (2 ^ k)) = some ys
                  rw [Hr.out]; exact Hso.out
                · exact Apart.above ((Apart.of_ext (hE15.trans he57)).trans hap) (by show _ ≤ g7 + 1; omega) _
                · exact Hbo.out.far (by show bo ≠ g7 + 1; omega) _
                · exact hsl.apartB Hb9.out ((Apart.refl _ _).set_ 0 _)
                · exact Hb9.out.set_ 0 _
          case hdone =>
            intro Dd W hDd ⟨i0, i1⟩ hdef
            have b9W := b9.ext i0
            have u9 := b9W.c1
            have z9 := b9W.frozen 0
            have hm := ((Marks.nil W W5.heap.size Dd).push hDd (Nat.le_refl _) hdef).set_ (p := ⟨g7 + 1, 0, none⟩) b9W (.bool false)
            have hbs := b9W.set_ 0 (.bool false)
            have hEx := Below.setCell (hE15.trans i0) (p := ⟨g7 + 1, 0, none⟩) (by show _ ≤ g7 + 1; omega) (.bool false)
            have hno : Hid (moreF m l ch (f' + 1) ks s = none) := by
              unfold Hid
              rw [hlk.out, List.findSome?_eq_none_iff]
              intro k hk
              rw [← bitsS_map] at hk
              obtain ⟨x, hx, rfl⟩ := List.mem_map.1 hk
              exact i1.out x hx
            clear i1 b9W hlk
            have Hhm := Lib.hid hm; have Hbs := Lib.hid hbs; have Hex := Lib.hid hEx
            clear hm hbs hEx
            go_wp2_with fail
            refine leaves_marks2 [markOf Dd] _ Hhm.out (fun W' hq => ⟨?_, .inl ⟨hno.out, rfl, hq.ext Hex.out hsz15⟩⟩)
            have v0 := (hq.blk Hbs.out).c1
            simp [results, Tryz.results106, go_sem, v0]
          case hstop =>
            rintro Dd c' pre W hDd ⟨kk, hkk, rfl⟩ ⟨rfl, pre', x, ys, v, h1, h2, h3, h4, h5, h6, h7⟩ hdef
            have hm := (Marks.nil W W5.heap.size Dd).push hDd (Nat.le_refl _) hdef
            have hso : Hid (moreF m l ch (f' + 1) ks s = some ys) := by
              unfold Hid
              obtain ⟨rr, hrr⟩ := bits_split (s := s) hkk
              rw [hlk.out, hrr, List.findSome?_append, ← bitsS_map, h1, List.map_append, List.findSome?_append]
              have : List.findSome? (fun k => moreF m l ch f' (ks ++ [k]) (sdiff s (2 ^ k))) (List.map (fun x : In s => x.1) pre') = none := by
                rw [List.findSome?_eq_none_iff]
                intro k hk
                obtain ⟨y, hy, rfl⟩ := List.mem_map.1 hk
                exact h2.out y hy
              rw [this]
              simp [h3.out]
            clear h1 h2 h3 hlk
            go_wp2_with fail
            refine leaves_marks2 [markOf Dd] _ hm (fun W' hq => ⟨?_, .inr ⟨ys, v, hso.out, rfl, h4.loops hq.loops hsz15, hq.blk h5, h6.loops hq.loops⟩⟩)
            have v0 := (hq.blk h7).c1
            simp [results, Tryz.results106, go_sem, v0]
end Go.Proofs.Pet

namespace Go.Proofs.Pet
open Go Go.RowKit Go.Maps Go.Shelf

theorem five_blks (w : World) (a b c d e : Array Value) (t1 t2 t3 t4 t5 : TypeId) :
    let W := ((((w.alloc (.cells a t1)).alloc (.cells b t2)).alloc (.cells c t3)).alloc (.cells d t4)).alloc (.cells e t5)
    Blk W w.heap.size t1 a ∧ Blk W (w.heap.size + 1) t2 b ∧ Blk W (w.heap.size + 1 + 1) t3 c ∧ Blk W (w.heap.size + 1 + 1 + 1) t4 d ∧ Blk W (w.heap.size + 1 + 1 + 1 + 1) t5 e ∧ Ext w W := by
  intro W
  refine ⟨?_, ?_, ?_, ?_, ?_, ((((Ext.alloc _ _).trans (Ext.alloc _ _)).trans (Ext.alloc _ _)).trans (Ext.alloc _ _)).trans (Ext.alloc _ _)⟩
  · exact ((((Blk.new w t1 a).alloc _).alloc _).alloc _).alloc _
  · have := (((Blk.new (w.alloc (.cells a t1)) t2 b).alloc (.cells c t3)).alloc (.cells d t4)).alloc (.cells e t5)
    rwa [World.size_alloc] at this
  · have := ((Blk.new ((w.alloc (.cells a t1)).alloc (.cells b t2)) t3 c).alloc (.cells d t4)).alloc (.cells e t5)
    rwa [World.size_alloc, World.size_alloc] at this
  · have := (Blk.new (((w.alloc (.cells a t1)).alloc (.cells b t2)).alloc (.cells c t3)) t4 d).alloc (.cells e t5)
    rwa [World.size_alloc, World.size_alloc, World.size_alloc] at this
  · have := Blk.new ((((w.alloc (.cells a t1)).alloc (.cells b t2)).alloc (.cells c t3)).alloc (.cells d t4)) t5 e
    rwa [World.size_alloc, World.size_alloc, World.size_alloc, World.size_alloc] at this
set_option maxRecDepth 20000 in
theorem best_any (D : Nat) (m : Mill) (hch : checkE m = 0) (l s : Nat) (hl : l < m.laced.length) (hs : s < 2 ^ m.orders.length) (ch : Int) (hcb : -1000 ≤ ch ∧ ch ≤ 1000) (w : World) (hD : Desk w D m) :
    Calls Tryz.prog 43 #[.pointer (some ⟨D, 0, none⟩), .int .i64 l, .int .i64 s, .int .i64 ch] w fun e w' => ∃ r, e = .returned r ∧ SlI w' r (ints ((moreF m l ch 7 [] s).getD [])) ∧ Ext w w' := by
  have hmf : ∀ (fn : Fn) (first cap : Array Value) (w : World), (Instr.makeFunc fn first cap).run Tryz.prog w = .ok (.func fn first cap) w := fun _ _ _ _ => rfl
  go_enter Tryz.func43, Tryz.ntmps43
  go_wp2_with fail
  obtain ⟨p1, p2, p3, p4, p5, pE⟩ := five_blks w _ _ _ _ _ _ _ _ _ _
  have hlen : (bits m.orders.length s).length ≤ 7 := by
    obtain ⟨l1, l2, l3⟩ := check_len hch
    have := bits_len m.orders.length s; omega
  refine (best1_any D m hch l hl ch hcb _ _ _ _ _ 7 [] s hlen hs (by simp) (fun k hk => by cases hk) _ none 0 none 0 0 p1 p2 p3 p4 p5 (hD.ext pE) (fun k hk => by cases hk) (Nat.le_refl _) (Nat.zero_le _)).mono ?_
  have hws : w.heap.size ≤ w.heap.size + 1 + 1 + 1 := by omega
  clear p1 p2 p3 p5 hD
  rintro e W' (⟨hno, rfl, he⟩ | ⟨ys, v, hso, rfl, hap, hbo, hsl⟩)
  · have k0 := (p4.ext he).c1
    have Hno := Lib.hid hno; clear hno p4
    have HE := Lib.hid (pE.trans he); clear pE he
    go_wp2_with fail
    go_ret
    refine ⟨_, rfl, ?_, HE.out⟩
    rw [Hno.out]
    exact ⟨none, 0, rfl, Nat.le_refl _, Nat.zero_le _, fun k hk => by cases hk⟩
  · have k0 := hbo.c1
    have Hso := Lib.hid hso; clear hso p4
    have HE := Lib.hid (Apart.ext_of pE hws hap); clear pE hap hbo
    obtain ⟨Av, cv, rfl, g2, g3, g4⟩ := hsl
    have G4 := Lib.hid g4; clear g4
    go_wp2_with fail
    go_ret
    refine ⟨_, rfl, ?_, HE.out⟩
    rw [Hso.out]
    exact ⟨_, _, rfl, g2, g3, G4.out⟩
end Go.Proofs.Pet
