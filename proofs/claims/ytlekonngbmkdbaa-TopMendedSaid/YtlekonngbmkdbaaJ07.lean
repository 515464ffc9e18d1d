/- Joined texts: P18, P19, P20, P21, V1, V2, TL1. -/
import Derived.Test.YtlekonngbmkdbaaJ04
import Derived.Test.YtlekonngbmkdbaaP08
import Derived.Test.YtlekonngbmkdbaaP01
import Derived.Test.YtlekonngbmkdbaaJ06
import Derived.Test.YtlekonngbmkdbaaJ05
import Derived.RegionTactic
import Derived.ChangeAlike
import Derived.Test.YtlekonngbmkdbaaChecked
import Derived.ProofKit
import Derived.Below
import Derived.ChangeSame
import Derived.Deep.Slices
import Derived.Deep.Fields
import Derived.Lib.SmallJoins
import Derived.ChangeSlices
import Derived.WideKeyArgs
import Derived.Test.YtlekonngbmkdbaaJ01
namespace Go.Proofs.Pet
open Go Go.RowKit Go.Maps Go.Shelf
attribute [local go_sem] Oper.semAt_some

theorem IntsAt.loops {w W : World} {A : Option Addr} {xs : List Int} {B : Nat} (h : IntsAt w A xs) (hk : Loops B w W) : IntsAt W A xs := by
  intro k hk'
  obtain ⟨g, o, rfl, hc⟩ := h k hk'
  refine ⟨g, o, rfl, ?_⟩
  unfold World.cell? at hc ⊢
  cases hg : w.heap[g]? with
  | none => simp [hg] at hc
  | some ob =>
    cases ob with
    | cells c e fz =>
      simp only [hg] at hc
      simp only [hk.cells g c e fz hg]
      exact hc
    | _ => simp [hg] at hc
theorem SlI.loops {w W : World} {v : Value} {xs : List Int} {B : Nat} (h : SlI w v xs) (hk : Loops B w W) : SlI W v xs := by
  obtain ⟨A, c, h1, h2, h3, h4⟩ := h
  exact ⟨A, c, h1, h2, h3, h4.loops hk⟩
theorem Quits.loops {lo : Nat} {W W' : World} (h : Quits lo W W') : Loops lo W W' :=
  ⟨h.os, h.tape, h.output, h.size, fun k c e fz hc => (h.same k (.inr ⟨c, e, fz, hc⟩)).trans hc, fun k hk _ => h.same k (.inl hk)⟩
theorem leaves_marks2 {F : Fence} {n : Nat} {P : Program} {fn : Func} {tmps : Array Value} {R : Ending → World → Prop} {lo hi : Nat} {v : Value} (ds : List Deferred) (W : World) (hm : Marks W lo hi ds)
    (hR : ∀ W', Quits lo W W' → (results fn tmps).run P W' = .ok v W' ∧ R (.returned v) W') : LeavesInM F n P fn tmps R ds .returning W := by
  induction ds generalizing W with
  | nil =>
    unfold LeavesInM LeavesIn
    have := hR W ⟨fun _ _ => rfl, rfl, rfl, rfl, Nat.le_refl _⟩
    exact ⟨v, this.1, this.2⟩
  | cons d ds ih =>
    obtain ⟨l, h1, h2, h3⟩ := hm
    cases l with
    | nil => cases h1
    | cons D l =>
      rw [List.map_cons] at h1
      injection h1 with h1a h1b
      subst h1a h1b
      have hD := h3 D (by simp)
      have hg := grownBy_putObj' W D (.deferred none)
      refine ⟨by simp, .inl ⟨D, _, rfl, run_takeDeferred hD.2.2, ?_⟩⟩
      refine ih _ ⟨l, rfl, (List.nodup_cons.1 h2).2, fun D' hD' => ?_⟩ (fun W' hq => hR W' ⟨fun k hkk => ?_, hq.os.trans hg.os, hq.tape.trans hg.tape, hq.output.trans hg.output, Nat.le_trans hg.size hq.size⟩)
      · have h4 := h3 D' (List.mem_cons_of_mem _ hD')
        refine ⟨h4.1, h4.2.1, ?_⟩
        rw [World.putObj_heap_other (fun e : D' = D => (List.nodup_cons.1 h2).1 (by rw [← e]; exact hD'))]
        exact h4.2.2
      · have hne : k ≠ D := by
          rintro rfl
          rcases hkk with hlt | ⟨c, e, fz, hc⟩
          · have := hD.1; omega
          · rw [hD.2.2] at hc; cases hc
        have e1 : (W.putObj D (.deferred none)).heap[k]? = W.heap[k]? := World.putObj_heap_other hne
        rw [hq.same k ?_, e1]
        rw [e1]; exact hkk
theorem bits_split {s k n : Nat} (h : k ≤ n) : ∃ r, bits n s = bits k s ++ r := by
  obtain ⟨d, rfl⟩ : ∃ d, n = k + d := ⟨n - k, by omega⟩
  clear h
  induction d with
  | zero => exact ⟨[], by simp⟩
  | succ d ih =>
    obtain ⟨r, hr⟩ := ih
    rw [show k + (d + 1) = k + d + 1 by omega, bits_succ, hr]
    split
    · exact ⟨r ++ [k + d], by simp⟩
    · exact ⟨r, rfl⟩
theorem Apart.above {b : Nat} {w W : World} {p : Addr} (h : Apart b w W) (hp : w.heap.size ≤ p.block) (v : Value) : Apart b w (W.setCell p v) :=
  ⟨h.os, h.tape, h.output, by rw [World.size_setCell]; exact h.size, fun k hk hne => (Below.heap_setCell W p v k (by omega)).trans (h.block k hk hne)⟩
theorem keepsFrom_apart {B b : Nat} {t : TypeId} {cs : Array Value} {W W' : World} (h : Apart b W W') (hb : Blk W b t cs) : KeepsFrom B W W' :=
  ⟨h.size, fun k o _ hk ho => by
    rw [← hk]
    refine h.block k (Array.getElem?_eq_some_iff.1 hk).1 ?_
    rintro rfl
    unfold Blk at hb
    rw [hb] at hk
    cases hk
    cases ho⟩
theorem IntsAt.apart {w W : World} {A : Option Addr} {xs : List Int} {b n0 c0 : Nat} {t : TypeId} {a0 : Option Addr} (h : IntsAt w A xs) (hb : Blk w b t #[.slice a0 n0 c0]) (ha : Apart b w W) : IntsAt W A xs := by
  intro k hk
  obtain ⟨g, o, rfl, hc⟩ := h k hk
  have hgb : g ≠ b := by
    rintro rfl
    rw [hb.cell] at hc
    rcases Nat.eq_zero_or_pos (o + k) with e | e
    · rw [e] at hc; cases hc
    · rw [Array.getElem?_eq_none (by simp; omega)] at hc; cases hc
  refine ⟨g, o, rfl, ?_⟩
  rw [← hc]
  have hlt : g < w.heap.size := by
    rcases Nat.lt_or_ge g w.heap.size with h | h
    · exact h
    · unfold World.cell? at hc
      simp [Array.getElem?_eq_none h] at hc
  unfold World.cell?
  simp only [ha.block g hlt hgb]
theorem SlI.apart {w W : World} {v : Value} {xs : List Int} {b n0 c0 : Nat} {t : TypeId} {a0 : Option Addr} (h : SlI w v xs) (hb : Blk w b t #[.slice a0 n0 c0]) (ha : Apart b w W) : SlI W v xs := by
  obtain ⟨A, c, h1, h2, h3, h4⟩ := h
  exact ⟨A, c, h1, h2, h3, h4.apart hb ha⟩
/-- the region of the call that goes on -/
def moR (n c : Nat) (A : Option Addr) (fv : Value) (k r : Nat) : Nat → Value → Prop
  | 0 => fun v => v = fv
  | 1 => fun v => v = .slice A n c
  | 3 => fun v => v = .int .i64 k
  | 6 => fun v => v = .int .i64 r
  | _ => fun _ => True
def moS (wr : World) (es : List Int) (k : Nat) (Ld : Nat → Prop) (x : Nat → Value) (W : World) : Prop :=
  Ext wr W ∧ (Ld 2 → ¬ Ld 5 → OwnI W wr.heap.size 3 (x 2) es) ∧ (Ld 4 → ¬ Ld 5 → ∃ g, x 4 = .slice (some ⟨g, 0, none⟩) 1 1 ∧ Blk W g 3 #[.int .i64 k]) ∧ (Ld 5 → OwnI W wr.heap.size 3 (x 5) (es ++ [(k : Int)]))
theorem moS.pure {wr W W' : World} {es : List Int} {i : Nat} {Ld : Nat → Prop} {x : Nat → Value} (h : moS wr es i Ld x W) (he : Ext W W') (k : Nat) (v : Value) (hk : k ≠ 2 ∧ k ≠ 4 ∧ k ≠ 5) : moS wr es i (fun j => Ld j ∨ j = k) (upd x k v) W' := by
  obtain ⟨h1, h2, h3, h4⟩ := h
  have e : ∀ j, j = 2 ∨ j = 4 ∨ j = 5 → upd x k v j = x j := fun j hj => by unfold upd; rw [if_neg (by omega)]
  refine ⟨h1.trans he, fun g1 g2 => ?_, fun g1 g2 => ?_, fun g1 => ?_⟩
  · rw [e 2 (by omega)]; exact (h2 (g1.resolve_right (by omega)) (fun g => g2 (.inl g))).ext he
  · rw [e 4 (by omega)]
    obtain ⟨g, e1, e2⟩ := h3 (g1.resolve_right (by omega)) (fun g => g2 (.inl g))
    exact ⟨g, e1, e2.ext he⟩
  · rw [e 5 (by omega)]; exact (h4 (g1.resolve_right (by omega))).ext he
theorem IntsAt.apartB {w W : World} {A : Option Addr} {xs : List Int} {b : Nat} {t : TypeId} {q : Bool} (h : IntsAt w A xs) (hb : Blk w b t #[.bool q]) (ha : Apart b w W) : IntsAt W A xs := by
  intro k hk
  obtain ⟨g, o, rfl, hc⟩ := h k hk
  have hgb : g ≠ b := by
    rintro rfl
    rw [hb.cell] at hc
    rcases Nat.eq_zero_or_pos (o + k) with e | e
    · rw [e] at hc; cases hc
    · rw [Array.getElem?_eq_none (by simp; omega)] at hc; cases hc
  refine ⟨g, o, rfl, ?_⟩
  rw [← hc]
  have hlt : g < w.heap.size := by
    rcases Nat.lt_or_ge g w.heap.size with h | h
    · exact h
    · unfold World.cell? at hc
      simp [Array.getElem?_eq_none h] at hc
  unfold World.cell?
  simp only [ha.block g hlt hgb]
theorem SlI.apartB {w W : World} {v : Value} {xs : List Int} {b : Nat} {t : TypeId} {q : Bool} (h : SlI w v xs) (hb : Blk w b t #[.bool q]) (ha : Apart b w W) : SlI W v xs := by
  obtain ⟨A, c, h1, h2, h3, h4⟩ := h
  exact ⟨A, c, h1, h2, h3, h4.apartB hb ha⟩
theorem Blk.apart {w W : World} {b g : Nat} {t : TypeId} {cs : Array Value} (h : Blk w g t cs) (hne : g ≠ b) (ha : Apart b w W) : Blk W g t cs := (ha.block g h.lt hne).trans h
/-- what the operations of the first region leave -/
def mo1R (D l n c : Nat) (A : Option Addr) (mv : Value) (cv : Int) (es : List Int) (Lb : Nat) : Nat → Value → World → Prop
  | 0 => fun v _ => v = .pointer (some ⟨D, 0, none⟩)
  | 1 => fun v _ => v = .pointer (some ⟨D, 0, none⟩)
  | 2 => fun v _ => v = .pointer (some ⟨D, 0, none⟩)
  | 3 => fun v _ => v = mv
  | 4 => fun v _ => v = .int .i64 l
  | 5 => fun v _ => v = .slice A n c
  | 6 => fun v W => ∃ r, v = .tuple #[r, .int .i64 cv] ∧ OwnI W Lb 3 r es
  | 7 => fun v W => ∃ r, v = .tuple #[r, .int .i64 cv] ∧ OwnI W Lb 3 r es
  | 8 => fun v W => OwnI W Lb 3 v es
  | 9 => fun v _ => v = .int .i64 cv
  | 10 => fun v W => OwnI W Lb 3 v es
  | 11 => fun v _ => v = .int .i64 cv
  | _ => fun _ _ => True
theorem mo1R.ext {D l n c : Nat} {A : Option Addr} {mv : Value} {cv : Int} {es : List Int} {Lb : Nat} {w w' : World} (he : Ext w w') (j : Nat) (v : Value) (h : mo1R D l n c A mv cv es Lb j v w) : mo1R D l n c A mv cv es Lb j v w' := by
  match j, h with
  | 0, h | 1, h | 2, h | 3, h | 4, h | 5, h | 9, h | 11, h => exact h
  | 6, ⟨r, h1, h2⟩ => exact ⟨r, h1, h2.ext he⟩
  | 7, ⟨r, h1, h2⟩ => exact ⟨r, h1, h2.ext he⟩
  | 8, h => exact OwnI.ext h he
  | 10, h => exact OwnI.ext h he
  | _ + 12, h => trivial

set_option maxRecDepth 100000 in
set_option maxHeartbeats 4000000 in
theorem best1_any (D : Nat) (m : Mill) (hch : checkE m = 0) (l : Nat) (hl : l < m.laced.length) (ch : Int) (_hcb : -1000 ≤ ch ∧ ch ≤ 1000) (bd bl bc bo bm : Nat) :
    ∀ (f : Nat) (ks : List Nat) (s : Nat), (bits m.orders.length s).length ≤ f → s < 2 ^ m.orders.length → ks.length + f ≤ 14 → (∀ k, k ∈ ks → k < m.orders.length) →
    ∀ (w : World) (A : Option Addr) (c : Nat) (a0 : Option Addr) (n0 c0 : Nat), Blk w bd 116 #[.pointer (some ⟨D, 0, none⟩)] → Blk w bl 3 #[.int .i64 l] → Blk w bc 3 #[.int .i64 ch] →
      Blk w bo 28 #[.slice a0 n0 c0] → Blk w bm 109 #[.func (.func 104) #[] #[.pointer (some ⟨bd, 0, none⟩), .pointer (some ⟨bl, 0, none⟩), .pointer (some ⟨bc, 0, none⟩), .pointer (some ⟨bo, 0, none⟩), .pointer (some ⟨bm, 0, none⟩)]] →
      Desk w D m → IntsAt w A (ints ks) → ks.length ≤ c → c ≤ maxLen →
    Calls Try.prog 104 #[.slice A ks.length c, .int .i64 s, .pointer (some ⟨bd, 0, none⟩), .pointer (some ⟨bl, 0, none⟩), .pointer (some ⟨bc, 0, none⟩), .pointer (some ⟨bo, 0, none⟩), .pointer (some ⟨bm, 0, none⟩)] w fun e W' =>
      (moreF m l ch f ks s = none ∧ e = .returned (.bool false) ∧ Ext w W') ∨ (∃ ys v, moreF m l ch f ks s = some ys ∧ e = .returned (.bool true) ∧ Apart bo w W' ∧ Blk W' bo 28 #[v] ∧ SlI W' v (ints ys)) := by
  intro f
  induction f using Nat.strongRecOn with
  | _ f ih =>
  intro ks s hfb hs hkf hks w A c a0 n0 c0 hbd hbl hbc hbo hbm hD hx hc1 hc2
  obtain ⟨l1, l2, l3⟩ := check_len hch
  have hs7 : s < 128 := by
    have h1 : 2 ^ m.orders.length ≤ 2 ^ 7 := Nat.pow_le_pow_right (by omega) l3
    have h2 : (2 : Nat) ^ 7 = 128 := by decide
    omega
  refine (callsIn_wide (n := 5)).1 ?_
  refine callsIn_of_wp_marks Try.func104 rfl trivial ?_ rfl
  simp only [Try.ntmps104, List.size_toArray, List.length_nil, Nat.reduceSub, Array.replicate_succ, Array.replicate_zero, List.push_toArray, List.append_toArray, List.nil_append, List.cons_append, List.length_cons, Nat.reduceAdd]
  refine wpIn_wide.2 ?_
  have IH := Lib.hid ih; clear ih
  have Hx := Lib.hid hx; clear hx
  have Hks := Lib.hid hks; clear hks
  have Hch := Lib.hid hch
  have Hfb := Lib.hid hfb; clear hfb
  obtain ⟨n, hn⟩ : ∃ n, ks.length = n := ⟨_, rfl⟩
  rw [hn] at hkf hc1 ⊢
  go_wp2_with fail
  have hE : Ext w ((w.alloc (.cells #[.slice A n c] 28)).alloc (.cells #[.bool false] 4)) := (Ext.alloc _ _).trans (Ext.alloc _ _)
  have b7 := (Blk.new w 28 #[.slice A n c]).alloc (.cells #[.bool false] 4)
  have b9 := Blk.new (w.alloc (.cells #[.slice A n c] 28)) 4 #[.bool false]
  rw [World.size_alloc] at b9
  have hD0 := hD
  obtain ⟨A1, c1, A2, c2, M, cnt, hb, h2, h3, h4, h5, h6, h7, h8, h9⟩ := hD0
  have Hv : Hid (MillVal w (.agg #[.slice A1 m.laced.length c1, .int .i64 m.change, .slice A2 m.orders.length c2]) m) := ⟨A1, c1, A2, c2, rfl, h2, h3, h4, h5, h6, h7⟩
  have H7 := Lib.hid h7
  have HD := Lib.hid hD
  clear h2 h3 h4 h5 h6 h7 h8 h9 hD
  have hbE := hb.ext hE
  have bdE := hbd.ext hE; have blE := hbl.ext hE; have bcE := hbc.ext hE; have boE := hbo.ext hE; have bmE := hbm.ext hE
  have Hran := Lib.hid (fun (W : World) (hW : Ext w W) => ran_any _ m hch l hl A c n (ints ks) (by unfold ints; simp [hn]) (by omega) (by
    intro x hx
    obtain ⟨k, h1, rfl⟩ := List.mem_map.1 hx
    have := Hks.out k h1; omega) W (Hv.out.ext hW) (Hx.out.ext hW))
  have hrv : rvI (ints ks) = ks.reverse := rvI_intsOf' ks
  rw [hrv] at Hran
  obtain ⟨cv, hcv⟩ : ∃ cv, chR m l ks.reverse = cv := ⟨_, rfl⟩
  have hcvb := chR_bd m l ks.reverse
  rw [List.length_reverse, hn, hcv] at hcvb
  rw [hcv] at Hran
  have Hcv := Lib.hid hcv; clear hcv
  obtain ⟨es, hes⟩ : ∃ es, endsF m l (ints ks) n = es := ⟨_, rfl⟩
  rw [hes] at Hran
  have Hes := Lib.hid hes; clear hes
  have Hn := Lib.hid hn; clear hn hrv
  have hszE : ((w.alloc (.cells #[.slice A n c] 28)).alloc (.cells #[.bool false] 4)).heap.size = w.heap.size + 2 := by simp
  generalize (w.alloc _).alloc _ = W0 at *
  have hb7l := b7.lt; have hb9l := b9.lt
  generalize hg7 : w.heap.size = g7 at *
  refine wp_region_apart 12 (by kernel_rfl) (by kernel_rfl) (fun W' => Ext W0 W') (mo1R D l n c A (.agg #[.slice A1 m.laced.length c1, .int .i64 m.change, .slice A2 m.orders.length c2]) cv es W0.heap.size) (fun _ _ _ _ => True) (Ext.drew _) ?_ ?_
  · simp only [List.take, AllOps2, fill, Act.put, List.setIfInBounds_toArray, List.set_cons_zero, List.set_cons_succ, Nat.reduceAdd, Deps, DepsL, List.filter_cons, List.filter_nil, Region.binds, if_true, and_true]
    refine ⟨?_, ?_, ?_, ?_, ?_, ?_, ?_, ?_, ?_, ?_, ?_, ?_⟩
    all_goals
      intro Ld x W' hG hnl hLR hAp hdl hd K Q hK
    case refine_7 =>
      simp only [mo1R] at hd
      simp only [hd] at hK ⊢
      have HK := Lib.hid hK; clear hK
      have HL := Lib.hid hLR; clear hLR hAp hdl
      go_wp2_with fail
      refine (Hran.out W' (hE.trans hG)).mono ?_
      rintro e w' ⟨r, rfl, hr, he'⟩
      go_wp2
      exact HK.out _ _ ⟨r, rfl, hr.mono hG.size⟩ (hG.trans he') (fun j hj => ⟨mo1R.ext he' j _ (HL.out j hj), .inl trivial⟩)
    case refine_8 =>
      obtain ⟨r, h6, hr⟩ : ∃ r, x 6 = .tuple #[r, .int .i64 cv] ∧ OwnI W' W0.heap.size 3 r es := hd
      simp only [h6] at hK ⊢
      have HK := Lib.hid hK; clear hK
      have HL := Lib.hid hLR; clear hLR hAp hdl
      go_wp2_with fail
      exact HK.out _ _ ⟨r, rfl, hr⟩ hG (fun j hj => ⟨HL.out j hj, .inl trivial⟩)
    case refine_9 =>
      obtain ⟨r, h6, hr⟩ : ∃ r, x 7 = .tuple #[r, .int .i64 cv] ∧ OwnI W' W0.heap.size 3 r es := hd
      simp only [h6] at hK ⊢
      have HK := Lib.hid hK; clear hK
      have HL := Lib.hid hLR; clear hLR hAp hdl
      go_wp2_with fail
      exact HK.out _ _ hr hG (fun j hj => ⟨HL.out j hj, .inl trivial⟩)
    case refine_10 =>
      obtain ⟨r, h6, hr⟩ : ∃ r, x 7 = .tuple #[r, .int .i64 cv] ∧ OwnI W' W0.heap.size 3 r es := hd.1
      simp only [h6] at hK ⊢
      have HK := Lib.hid hK; clear hK
      have HL := Lib.hid hLR; clear hLR hAp hdl
      go_wp2_with fail
      exact HK.out _ _ rfl hG (fun j hj => ⟨HL.out j hj, .inl trivial⟩)
    case refine_11 =>
      have hr : OwnI W' W0.heap.size 3 (x 8) es := hd.1
      have HK := Lib.hid hK; clear hK
      have HL := Lib.hid hLR; clear hLR hAp hdl hd
      go_wp2_with fail
      exact HK.out _ _ hr hG (fun j hj => ⟨HL.out j hj, .inl trivial⟩)
    case refine_12 =>
      have hr : x 9 = .int .i64 cv := hd.1
      simp only [hr] at hK ⊢
      have HK := Lib.hid hK; clear hK
      have HL := Lib.hid hLR; clear hLR hAp hdl hd
      go_wp2_with fail
      exact HK.out _ _ rfl hG (fun j hj => ⟨HL.out j hj, .inl trivial⟩)
    all_goals
      try (simp only [mo1R] at hd; simp only [hd] at hK ⊢)
      have HK := Lib.hid hK; clear hK
      have HL := Lib.hid hLR; clear hLR hAp hdl
      obtain ⟨k0, k1, k2, k3⟩ := (hbE.ext hG).c4
      have u0 := (b7.ext hG).c1
      have u1 := (bdE.ext hG).c1
      have u2 := (blE.ext hG).c1
      go_wp2_with fail
      exact HK.out _ _ rfl hG (fun j hj => ⟨HL.out j hj, .inl trivial⟩)
  · intro x W1 hG _ hR
    simp only [AllR, mo1R, true_and] at hR
    obtain ⟨⟨⟨⟨⟨⟨⟨⟨⟨⟨⟨r0, r1⟩, r2⟩, r3⟩, r4⟩, r5⟩, r6⟩, r7⟩, r8⟩, r9⟩, r10⟩, r11⟩ := hR
    clear r6 r7 r8
    simp only [List.take, List.drop, fill, Act.put, List.setIfInBounds_toArray, List.set_cons_zero, List.set_cons_succ, Nat.reduceAdd, r0, r1, r2, r3, r4, r5, r9, r11]
    clear r0 r1 r2 r3 r4 r5 r9 r11
    obtain ⟨Ar, cr, e10, e1, e2, e3, _⟩ := r10.open_
    rw [e10]
    generalize x 6 = x6
    generalize x 7 = x7
    generalize x 8 = x8
    clear r10 e10
    have hE1 := hE.trans hG
    have f7 := b7.ext hG; have f9 := b9.ext hG
    have fD := hbE.ext hG; have fd := bdE.ext hG; have fl := blE.ext hG; have fc := bcE.ext hG; have fo := boE.ext hG; have fm := bmE.ext hG
    clear hbE bdE blE bcE boE bmE b7 b9 hE hG hb
    have hsz1 := hE1.size
    rw [hg7] at hsz1
    generalize W0.heap.size = L0 at *
    obtain ⟨k0, k1, k2, k3⟩ := fD.c4
    have u7 := f7.c1
    have u9 := f9.c1
    have z9 := f9.frozen 0
    have ud := fd.c1
    have ul := fl.c1
    have uc := fc.c1
    have hel : es.length = n := by rw [← Hes.out]; unfold endsF; simp
    rw [hel]
    have Hel := Lib.hid hel; clear hel
    have Hes1 : Hid (IntsAt W1 Ar es) := e3
    clear e3
    have Hb9 := Lib.hid (f9.set_ 0 (.bool false))
    have hst9 := Below.setCell hE1 (p := ⟨g7 + 1, 0, none⟩) (by show _ ≤ g7 + 1; omega) (.bool false)
    have HSF := Lib.hid (And.intro f7 (And.intro f9 (And.intro fD (And.intro fd (And.intro fl (And.intro fc (And.intro fo fm)))))))
    clear f7 f9 fD fd fl fc fo fm
    go_wp2_with fail
    by_cases hA : ch < cv
    · have HB : Hid (badM m l ch ks = true) := by unfold Hid badM; rw [Hcv.out]; simp [hA]
      clear k0 k1 k2 k3
      go_quiet (fail)
      go_wp2_with fail
      have v0 := fun nq : Nat => ((HSF.out.2.1.drewN nq).set_ 0 (.bool false)).c1
      refine ⟨.bool false, ?_, .inl ⟨moreF_bad HB.out f s, rfl, Below.setCell (hE1.trans (Ext.drewN _ _)) (by show _ ≤ g7 + 1; omega) _⟩⟩
      simp [results, Try.results104, go_sem, v0]
    · have hdA : decide (ch < cv) = false := by simpa using hA
      rcases Nat.eq_zero_or_pos n with hn0 | hn0
      case' inl =>
        obtain rfl : n = 0 := hn0
        have HB : Hid (badM m l ch ks = false) := by
          have := List.length_eq_zero_iff.1 Hn.out
          unfold Hid badM
          rw [Hcv.out, this]
          simp [hA]
        clear hA
        go_quiet (fail)
      case' inr =>
        obtain ⟨p, rfl⟩ : ∃ p, n = p + 1 := ⟨n - 1, by omega⟩
        obtain ⟨kl, hkl1, hkl2, hkl3⟩ : ∃ kl : Nat, (ints ks)[p]?.getD 0 = (kl : Int) ∧ kl < m.orders.length ∧ badM m l ch ks = (decide (ch < cv) || decide (m.byy kl < dyR m l ks.reverse)) := by
          have hlen := Hn.out
          rw [← List.length_reverse] at hlen
          cases hr : ks.reverse with
          | nil => rw [hr] at hlen; cases hlen
          | cons kl r =>
            have hks2 : ks = r.reverse ++ [kl] := by rw [← List.reverse_reverse ks, hr]; simp
            have hrl : r.length = p := by rw [hr] at hlen; simpa using hlen
            refine ⟨kl, ?_, Hks.out kl (by rw [hks2]; simp), ?_⟩
            · rw [hks2]; unfold ints; simp [hrl]
            · unfold badM; rw [Hcv.out, hr]
        obtain ⟨dv, hdv⟩ : ∃ dv, dyR m l ks.reverse = dv := ⟨_, rfl⟩
        have hesp : es[p]?.getD 0 = dv := by
          rw [← Hes.out, ← hdv, ← rvI_intsOf' ks]
          unfold endsF
          simp
          rw [List.take_of_length_le (by unfold ints; simp [Hn.out])]
        rw [hdv] at hkl3
        have HB3 := Lib.hid hkl3; clear hkl3
        have hdvb := dyR_bd hch l ks.reverse (fun j hj => Hks.out j (by simpa using hj))
        rw [hdv, List.length_reverse, Hn.out] at hdvb
        have Hdv := Lib.hid hdv; clear hdv
        obtain ⟨ba, oa, rfl, ca⟩ := Hx.out.ext hE1 p (by unfold ints; simp [Hn.out])
        obtain ⟨br, or_, rfl, cr'⟩ := Hes1.out p (by rw [Hel.out]; omega)
        rw [hkl1] at ca
        rw [hesp] at cr'
        have Hkl1 := Lib.hid hkl1; have Hesp := Lib.hid hesp; clear hkl1 hesp
        obtain ⟨b2, o2, rfl, A', ca', hca', q1, q2, q3, q4, q5⟩ := H7.out.ext hE1 kl hkl2
        have hbyy : (m.orders[kl]?.getD default).by_ = m.byy kl := rfl
        rw [hbyy] at q3
        clear q1 q2 q4 q5 hca' hbyy
        generalize m.byy kl = yb at *
        by_cases hC : yb < dv
        · have HB : Hid (badM m l ch ks = true) := by unfold Hid; rw [HB3.out]; simp [hC]
          clear hn0 hA
          go_quiet (fail)
          go_wp2_with fail
          have v0 := fun nq : Nat => ((HSF.out.2.1.drewN nq).set_ 0 (.bool false)).c1
          refine ⟨.bool false, ?_, .inl ⟨moreF_bad HB.out f s, rfl, Below.setCell (hE1.trans (Ext.drewN _ _)) (by show _ ≤ g7 + 1; omega) _⟩⟩
          simp [results, Try.results104, go_sem, v0]
        have hdC : decide (yb < dv) = false := by simpa using hC
        have HB : Hid (badM m l ch ks = false) := by unfold Hid; rw [HB3.out, hdA, hdC]; rfl
        clear hn0 hA hC
        go_quiet (fail)
      all_goals
        have zo := HSF.out.2.2.2.2.2.2.1.frozen 0
        have uo := HSF.out.2.2.2.2.2.2.1.c1
        rcases Nat.eq_zero_or_pos s with hs0 | hs0
        · obtain rfl : s = 0 := hs0
          clear k0 k1 k2 k3
          have hbog : bo < g7 := by rw [← hg7]; exact hbo.lt
          have y9 := fun (nq : Nat) (v : Value) => ((HSF.out.2.1.drewN nq).far (p := ⟨bo, 0, none⟩) (by show g7 + 1 ≠ bo; omega) v)
          have y1 := fun (nq : Nat) (v : Value) => (y9 nq v).c1
          have y2 := fun (nq : Nat) (v : Value) => (y9 nq v).frozen 0
          have yo := fun (nq : Nat) (v : Value) => ((HSF.out.2.2.2.2.2.2.1.drewN nq).set_ 0 v).far (p := ⟨g7 + 1, 0, none⟩) (by show bo ≠ g7 + 1; omega) (.bool true)
          have v0 := fun (nq : Nat) (v : Value) => ((y9 nq v).set_ 0 (.bool true)).c1
          have hAp := fun (nq : Nat) (v : Value) => (Apart.of_ext (b := bo) (hE1.trans (Ext.drewN W1 nq))).set_ 0 v
          clear y9
          have hnb1 : bo ≠ g7 + 1 := by omega
          have hnb2 : g7 + 1 ≠ bo := by omega
          have Hyo := Lib.hid yo; have Hap := Lib.hid hAp; have Hv0 := Lib.hid v0
          clear yo hAp v0
          go_wp2_with fail
          refine ⟨.bool true, ?_, .inr ⟨ks, _, moreF_zero HB.out f, rfl, ?_, Hyo.out _ _, ?_⟩⟩
          · simp [results, Try.results104, go_sem, Hv0.out]
          · exact Apart.above (Hap.out _ _) (by show _ ≤ g7 + 1; omega) _
          · exact SlI.apart ⟨_, c, by unfold ints; rw [List.length_map, Hn.out], by unfold ints; rw [List.length_map, Hn.out]; exact hc1, hc2, Hx.out⟩ hbo (Apart.above (Hap.out _ _) (by show _ ≤ g7 + 1; omega) _)
        · have hds : ((s : Int) == 0) = false := by simp; omega
          clear zo uo
          obtain ⟨f', rfl⟩ : ∃ f', f = f' + 1 := by
            refine ⟨f - 1, ?_⟩
            have h1 := Hfb.out
            rcases Nat.eq_zero_or_pos (bits m.orders.length s).length with h2 | h2
            · exact absurd (bits_none hs h2) (by omega)
            · omega
          go_wp2_with fail
          refine (lacking_any _ m s _ (Hv.out.ext (hE1.trans (Ext.drewN W1 nq)))).mono ?_
          rintro e W5 ⟨rfl, he5, ⟨a1, a2, a3, B1⟩, B2⟩
          have hE5 : Ext W1 W5 := (Ext.drewN W1 nq).trans he5
          have hsz5 := hE5.size
          have hsd : (W1.drewN nq).heap.size = W1.heap.size := rfl
          rw [hsd] at B1 B2 ⊢
          clear hsd he5 hds
          have hE15 := hE1.trans hE5
          have hsz15 := hE15.size
          have b7 := HSF.out.1.ext hE5
          have b9 := HSF.out.2.1.ext hE5
          have bD := HSF.out.2.2.1.ext hE5
          have cd := HSF.out.2.2.2.1.ext hE5
          have cl := HSF.out.2.2.2.2.1.ext hE5
          have cc := HSF.out.2.2.2.2.2.1.ext hE5
          have co := HSF.out.2.2.2.2.2.2.1.ext hE5
          have cm := HSF.out.2.2.2.2.2.2.2.ext hE5
          have HB1 := Lib.hid HB; clear HB
          obtain ⟨A0, hxi, bL⟩ : ∃ A0, IntsAt W5 A0 (ints ks) ∧ Blk W5 g7 28 #[.slice A0 (ints ks).length c] := ⟨_, Hx.out.ext hE15, by rw [show (ints ks).length = _ from (List.length_map _).trans Hn.out]; exact b7⟩
          have Hxi := Lib.hid hxi; clear hxi b7
          clear k0 k1 k2 k3 u7 u9 z9 ud ul uc Hb9 hst9 HSF hE5 hsz1
          obtain ⟨L, hL⟩ : ∃ L, W1.heap.size = L := ⟨_, rfl⟩
          rw [hL] at B1 B2 hsz5 ⊢
          clear hL
          have hL5 := B2.lt
          have hlk : Hid (moreF m l ch (f' + 1) ks s = (bits m.orders.length s).findSome? fun k => moreF m l ch f' (ks ++ [k]) (sdiff s (2 ^ k))) := moreF_succ HB1.out f' s (by omega)
          go_wp2_with fail
          apply wp_lackingN (show m.orders.length ≤ 20 by omega) (show s ≤ 1048576 by omega) B1 B2 rfl rfl
            (fun pre W => Ext W5 W ∧ Hid (∀ x, x ∈ pre → moreF m l ch f' (ks ++ [x.1]) (sdiff s (2 ^ x.1)) = none))
            (fun c' pre W => c' = .ret ∧ ∃ pre' x ys v, pre = pre' ++ [x] ∧ Hid (∀ x, x ∈ pre' → moreF m l ch f' (ks ++ [x.1]) (sdiff s (2 ^ x.1)) = none) ∧ Hid (moreF m l ch f' (ks ++ [x.1]) (sdiff s (2 ^ x.1)) = some ys) ∧ Apart bo w W ∧ Blk W bo 28 #[v] ∧ SlI W v (ints ys) ∧ Blk W (g7 + 1) 4 #[.bool true])
            (fun pre W W' ⟨h0, h1⟩ hl => ⟨h0.loops hl (Nat.le_refl _), h1⟩)
            (fun c' pre W W' ⟨h0, pre', x, ys, v, h1, h2, h3, h4, h5, h6, h7⟩ hl => ⟨h0, pre', x, ys, v, h1, h2, h3, h4.loops hl hsz15, h5.loops hl, h6.loops hl, h7.loops hl⟩)
            ⟨Ext.refl _, fun x hx => by cases hx⟩
          case hassign =>
            intro lp x W K hK
            simp only [encK]
            gi_wp2
            exact hK
          case hbody =>
            rintro lp pre ⟨k, hkb⟩ W ⟨i0, i1⟩ hplt
            have hkn : k < m.orders.length := bitsS_mem_lt hs ⟨k, hkb⟩
            dsimp only
            have hsdl : sdiff s (2 ^ k) < 2 ^ m.orders.length := Nat.lt_of_le_of_lt (sdiff_le _ _) hs
            have hbl : Hid ((bits m.orders.length (sdiff s (2 ^ k))).length + 1 = (bits m.orders.length s).length) := bits_rem hkb _ hkn
            obtain ⟨r, hr⟩ : ∃ r, sdiff s (2 ^ k) = r := ⟨_, rfl⟩
            rw [hr] at hsdl hbl ⊢
            have Hr := Lib.hid hr; clear hr
            have hxW := Hxi.out.ext i0
            have bi := bL.ext i0
            have Hbi := Lib.hid bi; clear bi
            have Hi1 := Lib.hid i1; clear i1
            have Hkb := Lib.hid hkb
            obtain ⟨ti, hi, hz0, hz1, hz2⟩ := info_parts info_int
            gi_wp2_with fail
            refine wpIn_region_stage 7 (by kernel_rfl) (by kernel_rfl) (moS W (ints ks) k) (moR (ints ks).length c A0 (.func (.func 104) #[] #[.pointer (some ⟨bd, 0, none⟩), .pointer (some ⟨bl, 0, none⟩), .pointer (some ⟨bc, 0, none⟩), .pointer (some ⟨bo, 0, none⟩), .pointer (some ⟨bm, 0, none⟩)]) k r) (fun x => ⟨Ext.drew _, fun h => h.elim, fun h => h.elim, fun h => h.elim⟩) ?_ ?_
            · simp only [List.take, AllOps3In, fill, Act.put, List.setIfInBounds_toArray, List.set_cons_zero, List.set_cons_succ, Nat.reduceAdd, DepsV, DepsL, List.filter_cons, List.filter_nil, Region.binds, if_true, and_true, Closed]
              refine ⟨?_, ?_, ?_, ?_, ?_, ?_, ?_⟩
              all_goals
                intro Ld x W' hS hcl hnl hdl hd K Q hK
                have heW := hS.1
                have k6 := (cm.ext (i0.trans heW)).c1
                have k7 := (Hbi.out.ext heW).c1
                try (simp only [moR, and_true] at hd; simp only [hd] at hK ⊢)
                have HK := Lib.hid hK; clear hK
                have HC := Lib.hid hcl; clear hcl
                have HD := Lib.hid hdl; clear hdl
                have HN := Lib.hid hnl; clear hnl
                have HS := Lib.hid hS; clear hS
              case refine_3 =>
                have hx' := hxW.ext heW
                have hil : (ints ks).length ≤ 14 := by unfold ints; rw [List.length_map, Hn.out]; omega
                gi_wp2_with fail
                refine ⟨trivial, CallsIn.inRound lp (callsIn_wide.2 ((cloneI A0 c (ints ks) W' (by omega) hx').mono ?_))⟩
                rintro e w' ⟨v, rfl, hv, he'⟩
                gi_wp2
                refine HK.out _ _ trivial ⟨heW.trans he', fun h1 h2 => hv.mono heW.size, fun h1 h2 => ?_, fun h1 => ?_⟩
                · obtain ⟨g, e1, e2⟩ := HS.out.2.2.1 (h1.resolve_right (by omega)) (fun g => h2 (.inl g))
                  exact ⟨g, e1, e2.ext he'⟩
                · exact absurd (HC.out.2.2.2.2.2.1 (h1.resolve_right (by omega))).1 HN.out
              case refine_5 =>
                have hb0 := Blk.new W' 3 #[.int .i64 k]
                have hE0 := Ext.alloc W' (.cells #[.int .i64 k] 3)
                have Hb0 := Lib.hid hb0; have He0 := Lib.hid hE0; clear hb0 hE0
                gi_wp2_with fail
                refine HK.out _ _ trivial ⟨heW.trans He0.out, fun h1 h2 => ?_, fun h1 h2 => ?_, fun h1 => ?_⟩
                · exact (HS.out.2.1 (h1.resolve_right (by omega)) (fun g => h2 (.inl g))).ext He0.out
                · exact ⟨_, rfl, Hb0.out⟩
                · exact absurd (HC.out.2.2.2.2.2.1 (h1.resolve_right (by omega))).2.1 HN.out
              case refine_6 =>
                have hd2 := HD.out
                have hv0 := HS.out.2.1 hd2.1 HN.out
                obtain ⟨g, hx4, hbg⟩ := HS.out.2.2.1 hd2.2.1 HN.out
                have hil : (ints ks).length ≤ 14 := by unfold ints; rw [List.length_map, Hn.out]; omega
                have hge : ∀ j, (x 2).ownBlock = some j → W.heap.size ≤ j := by
                  obtain ⟨A1', c1', e0, _, _, _, h5, _⟩ := hv0.open_
                  intro j hj
                  rw [e0] at hj
                  exact own_ge h5 j hj
                have hszW := heW.size
                have hk0 := HK.out; clear HK
                simp only [hx4] at hk0 ⊢
                have HK := Lib.hid hk0; clear hk0
                refine wpListIn_append_own _ rfl _ _ 28 rfl W.heap.size 3 ti (.int .i64 0) 1 8 Try.underlying28 hi hz0 hz1 hz2 rfl (by decide) _ _ _ rfl hv0 ⟨g, 0, none⟩ 1 1 [.int .i64 k] rfl rfl ?c1 ?c2 ?c3 ?c4 ?c5 ?_
                case c1 =>
                  intro j u hj
                  match j, hj with
                  | 0, hj =>
                    simp at hj
                    subst hj
                    simpa [Addr.add] using hbg.c1
                case c2 => intro u hu; simp at hu; subst hu; rfl
                case c3 => unfold maxLen; omega
                case c4 => omega
                case c5 => omega
                intro v' w' hown hg hblk
                refine HK.out _ _ trivial ⟨Below.grown heW hg heW.size hge, fun h1 h2 => absurd (.inr rfl) h2, fun h1 h2 => absurd (.inr rfl) h2, fun h1 => ?_⟩
                show OwnI w' W.heap.size 3 v' (ints ks ++ [(k : Int)])
                unfold OwnI
                rw [List.map_append, List.length_append]
                exact hown
              all_goals
                gi_wp2_with fail
                exact HK.out _ _ (by first | trivial | rfl) (HS.out.pure (Ext.refl _) _ _ (by omega))
            · intro x W7 hS hR
              obtain ⟨he7, _, _, hS5⟩ := hS
              have hown := hS5 (by omega)
              simp only [AllV, moR, true_and, and_true] at hR
              obtain ⟨⟨⟨r0, r1⟩, r3⟩, r6⟩ := hR
              simp only [List.take, List.drop, fill, Act.put, List.setIfInBounds_toArray, List.set_cons_zero, List.set_cons_succ, Nat.reduceAdd, r0, r1, r3, r6]
              clear r0 r1 r3 r6 hS5
              generalize x 2 = x2
              generalize x 4 = x4
              have hks1 : ints ks ++ [(k : Int)] = ints (ks ++ [k]) := by unfold ints; rw [List.map_append]; rfl
              rw [hks1] at hown
              obtain ⟨AV, cV, e5, o1, o2, o3, _⟩ := hown.open_
              rw [e5]
              clear e5 hks1 hown
              generalize x 5 = x5
              have hll : (ks ++ [k]).length = ks.length + 1 := by simp
              have hkl : (ints (ks ++ [k])).length = ks.length + 1 := by unfold ints; rw [List.length_map, hll]
              rw [hkl] at o1 ⊢
              clear hkl
              have he57 := i0.trans he7
              have hkn2 := Hn.out
              have hcall0 := IH.out f' (by omega) (ks ++ [k]) r (by have h1 := hbl.out; have h2 := Hfb.out; omega) hsdl (by rw [List.length_append]; simp only [List.length_singleton]; omega) (by
                intro j hj
                rw [List.mem_append, List.mem_singleton] at hj
                rcases hj with hj | rfl
                · exact Hks.out j hj
                · exact hkn) W7 AV cV _ _ _ (cd.ext he57) (cl.ext he57) (cc.ext he57) (co.ext he57) (cm.ext he57) (HD.out.ext (hE15.trans he57)) o3 (by rw [hll]; exact o1) o2
              rw [hll] at hcall0
              have hcall := Lib.hid hcall0; clear hcall0
              have b9W := b9.ext he57
              have coW := co.ext he57
              clear o3 hkn2 hxW hll
              gi_wp2_with fail
              refine ⟨trivial, CallsIn.inRound lp (callsIn_wide.2 (hcall.out.mono ?_))⟩
              rintro e w' (⟨hno, rfl, he'⟩ | ⟨ys, v, hso, rfl, hap, hbo', hsl⟩)
              · have Hno := Lib.hid hno; clear hno
                have heF := he7.trans he'
                gi_wp2
                refine ⟨keepsFrom_ext heF, ⟨Below.block heF _ (by have := i0.size; omega), Below.block heF _ (by have := i0.size; omega)⟩, i0.trans heF, ?_⟩
                intro y hy
                rw [List.mem_append, List.mem_singleton] at hy
                rcases hy with hy | rfl
                · exact Hi1.out y hy
                · show moreF m l ch f' (ks ++ [k]) (sdiff s (2 ^ k)) = none
                  rw [Hr.out]; exact Hno.out
              · have Hso := Lib.hid hso; clear hso
                have hbog : bo < g7 := by rw [← hg7]; exact hbo.lt
                have b9' := b9W.apart (show g7 + 1 ≠ bo by omega) hap
                have u9 := b9'.c1
                have z9 := b9'.frozen 0
                have Hb9 := Lib.hid b9'; clear b9'
                have Hbo := Lib.hid hbo'; clear hbo'
                gi_wp2
                refine ⟨((keepsFrom_ext he7).trans (keepsFrom_apart hap coW)).trans ((KeepsOthers.setCell _ _ _).from _), rfl, pre, ⟨k, hkb⟩, ys, v, rfl, Hi1.out, ?_, ?_, ?_, ?_, ?_⟩
                · show moreF m l ch f' (ks ++ [k]) (sdiff s (2 ^ k)) = some ys
                  rw [Hr.out]; exact Hso.out
                · exact Apart.above ((Apart.of_ext (hE15.trans he57)).trans hap) (by show _ ≤ g7 + 1; omega) _
                · exact Hbo.out.far (by show bo ≠ g7 + 1; omega) _
                · exact hsl.apartB Hb9.out ((Apart.refl _ _).set_ 0 _)
                · exact Hb9.out.set_ 0 _
          case hdone =>
            intro Dd W hDd ⟨i0, i1⟩ hdef
            have b9W := b9.ext i0
            have u9 := b9W.c1
            have z9 := b9W.frozen 0
            have hm := ((Marks.nil W W5.heap.size Dd).push hDd (Nat.le_refl _) hdef).set_ (p := ⟨g7 + 1, 0, none⟩) b9W (.bool false)
            have hbs := b9W.set_ 0 (.bool false)
            have hEx := Below.setCell (hE15.trans i0) (p := ⟨g7 + 1, 0, none⟩) (by show _ ≤ g7 + 1; omega) (.bool false)
            have hno : Hid (moreF m l ch (f' + 1) ks s = none) := by
              unfold Hid
              rw [hlk.out, List.findSome?_eq_none_iff]
              intro k hk
              rw [← bitsS_map] at hk
              obtain ⟨x, hx, rfl⟩ := List.mem_map.1 hk
              exact i1.out x hx
            clear i1 b9W hlk
            have Hhm := Lib.hid hm; have Hbs := Lib.hid hbs; have Hex := Lib.hid hEx
            clear hm hbs hEx
            go_wp2_with fail
            refine leaves_marks2 [markOf Dd] _ Hhm.out (fun W' hq => ⟨?_, .inl ⟨hno.out, rfl, hq.ext Hex.out hsz15⟩⟩)
            have v0 := (hq.blk Hbs.out).c1
            simp [results, Try.results104, go_sem, v0]
          case hstop =>
            rintro Dd c' pre W hDd ⟨kk, hkk, rfl⟩ ⟨rfl, pre', x, ys, v, h1, h2, h3, h4, h5, h6, h7⟩ hdef
            have hm := (Marks.nil W W5.heap.size Dd).push hDd (Nat.le_refl _) hdef
            have hso : Hid (moreF m l ch (f' + 1) ks s = some ys) := by
              unfold Hid
              obtain ⟨rr, hrr⟩ := bits_split (s := s) hkk
              rw [hlk.out, hrr, List.findSome?_append, ← bitsS_map, h1, List.map_append, List.findSome?_append]
              have : List.findSome? (fun k => moreF m l ch f' (ks ++ [k]) (sdiff s (2 ^ k))) (List.map (fun x : In s => x.1) pre') = none := by
                rw [List.findSome?_eq_none_iff]
                intro k hk
                obtain ⟨y, hy, rfl⟩ := List.mem_map.1 hk
                exact h2.out y hy
              rw [this]
              simp [h3.out]
            clear h1 h2 h3 hlk
            go_wp2_with fail
            refine leaves_marks2 [markOf Dd] _ hm (fun W' hq => ⟨?_, .inr ⟨ys, v, hso.out, rfl, h4.loops hq.loops hsz15, hq.blk h5, h6.loops hq.loops⟩⟩)
            have v0 := (hq.blk h7).c1
            simp [results, Try.results104, go_sem, v0]
end Go.Proofs.Pet

namespace Go.Proofs.Pet
open Go Go.RowKit Go.Maps Go.Shelf

theorem five_blks (w : World) (a b c d e : Array Value) (t1 t2 t3 t4 t5 : TypeId) :
    let W := ((((w.alloc (.cells a t1)).alloc (.cells b t2)).alloc (.cells c t3)).alloc (.cells d t4)).alloc (.cells e t5)
    Blk W w.heap.size t1 a ∧ Blk W (w.heap.size + 1) t2 b ∧ Blk W (w.heap.size + 1 + 1) t3 c ∧ Blk W (w.heap.size + 1 + 1 + 1) t4 d ∧ Blk W (w.heap.size + 1 + 1 + 1 + 1) t5 e ∧ Ext w W := by
  intro W
  refine ⟨?_, ?_, ?_, ?_, ?_, ((((Ext.alloc _ _).trans (Ext.alloc _ _)).trans (Ext.alloc _ _)).trans (Ext.alloc _ _)).trans (Ext.alloc _ _)⟩
  · exact ((((Blk.new w t1 a).alloc _).alloc _).alloc _).alloc _
  · have := (((Blk.new (w.alloc (.cells a t1)) t2 b).alloc (.cells c t3)).alloc (.cells d t4)).alloc (.cells e t5)
    rwa [World.size_alloc] at this
  · have := ((Blk.new ((w.alloc (.cells a t1)).alloc (.cells b t2)) t3 c).alloc (.cells d t4)).alloc (.cells e t5)
    rwa [World.size_alloc, World.size_alloc] at this
  · have := (Blk.new (((w.alloc (.cells a t1)).alloc (.cells b t2)).alloc (.cells c t3)) t4 d).alloc (.cells e t5)
    rwa [World.size_alloc, World.size_alloc, World.size_alloc] at this
  · have := Blk.new ((((w.alloc (.cells a t1)).alloc (.cells b t2)).alloc (.cells c t3)).alloc (.cells d t4)) t5 e
    rwa [World.size_alloc, World.size_alloc, World.size_alloc, World.size_alloc] at this
set_option maxRecDepth 20000 in
theorem best_any (D : Nat) (m : Mill) (hch : checkE m = 0) (l s : Nat) (hl : l < m.laced.length) (hs : s < 2 ^ m.orders.length) (ch : Int) (hcb : -1000 ≤ ch ∧ ch ≤ 1000) (w : World) (hD : Desk w D m) :
    Calls Try.prog 52 #[.pointer (some ⟨D, 0, none⟩), .int .i64 l, .int .i64 s, .int .i64 ch] w fun e w' => ∃ r, e = .returned r ∧ SlI w' r (ints ((moreF m l ch 7 [] s).getD [])) ∧ Ext w w' := by
  have hmf : ∀ (fn : Fn) (first cap : Array Value) (w : World), (Instr.makeFunc fn first cap).run Try.prog w = .ok (.func fn first cap) w := fun _ _ _ _ => rfl
  go_enter Try.func52, Try.ntmps52
  go_wp2_with fail
  obtain ⟨p1, p2, p3, p4, p5, pE⟩ := five_blks w _ _ _ _ _ _ _ _ _ _
  have hlen : (bits m.orders.length s).length ≤ 7 := by
    obtain ⟨l1, l2, l3⟩ := check_len hch
    have := bits_len m.orders.length s; omega
  refine (best1_any D m hch l hl ch hcb _ _ _ _ _ 7 [] s hlen hs (by simp) (fun k hk => by cases hk) _ none 0 none 0 0 p1 p2 p3 p4 p5 (hD.ext pE) (fun k hk => by cases hk) (Nat.le_refl _) (Nat.zero_le _)).mono ?_
  have hws : w.heap.size ≤ w.heap.size + 1 + 1 + 1 := by omega
  clear p1 p2 p3 p5 hD
  rintro e W' (⟨hno, rfl, he⟩ | ⟨ys, v, hso, rfl, hap, hbo, hsl⟩)
  · have k0 := (p4.ext he).c1
    have Hno := Lib.hid hno; clear hno p4
    have HE := Lib.hid (pE.trans he); clear pE he
    go_wp2_with fail
    go_ret
    refine ⟨_, rfl, ?_, HE.out⟩
    rw [Hno.out]
    exact ⟨none, 0, rfl, Nat.le_refl _, Nat.zero_le _, fun k hk => by cases hk⟩
  · have k0 := hbo.c1
    have Hso := Lib.hid hso; clear hso p4
    have HE := Lib.hid (Apart.ext_of pE hws hap); clear pE hap hbo
    obtain ⟨Av, cv, rfl, g2, g3, g4⟩ := hsl
    have G4 := Lib.hid g4; clear g4
    go_wp2_with fail
    go_ret
    refine ⟨_, rfl, ?_, HE.out⟩
    rw [Hso.out]
    exact ⟨_, _, rfl, g2, g3, G4.out⟩
end Go.Proofs.Pet

namespace Go.Proofs.Pet
open Go Go.RowKit Go.Maps Go.Shelf

/-! The mill of the example. -/
def fourM (y1 y3 : Int) : Mill := ⟨[0, -1], 1, [⟨0, 3, 4, [0, 1]⟩, ⟨1, 2, y1, [0, 1]⟩, ⟨0, 2, 9, [0]⟩, ⟨1, 4, y3, [1]⟩]⟩
def fourV (b : Nat) : Value := .agg #[.slice (some ⟨b + 1, 0, none⟩) 2 2, .int .i64 1, .slice (some ⟨b + 6, 0, none⟩) 4 4]
def fourCs (b : Nat) (y1 y3 : Int) : Array Value := #[.int .i64 0, .int .i64 3, .int .i64 4, .slice (some ⟨b + 2, 0, none⟩) 2 2, .int .i64 1, .int .i64 2, .int .i64 y1, .slice (some ⟨b + 3, 0, none⟩) 2 2, .int .i64 0, .int .i64 2, .int .i64 9, .slice (some ⟨b + 4, 0, none⟩) 1 1, .int .i64 1, .int .i64 4, .int .i64 y3, .slice (some ⟨b + 5, 0, none⟩) 1 1]
structure FourAt (w : World) (b : Nat) (y1 y3 : Int) : Prop where
  l : Blk w (b + 1) 3 #[.int .i64 0, .int .i64 (-1)]
  o0 : Blk w (b + 2) 3 #[.int .i64 0, .int .i64 1]
  o1 : Blk w (b + 3) 3 #[.int .i64 0, .int .i64 1]
  o2 : Blk w (b + 4) 3 #[.int .i64 0]
  o3 : Blk w (b + 5) 3 #[.int .i64 1]
  os : Blk w (b + 6) 107 (fourCs b y1 y3)
end Go.Proofs.Pet

namespace Go.Proofs.Pet
open Go Go.RowKit Go.Maps Go.Shelf

theorem IntsAt.apartV {w W : World} {A : Option Addr} {xs : List Int} {b : Nat} {t : TypeId} {cs : Array Value} (h : IntsAt w A xs) (hb : Blk w b t cs) (hno : ∀ i n : Nat, ∀ x, n < cs.size → cs[n]? = some x → i = i → ∀ y : Int, x ≠ .int .i64 y) (ha : Apart b w W) : IntsAt W A xs := by
  intro k hk
  obtain ⟨g, o, rfl, hc⟩ := h k hk
  have hgb : g ≠ b := by
    rintro rfl
    rw [hb.cell] at hc
    exact hno 0 (o + k) _ (Array.getElem?_eq_some_iff.1 hc).1 hc rfl _ rfl
  refine ⟨g, o, rfl, ?_⟩
  rw [← hc]
  have hlt : g < w.heap.size := by
    rcases Nat.lt_or_ge g w.heap.size with h | h
    · exact h
    · unfold World.cell? at hc
      simp [Array.getElem?_eq_none h] at hc
  unfold World.cell?
  simp only [ha.block g hlt hgb]
theorem SlI.apartV {w W : World} {v : Value} {xs : List Int} {b : Nat} {t : TypeId} {cs : Array Value} (h : SlI w v xs) (hb : Blk w b t cs) (hno : ∀ i n : Nat, ∀ x, n < cs.size → cs[n]? = some x → i = i → ∀ y : Int, x ≠ .int .i64 y) (ha : Apart b w W) : SlI W v xs := by
  obtain ⟨A, c, h1, h2, h3, h4⟩ := h
  exact ⟨A, c, h1, h2, h3, h4.apartV hb hno ha⟩
/-- the rows of a plan, made from j on -/
def PlanAt (w : World) (O n j : Nat) (full : List (List Int)) : Prop :=
  ∃ cs : Array Value, Blk w O 28 cs ∧ cs.size = n ∧ (∀ i, i < n → ∃ A a c, cs[i]? = some (.slice A a c)) ∧ ∀ i, j ≤ i → i < n → SlI w (cs[i]?.getD undef) (full[i]?.getD [])
theorem PlanAt.ext {w w' : World} {O n j : Nat} {full : List (List Int)} (h : PlanAt w O n j full) (he : Ext w w') : PlanAt w' O n j full := by
  obtain ⟨cs, h1, h2, h3, h4⟩ := h
  exact ⟨cs, h1.ext he, h2, h3, fun i g1 g2 => (h4 i g1 g2).ext he⟩
theorem PlanAt.start {w : World} {O n : Nat} {full : List (List Int)} (hb : Blk w O 28 (Array.replicate n (.slice none 0 0))) : PlanAt w O n n full :=
  ⟨_, hb, by simp, fun i hi => ⟨none, 0, 0, by rw [Array.getElem?_replicate, if_pos hi]⟩, fun i g1 g2 => absurd g1 (by omega)⟩
theorem PlanAt.cell {w : World} {O n j : Nat} {full : List (List Int)} (h : PlanAt w O n j full) {i : Nat} (hi : i < n) : ∃ v, w.cell? ⟨O, i, none⟩ = some v := by
  obtain ⟨cs, h1, h2, h3, h4⟩ := h
  obtain ⟨A, a, c, e⟩ := h3 i hi
  exact ⟨_, by rw [h1.cell, e]⟩
theorem PlanAt.frozen {w : World} {O n j : Nat} {full : List (List Int)} (h : PlanAt w O n j full) (i : Nat) : w.frozen? ⟨O, i, none⟩ = false := by
  obtain ⟨cs, h1, h2, h3, h4⟩ := h
  exact h1.frozen i
theorem PlanAt.push {w : World} {O n j : Nat} {full : List (List Int)} (h : PlanAt w O n (j + 1) full) (hj : j < n) {v : Value} (hv : SlI w v (full[j]?.getD [])) : PlanAt (w.setCell ⟨O, j, none⟩ v) O n j full := by
  obtain ⟨cs, h1, h2, h3, h4⟩ := h
  have hno : ∀ i n : Nat, ∀ x, n < cs.size → cs[n]? = some x → i = i → ∀ y : Int, x ≠ .int .i64 y := by
    intro _ i x hi hx _ y e
    obtain ⟨A, a, c, e'⟩ := h3 i (by omega)
    rw [e'] at hx
    cases hx
    cases e
  have ha : Apart O w (w.setCell ⟨O, j, none⟩ v) := (Apart.refl _ _).set_ j v
  refine ⟨_, h1.set_ j v, by simpa using h2, fun i hi => ?_, fun i g1 g2 => ?_⟩
  · rw [Array.getElem?_setIfInBounds]
    by_cases e : j = i
    · rw [if_pos e, if_pos (by omega)]
      obtain ⟨A, c, rfl, _⟩ := hv
      exact ⟨_, _, _, rfl⟩
    · rw [if_neg e]; exact h3 i hi
  · rw [Array.getElem?_setIfInBounds]
    by_cases e : j = i
    · subst e
      rw [if_pos rfl, if_pos (by omega)]
      exact hv.apartV h1 hno ha
    · rw [if_neg e]
      exact (h4 i (by omega) g2).apartV h1 hno ha
theorem PlanAt.rows {w : World} {O n : Nat} {full : List (List Int)} (h : PlanAt w O n 0 full) (hl : full.length = n) (hn : n ≤ maxLen) : RowsI w (.slice (some ⟨O, 0, none⟩) n n) full := by
  obtain ⟨cs, h1, h2, h3, h4⟩ := h
  subst hl
  refine ⟨some ⟨O, 0, none⟩, _, rfl, Nat.le_refl _, hn, fun i hi => ?_⟩
  obtain ⟨A, a, c, e⟩ := h3 i hi
  refine ⟨O, 0, _, rfl, ?_, h4 i (by omega) hi⟩
  rw [Nat.zero_add, h1.cell, e]; rfl

/-- the plan that is found -/
def planF (m : Mill) : Option (List (List Int)) :=
  if sumF (numC m) m.laced.length (2 ^ m.orders.length - 1) < 297 then some (planB m m.laced.length (2 ^ m.orders.length - 1)) else none
set_option maxRecDepth 20000 in
set_option maxHeartbeats 1000000 in
theorem plan_ok (v : Value) (m : Mill) (h0 : checkE m = 0) (w : World) (hv : MillVal w v m) :
    Calls Try.prog 20 #[v] w fun e w' => (planF m = none ∧ e = .returned (.tuple #[.slice none 0 0, .int .i64 6]) ∧ Ext w w') ∨ (∃ rows r, planF m = some rows ∧ e = .returned (.tuple #[r, .int .i64 0]) ∧ RowsI w' r rows ∧ Ext w w') := by
  have hmf : ∀ (fn : Fn) (first cap : Array Value) (w : World), (Instr.makeFunc fn first cap).run Try.prog w = .ok (.func fn first cap) w := fun _ _ _ _ => rfl
  have Hv := Lib.hid hv
  obtain ⟨A1, c1, A2, c2, rfl, h2, h3, h4, h5, h6, h7⟩ := hv
  have hE := Ext.alloc w (.cells #[.slice A1 m.laced.length c1, .int .i64 m.change, .slice A2 m.orders.length c2] 64)
  have hM := Blk.new w 64 #[.slice A1 m.laced.length c1, .int .i64 m.change, .slice A2 m.orders.length c2]
  have hv1 := Hv.out.ext hE
  obtain ⟨l1, l2, l3⟩ := check_len h0
  have hop := Lib.hid (opened_any _ m h0 _ hv1)
  have H0 := Lib.hid h0; clear h0
  clear h6 h7 hv1 h3 h5
  obtain ⟨k0, k1, k2⟩ := hM.c3
  obtain ⟨N, hN⟩ : ∃ N, N = 2 ^ m.orders.length := ⟨_, rfl⟩
  have hNb : 1 ≤ N ∧ N ≤ 128 := by
    have h1 : 2 ^ m.orders.length ≤ 2 ^ 7 := Nat.pow_le_pow_right (by omega) l3
    have h2 : (2 : Nat) ^ 7 = 128 := by decide
    have h3 := Nat.two_pow_pos m.orders.length
    omega
  have HN := Lib.hid hN; clear hN
  go_enter Try.func20, Try.ntmps20
  go_wp2_with fail
  refine hop.out.mono ?_
  rintro e w1 ⟨D, rfl, hDs, hD, he1⟩
  have Hc := Lib.hid (costs_any D m H0.out w1 hD)
  have hM1 := hM.ext he1
  have hE1 := hE.trans he1
  clear hM hE he1 k0 k1 k2 hop
  go_wp2_with fail
  refine Hc.out.mono ?_
  rintro e w2 ⟨B, rfl, hB, hc, he2⟩
  have hD2 := hD.ext he2
  have hg := Lib.hid (given_any D m H0.out 50 #[.pointer (some ⟨B, 0, none⟩)] #[] (enters_of Try.func50 (by kernel_rfl) rfl) (numC m) (fun l s => by have := numC_bd m l s; omega) N HN.out w2 hD2 (gives_cheapest B m H0.out N HN.out w2 hc))
  have hM2 := hM1.ext he2
  have hE2 := hE1.trans he2
  clear hM1 hE1 he2 Hc hD
  go_wp2_with fail
  refine hg.out.mono ?_
  rintro e w3 ⟨S, G, lim, rfl, hS, hG, he3⟩
  have hD3 := hD2.ext he3
  have hM3 := hM2.ext he3
  have hE3 := hE2.trans he3
  have hc3 := hc.ext he3
  obtain ⟨A1', c1', A2', c2', M, cnt, hb, g2, g3, g4, g5, g6, g7, g8, g9⟩ := id hD3
  have hsets := Lib.hid (sets_any _ m (by omega) N HN.out w3 ⟨A1', c1', A2', c2', rfl, g2, g3, g4, g5, g6, g7⟩)
  clear hM2 hE2 he3 hD2 hg hc g2 g3 g4 g5 g6 g7 g8 g9
  obtain ⟨k0, k1, k2, k3⟩ := hb.c4
  clear hb
  go_wp2_with fail
  refine hsets.out.mono ?_
  rintro e w4 ⟨rfl, he4⟩
  have hD4 := hD3.ext he4
  have hM4 := hM3.ext he4
  have hE4 := hE3.trans he4
  have hc4 := hc3.ext he4
  have hS4 := hS.ext he4
  have hG4 := hG.ext he4
  clear hM3 hE3 he4 hD3 hc3 hS hG hsets k0 k1 k2 k3
  obtain ⟨k0, k1, k2⟩ := hM4.c3
  obtain ⟨b, q1, q2, q3⟩ := hS4.at_ (i := m.laced.length) (by omega) (by omega)
  have hcell := q3.cell (j := N - 1) (by omega)
  obtain ⟨t, ht⟩ : ∃ t, sumF (numC m) m.laced.length (N - 1) = t := ⟨_, rfl⟩
  rw [ht] at hcell
  have HT := Lib.hid ht; clear ht
  have hN1 : ((N - 1 : Nat) : Int) = (N : Int) - 1 := by omega
  have hcast : (((N : Int) - 1).toNat) = N - 1 := by omega
  by_cases h297 : 297 ≤ t
  · have hd : decide (297 ≤ t) = true := by simpa using h297
    go_wp2_with fail
    go_ret2
    refine .inl ⟨?_, rfl, hE4⟩
    unfold planF
    rw [if_neg]
    rw [← HN.out, HT.out]; omega
  have hd : decide (297 ≤ t) = false := by simp; omega
  obtain ⟨ti, hi, hz0, hz1, hz2⟩ := info_parts info_slI
  have hmk : ∀ W : World, (Instr.makeSlice 70 (.int .i64 (m.laced.length : Int)) (.int .i64 (m.laced.length : Int))).run Try.prog W = .ok (.slice (some ⟨W.heap.size, 0, none⟩) m.laced.length m.laced.length) (W.alloc (.cells (Array.replicate m.laced.length (.slice none 0 0)) 28)) := by
    intro W
    have := run_make (P := Try.prog) W 70 28 ti _ Try.underlying70 hi hz0 .i64 .i64 m.laced.length m.laced.length (by omega) (by omega) (by rw [hz2]; omega) (by omega)
    have e : madeCells #[Value.slice none 0 0] m.laced.length = Array.replicate m.laced.length (.slice none 0 0) := by
      apply Array.ext
      · simp [madeCells]
      · intro j h1 h2
        simp [madeCells, Nat.mod_one]
    simpa [hz1, Value.cells, e] using this
  clear hi hz0 hz1 hz2
  have hF : Hid (planF m = some (planB m m.laced.length (N - 1))) := by
    unfold Hid planF
    rw [if_pos (by rw [← HN.out, HT.out]; omega), ← HN.out]
  have hX := Ext.alloc w4 (.cells (Array.replicate m.laced.length (.slice none 0 0)) 28)
  obtain ⟨full, hfull⟩ : ∃ full, planB m m.laced.length (N - 1) = full := ⟨_, rfl⟩
  have hP0 : PlanAt (w4.alloc (.cells (Array.replicate m.laced.length (.slice none 0 0)) 28)) w4.heap.size m.laced.length m.laced.length full := PlanAt.start (Blk.new w4 28 _)
  rw [hfull] at hF
  have ht2 : t < 297 := by omega
  obtain ⟨e0, e1, e2⟩ := (hM4.ext hX).c3
  go_wp2_with fail
  clear q1 q3 hcell k0 k1 k2 e0 e1 e2 hd hmk h297 hS4
  have hOs : w4.heap.size ≤ (w4.alloc (.cells (Array.replicate m.laced.length (.slice none 0 0)) 28)).heap.size := hX.size
  generalize w4.alloc _ = W5 at *
  generalize hO : w4.heap.size = O at *
  go_loopw [9, 11] (fun l i wr => ∃ j left : Nat, j ≤ m.laced.length ∧ left < N ∧ i = .int .i64 ((j : Int) - 1) ∧ l = .int .i64 left ∧ Ext w4 wr ∧ Hid (PlanAt wr O m.laced.length j full) ∧ Hid (sumF (numC m) j left < 297) ∧ Hid (full.take j = planB m j left)) (fun _ i _ => (intOf i + 1).toNat)
  case atStart =>
    refine ⟨m.laced.length, N - 1, Nat.le_refl _, by omega, rfl, by rw [hN1], hX, hP0, ?_, ?_⟩
    · show sumF (numC m) m.laced.length (N - 1) < 297
      rw [HT.out]; exact ht2
    · show full.take m.laced.length = planB m m.laced.length (N - 1)
      rw [hfull, List.take_of_length_le]
      rw [← hfull, planB_len]; omega
  case round =>
    clear hP0 hX
    obtain ⟨j, left, hj, hleft, rfl, rfl, hE, hP, hsum, htake⟩ := hrel
    rcases Nat.eq_zero_or_pos j with h0 | h0
    · subst h0
      have HE := Lib.hid hE; clear hE
      go_wp2_with fail
      go_ret2
      exact .inr ⟨full, _, hF.out, rfl, hP.out.rows (by rw [← hfull, planB_len]) (by unfold maxLen; omega), hE4.trans HE.out⟩
    · obtain ⟨j', rfl⟩ : ∃ j', j = j' + 1 := ⟨j - 1, by omega⟩
      clear h0
      rw [show ((j' + 1 : Nat) : Int) - 1 = (j' : Int) by omega]
      obtain ⟨b', q1, q2, q3⟩ := (hG4.ext hE).at_ (i := j' + 1) (by omega) (by omega)
      have hcell := q3.cell (j := left) hleft
      simp only [Nat.add_sub_cancel] at hcell
      obtain ⟨own, hown⟩ : ∃ own, getF (numC m) j' left = own := ⟨_, rfl⟩
      have hgs := get_sum (numC m) j' left hsum.out
      rw [hown] at hcell hgs
      have htk := htake.out
      rw [planB, hown] at htk
      have hownN : own < N := by
        have : own &&& left ≤ left := Nat.and_le_right
        have := hgs.1
        omega
      have hrow : Hid (full[j']?.getD [] = ints ((moreF m j' (numC m j' own) 7 [] own).getD [])) := by
        unfold Hid
        have h1 : (full.take (j' + 1))[j']?.getD [] = ints (runOf m j' own) := by
          rw [htk, List.getElem?_append_right (by rw [planB_len]; omega), planB_len]; simp
        rw [List.getElem?_take, if_pos (by omega)] at h1
        exact h1
      have htake' : Hid (full.take j' = planB m j' (sdiff left own)) := by
        unfold Hid
        have := congrArg (List.take j') htk
        rw [List.take_take, Nat.min_eq_left (by omega), List.take_append_of_le_length (by rw [planB_len]; omega)] at this
        rw [this, List.take_of_length_le (by rw [planB_len]; omega)]
      have hsum' : Hid (sumF (numC m) j' (sdiff left own) < 297) := hgs.2.2.1
      have hnb : Go.bits .andNot .i64 (left : Int) (own : Int) = ((sdiff left own : Nat) : Int) := andNot64 left own (by omega) (by omega)
      have hsd : sdiff left own < N := Nat.lt_of_le_of_lt (sdiff_le _ _) hleft
      generalize sdiff left own = left' at *
      clear hgs htk hown hsum htake
      have hcall := Lib.hid ((gives_cheapest B m H0.out N HN.out wr (hc4.ext hE)) wr (Ext.refl _) j' own (by omega) hownN)
      obtain ⟨ch, hch⟩ : ∃ ch, numC m j' own = ch := ⟨_, rfl⟩
      have hchb := numC_bd m j' own
      rw [hch] at hcall hrow hchb
      have HCH := Lib.hid hch; clear hch
      have Hnb := Lib.hid hnb; clear hnb
      go_wp2_with fail
      refine hcall.out.mono ?_
      rintro e wa ⟨rfl, hea⟩
      have hEa := hE.trans hea
      have hPa := hP.out.ext hea
      have hbest := Lib.hid (best_any D m H0.out j' own (by omega) (by rw [← HN.out]; exact hownN) ch (by omega) wa (hD4.ext hEa))
      clear hE hP hea q1 q2 q3 hcell hcall
      go_wp2_with fail
      refine hbest.out.mono ?_
      rintro e wb ⟨rv, rfl, hrv, heb⟩
      rw [← hrow.out] at hrv
      have hEb := hEa.trans heb
      have hPb := hPa.ext heb
      obtain ⟨ov, hov⟩ := hPb.cell (i := j') (by omega)
      have hfz := hPb.frozen j'
      have HP' := Lib.hid (hPb.push (by omega) hrv)
      have HE' := Lib.hid (Below.setCell hEb (p := ⟨O, j', none⟩) (by show w4.heap.size ≤ O; omega) rv)
      obtain ⟨Ar, cr, rfl, _⟩ := hrv
      have hnb := Hnb.out
      clear hEa hPa heb hbest hEb hPb
      go_wp2_with fail
      go_roundw
      case rel => exact ⟨j', left', by omega, hsd, rfl, rfl, HE'.out, HP'.out, hsum', htake'⟩
      case measure => simp [intOf]
end Go.Proofs.Pet

namespace Go.Proofs.Pet
open Go Go.RowKit Go.Maps Go.Shelf

def fourP : List (List Int) := [[0, 2], [1, 3]]
def fourM3 : Mill := ⟨[0, -1], 1, (fourM 2 5).orders ++ [⟨0, 9, 10, [0]⟩]⟩
end Go.Proofs.Pet

namespace Go.Proofs.Pet
open Go Go.RowKit Go.Maps Go.Shelf

/-- the blocks of the two variables, as far as they are laid -/
def ownB (c d : Nat) (Ld : Nat → Prop) (x : Nat → Value) (b : Nat) : Prop := (Ld c ∧ x c = .pointer (some ⟨b, 0, none⟩)) ∨ (Ld d ∧ x d = .pointer (some ⟨b, 0, none⟩))
def zeroM : Array Value := #[.slice none 0 0, .int .i64 0, .slice none 0 0]
end Go.Proofs.Pet

namespace Go.Proofs.Pet
open Go Go.RowKit Go.WideShapes Go.ChangeShapes Go.Joins Go.Deep
section
variable {H : Type} {enc : TypeId × Value → H} {P : Program}

/-- the end of a law's row: the call left all that lay as it lay -/
theorem law_post {f : Func} {s : ChangeSpec} {apart fresh handsOn again : Bool} {W W' : World} {args : Array Value} {v : Value} {ds gs : List (DataW H)} {before pa pv : List MemPlace}
    (hW : DataW.Whole enc P f.params.toList s.vars apart W args.toList ds gs before)
    (hres : ∀ (b : Nat) (sp : Nat → Bool) (hd : Bool), DataW.TrodAll enc P W' b sp hd f.resultTypes.toList (v.resultList f.resultTypes.size) (s.fn H (ds ++ gs)).results [])
    (hargs : ∀ sp : Nat → Bool, (∀ p ∈ before, sp p.block = true) → DataW.TrodAll enc P W' 0 sp true f.params.toList args.toList (s.fn H (ds ++ gs)).args pa)
    (hvars : ∀ sp : Nat → Bool, (∀ p ∈ before, sp p.block = true) → DataW.TrodVars enc P W' sp s.vars (s.fn H (ds ++ gs)).vars pv)
    (hps : before = pa ++ pv) (hb : Below W.heap.size W W')
    (hok : ∀ (j : Nat) (t : TypeId) (r : Value), f.resultTypes[j]? = some t → (v.resultList f.resultTypes.size)[j]? = some r → Value.okWide P W' .any 0 t r) :
    s.post enc P f apart fresh handsOn again W args v W' := by
  have hlt : ∀ p ∈ before, p.block < W.heap.size := fun p hp => hW.lt p hp
  have hold : ∀ p ∈ before, (fun b => decide (b < W.heap.size)) p.block = true := fun p hp => by simpa using hlt p hp
  refine ⟨ds, gs, before, [], pa, pv, hW, hres _ _ _, hargs _ hold, hvars _ hold, World.keptBut_mono (fun p hp => ⟨hp, ?_⟩) (hb.frame (· ∈ before)), fun _ => ?_⟩
  · rw [hps, List.mem_append] at hp
    exact Or.inr hp
  · obtain ⟨_, _, _, _, _, hz, hn⟩ := hW
    refine ⟨hok, _, _, ([] ++ pa) ++ pv, ⟨[] ++ pa, pv, trodAll_append (hargs _ (fun _ _ => rfl)) (hres _ _ _), hvars _ (fun _ _ => rfl), rfl, ?_, ?_⟩, ?_⟩
    · intro b off hp
      have hin : MemPlace.cell b off ∈ before := by rw [hps]; simpa using hp
      rw [hb.frozen (hlt _ hin)]
      exact hz b off hin
    · intro ha
      have := hn ha
      rw [hps] at this
      simpa using this
    · intro p hp _
      rw [hps]
      simpa using hp
/-- what was read reads as it did -/
theorem trodAll_stays (hl : laidOutB P = true) {W W' : World} (hb : Below W.heap.size W W') {sp : Nat → Bool} : ∀ (ts : List TypeId) (vs : List Value) (ds : List (DataW H)) (ps : List MemPlace), (ts.all fun t => P.readableRec t && decide (t < P.types.size)) = true →
    (∀ p ∈ ps, p.block < W.heap.size) → (∀ p ∈ ps, sp p.block = true) → DataW.TrodAll enc P W 0 (fun _ => true) true ts vs ds ps → DataW.TrodAll enc P W' 0 sp true ts vs ds ps
  | [], [], [], ps, _, _, _, h => h
  | t :: ts, v :: vs, d :: ds, ps, hr, hlt, hs, h => by
    obtain ⟨p, q, h1, h2, rfl⟩ := h
    simp only [List.all_cons, Bool.and_eq_true, decide_eq_true_eq] at hr
    exact ⟨p, q, WideElems.Trod_stays hl hr.1.1 hr.1.2 h1 (fun x hx => hb.same (hlt x (by simp [hx]))) (fun x hx => hs x (by simp [hx])),
      trodAll_stays hl hb ts vs ds q hr.2 (fun x hx => hlt x (by simp [hx])) (fun x hx => hs x (by simp [hx])) h2, rfl⟩
  | [], [], _ :: _, _, _, _, _, h => by simp [DataW.TrodAll] at h
  | [], _ :: _, _, _, _, _, _, h => by cases h
  | _ :: _, [], _, _, _, _, _, h => by simp [DataW.TrodAll] at h
  | _ :: _, _ :: _, [], _, _, _, _, h => by simp [DataW.TrodAll] at h
variable {w : World} {base : Nat} {spare : Nat → Bool} {held : Bool}
theorem spot_none {w : World} {a : Addr} {v : Value} (h : w.cell? a = some v) : a.spot = none := by
  unfold World.cell? at h
  split at h
  · cases e : a.spot with
    | none => rfl
    | some x => simp [e] at h
  · cases h
theorem addr_add (b o i : Nat) : (⟨b, o, none⟩ : Addr).add i = ⟨b, o + i, none⟩ := by unfold Addr.add; split <;> simp_all
end
end Go.Proofs.Pet

namespace Go.Proofs.Pet
open Go Go.RowKit Go.Maps Go.Shelf

end Go.Proofs.Pet

namespace Go.Proofs.Pet
open Go Go.RowKit

/-- a fact on the memory w, and the same on a later one -/
class Lift (A : Prop) (w w' : World) (B : outParam Prop) : Prop where
  lift : Ext w w' → A → B
section
variable {w w' : World}
theorem up (he : Ext w w') {A B : Prop} (h : A) [Lift A w w' B] : B := Lift.lift he h
instance (priority := low) {A : Prop} : Lift A w w' A := ⟨fun _ h => h⟩
instance {w0 : World} : Lift (Ext w0 w) w w' (Ext w0 w') := ⟨fun he h => h.trans he⟩
instance {p : Addr} {v : Value} : Lift (w.cell? p = some v) w w' (w'.cell? p = some v) := ⟨fun he h => he.cell h⟩
instance {A B A' B' : Prop} [Lift A w w' A'] [Lift B w w' B'] : Lift (A ∧ B) w w' (A' ∧ B') := ⟨fun he h => ⟨Lift.lift he h.1, Lift.lift he h.2⟩⟩
instance {A A' : Prop} [Lift A w w' A'] : Lift (Hid A) w w' (Hid A') := ⟨fun he h => Lib.hid (Lift.lift he h.out)⟩
instance {α : Sort _} {A B : α → Prop} [∀ x, Lift (A x) w w' (B x)] : Lift (∃ x, A x) w w' (∃ x, B x) := ⟨fun he ⟨x, h⟩ => ⟨x, Lift.lift he h⟩⟩
instance {α : Sort _} {A B : α → Prop} [∀ x, Lift (A x) w w' (B x)] : Lift (∀ x, A x) w w' (∀ x, B x) := ⟨fun he h x => Lift.lift he (h x)⟩
instance {g : Nat} {t : TypeId} {cs : Array Value} : Lift (Blk w g t cs) w w' (Blk w' g t cs) := ⟨fun he h => h.ext he⟩
instance {A : Option Addr} {xs : List Int} : Lift (IntsAt w A xs) w w' (IntsAt w' A xs) := ⟨fun he h => h.ext he⟩
instance {A : Option Addr} {xs : List Ord} : Lift (OrdsAt w A xs) w w' (OrdsAt w' A xs) := ⟨fun he h => h.ext he⟩
instance {v : Value} {x : Ord} : Lift (OrdVal w v x) w w' (OrdVal w' v x) := ⟨fun he h => h.ext he⟩
instance {v : Value} {m : Mill} : Lift (MillVal w v m) w w' (MillVal w' v m) := ⟨fun he h => h.ext he⟩
instance {S : Nat → Prop} {v : Value} {m : Mill} : Lift (MillValS S w v m) w w' (MillValS S w' v m) := ⟨fun he h => h.ext he⟩
instance {b : Nat} {e : TypeId} {v : Value} {xs : List Int} : Lift (OwnI w b e v xs) w w' (OwnI w' b e v xs) := ⟨fun he h => h.ext he⟩
instance {b : Nat} {e : TypeId} {v : Value} {xs : List Ord} : Lift (OwnO w b e v xs) w w' (OwnO w' b e v xs) := ⟨fun he h => h.ext he⟩
instance {b : Nat} {v : Value} {xs : List (List Int)} : Lift (OwnR w b v xs) w w' (OwnR w' b v xs) := ⟨fun he h => h.ext he⟩
instance {v : Value} {xs : List (List Int)} : Lift (RowsI w v xs) w w' (RowsI w' v xs) := ⟨fun he h => h.ext he⟩
instance {v : Value} {xs : List Int} : Lift (SlI w v xs) w w' (SlI w' v xs) := ⟨fun he h => h.ext he⟩
instance {b N : Nat} {f : Nat → Int} : Lift (Row w b N f) w w' (Row w' b N f) := ⟨fun he h => h.ext he⟩
instance {D : Nat} {m : Mill} : Lift (Desk w D m) w w' (Desk w' D m) := ⟨fun he h => h.ext he⟩
instance {B : Nat} {f : Nat → Nat → Nat → Int} : Lift (CostsAt w B f) w w' (CostsAt w' B f) := ⟨fun he h => h.ext he⟩
instance {b : Nat} {e : TypeId} {s : Nat} {v : Value} {n : Nat} {xs : List Value} : Lift (w.ownsRow b e s v n xs) w w' (w'.ownsRow b e s v n xs) := ⟨fun he h => ownsRow_ext2 h he⟩
end
example {w w1 w2 : World} {v : Value} {m : Mill} (he : Ext w1 w2) (h : Ext w w1 ∧ MillVal w1 v m ∧ w1.cell? ⟨3, 0, none⟩ = some v ∧ Hid (∃ b, Blk w1 b 3 #[])) : True := by
  replace h := up he h
  have : MillVal w2 v m := h.2.1
  trivial
end Go.Proofs.Pet

namespace Go.Proofs.Pet
open Go

theorem bits_all {n : Nat} : bits n (2 ^ n - 1) = List.range n := by
  unfold bits
  rw [List.filter_eq_self]
  intro k hk
  rw [Nat.testBit_two_pow_sub_one]
  simpa using hk
theorem chgF_sum (m : Mill) (xss : List (List Int)) : ∀ k, chgF m xss k = ((List.range k).map fun i => chR m i (rvI (xss[i]?.getD []))).sum
  | 0 => rfl
  | k + 1 => by rw [chgF, chgF_sum m xss k, List.range_succ, List.map_append, List.sum_append]; simp
/-- what a plan of Plan is -/
structure PlanIsOk (m : Mill) (rows : List (List Int)) : Prop where
  len : rows.length = m.laced.length
  pl : plE m rows = 0
  short : ∀ i, i < rows.length → (rows[i]?.getD []).length ≤ 7
  rng : ∀ i, i < rows.length → ∀ x, x ∈ rows[i]?.getD [] → 0 ≤ x ∧ x < m.orders.length
  tm : ∀ i, i < rows.length → tmR m i (rvI (rows[i]?.getD [])) = true
  sum : chgF m rows rows.length = fewR m (2 ^ m.orders.length - 1)
  all : rows.flatten.length = m.orders.length
  perm : rows.flatten.Perm (ints (List.range m.orders.length))
theorem twice_of_nodup {xs : List Int} (h : xs.Nodup) : twiceB xs = false := twiceB_false fun _ hk => nodup_not_take h hk
theorem plan_law {m : Mill} (hch : checkE m = 0) {rows : List (List Int)} (h : planF m = some rows) : PlanIsOk m rows := by
  unfold planF at h
  split at h
  · rename_i hs
    have hr : planB m m.laced.length (2 ^ m.orders.length - 1) = rows := Option.some.inj h
    have hlt : 2 ^ m.orders.length - 1 < 2 ^ m.orders.length := by have := Nat.two_pow_pos m.orders.length; omega
    obtain ⟨⟨h1, h2, h3⟩, h4⟩ := planB_ok m hch m.laced.length (2 ^ m.orders.length - 1) hlt hs
    rw [hr] at h1 h2 h3 h4
    rw [bits_all] at h3
    have hlen : rows.flatten.length = m.orders.length := by rw [h3.length_eq]; simp [ints]
    have hmem : ∀ x, x ∈ rows.flatten → 0 ≤ x ∧ x < m.orders.length := fun x hx => by
      have := h3.mem_iff.1 hx
      unfold ints at this
      obtain ⟨k, hk, rfl⟩ := List.mem_map.1 this
      have := List.mem_range.1 hk
      omega
    have hrow : ∀ i, i < rows.length → ∀ x, x ∈ rows[i]?.getD [] → x ∈ rows.flatten := fun i hi x hx => mem_flat hi hx
    have hnd : rows.flatten.Nodup := h3.symm.nodup_iff.1 (nodup_ints List.nodup_range)
    obtain ⟨_, _, l3⟩ := check_len hch
    refine ⟨h1, ?_, fun i hi => ?_, fun i hi x hx => hmem x (hrow i hi x hx), fun i hi => ?_, ?_, hlen, h3⟩
    · unfold plE
      rw [if_neg (by rw [hch]; simp), if_neg (by rw [h1]; simp)]
      have hl0 : listedE m rows.flatten = 0 := by
        unfold listedE
        rw [if_neg, if_neg]
        · rw [twice_of_nodup hnd]; simp
        · rw [Bool.not_eq_false, List.all_eq_true]
          intro x hx
          have := hmem x hx
          unfold inB
          simp; omega
      rw [if_neg (by rw [hl0]; simp)]
      rw [if_neg]
      rw [Bool.not_eq_false]
      refine weavesAll_true fun j hj => List.all_eq_true.2 fun x hx => ?_
      obtain ⟨s, _, _, hw, _⟩ := h2 j (by omega)
      exact hw x hx
    · obtain ⟨s, _, hp, _⟩ := h2 i (by omega)
      rw [hp.length_eq]
      have := bits_length_le m.orders.length s
      simp [ints]; omega
    · obtain ⟨s, _, _, _, ht, _⟩ := h2 i (by omega)
      exact ht
    · rw [chgF_sum, h1, h4, fewR_sum m hch _ hlt, if_pos hs]
  · cases h
end Go.Proofs.Pet

namespace Go.Proofs.Pet
set_option linter.unusedSimpArgs false
open Go Go.RowKit Go.Maps Go.Shelf
open Go.Proofs.Mended (atN risesF upT)

/-- an order of a few cards -/
structure OrdL (l : List Nat) : Prop where
  few : 1 ≤ l.length ∧ l.length ≤ 6
  perm : l.Perm (List.range l.length)
theorem lenI (l : List Nat) : (ints l).length = l.length := by unfold ints; rw [List.length_map]
theorem ints_atN (l : List Nat) (k : Nat) : (ints l)[k]?.getD 0 = (atN l k : Int) := by
  unfold ints atN
  rw [List.getElem?_map]
  cases l[k]? <;> rfl
theorem memNat {l : List Nat} {k : Nat} : (k : Int) ∈ ints l ↔ k ∈ l := by
  unfold ints
  rw [List.mem_map]
  constructor
  · rintro ⟨x, hx, e⟩
    have : x = k := by omega
    rwa [← this]
  · intro h; exact ⟨k, h, rfl⟩
theorem IntsAt.atN {w : World} {A : Option Addr} {l : List Nat} (h : IntsAt w A (ints l)) {k : Nat} (hk : k < l.length) : ∃ b o, A = some ⟨b, o, none⟩ ∧ w.cell? ⟨b, o + k, none⟩ = some (.int .i64 (Mended.atN l k : Int)) := by
  obtain ⟨b, o, e, c⟩ := h k (by rw [lenI]; exact hk)
  rw [ints_atN] at c
  exact ⟨b, o, e, c⟩
theorem OrdL.mem {l : List Nat} (h : OrdL l) {k : Nat} (hk : k < l.length) : k ∈ l := h.perm.mem_iff.2 (List.mem_range.2 hk)
theorem OrdL.nodup {l : List Nat} (h : OrdL l) : l.Nodup := h.perm.nodup_iff.2 List.nodup_range
theorem ordered1L (w : World) (B n : Nat) (hB : w.cell? ⟨B, 0, none⟩ = some (.int .i64 (n : Int))) (hn : n ≤ 7) (x : Int) : Tells Try.prog w 134 #[] #[.pointer (some ⟨B, 0, none⟩)] IntVal x (inB x 0 ((n : Int) - 1)) := by
  intro W v hW hv
  obtain rfl : v = .int .i64 x := hv
  have hB' := hW.cell hB
  have H := Lib.hid (inL_any x 0 ((n : Int) - 1) _ rfl W)
  generalize inB x 0 ((n : Int) - 1) = q at H ⊢
  clear hB
  show Calls Try.prog 134 #[_, .pointer (some ⟨B, 0, none⟩)] W _
  go_enter Try.func134, Try.ntmps134
  go_wp2_with fail
  refine H.out.mono ?_
  rintro e w' ⟨rfl, rfl⟩
  go_wp2
  go_ret
  exact ⟨rfl, Ext.refl _⟩
theorem ordered_any (A : Option Addr) (c : Nat) (l : List Nat) (hl : OrdL l) (w : World) (hc : l.length ≤ c) (hx : IntsAt w A (ints l)) :
    Calls Try.prog 94 #[.slice A l.length c, .int .i64 (l.length : Int)] w fun e w' => e = .returned (.int .i64 0) ∧ Ext w w' := by
  have hmf : ∀ (fn : Fn) (first cap : Array Value) (w : World), (Instr.makeFunc fn first cap).run Try.prog w = .ok (.func fn first cap) w := fun _ _ _ _ => rfl
  have hl6 := hl.few.2
  have hE := Ext.alloc w (.cells #[.int .i64 (l.length : Int)] 3)
  have hB := (cell_new_l w (.int .i64 (l.length : Int)) 3).1
  have hall : (ints l).all (fun x => inB x 0 ((l.length : Int) - 1)) = true := by
    rw [List.all_eq_true]
    intro x hx
    unfold ints at hx
    obtain ⟨k, hk, rfl⟩ := List.mem_map.1 hx
    have := List.mem_range.1 (hl.perm.mem_iff.1 hk)
    unfold inB
    simp; omega
  have htw : twiceB (ints l) = false := twice_of_nodup (nodup_ints hl.nodup)
  have hev := everyL 134 #[] #[.pointer (some ⟨w.heap.size, 0, none⟩)] (enters_of Try.func134 (by kernel_rfl) rfl) (fun x => inB x 0 ((l.length : Int) - 1)) A c (ints l) _ (by rw [lenI]; unfold maxLen; omega) (hx.ext hE) (fun x _ => ordered1L _ w.heap.size l.length hB (by omega) x)
  rw [hall, lenI] at hev
  have Hev := Lib.hid hev
  have Htw := Lib.hid (fun W (he : Ext w W) => twiceL_any A c (ints l) false htw W (by rw [lenI]; unfold maxLen; omega) (by rw [lenI]; exact hc) (hx.ext he))
  rw [lenI] at Htw
  clear hall htw hev hx
  go_enter Try.func94, Try.ntmps94
  go_wp2_with fail
  refine Hev.out.mono ?_
  rintro e w1 ⟨rfl, he1⟩
  have ht := Lib.hid (Htw.out w1 (hE.trans he1))
  go_wp2_with fail
  refine ht.out.mono ?_
  rintro e w2 ⟨rfl, rfl⟩
  go_wp2_with fail
  go_ret
  exact ⟨rfl, hE.trans he1⟩
theorem alone_any (A : Option Addr) (c : Nat) (l : List Nat) (hl : OrdL l) (w : World) (hc : l.length ≤ c) (hx : IntsAt w A (ints l)) :
    Calls Try.prog 39 #[.slice A l.length c] w fun e w' => e = .returned (.int .i64 0) ∧ Ext w w' := by
  have hl6 := hl.few
  have hin := Lib.hid (inL_any (l.length : Int) 1 7 true (by unfold inB; simp; omega) w)
  have ho := Lib.hid (ordered_any A c l hl w hc hx)
  clear hx
  go_enter Try.func39, Try.ntmps39
  go_wp2_with fail
  refine hin.out.mono ?_
  rintro e w1 ⟨rfl, rfl⟩
  go_wp2_with fail
  refine ho.out.mono ?_
  rintro e w2 ⟨rfl, he⟩
  go_wp2_with fail
  go_ret
  exact ⟨rfl, he⟩
theorem max_snoc (l : List Nat) {k : Nat} (hk : k < l.length) : (l.take (k + 1)).foldl max 0 = max ((l.take k).foldl max 0) (atN l k) := by
  rw [List.take_add_one, List.foldl_append, List.getElem?_eq_getElem hk]
  unfold Mended.atN
  rw [List.getElem?_eq_getElem hk]
  rfl
theorem greatestL_any (A : Option Addr) (c n : Nat) (l : List Nat) (hn : l.length = n) (r : Nat) (hr : l.foldl max 0 = r) (w : World) (hl : l.length ≤ 100) (hx : IntsAt w A (ints l)) :
    Calls Try.prog 96 #[.slice A n c] w fun e w' => e = .returned (.int .i64 (r : Int)) ∧ w = w' := by
  have Hr := Lib.hid hr
  clear hr
  subst hn
  go_enter Try.func96, Try.ntmps96
  go_wp2_with fail
  go_loopw [3, 8] (fun n i wr => ∃ k : Nat, k ≤ l.length ∧ i = .int .i64 (k : Int) ∧ n = .int .i64 (((l.take k).foldl max 0 : Nat) : Int) ∧ w = wr) (fun _ i _ => l.length - (intOf i).toNat)
  case atStart => exact ⟨0, Nat.zero_le _, rfl, rfl, by trivial⟩
  case round =>
    obtain ⟨k, hk, rfl, rfl, rfl⟩ := hrel
    by_cases hlt : k < l.length
    · obtain ⟨b, o, e1, cy⟩ := hx.atN hlt
      subst e1
      have hm := Lib.hid (max_snoc l hlt)
      generalize atN l k = y at *
      generalize (l.take k).foldl max 0 = a at *
      go_wp2_with fail
      go_roundw
      case rel => exact ⟨k + 1, by omega, by go_num, by rw [hm.out]; show Value.int .i64 _ = _; congr 1; omega, by trivial⟩
      case measure => simp [intOf]; omega
    · obtain rfl : k = l.length := by omega
      have ht : (l.take l.length).foldl max 0 = r := by rw [List.take_length]; exact Hr.out
      rw [ht]
      go_wp2_with fail
      go_ret
      exact ⟨rfl, rfl⟩
/-- what rises has written when it is at p, and behind it at the j-th place -/
def riU (l : List Nat) (p j q : Nat) : Int := if p < q then (atN (risesF l) q : Int) else if q = p then (upT l p j : Int) else 0
set_option maxRecDepth 20000 in
set_option maxHeartbeats 1000000 in
theorem rises_any (A : Option Addr) (c : Nat) (l : List Nat) (hl : l.length ≤ 7) (w : World) (hx : IntsAt w A (ints l)) :
    Calls Try.prog 95 #[.slice A l.length c] w fun e w' => ∃ S, e = .returned (.slice (some ⟨S, 0, none⟩) l.length l.length) ∧ Row w' S l.length (fun p => (atN (risesF l) p : Int)) ∧ w.heap.size ≤ S ∧ Ext w w' := by
  obtain ⟨ti, hi, hz0, hz1, hz2⟩ := info_parts info_int
  have hmk : ∀ W : World, (Instr.makeSlice 28 (.int .i64 (l.length : Int)) (.int .i64 (l.length : Int))).run Try.prog W = .ok (.slice (some ⟨W.heap.size, 0, none⟩) l.length l.length) (W.alloc (.cells (madeCells #[.int .i64 0] l.length) 3)) := by
    intro W
    have := run_make (P := Try.prog) W 28 3 ti _ Try.underlying28 hi hz0 .i64 .i64 l.length l.length (by omega) (by omega) (by rw [hz2]; omega) (by omega)
    simpa [hz1, Value.cells] using this
  have hX : Ext w (w.alloc (.cells (madeCells #[.int .i64 0] l.length) 3)) := Ext.alloc _ _
  have hS := Row.made (Blk.new w 3 (madeCells #[.int .i64 0] l.length))
  have Hx := Lib.hid hx
  clear hx
  go_enter Try.func95, Try.ntmps95
  go_wp2_with fail
  clear hmk
  generalize w.alloc _ = w2 at *
  obtain ⟨S, hSe⟩ : ∃ S, w.heap.size = S := ⟨_, rfl⟩
  rw [hSe] at hS ⊢
  have HSe := Lib.hid hSe; clear hSe
  go_loopw [4] (fun iv wr => ∃ p : Nat, p ≤ l.length ∧ iv = .int .i64 ((p : Int) - 1) ∧ Hid (Ext w wr) ∧ Hid (Row wr S l.length (fun q => if p ≤ q then (atN (risesF l) q : Int) else 0))) (fun iv _ => (intOf iv + 1).toNat)
  case atStart => exact ⟨l.length, Nat.le_refl _, rfl, Lib.hid hX, Lib.hid (hS.congr fun j hj => by rw [if_neg (by omega)])⟩
  case round =>
    clear hX hS
    obtain ⟨p, hp, rfl, he, hR⟩ := hrel
    cases p with
    | zero =>
      go_wp2_with fail
      go_ret
      exact ⟨S, rfl, hR.out.congr fun j _ => by rw [if_pos (by omega)], by rw [HSe.out]; exact Nat.le_refl _, he.out⟩
    | succ p =>
      have e1 : ((p + 1 : Nat) : Int) - 1 = (p : Int) := by omega
      rw [e1]
      clear e1
      go_wp2_with fail
      go_loopw [5] (fun jv wr => ∃ j : Nat, p + 1 + j ≤ l.length ∧ jv = .int .i64 ((p + 1 + j : Nat) : Int) ∧ Hid (Ext w wr) ∧ Hid (Row wr S l.length (riU l p j))) (fun jv _ => l.length - (intOf jv).toNat)
      case atStart => exact ⟨0, by omega, by go_num, he, Lib.hid (hR.out.congr fun j hj => by
        unfold riU
        by_cases h1 : p < j
        · rw [if_pos (by omega), if_pos h1]
        · rw [if_neg (by omega), if_neg h1]; split <;> rfl)⟩
      case round =>
        clear he hR
        obtain ⟨j, hj, rfl, HE, hR⟩ := hrel
        by_cases hlt : p + 1 + j < l.length
        · obtain ⟨b, o, e1, cq⟩ := (Hx.out.ext HE.out).atN hlt
          subst e1
          obtain ⟨b2, o2, e2, cp⟩ := (Hx.out.ext HE.out).atN (k := p) (by omega)
          injection e2 with e2
          injection e2 with e21 e22
          subst e21; subst e22
          have hup := Mended.upT_succ hlt
          have hub := Mended.upT_bound l p j (by omega)
          have hrb := Mended.rises_bound l (p + 1 + j)
          have rp := hR.out.cell (j := p) (by omega)
          have rq := hR.out.cell (j := p + 1 + j) hlt
          have ep : riU l p j p = (upT l p j : Int) := by unfold riU; rw [if_neg (by omega), if_pos rfl]
          have eq : riU l p j (p + 1 + j) = (atN (risesF l) (p + 1 + j) : Int) := by unfold riU; rw [if_pos (by omega)]
          rw [ep] at rp
          rw [eq] at rq
          have rf := hR.out.frozen p
          have hnext : Hid (∀ W, Row W S l.length (riU l p j) → Row (W.setCell ⟨S, p, none⟩ (.int .i64 ((max (upT l p j) (atN (risesF l) (p + 1 + j)) : Nat) : Int))) S l.length (fun q => if q = p then ((max (upT l p j) (atN (risesF l) (p + 1 + j)) : Nat) : Int) else riU l p j q)) := fun W h => h.set_ (by omega) _
          have hsame : Hid (∀ u : Nat, upT l p (j + 1) = u → ∀ q, q < l.length → (if q = p then (u : Int) else riU l p j q) = riU l p (j + 1) q) := fun u hu q hq => by
            unfold riU
            by_cases h1 : q = p
            · rw [if_pos h1, if_neg (by omega), if_pos h1, hu]
            · rw [if_neg h1]
              split
              · rfl
              · simp only [if_neg h1]
          obtain ⟨x, hxe⟩ : ∃ x, atN l p = x := ⟨_, rfl⟩
          obtain ⟨y, hye⟩ : ∃ y, atN l (p + 1 + j) = y := ⟨_, rfl⟩
          obtain ⟨u, hue⟩ : ∃ u, upT l p j = u := ⟨_, rfl⟩
          obtain ⟨r, hre⟩ : ∃ r, atN (risesF l) (p + 1 + j) = r := ⟨_, rfl⟩
          rw [hxe] at cp hup
          rw [hye] at cq hup
          rw [hue] at rp hup hub hnext
          rw [hre] at rq hup hrb hnext
          have Hup := Lib.hid hup
          have Hue := Lib.hid hue
          have HSs := HSe.out
          have hwS : w.heap.size ≤ S := by omega
          have hSr := hR.out.lt
          clear ep eq hup hxe hye hue hre HSs
          by_cases hxy : x < y
          · have hd : decide ((x : Int) < (y : Int)) = true := by simp; omega
            go_wp2_with fail
            go_quiet (fail)
            go_upto_region 9 with fail
            have hdr := Ext.drewN wr nq
            replace rp := hdr.cell rp
            replace rq := hdr.cell rq
            have HE2 := Lib.hid (HE.out.trans hdr)
            have hR2 := Lib.hid (hR.out.ext hdr)
            clear HE hR rf hdr
            generalize wr.drewN nq = wd at *
            refine wp_region_chain 13 [(10, true), (11, true), (12, true)] [] (by kernel_rfl) (by kernel_rfl) (by kernel_rfl) ?_
            simp only [List.take, List.drop, fill, Act.put, List.setIfInBounds_toArray, List.set_cons_zero, List.set_cons_succ, Nat.reduceAdd]
            repeat (first
              | refine Floats.mut rfl ?_
              | (apply Floats.float rfl
                 · intro x W he hd K Q hK
                   try (have he := he (by decide); have rp := he.cell rp; have rq := he.cell rq)
                   try simp only [edges, DepsE, List.filter_cons, List.filter_nil, Region.binds, if_true, and_true, true_and, upd, Nat.reduceEqDiff, if_false] at hd
                   try simp only [hd] at hK ⊢
                   have HK := Lib.hid hK; clear hK
                   go_wp2_with fail
                   exact HK.out))
            refine Floats.done fun W he hG => ?_
            refine Chain.cons _ rfl ?_
            intro x hd K Q hK
            try simp only [edges, DepsE, List.filter_cons, List.filter_nil, Region.binds, if_true, and_true, true_and, upd, Nat.reduceEqDiff, if_false] at hd
            try simp only [hd] at hK ⊢
            clear hd
            have HK := Lib.hid hK; clear hK
            have hb5 := Ext.alloc W (.cells #[.int .i64 (u : Int), .int .i64 (r : Int)] 3)
            have hB5 := Blk.new W 3 #[.int .i64 (u : Int), .int .i64 (r : Int)]
            have hg := Lib.hid (greatestL_any (some ⟨W.heap.size, 0, none⟩) 2 2 [u, r] rfl (max u r) (by simp) (W.alloc (.cells #[.int .i64 (u : Int), .int .i64 (r : Int)] 3)) (by simp) (fun k hk => by
              match k, hk with
              | 0, _ => exact ⟨_, 0, rfl, by rw [hB5.cell]; rfl⟩
              | 1, _ => exact ⟨_, 0, rfl, by rw [hB5.cell]; rfl⟩))
            have heX := he.trans hb5
            go_wp2_with fail
            refine HK.out _ _ (fun _ => heX) ?_
            clear HK
            refine Chain.cons _ rfl ?_
            intro x hd K Q hK
            try simp only [edges, DepsE, List.filter_cons, List.filter_nil, Region.binds, if_true, and_true, true_and, upd, Nat.reduceEqDiff, if_false] at hd
            try simp only [hd] at hK ⊢
            clear hd
            have HK := Lib.hid hK; clear hK
            go_wp2_with fail
            refine hg.out.mono ?_
            rintro e w5 ⟨rfl, rfl⟩
            go_wp2_with fail
            refine HK.out _ _ (fun _ => heX) ?_
            clear HK
            refine Chain.cons _ rfl ?_
            intro x hd K Q hK
            try simp only [edges, DepsE, List.filter_cons, List.filter_nil, Region.binds, if_true, and_true, true_and, upd, Nat.reduceEqDiff, if_false] at hd
            try simp only [hd] at hK ⊢
            clear hd
            have HK := Lib.hid hK; clear hK
            go_wp2_with fail
            refine HK.out _ _ (fun _ => heX) ?_
            clear HK
            refine Chain.nil ?_
            simp only [upd, Nat.reduceEqDiff, if_false, if_true]
            have rp' := heX.cell rp
            have rf' := (hR2.out.ext heX).frozen p
            go_wp2_with fail
            go_roundw
            case rel => exact ⟨j + 1, by omega, by go_num, Lib.hid (Below.setCell (HE2.out.trans heX) (p := ⟨S, p, none⟩) hwS _), Lib.hid ((hnext.out _ (hR2.out.ext heX)).congr fun q hq => hsame.out (max u r) (by rw [Hup.out, if_pos hxy]) q hq)⟩
            case measure => simp [intOf]; omega
          · have hd : decide ((x : Int) < (y : Int)) = false := by simp; omega
            go_wp2_with fail
            go_quiet (fail)
            go_wp2_with fail
            go_roundw
            case rel => exact ⟨j + 1, by omega, by go_num, Lib.hid (HE.out.trans (Ext.drewN _ _)), Lib.hid ((hR.out.ext (Ext.drewN _ _)).congr fun q hq => by
              rw [← hsame.out u (by rw [Hup.out, if_neg hxy]) q hq]
              split
              · rename_i e; subst e; unfold riU; rw [if_neg (by omega), if_pos rfl, Hue.out]
              · rfl)⟩
            case measure => simp [intOf]; omega
        · have rp := hR.out.cell (j := p) (by omega)
          have ep : riU l p j p = (upT l p j : Int) := by unfold riU; rw [if_neg (by omega), if_pos rfl]
          rw [ep] at rp
          have rf := hR.out.frozen p
          have hua := Mended.upT_all (l := l) (p := p) (j := j) (by omega) (by omega)
          have hub := Mended.upT_bound l p j (by omega)
          obtain ⟨u, hue⟩ : ∃ u, upT l p j = u := ⟨_, rfl⟩
          rw [hue] at rp hua hub
          have Hua := Lib.hid hua
          have hSs := HSe.out
          have hwS : w.heap.size ≤ S := by omega
          have hnew : Hid (Row (wr.setCell ⟨S, p, none⟩ (.int .i64 ((u : Int) + 1))) S l.length (fun q => if p ≤ q then (atN (risesF l) q : Int) else 0)) := Lib.hid ((hR.out.set_ (j := p) (by omega) ((u : Int) + 1)).congr fun q _ => by
            show (if q = p then (u : Int) + 1 else riU l p j q) = _
            by_cases h1 : q = p
            · subst h1
              rw [if_pos rfl, if_pos (Nat.le_refl _), ← Hua.out]; rfl
            · rw [if_neg h1]
              unfold riU
              by_cases h2 : p < q
              · rw [if_pos h2, if_pos (by omega)]
              · rw [if_neg h2, if_neg h1, if_neg (by omega)])
          have hen := Lib.hid (Below.setCell HE.out (p := ⟨S, p, none⟩) hwS (.int .i64 ((u : Int) + 1)))
          clear ep hua hue hSs
          go_wp2_with fail
          go_roundw
          case rel => exact ⟨p, by omega, by go_num, Lib.hid hen.out, hnew⟩
          case measure => simp [intOf]
theorem index_is {l : List Nat} {k i : Nat} (h : k ∈ l) (h1 : atN l i = k) (h2 : ∀ j, j < i → atN l j ≠ k) : Mended.idxF k l = i := by
  obtain ⟨g1, g2⟩ := Mended.idxF_is h
  rcases Nat.lt_trichotomy (Mended.idxF k l) i with e | e | e
  · exact absurd g1 (h2 _ e)
  · exact e
  · exact absurd h1 (g2 _ e)
theorem indexN_any (k : Nat) (A : Option Addr) (c : Nat) (l : List Nat) (hk : k ∈ l) (w : World) (hl : l.length ≤ 100) (hx : IntsAt w A (ints l)) :
    Calls Try.prog 42 #[.slice A l.length c, .int .i64 (k : Int)] w fun e w' => e = .returned (.int .i64 ((Mended.idxF k l : Nat) : Int)) ∧ w = w' := by
  have Hk := Lib.hid hk
  clear hk
  go_enter Try.func42, Try.ntmps42
  go_wp2_with fail
  go_loopw [8] (fun i wr => ∃ j : Nat, j ≤ l.length ∧ i = .int .i64 (j : Int) ∧ Hid (∀ i, i < j → atN l i ≠ k) ∧ w = wr) (fun i _ => l.length - (intOf i).toNat)
  case atStart => exact ⟨0, Nat.zero_le _, rfl, Lib.hid (fun i hi => absurd hi (by omega)), by trivial⟩
  case round =>
    obtain ⟨j, hj, rfl, hno, rfl⟩ := hrel
    by_cases hlt : j < l.length
    · obtain ⟨b, o, e1, cy⟩ := hx.atN hlt
      subst e1
      by_cases he : atN l j = k
      · have hi := Lib.hid (index_is Hk.out he hno.out)
        rw [he] at cy
        clear he
        go_wp2_with fail
        go_ret
        refine ⟨?_, rfl⟩
        rw [hi.out]
        rfl
      · have hd : ((k : Int) == (atN l j : Int)) = false := by
          rw [beq_eq_false_iff_ne]; omega
        have Hne := Lib.hid he
        obtain ⟨y, hy⟩ : ∃ y, atN l j = y := ⟨_, rfl⟩
        rw [hy] at cy hd
        clear he hy
        go_wp2_with fail
        go_roundw
        case rel =>
          refine ⟨j + 1, by omega, by go_num, Lib.hid (fun i hi => ?_), by trivial⟩
          by_cases e : i = j
          · subst e; exact Hne.out
          · exact hno.out i (by omega)
        case measure => simp [intOf]; omega
    · obtain ⟨g1, g2⟩ := Mended.idxF_is Hk.out
      exact absurd g1 (hno.out _ (by have := Mended.idxF_lt Hk.out; omega))
end Go.Proofs.Pet
