/-
  Contracts of functions, each proved once.
-/
import Derived.Test.YtknokjnplbdmeaaGreatP10
namespace Go.Proofs.Pet
open Go Go.RowKit Go.Maps Go.Shelf

theorem OwnR.grown {w w' : World} {base base' n : Nat} {r v : Value} {xss : List (List Int)} {vs : List Value} (h : OwnR w base r xss) (hg : w.grownBy w' v.ownBlock) (hv : w.ownsRow base' 22 1 v n vs) (hne : ∀ g, r.ownBlock = some g → some g ≠ v.ownBlock) : OwnR w' base r xss := by
  obtain ⟨us, ⟨h0, h1⟩, h2, h3⟩ := h
  refine ⟨us, ⟨h0, ?_⟩, h2, fun i hi => (h3 i hi).grownR hg hv⟩
  rcases h1 with h1 | ⟨g, cap, cur, rfl, hg1, hb, r⟩
  · exact .inl h1
  · exact .inr ⟨g, cap, cur, rfl, hg1, by rw [← hb]; exact hg.block g (Array.getElem?_eq_some_iff.1 hb).1 (hne g rfl), r⟩
/-- all rows that begin with one of the first i elements -/
def accF (n : Nat) (xs : List Int) (i : Nat) : List (List Int) :=
  (List.range i).flatMap fun j => (rowsF n (xs.take j ++ xs.drop (j + 1))).map fun r => (xs[j]?.getD 0) :: r
theorem accF_succ (n : Nat) (xs : List Int) (i : Nat) : accF n xs (i + 1) = accF n xs i ++ (rowsF n (xs.take i ++ xs.drop (i + 1))).map fun r => (xs[i]?.getD 0) :: r := by
  unfold accF; rw [List.range_succ, List.flatMap_append]; simp
def fct : Nat → Nat
  | 0 => 1
  | n + 1 => (n + 1) * fct n
theorem fct_le : ∀ n, n ≤ 7 → fct n ≤ 5040 := by decide
theorem rowsF_len : ∀ (n : Nat) (xs : List Int), xs.length = n → (rowsF n xs).length = fct n
  | 0, _, _ => rfl
  | n + 1, xs, h => by
    have hl : ∀ i, i ≤ n + 1 → (accF n xs i).length = i * fct n := by
      intro i
      induction i with
      | zero => intro _; simp [accF]
      | succ i ih =>
        intro hi
        rw [accF_succ, List.length_append, ih (by omega), List.length_map, rowsF_len n _ (by rw [List.length_append, List.length_take, List.length_drop]; omega), Nat.add_mul]
        omega
    have := hl (n + 1) (by omega)
    unfold rowsF
    rw [h]
    exact this
theorem accF_len (n : Nat) (xs : List Int) (h : xs.length = n + 1) : ∀ i, i ≤ n + 1 → (accF n xs i).length = i * fct n := by
  intro i
  induction i with
  | zero => intro _; simp [accF]
  | succ i ih =>
    intro hi
    rw [accF_succ, List.length_append, ih (by omega), List.length_map, rowsF_len n _ (by rw [List.length_append, List.length_take, List.length_drop]; omega), Nat.add_mul]
    omega

def rowR1 (b o i N c : Nat) : Nat → Value → Prop
  | 1 => fun v => v = .slice (some ⟨b, o, none⟩) (N + 1) c
  | 2 => fun v => v = .int .i64 i
  | 3 => fun v => v = .slice (some ⟨b, o, none⟩) i c
  | 5 => fun v => v = .slice (some ⟨b, o, none⟩) (N + 1) c
  | 6 => fun v => v = .int .i64 i
  | 7 => fun v => v = .int .i64 (i + 1)
  | 8 => fun v => ∃ A' c', v = .slice A' (N - i) c' ∧ (N - i = 0 ∨ A' = some ⟨b, o + (i + 1), none⟩)
  | _ => fun _ => True
def rowS1 (wr : World) (ys zs : List Int) (Ld : Nat → Prop) (x : Nat → Value) (W : World) : Prop :=
  Ext wr W ∧ (Ld 0 → ¬ Ld 4 → OwnI W wr.heap.size 3 (x 0) []) ∧ (Ld 4 → ¬ Ld 9 → OwnI W wr.heap.size 3 (x 4) ys) ∧ (Ld 9 → OwnI W wr.heap.size 3 (x 9) zs)
theorem rowS1.pure {wr W : World} {ys zs : List Int} {Ld : Nat → Prop} {x : Nat → Value} (h : rowS1 wr ys zs Ld x W) (k : Nat) (v : Value) (hk : k ≠ 0 ∧ k ≠ 4 ∧ k ≠ 9) : rowS1 wr ys zs (fun j => Ld j ∨ j = k) (upd x k v) W := by
  obtain ⟨h1, h2, h3, h4⟩ := h
  have e0 : upd x k v 0 = x 0 := by unfold upd; rw [if_neg (by omega)]
  have e4 : upd x k v 4 = x 4 := by unfold upd; rw [if_neg (by omega)]
  have e9 : upd x k v 9 = x 9 := by unfold upd; rw [if_neg (by omega)]
  refine ⟨h1, fun g1 g2 => ?_, fun g1 g2 => ?_, fun g1 => ?_⟩
  · rw [e0]; exact h2 (g1.resolve_right (by omega)) (fun g => g2 (.inl g))
  · rw [e4]; exact h3 (g1.resolve_right (by omega)) (fun g => g2 (.inl g))
  · rw [e9]; exact h4 (g1.resolve_right (by omega))
def rowR2 (b o i c n b' k cR len : Nat) (vout u : Value) (xi : Int) : Nat → Value → Prop
  | 0 => fun v => v = vout
  | 1 => fun v => v = .slice (some ⟨b, o, none⟩) (n + 1) c
  | 2 => fun v => v = .int .i64 i
  | 3 => fun v => v = .pointer (some ⟨b, o + i, none⟩)
  | 4 => fun v => v = .int .i64 xi
  | 5 => fun _ => True
  | 6 => fun v => v = .slice (some ⟨b', 0, none⟩) len cR
  | 7 => fun v => v = .int .i64 k
  | 8 => fun v => v = .pointer (some ⟨b', k, none⟩)
  | 9 => fun v => v = u
  | _ => fun _ => True
def rowS2 (wr : World) (B0 n : Nat) (vout : Value) (vs : List Value) (xi : Int) (Rk : List Int) (Ld : Nat → Prop) (x : Nat → Value) (W : World) : Prop :=
  (¬ Ld 12 → Ext wr W) ∧ (Ld 5 → ¬ Ld 10 → OwnI W wr.heap.size 3 (x 5) [xi]) ∧ (Ld 10 → ¬ Ld 12 → OwnI W wr.heap.size 3 (x 10) (xi :: Rk)) ∧
    (Ld 11 → ¬ Ld 12 → ∃ g, x 11 = .slice (some ⟨g, 0, none⟩) 1 1 ∧ Blk W g 22 #[x 10]) ∧
    (Ld 12 → ∃ W1, Ext wr W1 ∧ OwnI W1 wr.heap.size 3 (x 10) (xi :: Rk) ∧ W.ownsRow B0 22 1 (x 12) (n + 1) (vs ++ [x 10]) ∧ W1.grownBy W vout.ownBlock ∧ ((x 12).ownBlock = vout.ownBlock ∨ (x 12).ownBlock = some W1.heap.size))
theorem rowS2.pure {wr W : World} {B0 n : Nat} {vout : Value} {vs : List Value} {xi : Int} {Rk : List Int} {Ld : Nat → Prop} {x : Nat → Value} (h : rowS2 wr B0 n vout vs xi Rk Ld x W) (k : Nat) (v : Value) (hk : k < 10 ∧ k ≠ 5) : rowS2 wr B0 n vout vs xi Rk (fun j => Ld j ∨ j = k) (upd x k v) W := by
  obtain ⟨h1, h2, h3, h4, h5⟩ := h
  have e : ∀ j, j = 5 ∨ 10 ≤ j → upd x k v j = x j := fun j hj => by unfold upd; rw [if_neg (by omega)]
  refine ⟨fun g => h1 fun g' => g (.inl g'), fun g1 g2 => ?_, fun g1 g2 => ?_, fun g1 g2 => ?_, fun g1 => ?_⟩
  · rw [e 5 (by omega)]; exact h2 (g1.resolve_right (by omega)) (fun g => g2 (.inl g))
  · rw [e 10 (by omega)]; exact h3 (g1.resolve_right (by omega)) (fun g => g2 (.inl g))
  · rw [e 10 (by omega), e 11 (by omega)]; exact h4 (g1.resolve_right (by omega)) (fun g => g2 (.inl g))
  · rw [e 10 (by omega), e 12 (by omega)]; exact h5 (g1.resolve_right (by omega))
theorem ints_len {xs : List Int} {v : Value} {w : World} {base : Nat} {e : TypeId} (h : OwnI w base e v xs) : w.ownsRow base e 1 v xs.length (xs.map (Value.int .i64)) := h
theorem one_ints {xs : List Int} : ∀ u, u ∈ xs.map (Value.int .i64) → u.oneCell' = true := by
  intro u hu
  obtain ⟨x, _, rfl⟩ := List.mem_map.1 hu
  rfl
/-- a part of a row of ints -/
theorem IntsAt.part {w : World} {b o : Nat} {xs ys : List Int} {i : Nat} (h : IntsAt w (some ⟨b, o, none⟩) xs) (hy : ∀ j, j < ys.length → i + j < xs.length ∧ ys[j]?.getD 0 = xs[i + j]?.getD 0) : IntsAt w (some ⟨b, o + i, none⟩) ys := by
  intro j hj
  obtain ⟨h1, h2⟩ := hy j hj
  obtain ⟨b', o', e, hc⟩ := h (i + j) h1
  simp only [Option.some.injEq, Addr.mk.injEq, and_true] at e
  obtain ⟨rfl, rfl⟩ := e
  exact ⟨b, o + i, rfl, by rw [h2, ← hc, Nat.add_assoc]⟩
set_option maxRecDepth 100000 in
set_option maxHeartbeats 4000000 in
theorem rows_any : ∀ (n : Nat) (xs : List Int), xs.length = n → n ≤ 7 → ∀ (A : Option Addr) (c : Nat), n ≤ c → c ≤ maxLen → ∀ (w : World), IntsAt w A xs →
    Calls Tryz.prog 143 #[.slice A n c] w fun e w' => ∃ r, e = .returned r ∧ OwnR w' w.heap.size r (rowsF n xs) ∧ Ext w w' := by
  intro n
  induction n with
  | zero =>
    intro xs hn h7 A c hc1 hc2 w hx
    have hbl := Blk.new w 22 #[.slice none 0 0]
    go_enter Tryz.func143, Tryz.ntmps143
    go_wp2
    go_ret
    refine ⟨_, rfl, ⟨[.slice none 0 0], ⟨by simp [rowsF], .inr ⟨w.heap.size, 1, _, rfl, Nat.le_refl _, hbl, by simp [rowsF], by simp [maxLen], by simp, by simp [rowsF]⟩⟩, by simp [rowsF], fun i hi => ?_⟩, Ext.alloc _ _⟩
    have : i = 0 := by simp [rowsF] at hi; omega
    subst this
    exact OwnI.nil _ _ _
  | succ n ih =>
    intro xs hn h7 A c hc1 hc2 w hx
    obtain ⟨ti, hi, hz0, hz1, hz2⟩ := info_parts info_int
    obtain ⟨ti2, hi2, hy0, hy1, hy2⟩ := info_parts info_slI
    have Hx := Lib.hid hx; clear hx
    have Hn := Lib.hid hn; clear hn
    have IH := Lib.hid ih; clear ih
    have hfct := fct_le n (by omega)
    have Hacc := Lib.hid (accF_len n xs Hn.out)
    have hd0 : ((n : Int) + 1 == 0) = false := by simp; omega
    go_enter Tryz.func143, Tryz.ntmps143
    go_wp2_with fail
    go_loopw [3, 4] (fun v iv wr => ∃ i : Nat, i ≤ n + 1 ∧ iv = .int .i64 i ∧ Ext w wr ∧ Hid (OwnR wr w.heap.size v (accF n xs i))) (fun _ iv _ => n + 1 - (intOf iv).toNat)
    case atStart => exact ⟨0, by omega, rfl, Ext.refl _, OwnR.nil _ _⟩
    case round =>
      obtain ⟨i, hile, rfl, he, ho⟩ := hrel
      by_cases hlt : i < n + 1
      · obtain ⟨b, o, rfl, ca⟩ := Hx.out.ext he i (by rw [Hn.out]; exact hlt)
        have hme : Hid (∀ s, (Instr.makeSlice s (.int .i64 0) (.int .i64 0)).run Tryz.prog wr = (Instr.makeSlice s (.int .i64 0) (.int .i64 0)).run Tryz.prog wr) := fun _ => rfl
        go_wp2_with fail
        refine wp_region_stage 10 (by kernel_rfl) (by kernel_rfl) (rowS1 wr (xs.take i) (xs.take i ++ xs.drop (i + 1))) (rowR1 b o i n c) (fun x => ⟨Ext.drew _, fun h => h.elim, fun h => h.elim, fun h => h.elim⟩) ?_ ?_
        · simp only [List.take, AllOps3, fill, Act.put, List.setIfInBounds_toArray, List.set_cons_zero, List.set_cons_succ, Nat.reduceAdd, DepsV, DepsL, List.filter_cons, List.filter_nil, Region.binds, if_true, and_true, Closed]
          refine ⟨?_, ?_, ?_, ?_, ?_, ?_, ?_, ?_, ?_, ?_⟩
          all_goals
            intro Ld x W hS hcl hnl hdl hd K Q hK
            try (simp only [rowR1, true_and, and_true] at hd; simp only [hd] at hK ⊢)
            have HK := Lib.hid hK; clear hK
            have HC := Lib.hid hcl; clear hcl
            have HD := Lib.hid hdl; clear hdl
            have HN := Lib.hid hnl; clear hnl
            have HS := Lib.hid hS; clear hS
          case refine_1 =>
            have hb0 := Blk.new W 3 #[]
            have hsz := HS.out.1.size
            go_wp2_with fail
            refine HK.out _ _ trivial ⟨HS.out.1.trans (Ext.alloc _ _), fun _ _ => ?_, fun h1 h2 => ?_, fun h1 => ?_⟩
            · exact ⟨rfl, .inr ⟨W.heap.size, 0, _, rfl, hsz, hb0, Nat.le_refl _, Nat.zero_le _, rfl, rfl⟩⟩
            · exact (HS.out.2.2.1 (h1.resolve_right (by omega)) (fun g => h2 (.inl g))).ext (Ext.alloc _ _)
            · exact (HS.out.2.2.2 (h1.resolve_right (by omega))).ext (Ext.alloc _ _)
          case refine_5 =>
            have hv0 := HS.out.2.1 HD.out.1 HN.out
            have hsz := HS.out.1.size
            have hsrc : Src W (some ⟨b, o, none⟩) ((xs.take i).map (Value.int .i64)) := by
              have h := (Hx.out.ext (he.trans HS.out.1)).part (i := 0) (ys := xs.take i) (fun j hj => ?_)
              · rw [Nat.add_zero] at h; exact h.src
              · rw [List.length_take] at hj
                rw [Nat.zero_add, List.getElem?_take, if_pos (by omega)]
                exact ⟨by omega, rfl⟩
            have hlen : ((xs.take i).map (Value.int .i64)).length = i * 1 := by rw [List.length_map, List.length_take, Hn.out]; omega
            refine wpList_app rfl _ _ 22 rfl wr.heap.size 3 ti (.int .i64 0) 1 8 Tryz.underlying22 hi hz0 hz1 hz2 rfl (by decide) _ _ _ rfl hv0 (some ⟨b, o, none⟩) i _ ((xs.take i).map (Value.int .i64)) rfl hlen hsrc one_ints (by simp only [List.length_nil, maxLen]; omega) (by simp only [List.length_nil]; omega) hsz ?_
            intro v' w' hown hg hblk
            have hge : ∀ j, (x 0).ownBlock = some j → wr.heap.size ≤ j := by
              obtain ⟨A0, c0, e0, _, _, _, h5, _⟩ := hv0.open_
              intro j hj
              rw [e0] at hj
              exact own_ge h5 j hj
            refine HK.out _ _ trivial ⟨Below.grown HS.out.1 hg HS.out.1.size hge, fun h1 h2 => absurd (.inr rfl) h2, fun h1 h2 => ?_, fun h1 => ?_⟩
            · show OwnI w' wr.heap.size 3 v' (xs.take i)
              unfold OwnI
              rw [List.length_take, Hn.out, show min i (n + 1) = 0 + i by omega]
              exact hown
            · exact absurd (HC.out.2.2.2.2.2.2.2.2.2 (h1.resolve_right (by omega))).1 HN.out
          case refine_10 =>
            obtain ⟨_, ⟨A', c8, h8, h8b⟩, _⟩ := hd
            have hv0 := HS.out.2.2.1 HD.out.1 HN.out
            have hsz := HS.out.1.size
            have hk0 := HK.out; clear HK
            simp only [h8] at hk0 ⊢
            have HK := Lib.hid hk0; clear hk0
            have hxl := Hn.out
            have hsrc : Src W A' ((xs.drop (i + 1)).map (Value.int .i64)) := by
              rcases h8b with h8b | rfl
              · refine .inl ?_
                rw [List.drop_of_length_le (by omega)]; rfl
              · refine ((Hx.out.ext (he.trans HS.out.1)).part (i := i + 1) (ys := xs.drop (i + 1)) (fun j hj => ?_)).src
                rw [List.length_drop] at hj
                rw [List.getElem?_drop]
                exact ⟨by omega, rfl⟩
            have hlen : ((xs.drop (i + 1)).map (Value.int .i64)).length = (n - i) * 1 := by rw [List.length_map, List.length_drop, Hn.out]; omega
            have hlt4 : (xs.take i).length = i := by rw [List.length_take]; omega
            refine wpList_app rfl _ _ 22 rfl wr.heap.size 3 ti (.int .i64 0) 1 8 Tryz.underlying22 hi hz0 hz1 hz2 rfl (by decide) _ _ _ rfl hv0 A' (n - i) _ ((xs.drop (i + 1)).map (Value.int .i64)) rfl hlen hsrc one_ints (by rw [hlt4]; simp only [maxLen]; omega) (by rw [hlt4]; omega) hsz ?_
            intro v' w' hown hg hblk
            have hge : ∀ j, (x 4).ownBlock = some j → wr.heap.size ≤ j := by
              obtain ⟨A0, c0, e0, _, _, _, h5, _⟩ := hv0.open_
              intro j hj
              rw [e0] at hj
              exact own_ge h5 j hj
            refine HK.out _ _ trivial ⟨Below.grown HS.out.1 hg HS.out.1.size hge, fun h1 h2 => absurd (.inl HD.out.1) h2, fun h1 h2 => absurd (.inr rfl) h2, fun h1 => ?_⟩
            show OwnI w' wr.heap.size 3 v' (xs.take i ++ xs.drop (i + 1))
            unfold OwnI
            rw [List.map_append, List.length_append, List.length_drop, Hn.out, show n + 1 - (i + 1) = n - i by omega]
            exact hown
          case refine_9 =>
            by_cases hci : c = i + 1
            · subst hci
              go_wp2_with fail
              exact HK.out _ _ ⟨some ⟨b, o, none⟩, 0, by rw [show n - i = 0 by omega], .inl (by omega)⟩ (HS.out.pure 8 _ (by omega))
            · have hci' : (c == i + 1) = false := by simp; omega
              go_wp2_with fail
              exact HK.out _ _ ⟨_, _, rfl, .inr rfl⟩ (HS.out.pure 8 _ (by omega))
          all_goals
            go_wp2_with fail
            exact HK.out _ _ (by first | trivial | rfl) (HS.out.pure _ _ (by omega))
        · intro x W7 hS hR
          obtain ⟨heA, _, _, h9⟩ := hS
          have hrest := h9 (by omega)
          simp only [List.take, List.drop, fill, Act.put, List.setIfInBounds_toArray, List.set_cons_zero, List.set_cons_succ, Nat.reduceAdd]
          clear hR h9
          generalize x 9 = rv at *
          obtain ⟨ys, hys⟩ : ∃ ys, xs.take i ++ xs.drop (i + 1) = ys := ⟨_, rfl⟩
          have hyl : ys.length = n := by rw [← hys, List.length_append, List.length_take, List.length_drop, Hn.out]; omega
          rw [hys] at hrest
          have HY := Lib.hid hys; clear hys
          obtain ⟨B, cB, rfl, o1, o2, o3, o4, o5⟩ := hrest.open_
          rw [hyl] at o1 ⊢
          have hcall := Lib.hid (IH.out ys hyl (by omega) B cB o1 o2 W7 o3)
          have HYL := Lib.hid hyl; clear hyl
          clear o3 o4 o5 hrest
          have he7 := he.trans heA
          have ho7 : Hid (OwnR W7 w.heap.size u3 (accF n xs i)) := ho.out.ext heA
          clear ho he heA
          go_wp2_with fail
          refine hcall.out.mono ?_
          rintro e W8 ⟨r, rfl, hr8, he78⟩
          obtain ⟨R, hR⟩ : ∃ R, rowsF n ys = R := ⟨_, rfl⟩
          rw [hR] at hr8
          have hRl : R.length = fct n := by rw [← hR]; exact rowsF_len n ys HYL.out
          have hRb : R.length ≤ 5040 := by omega
          have HRl := Lib.hid hRl; clear hRl
          have HR := Lib.hid hR; clear hR hcall
          have he8 := he7.trans he78
          have hsz7 := he7.size
          have ho8 : Hid (OwnR W8 w.heap.size u3 (accF n xs i)) := ho7.out.ext he78
          have hne8 : ∀ g, r.ownBlock = some g → some g ≠ u3.ownBlock := by
            intro g hg e
            obtain ⟨A1, c1, e1, _, _, h1, _⟩ := ho7.out.open_
            obtain ⟨A2, c2, e2, _, _, h2, _⟩ := hr8.open_
            subst e1; subst e2
            cases A1 with
            | none => cases e
            | some a1 =>
              cases A2 with
              | none => cases hg
              | some a2 =>
                have h3 := (h1 a1 rfl).2
                have h4 := (h2 a2 rfl).1
                have h5 : a2.block = g := Option.some.inj hg
                have h6 : g = a1.block := Option.some.inj e
                omega
          clear he7 ho7 he78
          have hr8' : Hid (OwnR W8 w.heap.size r R) := hr8.mono hsz7
          clear hr8
          obtain ⟨AR, cR, rfl, ra1, ra2, ra3, ra4⟩ := hr8'.out.open_
          clear ra3 ra4
          go_wp2_with fail
          go_loopw [3, 7] (fun v kv wr => ∃ k : Nat, k ≤ R.length ∧ kv = .int .i64 k ∧ Ext w wr ∧ Hid (OwnR wr w.heap.size v (accF n xs i ++ (R.take k).map fun r => (xs[i]?.getD 0) :: r)) ∧ Hid (OwnR wr w.heap.size (.slice AR R.length cR) R) ∧ Hid (∀ g, (Value.slice AR R.length cR).ownBlock = some g → some g ≠ v.ownBlock)) (fun _ kv _ => R.length - (intOf kv).toNat)
          case atStart => exact ⟨0, by omega, rfl, he8, by simpa [Hid] using ho8.out, hr8', hne8⟩
          case round =>
            clear he8 ho8 hne8 hr8'
            obtain ⟨k, hkl, rfl, heB, hoB, hrB, hneB⟩ := hrel
            by_cases hltk : k < R.length
            · obtain ⟨AR', cR', e9, _, _, hbnd, hrow⟩ := hrB.out.open_
              obtain ⟨b', u, rfl, hcu, hou⟩ := hrow k hltk
              simp only [Value.slice.injEq] at e9
              obtain ⟨rfl, -, rfl⟩ := e9
              clear hrow
              have hb'lt := (hbnd _ rfl).2
              clear hbnd
              obtain ⟨Rk, hRk⟩ : ∃ Rk, R[k]?.getD [] = Rk := ⟨_, rfl⟩
              rw [hRk] at hou
              have hRkl : Hid (Rk.length = n) := by
                have hm : Rk ∈ rowsF n ys := by rw [HR.out, ← hRk]; simp [hltk]
                exact ((rowsF_mem n ys HYL.out Rk).1 hm).length_eq.trans HYL.out
              have HRk := Lib.hid hRk; clear hRk
              obtain ⟨acc, hacc⟩ : ∃ acc, (accF n xs i ++ (R.take k).map fun r => (xs[i]?.getD 0) :: r) = acc := ⟨_, rfl⟩
              rw [hacc] at hoB
              have hal : acc.length ≤ 5040 := by
                have h1 : (i + 1) * fct n ≤ (n + 1) * fct n := Nat.mul_le_mul_right _ (by omega)
                have h2 := fct_le (n + 1) (by omega)
                have h3 := Hacc.out i (by omega)
                have h4 := HRl.out
                rw [← hacc, List.length_append, List.length_map, List.length_take, h3]
                rw [Nat.add_mul] at h1
                unfold fct at h2
                omega
              have HA := Lib.hid hacc; clear hacc
              obtain ⟨Au, cu, rfl, u1, u2, u3, u4, u5⟩ := hou.open_
              have Hou := Lib.hid hou; clear hou u4 u5
              have Hu3 := Lib.hid u3; clear u3
              obtain ⟨vs, hv1, hv2, hv3⟩ := hoB.out
              have Hv1 := Lib.hid hv1; have Hv2 := Lib.hid hv2; have Hv3 := Lib.hid hv3; clear hv1 hv2 hv3
              obtain ⟨b2, o2, e2, ca2⟩ := Hx.out.ext heB i (by rw [Hn.out]; exact hlt)
              simp only [Option.some.injEq, Addr.mk.injEq, and_true] at e2
              obtain ⟨rfl, rfl⟩ := e2
              obtain ⟨xi, hxi⟩ : ∃ xi, xs[i]?.getD 0 = xi := ⟨_, rfl⟩
              rw [hxi] at ca2
              have Hxi := Lib.hid hxi; clear hxi
              clear ca
              go_wp2_with fail
              refine wp_region_stage 13 (by kernel_rfl) (by kernel_rfl) (rowS2 wr w.heap.size acc.length u3 vs xi Rk) (rowR2 b o i c n b' k cR R.length u3 (.slice Au Rk.length cu) xi) (fun x => ⟨fun _ => Ext.drew _, fun h => h.elim, fun h => h.elim, fun h => h.elim, fun h => h.elim⟩) ?_ ?_
              · simp only [List.take, AllOps3, fill, Act.put, List.setIfInBounds_toArray, List.set_cons_zero, List.set_cons_succ, Nat.reduceAdd, DepsV, DepsL, List.filter_cons, List.filter_nil, Region.binds, if_true, and_true, Closed]
                refine ⟨?_, ?_, ?_, ?_, ?_, ?_, ?_, ?_, ?_, ?_, ?_, ?_, ?_⟩
                all_goals
                  intro Ld x W hS hcl hnl hdl hd K Q hK
                  have hn12 : ¬ Ld 12 := by grind
                  have heW := hS.1 hn12
                  have k1 := heW.cell ca2
                  have k2 := heW.cell hcu
                  try (simp only [rowR2, true_and, and_true] at hd; simp only [hd] at hK ⊢)
                  have HK := Lib.hid hK; clear hK
                  have HC := Lib.hid hcl; clear hcl
                  have HD := Lib.hid hdl; clear hdl
                  have HN := Lib.hid hnl; clear hnl
                  have HS := Lib.hid hS; clear hS
                  have HN12 := Lib.hid hn12; clear hn12
                case refine_6 =>
                  have hb0 := Blk.new W 3 #[.int .i64 xi]
                  have hsz := heW.size
                  have hn10 : ¬ Ld 10 := by have h1 := HC.out; have h2 := HN.out; grind
                  have hn11 : ¬ Ld 11 := by have h1 := HC.out; have h2 := HN.out; grind
                  have HN10 := Lib.hid hn10; have HN11 := Lib.hid hn11; clear hn10 hn11
                  go_wp2_with fail
                  refine HK.out _ _ trivial ⟨fun _ => heW.trans (Ext.alloc _ _), fun _ _ => ?_, fun h1 h2 => absurd (h1.resolve_right (by omega)) HN10.out, fun h1 h2 => absurd (h1.resolve_right (by omega)) HN11.out, fun h1 => absurd (h1.resolve_right (by omega)) HN12.out⟩
                  exact ⟨rfl, .inr ⟨W.heap.size, 1, _, rfl, hsz, hb0, Nat.le_refl _, by simp [maxLen], rfl, rfl⟩⟩
                case refine_11 =>
                  have hv0 := HS.out.2.1 HD.out.1 HN.out
                  have hsz := heW.size
                  have hrl := hRkl.out
                  have hn11 : ¬ Ld 11 := by have h1 := HC.out; have h2 := HN.out; grind
                  have hsrc : Src W Au (Rk.map (Value.int .i64)) := (Hu3.out.ext heW).src
                  have hlen : (Rk.map (Value.int .i64)).length = Rk.length * 1 := by simp
                  refine wpList_app rfl _ _ 22 rfl wr.heap.size 3 ti (.int .i64 0) 1 8 Tryz.underlying22 hi hz0 hz1 hz2 rfl (by decide) _ _ _ rfl hv0 Au Rk.length _ (Rk.map (Value.int .i64)) rfl hlen hsrc one_ints (by simp only [List.length_singleton, maxLen]; omega) (by simp only [List.length_singleton]; omega) hsz ?_
                  intro v' w' hown hg hblk
                  have hge : ∀ j, (x 5).ownBlock = some j → wr.heap.size ≤ j := by
                    obtain ⟨A0, c0, e0, _, _, _, h5, _⟩ := hv0.open_
                    intro j hj
                    rw [e0] at hj
                    exact own_ge h5 j hj
                  refine HK.out _ _ trivial ⟨fun _ => Below.grown heW hg heW.size hge, fun h1 h2 => absurd (.inr rfl) h2, fun h1 h2 => ?_, fun h1 h2 => absurd (h1.resolve_right (by omega)) hn11, fun h1 => absurd (h1.resolve_right (by omega)) HN12.out⟩
                  show OwnI w' wr.heap.size 3 v' (xi :: Rk)
                  unfold OwnI
                  rw [List.length_cons, Nat.add_comm]
                  exact hown
                case refine_12 =>
                  have hv0 := HS.out.2.2.1 HD.out HN12.out
                  have hsz := heW.size
                  obtain ⟨A10, c10, e10, _, _, _, _, _⟩ := hv0.open_
                  have hb0 := Blk.new W 22 #[x 10]
                  have hk0 := HK.out; clear HK
                  simp only [e10] at hk0 hb0 ⊢
                  have HK := Lib.hid hk0; clear hk0
                  have He10 := Lib.hid e10; clear e10
                  have hdd := HD.out
                  go_wp2_with fail
                  refine HK.out _ _ trivial ⟨fun _ => heW.trans (Ext.alloc _ _), fun h1 h2 => absurd (.inl hdd) h2, fun h1 h2 => ?_, fun h1 h2 => ⟨W.heap.size, rfl, He10.out ▸ hb0⟩, fun h1 => absurd (h1.resolve_right (by omega)) HN12.out⟩
                  exact hv0.ext (Ext.alloc _ _)
                case refine_13 =>
                  have hd11 : Ld 11 ∧ Ld 10 := by have h1 := HD.out; grind
                  obtain ⟨g, hx11, hbg⟩ := HS.out.2.2.2.1 hd11.1 HN12.out
                  have hv10 := HS.out.2.2.1 hd11.2 HN12.out
                  have hsz := heW.size
                  have hszB := heB.size
                  have hx0 : x 0 = u3 := hd
                  have hrow := ownsRow_ext2 Hv1.out heW
                  have hsrc : Src W (some ⟨g, 0, none⟩) [x 10] := .inr ⟨_, rfl, fun j u hj => by
                    match j, hj with
                    | 0, hj =>
                      simp at hj
                      subst hj
                      simpa [Addr.add] using hbg.c1⟩
                  have hk0 := HK.out; clear HK
                  simp only [hx11] at hk0 ⊢
                  refine wpList_app rfl _ _ 30 rfl w.heap.size 22 ti2 (.slice none 0 0) 1 24 Tryz.underlying30 hi2 hy0 hy1 hy2 rfl (by decide) _ _ _ rfl hrow (some ⟨g, 0, none⟩) 1 _ [x 10] rfl rfl hsrc (fun u hu => by rw [List.mem_singleton] at hu; subst hu; exact hv10.one) (by simp only [maxLen]; omega) (by omega) (by omega) ?_
                  intro v' w' hown hg hblk
                  refine hk0 _ _ trivial ⟨fun h => absurd (.inr rfl) h, fun h1 h2 => absurd (.inl ?_) h2, fun h1 h2 => absurd (.inr rfl) h2, fun h1 h2 => absurd (.inr rfl) h2, fun h1 => ⟨W, heW, hv10, hown, hg, hblk⟩⟩
                  exact hd11.2
                all_goals
                  go_wp2_with fail
                  exact HK.out _ _ (by first | trivial | rfl) (HS.out.pure _ _ (by omega))
              · intro x W7 hS hR
                obtain ⟨_, _, _, _, h12⟩ := hS
                obtain ⟨W1, heW1, hx10, hown, hg, hblk⟩ := h12 (by omega)
                simp only [List.take, List.drop, fill, Act.put, List.setIfInBounds_toArray, List.set_cons_zero, List.set_cons_succ, Nat.reduceAdd]
                clear hR h12
                generalize x 12 = ov at *
                go_wp2_with fail
                go_roundw
                case rel =>
                  have hszB := heB.size
                  have hge : ∀ j, u3.ownBlock = some j → w.heap.size ≤ j := by
                    obtain ⟨A0, c0, e0, _, _, h5, _⟩ := hoB.out.open_
                    intro j hj
                    rw [e0] at hj
                    cases A0 with
                    | none => cases hj
                    | some a0 =>
                      have h6 : a0.block = j := Option.some.inj hj
                      have := (h5 a0 rfl).1
                      omega
                  have hrow := ownsRow_ext2 Hv1.out heW1
                  refine ⟨k + 1, by omega, by go_num, Below.grown (heB.trans heW1) hg (Nat.le_trans hszB heW1.size) hge, ?_, ?_, ?_⟩
                  · unfold Hid
                    rw [List.take_succ_eq_append_getElem hltk, List.map_append, ← List.append_assoc, HA.out]
                    have e1 : R[k] = Rk := by have := HRk.out; simpa [hltk] using this
                    rw [e1, List.map_singleton, Hxi.out]
                    exact OwnR.push rfl hrow Hv2.out (fun i hi => (Hv3.out i hi).ext heW1) (hx10.mono hszB) hown hg
                  · exact (hrB.out.ext heW1).grown hg hrow hneB.out
                  · intro g hg2 e
                    rcases hblk with h | h
                    · rw [h] at e; exact hneB.out g hg2 e
                    · rw [h] at e
                      have h3 : g = W1.heap.size := Option.some.inj e
                      have h4 : b' = g := Option.some.inj hg2
                      have h6 := heW1.size
                      omega
                case measure => simp [intOf]; omega
            · have hke : k = R.length := by omega
              subst hke
              go_wp2_with fail
              go_roundw
              case rel =>
                refine ⟨i + 1, by omega, by go_num, heB, ?_⟩
                have h := hoB.out
                rw [List.take_length] at h
                unfold Hid
                rw [accF_succ, HY.out, HR.out]
                exact h
              case measure => simp [intOf]; omega
      · have hie : i = n + 1 := by omega
        subst hie
        go_wp2_with fail
        go_ret
        refine ⟨_, rfl, ?_, he⟩
        have h := ho.out
        unfold rowsF
        rw [Hn.out]
        exact h
end Go.Proofs.Pet

namespace Go.Proofs.Pet
open Go Go.RowKit Go.Maps Go.Shelf

/-- a slice of ints, wherever it lies -/
def SlI (w : World) (v : Value) (xs : List Int) : Prop := ∃ A c, v = .slice A xs.length c ∧ xs.length ≤ c ∧ c ≤ maxLen ∧ IntsAt w A xs
theorem SlI.ext {w w' : World} {v : Value} {xs : List Int} (h : SlI w v xs) (he : Ext w w') : SlI w' v xs := by
  obtain ⟨A, c, h1, h2, h3, h4⟩ := h
  exact ⟨A, c, h1, h2, h3, h4.ext he⟩
theorem OwnI.sl {w : World} {base : Nat} {e : TypeId} {v : Value} {xs : List Int} (h : OwnI w base e v xs) : SlI w v xs := by
  obtain ⟨A, c, h1, h2, h3, h4, _⟩ := h.open_
  exact ⟨A, c, h1, h2, h3, h4⟩
theorem SlI.nil (w : World) : SlI w (.slice none 0 0) [] := ⟨none, 0, rfl, Nat.le_refl _, Nat.zero_le _, fun k h => absurd h (by simp)⟩
theorem sortF_mem {xs : List Int} {k : Nat} {x : Int} (h : x ∈ sortF xs k) : x ∈ xs ∧ 0 ≤ x ∧ x < k := by
  unfold sortF ints at h
  obtain ⟨n, h1, rfl⟩ := List.mem_map.1 h
  rw [List.mem_filter, List.mem_range] at h1
  refine ⟨?_, by omega, by omega⟩
  simpa using h1.2

def bestR5 (mv : Value) (l b k len cR : Nat) (u : Value) (ch : Int) (q : Bool) : Nat → Value → World → Prop
  | 0 => fun v _ => v = mv
  | 1 => fun v _ => v = .int .i64 l
  | 2 => fun v _ => v = .slice (some ⟨b, 0, none⟩) len cR
  | 3 => fun v _ => v = .int .i64 k
  | 4 => fun v _ => v = .pointer (some ⟨b, k, none⟩)
  | 5 => fun v _ => v = u
  | 6 => fun v _ => ∃ r, v = .tuple #[r, .int .i64 ch, .bool q]
  | 7 => fun v _ => ∃ r, v = .tuple #[r, .int .i64 ch, .bool q]
  | 8 => fun _ _ => True
  | 9 => fun v _ => v = .int .i64 ch
  | 10 => fun v _ => v = .bool q
  | 11 => fun _ _ => True
  | 12 => fun v _ => v = .int .i64 ch
  | 13 => fun v _ => v = .bool q
  | _ => fun _ _ => True
theorem bestR5.same {mv : Value} {l b k len cR : Nat} {u : Value} {ch : Int} {q : Bool} {w w' : World} (j : Nat) (v : Value) (h : bestR5 mv l b k len cR u ch q j v w) : bestR5 mv l b k len cR u ch q j v w' := by
  match j, h with
  | 0, h | 1, h | 2, h | 3, h | 4, h | 5, h | 6, h | 7, h | 8, h | 9, h | 10, h | 11, h | 12, h | 13, h => exact h
  | _ + 14, h => trivial
set_option maxRecDepth 20000 in
set_option maxHeartbeats 2000000 in
theorem best5_any (v : Value) (m : Mill) (hch : checkE m = 0) (l : Nat) (hl : l < m.laced.length) (A : Option Addr) (c n : Nat) (xs : List Int) (hn : xs.length = n) (hnc : n ≤ c ∧ c ≤ maxLen) (hxs : ∀ x, x ∈ xs → 0 ≤ x ∧ x < m.orders.length) (b : List Int × Int)
    (hb : bestI m l (rowsF (sortF xs 7).length (sortF xs 7)) = b) (w : World) (hv : MillVal w v m) (hx : IntsAt w A xs) :
    Calls Tryz.prog 100 #[v, .int .i64 (l : Int), .slice A n c] w fun e w' => ∃ r, e = .returned (.tuple #[r, .int .i64 b.2]) ∧ SlI w' r b.1 ∧ Ext w w' := by
  have Hv := Lib.hid hv
  obtain ⟨A1, c1, A2, c2, rfl, h2, h3, h4, h5, h6, h7⟩ := hv
  have hE := Ext.alloc w (.cells #[.slice A1 m.laced.length c1, .int .i64 m.change, .slice A2 m.orders.length c2] 35)
  have hM := Blk.new w 35 #[.slice A1 m.laced.length c1, .int .i64 m.change, .slice A2 m.orders.length c2]
  obtain ⟨l1, l2, l3⟩ := check_len hch
  have Hch := Lib.hid hch; clear hch
  have Hs := Lib.hid (sorted_any A c n xs hn (by rw [hn]; omega) _ (hx.ext hE))
  have hsl := sortF_len xs 7
  have Hmem : Hid (∀ r, r ∈ rowsF (sortF xs 7).length (sortF xs 7) → r.length ≤ 7 ∧ ∀ x, x ∈ r → 0 ≤ x ∧ x < m.orders.length) := by
    intro r hr
    rw [rowsF_mem _ _ rfl] at hr
    exact ⟨by rw [hr.length_eq]; exact hsl, fun x hx' => hxs x (sortF_mem (hr.subset hx')).1⟩
  clear h6 h7 h3 h5 hx hxs
  have Hb := Lib.hid hb; clear hb
  obtain ⟨ys, hys⟩ : ∃ ys, sortF xs 7 = ys := ⟨_, rfl⟩
  simp only [hys] at Hs hsl Hmem Hb
  clear hys hn
  go_enter Tryz.func100, Tryz.ntmps100
  go_wp2_with fail
  refine Hs.out.mono ?_
  rintro e w1 ⟨r1, rfl, hr1, he1⟩
  obtain ⟨B, cB, rfl, o1, o2, o3, o4, o5⟩ := hr1.open_
  have Hr := Lib.hid (rows_any ys.length ys rfl hsl B cB o1 o2 w1 o3)
  clear o3 o4 o5 hr1 Hs
  have hE1 := hE.trans he1
  have hM1 := hM.ext he1
  clear hE hM he1
  go_wp2_with fail
  refine Hr.out.mono ?_
  rintro e w2 ⟨r2, rfl, hr2, he2⟩
  have hE2 := hE1.trans he2
  have hM2 := hM1.ext he2
  clear hE1 hM1 he2 Hr
  obtain ⟨R, hR⟩ : ∃ R, rowsF ys.length ys = R := ⟨_, rfl⟩
  have hRb : R.length ≤ 5040 := by rw [← hR, rowsF_len _ _ rfl]; exact fct_le _ hsl
  rw [hR] at hr2
  simp only [hR] at Hmem Hb
  clear hR
  have Hr2 := Lib.hid hr2
  obtain ⟨AR, cR, rfl, ra1, ra2, ra3, ra4⟩ := hr2.open_
  clear hr2 ra3 ra4
  go_wp2_with fail
  go_loopw [9, 10, 11] (fun bv lv iv wr => ∃ (k : Nat) (b' : List Int) (t : Int), k ≤ R.length ∧ iv = .int .i64 k ∧ lv = .int .i64 t ∧ (-1 ≤ t ∧ t ≤ 7) ∧ Hid (bestI m l (R.take k) = (b', t)) ∧ Hid (SlI wr bv b') ∧ Ext w wr ∧ Blk wr w.heap.size 35 #[.slice A1 m.laced.length c1, .int .i64 m.change, .slice A2 m.orders.length c2] ∧
      Hid (OwnR wr w1.heap.size (.slice AR R.length cR) R)) (fun _ _ iv _ => R.length - (intOf iv).toNat)
  case atStart => exact ⟨0, [], -1, by omega, rfl, rfl, by omega, rfl, SlI.nil _, hE2, hM2, Hr2.out⟩
  case round =>
    obtain ⟨k, b', t, hk, rfl, rfl, htb, hbest, hsl', heB, hMB, hRB⟩ := hrel
    by_cases hlt : k < R.length
    · obtain ⟨AR', cR', e9, _, _, _, hrow⟩ := hRB.out.open_
      obtain ⟨b'', u, rfl, hcu, hou⟩ := hrow k hlt
      simp only [Value.slice.injEq] at e9
      obtain ⟨rfl, -, rfl⟩ := e9
      clear hrow
      have hin : R[k]?.getD [] ∈ R := by simp [hlt]
      have htk : Hid (R.take (k + 1) = R.take k ++ [R[k]?.getD []]) := by unfold Hid; rw [List.take_succ_eq_append_getElem hlt]; simp [hlt]
      obtain ⟨Rk, hRk⟩ : ∃ Rk, R[k]?.getD [] = Rk := ⟨_, rfl⟩
      rw [hRk] at hou hin
      simp only [hRk] at htk
      clear hRk
      obtain ⟨hm1, hm2⟩ := Hmem.out Rk hin
      have hcr := chR_bd m l (rvI Rk)
      have hrl : (rvI Rk).length = Rk.length := by unfold rvI; simp
      obtain ⟨q, hq⟩ : ∃ q, tmR m l (rvI Rk) = q := ⟨_, rfl⟩
      obtain ⟨ch, hc⟩ : ∃ ch, chR m l (rvI Rk) = ch := ⟨_, rfl⟩
      rw [hc, hrl] at hcr
      obtain ⟨Au, cu, rfl, u1, u2, u3, u4, u5⟩ := hou.open_
      have Hou := Lib.hid hou.sl; clear hou u4 u5
      have hrun := Lib.hid (run5_any (.agg #[.slice A1 m.laced.length c1, .int .i64 m.change, .slice A2 m.orders.length c2]) m Hch.out l hl Au cu Rk.length Rk rfl (by omega) hm2)
      rw [hq, hc] at hrun
      have Hq := Lib.hid hq; have Hc := Lib.hid hc; have Hm2 := Lib.hid hm2; have Hu3 := Lib.hid u3; clear hq hc hm2 u3 hin
      obtain ⟨k0, k1, k2⟩ := hMB.c3
      go_wp2_with fail
      refine wp_region_apart 14 (by kernel_rfl) (by kernel_rfl) (fun W' => Ext wr W') (bestR5 (.agg #[.slice A1 m.laced.length c1, .int .i64 m.change, .slice A2 m.orders.length c2]) l b'' k R.length cR (.slice Au Rk.length cu) ch q) (fun _ _ _ _ => True) (Ext.drew _) ?_ ?_
      · simp only [List.take, AllOps2, fill, Act.put, List.setIfInBounds_toArray, List.set_cons_zero, List.set_cons_succ, Nat.reduceAdd, Deps, DepsL, List.filter_cons, List.filter_nil, Region.binds, if_true, and_true]
        refine ⟨?_, ?_, ?_, ?_, ?_, ?_, ?_, ?_, ?_, ?_, ?_, ?_, ?_, ?_⟩
        all_goals
          intro Ld x W' hG hnl hLR hAp hdl hd K Q hK
          try (simp only [bestR5, true_and] at hd)
        case' refine_8 => obtain ⟨rr, hd⟩ := hd
        case' refine_9 => obtain ⟨rr, hd⟩ := hd
        case' refine_10 => obtain ⟨⟨rr, hd⟩, _⟩ := hd
        case' refine_11 => obtain ⟨⟨rr, hd⟩, _⟩ := hd
        all_goals
          try (simp only [hd] at hK ⊢)
          have HK := Lib.hid hK; clear hK
          have HL := Lib.hid hLR; clear hLR hAp hdl
          have e0 := hG.cell k0
          have e1 := hG.cell k1
          have e2 := hG.cell k2
          have e3 := hG.cell hcu
          go_wp2_with fail
          first
            | exact HK.out _ _ rfl hG (fun j hj => ⟨HL.out j hj, .inl trivial⟩)
            | exact HK.out _ _ ⟨rr, rfl⟩ hG (fun j hj => ⟨HL.out j hj, .inl trivial⟩)
            | exact HK.out _ _ trivial hG (fun j hj => ⟨HL.out j hj, .inl trivial⟩)
            | (refine (hrun.out W' (Hv.out.ext (heB.trans hG)) (Hu3.out.ext hG)).mono ?_
               rintro e w' ⟨r, rfl, _, he'⟩
               go_wp2
               exact HK.out _ _ ⟨r, rfl⟩ (hG.trans he') (fun j hj => ⟨bestR5.same j _ (HL.out j hj), .inl trivial⟩))
      · intro x W7 hG _ hR
        simp only [AllR, bestR5, true_and] at hR
        obtain ⟨⟨_, r12⟩, r13⟩ := hR
        simp only [List.take, List.drop, fill, Act.put, List.setIfInBounds_toArray, List.set_cons_zero, List.set_cons_succ, Nat.reduceAdd, r12, r13]
        clear r12 r13
        have heC := heB.trans hG
        have hMC := hMB.ext hG
        have hRC : Hid (OwnR W7 w1.heap.size (.slice (some ⟨b'', 0, none⟩) R.length cR) R) := hRB.out.ext hG
        have hslC : Hid (SlI W7 u9 b') := hsl'.out.ext hG
        have hcu7 := hG.cell hcu
        have Hou7 : Hid (SlI W7 (.slice Au Rk.length cu) Rk) := Hou.out.ext hG
        have hst : Hid (bestI m l (R.take (k + 1)) = if q = true ∧ (t < 0 ∨ ch < t) then (Rk, ch) else (b', t)) := by
          unfold Hid
          rw [htk.out, bestI_snoc, hbest.out, Hq.out, Hc.out]
        clear hrun heB hMB hRB hsl' hcu Hou hG k0 k1 k2
        cases q with
        | false =>
          go_wp2_with fail
          go_roundw
          case rel => exact ⟨k + 1, b', t, by omega, by go_num, rfl, htb, by unfold Hid; rw [hst.out, if_neg (by simp)], hslC, heC, hMC, hRC⟩
          case measure => simp [intOf]; omega
        | true =>
          by_cases ht : t < 0
          · go_wp2_with fail
            go_roundw
            case rel => exact ⟨k + 1, Rk, ch, by omega, by go_num, rfl, by omega, by unfold Hid; rw [hst.out, if_pos ⟨rfl, .inl ht⟩], Hou7, heC, hMC, hRC⟩
            case measure => simp [intOf]; omega
          · have hd1 : decide (t < 0) = false := by simpa using ht
            by_cases hlt2 : ch < t
            · go_wp2_with fail
              go_roundw
              case rel => exact ⟨k + 1, Rk, ch, by omega, by go_num, rfl, by omega, by unfold Hid; rw [hst.out, if_pos ⟨rfl, .inr hlt2⟩], Hou7, heC, hMC, hRC⟩
              case measure => simp [intOf]; omega
            · have hd2 : decide (ch < t) = false := by simpa using hlt2
              go_wp2_with fail
              go_roundw
              case rel => exact ⟨k + 1, b', t, by omega, by go_num, rfl, htb, by unfold Hid; rw [hst.out, if_neg]; rintro ⟨_, g | g⟩ <;> omega, hslC, heC, hMC, hRC⟩
              case measure => simp [intOf]; omega
    · have hke : k = R.length := by omega
      subst hke
      have h := hbest.out
      rw [List.take_length, Hb.out] at h
      have H := Lib.hid h; clear h
      go_wp2_with fail
      go_ret2
      refine ⟨u9, ?_, ?_, heB⟩
      · rw [H.out]; rfl
      · rw [H.out]; exact hsl'.out
end Go.Proofs.Pet
