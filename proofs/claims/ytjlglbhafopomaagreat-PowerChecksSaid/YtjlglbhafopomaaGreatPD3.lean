/-
  slices.Compare at []int, and all weavers collected: walked.
-/
import Derived.Test.YtjlglbhafopomaaGreatPD2
namespace Go.Proofs.Pet
open Go Go.RowKit Go.Maps Go.Shelf
open Go.Proofs.Pow (PM Sh Wv POk Up)
attribute [local go_sem] Oper.semAt_some

def cmpI (a b : Int) : Int := if a < b then -1 else if b < a then 1 else 0
def cmpL : List Int → List Int → Int
  | [], [] => 0
  | [], _ :: _ => -1
  | _ :: _, [] => 1
  | a :: l, b :: r => if cmpI a b = 0 then cmpL l r else cmpI a b
theorem cmpL_ahead : ∀ x y : List Nat, decide (cmpL (ints x) (ints y) < 0) = Pow.ahead x y
  | [], [] => rfl
  | [], _ :: _ => rfl
  | _ :: _, [] => rfl
  | a :: x, b :: y => by
    show decide ((if cmpI (a : Int) (b : Int) = 0 then cmpL (ints x) (ints y) else cmpI (a : Int) (b : Int)) < 0) = _
    unfold Pow.ahead cmpI
    rcases Nat.lt_trichotomy a b with h | h | h
    · rw [if_pos (show (a : Int) < b by omega), if_neg (by decide), if_neg (show ¬ a = b by omega)]; simp [h]
    · subst h
      rw [if_neg (show ¬ (a : Int) < a by omega), if_neg (show ¬ (a : Int) < a by omega), if_pos rfl, if_pos rfl]
      exact cmpL_ahead x y
    · rw [if_neg (show ¬ (a : Int) < b by omega), if_pos (show (b : Int) < a by omega), if_neg (by decide), if_neg (show ¬ a = b by omega)]; simp; omega
theorem nan_any (n : Int) (w : World) : Calls Tryz.prog 178 #[.int .i64 n] w fun e w' => e = .returned (.bool false) ∧ w = w' := by
  have h : (n != n) = false := by simp
  go_enter Tryz.func178, Tryz.ntmps178
  go_wp2_with fail
  go_ret
  exact ⟨rfl, rfl⟩
theorem cmp_any (a b : Int) (w : World) : Calls Tryz.prog 149 #[.int .i64 a, .int .i64 b] w fun e w' => e = .returned (.int .i64 (cmpI a b)) ∧ w = w' := by
  obtain ⟨z, hz⟩ : ∃ z, cmpI a b = z := ⟨_, rfl⟩
  rw [hz]
  unfold cmpI at hz
  have Hz := Lib.hid hz
  clear hz
  have h1 := Lib.hid (nan_any a)
  have h2 := Lib.hid (nan_any b)
  go_enter Tryz.func149, Tryz.ntmps149
  go_wp2_with fail
  refine (h1.out w).mono ?_
  rintro e w1 ⟨rfl, rfl⟩
  go_wp2_with fail
  refine (h2.out w).mono ?_
  rintro e w1 ⟨rfl, rfl⟩
  have hz := Hz.out
  clear h1 h2 Hz
  by_cases h : a < b
  · rw [if_pos h] at hz
    subst hz
    go_wp2_with fail
    go_ret
    exact ⟨rfl, rfl⟩
  · rw [if_neg h] at hz
    by_cases h' : b < a
    · rw [if_pos h'] at hz
      subst hz
      go_wp2_with fail
      go_ret
      exact ⟨rfl, rfl⟩
    · rw [if_neg h'] at hz
      subst hz
      go_wp2_with fail
      go_ret
      exact ⟨rfl, rfl⟩
set_option maxRecDepth 20000 in
set_option maxHeartbeats 1000000 in
theorem compareI (A B : Option Addr) (c d n1 n2 : Nat) (xs ys : List Int) (hn1 : xs.length = n1) (hn2 : ys.length = n2) (r : Int) (hr : cmpL xs ys = r) (w : World) (hb : n1 ≤ 1000 ∧ n2 ≤ 1000) (hx : IntsAt w A xs) (hy : IntsAt w B ys) :
    Calls Tryz.prog 81 #[.slice A n1 c, .slice B n2 d] w fun e w' => e = .returned (.int .i64 r) ∧ w = w' := by
  have Hr := Lib.hid hr; have Hx := Lib.hid hx; have Hy := Lib.hid hy; have H1 := Lib.hid hn1; have H2 := Lib.hid hn2
  have hc := Lib.hid cmp_any
  clear hr hx hy hn1 hn2
  go_enter Tryz.func81, Tryz.ntmps81
  go_wp2_with fail
  go_loopw [11] (fun i wr => ∃ k : Nat, k ≤ n1 ∧ k ≤ n2 ∧ i = .int .i64 (k : Int) ∧ Hid (cmpL (xs.drop k) (ys.drop k) = r) ∧ w = wr) (fun i _ => n1 - (intOf i).toNat)
  case atStart => exact ⟨0, Nat.zero_le _, Nat.zero_le _, rfl, Hr, rfl⟩
  case round =>
    clear Hr
    obtain ⟨k, hk1, hk2, rfl, hr, rfl⟩ := hrel
    by_cases hlt : k < n1
    · have hl1 : k < xs.length := by rw [H1.out]; exact hlt
      obtain ⟨b1, o1, rfl, l1⟩ := Hx.out k hl1
      have e1 := List.drop_eq_getElem_cons hl1
      obtain ⟨x, hxe⟩ : ∃ x, xs[k] = x := ⟨_, rfl⟩
      rw [List.getElem?_eq_getElem hl1, Option.getD_some, hxe] at l1
      rw [hxe] at e1
      by_cases hlt2 : k < n2
      · have hl2 : k < ys.length := by rw [H2.out]; exact hlt2
        obtain ⟨b2, o2, rfl, l2⟩ := Hy.out k hl2
        have e2 := List.drop_eq_getElem_cons hl2
        obtain ⟨y, hye⟩ : ∃ y, ys[k] = y := ⟨_, rfl⟩
        rw [List.getElem?_eq_getElem hl2, Option.getD_some, hye] at l2
        rw [hye] at e2
        have hr2 := hr.out
        rw [e1, e2] at hr2
        simp only [cmpL] at hr2
        have hge : decide ((k : Int) ≥ (n2 : Int)) = false := by simp; omega
        obtain ⟨z, hz⟩ : ∃ z, cmpI x y = z := ⟨_, rfl⟩
        rw [hz] at hr2
        have hcz := Lib.hid (hc.out x y w)
        rw [hz] at hcz
        have Hr2 := Lib.hid hr2
        clear hr hxe hye e1 e2 hz hr2 hl1 hl2
        go_wp2_with fail
        refine hcz.out.mono ?_
        rintro e w1 ⟨rfl, rfl⟩
        by_cases hz0 : z = 0
        · have ht : (z != 0) = false := by simp [hz0]
          have hr3 := Hr2.out
          rw [if_pos hz0] at hr3
          have Hr3 := Lib.hid hr3
          clear hr3 Hr2 hcz hz0
          go_wp2_with fail
          go_roundw
          case rel => exact ⟨k + 1, by omega, by omega, by go_num, Hr3, by trivial⟩
          case measure => simp [intOf]; omega
        · have ht : (z != 0) = true := by simp [hz0]
          have hr3 := Hr2.out
          rw [if_neg hz0] at hr3
          clear Hr2 hcz hz0
          subst hr3
          go_wp2_with fail
          go_ret
          exact ⟨rfl, rfl⟩
      · obtain rfl : k = n2 := by omega
        have hge : decide ((k : Int) ≥ (k : Int)) = true := by simp
        have hr2 := hr.out
        rw [e1, show ys.drop k = [] from List.drop_of_length_le (by rw [H2.out]; exact Nat.le_refl _)] at hr2
        have hr3 : r = 1 := hr2.symm
        subst hr3
        clear hr hxe e1 hr2
        go_wp2_with fail
        go_ret
        exact ⟨rfl, rfl⟩
    · obtain rfl : k = n1 := by omega
      have hr2 := hr.out
      rw [show xs.drop k = [] from List.drop_of_length_le (by rw [H1.out]; exact Nat.le_refl _)] at hr2
      by_cases hlt2 : k < n2
      · have hl2 : k < ys.length := by rw [H2.out]; exact hlt2
        rw [List.drop_eq_getElem_cons hl2] at hr2
        have hr3 : r = -1 := hr2.symm
        subst hr3
        clear hr hr2
        go_wp2_with fail
        go_ret
        exact ⟨rfl, rfl⟩
      · rw [show ys.drop k = [] from List.drop_of_length_le (by rw [H2.out]; omega)] at hr2
        have hr3 : r = 0 := hr2.symm
        subst hr3
        clear hr hr2
        go_wp2_with fail
        go_ret
        exact ⟨rfl, rfl⟩

/-! All weavers, collected. -/
def encK1 (x : Int) : Array Value := #[.int .i64 x]
set_option maxRecDepth 20000 in
set_option maxHeartbeats 1000000 in
theorem all1_in (F : Fence) (n0 : Nat) (hF : F.fn 83) (hro : F.round = none) (hn : 1 ≤ n0) (l M n : Nat) (hn2 : n ≤ 100) (A2 : Option Addr) (c2 : Nat) (v1 : Value)
    (J : List Int → World → Prop) (hY : ∀ pre x W, J pre W → pre.length < n → YieldAt F (n0 - 1) Tryz.prog l (encK1 x) W fun e W' => e = .returned (.bool true) ∧ J (pre ++ [x]) W' ∧ True)
    (W : World) (hM : Blk W M 26 #[v1, .slice A2 n c2]) (h0 : J [] W) :
    CallsIn F n0 Tryz.prog 83 #[.func (.yield l) #[] #[], .pointer (some ⟨M, 0, none⟩)] W fun e W' => (∃ v, e = .returned v) ∧ ∃ xs, xs = Pow.allI n ∧ J xs W' := by
  obtain ⟨k0, k1⟩ := hM.c2
  refine callsIn_of_wp Tryz.func83 rfl hF ?_ hro
  simp only [Tryz.ntmps83, List.size_toArray, List.length_cons, List.length_nil, Nat.reduceAdd, Nat.reduceSub, Array.replicate_succ, Array.replicate_zero, List.push_toArray, List.append_toArray, List.nil_append, List.cons_append]
  gi_wp2
  gi_loopw [7] (fun i wr => ∃ k : Nat, k ≤ n ∧ i = .int .i64 (k : Int) ∧ Hid (J (Pow.allI k) wr)) (fun i _ => n - (intOf i).toNat)
  case atStart => exact ⟨0, Nat.zero_le _, rfl, Lib.hid h0⟩
  case round =>
    clear h0 k0 k1 hM
    obtain ⟨k, hk, rfl, hJ⟩ := hrel
    by_cases hlt : k < n
    · obtain ⟨fn, tmps, assign, body, hy, hR⟩ := hY (Pow.allI k) (k : Int) wr hJ.out (by rw [allI_len]; exact hlt)
      unfold encK1 at hy
      gi_wp2
      refine hR.mono ?_
      rintro e W3 ⟨rfl, hJ3, -⟩
      have HJ3 := Lib.hid hJ3
      clear hJ hJ3 hR hy
      gi_wp2
      go_roundw
      case rel => exact ⟨k + 1, by omega, by go_num, by rw [allI_succ]; exact HJ3⟩
      case measure => simp [intOf]; omega
    · obtain rfl : k = n := by omega
      gi_wp2
      go_end0
      exact ⟨⟨_, rfl⟩, _, rfl, hJ.out⟩
theorem wp_all {g : Operand} {ps : Array Tmp} {assign body : Code} {Q : Exit → Act → World → Prop} {a : Act} {w : World} {M n : Nat} (hn2 : n ≤ 100) {A2 : Option Addr} {c2 : Nat} {v1 : Value}
    (hM : Blk w M 26 #[v1, .slice A2 n c2]) (hg : a.eval g = .func (.func 83) #[] #[.pointer (some ⟨M, 0, none⟩)]) (hps : ps.size = 1)
    (I : List Int → World → Prop) (hI : ∀ p W W', I p W → Loops w.heap.size W W' → I p W') (h0 : I [] w) (a₁ : Int → Act)
    (hassign : ∀ (l : Nat) (x : Int) (W : World) (K : Act → World → Prop), K (a₁ x) W →
      assign.wpIn (Fence.wide.inRound l) 3 Tryz.prog (Exit.then K (fun _ _ _ => False)) { tmps := (ps.zip (encK1 x)).foldl (fun t (p, v) => t.setIfInBounds p v) a.tmps, defers := [] } W)
    (hbody : ∀ (l : Nat) (pre : List Int) (x : Int) (W : World), I pre W → pre.length < n → body.wpIn (Fence.wide.inRound l) 3 Tryz.prog (ownPostG w.heap.size (fun _ _ => True) I (fun _ _ _ => False) (pre ++ [x]) W) (a₁ x) W)
    (hdone : ∀ (D : Nat) (xs : List Int) (W : World), w.heap.size ≤ D → xs = Pow.allI n → I xs W → W.heap[D]? = some (.deferred (some [])) → Q .normal { a with defers := { target := .collected D, args := #[] } :: a.defers } W) :
    (Code.rangeFunc g ps assign body).wp Tryz.prog Q a w := by
  have hseq : SeqT Fence.wide 4 Tryz.prog 83 #[.pointer (some ⟨M, 0, none⟩)] encK1 (fun _ _ => True) (fun X Y => X = Y) (fun xs => xs = Pow.allI n) n w :=
    fun l J W hW _ _ hY h0 => all1_in Fence.wide 4 trivial (by rfl) (by omega) l M n hn2 A2 c2 v1 J hY W (Blk.ext hM hW) h0
  exact (wpIn_wide (n := 5)).1 (wpIn_rangeT (n := 5) (by rfl) (by omega) hg trivial (enters_of Tryz.func83 (by kernel_rfl) rfl)
    hseq (Below.refl _ _) (fun _ _ => trivial) (fun _ _ _ _ _ _ _ _ => trivial) (fun X Y h k _ => by rw [h]) (fun x => by rw [hps]; rfl) I
    (ownFrom_keep hI) (fun s X Y h e => e ▸ h) h0 a₁ hassign hbody (fun D xs W hD hxs hi hK => hdone D xs W hD hxs hi hK))
set_option maxRecDepth 100000 in
set_option maxHeartbeats 2000000 in
theorem appendAll_any (M n : Nat) (hn2 : n ≤ 100) (A2 : Option Addr) (c2 : Nat) (v1 : Value) (W : World) (hM : Blk W M 26 #[v1, .slice A2 n c2]) :
    Calls Tryz.prog 150 #[.slice none 0 0, .func (.func 83) #[] #[.pointer (some ⟨M, 0, none⟩)]] W fun e W' => ∃ r, e = .returned r ∧ OwnI W' W.heap.size 3 r (Pow.allI n) ∧ Ext W W' := by
  obtain ⟨ti, hi, hz0, hz1, hz2⟩ := info_parts info_int
  refine (callsIn_wide (n := 5)).1 ?_
  refine callsIn_of_wp_marks Tryz.func150 rfl trivial ?_ rfl
  simp only [Tryz.ntmps150, List.size_toArray, List.length_cons, List.length_nil, Nat.reduceAdd, Nat.reduceSub, Array.replicate_succ, Array.replicate_zero, List.push_toArray, List.append_toArray, List.nil_append, List.cons_append]
  refine wpIn_wide.2 ?_
  have hX := Ext.alloc W (.cells #[.slice none 0 0] 31)
  have hbx := Blk.new W 31 #[.slice none 0 0]
  have hMX := hM.ext hX
  have hszX : (W.alloc (.cells #[.slice none 0 0] 31)).heap.size = W.heap.size + 1 := World.size_alloc ..
  obtain ⟨b0, hb0⟩ : ∃ b0, W.heap.size = b0 := ⟨_, rfl⟩
  rw [hb0] at hbx hszX
  have Hb0 := Lib.hid hb0
  clear hM hb0
  go_wp2_with fail
  rw [Hb0.out]
  generalize W.alloc _ = W5 at *
  apply wp_all (M := M) (n := n) hn2 hMX rfl rfl
    (fun pre V => W5.heap.size ≤ V.heap.size ∧ Ext W V ∧ ∃ v, Blk V b0 31 #[v] ∧ OwnI V (b0 + 1) 3 v pre)
    (fun pre V V' ⟨h1, h2, v, h3, h4⟩ hk => ⟨Nat.le_trans h1 hk.size, h2.loops hk (by have := Hb0.out; omega), v, h3.loops hk, h4.loops hk⟩)
    ⟨Nat.le_refl _, hX, _, hbx, OwnI.nil _ _ _⟩
  case hassign =>
    intro l x V K hK
    simp only [encK1]
    gi_wp2
    exact hK
  case hbody =>
    rintro l ls xv V ⟨h1, h2, v, h3, h4⟩ hlen
    have u0 := h3.c1
    have hX := Ext.alloc V (.cells #[.int .i64 xv] 3)
    have h4X := h4.ext hX
    have h3X := h3.ext hX
    have hb0l := h3.lt
    have hge : ∀ j, v.ownBlock = some j → b0 + 1 ≤ j := fun j hj => (h4.own_lt j hj).1
    obtain ⟨A0, c0, rfl, -, -, -, -, -⟩ := h4.open_
    gi_wp2_with (gi_at_builtin; refine wpListIn_append_own _ rfl _ _ 31 rfl (b0 + 1) 3 ti (.int .i64 0) 1 8 Tryz.underlying31 hi hz0 hz1 hz2 rfl (by decide) _ _ _ rfl h4X ⟨V.heap.size, 0, none⟩ 1 1 [.int .i64 xv] rfl rfl (cell_one_new _ _ _) (by simp [Value.oneCell']) (by unfold maxLen; omega) (by omega) (by simp; omega) ?_; intro v' w' hown hg hblk; have hB9 := Blk.grown h3X hg (fun e => by have := hge b0 e.symm; omega); have q0 := hB9.c1; have q1 := hB9.frozen 0; obtain ⟨A9, c9, rfl⟩ := ownsRow_slice hown)
    have hO : OwnI w' (b0 + 1) 3 (.slice A9 (ls.length + 1) c9) (ls ++ [xv]) := by
      unfold OwnI; rw [List.length_append, List.map_append]; exact hown
    have hszV : (V.alloc (.cells #[.int .i64 xv] 3)).heap.size = V.heap.size + 1 := World.size_alloc ..
    have hsg := hg.size
    refine ⟨(((KeepsOthers.alloc V _).trans (KeepsOthers.of_grownBy hg (ownsRow_cellsP h4X))).trans (KeepsOthers.setCell _ _ _)).from _, trivial, ?_, ?_, _, by simpa using hB9.set_ 0 (.slice A9 (ls.length + 1) c9), hO.far hB9 (by decide) 0 _⟩
    · rw [World.size_setCell]; omega
    · exact Below.setCell (Below.grown (h2.trans hX) hg (by have := h2.size; omega) (fun j hj => by have := hge j hj; have := Hb0.out; omega)) (by show _ ≤ b0; have := Hb0.out; omega) _
  case hdone =>
    intro Dd xs V hDd hxs ⟨h1, h2, v, h3, h4⟩ hdef
    rw [hxs] at h4
    have u0 := h3.c1
    have hm := (Marks.nil V W5.heap.size Dd).push hDd (Nat.le_refl _) hdef
    obtain ⟨A0, c0, rfl, -, -, -, -, -⟩ := h4.open_
    have H4 := Lib.hid h4
    clear h4 hdef
    go_wp2_with fail
    exact leaves_marks' [markOf Dd] V hm (fun W' => results_tmp rfl _ _ _) (fun W' hq => ⟨_, rfl, (H4.out.loops hq.loops).mono (by have := Hb0.out; omega), hq.ext h2 (by have := hX.size; omega)⟩)
theorem collectAll_any (M n : Nat) (hn2 : n ≤ 100) (A2 : Option Addr) (c2 : Nat) (v1 : Value) (W : World) (hM : Blk W M 26 #[v1, .slice A2 n c2]) :
    Calls Tryz.prog 82 #[.func (.func 83) #[] #[.pointer (some ⟨M, 0, none⟩)]] W fun e W' => ∃ r, e = .returned r ∧ OwnI W' W.heap.size 3 r (Pow.allI n) ∧ Ext W W' := by
  have H := Lib.hid (appendAll_any M n hn2 A2 c2 v1 W hM)
  clear hM
  go_enter Tryz.func82, Tryz.ntmps82
  go_wp2_with fail
  refine H.out.mono ?_
  rintro e w' ⟨r, rfl, hr, he⟩
  obtain ⟨A1, c1, rfl, _⟩ := hr.open_
  have Hr := Lib.hid hr
  clear hr
  go_wp2
  go_ret
  exact ⟨_, rfl, Hr.out, he⟩
end Go.Proofs.Pet
