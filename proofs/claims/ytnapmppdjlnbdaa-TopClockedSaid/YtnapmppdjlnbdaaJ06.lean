/- Joined texts: TCB, TCC, TCD. -/
import Derived.Test.YtnapmppdjlnbdaaJ05
namespace Go.Proofs.Pet
set_option linter.unusedSimpArgs false
open Go Go.RowKit Go.Maps Go.WideMaps
open Go.Proofs.Clk (Cl Rd Gp Att atD setD minD free0 gapD gapsD freeD)

/-- an attic at work, all readings count -/
def DeskC (w : World) (D : Nat) (a : Att) (mv : Value) : Prop :=
  ∃ A1 c1 A2 c2 A3 c3, Blk w D 139 #[.int .i64 a.minutes, .int .i64 a.events, .slice A1 a.clocks.length c1, .slice A2 a.reads.length c2, .slice A3 a.gaps.length c3, .func (.func 78) #[] #[], mv] ∧ ClsAt w A1 a.clocks ∧ RdsAt w A2 a.reads ∧ GpsAt w A3 a.gaps
theorem DeskC.ext {w w' : World} {D : Nat} {a : Att} {mv : Value} (h : DeskC w D a mv) (he : Ext w w') : DeskC w' D a mv := by
  obtain ⟨A1, c1, A2, c2, A3, c3, h1, h2, h3, h4⟩ := h
  exact ⟨A1, c1, A2, c2, A3, c3, h1.ext he, h2.ext he, h3.ext he, h4.ext he⟩
theorem Blk.c7 {w : World} {b : Nat} {t : TypeId} {v0 v1 v2 v3 v4 v5 v6 : Value} (h : Blk w b t #[v0, v1, v2, v3, v4, v5, v6]) : w.cell? ⟨b, 0, none⟩ = some v0 ∧ w.cell? ⟨b, 1, none⟩ = some v1 ∧ w.cell? ⟨b, 2, none⟩ = some v2 ∧ w.cell? ⟨b, 3, none⟩ = some v3 ∧ w.cell? ⟨b, 4, none⟩ = some v4 ∧ w.cell? ⟨b, 5, none⟩ = some v5 ∧ w.cell? ⟨b, 6, none⟩ = some v6 := ⟨h.cell 0, h.cell 1, h.cell 2, h.cell 3, h.cell 4, h.cell 5, h.cell 6⟩
theorem RngD.min_ {f : List Int} (hf : f.length = 25) (h : RngD f) {a c : Nat} (ha : a < 5) (hc : c < 5) {v : Int} (hv : -240 ≤ v ∧ v ≤ 240) : RngD (minD f a c v) := fun x y hx hy => by
  unfold minD
  rw [Clk.atD_set hf ha hc hy]
  have h1 := h a c ha hc
  have h2 := h x y hx hy
  split <;> omega
/-- what free has written: the rows before a, and of row a the numbers before b -/
def frU (m : Int) (a b : Nat) (f : List Int) : Prop := f.length = 25 ∧ (∀ x y, x < a → x < 5 → y < 5 → atD f x y = if y = 4 ∨ y = x then 0 else m) ∧ ∀ y, y < b → y < 5 → a < 5 → atD f a y = m
theorem frU.start (m : Int) : frU m 0 0 (List.replicate 25 0) := ⟨rfl, fun x y h => absurd h (by omega), fun y h => absurd h (by omega)⟩
theorem frU.next {m : Int} {a b : Nat} {f : List Int} (h : frU m a b f) (ha : a < 5) (hb : b < 5) : frU m a (b + 1) (setD f a b m) := by
  refine ⟨by rw [Clk.setD_len]; exact h.1, fun x y hx hx5 hy => ?_, fun y hy hy5 _ => ?_⟩
  · rw [Clk.atD_set h.1 ha hb hy, if_neg (by omega)]; exact h.2.1 x y hx hx5 hy
  · rw [Clk.atD_set h.1 ha hb hy5]
    by_cases e : y = b
    · rw [if_pos ⟨rfl, e⟩]
    · rw [if_neg (by omega)]; exact h.2.2 y (by omega) hy5 ha
theorem frU.row {m : Int} {a : Nat} {f : List Int} (h : frU m a 5 f) (ha : a < 5) : frU m (a + 1) 0 (setD (setD f a 4 0) a a 0) := by
  have hl : (setD f a 4 0).length = 25 := by rw [Clk.setD_len]; exact h.1
  refine ⟨by rw [Clk.setD_len]; exact hl, fun x y hx hx5 hy => ?_, fun y hy => absurd hy (by omega)⟩
  rw [Clk.atD_set hl ha ha hy, Clk.atD_set h.1 ha (by omega) hy]
  by_cases e : x = a
  · subst e
    by_cases e1 : y = x
    · rw [if_pos ⟨rfl, e1⟩, if_pos (.inr e1)]
    · rw [if_neg (by omega)]
      by_cases e2 : y = 4
      · rw [if_pos ⟨rfl, e2⟩, if_pos (.inl e2)]
      · rw [if_neg (by omega), if_neg (by omega)]
        exact h.2.2 y hy hy ha
  · rw [if_neg (by omega), if_neg (by omega)]
    exact h.2.1 x y (by omega) hx5 hy
theorem frU.done {m : Int} {f : List Int} (h : frU m 5 0 f) : f = free0 m := by
  refine List.ext_getElem (by rw [h.1, Clk.free0_len]) fun i h1 h2 => ?_
  rw [h.1] at h1
  have e1 := h.2.1 (i / 5) (i % 5) (by omega) (by omega) (by omega)
  have e2 := Clk.free0_at m (a := i / 5) (b := i % 5) (by omega) (by omega)
  rw [← e2] at e1
  unfold atD at e1
  rw [show 5 * (i / 5) + i % 5 = i by omega, List.getElem?_eq_getElem (by rw [h.1]; exact h1), List.getElem?_eq_getElem h2] at e1
  exact e1
theorem gaps_bd {a : Att} (hok : AttOk a) {k : Nat} (_hk : k < a.gaps.length) : ∀ x y, x < 5 → y < 5 → -240 ≤ atD (gapsD (free0 a.minutes) (a.gaps.take k)) x y ∧ atD (gapsD (free0 a.minutes) (a.gaps.take k)) x y ≤ 240 := by
  have hm := hok.mins
  have key : ∀ (l : List Gp) (f : List Int), f.length = 25 → (∀ g, g ∈ l → g ∈ a.gaps) → RngD f → RngD (gapsD f l) := by
    intro l
    induction l with
    | nil => intro f _ _ h; exact h
    | cons g l ih =>
      intro f hf hg h
      have h0 := hok.gps g (hg g (by simp))
      have hev := hok.evs
      refine ih (gapD f g) (by rw [Clk.gapD_len]; exact hf) (fun x hx => hg x (by simp [hx])) ?_
      unfold gapD
      exact RngD.min_ (by rw [Clk.minD_len]; exact hf) (RngD.min_ hf h (by omega) (by omega) (by omega)) (by omega) (by omega) (by omega)
  refine key _ _ (Clk.free0_len _) (fun g hg => List.mem_of_mem_take hg) fun x y hx hy => ?_
  rw [Clk.free0_at _ hx hy]
  split <;> omega
set_option maxRecDepth 20000 in
set_option maxHeartbeats 4000000 in
theorem freeC_any (D : Nat) (a : Att) (mv : Value) (hok : AttOk a) (w : World) (hd : DeskC w D a mv) :
    Calls Try.prog 84 #[.pointer (some ⟨D, 0, none⟩)] w fun e w' => e = .returned (.agg (farA (freeD a))) ∧ Ext w w' := by
  obtain ⟨A1, c1, A2, c2, A3, c3, hD, -, -, hG⟩ := hd
  have hmin := hok.mins
  have hgl := hok.ngp
  have Hgp := Lib.hid hok.gps
  have HG := Lib.hid hG
  have hev := hok.evs
  have HD := Lib.hid hD
  have hDl := hD.lt
  have hX : Ext w ((w.alloc (.cells (farA (List.replicate 25 0)) 118)).alloc (.cells (farA (List.replicate 25 0)) 118)) := (Ext.alloc _ _).trans (Ext.alloc _ _)
  have hR : FarAt ((w.alloc (.cells (farA (List.replicate 25 0)) 118)).alloc (.cells (farA (List.replicate 25 0)) 118)) w.heap.size (List.replicate 25 0) := ⟨(Blk.new w 118 (farA (List.replicate 25 0))).alloc _, rfl⟩
  have hF : FarAt ((w.alloc (.cells (farA (List.replicate 25 0)) 118)).alloc (.cells (farA (List.replicate 25 0)) 118)) (w.heap.size + 1) (List.replicate 25 0) := ⟨by have := Blk.new (w.alloc (.cells (farA (List.replicate 25 0)) 118)) 118 (farA (List.replicate 25 0)); rwa [World.size_alloc] at this, rfl⟩
  have hz25 : farA (List.replicate 25 0) = #[.int .i64 0, .int .i64 0, .int .i64 0, .int .i64 0, .int .i64 0, .int .i64 0, .int .i64 0, .int .i64 0, .int .i64 0, .int .i64 0, .int .i64 0, .int .i64 0, .int .i64 0, .int .i64 0, .int .i64 0, .int .i64 0, .int .i64 0, .int .i64 0, .int .i64 0, .int .i64 0, .int .i64 0, .int .i64 0, .int .i64 0, .int .i64 0, .int .i64 0] := rfl
  rw [hz25] at hX hF hR
  clear hD hG
  go_enter Try.func84, Try.ntmps84
  clear hz25
  go_wp2_with fail
  generalize ((w.alloc _).alloc _) = w1 at *
  go_loopw [8] (fun iv wr => ∃ x : Nat, ∃ f, x ≤ 5 ∧ iv = .int .i64 (x : Int) ∧ Hid (frU a.minutes x 0 f) ∧ Hid (FarAt wr (w.heap.size + 1) f) ∧ Hid (FarAt wr w.heap.size (List.replicate 25 0)) ∧ Hid (Ext w wr)) (fun iv _ => 5 - (intOf iv).toNat)
  case atStart => exact ⟨0, _, by omega, rfl, Lib.hid (frU.start _), Lib.hid hF, Lib.hid hR, Lib.hid hX⟩
  case round =>
    clear hX hF hR
    obtain ⟨x, f, hx, rfl, hfr, hF, hR, hE⟩ := hrel
    by_cases hlx : x < 5
    · -- <<A
      have hdx : decide ((x : Int) < 5) = true := by simp; omega
      go_wp2_with fail
      go_loopw [11] (fun iv wr => ∃ y : Nat, ∃ f, y ≤ 5 ∧ iv = .int .i64 (y : Int) ∧ Hid (frU a.minutes x y f) ∧ Hid (FarAt wr (w.heap.size + 1) f) ∧ Hid (FarAt wr w.heap.size (List.replicate 25 0)) ∧ Hid (Ext w wr)) (fun iv _ => 5 - (intOf iv).toNat)
      case atStart => exact ⟨0, f, by omega, rfl, hfr, hF, hR, hE⟩
      case round =>
        clear hfr hF hR hE
        obtain ⟨y, f, hy, rfl, hfr, hF, hR, HE⟩ := hrel
        by_cases hly : y < 5
        · -- <<B
          have hdy : decide ((y : Int) < 5) = true := by simp; omega
          obtain ⟨d0, -, -, -, -, -, -⟩ := (HD.out.ext HE.out).c7
          have cc := hF.out.cell hlx hly
          have cf := hF.out.1.frozen (x * 5 + y)
          go_upto_region 8 with fail
          refine wp_region_chain 8 [] [] (by kernel_rfl) (by kernel_rfl) (by kernel_rfl) ?_
          simp only [List.take, List.drop, fill, Act.put, List.setIfInBounds_toArray, List.set_cons_zero, List.set_cons_succ, Nat.reduceAdd]
          repeat (first
            | refine Floats.mut rfl ?_
            | (apply Floats.float rfl
               · intro x W he hd K Q hK
                 try (have he := he (by decide); have d0 := he.cell d0)
                 try simp only [edges, DepsE, List.filter_cons, List.filter_nil, Region.binds, if_true, and_true, true_and, upd, Nat.reduceEqDiff, if_false] at hd
                 try simp only [hd] at hK ⊢
                 have HK := Lib.hid hK; clear hK
                 go_wp2_with fail
                 exact HK.out))
          refine Floats.done fun W he hG => ?_
          refine Chain.nil ?_
          simp only [upd, Nat.reduceEqDiff, if_false, if_true]
          have cc' := he.cell cc
          have cf' := (hF.out.ext he).1.frozen (x * 5 + y)
          go_wp2_with fail
          go_roundw
          case rel => exact ⟨y + 1, _, by omega, by go_num, Lib.hid (hfr.out.next hlx hly), Lib.hid ((hF.out.ext he).set_ hlx hly a.minutes), Lib.hid ((hR.out.ext he).far (by show w.heap.size ≠ w.heap.size + 1; omega) _), Lib.hid (Below.setCell (HE.out.trans he) (p := ⟨w.heap.size + 1, x * 5 + y, none⟩) (Nat.le_succ _) _)⟩
          case measure => simp [intOf]; omega
          -- >>
        · -- <<C
          obtain rfl : y = 5 := by omega
          have c4 := hF.out.cell hlx (c := 4) (by omega)
          have f4 := hF.out.1.frozen (x * 5 + 4)
          have hx5 : x = 0 ∨ x = 1 ∨ x = 2 ∨ x = 3 ∨ x = 4 := by omega
          go_upto_region 10 with fail
          rcases hx5 with rfl | rfl | rfl | rfl | rfl
          · simp only [Nat.reduceMul, Nat.reduceAdd] at c4 f4
            refine wp_region_chain 7 [(5, false)] [1, 2, 6] (by kernel_rfl) (by kernel_rfl) (by kernel_rfl) ?_
            simp only [List.take, List.drop, fill, Act.put, List.setIfInBounds_toArray, List.set_cons_zero, List.set_cons_succ, Nat.reduceAdd]
            repeat (first
              | refine Floats.mut rfl ?_
              | (apply Floats.float rfl
                 · intro x W he hd K Q hK
                   try (have he := he (by decide))
                   try simp only [edges, DepsE, List.filter_cons, List.filter_nil, Region.binds, if_true, and_true, true_and, upd, Nat.reduceEqDiff, if_false] at hd
                   try simp only [hd] at hK ⊢
                   have HK := Lib.hid hK; clear hK
                   go_wp2_with fail
                   exact HK.out))
            refine Floats.done fun W he hG => ?_
            refine Chain.cons _ rfl ?_
            intro x hd K Q hK
            try simp only [edges, DepsE, List.filter_cons, List.filter_nil, Region.binds, if_true, and_true, true_and, upd, Nat.reduceEqDiff, if_false] at hd
            try simp only [hd] at hK ⊢
            clear hd
            have HK := Lib.hid hK; clear hK
            have c4' := he.cell c4
            have f4' := (hF.out.ext he).1.frozen 4
            have hF2 : FarAt (W.setCell ⟨w.heap.size + 1, 4, none⟩ (.int .i64 0)) (w.heap.size + 1) (setD f 0 4 0) := (hF.out.ext he).set_ hlx (c := 4) (by omega) 0
            have hF3 : FarAt ((W.setCell ⟨w.heap.size + 1, 4, none⟩ (.int .i64 0)).setCell ⟨w.heap.size + 1, 0, none⟩ (.int .i64 0)) (w.heap.size + 1) (setD (setD f 0 4 0) 0 0 0) := hF2.set_ hlx hlx 0
            obtain ⟨cv, hcv⟩ : ∃ cv, (W.setCell ⟨w.heap.size + 1, 4, none⟩ (.int .i64 0)).cell? ⟨w.heap.size + 1, 0, none⟩ = some cv := ⟨_, hF2.cell hlx hlx⟩
            have fx := hF2.1.frozen 0
            have HF3 := Lib.hid hF3
            have HR3 := Lib.hid (((hR.out.ext he).far (by show w.heap.size ≠ w.heap.size + 1; omega) (i := 4) (.int .i64 0)).far (by show w.heap.size ≠ w.heap.size + 1; omega) (i := 0) (.int .i64 0))
            have HE3 := Lib.hid (Below.setCell (Below.setCell (HE.out.trans he) (p := ⟨w.heap.size + 1, 4, none⟩) (Nat.le_succ _) (.int .i64 0)) (p := ⟨w.heap.size + 1, 0, none⟩) (Nat.le_succ _) (.int .i64 0))
            clear hF2 hF3
            go_wp2_with fail
            refine HK.out undef _ (fun h => by cases h) ?_
            clear HK
            refine Chain.nil ?_
            simp only [upd, Nat.reduceEqDiff, if_false, if_true]
            go_wp2_with fail
            go_roundw
            case rel => exact ⟨0 + 1, _, by omega, by go_num, Lib.hid (hfr.out.row hlx), HF3, HR3, HE3⟩
            case measure => first | (simp [intOf]; done) | (simp [intOf]; omega)
          · simp only [Nat.reduceMul, Nat.reduceAdd] at c4 f4
            refine wp_region_chain 7 [(5, false)] [1, 2, 6] (by kernel_rfl) (by kernel_rfl) (by kernel_rfl) ?_
            simp only [List.take, List.drop, fill, Act.put, List.setIfInBounds_toArray, List.set_cons_zero, List.set_cons_succ, Nat.reduceAdd]
            repeat (first
              | refine Floats.mut rfl ?_
              | (apply Floats.float rfl
                 · intro x W he hd K Q hK
                   try (have he := he (by decide))
                   try simp only [edges, DepsE, List.filter_cons, List.filter_nil, Region.binds, if_true, and_true, true_and, upd, Nat.reduceEqDiff, if_false] at hd
                   try simp only [hd] at hK ⊢
                   have HK := Lib.hid hK; clear hK
                   go_wp2_with fail
                   exact HK.out))
            refine Floats.done fun W he hG => ?_
            refine Chain.cons _ rfl ?_
            intro x hd K Q hK
            try simp only [edges, DepsE, List.filter_cons, List.filter_nil, Region.binds, if_true, and_true, true_and, upd, Nat.reduceEqDiff, if_false] at hd
            try simp only [hd] at hK ⊢
            clear hd
            have HK := Lib.hid hK; clear hK
            have c4' := he.cell c4
            have f4' := (hF.out.ext he).1.frozen 9
            have hF2 : FarAt (W.setCell ⟨w.heap.size + 1, 9, none⟩ (.int .i64 0)) (w.heap.size + 1) (setD f 1 4 0) := (hF.out.ext he).set_ hlx (c := 4) (by omega) 0
            have hF3 : FarAt ((W.setCell ⟨w.heap.size + 1, 9, none⟩ (.int .i64 0)).setCell ⟨w.heap.size + 1, 6, none⟩ (.int .i64 0)) (w.heap.size + 1) (setD (setD f 1 4 0) 1 1 0) := hF2.set_ hlx hlx 0
            obtain ⟨cv, hcv⟩ : ∃ cv, (W.setCell ⟨w.heap.size + 1, 9, none⟩ (.int .i64 0)).cell? ⟨w.heap.size + 1, 6, none⟩ = some cv := ⟨_, hF2.cell hlx hlx⟩
            have fx := hF2.1.frozen 6
            have HF3 := Lib.hid hF3
            have HR3 := Lib.hid (((hR.out.ext he).far (by show w.heap.size ≠ w.heap.size + 1; omega) (i := 9) (.int .i64 0)).far (by show w.heap.size ≠ w.heap.size + 1; omega) (i := 6) (.int .i64 0))
            have HE3 := Lib.hid (Below.setCell (Below.setCell (HE.out.trans he) (p := ⟨w.heap.size + 1, 9, none⟩) (Nat.le_succ _) (.int .i64 0)) (p := ⟨w.heap.size + 1, 6, none⟩) (Nat.le_succ _) (.int .i64 0))
            clear hF2 hF3
            go_wp2_with fail
            refine HK.out undef _ (fun h => by cases h) ?_
            clear HK
            refine Chain.nil ?_
            simp only [upd, Nat.reduceEqDiff, if_false, if_true]
            go_wp2_with fail
            go_roundw
            case rel => exact ⟨1 + 1, _, by omega, by go_num, Lib.hid (hfr.out.row hlx), HF3, HR3, HE3⟩
            case measure => first | (simp [intOf]; done) | (simp [intOf]; omega)
          · simp only [Nat.reduceMul, Nat.reduceAdd] at c4 f4
            refine wp_region_chain 7 [(5, false)] [1, 2, 6] (by kernel_rfl) (by kernel_rfl) (by kernel_rfl) ?_
            simp only [List.take, List.drop, fill, Act.put, List.setIfInBounds_toArray, List.set_cons_zero, List.set_cons_succ, Nat.reduceAdd]
            repeat (first
              | refine Floats.mut rfl ?_
              | (apply Floats.float rfl
                 · intro x W he hd K Q hK
                   try (have he := he (by decide))
                   try simp only [edges, DepsE, List.filter_cons, List.filter_nil, Region.binds, if_true, and_true, true_and, upd, Nat.reduceEqDiff, if_false] at hd
                   try simp only [hd] at hK ⊢
                   have HK := Lib.hid hK; clear hK
                   go_wp2_with fail
                   exact HK.out))
            refine Floats.done fun W he hG => ?_
            refine Chain.cons _ rfl ?_
            intro x hd K Q hK
            try simp only [edges, DepsE, List.filter_cons, List.filter_nil, Region.binds, if_true, and_true, true_and, upd, Nat.reduceEqDiff, if_false] at hd
            try simp only [hd] at hK ⊢
            clear hd
            have HK := Lib.hid hK; clear hK
            have c4' := he.cell c4
            have f4' := (hF.out.ext he).1.frozen 14
            have hF2 : FarAt (W.setCell ⟨w.heap.size + 1, 14, none⟩ (.int .i64 0)) (w.heap.size + 1) (setD f 2 4 0) := (hF.out.ext he).set_ hlx (c := 4) (by omega) 0
            have hF3 : FarAt ((W.setCell ⟨w.heap.size + 1, 14, none⟩ (.int .i64 0)).setCell ⟨w.heap.size + 1, 12, none⟩ (.int .i64 0)) (w.heap.size + 1) (setD (setD f 2 4 0) 2 2 0) := hF2.set_ hlx hlx 0
            obtain ⟨cv, hcv⟩ : ∃ cv, (W.setCell ⟨w.heap.size + 1, 14, none⟩ (.int .i64 0)).cell? ⟨w.heap.size + 1, 12, none⟩ = some cv := ⟨_, hF2.cell hlx hlx⟩
            have fx := hF2.1.frozen 12
            have HF3 := Lib.hid hF3
            have HR3 := Lib.hid (((hR.out.ext he).far (by show w.heap.size ≠ w.heap.size + 1; omega) (i := 14) (.int .i64 0)).far (by show w.heap.size ≠ w.heap.size + 1; omega) (i := 12) (.int .i64 0))
            have HE3 := Lib.hid (Below.setCell (Below.setCell (HE.out.trans he) (p := ⟨w.heap.size + 1, 14, none⟩) (Nat.le_succ _) (.int .i64 0)) (p := ⟨w.heap.size + 1, 12, none⟩) (Nat.le_succ _) (.int .i64 0))
            clear hF2 hF3
            go_wp2_with fail
            refine HK.out undef _ (fun h => by cases h) ?_
            clear HK
            refine Chain.nil ?_
            simp only [upd, Nat.reduceEqDiff, if_false, if_true]
            go_wp2_with fail
            go_roundw
            case rel => exact ⟨2 + 1, _, by omega, by go_num, Lib.hid (hfr.out.row hlx), HF3, HR3, HE3⟩
            case measure => first | (simp [intOf]; done) | (simp [intOf]; omega)
          · simp only [Nat.reduceMul, Nat.reduceAdd] at c4 f4
            refine wp_region_chain 7 [(5, false)] [1, 2, 6] (by kernel_rfl) (by kernel_rfl) (by kernel_rfl) ?_
            simp only [List.take, List.drop, fill, Act.put, List.setIfInBounds_toArray, List.set_cons_zero, List.set_cons_succ, Nat.reduceAdd]
            repeat (first
              | refine Floats.mut rfl ?_
              | (apply Floats.float rfl
                 · intro x W he hd K Q hK
                   try (have he := he (by decide))
                   try simp only [edges, DepsE, List.filter_cons, List.filter_nil, Region.binds, if_true, and_true, true_and, upd, Nat.reduceEqDiff, if_false] at hd
                   try simp only [hd] at hK ⊢
                   have HK := Lib.hid hK; clear hK
                   go_wp2_with fail
                   exact HK.out))
            refine Floats.done fun W he hG => ?_
            refine Chain.cons _ rfl ?_
            intro x hd K Q hK
            try simp only [edges, DepsE, List.filter_cons, List.filter_nil, Region.binds, if_true, and_true, true_and, upd, Nat.reduceEqDiff, if_false] at hd
            try simp only [hd] at hK ⊢
            clear hd
            have HK := Lib.hid hK; clear hK
            have c4' := he.cell c4
            have f4' := (hF.out.ext he).1.frozen 19
            have hF2 : FarAt (W.setCell ⟨w.heap.size + 1, 19, none⟩ (.int .i64 0)) (w.heap.size + 1) (setD f 3 4 0) := (hF.out.ext he).set_ hlx (c := 4) (by omega) 0
            have hF3 : FarAt ((W.setCell ⟨w.heap.size + 1, 19, none⟩ (.int .i64 0)).setCell ⟨w.heap.size + 1, 18, none⟩ (.int .i64 0)) (w.heap.size + 1) (setD (setD f 3 4 0) 3 3 0) := hF2.set_ hlx hlx 0
            obtain ⟨cv, hcv⟩ : ∃ cv, (W.setCell ⟨w.heap.size + 1, 19, none⟩ (.int .i64 0)).cell? ⟨w.heap.size + 1, 18, none⟩ = some cv := ⟨_, hF2.cell hlx hlx⟩
            have fx := hF2.1.frozen 18
            have HF3 := Lib.hid hF3
            have HR3 := Lib.hid (((hR.out.ext he).far (by show w.heap.size ≠ w.heap.size + 1; omega) (i := 19) (.int .i64 0)).far (by show w.heap.size ≠ w.heap.size + 1; omega) (i := 18) (.int .i64 0))
            have HE3 := Lib.hid (Below.setCell (Below.setCell (HE.out.trans he) (p := ⟨w.heap.size + 1, 19, none⟩) (Nat.le_succ _) (.int .i64 0)) (p := ⟨w.heap.size + 1, 18, none⟩) (Nat.le_succ _) (.int .i64 0))
            clear hF2 hF3
            go_wp2_with fail
            refine HK.out undef _ (fun h => by cases h) ?_
            clear HK
            refine Chain.nil ?_
            simp only [upd, Nat.reduceEqDiff, if_false, if_true]
            go_wp2_with fail
            go_roundw
            case rel => exact ⟨3 + 1, _, by omega, by go_num, Lib.hid (hfr.out.row hlx), HF3, HR3, HE3⟩
            case measure => first | (simp [intOf]; done) | (simp [intOf]; omega)
          · simp only [Nat.reduceMul, Nat.reduceAdd] at c4 f4
            refine wp_region_chain 7 [(5, false)] [1, 2, 6] (by kernel_rfl) (by kernel_rfl) (by kernel_rfl) ?_
            simp only [List.take, List.drop, fill, Act.put, List.setIfInBounds_toArray, List.set_cons_zero, List.set_cons_succ, Nat.reduceAdd]
            repeat (first
              | refine Floats.mut rfl ?_
              | (apply Floats.float rfl
                 · intro x W he hd K Q hK
                   try (have he := he (by decide))
                   try simp only [edges, DepsE, List.filter_cons, List.filter_nil, Region.binds, if_true, and_true, true_and, upd, Nat.reduceEqDiff, if_false] at hd
                   try simp only [hd] at hK ⊢
                   have HK := Lib.hid hK; clear hK
                   go_wp2_with fail
                   exact HK.out))
            refine Floats.done fun W he hG => ?_
            refine Chain.cons _ rfl ?_
            intro x hd K Q hK
            try simp only [edges, DepsE, List.filter_cons, List.filter_nil, Region.binds, if_true, and_true, true_and, upd, Nat.reduceEqDiff, if_false] at hd
            try simp only [hd] at hK ⊢
            clear hd
            have HK := Lib.hid hK; clear hK
            have c4' := he.cell c4
            have f4' := (hF.out.ext he).1.frozen 24
            have hF2 : FarAt (W.setCell ⟨w.heap.size + 1, 24, none⟩ (.int .i64 0)) (w.heap.size + 1) (setD f 4 4 0) := (hF.out.ext he).set_ hlx (c := 4) (by omega) 0
            have hF3 : FarAt ((W.setCell ⟨w.heap.size + 1, 24, none⟩ (.int .i64 0)).setCell ⟨w.heap.size + 1, 24, none⟩ (.int .i64 0)) (w.heap.size + 1) (setD (setD f 4 4 0) 4 4 0) := hF2.set_ hlx hlx 0
            obtain ⟨cv, hcv⟩ : ∃ cv, (W.setCell ⟨w.heap.size + 1, 24, none⟩ (.int .i64 0)).cell? ⟨w.heap.size + 1, 24, none⟩ = some cv := ⟨_, hF2.cell hlx hlx⟩
            have fx := hF2.1.frozen 24
            have HF3 := Lib.hid hF3
            have HR3 := Lib.hid (((hR.out.ext he).far (by show w.heap.size ≠ w.heap.size + 1; omega) (i := 24) (.int .i64 0)).far (by show w.heap.size ≠ w.heap.size + 1; omega) (i := 24) (.int .i64 0))
            have HE3 := Lib.hid (Below.setCell (Below.setCell (HE.out.trans he) (p := ⟨w.heap.size + 1, 24, none⟩) (Nat.le_succ _) (.int .i64 0)) (p := ⟨w.heap.size + 1, 24, none⟩) (Nat.le_succ _) (.int .i64 0))
            clear hF2 hF3
            go_wp2_with fail
            refine HK.out undef _ (fun h => by cases h) ?_
            clear HK
            refine Chain.nil ?_
            simp only [upd, Nat.reduceEqDiff, if_false, if_true]
            go_wp2_with fail
            go_roundw
            case rel => exact ⟨4 + 1, _, by omega, by go_num, Lib.hid (hfr.out.row hlx), HF3, HR3, HE3⟩
            case measure => first | (simp [intOf]; done) | (simp [intOf]; omega)
          -- >>
      -- >>
    · -- <<D
      obtain rfl : x = 5 := by omega
      have hf0 := hfr.out.done
      subst hf0
      obtain ⟨-, -, -, -, d4, -, -⟩ := (HD.out.ext hE.out).c7
      clear hfr
      go_wp2_with fail
      go_loopw [38] (fun iv wr => ∃ k : Nat, k ≤ a.gaps.length ∧ iv = .int .i64 (k : Int) ∧ Hid (FarAt wr (w.heap.size + 1) (gapsD (free0 a.minutes) (a.gaps.take k))) ∧ Hid (FarAt wr w.heap.size (List.replicate 25 0)) ∧ Hid (Ext w wr)) (fun iv _ => a.gaps.length - (intOf iv).toNat)
      case atStart => exact ⟨0, Nat.zero_le _, rfl, hF, hR, hE⟩
      case round =>
        clear hF hR hE d4
        obtain ⟨k, hk, rfl, hF, hR, HE⟩ := hrel
        by_cases hlk : k < a.gaps.length
        · -- <<G
          obtain ⟨gb, go, e1, g0, g1, g2, g3⟩ := (HG.out.ext HE.out) k hlk
          subst e1
          have hmem : a.gaps[k]?.getD default ∈ a.gaps := by rw [List.getElem?_eq_getElem hlk]; exact List.getElem_mem hlk
          obtain ⟨hs1, hs2, hs3⟩ := Hgp.out _ hmem
          have hnx : Hid (gapsD (free0 a.minutes) (a.gaps.take (k + 1)) = gapD (gapsD (free0 a.minutes) (a.gaps.take k)) (a.gaps[k]?.getD default)) := by
            unfold Hid gapsD
            rw [List.take_add_one, List.getElem?_eq_getElem hlk, List.foldl_append]
            rfl
          have hbd : ∀ x y, x < 5 → y < 5 → -240 ≤ atD (gapsD (free0 a.minutes) (a.gaps.take k)) x y ∧ atD (gapsD (free0 a.minutes) (a.gaps.take k)) x y ≤ 240 := gaps_bd (a := a) hok hlk
          obtain ⟨x, hgx⟩ : ∃ x, a.gaps[k]?.getD default = x := ⟨_, rfl⟩
          obtain ⟨f, hff⟩ : ∃ f, gapsD (free0 a.minutes) (a.gaps.take k) = f := ⟨_, rfl⟩
          rw [hgx] at g0 g1 g2 g3 hs1 hs2 hs3 hnx
          rw [hff] at hF hnx hbd
          obtain ⟨sN, hsN⟩ : ∃ n : Nat, x.src = (n : Int) := ⟨x.src.toNat, by omega⟩
          obtain ⟨dN, hdN⟩ : ∃ n : Nat, x.dst = (n : Int) := ⟨x.dst.toNat, by omega⟩
          obtain ⟨lo, hlo⟩ : ∃ l, x.lo = l := ⟨_, rfl⟩
          obtain ⟨hi', hhi⟩ : ∃ h, x.hi = h := ⟨_, rfl⟩
          have hgd : Hid (gapD f x = minD (minD f sN dN hi') dN sN (-lo)) := by
            unfold Hid gapD
            rw [hsN, hdN, hlo, hhi, Int.toNat_natCast, Int.toNat_natCast]
          rw [hsN] at g0 hs1
          rw [hdN] at g1 hs2
          rw [hlo] at g2 hs3
          rw [hhi] at g3 hs3
          have hsl : sN < 5 := by omega
          have hdl : dN < 5 := by omega
          clear hmem hgx hff hsN hdN hlo hhi
          have hX := Ext.alloc wr (.cells #[.int .i64 (sN : Int), .int .i64 (dN : Int), .int .i64 lo, .int .i64 hi'] 58)
          have hB := Blk.new wr 58 #[.int .i64 (sN : Int), .int .i64 (dN : Int), .int .i64 lo, .int .i64 hi']
          obtain ⟨k0, k1, k2, k3⟩ := hB.c4
          have HF4 := Lib.hid (hF.out.ext hX)
          have HR4 := Lib.hid (hR.out.ext hX)
          have HE4 := Lib.hid (HE.out.trans hX)
          have hlt := hF.out.1.lt
          have c1 := HF4.out.cell hsl hdl
          have hbx := hbd sN dN hsl hdl
          obtain ⟨xx, hxx⟩ : ∃ xx, atD f sN dN = xx := ⟨_, rfl⟩
          rw [hxx] at c1 hbx
          have Hxx := Lib.hid hxx
          have Hbd := Lib.hid hbd
          have hfl := hF.out.2
          clear hF hR HE hxx hX hbd
          go_upto_region 15 with fail
          obtain ⟨Gb, hGb⟩ : ∃ G, wr.heap.size = G := ⟨_, rfl⟩
          rw [hGb] at hB k0 k1 k2 k3 hlt ⊢
          have HB4 := Lib.hid hB
          clear hGb hB
          generalize wr.alloc _ = w4 at *
          refine wp_region_chain 18 [(14, true), (15, true), (17, true)] [] (by kernel_rfl) (by kernel_rfl) (by kernel_rfl) ?_
          simp only [List.take, List.drop, fill, Act.put, List.setIfInBounds_toArray, List.set_cons_zero, List.set_cons_succ, Nat.reduceAdd]
          repeat (first
            | refine Floats.mut rfl ?_
            | (apply Floats.float rfl
               · intro x W he hd K Q hK
                 try (have he := he (by decide); have k0 := he.cell k0; have k1 := he.cell k1; have k3 := he.cell k3; have c1 := he.cell c1)
                 try simp only [edges, DepsE, List.filter_cons, List.filter_nil, Region.binds, if_true, and_true, true_and, upd, Nat.reduceEqDiff, if_false] at hd
                 try simp only [hd] at hK ⊢
                 have HK := Lib.hid hK; clear hK
                 go_wp2_with fail
                 exact HK.out))
          refine Floats.done fun W he hG => ?_
          refine Chain.cons _ rfl ?_
          intro x hd K Q hK
          try simp only [edges, DepsE, List.filter_cons, List.filter_nil, Region.binds, if_true, and_true, true_and, upd, Nat.reduceEqDiff, if_false] at hd
          try simp only [hd] at hK ⊢
          clear hd
          have HK := Lib.hid hK; clear hK
          have hb5 := Ext.alloc W (.cells #[.int .i64 (hi')] 3)
          have hB5 := Blk.new W 3 #[.int .i64 (hi')]
          have hg := Lib.hid (leastC_any xx (some ⟨W.heap.size, 0, none⟩) 1 1 [hi'] rfl (min xx (hi')) rfl (W.alloc (.cells #[.int .i64 (hi')] 3)) (by simp [maxLen]) (fun k hk => by
            match k, hk with
            | 0, _ => exact ⟨_, 0, rfl, by rw [hB5.cell]; rfl⟩))
          have heX := he.trans hb5
          clear hb5 hB5
          go_wp2_with fail
          refine HK.out _ _ (fun _ => heX) ?_
          clear HK
          refine Chain.cons _ rfl ?_
          intro x hd K Q hK
          try simp only [edges, DepsE, List.filter_cons, List.filter_nil, Region.binds, if_true, and_true, true_and, upd, Nat.reduceEqDiff, if_false] at hd
          try simp only [hd] at hK ⊢
          clear hd
          have HK := Lib.hid hK; clear hK
          go_wp2_with fail
          refine hg.out.mono ?_
          rintro e w5 ⟨rfl, rfl⟩
          clear hg
          go_wp2_with fail
          refine HK.out _ _ (fun _ => heX) ?_
          clear HK
          refine Chain.cons _ rfl ?_
          intro x hd K Q hK
          try simp only [edges, DepsE, List.filter_cons, List.filter_nil, Region.binds, if_true, and_true, true_and, upd, Nat.reduceEqDiff, if_false] at hd
          try simp only [hd] at hK ⊢
          clear hd
          have HK := Lib.hid hK; clear hK
          go_wp2_with fail
          refine HK.out _ _ (fun _ => heX) ?_
          clear HK
          refine Chain.nil ?_
          simp only [upd, Nat.reduceEqDiff, if_false, if_true]
          have cc4 := heX.cell c1
          have cf4 := (HF4.out.ext heX).1.frozen (sN * 5 + dN)
          have hF5 := (HF4.out.ext heX).min_ hsl hdl hi'
          rw [Hxx.out] at hF5
          have HF5 := Lib.hid hF5
          have HR5 := Lib.hid ((HR4.out.ext heX).far (by show w.heap.size ≠ w.heap.size + 1; omega) (i := sN * 5 + dN) (.int .i64 (min xx hi')))
          have hB5 := (HB4.out.ext heX).far (p := ⟨w.heap.size + 1, sN * 5 + dN, none⟩) (by show Gb ≠ w.heap.size + 1; omega) (.int .i64 (min xx hi'))
          have HE5 := Lib.hid (Below.setCell (HE4.out.trans heX) (p := ⟨w.heap.size + 1, sN * 5 + dN, none⟩) (Nat.le_succ _) (.int .i64 (min xx hi')))
          have hbd5 := RngD.min_ hfl Hbd.out hsl hdl (v := hi') (by omega)
          clear hF5 HF4 HR4 HB4 HE4 k0 k1 k2 k3 c1
          go_upto_region 16 with fail
          generalize World.setCell _ _ _ = w6 at *
          have hf5l := HF5.out.2
          obtain ⟨f5, hf5⟩ : ∃ f5, minD f sN dN hi' = f5 := ⟨_, rfl⟩
          rw [hf5] at HF5 hbd5 hgd hf5l
          have hby := hbd5 dN sN hdl hsl
          have c1 := HF5.out.cell hdl hsl
          obtain ⟨yy, hyy⟩ : ∃ yy, atD f5 dN sN = yy := ⟨_, rfl⟩
          rw [hyy] at c1 hby
          have Hyy := Lib.hid hyy
          obtain ⟨k0, k1, k2, k3⟩ := hB5.c4
          clear hf5 hyy hB5 hbd5 cc4 cf4 he heX hG
          refine wp_region_chain 19 [(15, true), (16, true), (18, true)] [] (by kernel_rfl) (by kernel_rfl) (by kernel_rfl) ?_
          simp only [List.take, List.drop, fill, Act.put, List.setIfInBounds_toArray, List.set_cons_zero, List.set_cons_succ, Nat.reduceAdd]
          repeat (first
            | refine Floats.mut rfl ?_
            | (apply Floats.float rfl
               · intro x W he hd K Q hK
                 try (have he := he (by decide); have k0 := he.cell k0; have k1 := he.cell k1; have k2 := he.cell k2; have c1 := he.cell c1)
                 try simp only [edges, DepsE, List.filter_cons, List.filter_nil, Region.binds, if_true, and_true, true_and, upd, Nat.reduceEqDiff, if_false] at hd
                 try simp only [hd] at hK ⊢
                 have HK := Lib.hid hK; clear hK
                 go_wp2_with fail
                 exact HK.out))
          refine Floats.done fun W he hG => ?_
          refine Chain.cons _ rfl ?_
          intro x hd K Q hK
          try simp only [edges, DepsE, List.filter_cons, List.filter_nil, Region.binds, if_true, and_true, true_and, upd, Nat.reduceEqDiff, if_false] at hd
          try simp only [hd] at hK ⊢
          clear hd
          have HK := Lib.hid hK; clear hK
          have hb5 := Ext.alloc W (.cells #[.int .i64 (-lo)] 3)
          have hB5 := Blk.new W 3 #[.int .i64 (-lo)]
          have hg := Lib.hid (leastC_any yy (some ⟨W.heap.size, 0, none⟩) 1 1 [-lo] rfl (min yy (-lo)) rfl (W.alloc (.cells #[.int .i64 (-lo)] 3)) (by simp [maxLen]) (fun k hk => by
            match k, hk with
            | 0, _ => exact ⟨_, 0, rfl, by rw [hB5.cell]; rfl⟩))
          have heX := he.trans hb5
          clear hb5 hB5
          go_wp2_with fail
          refine HK.out _ _ (fun _ => heX) ?_
          clear HK
          refine Chain.cons _ rfl ?_
          intro x hd K Q hK
          try simp only [edges, DepsE, List.filter_cons, List.filter_nil, Region.binds, if_true, and_true, true_and, upd, Nat.reduceEqDiff, if_false] at hd
          try simp only [hd] at hK ⊢
          clear hd
          have HK := Lib.hid hK; clear hK
          go_wp2_with fail
          refine hg.out.mono ?_
          rintro e w5 ⟨rfl, rfl⟩
          clear hg
          go_wp2_with fail
          refine HK.out _ _ (fun _ => heX) ?_
          clear HK
          refine Chain.cons _ rfl ?_
          intro x hd K Q hK
          try simp only [edges, DepsE, List.filter_cons, List.filter_nil, Region.binds, if_true, and_true, true_and, upd, Nat.reduceEqDiff, if_false] at hd
          try simp only [hd] at hK ⊢
          clear hd
          have HK := Lib.hid hK; clear hK
          go_wp2_with fail
          refine HK.out _ _ (fun _ => heX) ?_
          clear HK
          refine Chain.nil ?_
          simp only [upd, Nat.reduceEqDiff, if_false, if_true]
          have cc5 := heX.cell c1
          have cf5 := (HF5.out.ext heX).1.frozen (dN * 5 + sN)
          have hF6 := (HF5.out.ext heX).min_ hdl hsl (-lo)
          rw [Hyy.out] at hF6
          rw [← hgd.out, ← hnx.out] at hF6
          have HF6 := Lib.hid hF6
          have HR6 := Lib.hid ((HR5.out.ext heX).far (by show w.heap.size ≠ w.heap.size + 1; omega) (i := dN * 5 + sN) (.int .i64 (min yy (-lo))))
          have HE6 := Lib.hid (Below.setCell (Ext.trans HE5.out heX) (p := ⟨w.heap.size + 1, dN * 5 + sN, none⟩) (Nat.le_succ _) (.int .i64 (min yy (-lo))))
          clear hF6 HF5 HR5 HE5
          go_wp2_with fail
          go_roundw
          case rel => exact ⟨k + 1, by omega, by go_num, HF6, HR6, HE6⟩
          case measure => simp [intOf]; omega
          -- >>
        · -- <<E
          obtain rfl : k = a.gaps.length := by omega
          have hfin : gapsD (free0 a.minutes) (a.gaps.take a.gaps.length) = freeD a := by rw [List.take_length]; rfl
          rw [hfin] at hF
          have hfl := Clk.freeD_len a
          obtain ⟨g, hg⟩ : ∃ g, freeD a = g := ⟨_, rfl⟩
          rw [hg] at hF hfl
          have Hg := Lib.hid hg
          clear hfin hg
          go_wp2_with (first
            | refine wpList_farLoad rfl _ rfl (w.heap.size + 1) rfl g hF.out ?_
            | refine wpList_farStore rfl _ _ rfl w.heap.size rfl (List.replicate 25 0) g rfl hfl hR.out ?_)
          have hRn := hR.out.row hfl
          have hEn : Ext w (wr.setRow w.heap.size (farA g)) := Ext.setRow HE.out (Nat.le_refl _) _
          refine bodyPost_ret (v := .agg (farA g)) ?_ rfl ⟨by rw [Hg.out], hEn⟩
          have hld := run_loadVar_mid (P := Try.prog) (wr.setRow w.heap.size (farA g)) w.heap.size 0 118 (g.map (Value.int .i64)) _ (fun j v hj => by
            rw [Nat.zero_add, hRn.1.cell]
            unfold farA
            rw [List.getElem?_toArray]; exact hj) Try.underlying118 rfl (by rw [List.length_map, hfl]; kernel_rfl)
          unfold farA at hld ⊢
          simp [results, Try.results84, Sem.run_bind, asAddr, Act.put, hld]
          -- >>
      -- >>
end Go.Proofs.Pet

namespace Go.Proofs.Pet
open Go Go.RowKit Go.Maps Go.WideMaps

theorem runRow : (142 : TypeId) < Try.prog.types.size := of_decide_eq_true (by kernel_rfl)
theorem runLaw : KeyLaw Try.prog 142 := deep_law_laid laidOut_ (m := 2) (by omega) runRow (by kernel_rfl) (by rw [Try.underlying142])
theorem runKeyed : Keyed Try.prog 142 := Keyed.of_law runLaw
def runKey (s g : Int) : Lit := .string (keyBytes [.int .i64 s, .int .i64 g])
theorem keyOf_run {s g : Int} (hs : -1000 ≤ s ∧ s ≤ 1000) (hg : -1000 ≤ g ∧ g ≤ 1000) : keyOf Try.prog 142 (.agg #[.int .i64 s, .int .i64 g]) = some (runKey s g) := by
  have wa := WalkArith.wf_i64 (n := s) (by omega)
  have wb := WalkArith.wf_i64 (n := g) (by omega)
  have hc : Try.prog.cellsOf 142 = 2 := by kernel_rfl
  have hci : Try.prog.cellsOf 3 = 1 := by kernel_rfl
  have hkt : Try.prog.keyType 142 = true := by kernel_rfl
  have hpos : 0 < Try.prog.types.size := Nat.lt_of_le_of_lt (Nat.zero_le _) runRow
  obtain ⟨m, hm⟩ := Nat.exists_eq_add_of_lt hpos
  unfold keyOf
  simp only [Try.underlying142]
  rw [if_pos (by simp [hkt, Value.formed, Try.underlying142, hc]), hm]
  unfold Program.keyLits
  simp [Try.underlying142, Value.cells, hc, hci, Program.keyLits, Try.underlying3, wa, wb, runKey]
theorem runKey_inj {s g s' g' : Int} (hs : -1000 ≤ s ∧ s ≤ 1000) (hg : -1000 ≤ g ∧ g ≤ 1000) (hs' : -1000 ≤ s' ∧ s' ≤ 1000) (hg' : -1000 ≤ g' ∧ g' ≤ 1000) (e : runKey s g = runKey s' g') : s = s' ∧ g = g' := by
  have h1 := keyOf_run hs hg
  rw [e] at h1
  have h2 := runKeyed.inj h1 (keyOf_run hs' hg')
  simp at h2
  exact h2
/-- what a span in such a map reads as -/
def spanD (x : Int × Int) : DataW Unit := .agg [.lit (.int .i64 x.1), .lit (.int .i64 x.2)]
theorem spanD_inj {x y : Int × Int} (h : spanD x = spanD y) : x = y := by
  unfold spanD at h
  simp only [DataW.agg.injEq, List.cons.injEq, DataW.lit.injEq, Lit.int.injEq, true_and, and_true] at h
  exact Prod.ext h.1 h.2
open Classical in
noncomputable def spanElem (v : Value) : Option (DataW Unit × List MemPlace) :=
  if h : ∃ x : Int × Int, v = .agg #[.int .i64 x.1, .int .i64 x.2] then some (spanD h.choose, []) else none
theorem spanElem_mk (x : Int × Int) : spanElem (.agg #[.int .i64 x.1, .int .i64 x.2]) = some (spanD x, []) := by
  unfold spanElem
  have h : ∃ y : Int × Int, (Value.agg #[.int .i64 x.1, .int .i64 x.2]) = .agg #[.int .i64 y.1, .int .i64 y.2] := ⟨x, rfl⟩
  rw [dif_pos h]
  have h2 := h.choose_spec
  generalize h.choose = c at h2 ⊢
  simp only [Value.agg.injEq, Array.mk.injEq, List.cons.injEq, Value.int.injEq, true_and, and_true] at h2
  have e : c = x := Prod.ext h2.1.symm h2.2.symm
  rw [e]
theorem spanElem_inv {v : Value} {x : Int × Int} {ps : List MemPlace} (h : spanElem v = some (spanD x, ps)) : v = .agg #[.int .i64 x.1, .int .i64 x.2] := by
  unfold spanElem at h
  split at h
  · rename_i he
    simp only [Option.some.injEq, Prod.mk.injEq] at h
    have e := spanD_inj h.1
    have h2 := he.choose_spec
    rw [e] at h2
    exact h2
  · cases h
theorem zero_span (w : World) : (zeroValue 52).run Try.prog w = .ok (.agg #[.int .i64 0, .int .i64 0]) w := by kernel_rfl
def RunMap (w : World) (M cnt : Nat) (f : Int → Int → Int × Int) : Prop :=
  ∃ D : DataW Unit, w.ownsMap Try.prog 142 spanElem M cnt D ∧ ∀ s g : Int, (-1000 ≤ s ∧ s ≤ 1000) → (-1000 ≤ g ∧ g ≤ 1000) → D.atKey (runKey s g) (spanD (0, 0)) = spanD (f s g)
theorem RunMap.made (w : World) : RunMap (w.alloc (.map #[] 0)) w.heap.size 0 (fun _ _ => (0, 0)) := ⟨.map [], World.ownsMap_made w _ _ _, fun s g _ _ => by rfl⟩
theorem RunMap.grown {w w' : World} {M cnt : Nat} {f : Int → Int → Int × Int} {row : Option Nat} (h : RunMap w M cnt f) (hg : w.grownBy w' row) (hne : some M ≠ row) : RunMap w' M cnt f := by
  obtain ⟨D, h1, h2⟩ := h
  exact ⟨D, h1.kept hg hne, h2⟩
theorem RunMap.ext {w w' : World} {M cnt : Nat} {f : Int → Int → Int × Int} (h : RunMap w M cnt f) (he : Ext w w') : RunMap w' M cnt f := by
  obtain ⟨D, ⟨es, clock, hb, F, hs, hD⟩, h2⟩ := h
  exact ⟨D, ⟨es, clock, he.block hb, F, hs, hD⟩, h2⟩
theorem RunMap.look {w : World} {M cnt : Nat} {f : Int → Int → Int × Int} (h : RunMap w M cnt f) (s g : Int) (hs : -1000 ≤ s ∧ s ≤ 1000) (hg : -1000 ≤ g ∧ g ≤ 1000) :
    (Instr.lookup 140 (.map (some M)) (.agg #[.int .i64 s, .int .i64 g]) false).run Try.prog w = .ok (.agg #[.int .i64 (f s g).1, .int .i64 (f s g).2]) w := by
  obtain ⟨D, h1, h2⟩ := h
  obtain ⟨v, ps, hr, hv⟩ := h1.lookup runKeyed Try.underlying140 (zero_span w) (zd := spanD (0, 0)) (zp := []) (spanElem_mk (0, 0)) (keyOf_run hs hg)
  rw [h2 s g hs hg] at hv
  rw [hr, spanElem_inv hv]
theorem RunMap.store {w : World} {M cnt : Nat} {f : Int → Int → Int × Int} (h : RunMap w M cnt f) (s g : Int) (hs : -1000 ≤ s ∧ s ≤ 1000) (hg : -1000 ≤ g ∧ g ≤ 1000) (hc : cnt ≤ 1048576) (x : Int × Int) :
    ∃ w', (Instr.mapUpdate 140 (.map (some M)) (.agg #[.int .i64 s, .int .i64 g]) (.agg #[.int .i64 x.1, .int .i64 x.2])).run Try.prog w = .ok () w' ∧ RunMap w' M (cnt + 1) (fun a b => if a = s ∧ b = g then x else f a b) ∧ w.grownBy w' (some M) := by
  obtain ⟨D, h1, h2⟩ := h
  have hD : IsMap D := by obtain ⟨es, clock, hb, F, hs, rfl⟩ := h1; exact ⟨_, rfl⟩
  obtain ⟨w', hr, ho, hg'⟩ := h1.update runKeyed Try.underlying140 (by unfold maxLen; omega) (keyOf_run hs hg) (val := .agg #[.int .i64 x.1, .int .i64 x.2]) (d := spanD x) (ps := []) (spanElem_mk x)
  refine ⟨w', hr, ⟨_, ho, fun a b ha hb => ?_⟩, hg'⟩
  by_cases e : a = s ∧ b = g
  · obtain ⟨rfl, rfl⟩ := e
    rw [atKey_put_same hD (by simp [runKey, WideAt.IsKeyLit])]
    show spanD x = spanD (if a = a ∧ b = b then x else f a b)
    rw [if_pos ⟨rfl, rfl⟩]
  · rw [atKey_put_other (fun q => e (runKey_inj ha hb hs hg q)), h2 a b ha hb]
    show _ = spanD (if a = s ∧ b = g then x else f a b)
    rw [if_neg e]
end Go.Proofs.Pet

namespace Go.Proofs.Pet
set_option linter.unusedSimpArgs false
open Go Go.RowKit Go.Maps Go.WideMaps
open Go.Proofs.Clk (Cl Rd Gp Att whenF whenT)

theorem RunMap.apart {w w' : World} {M b cnt : Nat} {f : Int → Int → Int × Int} (h : RunMap w M cnt f) (hne : M ≠ b) (ha : Apart b w w') : RunMap w' M cnt f := by
  obtain ⟨D, ⟨es, clock, hb, F, hs, hD⟩, h2⟩ := h
  exact ⟨D, ⟨es, clock, (ha.block M (Array.getElem?_eq_some_iff.1 hb).1 hne).trans hb, F, hs, hD⟩, h2⟩
theorem RunMap.ne_row {w : World} {M cnt base size n : Nat} {f : Int → Int → Int × Int} {e : TypeId} {v : Value} {xs : List Value} (h : RunMap w M cnt f) (hr : w.ownsRow base e size v n xs) : v.ownBlock ≠ some M := by
  obtain ⟨D, ⟨es, clock, hb, F, hs, hD⟩, h2⟩ := h
  intro e1
  rcases hr.2 with ⟨rfl, _⟩ | ⟨g, cap, cur, rfl, hg, hb2, _⟩
  · cases e1
  · have : g = M := Option.some.inj e1
    subst this
    rw [hb] at hb2
    cases hb2
/-- the map of the i-th reading -/
def RdMap (w : World) (a : Att) (M i : Nat) : Prop :=
  ∃ cnt f, RunMap w M cnt f ∧ ∀ s g : Int, (a.clocks[(a.reads[i]?.getD default).clock.toNat]?.getD default).sl ≤ s → s ≤ (a.clocks[(a.reads[i]?.getD default).clock.toNat]?.getD default).sh → (a.clocks[(a.reads[i]?.getD default).clock.toNat]?.getD default).gl ≤ g → g ≤ (a.clocks[(a.reads[i]?.getD default).clock.toNat]?.getD default).gh → f s g = whenF a s g (a.reads[i]?.getD default).shows
theorem RdMap.ext {w w' : World} {a : Att} {M i : Nat} (h : RdMap w a M i) (he : Ext w w') : RdMap w' a M i := by
  obtain ⟨cnt, f, h1, h2⟩ := h
  exact ⟨cnt, f, h1.ext he, h2⟩
theorem RdMap.apart {w w' : World} {a : Att} {M b i : Nat} (h : RdMap w a M i) (hne : M ≠ b) (ha : Apart b w w') : RdMap w' a M i := by
  obtain ⟨cnt, f, h1, h2⟩ := h
  exact ⟨cnt, f, h1.apart hne ha, h2⟩
theorem info_maps : (Try.prog.info? 140).map (fun i => (i.zero, i.size, i.bytes)) = some (some (.map none), 1, 8) := by kernel_rfl
/-- the desk while it is made: k readings are done -/
structure WkC (w0 : World) (D : Nat) (a : Att) (A1 A2 A3 : Option Addr) (c1 c2 c3 : Nat) (mv : Value) (Ms : List Nat) (W : World) : Prop where
  ex : Ext w0 W
  desk : Blk W D 139 #[.int .i64 a.minutes, .int .i64 a.events, .slice A1 a.clocks.length c1, .slice A2 a.reads.length c2, .slice A3 a.gaps.length c3, .func (.func 78) #[] #[], mv]
  row : W.ownsRow (D + 1) 140 1 mv Ms.length (Ms.map fun M => .map (some M))
  maps : ∀ i, i < Ms.length → RdMap W a (Ms[i]?.getD 0) i ∧ D < Ms[i]?.getD 0
  le : w0.heap.size ≤ D
theorem all1C (w : World) (x : Int) : Tells Try.prog w 78 #[] #[] IntVal x true := by
  intro W v hW hv
  obtain rfl : v = .int .i64 x := hv
  show Calls Try.prog 78 #[_] W _
  go_enter Try.func78, Try.ntmps78
  go_wp2
  go_ret
  exact ⟨rfl, Ext.refl _⟩
theorem allC_any (w : World) : Calls Try.prog 48 #[] w fun e w' => e = .returned (.agg #[.func (.func 78) #[] #[]]) ∧ Ext w w' := by
  have hX := Ext.alloc w (.cells #[.func (.func 78) #[] #[]] 112)
  have hc := (cell_new_l w (.func (.func 78) #[] #[]) 112).1
  go_enter Try.func48, Try.ntmps48
  go_wp2_with fail
  refine bodyPost_ret (v := .agg #[.func (.func 78) #[] #[]]) ?_ rfl ⟨rfl, hX⟩
  simp [results, Try.results48, go_sem, hc]
theorem WkC.ext {w0 W W' : World} {D : Nat} {a : Att} {A1 A2 A3 : Option Addr} {c1 c2 c3 : Nat} {mv : Value} {Ms : List Nat} (h : WkC w0 D a A1 A2 A3 c1 c2 c3 mv Ms W) (he : Ext W W') : WkC w0 D a A1 A2 A3 c1 c2 c3 mv Ms W' :=
  ⟨h.ex.trans he, h.desk.ext he, ownsRow_ext2 h.row he, fun i hi => ⟨(h.maps i hi).1.ext he, (h.maps i hi).2⟩, h.le⟩
theorem RdMap.grown {w w' : World} {a : Att} {M i : Nat} {row : Option Nat} (h : RdMap w a M i) (hg : w.grownBy w' row) (hne : some M ≠ row) : RdMap w' a M i := by
  obtain ⟨cnt, f, h1, h2⟩ := h
  exact ⟨cnt, f, h1.grown hg hne, h2⟩
theorem WkC.push {w0 W W1 w' : World} {D M : Nat} {a : Att} {A1 A2 A3 : Option Addr} {c1 c2 c3 : Nat} {mv v' : Value} {Ms : List Nat} (h : WkC w0 D a A1 A2 A3 c1 c2 c3 mv Ms W) (hX : Ext W W1) (hm : RdMap W1 a M Ms.length) (hM : D < M)
    (hown : w'.ownsRow (D + 1) 140 1 v' (Ms.length + 1) ((Ms.map fun M => Value.map (some M)) ++ [.map (some M)])) (hg : W1.grownBy w' mv.ownBlock) :
    WkC w0 D a A1 A2 A3 c1 c2 c3 v' (Ms ++ [M]) (w'.setCell ⟨D, 6, none⟩ v') ∧ Blk w' D 139 #[.int .i64 a.minutes, .int .i64 a.events, .slice A1 a.clocks.length c1, .slice A2 a.reads.length c2, .slice A3 a.gaps.length c3, .func (.func 78) #[] #[], mv] ∧ (∀ (b : Nat) (t : TypeId) (cs : Array Value), Blk W1 b t cs → b ≤ D → b ≠ D → Blk (w'.setCell ⟨D, 6, none⟩ v') b t cs) := by
  have h1 := h.ext hX
  have hno : ∀ b, b ≤ D → some b ≠ mv.ownBlock := fun b hb e => by have := (ownsRow_own h1.row b e.symm).1; omega
  have hdk := h1.desk.grown hg (hno D (Nat.le_refl _))
  have hex : Ext w0 w' := Below.grown h1.ex hg h1.ex.size (fun j e => by have := (ownsRow_own h1.row j e).1; have := h.le; omega)
  have hap : Apart D w' (w'.setCell ⟨D, 6, none⟩ v') := (Apart.refl D w').set_ 6 v'
  have hnv : v'.ownBlock ≠ some D := fun e => by have := (ownsRow_own hown D e).1; omega
  refine ⟨⟨Below.setCell hex (p := ⟨D, 6, none⟩) h.le v', by simpa using hdk.set_ 6 v', ?_, ?_, h.le⟩, hdk, fun _ _ _ hb hbl hbn => (hb.grown hg (hno _ hbl)).far hbn _⟩
  · have := ownsRow_apart hown hnv hap
    rw [List.length_append, List.length_singleton, List.map_append]
    exact this
  · intro i hi
    have hMr : ∀ {m i : Nat}, RdMap W1 a m i → some m ≠ mv.ownBlock := by
      intro m i ⟨cnt, f, q, _⟩ e
      exact q.ne_row h1.row e.symm
    rw [List.length_append, List.length_singleton] at hi
    by_cases hil : i < Ms.length
    · obtain ⟨q1, q2⟩ := h1.maps i hil
      rw [List.getElem?_append_left hil]
      exact ⟨(q1.grown hg (hMr q1)).apart (by omega) hap, q2⟩
    · obtain rfl : i = Ms.length := by omega
      rw [List.getElem?_append_right (Nat.le_refl _), Nat.sub_self]
      exact ⟨(hm.grown hg (hMr hm)).apart (by show M ≠ D; omega) hap, hM⟩
set_option maxRecDepth 20000 in
set_option maxHeartbeats 8000000 in
theorem workedC_any (v : Value) (a : Att) (hok : AttOk a) (w : World) (hv : AttVal w v a) :
    Calls Try.prog 47 #[v, .agg #[.func (.func 78) #[] #[]]] w fun e w' => ∃ D mv, ∃ Ms : List Nat, e = .returned (.pointer (some ⟨D, 0, none⟩)) ∧ DeskC w' D a mv ∧ Ms.length = a.reads.length ∧ w'.ownsRow (D + 1) 140 1 mv Ms.length (Ms.map fun M => .map (some M)) ∧ (∀ i, i < Ms.length → RdMap w' a (Ms[i]?.getD 0) i) ∧ Ext w w' := by
  obtain ⟨ti, hi, hz0, hz1, hz2⟩ := info_parts info_maps
  obtain ⟨A1, c1, A2, c2, A3, c3, rfl, -, -, -, h4, h5, h6⟩ := hv
  have H4 := Lib.hid h4; have H5 := Lib.hid h5; have H6 := Lib.hid h6
  have hmin := hok.mins
  have hrl := hok.nrd
  have hcl := hok.ncl
  have Hok := Lib.hid hok
  have hX : Ext w (((w.alloc (.cells #[.int .i64 a.minutes, .int .i64 a.events, .slice A1 a.clocks.length c1, .slice A2 a.reads.length c2, .slice A3 a.gaps.length c3] 27)).alloc (.cells #[.func (.func 78) #[] #[]] 112)).alloc (.cells #[.int .i64 a.minutes, .int .i64 a.events, .slice A1 a.clocks.length c1, .slice A2 a.reads.length c2, .slice A3 a.gaps.length c3, .func (.func 78) #[] #[], .slice none 0 0] 139)) := ((Ext.alloc _ _).trans (Ext.alloc _ _)).trans (Ext.alloc _ _)
  have hP := ((Blk.new w 27 #[.int .i64 a.minutes, .int .i64 a.events, .slice A1 a.clocks.length c1, .slice A2 a.reads.length c2, .slice A3 a.gaps.length c3]).alloc (.cells #[.func (.func 78) #[] #[]] 112)).alloc (.cells #[.int .i64 a.minutes, .int .i64 a.events, .slice A1 a.clocks.length c1, .slice A2 a.reads.length c2, .slice A3 a.gaps.length c3, .func (.func 78) #[] #[], .slice none 0 0] 139)
  have hD := Blk.new ((w.alloc (.cells #[.int .i64 a.minutes, .int .i64 a.events, .slice A1 a.clocks.length c1, .slice A2 a.reads.length c2, .slice A3 a.gaps.length c3] 27)).alloc (.cells #[.func (.func 78) #[] #[]] 112)) 139 #[.int .i64 a.minutes, .int .i64 a.events, .slice A1 a.clocks.length c1, .slice A2 a.reads.length c2, .slice A3 a.gaps.length c3, .func (.func 78) #[] #[], .slice none 0 0]
  simp only [World.size_alloc] at hD
  clear h4 h5 h6 hok
  go_enter Try.func47, Try.ntmps47
  go_wp2_with fail
  go_loopw [20] (fun iv wr => ∃ k : Nat, ∃ mv : Value, ∃ Ms : List Nat, k ≤ a.reads.length ∧ iv = .int .i64 (k : Int) ∧ Hid (Ms.length = k) ∧ Hid (WkC w (w.heap.size + 1 + 1) a A1 A2 A3 c1 c2 c3 mv Ms wr) ∧ Hid (Blk wr w.heap.size 27 #[.int .i64 a.minutes, .int .i64 a.events, .slice A1 a.clocks.length c1, .slice A2 a.reads.length c2, .slice A3 a.gaps.length c3])) (fun iv _ => a.reads.length - (intOf iv).toNat)
  case atStart => exact ⟨0, _, [], Nat.zero_le _, rfl, rfl, ⟨hX, hD, World.ownsRow_nil _ _ _ _, (fun i hi => absurd hi (Nat.not_lt_zero i)), by omega⟩, hP⟩
  case round =>
    clear hD hX hP
    obtain ⟨k, mv, Ms, hk, rfl, hMl, hW, hP⟩ := hrel
    by_cases hlk : k < a.reads.length
    · obtain ⟨rb, ro, er, r0, r1, r2⟩ := (H5.out.ext hW.out.ex) k hlk
      subst er
      have hmem : a.reads[k]?.getD default ∈ a.reads := by rw [List.getElem?_eq_getElem hlk]; exact List.getElem_mem hlk
      obtain ⟨hs1, hs2, hs3⟩ := Hok.out.rds _ hmem
      obtain ⟨x, hx⟩ : ∃ x, a.reads[k]?.getD default = x := ⟨_, rfl⟩
      rw [hx] at r0 r1 r2 hs1 hs2 hs3
      have Hx := Lib.hid hx
      obtain ⟨cN, hcN⟩ : ∃ n : Nat, x.clock = (n : Int) := ⟨x.clock.toNat, by omega⟩
      have hcl' : cN < a.clocks.length := by omega
      obtain ⟨cb, co, ec, g0, g1, g2, g3⟩ := (H4.out.ext hW.out.ex) cN hcl'
      subst ec
      have hcm : a.clocks[cN]?.getD default ∈ a.clocks := by rw [List.getElem?_eq_getElem hcl']; exact List.getElem_mem hcl'
      obtain ⟨hq1, hq2⟩ := Hok.out.cls _ hcm
      obtain ⟨z, hz⟩ : ∃ z, a.clocks[cN]?.getD default = z := ⟨_, rfl⟩
      rw [hz] at g0 g1 g2 g3 hq1 hq2
      have Hz := Lib.hid hz
      obtain ⟨sl, hsl⟩ : ∃ n, z.sl = n := ⟨_, rfl⟩
      obtain ⟨sh, hsh⟩ : ∃ n, z.sh = n := ⟨_, rfl⟩
      obtain ⟨gl, hgl⟩ : ∃ n, z.gl = n := ⟨_, rfl⟩
      obtain ⟨gh, hgh⟩ : ∃ n, z.gh = n := ⟨_, rfl⟩
      obtain ⟨ev, hev⟩ : ∃ n, x.event = n := ⟨_, rfl⟩
      obtain ⟨sw, hsw⟩ : ∃ n, x.shows = n := ⟨_, rfl⟩
      have Hsl := Lib.hid hsl; have Hsh := Lib.hid hsh; have Hgl := Lib.hid hgl; have Hgh := Lib.hid hgh; have Hsw := Lib.hid hsw; have HcN := Lib.hid hcN
      rw [hsl] at g0 hq1; rw [hsh] at g1 hq1; rw [hgl] at g2 hq2; rw [hgh] at g3 hq2
      rw [hcN] at r0; rw [hev] at r1; rw [hsw] at r2 hs1
      clear hx hz hsl hsh hgl hgh hev hsw hs2 hs3 hcN hmem hcm
      have hX2 : Ext wr ((wr.alloc (.cells #[.int .i64 (cN : Int), .int .i64 ev, .int .i64 sw] 66)).alloc (.map #[] 0)) := (Ext.alloc _ _).trans (Ext.alloc _ _)
      have hR := (Blk.new wr 66 #[.int .i64 (cN : Int), .int .i64 ev, .int .i64 sw]).alloc (.map #[] 0)
      have hM := RunMap.made (wr.alloc (.cells #[.int .i64 (cN : Int), .int .i64 ev, .int .i64 sw] 66))
      have HW := Lib.hid (hW.out.ex.trans hX2)
      have hPx := hP.out.ext hX2
      obtain ⟨p0, p1, p2, p3, p4⟩ := hPx.c5
      obtain ⟨q0, q1, q2⟩ := hR.c3
      have f0 := hX2.cell g0
      have f1 := hX2.cell g1
      have f2 := hX2.cell g2
      have f3 := hX2.cell g3
      obtain ⟨P0, P1, P2, P3, P4⟩ := hP.out.c5
      have hK := Blk.new ((wr.alloc (.cells #[.int .i64 (cN : Int), .int .i64 ev, .int .i64 sw] 66)).alloc (.map #[] 0)) 64 #[.int .i64 sl, .int .i64 sh, .int .i64 gl, .int .i64 gh]
      obtain ⟨k0, k1, k2, k3⟩ := hK.c4
      have HR := Lib.hid hR; have HM := Lib.hid hM; have HK := Lib.hid hK; have HP := Lib.hid hPx
      clear hR hM hK hPx g0 g1 g2 g3
      have hmm := @run_makeMap Try.prog
      go_wp2_with fail
      clear hmm p0 p1 p2 p3 p4 q0 q1 q2 f0 f1 f2 f3 P0 P1 P2 P3 P4 k0 k1 k2 k3
      obtain ⟨U, hU⟩ : ∃ U, U = wr := ⟨_, rfl⟩
      subst hU
      have hX3 := hX2.trans (Ext.alloc ((U.alloc (.cells #[.int .i64 (cN : Int), .int .i64 ev, .int .i64 sw] 66)).alloc (.map #[] 0)) (.cells #[.int .i64 sl, .int .i64 sh, .int .i64 gl, .int .i64 gh] 64))
      have HX3 := Lib.hid hX3
      have HR3 := Lib.hid (HR.out.alloc (.cells #[.int .i64 sl, .int .i64 sh, .int .i64 gl, .int .i64 gh] 64))
      have HM3 := Lib.hid (HM.out.ext (Ext.alloc _ (.cells #[.int .i64 sl, .int .i64 sh, .int .i64 gl, .int .i64 gh] 64)))
      obtain ⟨R, hR⟩ : ∃ R, U.heap.size = R := ⟨_, rfl⟩
      have hUR : R = U.heap.size := hR.symm
      simp only [World.size_alloc] at HK HM3
      rw [hR] at HR3 HM3 HK ⊢
      have HUR := Lib.hid hUR
      clear hX2 hX3 HR HM HP hR hUR
      generalize ((U.alloc _).alloc _).alloc _ = w3 at *
      obtain ⟨ns, hns⟩ : ∃ n : Nat, sh = sl + (n : Int) := ⟨(sh - sl).toNat, by omega⟩
      obtain ⟨ng, hng⟩ : ∃ n : Nat, gh = gl + (n : Int) := ⟨(gh - gl).toNat, by omega⟩
      subst hns hng
      have hWs : w.heap.size ≤ R := by rw [HUR.out]; exact hW.out.ex.size
      go_loopw [10] (fun sv wr => ∃ i cnt : Nat, ∃ f, i ≤ ns + 1 ∧ sv = .int .i64 (sl + (i : Int)) ∧ cnt ≤ 5 * i ∧ Hid (RunMap wr (R + 1) cnt f) ∧ Hid (∀ s g : Int, sl ≤ s → s < sl + (i : Int) → gl ≤ g → g ≤ gl + (ng : Int) → f s g = whenF a s g sw) ∧ Hid (Ext U wr) ∧ Hid (Blk wr R 66 #[.int .i64 (cN : Int), .int .i64 ev, .int .i64 sw]) ∧ Hid (Blk wr (R + 1 + 1) 64 #[.int .i64 sl, .int .i64 (sl + (ns : Int)), .int .i64 gl, .int .i64 (gl + (ng : Int))])) (fun sv _ => (sl + (ns : Int) + 1 - intOf sv).toNat)
      case atStart => exact ⟨0, 0, _, Nat.zero_le _, by go_num, Nat.le_refl _, HM3, (fun s g h1 h2 => by omega), HX3, HR3, HK⟩
      case round =>
        clear HM3 HR3 HK HX3
        obtain ⟨i, cnt, f, hi', rfl, hct, hM, hF, hE, hR, hK⟩ := hrel
        obtain ⟨k0, k1, k2, k3⟩ := hK.out.c4
        by_cases hli : i < ns + 1
        · -- <<A
          have hd : decide (sl + (i : Int) ≤ sl + (ns : Int)) = true := by simp; omega
          have hd' : decide (i ≤ ns) = true := by simp; omega
          go_wp2_with fail
          clear hd hd'
          obtain ⟨V, hV⟩ : ∃ V, V = wr := ⟨_, rfl⟩
          subst hV
          clear k0 k1 k2 k3
          go_loopw [11] (fun gv wr => ∃ j cnt : Nat, ∃ f, j ≤ ng + 1 ∧ gv = .int .i64 (gl + (j : Int)) ∧ cnt ≤ 5 * i + j ∧ Hid (RunMap wr (R + 1) cnt f) ∧ Hid (∀ s g : Int, sl ≤ s → s ≤ sl + (i : Int) → gl ≤ g → g ≤ gl + (ng : Int) → (s < sl + (i : Int) ∨ g < gl + (j : Int)) → f s g = whenF a s g sw) ∧ Hid (Ext U wr) ∧ Hid (Blk wr R 66 #[.int .i64 (cN : Int), .int .i64 ev, .int .i64 sw]) ∧ Hid (Blk wr (R + 1 + 1) 64 #[.int .i64 sl, .int .i64 (sl + (ns : Int)), .int .i64 gl, .int .i64 (gl + (ng : Int))])) (fun gv _ => (gl + (ng : Int) + 1 - intOf gv).toNat)
          case atStart => exact ⟨0, cnt, f, Nat.zero_le _, by go_num, by omega, hM, (fun s g h1 h2 h3 h4 h5 => by rcases h5 with h5 | h5; exact hF.out s g h1 h5 h3 h4; omega), hE, hR, hK⟩
          case round =>
            clear hM hF hE hR hK
            obtain ⟨j, cnt, f, hj, rfl, hct, hM, hF, hE, hR, hK⟩ := hrel
            obtain ⟨k0, k1, k2, k3⟩ := hK.out.c4
            by_cases hlj : j < ng + 1
            · -- <<B
              have hd : decide (gl + (j : Int) ≤ gl + (ng : Int)) = true := by simp; omega
              have hd' : decide (j ≤ ng) = true := by simp; omega
              have hB0 := Blk.new wr 142 #[.int .i64 (sl + (i : Int)), .int .i64 (gl + (j : Int))]
              have hX0 := Ext.alloc wr (.cells #[.int .i64 (sl + (i : Int)), .int .i64 (gl + (j : Int))] 142)
              obtain ⟨b0, b1⟩ := hB0.c2
              have hP0 := hP.out.ext (hE.out.trans hX0)
              obtain ⟨p0, -, -, -, -⟩ := hP0.c5
              obtain ⟨-, -, q2⟩ := (hR.out.ext hX0).c3
              have HE0 := Lib.hid (hE.out.trans hX0)
              have HR0 := Lib.hid (hR.out.ext hX0)
              have HK0 := Lib.hid (hK.out.ext hX0)
              have HM0 := Lib.hid (hM.out.ext hX0)
              clear hP0 hX0 hE hR hK hM
              go_upto_region 14 with fail
              clear hd hd' k0 k1 k2 k3
              obtain ⟨B, hB⟩ : ∃ B, wr.heap.size = B := ⟨_, rfl⟩
              rw [hB] at b0 b1 hB0 ⊢
              clear hB
              generalize wr.alloc _ = w4 at *
              refine wp_region_chain 8 [(7, true)] [] (by kernel_rfl) (by kernel_rfl) (by kernel_rfl) ?_
              simp only [List.take, List.drop, fill, Act.put, List.setIfInBounds_toArray, List.set_cons_zero, List.set_cons_succ, Nat.reduceAdd]
              repeat (first
                | refine Floats.mut rfl ?_
                | (apply Floats.float rfl
                   · intro x W he hd K Q hK
                     try (have he := he (by decide); have b0 := he.cell b0; have b1 := he.cell b1; have p0 := he.cell p0; have q2 := he.cell q2)
                     try simp only [edges, DepsE, List.filter_cons, List.filter_nil, Region.binds, if_true, and_true, true_and, upd, Nat.reduceEqDiff, if_false] at hd
                     try simp only [hd] at hK ⊢
                     have HK := Lib.hid hK; clear hK
                     go_wp2_with fail
                     exact HK.out))
              refine Floats.done fun W he hG => ?_
              have hq : -60 ≤ sl + (i : Int) ∧ sl + (i : Int) ≤ 60 := by omega
              have hq' : -30 ≤ gl + (j : Int) ∧ gl + (j : Int) ≤ 30 := by omega
              have hwn := Lib.hid (whenC_any (sl + (i : Int)) (gl + (j : Int)) sw a.minutes hq hq' hmin W)
              obtain ⟨sp, hsp⟩ : ∃ sp, whenT (sl + (i : Int)) (gl + (j : Int)) sw (a.minutes + 1).toNat = sp := ⟨_, rfl⟩
              rw [hsp] at hwn
              have Hsp := Lib.hid hsp
              clear hsp
              refine Chain.cons _ rfl ?_
              intro x hd K Q hK
              try simp only [edges, DepsE, List.filter_cons, List.filter_nil, Region.binds, if_true, and_true, true_and, upd, Nat.reduceEqDiff, if_false] at hd
              try simp only [hd] at hK ⊢
              clear hd
              have HK := Lib.hid hK; clear hK
              go_wp2_with fail
              refine hwn.out.mono ?_
              rintro e w5 ⟨rfl, he5⟩
              go_wp2_with fail
              refine HK.out _ _ (fun _ => Ext.trans he he5) ?_
              clear HK
              refine Chain.nil ?_
              simp only [upd, Nat.reduceEqDiff, if_false, if_true]
              have HE5 := Lib.hid ((HE0.out.trans he).trans he5)
              have HR5 := Lib.hid ((HR0.out.ext he).ext he5)
              have HK5 := Lib.hid ((HK0.out.ext he).ext he5)
              have HM5 := Lib.hid ((HM0.out.ext he).ext he5)
              clear hwn HM0 HE0 HR0 HK0 hB0 b0 b1 p0 q2
              obtain ⟨w6, hrun, hM6, hg6⟩ := HM5.out.store (sl + (i : Int)) (gl + (j : Int)) (by omega) (by omega) (by omega) sp
              have HM6 := Lib.hid hM6
              have Hg6 := Lib.hid hg6
              clear hM6 hg6
              go_wp2_with fail
              go_roundw
              case rel =>
                have hRs : U.heap.size ≤ R + 1 := by have := HUR.out; omega
                refine ⟨j + 1, cnt + 1, _, by omega, by go_num, by omega, HM6, ?_, Lib.hid (Below.grown HE5.out Hg6.out HE5.out.size (fun q e => by cases e; exact hRs)), Lib.hid (HR5.out.grown Hg6.out (by intro e; cases e)), Lib.hid (HK5.out.grown Hg6.out (fun e => by have := Option.some.inj e; omega))⟩
                intro s g h1 h2 h3 h4 h5
                by_cases e : s = sl + (i : Int) ∧ g = gl + (j : Int)
                · obtain ⟨rfl, rfl⟩ := e
                  show (if sl + (i : Int) = sl + (i : Int) ∧ gl + (j : Int) = gl + (j : Int) then sp else f (sl + (i : Int)) (gl + (j : Int))) = _
                  rw [if_pos ⟨rfl, rfl⟩]
                  exact Hsp.out.symm
                · show (if s = sl + (i : Int) ∧ g = gl + (j : Int) then sp else f s g) = _
                  rw [if_neg e]
                  exact hF.out s g h1 h2 h3 h4 (by omega)
              case measure => simp [intOf]; omega
              -- >>
            · -- <<C
              obtain rfl : j = ng + 1 := by omega
              have hd : decide (gl + ((ng + 1 : Nat) : Int) ≤ gl + (ng : Int)) = false := by simp; omega
              go_wp2_with fail
              go_roundw
              case rel => exact ⟨i + 1, cnt, f, by omega, by go_num, by omega, hM, (fun s g h1 h2 h3 h4 => hF.out s g h1 (by omega) h3 h4 (Or.inr (by omega))), hE, hR, hK⟩
              case measure => simp [intOf]; omega
              -- >>
          -- >>
        · -- <<D
          obtain rfl : i = ns + 1 := by omega
          have hd : decide (sl + ((ns + 1 : Nat) : Int) ≤ sl + (ns : Int)) = false := by simp; omega
          have hF2 : Hid (RdMap wr a (R + 1) k) := ⟨cnt, f, hM.out, by
            rw [Hx.out, HcN.out, Int.toNat_natCast, Hz.out, Hsl.out, Hsh.out, Hgl.out, Hgh.out, Hsw.out]
            exact fun s g h1 h2 h3 h4 => hF.out s g h1 (by omega) h3 h4⟩
          have hW2 := hW.out.ext hE.out
          have hrow0 := hW2.row
          rw [hMl.out] at hrow0
          obtain ⟨Am, cm, hmv⟩ := ownsRow_slice hrow0
          subst hmv
          have hrow := hrow0.alloc (.cells #[.map (some (R + 1))] 140)
          clear hrow0
          obtain ⟨d0, d1, d2, d3, d4, d5, d6⟩ := hW2.desk.c7
          have HW2 := Lib.hid hW2
          have HP2 := Lib.hid (hP.out.ext hE.out)
          have hDl := hW2.desk.lt
          have hXm := Lib.hid (Ext.alloc wr (.cells #[.map (some (R + 1))] 140))
          have hsrc := Src.one wr (.map (some (R + 1))) 140
          have hMD : w.heap.size + 1 + 1 < R + 1 := by have := hW.out.desk.lt; have := HUR.out; omega
          have hpush : Hid (∀ v' w', w'.ownsRow (w.heap.size + 1 + 1 + 1) 140 1 v' (k + 1) ((Ms.map fun M => Value.map (some M)) ++ [.map (some (R + 1))]) → (wr.alloc (.cells #[.map (some (R + 1))] 140)).grownBy w' (Value.slice Am k cm).ownBlock → _) := Lib.hid fun v' w' hown hg => HW2.out.push hXm.out (by rw [hMl.out]; exact hF2.out.ext hXm.out) hMD (by rw [hMl.out]; exact hown) hg
          clear hM hF hE hR hK hW2
          go_wp2_with (at_builtin; go_loud (refine wpList_app rfl _ _ 137 rfl (w.heap.size + 1 + 1 + 1) 140 ti _ 1 8 Try.underlying137 hi hz0 hz1 hz2 rfl (by decide) (.slice Am k cm) k _ rfl hrow (some ⟨wr.heap.size, 0, none⟩) 1 1 [.map (some (R + 1))] rfl rfl hsrc ?c2 ?c3 ?c4 ?c5 ?_; (case c2 => (intro u hu; rw [List.mem_singleton] at hu; subst hu; rfl)); (case c3 => (unfold maxLen; omega)); (case c4 => omega); (case c5 => (simp only [World.size_alloc]; omega)); intro v' w12 hown hg hblk; have hN := hpush.out v' w12 hown hg; obtain ⟨n1, n2, n3⟩ := hN; have N1 := Lib.hid n1; have N3 := Lib.hid n3; obtain ⟨-, -, -, -, -, -, e6⟩ := n2.c7; have ef6 := n2.frozen 6; clear n1 n3; obtain ⟨A9, c9, rfl⟩ := ownsRow_slice hown))
          go_roundw
          case rel => exact ⟨k + 1, _, _, by omega, by go_num, Lib.hid (by rw [List.length_append, List.length_singleton, hMl.out]), N1, Lib.hid (N3.out _ _ _ (HP2.out.ext hXm.out) (by omega) (by omega))⟩
          case measure => simp [intOf]; omega
          -- >>
    · -- <<Z
      obtain rfl : k = a.reads.length := by omega
      have hDl := hW.out.desk.lt
      go_wp2_with fail
      go_ret
      have hW' := hW.out
      have hl := hMl.out
      exact ⟨_, mv, Ms, rfl, ⟨A1, c1, A2, c2, A3, c3, hW'.desk, H4.out.ext hW'.ex, H5.out.ext hW'.ex, H6.out.ext hW'.ex⟩, hl, hW'.row, fun i hi => (hW'.maps i hi).1, hW'.ex⟩
      -- >>
end Go.Proofs.Pet
