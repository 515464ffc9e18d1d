/-
  Chains of cards taken round: lift, Differ.
-/
import Derived.Test.YtknokjnplbdmeaaC4
namespace Go.Proofs.Pet
set_option linter.unusedSimpArgs false
open Go Go.RowKit Go.Maps Go.Shelf

theorem taker_any (n : Nat) (w : World) : Calls Try.prog 150 #[.agg #[.int .i64 0, .int .i64 n, .int .i64 0], .int .i64 2] w fun e w' => ∃ g, e = .returned (.agg #[.func (.func 171) #[] #[.pointer (some ⟨g, 0, none⟩)]]) ∧ w'.cell? ⟨g, 0, none⟩ = some (.int .i64 n) ∧ Ext w w' := by
  have hmf : ∀ (fn : Fn) (first cap : Array Value) (w : World), (Instr.makeFunc fn first cap).run Try.prog w = .ok (.func fn first cap) w := fun _ _ _ _ => rfl
  go_enter Try.func150, Try.ntmps150
  go_wp2_with fail
  have hE : Ext w ((((w.alloc (.cells #[.int .i64 0, .int .i64 n, .int .i64 0] 177)).alloc (.cells #[.int .i64 2] 3)).alloc (.cells #[.func (.func 171) #[] #[.pointer (some ⟨w.heap.size + 1 + 1 + 1, 0, none⟩)]] 182)).alloc (.cells #[.int .i64 n] 3)) :=
    (((Ext.alloc _ _).trans (Ext.alloc _ _)).trans (Ext.alloc _ _)).trans (Ext.alloc _ _)
  have hb := (Blk.new ((w.alloc (.cells #[.int .i64 0, .int .i64 n, .int .i64 0] 177)).alloc (.cells #[.int .i64 2] 3)) 182 #[.func (.func 171) #[] #[.pointer (some ⟨w.heap.size + 1 + 1 + 1, 0, none⟩)]]).alloc (.cells #[.int .i64 n] 3)
  have hn := Blk.new (((w.alloc (.cells #[.int .i64 0, .int .i64 n, .int .i64 0] 177)).alloc (.cells #[.int .i64 2] 3)).alloc (.cells #[.func (.func 171) #[] #[.pointer (some ⟨w.heap.size + 1 + 1 + 1, 0, none⟩)]] 182)) 3 #[.int .i64 n]
  simp only [World.size_alloc] at hb hn
  generalize (((w.alloc _).alloc _).alloc _).alloc _ = W at *
  have v0 := hb.c1
  refine bodyPost_ret (v := .agg #[.func (.func 171) #[] #[.pointer (some ⟨w.heap.size + 1 + 1 + 1, 0, none⟩)]]) ?_ rfl ⟨_, rfl, hn.c1, hE⟩
  simp [results, Try.results150, go_sem, v0]
theorem taker3_any (g n t : Nat) (hn : 1 ≤ n ∧ n ≤ 1000) (ht : t ≤ 1000000) (w : World) (hg : w.cell? ⟨g, 0, none⟩ = some (.int .i64 n)) : Calls Try.prog 171 #[.int .i64 t, .pointer (some ⟨g, 0, none⟩)] w fun e w' => e = .returned (.tuple #[.int .i64 ((t % n : Nat) : Int), .int .i64 0]) ∧ w = w' := by
  have hn0 : ((n : Int) == 0) = false := by rw [beq_eq_false_iff_ne]; omega
  have hmod : ((t : Int)).tmod (n : Int) = ((t % n : Nat) : Int) := by rw [Int.tmod_eq_emod_of_nonneg (by omega)]; rfl
  go_enter Try.func171, Try.ntmps171
  go_wp2_with fail
  go_ret2
  exact ⟨rfl, rfl⟩
theorem taker_field (g : Nat) (w : World) : (Instr.field 182 (.agg #[.func (.func 171) #[] #[.pointer (some ⟨g, 0, none⟩)]]) 0).run Try.prog w = .ok (.func (.func 171) #[] #[.pointer (some ⟨g, 0, none⟩)]) w := by kernel_rfl
/-- what the operations of lift's first region leave -/
def liftR (cs : List Int) (v : Value) (_W0 : World) (B t : Nat) (k : Nat) (u : Value) (W : World) : Prop :=
  match k with
  | 0 => u = v
  | 1 => u = .agg #[.int .i64 0, .int .i64 cs.length, .int .i64 0]
  | 2 => u = .pointer (some ⟨B, 0, none⟩)
  | 3 => u = .int .i64 2
  | 4 => ∃ g, u = .agg #[.func (.func 171) #[] #[.pointer (some ⟨g, 0, none⟩)]] ∧ W.cell? ⟨g, 0, none⟩ = some (.int .i64 cs.length)
  | 5 => ∃ g, u = .func (.func 171) #[] #[.pointer (some ⟨g, 0, none⟩)] ∧ W.cell? ⟨g, 0, none⟩ = some (.int .i64 cs.length)
  | 6 => u = .int .i64 t
  | 7 => u = .tuple #[.int .i64 ((t % cs.length : Nat) : Int), .int .i64 0]
  | 8 => u = .tuple #[.int .i64 ((t % cs.length : Nat) : Int), .int .i64 0]
  | 9 => u = .int .i64 ((t % cs.length : Nat) : Int)
  | 10 => u = .int .i64 0
  | 11 => u = .int .i64 ((t % cs.length : Nat) : Int)
  | _ => True
theorem liftR.ext {cs : List Int} {v : Value} {W0 : World} {B t : Nat} {W W' : World} (he : Ext W W') (k : Nat) (u : Value) (h : liftR cs v W0 B t k u W) : liftR cs v W0 B t k u W' := by
  match k, h with
  | 0, h | 1, h | 2, h | 3, h | 6, h | 7, h | 8, h | 9, h | 10, h | 11, h => exact h
  | 4, ⟨g, h1, h2⟩ => exact ⟨g, h1, he.cell h2⟩
  | 5, ⟨g, h1, h2⟩ => exact ⟨g, h1, he.cell h2⟩
  | _ + 12, h => trivial
set_option maxRecDepth 20000 in
set_option maxHeartbeats 1000000 in
theorem lift_any (v : Value) (cs : List Int) (hc : CardsOk cs) (t : Nat) (ht : t ≤ 1000000) (w : World) (hv : ChainVal w v cs) : Calls Try.prog 118 #[v, .int .i64 t] w fun e w' => e = .returned (.int .i64 (liftC cs t)) ∧ Ext w w' := by
  have Hv := Lib.hid hv
  obtain ⟨A, c, h1, h2, rfl, h4⟩ := hv
  obtain ⟨⟨g1, g2⟩, g3⟩ := hc
  have hX := Ext.alloc w (.cells #[.int .i64 2, .slice A cs.length c, .int .i64 0, .int .i64 0] 100)
  have hBl := Blk.new w 100 #[.int .i64 2, .slice A cs.length c, .int .i64 0, .int .i64 0]
  have hlt : t % cs.length < cs.length := Nat.mod_lt _ (by omega)
  have hlc : liftC cs t = cs[t % cs.length]?.getD 0 := rfl
  have hcd : 0 ≤ liftC cs t ∧ liftC cs t ≤ 1 := by
    rw [hlc, List.getElem?_eq_getElem hlt]
    exact g3 _ (List.getElem_mem hlt)
  have H4 := Lib.hid h4
  have Hlc := Lib.hid hlc
  clear g3 h4 hlc
  go_enter Try.func118, Try.ntmps118
  go_wp2_with fail
  obtain ⟨B, hB⟩ : ∃ B, w.heap.size = B := ⟨_, rfl⟩
  rw [hB] at hBl ⊢
  clear hB
  generalize w.alloc _ = W0 at *
  have Hb := Lib.hid hBl
  refine wp_region_factsB 12 (by kernel_rfl) (by kernel_rfl) (fun W => Ext W0 W) (liftR cs (.agg #[.int .i64 2, .slice A cs.length c, .int .i64 0, .int .i64 0]) W0 B t) (Ext.drew _) ?_ ?_
  · simp only [List.take, AllOpsB, fill, Act.put, List.setIfInBounds_toArray, List.set_cons_zero, List.set_cons_succ, Nat.reduceAdd, Deps, List.filter_cons, List.filter_nil, Region.binds, if_true, and_true]
    refine ⟨?_, ?_, ?_, ?_, ?_, ?_, ?_, ?_, ?_, ?_, ?_, ?_⟩
    all_goals
      intro x W hG hd K Q hK
      obtain ⟨k0, k1, k2, k3⟩ := (Hb.out.ext hG).c4
    case refine_5 =>
      simp only [liftR] at hd
      simp only [hd] at hK ⊢
      have HK := Lib.hid hK; clear hK
      go_wp2_with fail
      refine (taker_any cs.length W).mono ?_
      rintro e w' ⟨g, rfl, hg, he⟩
      go_wp2
      exact HK.out _ _ ⟨g, rfl, hg⟩ (hG.trans he) (liftR.ext he)
    case refine_2 =>
      simp only [liftR] at hd
      simp only [hd] at hK ⊢
      have HK := Lib.hid hK; clear hK
      have hpl := planC_any _ cs W (Hv.out.ext (hX.trans hG))
      go_wp2_with fail
      refine hpl.mono ?_
      rintro e w' ⟨rfl, he⟩
      go_wp2
      exact HK.out _ _ rfl (hG.trans he) (liftR.ext he)
    case refine_6 =>
      simp only [liftR] at hd
      obtain ⟨g, hg1, hg2⟩ := hd
      simp only [hg1] at hK ⊢
      have HK := Lib.hid hK; clear hK
      have Hg2 := Lib.hid hg2; clear hg2 hg1
      have hfl := taker_field g
      go_wp2_with fail
      exact HK.out _ _ ⟨g, rfl, Hg2.out⟩ hG (fun _ _ h => h)
    case refine_8 =>
      simp only [liftR] at hd
      obtain ⟨⟨g, hg1, hg2⟩, h6, _⟩ := hd
      simp only [hg1, h6] at hK ⊢
      have HK := Lib.hid hK; clear hK
      have h3 := Lib.hid (taker3_any g cs.length t (by omega) ht W hg2)
      have eg := enters_of Try.func171 (by kernel_rfl) rfl
      unfold Enters at eg
      clear hg1 hg2 h6
      go_wp2_with fail
      refine h3.out.mono ?_
      rintro e w' ⟨rfl, rfl⟩
      go_wp2
      exact HK.out _ _ rfl hG (fun _ _ h => h)
    all_goals
      try simp only [liftR] at hd
      try simp only [hd] at hK ⊢
      have HK := Lib.hid hK; clear hK
      go_wp2
      exact HK.out _ _ rfl hG (fun _ _ h => h)
  · intro x W hG hR
    simp only [AllR, liftR, true_and] at hR
    obtain ⟨⟨⟨⟨⟨⟨⟨⟨⟨⟨⟨r0, r1⟩, r2⟩, r3⟩, g4, r4, _⟩, g5, r5, _⟩, r6⟩, r7⟩, r8⟩, r9⟩, r10⟩, r11⟩ := hR
    simp only [List.take, List.drop, fill, Act.put, List.setIfInBounds_toArray, List.set_cons_zero, List.set_cons_succ, Nat.reduceAdd, r0, r1, r2, r3, r4, r5, r6, r7, r8, r9, r10, r11]
    clear r0 r1 r2 r3 r4 r5 r6 r7 r8 r9 r10 r11
    have hE := hX.trans hG
    obtain ⟨k0, k1, k2, k3⟩ := (Hb.out.ext hG).c4
    obtain ⟨b, o, rfl, hcell⟩ := (H4.out.ext hE) _ hlt
    rw [← Hlc.out] at hcell
    obtain ⟨y, hy⟩ : ∃ y, liftC cs t = y := ⟨_, rfl⟩
    rw [hy] at hcell hcd
    obtain ⟨r, hr⟩ : ∃ r, t % cs.length = r := ⟨_, rfl⟩
    rw [hr] at hcell hlt ⊢
    have Hy := Lib.hid hy
    clear hy hr Hlc
    go_wp2_with fail
    refine wp_region_chain 9 [(8, true)] [] (by kernel_rfl) (by kernel_rfl) (by kernel_rfl) ?_
    simp only [List.take, List.drop, fill, Act.put, List.setIfInBounds_toArray, List.set_cons_zero, List.set_cons_succ, Nat.reduceAdd]
    repeat (first
      | refine Floats.mut rfl ?_
      | (apply Floats.float rfl
         · intro x W he hd K Q hK
           try (have he := he (by decide); have k0 := he.cell k0; have k1 := he.cell k1; have k2 := he.cell k2; have k3 := he.cell k3; have hcell := he.cell hcell)
           try simp only [edges, DepsE, List.filter_cons, List.filter_nil, Region.binds, if_true, and_true, true_and, upd, Nat.reduceEqDiff, if_false] at hd
           try simp only [hd] at hK ⊢
           have HK := Lib.hid hK; clear hK
           go_wp2_with fail
           exact HK.out))
    refine Floats.done fun W he hG => ?_
    refine Chain.cons _ rfl ?_
    intro x hd K Q hK
    try simp only [edges, DepsE, List.filter_cons, List.filter_nil, Region.binds, if_true, and_true, true_and, upd, Nat.reduceEqDiff, if_false] at hd
    try simp only [hd] at hK ⊢
    clear hd
    have HK := Lib.hid hK; clear hK
    go_wp2_with fail
    refine (moved_any y hcd _).mono ?_
    rintro e w' ⟨rfl, he'⟩
    go_wp2_with fail
    refine HK.out _ _ (fun _ => he.trans he') ?_
    refine Chain.nil ?_
    simp only [upd, Nat.reduceEqDiff, if_false, if_true]
    go_wp2_with fail
    go_ret
    exact ⟨by rw [Hy.out]; rfl, hE.trans (he.trans he')⟩
theorem difT_some {a b : List Int} {t : Nat} (ht : t < a.length + b.length) (h1 : ∀ s, s < t → liftC a s = liftC b s) (h2 : liftC a t ≠ liftC b t) : difT a b = some t := by
  unfold difT
  rw [List.find?_range_eq_some]
  refine ⟨by simpa using h2, by simpa using ht, fun j hj => ?_⟩
  simp [h1 j hj]
def difV (a b : List Int) : Int × Int := match difT a b with | none => (0, 6) | some t => ((t : Int), 0)
set_option maxRecDepth 20000 in
set_option maxHeartbeats 2000000 in
theorem differ_any (va vb : Value) (a b : List Int) (ha : CardsOk a) (hb : CardsOk b) (w : World) (hva : ChainVal w va a) (hvb : ChainVal w vb b) :
    Calls Try.prog 58 #[va, vb] w fun e w' => e = .returned (.tuple #[.int .i64 (difV a b).1, .int .i64 (difV a b).2]) ∧ Ext w w' := by
  have Hva := Lib.hid hva; have Hvb := Lib.hid hvb
  obtain ⟨A, c, h1, h2, rfl, h4⟩ := hva
  obtain ⟨B, d, i1, i2, rfl, i4⟩ := hvb
  have la := ha.1.2; have lb := hb.1.2; have la1 := ha.1.1; have lb1 := hb.1.1
  have hA0 := Blk.new w 100 #[.int .i64 2, .slice A a.length c, .int .i64 0, .int .i64 0]
  have hX1 := Ext.alloc w (.cells #[.int .i64 2, .slice A a.length c, .int .i64 0, .int .i64 0] 100)
  have hB0 := Blk.new (w.alloc (.cells #[.int .i64 2, .slice A a.length c, .int .i64 0, .int .i64 0] 100)) 100 #[.int .i64 2, .slice B b.length d, .int .i64 0, .int .i64 0]
  have hX2 := Ext.alloc (w.alloc (.cells #[.int .i64 2, .slice A a.length c, .int .i64 0, .int .i64 0] 100)) (.cells #[.int .i64 2, .slice B b.length d, .int .i64 0, .int .i64 0] 100)
  have hC0 := Blk.new ((w.alloc (.cells #[.int .i64 2, .slice A a.length c, .int .i64 0, .int .i64 0] 100)).alloc (.cells #[.int .i64 2, .slice B b.length d, .int .i64 0, .int .i64 0] 100)) 100 #[.int .i64 2, .slice A a.length c, .int .i64 0, .int .i64 0, .int .i64 2, .slice B b.length d, .int .i64 0, .int .i64 0]
  have hX3 := Ext.alloc ((w.alloc (.cells #[.int .i64 2, .slice A a.length c, .int .i64 0, .int .i64 0] 100)).alloc (.cells #[.int .i64 2, .slice B b.length d, .int .i64 0, .int .i64 0] 100)) (.cells #[.int .i64 2, .slice A a.length c, .int .i64 0, .int .i64 0, .int .i64 2, .slice B b.length d, .int .i64 0, .int .i64 0] 100)
  rw [World.size_alloc] at hB0 hC0
  rw [World.size_alloc] at hC0
  have hA1 := (hA0.ext hX2).ext hX3
  have hB1 := hB0.ext hX3
  have hE := (hX1.trans hX2).trans hX3
  clear h2 i2 h4 i4 hA0 hB0 hX1 hX2 hX3
  go_enter Try.func58, Try.ntmps58
  go_wp2_with fail
  generalize ((w.alloc _).alloc _).alloc _ = W0 at *
  go_loopw [14] (fun iv wr => ∃ k : Nat, k ≤ 2 ∧ iv = .int .i64 k ∧ Ext w wr ∧ Ext W0 wr) (fun iv _ => 2 - (intOf iv).toNat)
  case atStart => exact ⟨0, by omega, rfl, hE, Ext.refl _⟩
  case round =>
    obtain ⟨k, hk, rfl, he, he0⟩ := hrel
    by_cases hlt : k < 2
    · have hcur : ∃ (A' : Option Addr) (x : List Int) (c' : Nat), wr.cell? ⟨w.heap.size + 1 + 1, k * 4, none⟩ = some (.int .i64 2) ∧ wr.cell? ⟨w.heap.size + 1 + 1, k * 4 + 1, none⟩ = some (.slice A' x.length c') ∧ wr.cell? ⟨w.heap.size + 1 + 1, k * 4 + 2, none⟩ = some (.int .i64 0) ∧ wr.cell? ⟨w.heap.size + 1 + 1, k * 4 + 3, none⟩ = some (.int .i64 0) ∧
          CardsOk x ∧ ChainVal w (.agg #[.int .i64 2, .slice A' x.length c', .int .i64 0, .int .i64 0]) x := by
        have hC := hC0.ext he0
        rcases (by omega : k = 0 ∨ k = 1) with rfl | rfl
        · exact ⟨A, a, c, hC.cell 0, hC.cell 1, hC.cell 2, hC.cell 3, ha, Hva.out⟩
        · exact ⟨B, b, d, hC.cell 4, hC.cell 5, hC.cell 6, hC.cell 7, hb, Hvb.out⟩
      obtain ⟨A', x, c', q0, q1, q2, q3, hx, hxv⟩ := hcur
      have hX := Ext.alloc wr (.cells #[.int .i64 2, .slice A' x.length c', .int .i64 0, .int .i64 0] 100)
      have hb := Blk.new wr 100 #[.int .i64 2, .slice A' x.length c', .int .i64 0, .int .i64 0]
      obtain ⟨y0, y1, y2, y3⟩ := hb.c4
      have hck := Lib.hid (checkChain_any _ x hx _ (hxv.ext (he.trans hX)))
      have HX := Lib.hid hX
      clear hx hxv hX hb
      go_wp2_with fail
      refine hck.out.mono ?_
      rintro e w2 ⟨rfl, he2⟩
      go_wp2_with fail
      go_roundw
      case rel => exact ⟨k + 1, by omega, by go_num, he.trans (HX.out.trans he2), he0.trans (HX.out.trans he2)⟩
      case measure => simp [intOf]; omega
    · have hA := hA1.ext he0; have hB := hB1.ext he0
      obtain ⟨y0, y1, y2, y3⟩ := hA.c4
      obtain ⟨z0, z1, z2, z3⟩ := hB.c4
      have Hra := Lib.hid (fun W (hW : Ext wr W) => roundC_any _ a W (Hva.out.ext (he.trans hW)))
      have Hrb := Lib.hid (fun W (hW : Ext wr W) => roundC_any _ b W (Hvb.out.ext (he.trans hW)))
      have Hla := Lib.hid (fun W (hW : Ext w W) t (ht : t ≤ 1000000) => lift_any _ a ha t ht W (Hva.out.ext hW))
      have Hlb := Lib.hid (fun W (hW : Ext w W) t (ht : t ≤ 1000000) => lift_any _ b hb t ht W (Hvb.out.ext hW))
      clear hA1 hB1 hC0 hE
      go_wp2_with fail
      clear y0 y1 y2 y3 z0 z1 z2 z3
      refine wp_region_factsB 6 (by kernel_rfl) (by kernel_rfl) (fun W => Ext wr W) (valsR [.agg #[.int .i64 2, .slice A a.length c, .int .i64 0, .int .i64 0], .int .i64 a.length, .agg #[.int .i64 2, .slice B b.length d, .int .i64 0, .int .i64 0], .int .i64 b.length, .int .i64 ((a.length : Int) + b.length), .int .i64 0]) (Ext.drew _) ?_ ?_
      · simp only [List.take, AllOpsB, fill, Act.put, List.setIfInBounds_toArray, List.set_cons_zero, List.set_cons_succ, Nat.reduceAdd, Deps, List.filter_cons, List.filter_nil, Region.binds, if_true, and_true]
        refine ⟨?_, ?_, ?_, ?_, ?_, ?_⟩
        all_goals
          intro x W hG hd K Q hK
          try (simp only [valsR, List.getElem?_cons_succ, List.getElem?_cons_zero, Option.getD_some] at hd; simp only [hd] at hK ⊢)
          obtain ⟨y0, y1, y2, y3⟩ := (hA.ext hG).c4
          obtain ⟨z0, z1, z2, z3⟩ := (hB.ext hG).c4
          have HK := Lib.hid hK; clear hK
        case refine_2 =>
          go_wp2_with fail
          refine (Hra.out _ hG).mono ?_
          rintro e w' ⟨rfl, he⟩
          go_wp2
          exact HK.out _ _ rfl (hG.trans he) (fun _ _ h => h)
        case refine_4 =>
          go_wp2_with fail
          refine (Hrb.out _ hG).mono ?_
          rintro e w' ⟨rfl, he⟩
          go_wp2
          exact HK.out _ _ rfl (hG.trans he) (fun _ _ h => h)
        all_goals
          go_wp2
          exact HK.out _ _ rfl hG (fun _ _ h => h)
      · intro x W hG hR
        simp only [AllR, valsR, true_and, List.getElem?_cons_succ, List.getElem?_cons_zero, Option.getD_some] at hR
        obtain ⟨⟨⟨⟨⟨r0, r1⟩, r2⟩, r3⟩, r4⟩, r5⟩ := hR
        simp only [List.take, List.drop, fill, Act.put, List.setIfInBounds_toArray, List.set_cons_zero, List.set_cons_succ, Nat.reduceAdd, r0, r1, r2, r3, r4, r5]
        clear r0 r1 r2 r3 r4 r5
        have heW := he.trans hG
        have hAW := hA.ext hG; have hBW := hB.ext hG
        clear he he0 hA hB hG
        go_wp2_with fail
        go_loopw [34] (fun iv wr => ∃ t : Nat, t ≤ a.length + b.length ∧ iv = .int .i64 t ∧ Ext w wr ∧ Ext W wr ∧ Hid (∀ s, s < t → liftC a s = liftC b s)) (fun iv _ => a.length + b.length - (intOf iv).toNat)
        case atStart => exact ⟨0, by omega, rfl, heW, Ext.refl _, fun s hs => by omega⟩
        case round =>
          clear heW
          obtain ⟨t, ht, rfl, he, heW, hpre⟩ := hrel
          by_cases hlt : t < a.length + b.length
          · obtain ⟨p, hp⟩ : ∃ p, liftC a t = p := ⟨_, rfl⟩
            obtain ⟨q, hq⟩ : ∃ q, liftC b t = q := ⟨_, rfl⟩
            have Hp := Lib.hid hp; have Hq := Lib.hid hq
            have Ha9 := Lib.hid (fun W' (hW : Ext wr W') => Hla.out W' (he.trans hW) t (by omega))
            have Hb9 := Lib.hid (fun W' (hW : Ext wr W') => Hlb.out W' (he.trans hW) t (by omega))
            rw [hp] at Ha9; rw [hq] at Hb9
            have hA := hAW.ext heW; have hB := hBW.ext heW
            have hdt : decide ((t : Int) < (a.length : Int) + (b.length : Int)) = true := decide_eq_true (by omega)
            clear hp hq
            go_wp2_with fail
            clear hdt
            refine wp_region_factsB 7 (by kernel_rfl) (by kernel_rfl) (fun W => Ext wr W) (valsR [.agg #[.int .i64 2, .slice A a.length c, .int .i64 0, .int .i64 0], .int .i64 t, .int .i64 p, .agg #[.int .i64 2, .slice B b.length d, .int .i64 0, .int .i64 0], .int .i64 t, .int .i64 q, .bool (p != q)]) (Ext.drew _) ?_ ?_
            · simp only [List.take, AllOpsB, fill, Act.put, List.setIfInBounds_toArray, List.set_cons_zero, List.set_cons_succ, Nat.reduceAdd, Deps, List.filter_cons, List.filter_nil, Region.binds, if_true, and_true]
              refine ⟨?_, ?_, ?_, ?_, ?_, ?_, ?_⟩
              all_goals
                intro x W hG hd K Q hK
                try (simp only [valsR, List.getElem?_cons_succ, List.getElem?_cons_zero, Option.getD_some] at hd; simp only [hd] at hK ⊢)
                obtain ⟨y0, y1, y2, y3⟩ := (hA.ext hG).c4
                obtain ⟨z0, z1, z2, z3⟩ := (hB.ext hG).c4
                have HK := Lib.hid hK; clear hK
              case refine_3 =>
                go_wp2_with fail
                refine (Ha9.out _ hG).mono ?_
                rintro e w' ⟨rfl, he⟩
                go_wp2
                exact HK.out _ _ rfl (hG.trans he) (fun _ _ h => h)
              case refine_6 =>
                go_wp2_with fail
                refine (Hb9.out _ hG).mono ?_
                rintro e w' ⟨rfl, he⟩
                go_wp2
                exact HK.out _ _ rfl (hG.trans he) (fun _ _ h => h)
              all_goals
                go_wp2
                exact HK.out _ _ rfl hG (fun _ _ h => h)
            · intro x W hG hR
              simp only [AllR, valsR, true_and, List.getElem?_cons_succ, List.getElem?_cons_zero, Option.getD_some] at hR
              obtain ⟨⟨⟨⟨⟨⟨r0, r1⟩, r2⟩, r3⟩, r4⟩, r5⟩, r6⟩ := hR
              simp only [List.take, List.drop, fill, Act.put, List.setIfInBounds_toArray, List.set_cons_zero, List.set_cons_succ, Nat.reduceAdd, r0, r1, r2, r3, r4, r5, r6]
              clear r0 r1 r2 r3 r4 r5 r6
              have heX := he.trans hG; have heX2 := heW.trans hG
              clear he heW hA hB hG
              by_cases hpq : p = q
              · have hd : (p != q) = false := by simpa using hpq
                have Hpq := Lib.hid hpq
                clear hpq
                go_wp2_with fail
                go_roundw
                case rel =>
                  refine ⟨t + 1, by omega, by go_num, heX, heX2, fun s hs => ?_⟩
                  by_cases e : s = t
                  · subst e; rw [Hp.out, Hq.out]; exact Hpq.out
                  · exact hpre.out s (by omega)
                case measure => simp [intOf]; omega
              · have hd : (p != q) = true := by simpa using hpq
                have hdf := Lib.hid (difT_some hlt hpre.out (by rw [Hp.out, Hq.out]; exact hpq))
                clear hpq
                go_wp2_with fail
                go_ret2
                refine ⟨?_, heX⟩
                unfold difV
                rw [hdf.out]; rfl
          · have hdf : Hid (difT a b = none) := difT_none.2 fun s hs => hpre.out s (by omega)
            go_wp2_with fail
            go_ret2
            refine ⟨?_, he⟩
            unfold difV
            rw [hdf.out]; rfl
end Go.Proofs.Pet
