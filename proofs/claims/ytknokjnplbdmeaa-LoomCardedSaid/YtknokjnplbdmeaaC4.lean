/-
  Chains of cards taken round: CheckChain, lift, Differ.
-/
import Derived.Test.YtknokjnplbdmeaaC3
import Derived.Deep.QuietTactic
import Derived.BigQuiet
namespace Go.Proofs.Pet
set_option linter.unusedSimpArgs false
open Go Go.RowKit Go.Maps Go.Shelf

/-- each operation of the head by the facts of those that it stands behind -/
def AllOpsB (P : Program) (ops : Array Oper) (G : World → Prop) (R : Nat → Value → World → Prop) (fr : (Nat → Value) → Act) : List Oper → Nat → Prop
  | [], _ => True
  | o :: l, k => (∀ (x : Nat → Value) (w : World), G w → Deps R x w (o.after.toList.filter (Region.binds .any)) → ∀ (K : Act → World → Prop) (Q : Exit → Act → World → Prop),
      (∀ v w', R k v w' → G w' → (∀ j u, R j u w → R j u w') → K ((fr x).put o.dst v) w') → wpList P ops (Exit.then K Q) [o] (fr x) w) ∧ AllOpsB P ops G R fr l (k + 1)
theorem AllOpsB.to2 {P : Program} {ops : Array Oper} {G : World → Prop} {R : Nat → Value → World → Prop} {fr : (Nat → Value) → Act} : ∀ (l : List Oper) (k : Nat), AllOpsB P ops G R fr l k → AllOps2 P ops G R (fun _ _ _ _ => True) fr l k
  | [], _, _ => trivial
  | _ :: l, k, h => ⟨fun _ x w hG _ hR _ _ hd K Q hK => h.1 x w hG hd K Q fun v w' hr hg hs => hK v w' hr hg fun j hj => ⟨hs j _ (hR j hj), .inl trivial⟩, AllOpsB.to2 l (k + 1) h.2⟩
theorem wp_region_factsB {P : Program} {id : Nat} {Q : Exit → Act → World → Prop} {a : Act} {w : World} {l : List Oper} (n : Nat) (hm : P.follows .mixedOrders = true) (hB : headB2 l n = true)
    (G : World → Prop) (R : Nat → Value → World → Prop) (hG : G w.drew)
    (hops : AllOpsB P l.toArray G R (fun x => fill (l.take n) 0 x a) (l.take n) 0)
    (hend : ∀ (x : Nat → Value) (w' : World), G w' → AllR R x w' n → wpList P l.toArray Q (l.drop n) (fill (l.take n) 0 x a) w') :
    (Code.region id l.toArray true).wp P Q a w :=
  wp_region_apart n hm hB G R (fun _ _ _ _ => True) hG (hops.to2 _ _) fun x w' h1 _ h3 => hend x w' h1 h3
/-- what operations leave, whatever the world -/
def valsR (l : List Value) (k : Nat) (v : Value) (_ : World) : Prop := v = l[k]?.getD undef
theorem moved_any (x : Int) (hx : 0 ≤ x ∧ x ≤ 1) (w : World) : Calls Try.prog 151 #[.int .i64 x, .int .i64 0, .int .i64 2] w fun e w' => e = .returned (.int .i64 x) ∧ Ext w w' := by
  obtain rfl | rfl : x = 0 ∨ x = 1 := by omega
  · go_enter Try.func151, Try.ntmps151
    go_wp2_with fail
    refine wp_region_chain 13 [] [] (by kernel_rfl) (by kernel_rfl) (by kernel_rfl) ?_
    simp only [List.take, List.drop, fill, Act.put, List.setIfInBounds_toArray, List.set_cons_zero, List.set_cons_succ, Nat.reduceAdd]
    repeat (first
      | refine Floats.mut rfl ?_
      | (apply Floats.float rfl
         · intro x W he hd K Q hK
           try (have he := he (by decide))
           try simp only [edges, DepsE, List.filter_cons, List.filter_nil, Region.binds, if_true, and_true, true_and, upd, Nat.reduceEqDiff, if_false] at hd
           try simp only [hd] at hK ⊢
           have HK := Lib.hid hK; clear hK
           go_wp2_with fail
           exact HK.out))
    refine Floats.done fun W he hG => ?_
    refine Chain.nil ?_
    simp only [upd, Nat.reduceEqDiff, if_false, if_true]
    go_wp2_with fail
    go_ret
    exact ⟨rfl, he⟩
  · go_enter Try.func151, Try.ntmps151
    go_wp2_with fail
    refine wp_region_chain 13 [] [] (by kernel_rfl) (by kernel_rfl) (by kernel_rfl) ?_
    simp only [List.take, List.drop, fill, Act.put, List.setIfInBounds_toArray, List.set_cons_zero, List.set_cons_succ, Nat.reduceAdd]
    repeat (first
      | refine Floats.mut rfl ?_
      | (apply Floats.float rfl
         · intro x W he hd K Q hK
           try (have he := he (by decide))
           try simp only [edges, DepsE, List.filter_cons, List.filter_nil, Region.binds, if_true, and_true, true_and, upd, Nat.reduceEqDiff, if_false] at hd
           try simp only [hd] at hK ⊢
           have HK := Lib.hid hK; clear hK
           go_wp2_with fail
           exact HK.out))
    refine Floats.done fun W he hG => ?_
    refine Chain.nil ?_
    simp only [upd, Nat.reduceEqDiff, if_false, if_true]
    go_wp2_with fail
    go_ret
    exact ⟨rfl, he⟩
set_option maxHeartbeats 1000000 in
theorem checkChain_any (v : Value) (cs : List Int) (hc : CardsOk cs) (w : World) (hv : ChainVal w v cs) : Calls Try.prog 116 #[v] w fun e w' => e = .returned (.int .i64 0) ∧ Ext w w' := by
  have hmf : ∀ (fn : Fn) (first cap : Array Value) (w : World), (Instr.makeFunc fn first cap).run Try.prog w = .ok (.func fn first cap) w := fun _ _ _ _ => rfl
  have Hv := Lib.hid hv
  obtain ⟨A, c, h1, h2, rfl, h4⟩ := hv
  obtain ⟨⟨g1, g2⟩, g3⟩ := hc
  have hX := Ext.alloc w (.cells #[.int .i64 2, .slice A cs.length c, .int .i64 0, .int .i64 0] 100)
  have hB := Blk.new w 100 #[.int .i64 2, .slice A cs.length c, .int .i64 0, .int .i64 0]
  have hev := Lib.hid (fun W (hW : Ext w W) (hB : W.cell? ⟨w.heap.size, 0, none⟩ = some (.int .i64 2)) => cardEvery 147 #[] #[.pointer (some ⟨w.heap.size, 0, none⟩)] (enters_of Try.func147 (by kernel_rfl) rfl) _ A c cs W (Nat.le_trans h1 h2) (h4.ext hW) (fun x _ => checkChain1 W w.heap.size (.int .i64 2) hB x))
  have hall : (cs.all fun x => inB x 0 3) = true := by
    rw [List.all_eq_true]
    intro x hx
    have := g3 x hx
    unfold inB; simp; omega
  rw [hall] at hev
  have H1 := Lib.hid (cardIn_any 2 1 8 true rfl)
  have H2 := Lib.hid (cardIn_any cs.length 1 48 true (by unfold inB; simp; omega))
  have H3 := Lib.hid (fun w => known_any w)
  obtain ⟨k0, k1, k2, k3⟩ := hB.c4
  clear hall h4 g3
  go_enter Try.func116, Try.ntmps116
  go_wp2_with fail
  refine (H1.out _).mono ?_
  rintro e w' ⟨rfl, rfl⟩
  go_wp2_with fail
  refine (H2.out _).mono ?_
  rintro e w' ⟨rfl, rfl⟩
  go_wp2_with fail
  refine (H3.out _).mono ?_
  rintro e w' ⟨rfl, rfl⟩
  go_wp2_with fail
  have hBl := Lib.hid hB
  have Hpl := Lib.hid (fun W (hW : Ext w W) => planC_any _ cs W (Hv.out.ext hW))
  have Hst := Lib.hid (fun W => stepped_any cs.length W)
  clear k0 k1 k2 k3
  obtain ⟨W0, hW0⟩ : ∃ W0, w.alloc (.cells #[.int .i64 2, .slice A cs.length c, .int .i64 0, .int .i64 0] 100) = W0 := ⟨_, rfl⟩
  rw [hW0] at hX hBl ⊢
  clear hW0 hB
  refine wp_region_facts 13 (by kernel_rfl) (by kernel_rfl) (fun W => Ext W0 W) (valsR [.pointer (some ⟨w.heap.size, 1, none⟩), .slice A cs.length c, .func (.func 147) #[] #[.pointer (some ⟨w.heap.size, 0, none⟩)], .bool true, .bool false, .bool false,
    .agg #[.int .i64 2, .slice A cs.length c, .int .i64 0, .int .i64 0], .agg #[.int .i64 0, .int .i64 cs.length, .int .i64 0], .pointer (some ⟨w.heap.size, 0, none⟩), .int .i64 2, .bool true, .bool false, .bool false]) (Ext.drew _) ?_ ?_
  · simp only [List.take, AllOps, fill, Act.put, List.setIfInBounds_toArray, List.set_cons_zero, List.set_cons_succ, Nat.reduceAdd, Deps, and_true]
    refine ⟨?_, ?_, ?_, ?_, ?_, ?_, ?_, ?_, ?_, ?_, ?_, ?_, ?_⟩
    all_goals
      intro x W hG hd K Q hK
      try (simp only [valsR, List.getElem?_cons_succ, List.getElem?_cons_zero, Option.getD_some] at hd; simp only [hd] at hK ⊢)
      obtain ⟨k0, k1, k2, k3⟩ := (hBl.out.ext hG).c4
      have HK := Lib.hid hK; clear hK
    case refine_4 =>
      go_wp2_with fail
      refine (hev.out _ (hX.trans hG) k0).mono ?_
      rintro e w' ⟨rfl, he⟩
      go_wp2
      exact HK.out _ _ rfl (hG.trans he) (fun _ _ h => h)
    case refine_8 =>
      go_wp2_with fail
      refine (Hpl.out _ (hX.trans hG)).mono ?_
      rintro e w' ⟨rfl, he⟩
      go_wp2
      exact HK.out _ _ rfl (hG.trans he) (fun _ _ h => h)
    case refine_11 =>
      go_wp2_with fail
      refine (Hst.out _).mono ?_
      rintro e w' ⟨rfl, he⟩
      go_wp2
      exact HK.out _ _ rfl (hG.trans he) (fun _ _ h => h)
    all_goals
      go_wp2
      exact HK.out _ _ rfl hG (fun _ _ h => h)
  · intro x W hG hR
    simp only [AllR, valsR, true_and, List.getElem?_cons_succ, List.getElem?_cons_zero, Option.getD_some] at hR
    obtain ⟨⟨⟨⟨⟨⟨⟨⟨⟨⟨⟨⟨r0, r1⟩, r2⟩, r3⟩, r4⟩, r5⟩, r6⟩, r7⟩, r8⟩, r9⟩, r10⟩, r11⟩, r12⟩ := hR
    simp only [List.take, List.drop, fill, Act.put, List.setIfInBounds_toArray, List.set_cons_zero, List.set_cons_succ, Nat.reduceAdd, r0, r1, r2, r3, r4, r5, r6, r7, r8, r9, r10, r11, r12]
    clear r0 r1 r2 r3 r4 r5 r6 r7 r8 r9 r10 r11 r12
    have hE := hX.trans hG
    go_wp2_with fail
    go_ret
    exact ⟨rfl, hE⟩
end Go.Proofs.Pet
