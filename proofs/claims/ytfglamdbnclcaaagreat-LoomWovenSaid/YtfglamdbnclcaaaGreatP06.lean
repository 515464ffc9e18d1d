/-
  Contracts of functions, each proved once.
-/
import Derived.Test.YtfglamdbnclcaaaGreatP05
namespace Go.Proofs.Pet
open Go Go.RowKit Go.Maps Go.Shelf
attribute [local go_sem] Oper.semAt_some

theorem least_any (n : Int) (A : Option Addr) (c L : Nat) (xs : List Int) (hL : xs.length = L) (r : Int) (hr : xs.foldl min n = r) (w : World) (hb : xs.length ≤ maxLen) (hx : IntsAt w A xs) :
    Calls Tryz.prog 91 #[.int .i64 n, .slice A L c] w fun e w' => e = .returned (.int .i64 r) ∧ w = w' := by
  subst hL
  unfold maxLen at hb
  have Hr := Lib.hid hr; clear hr
  go_enter Tryz.func91, Tryz.ntmps91
  go_wp2
  go_loopw [0, 6, 9] (fun a _ i wr => ∃ (k : Nat) (x : Int), k ≤ xs.length ∧ a = .int .i64 x ∧ i = .int .i64 k ∧ Hid ((xs.take k).foldl min n = x) ∧ w = wr) (fun _ _ i _ => xs.length - (intOf i).toNat)
  case atStart => exact ⟨0, n, by omega, rfl, rfl, rfl, rfl⟩
  case round =>
    obtain ⟨k, x, hk, rfl, rfl, hm, rfl⟩ := hrel
    by_cases hlt : k < xs.length
    · obtain ⟨b, o, rfl, h1⟩ := hx k hlt
      have hmin : Hid ((xs.take (k + 1)).foldl min n = min x (xs[k]?.getD 0)) := by
        unfold Hid
        rw [List.take_add_one, List.foldl_append, hm.out]
        simp [hlt]
      generalize xs[k]?.getD 0 = y at *
      go_wp2
      go_roundw
      case rel => exact ⟨k + 1, min x y, by omega, by rw [Int.min_def]; by_cases h : x ≤ y <;> simp [h]; omega, by go_num, hmin.out, trivial⟩
      case measure => simp [intOf]; omega
    · obtain rfl : k = xs.length := by omega
      have hq := hm.out
      rw [List.take_length, Hr.out] at hq
      subst hq
      go_wp2
      go_ret
      exact ⟨rfl, rfl⟩
def chg (a b : Int) : Int := if a = b then 0 else 1
def Mill.pat (m : Mill) (k : Nat) : Int := (m.orders[k]?.getD default).pattern
theorem changed_r (a b n : Int) (hn : chg a b = n) (w : World) :
    Calls Tryz.prog 147 #[.int .i64 a, .int .i64 b] w fun e w' => e = .returned (.int .i64 n) ∧ w = w' := by
  subst hn; exact changed_any a b w
/-- the fewest changes after another order, by numbers of the rest -/
def stepL (m : Mill) (num : Nat → Nat → Int) (rest order : Nat) (l : List Nat) : Int :=
  l.foldl (fun n x => if num rest x = 99 then n else min n (num rest x + chg (m.pat x) (m.pat order))) 99
def stepN (m : Mill) (num : Nat → Nat → Int) (loom rest order : Nat) : Int :=
  if rest = 0 then chg (m.laced[loom]?.getD 0) (m.pat order) else stepL m num rest order (bits m.orders.length rest)
def stepS (m : Mill) (num : Nat → Nat → Int) (loom set order : Nat) : Int :=
  if m.weaves loom order = false then 99
  else
    let n := stepN m num loom (sdiff set (2 ^ order)) order
    if 99 ≤ n then 99 else if (m.orders[order]?.getD default).by_ < daysOf m m.orders.length set + m.change * n then 99 else n

theorem stepL_snoc (m : Mill) (num : Nat → Nat → Int) (rest order : Nat) (l : List Nat) (x : Nat) :
    stepL m num rest order (l ++ [x]) = if num rest x = 99 then stepL m num rest order l else min (stepL m num rest order l) (num rest x + chg (m.pat x) (m.pat order)) := by
  unfold stepL; rw [List.foldl_append]; rfl
theorem chg_bd (a b : Int) : 0 ≤ chg a b ∧ chg a b ≤ 1 := by unfold chg; split <;> omega
theorem stepL_bd (m : Mill) (num : Nat → Nat → Int) (rest order : Nat) (h : ∀ x, 0 ≤ num rest x ∧ num rest x ≤ 99) (l : List Nat) : 0 ≤ stepL m num rest order l ∧ stepL m num rest order l ≤ 99 := by
  suffices ∀ a : Int, 0 ≤ a ∧ a ≤ 99 → 0 ≤ l.foldl (fun n x => if num rest x = 99 then n else min n (num rest x + chg (m.pat x) (m.pat order))) a ∧ l.foldl (fun n x => if num rest x = 99 then n else min n (num rest x + chg (m.pat x) (m.pat order))) a ≤ 99 from this 99 (by omega)
  induction l with
  | nil => intro a ha; exact ha
  | cons x l ih =>
    intro a ha
    refine ih _ ?_
    have h1 := h x
    have h2 := chg_bd (m.pat x) (m.pat order)
    dsimp only
    split <;> omega
theorem bitsS_mem_lt {s n : Nat} (hs : s < 2 ^ n) (x : In s) : x.1 < n := by
  rcases Nat.lt_or_ge x.1 n with h | h
  · exact h
  · have := Nat.testBit_lt_two_pow (Nat.lt_of_lt_of_le hs (Nat.pow_le_pow_right (by omega) h))
    rw [x.2] at this; cases this

/-- a function value that gives numbers for the rest of a set -/
def Gives (P : Program) (w : World) (g : Nat) (lb : Array Value) (num : Nat → Nat → Int) (rest n : Nat) : Prop :=
  ∀ W, Ext w W → ∀ x, x < n → rest.testBit x = true → Calls P g (#[.int .i64 (rest : Int), .int .i64 (x : Int)] ++ lb) W fun e W' => e = .returned (.int .i64 (num rest x)) ∧ Ext W W'

def stepR1 (D o L : Nat) (A1 _A2 : Option Addr) (c1 _c2 : Nat) (_ch : Value) (m : Mill) (loom : Nat) (p lc n : Int) : Nat → Value → World → Prop
  | 0 => fun v _ => v = .pointer (some ⟨D, 0, none⟩)
  | 1 => fun v _ => v = .pointer (some ⟨D, 0, none⟩)
  | 2 => fun v _ => v = .pointer (some ⟨D, 0, none⟩)
  | 3 => fun v _ => v = .pointer (some ⟨D, 0, none⟩)
  | 4 => fun v _ => v = .slice A1 m.laced.length c1
  | 5 => fun v _ => v = .int .i64 loom
  | 6 => fun v _ => ∃ b q, A1 = some ⟨b, q, none⟩ ∧ v = .pointer (some ⟨b, q + loom, none⟩)
  | 7 => fun v _ => v = .int .i64 lc
  | 8 => fun v _ => v = .pointer (some ⟨o, 0, none⟩)
  | 9 => fun v _ => v = .int .i64 p
  | 10 => fun v _ => v = .int .i64 n
  | 11 => fun v W => ∃ g, v = .pointer (some ⟨g, 0, none⟩) ∧ L ≤ g ∧ Blk W g 3 #[.int .i64 0]
  | _ => fun _ _ => True
theorem stepR1.ext {D o L : Nat} {A1 A2 : Option Addr} {c1 c2 : Nat} {ch : Value} {m : Mill} {loom : Nat} {p lc n : Int} {w w' : World} (he : Ext w w') (j : Nat) (u : Value) (h : stepR1 D o L A1 A2 c1 c2 ch m loom p lc n j u w) : stepR1 D o L A1 A2 c1 c2 ch m loom p lc n j u w' := by
  match j, h with
  | 0, h | 1, h | 2, h | 3, h | 4, h | 5, h | 6, h | 7, h | 8, h | 9, h | 10, h => exact h
  | 11, ⟨g, h1, h2, h3⟩ => exact ⟨g, h1, h2, h3.ext he⟩
  | _ + 12, h => trivial

def stepR2 (D O b o : Nat) (A2 : Value) (last : Nat) (acc kv pl p ch sum res : Int) : Nat → Value → World → Prop
  | 0 => fun v _ => v = .int .i64 acc
  | 1 => fun v _ => v = .int .i64 kv
  | 2 => fun v _ => v = .pointer (some ⟨D, 0, none⟩)
  | 3 => fun v _ => v = .pointer (some ⟨D, 0, none⟩)
  | 4 => fun v _ => v = .pointer (some ⟨D, 0, none⟩)
  | 5 => fun v _ => v = .pointer (some ⟨D, 2, none⟩)
  | 6 => fun v _ => v = A2
  | 7 => fun v _ => v = .int .i64 last
  | 8 => fun v _ => v = .pointer (some ⟨b, o + last * 4, none⟩)
  | 9 => fun v _ => v = .pointer (some ⟨b, o + last * 4, none⟩)
  | 10 => fun v _ => v = .int .i64 pl
  | 11 => fun v _ => v = .pointer (some ⟨O, 0, none⟩)
  | 12 => fun v _ => v = .int .i64 p
  | 13 => fun v _ => v = .int .i64 ch
  | 14 => fun v _ => v = .int .i64 sum
  | 15 => fun v W => ∃ g, v = .slice (some ⟨g, 0, none⟩) 1 1 ∧ Blk W g 3 #[.int .i64 sum]
  | 16 => fun v _ => v = .int .i64 res
  | _ => fun _ _ => True
theorem stepR2.ext {D O b o : Nat} {A2 : Value} {last : Nat} {acc kv pl p ch sum res : Int} {w w' : World} (he : Ext w w') (j : Nat) (u : Value) (h : stepR2 D O b o A2 last acc kv pl p ch sum res j u w) : stepR2 D O b o A2 last acc kv pl p ch sum res j u w' := by
  match j, h with
  | 0, h | 1, h | 2, h | 3, h | 4, h | 5, h | 6, h | 7, h | 8, h | 9, h | 10, h | 11, h | 12, h | 13, h | 14, h | 16, h => exact h
  | 15, ⟨g, h1, h2⟩ => exact ⟨g, h1, h2.ext he⟩
  | _ + 17, h => trivial

set_option maxRecDepth 100000 in
set_option maxHeartbeats 2000000 in
theorem step_any (D : Nat) (m : Mill) (hch : checkE m = 0) (loom set order : Nat) (hl : loom < m.laced.length) (ho : order < m.orders.length) (hs : set < 2 ^ m.orders.length) (_hso : set.testBit order = true)
    (g : Nat) (lb : Array Value) (num : Nat → Nat → Int) (hnum : ∀ x, 0 ≤ num (sdiff set (2 ^ order)) x ∧ num (sdiff set (2 ^ order)) x ≤ 99) (eg : Enters Tryz.prog g) (w : World) (hD : Desk w D m)
    (hg : Gives Tryz.prog w g lb num (sdiff set (2 ^ order)) m.orders.length) :
    Calls Tryz.prog 99 #[.pointer (some ⟨D, 0, none⟩), .int .i64 loom, .int .i64 set, .int .i64 order, .func (.func g) #[] lb] w fun e w' => e = .returned (.int .i64 (stepS m num loom set order)) ∧ Ext w w' := by
  obtain ⟨r, hr⟩ : ∃ r, stepS m num loom set order = r := ⟨_, rfl⟩
  rw [hr]
  have Hr := Lib.hid hr; clear hr
  obtain ⟨l1, l2, l3⟩ := check_len hch
  have hcg := (check_orders hch).2
  have hdd := daysOf_bd hch m.orders.length set (Nat.le_refl _)
  have Hord := Lib.hid ((check_orders hch).1 (m.orders[order]?.getD default) (by simp [ho]))
  obtain ⟨A1, c1, A2, c2, M, cnt, hb, h2, h3, h4, h5, h6, h7, h8, h9⟩ := hD
  have hs7 : set < 128 := by
    have h1 : 2 ^ m.orders.length ≤ 2 ^ 7 := Nat.pow_le_pow_right (by omega) l3
    have h2 : (2 : Nat) ^ 7 = 128 := by decide
    omega
  refine (callsIn_wide (n := 5)).1 ?_
  refine callsIn_of_wp_marks Tryz.func99 rfl trivial ?_ rfl
  simp only [Tryz.ntmps99, List.size_toArray, List.length_nil, Nat.reduceSub, Array.replicate_succ, Array.replicate_zero, List.push_toArray, List.append_toArray, List.nil_append, List.cons_append, List.length_cons, Nat.reduceAdd]
  refine wpIn_wide.2 ?_
  have hE := (Ext.alloc w (.cells #[.pointer (some ⟨D, 0, none⟩)] 75)).trans (Ext.alloc _ (.cells #[.func (.func g) #[] lb] 63))
  have b0 := (Blk.new w 75 #[.pointer (some ⟨D, 0, none⟩)]).alloc (.cells #[.func (.func g) #[] lb] 63)
  have b1 := Blk.new (w.alloc (.cells #[.pointer (some ⟨D, 0, none⟩)] 75)) 63 #[.func (.func g) #[] lb]
  rw [World.size_alloc] at b1
  have hb' := hb.ext hE
  have Hv : Hid (MillVal w (.agg #[.slice A1 m.laced.length c1, .int .i64 m.change, .slice A2 m.orders.length c2]) m) := ⟨A1, c1, A2, c2, rfl, h2, h3, h4, h5, h6, h7⟩
  have H6 := Lib.hid h6; have H7 := Lib.hid h7; have H9 := Lib.hid h9; clear h6 h7 h9
  obtain ⟨k0, k1, k2, k3⟩ := hb'.c4
  have e0 := b0.c1
  have e1 := b1.c1
  go_wp2_with fail
  obtain ⟨q, hq⟩ : ∃ q, ((m.orders[order]?.getD default).on).contains (loom : Int) = q := ⟨_, rfl⟩
  refine (weaves_any _ m loom order ho q hq _ (Hv.out.ext hE)).mono ?_
  rintro e w1 ⟨rfl, he1⟩
  have hE1 := hE.trans he1
  have c0 := b0.ext he1
  have c1' := b1.ext he1
  have cb := hb'.ext he1
  have hsz1 : w.heap.size + 2 ≤ w1.heap.size := by have := c1'.lt; omega
  clear hb' b0 b1 he1 hE k0 k1 k2 k3 e0 e1
  cases q with
  | false =>
    obtain rfl : r = 99 := by rw [← Hr.out]; unfold stepS Mill.weaves; rw [hq]; simp
    have Hq := Lib.hid hq; clear hq
    go_wp2
    exact ⟨_, results_tmp rfl _ _ _, rfl, hE1⟩
  | true =>
    have Hres : Hid (r = let n := stepN m num loom (sdiff set (2 ^ order)) order
      if 99 ≤ n then 99 else if (m.orders[order]?.getD default).by_ < daysOf m m.orders.length set + m.change * n then 99 else n) := by
      unfold Hid
      rw [← Hr.out]
      unfold stepS Mill.weaves
      rw [hq, if_neg (by simp)]
    have Hq := Lib.hid hq; clear hq
    obtain ⟨b, o, rfl, A, ca, hca, q1, q2, q3, q4, q5⟩ := H7.out.ext hE1 order ho
    obtain ⟨lo, q, rfl, j1⟩ := H6.out.ext hE1 loom hl
    generalize hx0 : m.orders[order]?.getD default = x0 at *
    generalize hlc : m.laced[loom]?.getD 0 = lc at *
    have Hx0 := Lib.hid hx0; clear hx0
    have Hlc := Lib.hid hlc; clear hlc
    have e0 := c0.c1
    obtain ⟨k0, k1, k2, k3⟩ := cb.c4
    go_wp2_with fail
    have hX := Ext.alloc w1 (.cells #[.int .i64 x0.pattern, .int .i64 x0.days, .int .i64 x0.by_, .slice A x0.on.length ca] 28)
    have bo := Blk.new w1 28 #[.int .i64 x0.pattern, .int .i64 x0.days, .int .i64 x0.by_, .slice A x0.on.length ca]
    have hE2 := hE1.trans hX
    have cb2 := cb.ext hX
    have c02 := c0.ext hX
    have c12 := c1'.ext hX
    have j2 := hX.cell j1
    have hsz2 : w1.heap.size + 1 ≤ (w1.alloc (.cells #[.int .i64 x0.pattern, .int .i64 x0.days, .int .i64 x0.by_, .slice A x0.on.length ca] 28)).heap.size := by simp
    clear hX hE1 cb c0 c1' j1 k0 k1 k2 k3 e0 q1 q2 q3 q4 q5
    generalize w1.alloc _ = W2 at *
    generalize w1.heap.size = O at *
    obtain ⟨n0, hn0⟩ : ∃ n0, chg lc x0.pattern = n0 := ⟨_, rfl⟩
    have Hn0 := Lib.hid hn0; clear hn0
    refine wp_region_facts 12 (by kernel_rfl) (by kernel_rfl) (fun W => Ext W2 W) (stepR1 D O W2.heap.size (some ⟨lo, q, none⟩) (some ⟨b, o, none⟩) c1 c2 (.int .i64 m.change) m loom x0.pattern lc n0) (Ext.drew _) ?_ ?_
    · simp only [List.take, AllOps, fill, Act.put, List.setIfInBounds_toArray, List.set_cons_zero, List.set_cons_succ, Nat.reduceAdd, Deps, and_true]
      refine ⟨?_, ?_, ?_, ?_, ?_, ?_, ?_, ?_, ?_, ?_, ?_, ?_⟩
      all_goals
        intro x W hG hd K Q hK
        try (simp only [stepR1] at hd; simp only [hd] at hK ⊢)
        obtain ⟨k0, k1, k2, k3⟩ := (cb2.ext hG).c4
        have e0 := (c02.ext hG).c1
        have jj := hG.cell j2
        obtain ⟨o0, o1, o2, o3⟩ := (bo.ext hG).c4
      · have HK := Lib.hid hK; clear hK; go_wp2; exact HK.out _ _ rfl hG (fun _ _ h => h)
      · have HK := Lib.hid hK; clear hK; go_wp2; exact HK.out _ _ rfl hG (fun _ _ h => h)
      · have HK := Lib.hid hK; clear hK; go_wp2; exact HK.out _ _ rfl hG (fun _ _ h => h)
      · have HK := Lib.hid hK; clear hK; go_wp2; exact HK.out _ _ rfl hG (fun _ _ h => h)
      · have HK := Lib.hid hK; clear hK; go_wp2; exact HK.out _ _ rfl hG (fun _ _ h => h)
      · have HK := Lib.hid hK; clear hK; go_wp2; exact HK.out _ _ rfl hG (fun _ _ h => h)
      · have HK := Lib.hid hK; clear hK; go_wp2; exact HK.out _ _ ⟨_, _, rfl, rfl⟩ hG (fun _ _ h => h)
      · obtain ⟨b', q', hbq, hx6⟩ := hd
        cases hbq
        simp only [hx6] at hK ⊢
        have HK := Lib.hid hK; clear hK; go_wp2; exact HK.out _ _ rfl hG (fun _ _ h => h)
      · have HK := Lib.hid hK; clear hK; go_wp2; exact HK.out _ _ rfl hG (fun _ _ h => h)
      · have HK := Lib.hid hK; clear hK; go_wp2; exact HK.out _ _ rfl hG (fun _ _ h => h)
      · have HK := Lib.hid hK; clear hK
        go_wp2_with fail
        refine (changed_r lc x0.pattern n0 Hn0.out W).mono ?_
        rintro e w' ⟨rfl, rfl⟩
        go_wp2
        exact HK.out _ _ rfl hG (fun _ _ h => h)
      · have HK := Lib.hid hK; clear hK; go_wp2; exact HK.out _ _ ⟨_, rfl, hG.size, Blk.new _ _ _⟩ (hG.trans (Ext.alloc _ _)) (stepR1.ext (Ext.alloc _ _))
    · intro x W3 hG hR
      simp only [AllR, stepR1, true_and] at hR
      obtain ⟨⟨⟨⟨⟨⟨⟨⟨⟨⟨⟨r0, r1⟩, r2⟩, r3⟩, r4⟩, r5⟩, r6⟩, r7⟩, r8⟩, r9⟩, r10⟩, p, r11, hpo, bp⟩ := hR
      simp only [List.take, List.drop, fill, Act.put, List.setIfInBounds_toArray, List.set_cons_zero, List.set_cons_succ, Nat.reduceAdd, r0, r1, r2, r3, r4, r5, r7, r8, r9, r10, r11]
      clear r0 r1 r2 r3 r4 r5 r7 r8 r9 r10 r11 r6
      generalize x 6 = x6
      have f0 := bp.frozen 0
      have u0 := bp.c1
      have hpl := bp.lt
      have hp64 : 2 ^ order ≤ 128 := by
        have h1 : 2 ^ order ≤ 2 ^ 7 := Nat.pow_le_pow_right (by omega) (by omega)
        have h2 : (2 : Nat) ^ 7 = 128 := by decide
        omega
      have hrest : Go.bits .andNot .i64 (set : Int) (wrap64 (2 ^ order)) = ((sdiff set (2 ^ order) : Nat) : Int) := by rw [wrap64_pow' order (by omega), andNot64 set (2 ^ order) (by omega) (by omega)]
      have hRle := sdiff_le set (2 ^ order)
      generalize sdiff set (2 ^ order) = R at *
      have hcut := bp.set_ 0 (.int .i64 n0)
      have hX3 : Ext W2 (W3.setCell ⟨p, 0, none⟩ (.int .i64 n0)) := Below.setCell hG (by show _ ≤ p; omega) _
      obtain ⟨q0, hq0⟩ : ∃ q, decide (R = 0) = q := ⟨_, rfl⟩
      cases q0
      case' true =>
        have hR0 : R = 0 := by simpa using hq0
        have hz : (Go.bits .andNot .i64 (set : Int) (wrap64 (2 ^ order)) != 0) = false := by rw [hrest, hR0]; rfl
        have hres2 : Hid (stepN m num loom R order = n0) := by unfold Hid stepN; rw [if_pos hR0, Hlc.out, Mill.pat, Hx0.out]; exact Hn0.out
        have Hrest := Lib.hid hrest; clear hrest
        go_wp2_with fail
        rw [Hrest.out]
        have hbp : Blk ((W3.setCell ⟨p, 0, none⟩ (.int .i64 n0)).alloc (.cells #[.int .i64 (R : Int)] 3)) p 3 #[.int .i64 n0] := hcut.alloc _
        have hXW := hX3.trans (Ext.alloc _ (.cells #[.int .i64 (R : Int)] 3))
        clear hz hq0 hR0 hcut hX3 Hrest bp hG f0 u0 hpl
        generalize (W3.setCell _ _).alloc _ = W at *
        obtain ⟨n1, hn1⟩ : ∃ n1, n1 = n0 := ⟨_, rfl⟩
        rw [← hn1] at hbp hres2
        clear hn1 Hn0
      case' false =>
        have hR0 : R ≠ 0 := by simpa using hq0
        have hz : (Go.bits .andNot .i64 (set : Int) (wrap64 (2 ^ order)) != 0) = true := by rw [hrest]; simp; omega
        have Hrest := Lib.hid hrest; clear hrest
        go_wp2_with fail
        rw [Hrest.out]
        have hbp : Blk (((W3.setCell ⟨p, 0, none⟩ (.int .i64 n0)).setCell ⟨p, 0, none⟩ (.int .i64 99)).alloc (.cells #[.int .i64 (R : Int)] 3)) p 3 #[.int .i64 99] := (hcut.set_ 0 (.int .i64 99)).alloc _
        have hbr := Blk.new ((W3.setCell ⟨p, 0, none⟩ (.int .i64 n0)).setCell ⟨p, 0, none⟩ (.int .i64 99)) 3 #[.int .i64 (R : Int)]
        have hX4 : Ext W2 ((W3.setCell ⟨p, 0, none⟩ (.int .i64 n0)).setCell ⟨p, 0, none⟩ (.int .i64 99)) := Below.setCell hX3 (by show _ ≤ p; omega) _
        have hXW := hX4.trans (Ext.alloc _ (.cells #[.int .i64 (R : Int)] 3))
        clear hX4
        rw [World.size_setCell, World.size_setCell] at hbr
        have hpr : p < W3.heap.size := hpl
        clear hz hq0 hcut hX3 Hrest bp hG f0 u0 hpl Hn0
        generalize ((W3.setCell _ _).setCell _ _).alloc _ = W4 at *
        generalize W3.heap.size = rho at *
        obtain ⟨k0, k1, k2, k3⟩ := (cb2.ext hXW).c4
        have e0 := (c02.ext hXW).c1
        have v0 := hbr.c1
        set_option maxRecDepth 20000 in
        go_still_tail 5, (by kernel_rfl)
        change wpList _ _ _ _ _ W4.drew
        go_wp2_with fail
        refine (lacking_any _ m R _ (Hv.out.ext (hE2.trans (hXW.trans (Ext.drew _))))).mono ?_
        rintro e W5 ⟨rfl, he5, ⟨a1, a2, a3, B1⟩, B2⟩
        have hXW5 := hXW.trans ((Ext.drew _).trans he5)
        have hbp5 := hbp.ext ((Ext.drew _).trans he5)
        have hbr5 := hbr.ext ((Ext.drew _).trans he5)
        have hpL : p < W4.drew.heap.size := hbp.lt
        have hrL : rho < W4.drew.heap.size := hbr.lt
        clear hXW he5 hbp hbr k0 k1 k2 k3 e0 v0
        generalize W4.drew.heap.size = L at *
        have hR7 : R ≤ 1048576 := by omega
        have hRn : R < 2 ^ m.orders.length := Nat.lt_of_le_of_lt hRle hs
        go_wp2_with fail
        apply wp_lacking (show m.orders.length ≤ 20 by omega) hR7 B1 B2 rfl rfl
          (fun pre W => W5.heap.size ≤ W.heap.size ∧ Ext W2 W ∧ Blk W p 3 #[.int .i64 (stepL m num R order (pre.map fun y : In R => y.1))] ∧ Blk W rho 3 #[.int .i64 (R : Int)])
          (fun _ _ _ => False)
          (fun pre W W' ⟨h0, h1, h2, h3⟩ hl => ⟨Nat.le_trans h0 hl.size, h1.loops hl hXW5.size, h2.loops hl, h3.loops hl⟩)
          (fun _ _ _ _ h _ => h) ⟨Nat.le_refl _, hXW5, hbp5, hbr5⟩
        case hassign =>
          intro l x W K hK
          simp only [encK]
          gi_wp2
          exact hK
        case hbody =>
          intro l pre x W ⟨i0, i1, i2, i3⟩
          have hL5 := B2.lt
          have hxn : x.1 < m.orders.length := bitsS_mem_lt hRn x
          have hcall := hg W (hE2.trans i1) x.1 hxn x.2
          obtain ⟨kv, hkv⟩ : ∃ kv, num R x.1 = kv := ⟨_, rfl⟩
          have hkb := hnum x.1
          have hab := stepL_bd m num R order hnum (pre.map fun y : In R => y.1)
          have hsn := Lib.hid (stepL_snoc m num R order (pre.map fun y : In R => y.1) x.1)
          rw [hkv] at hcall hkb hsn
          obtain ⟨acc, hacc⟩ : ∃ acc, stepL m num R order (pre.map fun y : In R => y.1) = acc := ⟨_, rfl⟩
          rw [hacc] at i2 hab hsn
          have Hacc := Lib.hid hacc; clear hacc
          have Hkv := Lib.hid hkv; clear hkv
          have Hcall := Lib.hid hcall; clear hcall
          obtain ⟨last, hlast⟩ : ∃ last, x.1 = last := ⟨_, rfl⟩
          rw [hlast] at hxn Hcall hsn
          have eg' := eg
          unfold Enters at eg'
          have u0 := i2.c1
          have u1 := i3.c1
          have u2 := (c12.ext i1).c1
          rw [hlast]
          by_cases h99 : kv = 99
          · have hd : (kv != 99) = false := by simp [h99]
            gi_wp2_with fail
            refine ⟨trivial, CallsIn.inRound l (callsIn_wide.2 (Hcall.out.mono ?_))⟩
            rintro e W6 ⟨rfl, he6⟩
            have H99 := Lib.hid h99; clear h99
            gi_wp2
            refine ⟨keepsFrom_ext he6, ⟨Below.block he6 _ (by omega), Below.block he6 _ (by omega)⟩, Nat.le_trans i0 he6.size, i1.trans he6, ?_, i3.ext he6⟩
            rw [List.map_append, List.map_singleton, hlast, hsn.out, if_pos H99.out]
            exact i2.ext he6
          · have hd : (kv != 99) = true := by simp [h99]
            gi_wp2_with fail
            refine ⟨trivial, CallsIn.inRound l (callsIn_wide.2 (Hcall.out.mono ?_))⟩
            rintro e W6 ⟨rfl, he6⟩
            have H99 := Lib.hid h99; clear h99
            gi_wp2_with fail
            have i6 := i1.trans he6
            obtain ⟨b', o', hbo, A', ca', hca', q1, q2, q3, q4, q5⟩ := H7.out.ext (hE2.trans i6) last hxn
            cases hbo
            have hpat : (m.orders[last]?.getD default).pattern = m.pat last := rfl
            rw [hpat] at q1
            have hpo2 : m.pat order = x0.pattern := by unfold Mill.pat; rw [Hx0.out]
            rw [hpo2] at hsn
            clear hpat hpo2 q2 q3 q4 q5 u0 u1 u2
            generalize m.pat last = pl at *
            obtain ⟨ch, hch'⟩ : ∃ ch, chg pl x0.pattern = ch := ⟨_, rfl⟩
            have hcb := chg_bd pl x0.pattern
            rw [hch'] at hcb hsn
            have Hch := Lib.hid hch'; clear hch'
            obtain ⟨sum, hsum⟩ : ∃ sum, kv + ch = sum := ⟨_, rfl⟩
            have hsb : 0 ≤ sum ∧ sum ≤ 100 := by omega
            rw [hsum] at hsn
            have Hsum := Lib.hid hsum; clear hsum
            obtain ⟨res, hres⟩ : ∃ res, min acc sum = res := ⟨_, rfl⟩
            rw [hres] at hsn
            have Hres2 := Lib.hid hres; clear hres
            have p6 := i2.ext he6
            refine wpIn_region_facts 17 (by kernel_rfl) (by kernel_rfl) (fun W' => Ext W6 W') (stepR2 D O b o (.slice (some ⟨b, o, none⟩) m.orders.length c2) last acc kv pl x0.pattern ch sum res) (Ext.drew _) ?_ ?_
            · simp only [List.take, AllOpsIn, fill, Act.put, List.setIfInBounds_toArray, List.set_cons_zero, List.set_cons_succ, Nat.reduceAdd, Deps, and_true]
              refine ⟨?_, ?_, ?_, ?_, ?_, ?_, ?_, ?_, ?_, ?_, ?_, ?_, ?_, ?_, ?_, ?_, ?_⟩
              all_goals
                intro x W hG hd K Q hK
                try (simp only [stepR2] at hd; simp only [hd] at hK ⊢)
                obtain ⟨k0, k1, k2, k3⟩ := (cb2.ext (i6.trans hG)).c4
                have e0 := (c02.ext (i6.trans hG)).c1
                have jj := hG.cell q1
                obtain ⟨o0, o1, o2, o3⟩ := (bo.ext (i6.trans hG)).c4
                have u0 := (p6.ext hG).c1
              · have HK := Lib.hid hK; clear hK; gi_wp2; exact HK.out _ _ rfl hG (fun _ _ h => h)
              · have HK := Lib.hid hK; clear hK; gi_wp2; exact HK.out _ _ rfl hG (fun _ _ h => h)
              · have HK := Lib.hid hK; clear hK; gi_wp2; exact HK.out _ _ rfl hG (fun _ _ h => h)
              · have HK := Lib.hid hK; clear hK; gi_wp2; exact HK.out _ _ rfl hG (fun _ _ h => h)
              · have HK := Lib.hid hK; clear hK; gi_wp2; exact HK.out _ _ rfl hG (fun _ _ h => h)
              · have HK := Lib.hid hK; clear hK; gi_wp2; exact HK.out _ _ rfl hG (fun _ _ h => h)
              · have HK := Lib.hid hK; clear hK; gi_wp2; exact HK.out _ _ rfl hG (fun _ _ h => h)
              · have HK := Lib.hid hK; clear hK; gi_wp2; exact HK.out _ _ rfl hG (fun _ _ h => h)
              · have HK := Lib.hid hK; clear hK; gi_wp2; exact HK.out _ _ rfl hG (fun _ _ h => h)
              · have HK := Lib.hid hK; clear hK; gi_wp2; exact HK.out _ _ rfl hG (fun _ _ h => h)
              · have HK := Lib.hid hK; clear hK; gi_wp2; exact HK.out _ _ rfl hG (fun _ _ h => h)
              · have HK := Lib.hid hK; clear hK; gi_wp2; exact HK.out _ _ rfl hG (fun _ _ h => h)
              · have HK := Lib.hid hK; clear hK; gi_wp2; exact HK.out _ _ rfl hG (fun _ _ h => h)
              · have HK := Lib.hid hK; clear hK
                gi_wp2_with fail
                refine ⟨trivial, CallsIn.inRound l (callsIn_wide.2 ((changed_r pl x0.pattern ch Hch.out W).mono ?_))⟩
                rintro e w' ⟨rfl, rfl⟩
                gi_wp2
                exact HK.out _ _ rfl hG (fun _ _ h => h)
              · have HK := Lib.hid hK; clear hK; gi_wp2; exact HK.out _ _ (congrArg (Value.int .i64) Hsum.out) hG (fun _ _ h => h)
              · have HK := Lib.hid hK; clear hK; gi_wp2; exact HK.out _ _ ⟨_, rfl, Blk.new _ _ _⟩ (hG.trans (Ext.alloc _ _)) (stepR2.ext (Ext.alloc _ _))
              · obtain ⟨d0, ⟨g', d15, bg⟩, d13⟩ := hd
                simp only [d15] at hK ⊢
                have HK := Lib.hid hK; clear hK
                have hI1 : IntsAt W (some ⟨g', 0, none⟩) [sum] := by
                  intro k hk
                  obtain rfl : k = 0 := by simpa using hk
                  exact ⟨g', 0, rfl, bg.c1⟩
                gi_wp2_with fail
                refine ⟨trivial, CallsIn.inRound l (callsIn_wide.2 ((least_any acc (some ⟨g', 0, none⟩) 1 1 [sum] rfl res (by simpa using Hres2.out) W (by simp [maxLen]) hI1).mono ?_))⟩
                rintro e w' ⟨rfl, rfl⟩
                gi_wp2
                exact HK.out _ _ rfl hG (fun _ _ h => h)
            · intro x W7 hG hR
              simp only [AllR, stepR2, true_and] at hR
              have r16 := hR.2
              replace hR := hR.1.1
              have r14 := hR.2
              replace hR := hR.1
              have r13 := hR.2
              replace hR := hR.1
              have r12 := hR.2
              replace hR := hR.1
              have r11 := hR.2
              replace hR := hR.1
              have r10 := hR.2
              replace hR := hR.1
              have r9 := hR.2
              replace hR := hR.1
              have r8 := hR.2
              replace hR := hR.1
              have r7 := hR.2
              replace hR := hR.1
              have r6 := hR.2
              replace hR := hR.1
              have r5 := hR.2
              replace hR := hR.1
              have r4 := hR.2
              replace hR := hR.1
              have r3 := hR.2
              replace hR := hR.1
              have r2 := hR.2
              replace hR := hR.1
              have r1 := hR.2
              replace hR := hR.1
              simp only [List.take, List.drop, fill, Act.put, List.setIfInBounds_toArray, List.set_cons_zero, List.set_cons_succ, Nat.reduceAdd, hR, r1, r2, r3, r4, r5, r6, r7, r8, r9, r10, r11, r12, r13, r14, r16]
              clear hR r1 r2 r3 r4 r5 r6 r7 r8 r9 r10 r11 r12 r13 r14 r16
              generalize x 15 = x15
              have p7 := p6.ext hG
              have u0 := p7.c1
              have u1 := p7.frozen 0
              gi_wp2
              have hY : Ext W6 (W7.setCell ⟨p, 0, none⟩ (.int .i64 res)) ∨ True := .inr trivial
              have h67 := he6.trans hG
              have hsz7 := h67.size
              refine ⟨(keepsFrom_ext h67).trans ((KeepsOthers.setCell _ _ _).from _), ⟨(Below.heap_setCell W7 _ _ L (by show L ≠ p; omega)).trans (Below.block h67 _ (by omega)), (Below.heap_setCell W7 _ _ (L + 1) (by show L + 1 ≠ p; omega)).trans (Below.block h67 _ (by omega))⟩, ?_, ?_, ?_, (i3.ext h67).far (by show rho ≠ p; omega) _⟩
              · rw [World.size_setCell]; omega
              · exact Below.setCell (i1.trans h67) (by show _ ≤ p; omega) _
              · rw [List.map_append, List.map_singleton, hlast, hsn.out, if_neg H99.out]
                exact p7.set_ 0 _
        case hstop => intro _ _ _ _ _ _ h _; exact h.elim
        case' hdone =>
          intro Dd W hDd ⟨i0, hXW, hbp, _⟩ hdef
          rw [bitsS_map] at hbp
          obtain ⟨n1, hn1⟩ : ∃ n1, n1 = stepL m num R order (bits m.orders.length R) := ⟨_, rfl⟩
          rw [← hn1] at hbp
          have hres2 : Hid (stepN m num loom R order = n1) := by unfold Hid stepN; rw [if_neg hR0, ← hn1]
          have hsz5 := hXW5.size
          have hDd2 : w.heap.size ≤ Dd := by have := hE2.size; omega
          clear hn1 hR0 hR7 hRn i0 hXW5 hbp5 hbr5 hpL hrL B1 B2
          go_wp2_with fail
      all_goals
        have cbW := cb2.ext hXW
        have e0 := (c02.ext hXW).c1
        obtain ⟨k0, k1, k2, k3⟩ := cbW.c4
        obtain ⟨o0, o1, o2, o3⟩ := (bo.ext hXW).c4
        have u0 := hbp.c1
        have hmap := H9.out.ext h8 (hE2.trans hXW)
        have hlook := fun nq : Nat => (hmap.ext hmap.lt (Ext.drewN W nq)).look set (by omega)
        simp only [hs, if_true] at hlook
        have hres3 := Hres.out
        rw [hres2.out] at hres3
        have hEr := hE2.trans hXW
        have hby := Hord.out.2.2
        have hnb : 0 ≤ n1 ∧ n1 ≤ 99 := by
          rw [← hres2.out]; unfold stepN
          split
          · have := chg_bd (m.laced[loom]?.getD 0) (m.pat order); omega
          · exact stepL_bd m num R order hnum _
        have HX := Lib.hid (And.intro hEr hbp)
        clear hEr hXW hbp hmap cbW hres2 Hres Hord c02 c12 cb2 bo hE2 j2
        generalize daysOf m m.orders.length set = dd at *
        generalize m.change = cg at *
        by_cases h99 : 99 ≤ n1
        · obtain rfl : r = 99 := by rw [hres3]; simp only [h99, if_true]
          clear hres3
          go_quiet (fail)
          go_wp2
          first
            | exact ⟨_, results_tmp rfl _ _ _, rfl, HX.out.1.trans (Ext.drewN _ _)⟩
            | exact ⟨by simp, .inl ⟨_, _, rfl, run_takeDeferred hdef, ⟨_, results_tmp rfl _ _ _, rfl, Below.grown (HX.out.1.trans (Ext.drewN _ _)) (grownBy_putObj' _ _ _) (HX.out.1.trans (Ext.drewN _ _)).size (fun j e => by cases e; omega)⟩⟩⟩
        · have h99' : decide (99 ≤ n1) = false := by simpa using h99
          simp only [h99, if_false] at hres3
          obtain ⟨pr, hpr⟩ : ∃ pr, cg * n1 = pr := ⟨_, rfl⟩
          rw [hpr] at hres3
          have hp0 : 0 ≤ pr := by rw [← hpr]; exact Int.mul_nonneg hcg.1 hnb.1
          have hp1 : pr ≤ 495 := by rw [← hpr]; exact Int.le_trans (Int.mul_le_mul hcg.2 hnb.2 hnb.1 (by omega)) (by omega)
          by_cases hlate : x0.by_ < dd + pr
          · obtain rfl : r = 99 := by rw [hres3, if_pos hlate]
            clear hres3
            go_quiet (fail)
            go_wp2
            first
              | exact ⟨_, results_tmp rfl _ _ _, rfl, HX.out.1.trans (Ext.drewN _ _)⟩
              | exact ⟨by simp, .inl ⟨_, _, rfl, run_takeDeferred hdef, ⟨_, results_tmp rfl _ _ _, rfl, Below.grown (HX.out.1.trans (Ext.drewN _ _)) (grownBy_putObj' _ _ _) (HX.out.1.trans (Ext.drewN _ _)).size (fun j e => by cases e; omega)⟩⟩⟩
          · obtain rfl : r = n1 := by rw [hres3, if_neg hlate]
            clear hres3
            go_quiet (fail)
            go_wp2
            first
              | exact ⟨_, results_tmp rfl _ _ _, rfl, HX.out.1.trans (Ext.drewN _ _)⟩
              | exact ⟨by simp, .inl ⟨_, _, rfl, run_takeDeferred hdef, ⟨_, results_tmp rfl _ _ _, rfl, Below.grown (HX.out.1.trans (Ext.drewN _ _)) (grownBy_putObj' _ _ _) (HX.out.1.trans (Ext.drewN _ _)).size (fun j e => by cases e; omega)⟩⟩⟩
end Go.Proofs.Pet
