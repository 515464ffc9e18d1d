/- Joined texts: P06, P07. -/
import Derived.Test.YtlekonngbmkdbaaJ01
import Derived.Laws.CopyRow
import Derived.Laws.IdiomCopy
import Derived.Laws.CopyOwn
import Derived.Test.YtlekonngbmkdbaaP01
namespace Go.Proofs.Pet
open Go Go.RowKit Go.Maps Go.Shelf
attribute [local go_sem] Oper.semAt_some

theorem least_any (n : Int) (A : Option Addr) (c L : Nat) (xs : List Int) (hL : xs.length = L) (r : Int) (hr : xs.foldl min n = r) (w : World) (hb : xs.length ≤ maxLen) (hx : IntsAt w A xs) :
    Calls Try.prog 103 #[.int .i64 n, .slice A L c] w fun e w' => e = .returned (.int .i64 r) ∧ w = w' := by
  subst hL
  unfold maxLen at hb
  have Hr := Lib.hid hr; clear hr
  go_enter Try.func103, Try.ntmps103
  go_wp2
  go_loopw [0, 6, 9] (fun a _ i wr => ∃ (k : Nat) (x : Int), k ≤ xs.length ∧ a = .int .i64 x ∧ i = .int .i64 k ∧ Hid ((xs.take k).foldl min n = x) ∧ w = wr) (fun _ _ i _ => xs.length - (intOf i).toNat)
  case atStart => exact ⟨0, n, by omega, rfl, rfl, rfl, rfl⟩
  case round =>
    obtain ⟨k, x, hk, rfl, rfl, hm, rfl⟩ := hrel
    by_cases hlt : k < xs.length
    · obtain ⟨b, o, rfl, h1⟩ := hx k hlt
      have hmin : Hid ((xs.take (k + 1)).foldl min n = min x (xs[k]?.getD 0)) := by
        unfold Hid
        rw [List.take_add_one, List.foldl_append, hm.out]
        simp [hlt]
      generalize xs[k]?.getD 0 = y at *
      go_wp2
      go_roundw
      case rel => exact ⟨k + 1, min x y, by omega, by rw [Int.min_def]; by_cases h : x ≤ y <;> simp [h]; omega, by go_num, hmin.out, trivial⟩
      case measure => simp [intOf]; omega
    · obtain rfl : k = xs.length := by omega
      have hq := hm.out
      rw [List.take_length, Hr.out] at hq
      subst hq
      go_wp2
      go_ret
      exact ⟨rfl, rfl⟩
def chg (a b : Int) : Int := if a = b then 0 else 1
def Mill.pat (m : Mill) (k : Nat) : Int := (m.orders[k]?.getD default).pattern
theorem changed_r (a b n : Int) (hn : chg a b = n) (w : World) :
    Calls Try.prog 110 #[.int .i64 a, .int .i64 b] w fun e w' => e = .returned (.int .i64 n) ∧ w = w' := by
  subst hn; exact changed_any a b w
/-- the fewest changes after another order, by numbers of the rest -/
def stepL (m : Mill) (num : Nat → Nat → Int) (rest order : Nat) (l : List Nat) : Int :=
  l.foldl (fun n x => if num rest x = 99 then n else min n (num rest x + chg (m.pat x) (m.pat order))) 99
def stepN (m : Mill) (num : Nat → Nat → Int) (loom rest order : Nat) : Int :=
  if rest = 0 then chg (m.laced[loom]?.getD 0) (m.pat order) else stepL m num rest order (bits m.orders.length rest)
def stepS (m : Mill) (num : Nat → Nat → Int) (loom set order : Nat) : Int :=
  if m.weaves loom order = false then 99
  else
    let n := stepN m num loom (sdiff set (2 ^ order)) order
    if 99 ≤ n then 99 else if (m.orders[order]?.getD default).by_ < daysOf m m.orders.length set + m.change * n then 99 else n

theorem stepL_snoc (m : Mill) (num : Nat → Nat → Int) (rest order : Nat) (l : List Nat) (x : Nat) :
    stepL m num rest order (l ++ [x]) = if num rest x = 99 then stepL m num rest order l else min (stepL m num rest order l) (num rest x + chg (m.pat x) (m.pat order)) := by
  unfold stepL; rw [List.foldl_append]; rfl
theorem chg_bd (a b : Int) : 0 ≤ chg a b ∧ chg a b ≤ 1 := by unfold chg; split <;> omega
theorem stepL_bd (m : Mill) (num : Nat → Nat → Int) (rest order : Nat) (h : ∀ x, 0 ≤ num rest x ∧ num rest x ≤ 99) (l : List Nat) : 0 ≤ stepL m num rest order l ∧ stepL m num rest order l ≤ 99 := by
  suffices ∀ a : Int, 0 ≤ a ∧ a ≤ 99 → 0 ≤ l.foldl (fun n x => if num rest x = 99 then n else min n (num rest x + chg (m.pat x) (m.pat order))) a ∧ l.foldl (fun n x => if num rest x = 99 then n else min n (num rest x + chg (m.pat x) (m.pat order))) a ≤ 99 from this 99 (by omega)
  induction l with
  | nil => intro a ha; exact ha
  | cons x l ih =>
    intro a ha
    refine ih _ ?_
    have h1 := h x
    have h2 := chg_bd (m.pat x) (m.pat order)
    dsimp only
    split <;> omega
theorem bitsS_mem_lt {s n : Nat} (hs : s < 2 ^ n) (x : In s) : x.1 < n := by
  rcases Nat.lt_or_ge x.1 n with h | h
  · exact h
  · have := Nat.testBit_lt_two_pow (Nat.lt_of_lt_of_le hs (Nat.pow_le_pow_right (by omega) h))
    rw [x.2] at this; cases this

/-- a function value that gives numbers for the rest of a set -/
def Gives (P : Program) (w : World) (g : Nat) (lb : Array Value) (num : Nat → Nat → Int) (rest n : Nat) : Prop :=
  ∀ W, Ext w W → ∀ x, x < n → rest.testBit x = true → Calls P g (#[.int .i64 (rest : Int), .int .i64 (x : Int)] ++ lb) W fun e W' => e = .returned (.int .i64 (num rest x)) ∧ Ext W W'

def stepR1 (D o L : Nat) (A1 _A2 : Option Addr) (c1 _c2 : Nat) (_ch : Value) (m : Mill) (loom : Nat) (p lc n : Int) : Nat → Value → World → Prop
  | 0 => fun v _ => v = .pointer (some ⟨D, 0, none⟩)
  | 1 => fun v _ => v = .pointer (some ⟨D, 0, none⟩)
  | 2 => fun v _ => v = .pointer (some ⟨D, 0, none⟩)
  | 3 => fun v _ => v = .pointer (some ⟨D, 0, none⟩)
  | 4 => fun v _ => v = .slice A1 m.laced.length c1
  | 5 => fun v _ => v = .int .i64 loom
  | 6 => fun v _ => ∃ b q, A1 = some ⟨b, q, none⟩ ∧ v = .pointer (some ⟨b, q + loom, none⟩)
  | 7 => fun v _ => v = .int .i64 lc
  | 8 => fun v _ => v = .pointer (some ⟨o, 0, none⟩)
  | 9 => fun v _ => v = .int .i64 p
  | 10 => fun v _ => v = .int .i64 n
  | 11 => fun v W => ∃ g, v = .pointer (some ⟨g, 0, none⟩) ∧ L ≤ g ∧ Blk W g 3 #[.int .i64 0]
  | _ => fun _ _ => True
theorem stepR1.ext {D o L : Nat} {A1 A2 : Option Addr} {c1 c2 : Nat} {ch : Value} {m : Mill} {loom : Nat} {p lc n : Int} {w w' : World} (he : Ext w w') (j : Nat) (u : Value) (h : stepR1 D o L A1 A2 c1 c2 ch m loom p lc n j u w) : stepR1 D o L A1 A2 c1 c2 ch m loom p lc n j u w' := by
  match j, h with
  | 0, h | 1, h | 2, h | 3, h | 4, h | 5, h | 6, h | 7, h | 8, h | 9, h | 10, h => exact h
  | 11, ⟨g, h1, h2, h3⟩ => exact ⟨g, h1, h2, h3.ext he⟩
  | _ + 12, h => trivial

def stepR2 (D O b o : Nat) (A2 : Value) (last : Nat) (acc kv pl p ch sum res : Int) : Nat → Value → World → Prop
  | 0 => fun v _ => v = .int .i64 acc
  | 1 => fun v _ => v = .int .i64 kv
  | 2 => fun v _ => v = .pointer (some ⟨D, 0, none⟩)
  | 3 => fun v _ => v = .pointer (some ⟨D, 0, none⟩)
  | 4 => fun v _ => v = .pointer (some ⟨D, 0, none⟩)
  | 5 => fun v _ => v = .pointer (some ⟨D, 2, none⟩)
  | 6 => fun v _ => v = A2
  | 7 => fun v _ => v = .int .i64 last
  | 8 => fun v _ => v = .pointer (some ⟨b, o + last * 4, none⟩)
  | 9 => fun v _ => v = .pointer (some ⟨b, o + last * 4, none⟩)
  | 10 => fun v _ => v = .int .i64 pl
  | 11 => fun v _ => v = .pointer (some ⟨O, 0, none⟩)
  | 12 => fun v _ => v = .int .i64 p
  | 13 => fun v _ => v = .int .i64 ch
  | 14 => fun v _ => v = .int .i64 sum
  | 15 => fun v W => ∃ g, v = .slice (some ⟨g, 0, none⟩) 1 1 ∧ Blk W g 3 #[.int .i64 sum]
  | 16 => fun v _ => v = .int .i64 res
  | _ => fun _ _ => True
theorem stepR2.ext {D O b o : Nat} {A2 : Value} {last : Nat} {acc kv pl p ch sum res : Int} {w w' : World} (he : Ext w w') (j : Nat) (u : Value) (h : stepR2 D O b o A2 last acc kv pl p ch sum res j u w) : stepR2 D O b o A2 last acc kv pl p ch sum res j u w' := by
  match j, h with
  | 0, h | 1, h | 2, h | 3, h | 4, h | 5, h | 6, h | 7, h | 8, h | 9, h | 10, h | 11, h | 12, h | 13, h | 14, h | 16, h => exact h
  | 15, ⟨g, h1, h2⟩ => exact ⟨g, h1, h2.ext he⟩
  | _ + 17, h => trivial

set_option maxRecDepth 100000 in
set_option maxHeartbeats 2000000 in
theorem step_any (D : Nat) (m : Mill) (hch : checkE m = 0) (loom set order : Nat) (hl : loom < m.laced.length) (ho : order < m.orders.length) (hs : set < 2 ^ m.orders.length) (_hso : set.testBit order = true)
    (g : Nat) (lb : Array Value) (num : Nat → Nat → Int) (hnum : ∀ x, 0 ≤ num (sdiff set (2 ^ order)) x ∧ num (sdiff set (2 ^ order)) x ≤ 99) (eg : Enters Try.prog g) (w : World) (hD : Desk w D m)
    (hg : Gives Try.prog w g lb num (sdiff set (2 ^ order)) m.orders.length) :
    Calls Try.prog 100 #[.pointer (some ⟨D, 0, none⟩), .int .i64 loom, .int .i64 set, .int .i64 order, .func (.func g) #[] lb] w fun e w' => e = .returned (.int .i64 (stepS m num loom set order)) ∧ Ext w w' := by
  obtain ⟨r, hr⟩ : ∃ r, stepS m num loom set order = r := ⟨_, rfl⟩
  rw [hr]
  have Hr := Lib.hid hr; clear hr
  obtain ⟨l1, l2, l3⟩ := check_len hch
  have hcg := (check_orders hch).2
  have hdd := daysOf_bd hch m.orders.length set (Nat.le_refl _)
  have Hord := Lib.hid ((check_orders hch).1 (m.orders[order]?.getD default) (by simp [ho]))
  obtain ⟨A1, c1, A2, c2, M, cnt, hb, h2, h3, h4, h5, h6, h7, h8, h9⟩ := hD
  have hs7 : set < 128 := by
    have h1 : 2 ^ m.orders.length ≤ 2 ^ 7 := Nat.pow_le_pow_right (by omega) l3
    have h2 : (2 : Nat) ^ 7 = 128 := by decide
    omega
  refine (callsIn_wide (n := 5)).1 ?_
  refine callsIn_of_wp_marks Try.func100 rfl trivial ?_ rfl
  simp only [Try.ntmps100, List.size_toArray, List.length_nil, Nat.reduceSub, Array.replicate_succ, Array.replicate_zero, List.push_toArray, List.append_toArray, List.nil_append, List.cons_append, List.length_cons, Nat.reduceAdd]
  refine wpIn_wide.2 ?_
  have hE := (Ext.alloc w (.cells #[.pointer (some ⟨D, 0, none⟩)] 116)).trans (Ext.alloc _ (.cells #[.func (.func g) #[] lb] 61))
  have b0 := (Blk.new w 116 #[.pointer (some ⟨D, 0, none⟩)]).alloc (.cells #[.func (.func g) #[] lb] 61)
  have b1 := Blk.new (w.alloc (.cells #[.pointer (some ⟨D, 0, none⟩)] 116)) 61 #[.func (.func g) #[] lb]
  rw [World.size_alloc] at b1
  have hb' := hb.ext hE
  have Hv : Hid (MillVal w (.agg #[.slice A1 m.laced.length c1, .int .i64 m.change, .slice A2 m.orders.length c2]) m) := ⟨A1, c1, A2, c2, rfl, h2, h3, h4, h5, h6, h7⟩
  have H6 := Lib.hid h6; have H7 := Lib.hid h7; have H9 := Lib.hid h9; clear h6 h7 h9
  obtain ⟨k0, k1, k2, k3⟩ := hb'.c4
  have e0 := b0.c1
  have e1 := b1.c1
  go_wp2_with fail
  obtain ⟨q, hq⟩ : ∃ q, ((m.orders[order]?.getD default).on).contains (loom : Int) = q := ⟨_, rfl⟩
  refine (weaves_any _ m loom order ho q hq _ (Hv.out.ext hE)).mono ?_
  rintro e w1 ⟨rfl, he1⟩
  have hE1 := hE.trans he1
  have c0 := b0.ext he1
  have c1' := b1.ext he1
  have cb := hb'.ext he1
  have hsz1 : w.heap.size + 2 ≤ w1.heap.size := by have := c1'.lt; omega
  clear hb' b0 b1 he1 hE k0 k1 k2 k3 e0 e1
  cases q with
  | false =>
    obtain rfl : r = 99 := by rw [← Hr.out]; unfold stepS Mill.weaves; rw [hq]; simp
    have Hq := Lib.hid hq; clear hq
    go_wp2
    exact ⟨_, results_tmp rfl _ _ _, rfl, hE1⟩
  | true =>
    have Hres : Hid (r = let n := stepN m num loom (sdiff set (2 ^ order)) order
      if 99 ≤ n then 99 else if (m.orders[order]?.getD default).by_ < daysOf m m.orders.length set + m.change * n then 99 else n) := by
      unfold Hid
      rw [← Hr.out]
      unfold stepS Mill.weaves
      rw [hq, if_neg (by simp)]
    have Hq := Lib.hid hq; clear hq
    obtain ⟨b, o, rfl, A, ca, hca, q1, q2, q3, q4, q5⟩ := H7.out.ext hE1 order ho
    obtain ⟨lo, q, rfl, j1⟩ := H6.out.ext hE1 loom hl
    generalize hx0 : m.orders[order]?.getD default = x0 at *
    generalize hlc : m.laced[loom]?.getD 0 = lc at *
    have Hx0 := Lib.hid hx0; clear hx0
    have Hlc := Lib.hid hlc; clear hlc
    have e0 := c0.c1
    obtain ⟨k0, k1, k2, k3⟩ := cb.c4
    go_wp2_with fail
    have hX := Ext.alloc w1 (.cells #[.int .i64 x0.pattern, .int .i64 x0.days, .int .i64 x0.by_, .slice A x0.on.length ca] 107)
    have bo := Blk.new w1 107 #[.int .i64 x0.pattern, .int .i64 x0.days, .int .i64 x0.by_, .slice A x0.on.length ca]
    have hE2 := hE1.trans hX
    have cb2 := cb.ext hX
    have c02 := c0.ext hX
    have c12 := c1'.ext hX
    have j2 := hX.cell j1
    have hsz2 : w1.heap.size + 1 ≤ (w1.alloc (.cells #[.int .i64 x0.pattern, .int .i64 x0.days, .int .i64 x0.by_, .slice A x0.on.length ca] 107)).heap.size := by simp
    clear hX hE1 cb c0 c1' j1 k0 k1 k2 k3 e0 q1 q2 q3 q4 q5
    generalize w1.alloc _ = W2 at *
    generalize w1.heap.size = O at *
    obtain ⟨n0, hn0⟩ : ∃ n0, chg lc x0.pattern = n0 := ⟨_, rfl⟩
    have Hn0 := Lib.hid hn0; clear hn0
    refine wp_region_facts 12 (by kernel_rfl) (by kernel_rfl) (fun W => Ext W2 W) (stepR1 D O W2.heap.size (some ⟨lo, q, none⟩) (some ⟨b, o, none⟩) c1 c2 (.int .i64 m.change) m loom x0.pattern lc n0) (Ext.drew _) ?_ ?_
    · simp only [List.take, AllOps, fill, Act.put, List.setIfInBounds_toArray, List.set_cons_zero, List.set_cons_succ, Nat.reduceAdd, Deps, and_true]
      refine ⟨?_, ?_, ?_, ?_, ?_, ?_, ?_, ?_, ?_, ?_, ?_, ?_⟩
      all_goals
        intro x W hG hd K Q hK
        try (simp only [stepR1] at hd; simp only [hd] at hK ⊢)
        obtain ⟨k0, k1, k2, k3⟩ := (cb2.ext hG).c4
        have e0 := (c02.ext hG).c1
        have jj := hG.cell j2
        obtain ⟨o0, o1, o2, o3⟩ := (bo.ext hG).c4
      · have HK := Lib.hid hK; clear hK; go_wp2; exact HK.out _ _ rfl hG (fun _ _ h => h)
      · have HK := Lib.hid hK; clear hK; go_wp2; exact HK.out _ _ rfl hG (fun _ _ h => h)
      · have HK := Lib.hid hK; clear hK; go_wp2; exact HK.out _ _ rfl hG (fun _ _ h => h)
      · have HK := Lib.hid hK; clear hK; go_wp2; exact HK.out _ _ rfl hG (fun _ _ h => h)
      · have HK := Lib.hid hK; clear hK; go_wp2; exact HK.out _ _ rfl hG (fun _ _ h => h)
      · have HK := Lib.hid hK; clear hK; go_wp2; exact HK.out _ _ rfl hG (fun _ _ h => h)
      · have HK := Lib.hid hK; clear hK; go_wp2; exact HK.out _ _ ⟨_, _, rfl, rfl⟩ hG (fun _ _ h => h)
      · obtain ⟨b', q', hbq, hx6⟩ := hd
        cases hbq
        simp only [hx6] at hK ⊢
        have HK := Lib.hid hK; clear hK; go_wp2; exact HK.out _ _ rfl hG (fun _ _ h => h)
      · have HK := Lib.hid hK; clear hK; go_wp2; exact HK.out _ _ rfl hG (fun _ _ h => h)
      · have HK := Lib.hid hK; clear hK; go_wp2; exact HK.out _ _ rfl hG (fun _ _ h => h)
      · have HK := Lib.hid hK; clear hK
        go_wp2_with fail
        refine (changed_r lc x0.pattern n0 Hn0.out W).mono ?_
        rintro e w' ⟨rfl, rfl⟩
        go_wp2
        exact HK.out _ _ rfl hG (fun _ _ h => h)
      · have HK := Lib.hid hK; clear hK; go_wp2; exact HK.out _ _ ⟨_, rfl, hG.size, Blk.new _ _ _⟩ (hG.trans (Ext.alloc _ _)) (stepR1.ext (Ext.alloc _ _))
    · intro x W3 hG hR
      simp only [AllR, stepR1, true_and] at hR
      obtain ⟨⟨⟨⟨⟨⟨⟨⟨⟨⟨⟨r0, r1⟩, r2⟩, r3⟩, r4⟩, r5⟩, r6⟩, r7⟩, r8⟩, r9⟩, r10⟩, p, r11, hpo, bp⟩ := hR
      simp only [List.take, List.drop, fill, Act.put, List.setIfInBounds_toArray, List.set_cons_zero, List.set_cons_succ, Nat.reduceAdd, r0, r1, r2, r3, r4, r5, r7, r8, r9, r10, r11]
      clear r0 r1 r2 r3 r4 r5 r7 r8 r9 r10 r11 r6
      generalize x 6 = x6
      have f0 := bp.frozen 0
      have u0 := bp.c1
      have hpl := bp.lt
      have hp64 : 2 ^ order ≤ 128 := by
        have h1 : 2 ^ order ≤ 2 ^ 7 := Nat.pow_le_pow_right (by omega) (by omega)
        have h2 : (2 : Nat) ^ 7 = 128 := by decide
        omega
      have hrest : Go.bits .andNot .i64 (set : Int) (wrap64 (2 ^ order)) = ((sdiff set (2 ^ order) : Nat) : Int) := by rw [wrap64_pow' order (by omega), andNot64 set (2 ^ order) (by omega) (by omega)]
      have hRle := sdiff_le set (2 ^ order)
      generalize sdiff set (2 ^ order) = R at *
      have hcut := bp.set_ 0 (.int .i64 n0)
      have hX3 : Ext W2 (W3.setCell ⟨p, 0, none⟩ (.int .i64 n0)) := Below.setCell hG (by show _ ≤ p; omega) _
      obtain ⟨q0, hq0⟩ : ∃ q, decide (R = 0) = q := ⟨_, rfl⟩
      cases q0
      case' true =>
        have hR0 : R = 0 := by simpa using hq0
        have hz : (Go.bits .andNot .i64 (set : Int) (wrap64 (2 ^ order)) != 0) = false := by rw [hrest, hR0]; rfl
        have hres2 : Hid (stepN m num loom R order = n0) := by unfold Hid stepN; rw [if_pos hR0, Hlc.out, Mill.pat, Hx0.out]; exact Hn0.out
        have Hrest := Lib.hid hrest; clear hrest
        go_wp2_with fail
        rw [Hrest.out]
        have hbp : Blk ((W3.setCell ⟨p, 0, none⟩ (.int .i64 n0)).alloc (.cells #[.int .i64 (R : Int)] 3)) p 3 #[.int .i64 n0] := hcut.alloc _
        have hXW := hX3.trans (Ext.alloc _ (.cells #[.int .i64 (R : Int)] 3))
        clear hz hq0 hR0 hcut hX3 Hrest bp hG f0 u0 hpl
        generalize (W3.setCell _ _).alloc _ = W at *
        obtain ⟨n1, hn1⟩ : ∃ n1, n1 = n0 := ⟨_, rfl⟩
        rw [← hn1] at hbp hres2
        clear hn1 Hn0
      case' false =>
        have hR0 : R ≠ 0 := by simpa using hq0
        have hz : (Go.bits .andNot .i64 (set : Int) (wrap64 (2 ^ order)) != 0) = true := by rw [hrest]; simp; omega
        have Hrest := Lib.hid hrest; clear hrest
        go_wp2_with fail
        rw [Hrest.out]
        have hbp : Blk (((W3.setCell ⟨p, 0, none⟩ (.int .i64 n0)).setCell ⟨p, 0, none⟩ (.int .i64 99)).alloc (.cells #[.int .i64 (R : Int)] 3)) p 3 #[.int .i64 99] := (hcut.set_ 0 (.int .i64 99)).alloc _
        have hbr := Blk.new ((W3.setCell ⟨p, 0, none⟩ (.int .i64 n0)).setCell ⟨p, 0, none⟩ (.int .i64 99)) 3 #[.int .i64 (R : Int)]
        have hX4 : Ext W2 ((W3.setCell ⟨p, 0, none⟩ (.int .i64 n0)).setCell ⟨p, 0, none⟩ (.int .i64 99)) := Below.setCell hX3 (by show _ ≤ p; omega) _
        have hXW := hX4.trans (Ext.alloc _ (.cells #[.int .i64 (R : Int)] 3))
        clear hX4
        rw [World.size_setCell, World.size_setCell] at hbr
        have hpr : p < W3.heap.size := hpl
        clear hz hq0 hcut hX3 Hrest bp hG f0 u0 hpl Hn0
        generalize ((W3.setCell _ _).setCell _ _).alloc _ = W4 at *
        generalize W3.heap.size = rho at *
        obtain ⟨k0, k1, k2, k3⟩ := (cb2.ext hXW).c4
        have e0 := (c02.ext hXW).c1
        have v0 := hbr.c1
        set_option maxRecDepth 20000 in
        go_still_tail 5, (by kernel_rfl)
        change wpList _ _ _ _ _ W4.drew
        go_wp2_with fail
        refine (lacking_any _ m R _ (Hv.out.ext (hE2.trans (hXW.trans (Ext.drew _))))).mono ?_
        rintro e W5 ⟨rfl, he5, ⟨a1, a2, a3, B1⟩, B2⟩
        have hXW5 := hXW.trans ((Ext.drew _).trans he5)
        have hbp5 := hbp.ext ((Ext.drew _).trans he5)
        have hbr5 := hbr.ext ((Ext.drew _).trans he5)
        have hpL : p < W4.drew.heap.size := hbp.lt
        have hrL : rho < W4.drew.heap.size := hbr.lt
        clear hXW he5 hbp hbr k0 k1 k2 k3 e0 v0
        generalize W4.drew.heap.size = L at *
        have hR7 : R ≤ 1048576 := by omega
        have hRn : R < 2 ^ m.orders.length := Nat.lt_of_le_of_lt hRle hs
        go_wp2_with fail
        apply wp_lacking (show m.orders.length ≤ 20 by omega) hR7 B1 B2 rfl rfl
          (fun pre W => W5.heap.size ≤ W.heap.size ∧ Ext W2 W ∧ Blk W p 3 #[.int .i64 (stepL m num R order (pre.map fun y : In R => y.1))] ∧ Blk W rho 3 #[.int .i64 (R : Int)])
          (fun _ _ _ => False)
          (fun pre W W' ⟨h0, h1, h2, h3⟩ hl => ⟨Nat.le_trans h0 hl.size, h1.loops hl hXW5.size, h2.loops hl, h3.loops hl⟩)
          (fun _ _ _ _ h _ => h) ⟨Nat.le_refl _, hXW5, hbp5, hbr5⟩
        case hassign =>
          intro l x W K hK
          simp only [encK]
          gi_wp2
          exact hK
        case hbody =>
          intro l pre x W ⟨i0, i1, i2, i3⟩
          have hL5 := B2.lt
          have hxn : x.1 < m.orders.length := bitsS_mem_lt hRn x
          have hcall := hg W (hE2.trans i1) x.1 hxn x.2
          obtain ⟨kv, hkv⟩ : ∃ kv, num R x.1 = kv := ⟨_, rfl⟩
          have hkb := hnum x.1
          have hab := stepL_bd m num R order hnum (pre.map fun y : In R => y.1)
          have hsn := Lib.hid (stepL_snoc m num R order (pre.map fun y : In R => y.1) x.1)
          rw [hkv] at hcall hkb hsn
          obtain ⟨acc, hacc⟩ : ∃ acc, stepL m num R order (pre.map fun y : In R => y.1) = acc := ⟨_, rfl⟩
          rw [hacc] at i2 hab hsn
          have Hacc := Lib.hid hacc; clear hacc
          have Hkv := Lib.hid hkv; clear hkv
          have Hcall := Lib.hid hcall; clear hcall
          obtain ⟨last, hlast⟩ : ∃ last, x.1 = last := ⟨_, rfl⟩
          rw [hlast] at hxn Hcall hsn
          have eg' := eg
          unfold Enters at eg'
          have u0 := i2.c1
          have u1 := i3.c1
          have u2 := (c12.ext i1).c1
          rw [hlast]
          by_cases h99 : kv = 99
          · have hd : (kv != 99) = false := by simp [h99]
            gi_wp2_with fail
            refine ⟨trivial, CallsIn.inRound l (callsIn_wide.2 (Hcall.out.mono ?_))⟩
            rintro e W6 ⟨rfl, he6⟩
            have H99 := Lib.hid h99; clear h99
            gi_wp2
            refine ⟨keepsFrom_ext he6, ⟨Below.block he6 _ (by omega), Below.block he6 _ (by omega)⟩, Nat.le_trans i0 he6.size, i1.trans he6, ?_, i3.ext he6⟩
            rw [List.map_append, List.map_singleton, hlast, hsn.out, if_pos H99.out]
            exact i2.ext he6
          · have hd : (kv != 99) = true := by simp [h99]
            gi_wp2_with fail
            refine ⟨trivial, CallsIn.inRound l (callsIn_wide.2 (Hcall.out.mono ?_))⟩
            rintro e W6 ⟨rfl, he6⟩
            have H99 := Lib.hid h99; clear h99
            gi_wp2_with fail
            have i6 := i1.trans he6
            obtain ⟨b', o', hbo, A', ca', hca', q1, q2, q3, q4, q5⟩ := H7.out.ext (hE2.trans i6) last hxn
            cases hbo
            have hpat : (m.orders[last]?.getD default).pattern = m.pat last := rfl
            rw [hpat] at q1
            have hpo2 : m.pat order = x0.pattern := by unfold Mill.pat; rw [Hx0.out]
            rw [hpo2] at hsn
            clear hpat hpo2 q2 q3 q4 q5 u0 u1 u2
            generalize m.pat last = pl at *
            obtain ⟨ch, hch'⟩ : ∃ ch, chg pl x0.pattern = ch := ⟨_, rfl⟩
            have hcb := chg_bd pl x0.pattern
            rw [hch'] at hcb hsn
            have Hch := Lib.hid hch'; clear hch'
            obtain ⟨sum, hsum⟩ : ∃ sum, kv + ch = sum := ⟨_, rfl⟩
            have hsb : 0 ≤ sum ∧ sum ≤ 100 := by omega
            rw [hsum] at hsn
            have Hsum := Lib.hid hsum; clear hsum
            obtain ⟨res, hres⟩ : ∃ res, min acc sum = res := ⟨_, rfl⟩
            rw [hres] at hsn
            have Hres2 := Lib.hid hres; clear hres
            have p6 := i2.ext he6
            refine wpIn_region_facts 17 (by kernel_rfl) (by kernel_rfl) (fun W' => Ext W6 W') (stepR2 D O b o (.slice (some ⟨b, o, none⟩) m.orders.length c2) last acc kv pl x0.pattern ch sum res) (Ext.drew _) ?_ ?_
            · simp only [List.take, AllOpsIn, fill, Act.put, List.setIfInBounds_toArray, List.set_cons_zero, List.set_cons_succ, Nat.reduceAdd, Deps, and_true]
              refine ⟨?_, ?_, ?_, ?_, ?_, ?_, ?_, ?_, ?_, ?_, ?_, ?_, ?_, ?_, ?_, ?_, ?_⟩
              all_goals
                intro x W hG hd K Q hK
                try (simp only [stepR2] at hd; simp only [hd] at hK ⊢)
                obtain ⟨k0, k1, k2, k3⟩ := (cb2.ext (i6.trans hG)).c4
                have e0 := (c02.ext (i6.trans hG)).c1
                have jj := hG.cell q1
                obtain ⟨o0, o1, o2, o3⟩ := (bo.ext (i6.trans hG)).c4
                have u0 := (p6.ext hG).c1
              · have HK := Lib.hid hK; clear hK; gi_wp2; exact HK.out _ _ rfl hG (fun _ _ h => h)
              · have HK := Lib.hid hK; clear hK; gi_wp2; exact HK.out _ _ rfl hG (fun _ _ h => h)
              · have HK := Lib.hid hK; clear hK; gi_wp2; exact HK.out _ _ rfl hG (fun _ _ h => h)
              · have HK := Lib.hid hK; clear hK; gi_wp2; exact HK.out _ _ rfl hG (fun _ _ h => h)
              · have HK := Lib.hid hK; clear hK; gi_wp2; exact HK.out _ _ rfl hG (fun _ _ h => h)
              · have HK := Lib.hid hK; clear hK; gi_wp2; exact HK.out _ _ rfl hG (fun _ _ h => h)
              · have HK := Lib.hid hK; clear hK; gi_wp2; exact HK.out _ _ rfl hG (fun _ _ h => h)
              · have HK := Lib.hid hK; clear hK; gi_wp2; exact HK.out _ _ rfl hG (fun _ _ h => h)
              · have HK := Lib.hid hK; clear hK; gi_wp2; exact HK.out _ _ rfl hG (fun _ _ h => h)
              · have HK := Lib.hid hK; clear hK; gi_wp2; exact HK.out _ _ rfl hG (fun _ _ h => h)
              · have HK := Lib.hid hK; clear hK; gi_wp2; exact HK.out _ _ rfl hG (fun _ _ h => h)
              · have HK := Lib.hid hK; clear hK; gi_wp2; exact HK.out _ _ rfl hG (fun _ _ h => h)
              · have HK := Lib.hid hK; clear hK; gi_wp2; exact HK.out _ _ rfl hG (fun _ _ h => h)
              · have HK := Lib.hid hK; clear hK
                gi_wp2_with fail
                refine ⟨trivial, CallsIn.inRound l (callsIn_wide.2 ((changed_r pl x0.pattern ch Hch.out W).mono ?_))⟩
                rintro e w' ⟨rfl, rfl⟩
                gi_wp2
                exact HK.out _ _ rfl hG (fun _ _ h => h)
              · have HK := Lib.hid hK; clear hK; gi_wp2; exact HK.out _ _ (congrArg (Value.int .i64) Hsum.out) hG (fun _ _ h => h)
              · have HK := Lib.hid hK; clear hK; gi_wp2; exact HK.out _ _ ⟨_, rfl, Blk.new _ _ _⟩ (hG.trans (Ext.alloc _ _)) (stepR2.ext (Ext.alloc _ _))
              · obtain ⟨d0, ⟨g', d15, bg⟩, d13⟩ := hd
                simp only [d15] at hK ⊢
                have HK := Lib.hid hK; clear hK
                have hI1 : IntsAt W (some ⟨g', 0, none⟩) [sum] := by
                  intro k hk
                  obtain rfl : k = 0 := by simpa using hk
                  exact ⟨g', 0, rfl, bg.c1⟩
                gi_wp2_with fail
                refine ⟨trivial, CallsIn.inRound l (callsIn_wide.2 ((least_any acc (some ⟨g', 0, none⟩) 1 1 [sum] rfl res (by simpa using Hres2.out) W (by simp [maxLen]) hI1).mono ?_))⟩
                rintro e w' ⟨rfl, rfl⟩
                gi_wp2
                exact HK.out _ _ rfl hG (fun _ _ h => h)
            · intro x W7 hG hR
              simp only [AllR, stepR2, true_and] at hR
              have r16 := hR.2
              replace hR := hR.1.1
              have r14 := hR.2
              replace hR := hR.1
              have r13 := hR.2
              replace hR := hR.1
              have r12 := hR.2
              replace hR := hR.1
              have r11 := hR.2
              replace hR := hR.1
              have r10 := hR.2
              replace hR := hR.1
              have r9 := hR.2
              replace hR := hR.1
              have r8 := hR.2
              replace hR := hR.1
              have r7 := hR.2
              replace hR := hR.1
              have r6 := hR.2
              replace hR := hR.1
              have r5 := hR.2
              replace hR := hR.1
              have r4 := hR.2
              replace hR := hR.1
              have r3 := hR.2
              replace hR := hR.1
              have r2 := hR.2
              replace hR := hR.1
              have r1 := hR.2
              replace hR := hR.1
              simp only [List.take, List.drop, fill, Act.put, List.setIfInBounds_toArray, List.set_cons_zero, List.set_cons_succ, Nat.reduceAdd, hR, r1, r2, r3, r4, r5, r6, r7, r8, r9, r10, r11, r12, r13, r14, r16]
              clear hR r1 r2 r3 r4 r5 r6 r7 r8 r9 r10 r11 r12 r13 r14 r16
              generalize x 15 = x15
              have p7 := p6.ext hG
              have u0 := p7.c1
              have u1 := p7.frozen 0
              gi_wp2
              have hY : Ext W6 (W7.setCell ⟨p, 0, none⟩ (.int .i64 res)) ∨ True := .inr trivial
              have h67 := he6.trans hG
              have hsz7 := h67.size
              refine ⟨(keepsFrom_ext h67).trans ((KeepsOthers.setCell _ _ _).from _), ⟨(Below.heap_setCell W7 _ _ L (by show L ≠ p; omega)).trans (Below.block h67 _ (by omega)), (Below.heap_setCell W7 _ _ (L + 1) (by show L + 1 ≠ p; omega)).trans (Below.block h67 _ (by omega))⟩, ?_, ?_, ?_, (i3.ext h67).far (by show rho ≠ p; omega) _⟩
              · rw [World.size_setCell]; omega
              · exact Below.setCell (i1.trans h67) (by show _ ≤ p; omega) _
              · rw [List.map_append, List.map_singleton, hlast, hsn.out, if_neg H99.out]
                exact p7.set_ 0 _
        case hstop => intro _ _ _ _ _ _ h _; exact h.elim
        case' hdone =>
          intro Dd W hDd ⟨i0, hXW, hbp, _⟩ hdef
          rw [bitsS_map] at hbp
          obtain ⟨n1, hn1⟩ : ∃ n1, n1 = stepL m num R order (bits m.orders.length R) := ⟨_, rfl⟩
          rw [← hn1] at hbp
          have hres2 : Hid (stepN m num loom R order = n1) := by unfold Hid stepN; rw [if_neg hR0, ← hn1]
          have hsz5 := hXW5.size
          have hDd2 : w.heap.size ≤ Dd := by have := hE2.size; omega
          clear hn1 hR0 hR7 hRn i0 hXW5 hbp5 hbr5 hpL hrL B1 B2
          go_wp2_with fail
      all_goals
        have cbW := cb2.ext hXW
        have e0 := (c02.ext hXW).c1
        obtain ⟨k0, k1, k2, k3⟩ := cbW.c4
        obtain ⟨o0, o1, o2, o3⟩ := (bo.ext hXW).c4
        have u0 := hbp.c1
        have hmap := H9.out.ext h8 (hE2.trans hXW)
        have hlook := fun nq : Nat => (hmap.ext hmap.lt (Ext.drewN W nq)).look set (by omega)
        simp only [hs, if_true] at hlook
        have hres3 := Hres.out
        rw [hres2.out] at hres3
        have hEr := hE2.trans hXW
        have hby := Hord.out.2.2
        have hnb : 0 ≤ n1 ∧ n1 ≤ 99 := by
          rw [← hres2.out]; unfold stepN
          split
          · have := chg_bd (m.laced[loom]?.getD 0) (m.pat order); omega
          · exact stepL_bd m num R order hnum _
        have HX := Lib.hid (And.intro hEr hbp)
        clear hEr hXW hbp hmap cbW hres2 Hres Hord c02 c12 cb2 bo hE2 j2
        generalize daysOf m m.orders.length set = dd at *
        generalize m.change = cg at *
        by_cases h99 : 99 ≤ n1
        · obtain rfl : r = 99 := by rw [hres3]; simp only [h99, if_true]
          clear hres3
          go_quiet (fail)
          go_wp2
          first
            | exact ⟨_, results_tmp rfl _ _ _, rfl, HX.out.1.trans (Ext.drewN _ _)⟩
            | exact ⟨by simp, .inl ⟨_, _, rfl, run_takeDeferred hdef, ⟨_, results_tmp rfl _ _ _, rfl, Below.grown (HX.out.1.trans (Ext.drewN _ _)) (grownBy_putObj' _ _ _) (HX.out.1.trans (Ext.drewN _ _)).size (fun j e => by cases e; omega)⟩⟩⟩
        · have h99' : decide (99 ≤ n1) = false := by simpa using h99
          simp only [h99, if_false] at hres3
          obtain ⟨pr, hpr⟩ : ∃ pr, cg * n1 = pr := ⟨_, rfl⟩
          rw [hpr] at hres3
          have hp0 : 0 ≤ pr := by rw [← hpr]; exact Int.mul_nonneg hcg.1 hnb.1
          have hp1 : pr ≤ 495 := by rw [← hpr]; exact Int.le_trans (Int.mul_le_mul hcg.2 hnb.2 hnb.1 (by omega)) (by omega)
          by_cases hlate : x0.by_ < dd + pr
          · obtain rfl : r = 99 := by rw [hres3, if_pos hlate]
            clear hres3
            go_quiet (fail)
            go_wp2
            first
              | exact ⟨_, results_tmp rfl _ _ _, rfl, HX.out.1.trans (Ext.drewN _ _)⟩
              | exact ⟨by simp, .inl ⟨_, _, rfl, run_takeDeferred hdef, ⟨_, results_tmp rfl _ _ _, rfl, Below.grown (HX.out.1.trans (Ext.drewN _ _)) (grownBy_putObj' _ _ _) (HX.out.1.trans (Ext.drewN _ _)).size (fun j e => by cases e; omega)⟩⟩⟩
          · obtain rfl : r = n1 := by rw [hres3, if_neg hlate]
            clear hres3
            go_quiet (fail)
            go_wp2
            first
              | exact ⟨_, results_tmp rfl _ _ _, rfl, HX.out.1.trans (Ext.drewN _ _)⟩
              | exact ⟨by simp, .inl ⟨_, _, rfl, run_takeDeferred hdef, ⟨_, results_tmp rfl _ _ _, rfl, Below.grown (HX.out.1.trans (Ext.drewN _ _)) (grownBy_putObj' _ _ _) (HX.out.1.trans (Ext.drewN _ _)).size (fun j e => by cases e; omega)⟩⟩⟩
end Go.Proofs.Pet

namespace Go.Proofs.Pet
open Go Go.RowKit Go.Maps Go.Shelf
attribute [local go_sem] Oper.semAt_some

/-- the costs of all looms, in a block of their own -/
def CostsAt (w : World) (B : Nat) (f : Nat → Nat → Nat → Int) : Prop :=
  ∃ cs, Blk w B 184 cs ∧ cs.size = 2688 ∧ ∀ l s k, l < 3 → s < 128 → k < 7 → cs[l * 896 + s * 7 + k]? = some (.int .i64 (f l s k))
theorem CostsAt.cell {w : World} {B : Nat} {f : Nat → Nat → Nat → Int} (h : CostsAt w B f) {l s k : Nat} (hl : l < 3) (hs : s < 128) (hk : k < 7) : w.cell? ⟨B, l * 896 + s * 7 + k, none⟩ = some (.int .i64 (f l s k)) := by
  obtain ⟨cs, h1, h2, h3⟩ := h
  rw [h1.cell, h3 l s k hl hs hk]
theorem CostsAt.frozen {w : World} {B : Nat} {f : Nat → Nat → Nat → Int} (h : CostsAt w B f) (i : Nat) : w.frozen? ⟨B, i, none⟩ = false := by
  obtain ⟨cs, h1, h2, h3⟩ := h
  exact h1.frozen i
theorem CostsAt.ext {w w' : World} {B : Nat} {f : Nat → Nat → Nat → Int} (h : CostsAt w B f) (he : Ext w w') : CostsAt w' B f := by
  obtain ⟨cs, h1, h2, h3⟩ := h
  exact ⟨cs, h1.ext he, h2, h3⟩
theorem CostsAt.lt {w : World} {B : Nat} {f : Nat → Nat → Nat → Int} (h : CostsAt w B f) : B < w.heap.size := by
  obtain ⟨cs, h1, h2, h3⟩ := h
  exact h1.lt
theorem CostsAt.congr {w : World} {B : Nat} {f g : Nat → Nat → Nat → Int} (h : CostsAt w B f) (hg : ∀ l s k, l < 3 → s < 128 → k < 7 → f l s k = g l s k) : CostsAt w B g := by
  obtain ⟨cs, h1, h2, h3⟩ := h
  exact ⟨cs, h1, h2, fun l s k hl hs hk => by rw [h3 l s k hl hs hk, hg l s k hl hs hk]⟩
theorem CostsAt.set_ {w : World} {B : Nat} {f : Nat → Nat → Nat → Int} (h : CostsAt w B f) {l s k : Nat} (hl : l < 3) (hs : s < 128) (hk : k < 7) (v : Int) :
    CostsAt (w.setCell ⟨B, l * 896 + s * 7 + k, none⟩ (.int .i64 v)) B (fun l' s' k' => if l' = l ∧ s' = s ∧ k' = k then v else f l' s' k') := by
  obtain ⟨cs, h1, h2, h3⟩ := h
  refine ⟨_, h1.set_ _ _, by simpa using h2, fun l' s' k' hl' hs' hk' => ?_⟩
  rw [Array.getElem?_setIfInBounds]
  by_cases e : l * 896 + s * 7 + k = l' * 896 + s' * 7 + k'
  · have e1 : l' = l := by omega
    have e2 : s' = s := by omega
    have e3 : k' = k := by omega
    dsimp only
    rw [if_pos e, if_pos (by omega), if_pos ⟨e1, e2, e3⟩]
  · dsimp only
    rw [if_neg e, h3 l' s' k' hl' hs' hk', if_neg (fun h => e (by rw [h.1, h.2.1, h.2.2]))]

theorem costs1_any (B lm l rest x : Nat) (f : Nat → Nat → Nat → Int) (hl : l < 3) (hr : rest < 128) (hx : x < 7) (w : World) (hc : CostsAt w B f) (hb : Blk w lm 3 #[.int .i64 (l : Int)]) :
    Calls Try.prog 101 #[.int .i64 (rest : Int), .int .i64 (x : Int), .pointer (some ⟨B, 0, none⟩), .pointer (some ⟨lm, 0, none⟩)] w fun e w' => e = .returned (.int .i64 (f l rest x)) ∧ w = w' := by
  have h1 := hc.cell hl hr hx
  have h2 := hb.c1
  go_enter Try.func101, Try.ntmps101
  go_wp2
  go_ret
  exact ⟨rfl, rfl⟩
theorem stepL_congr (m : Mill) (num num' : Nat → Nat → Int) (rest order : Nat) (h : ∀ x, num rest x = num' rest x) (l : List Nat) : stepL m num rest order l = stepL m num' rest order l := by
  unfold stepL; congr 1; funext n x; rw [h x]
theorem stepS_congr (m : Mill) (num num' : Nat → Nat → Int) (loom set order : Nat) (h : ∀ x, num (sdiff set (2 ^ order)) x = num' (sdiff set (2 ^ order)) x) : stepS m num loom set order = stepS m num' loom set order := by
  unfold stepS stepN
  rw [stepL_congr m num num' _ _ h]
theorem stepN_bd (m : Mill) (num : Nat → Nat → Int) (loom rest order : Nat) (h : ∀ x, 0 ≤ num rest x ∧ num rest x ≤ 99) : 0 ≤ stepN m num loom rest order ∧ stepN m num loom rest order ≤ 99 := by
  unfold stepN
  split
  · have := chg_bd (m.laced[loom]?.getD 0) (m.pat order); omega
  · exact stepL_bd m num rest order h _
theorem stepS_bd (m : Mill) (num : Nat → Nat → Int) (loom set order : Nat) (h : ∀ x, 0 ≤ num (sdiff set (2 ^ order)) x ∧ num (sdiff set (2 ^ order)) x ≤ 99) : 0 ≤ stepS m num loom set order ∧ stepS m num loom set order ≤ 99 := by
  have := stepN_bd m num loom (sdiff set (2 ^ order)) order h
  unfold stepS
  dsimp only
  split
  · omega
  split
  · omega
  split <;> omega
/-- the fewest changes of a run in time of a set that ends with an order; 99 if there is none -/
def costA (m : Mill) (loom : Nat) : Nat → Nat → Nat → Int
  | 0, _, _ => 99
  | f + 1, s, k => if s.testBit k then stepS m (costA m loom f) loom s k else 99
def costC (m : Mill) (loom s k : Nat) : Int := costA m loom (s + 1) s k
theorem sdiff_lt {s k : Nat} (hs : s < 9223372036854775808) (h : s.testBit k = true) : sdiff s (2 ^ k) < s := by
  have := sdiff_pow hs h
  have h2 : 0 < 2 ^ k := Nat.two_pow_pos k
  omega
theorem costA_stable (m : Mill) (loom : Nat) : ∀ (s f g k : Nat), s < 9223372036854775808 → s < f → s < g → costA m loom f s k = costA m loom g s k := by
  intro s
  induction s using Nat.strongRecOn with
  | _ s ih =>
    intro f g k hs hf hg
    obtain ⟨f, rfl⟩ : ∃ f', f = f' + 1 := ⟨f - 1, by omega⟩
    obtain ⟨g, rfl⟩ : ∃ g', g = g' + 1 := ⟨g - 1, by omega⟩
    unfold costA
    split
    · rename_i hb
      refine stepS_congr _ _ _ _ _ _ fun x => ?_
      have := sdiff_lt hs hb
      exact ih _ this f g x (by omega) (by omega) (by omega)
    · rfl
theorem costC_in (m : Mill) (loom s k : Nat) (hs : s < 9223372036854775808) (h : s.testBit k = true) : costC m loom s k = stepS m (costC m loom) loom s k := by
  unfold costC
  rw [costA, if_pos h]
  refine stepS_congr _ _ _ _ _ _ fun x => ?_
  have := sdiff_lt hs h
  exact costA_stable m loom _ _ _ x (by omega) (by omega) (by omega)
theorem costC_out (m : Mill) (loom s k : Nat) (h : s.testBit k = false) : costC m loom s k = 99 := by
  unfold costC
  rw [costA, if_neg (by simp [h])]
theorem costA_bd (m : Mill) (loom : Nat) : ∀ (f s k : Nat), 0 ≤ costA m loom f s k ∧ costA m loom f s k ≤ 99
  | 0, _, _ => by simp [costA]
  | f + 1, s, k => by
    unfold costA
    split
    · exact stepS_bd m _ loom s k (fun x => costA_bd m loom f _ x)
    · omega
theorem costC_bd (m : Mill) (loom s k : Nat) : 0 ≤ costC m loom s k ∧ costC m loom s k ≤ 99 := costA_bd m loom _ s k

def costF1 (m : Mill) (i l s k : Nat) : Int := if l < i ∧ s < 2 ^ m.orders.length then costC m l s k else 0
def costF2 (m : Mill) (i s0 l s k : Nat) : Int := if (l < i ∧ s < 2 ^ m.orders.length) ∨ (l = i ∧ s < s0) then costC m l s k else 0
def costF3 (m : Mill) (i s0 k0 l s k : Nat) : Int := if (l < i ∧ s < 2 ^ m.orders.length) ∨ (l = i ∧ s < s0) then costC m l s k else if l = i ∧ s = s0 ∧ k < k0 then 99 else 0
def costF4 (m : Mill) (i s0 : Nat) (pre : List Nat) (l s k : Nat) : Int :=
  if (l < i ∧ s < 2 ^ m.orders.length) ∨ (l = i ∧ s < s0) then costC m l s k else if l = i ∧ s = s0 then (if k ∈ pre then costC m l s k else 99) else 0
def costR1 (B i s k : Nat) : Nat → Value → World → Prop
  | 0 => fun v _ => v = .int .i64 i
  | 1 => fun v _ => v = .int .i64 s
  | 2 => fun v _ => v = .int .i64 k
  | 3 => fun v _ => v = .pointer (some ⟨B, i * 896, none⟩)
  | 4 => fun v _ => v = .pointer (some ⟨B, i * 896 + s * 7, none⟩)
  | 5 => fun v _ => v = .pointer (some ⟨B, i * 896 + s * 7 + k, none⟩)
  | _ => fun _ _ => True
def costR2 (B D i s k lm : Nat) (r : Int) : Nat → Value → World → Prop
  | 0 => fun v _ => v = .int .i64 i
  | 1 => fun v _ => v = .int .i64 s
  | 2 => fun v _ => v = .int .i64 k
  | 3 => fun v _ => v = .pointer (some ⟨D, 0, none⟩)
  | 4 => fun v _ => v = .int .i64 i
  | 5 => fun v _ => v = .int .i64 s
  | 6 => fun v _ => v = .int .i64 k
  | 7 => fun v _ => v = .func (.func 101) #[] #[.pointer (some ⟨B, 0, none⟩), .pointer (some ⟨lm, 0, none⟩)]
  | 8 => fun v _ => v = .int .i64 r
  | 9 => fun v _ => v = .pointer (some ⟨B, i * 896, none⟩)
  | 10 => fun v _ => v = .pointer (some ⟨B, i * 896 + s * 7, none⟩)
  | 11 => fun v _ => v = .pointer (some ⟨B, i * 896 + s * 7 + k, none⟩)
  | _ => fun _ _ => True
theorem CostsAt.loops {w w' : World} {B b : Nat} {f : Nat → Nat → Nat → Int} (h : CostsAt w b f) (hk : Loops B w w') : CostsAt w' b f := by
  obtain ⟨cs, h1, h2, h3⟩ := h
  exact ⟨cs, h1.loops hk, h2, h3⟩
theorem mem_bits {n s k : Nat} : k ∈ bits n s ↔ k < n ∧ s.testBit k = true := by
  unfold bits; rw [List.mem_filter, List.mem_range]
theorem Desk.ext {w w' : World} {D : Nat} {m : Mill} (h : Desk w D m) (he : Ext w w') : Desk w' D m := by
  obtain ⟨A1, c1, A2, c2, M, cnt, hb, h2, h3, h4, h5, h6, h7, h8, h9⟩ := h
  exact ⟨A1, c1, A2, c2, M, cnt, hb.ext he, h2, h3, h4, h5, h6.ext he, h7.ext he, Nat.lt_of_lt_of_le h8 he.size, h9.ext h8 he⟩
theorem costR2.same {B D i s k lm : Nat} {r : Int} {w w' : World} (j : Nat) (u : Value) (h : costR2 B D i s k lm r j u w) : costR2 B D i s k lm r j u w' := by
  match j, h with
  | 0, h | 1, h | 2, h | 3, h | 4, h | 5, h | 6, h | 7, h | 8, h | 9, h | 10, h | 11, h => exact h
  | _ + 12, h => trivial
theorem zeroCosts : Try.zeroCells184 = Array.replicate 2688 (.int .i64 0) := by kernel_rfl
theorem CostsAt.new (w : World) : CostsAt (w.alloc (.cells Try.zeroCells184 184)) w.heap.size (fun _ _ _ => 0) := by
  refine ⟨_, Blk.new w 184 _, by rw [zeroCosts]; simp, fun l s k hl hs hk => ?_⟩
  rw [zeroCosts, Array.getElem?_replicate, if_pos (by omega)]

set_option maxRecDepth 20000 in
set_option maxHeartbeats 2000000 in
theorem costs_any (D : Nat) (m : Mill) (hch : checkE m = 0) (w : World) (hD : Desk w D m) :
    Calls Try.prog 48 #[.pointer (some ⟨D, 0, none⟩)] w fun e w' => ∃ B, e = .returned (.pointer (some ⟨B, 0, none⟩)) ∧ w.heap.size ≤ B ∧
      CostsAt w' B (fun l s k => if l < m.laced.length ∧ s < 2 ^ m.orders.length then costC m l s k else 0) ∧ Ext w w' := by
  obtain ⟨l1, l2, l3⟩ := check_len hch
  have HD := Lib.hid hD
  obtain ⟨A1, c1, A2, c2, M, cnt, hb, h2, h3, h4, h5, h6, h7, h8, h9⟩ := hD
  have Hv : Hid (MillVal w (.agg #[.slice A1 m.laced.length c1, .int .i64 m.change, .slice A2 m.orders.length c2]) m) := ⟨A1, c1, A2, c2, rfl, h2, h3, h4, h5, h6, h7⟩
  clear h6 h7 h9
  refine (callsIn_wide (n := 5)).1 ?_
  refine callsIn_of_wp_marks Try.func48 rfl trivial ?_ rfl
  simp only [Try.ntmps48, List.size_toArray, List.length_nil, Nat.reduceSub, Array.replicate_succ, Array.replicate_zero, List.push_toArray, List.append_toArray, List.nil_append, List.cons_append, List.length_cons, Nat.reduceAdd]
  refine wpIn_wide.2 ?_
  have b0 := (Blk.new w 116 #[.pointer (some ⟨D, 0, none⟩)]).alloc (.cells Try.zeroCells184 184)
  have hC := CostsAt.new (w.alloc (.cells #[.pointer (some ⟨D, 0, none⟩)] 116))
  have hE : Ext w ((w.alloc (.cells #[.pointer (some ⟨D, 0, none⟩)] 116)).alloc (.cells Try.zeroCells184 184)) := (Ext.alloc _ _).trans (Ext.alloc _ _)
  rw [World.size_alloc] at hC
  have e0 := b0.c1
  obtain ⟨k0, k1, k2, k3⟩ := (hb.ext hE).c4
  go_wp2_with fail
  clear e0 k0 k1 k2 k3
  generalize (w.alloc _).alloc _ = W at *
  refine wp_loop_ghost_k (fun gn a W => ∃ (u4 u5 u6 u7 u8 u9 u10 u11 u12 u15 u16 u17 u18 u19 u20 u21 u22 u23 u24 u25 u26 u27 u28 u29 u30 u31 u32 u33 u34 u35 u36 u37 u38 u39 u40 u41 u42 u43 u44 u45 u46 u47 u48 u49 u50 u51 u52 u53 u54 u55 u56 v14 : Value) (i : Nat) (ds : List Deferred), a = ⟨#[.pointer (some ⟨D, 0, none⟩), .pointer (some ⟨w.heap.size, 0, none⟩), .pointer none, .pointer (some ⟨w.heap.size + 1, 0, none⟩), u4, u5, u6, u7, u8, u9, u10, u11, u12, .int .i64 (m.laced.length : Int), v14, u15, u16, u17, u18, u19, u20, u21, u22, u23, u24, u25, u26, u27, u28, u29, u30, u31, u32, u33, u34, u35, u36, u37, u38, u39, u40, u41, u42, u43, u44, u45, u46, u47, u48, u49, u50, u51, u52, u53, u54, u55, u56], ds⟩ ∧ v14 = .int .i64 (i : Int) ∧ i ≤ m.laced.length ∧ gn = m.laced.length - i ∧ Ext w W ∧
      Blk W w.heap.size 116 #[.pointer (some ⟨D, 0, none⟩)] ∧ CostsAt W (w.heap.size + 1) (costF1 m i) ∧ Marks W w.heap.size W.heap.size ds) m.laced.length ⟨_, _, _, _, _, _, _, _, _, _, _, _, _, _, _, _, _, _, _, _, _, _, _, _, _, _, _, _, _, _, _, _, _, _, _, _, _, _, _, _, _, _, _, _, _, _, _, _, _, _, _, _, 0, [], rfl, rfl, by omega, by omega, hE, b0, hC.congr (fun l s k _ _ _ => by simp [costF1]), Marks.nil _ _ _⟩ ?_
  rintro gn a W1 ⟨u4, u5, u6, u7, u8, u9, u10, u11, u12, u15, u16, u17, u18, u19, u20, u21, u22, u23, u24, u25, u26, u27, u28, u29, u30, u31, u32, u33, u34, u35, u36, u37, u38, u39, u40, u41, u42, u43, u44, u45, u46, u47, u48, u49, u50, u51, u52, u53, u54, u55, u56, v14, i, ds, rfl, rfl, hi, rfl, he1, b1, hC1, hm1⟩ J K hJ hK
  by_cases hlt : i < m.laced.length
  · have hv1 := Hv.out.ext (he1.trans (Ext.alloc W1 (.cells #[.int .i64 (i : Int)] 3)))
    have Hv1 := Lib.hid hv1; clear hv1
    have bl := Blk.new W1 3 #[.int .i64 (i : Int)]
    have b2 := b1.alloc (.cells #[.int .i64 (i : Int)] 3)
    have hC2 := hC1.ext (Ext.alloc W1 (.cells #[.int .i64 (i : Int)] 3))
    have hm2 := (hm1.ext (Ext.alloc W1 (.cells #[.int .i64 (i : Int)] 3))).mono (hi' := W1.heap.size + 1) (by omega)
    have he2 := he1.trans (Ext.alloc W1 (.cells #[.int .i64 (i : Int)] 3))
    have hszw := he1.size
    have e0 := b2.c1
    obtain ⟨k0, k1, k2, k3⟩ := (hb.ext he2).c4
    go_wp2_with fail
    obtain ⟨N, hN⟩ : ∃ N, N = 2 ^ m.orders.length := ⟨_, rfl⟩
    refine (sets_any _ m (by omega) N hN _ Hv1.out).mono ?_
    rintro e W2 ⟨rfl, heA⟩
    have HN := Lib.hid hN; clear hN
    have he3 := he2.trans heA
    have b3 := b2.ext heA
    have hC3 := hC2.ext heA
    have bl3 := bl.ext heA
    have hm3 := (hm2.ext heA).mono (hi' := W2.heap.size) (by have := heA.size; rw [World.size_alloc] at this; omega)
    have hlm : w.heap.size + 1 < W1.heap.size := hC1.lt
    clear he2 heA b2 hC2 bl hm2 hm1 b1 hC1 he1 k0 k1 k2 k3 e0 Hv1
    generalize W1.heap.size = lm at *
    go_wp2_with fail
    refine wp_loop_ghost_k (fun gn a W => ∃ (u5 u6 u7 u8 u9 u10 u11 u12 u15 u16 u17 u18 u19 u20 u23 u24 u25 u26 u27 u28 u29 u30 u31 u32 u33 u34 u35 u36 u37 u38 u39 u40 u41 u42 u43 u44 u45 u46 u47 u48 u49 u50 u51 u52 u53 u54 u55 u56 v22 : Value) (s : Nat) (ds : List Deferred), a = ⟨#[.pointer (some ⟨D, 0, none⟩), .pointer (some ⟨w.heap.size, 0, none⟩), .pointer none, .pointer (some ⟨w.heap.size + 1, 0, none⟩), .pointer (some ⟨lm, 0, none⟩), u5, u6, u7, u8, u9, u10, u11, u12, .int .i64 (m.laced.length : Int), .int .i64 (i : Int), u15, u16, u17, u18, u19, u20, .int .i64 (N : Int), v22, u23, u24, u25, u26, u27, u28, u29, u30, u31, u32, u33, u34, u35, u36, u37, u38, u39, u40, u41, u42, u43, u44, u45, u46, u47, u48, u49, u50, u51, u52, u53, u54, u55, u56], ds⟩ ∧ v22 = .int .i64 (s : Int) ∧ s ≤ N ∧ gn = N - s ∧ Ext w W ∧
        Blk W w.heap.size 116 #[.pointer (some ⟨D, 0, none⟩)] ∧ CostsAt W (w.heap.size + 1) (costF2 m i s) ∧ Blk W lm 3 #[.int .i64 (i : Int)] ∧ Marks W w.heap.size W.heap.size ds) N ⟨_, _, _, _, _, _, _, _, _, _, _, _, _, _, _, _, _, _, _, _, _, _, _, _, _, _, _, _, _, _, _, _, _, _, _, _, _, _, _, _, _, _, _, _, _, _, _, _, _, 0, _, rfl, rfl, by omega, by omega, he3, b3, hC3.congr (fun l s k _ _ _ => by simp [costF1, costF2]), bl3, hm3⟩ ?_
    rintro gn a W3 ⟨u5, u6, u7, u8, u9, u10, u11, u12, u15, u16, u17, u18, u19, u20, u23, u24, u25, u26, u27, u28, u29, u30, u31, u32, u33, u34, u35, u36, u37, u38, u39, u40, u41, u42, u43, u44, u45, u46, u47, u48, u49, u50, u51, u52, u53, u54, u55, u56, v22, s, ds, rfl, rfl, hs, rfl, he4, b4, hC4, bl4, hm4⟩ J2 K2 hJ2 hK2
    clear he3 b3 hC3 bl3 hm3
    by_cases hlts : s < N
    · have e0 := b4.c1
      obtain ⟨k0, k1, k2, k3⟩ := (hb.ext he4).c4
      have bs := Blk.new W3 3 #[.int .i64 (s : Int)]
      have hX := Ext.alloc W3 (.cells #[.int .i64 (s : Int)] 3)
      have b5 := b4.ext hX
      have bl5 := bl4.ext hX
      have hC5 := hC4.ext hX
      have hm5 := (hm4.ext hX).mono (hi' := W3.heap.size + 1) (by omega)
      have he5 := he4.trans hX
      have hlm3 := bl4.lt
      go_wp2_with fail
      clear e0 k0 k1 k2 k3 hX b4 bl4 hC4 hm4 he4
      generalize W3.alloc _ = W4 at *
      generalize W3.heap.size = sm at *
      have hi3 : i < 3 := by omega
      have hs128 : s < 128 := by
        have h1 : 2 ^ m.orders.length ≤ 2 ^ 7 := Nat.pow_le_pow_right (by omega) l3
        have h2 : (2 : Nat) ^ 7 = 128 := by decide
        have h3 := HN.out
        omega
      have hn1 : w.heap.size + 1 ≠ lm := by omega
      go_loopw [6, 25] (fun _ v wr => ∃ k : Nat, k ≤ 7 ∧ v = .int .i64 k ∧ Ext w wr ∧ Blk wr w.heap.size 116 #[.pointer (some ⟨D, 0, none⟩)] ∧ CostsAt wr (w.heap.size + 1) (costF3 m i s k) ∧
          Blk wr lm 3 #[.int .i64 (i : Int)] ∧ Blk wr sm 3 #[.int .i64 (s : Int)] ∧ Marks wr w.heap.size (sm + 1) ds ∧ sm + 1 ≤ wr.heap.size) (fun _ v _ => 7 - (intOf v).toNat)
      case atStart => exact ⟨0, by omega, rfl, he5, b5, hC5.congr (fun l s k _ _ _ => by simp [costF2, costF3]), bl5, bs, hm5, bs.lt⟩
      case round =>
        obtain ⟨k, hk, rfl, he6, b6, hC6, bl6, bs6, hm6, hsz6⟩ := hrel
        by_cases hlk : k < 7
        · have e1 := bl6.c1
          have e2 := bs6.c1
          go_wp2_with fail
          have hf := (hC6.ext (Ext.drew wr)).frozen (i * 896 + s * 7 + k)
          have hcell := (hC6.ext (Ext.drew wr)).cell hi3 hs128 hlk
          refine wp_region_facts 6 (by kernel_rfl) (by kernel_rfl) (fun W' => W' = wr.drew) (costR1 (w.heap.size + 1) i s k) rfl ?_ ?_
          · simp only [List.take, AllOps, fill, Act.put, List.setIfInBounds_toArray, List.set_cons_zero, List.set_cons_succ, Nat.reduceAdd, Deps, and_true]
            refine ⟨?_, ?_, ?_, ?_, ?_, ?_⟩
            all_goals
              rintro x W' rfl hd K Q hK
              try (simp only [costR1] at hd; simp only [hd] at hK ⊢)
              have HK := Lib.hid hK; clear hK
              go_wp2
              exact HK.out _ _ rfl rfl (fun _ _ h => h)
          rintro x W' rfl hR
          simp only [AllR, costR1, true_and] at hR
          obtain ⟨⟨⟨⟨⟨r0, r1⟩, r2⟩, r3⟩, r4⟩, r5⟩ := hR
          simp only [List.take, List.drop, fill, Act.put, List.setIfInBounds_toArray, List.set_cons_zero, List.set_cons_succ, Nat.reduceAdd, r0, r1, r2, r3, r4, r5]
          clear r0 r1 r2 r3 r4 r5
          go_wp2_with fail
          go_roundw
          case rel =>
            obtain ⟨cs, hcs, _⟩ := id hC6
            refine ⟨k + 1, by omega, by go_num, Below.setCell (he6.trans (Ext.drew _)) (by show _ ≤ w.heap.size + 1; omega) _, b6.drew.far (by show _ ≠ w.heap.size + 1; omega) _, ((hC6.ext (Ext.drew wr)).set_ hi3 hs128 hlk 99).congr (fun l s' k' hl _ _ => ?_), bl6.drew.far (by show _ ≠ w.heap.size + 1; omega) _, bs6.drew.far (by show _ ≠ w.heap.size + 1; omega) _,
              (hm6.ext (Ext.drew wr)).set_ (p := ⟨w.heap.size + 1, i * 896 + s * 7 + k, none⟩) hcs.drew _, by show _ ≤ (wr.setCell _ _).heap.size; rw [World.size_setCell]; exact hsz6⟩
            unfold costF3
            have e3 : (l = i ∧ s' = s ∧ k' < k + 1) ↔ ((l = i ∧ s' = s ∧ k' = k) ∨ (l = i ∧ s' = s ∧ k' < k)) := by omega
            by_cases g1 : l = i ∧ s' = s ∧ k' = k
            · rw [if_pos g1, if_neg (by omega), if_pos (by omega)]
            · rw [if_neg g1]
              by_cases g2 : l = i ∧ s' = s ∧ k' < k
              · rw [if_pos g2, if_pos (show l = i ∧ s' = s ∧ k' < k + 1 by omega)]
              · rw [if_neg g2, if_neg (show ¬ (l = i ∧ s' = s ∧ k' < k + 1) by omega)]
          case measure => simp [intOf]; omega
        · obtain rfl : k = 7 := by omega
          have e0 := b6.c1
          have e2 := bs6.c1
          obtain ⟨k0, k1, k2, k3⟩ := (hb.ext he6).c4
          go_wp2_with fail
          go_still_tail 5, (by kernel_rfl)
          change wpList _ _ _ _ _ wr.drew
          go_wp2_with fail
          refine (lacking_any _ m s _ (Hv.out.ext (he6.trans (Ext.drew _)))).mono ?_
          rintro e W5 ⟨rfl, heB, ⟨a1, a2, a3, B1⟩, B2⟩
          have hC60 := (hC6.ext ((Ext.drew wr).trans heB)).congr (g := costF4 m i s []) (fun l s' k' _ _ hk' => by simp [costF3, costF4, hk'])
          have he7 := he6.trans ((Ext.drew wr).trans heB)
          have b7 := b6.ext ((Ext.drew wr).trans heB)
          have bl7 := bl6.ext ((Ext.drew wr).trans heB)
          have bs7 := bs6.ext ((Ext.drew wr).trans heB)
          have hL1 : w.heap.size + 1 < wr.drew.heap.size := hC6.lt
          have hL2 : lm < wr.drew.heap.size := bl6.lt
          have hL3 : sm < wr.drew.heap.size := bs6.lt
          have hL5 := B2.lt
          have hm7 := (hm6.ext ((Ext.drew wr).trans heB)).mono (hi' := W5.heap.size) (by omega)
          clear hC6 he6 b6 bl6 bs6 hm6 e0 e2 k0 k1 k2 k3 heB hsz6
          generalize wr.drew.heap.size = L at *
          go_wp2_with fail
          apply wp_lacking (show m.orders.length ≤ 20 by omega) (show s ≤ 1048576 by omega) B1 B2 rfl rfl
            (fun pre W => W5.heap.size ≤ W.heap.size ∧ Ext w W ∧ Blk W w.heap.size 116 #[.pointer (some ⟨D, 0, none⟩)] ∧ CostsAt W (w.heap.size + 1) (costF4 m i s (pre.map fun y : In s => y.1)) ∧
              Blk W lm 3 #[.int .i64 (i : Int)] ∧ Blk W sm 3 #[.int .i64 (s : Int)] ∧ Marks W w.heap.size W5.heap.size ds)
            (fun _ _ _ => False)
            (fun pre W W' ⟨h0, h1, h2, h3, h4, h5, h6⟩ hl => ⟨Nat.le_trans h0 hl.size, h1.loops hl he7.size, h2.loops hl, h3.loops hl, h4.loops hl, h5.loops hl, h6.loops hl (Nat.le_refl _)⟩)
            (fun _ _ _ _ h _ => h) ⟨Nat.le_refl _, he7, b7, hC60, bl7, bs7, hm7⟩
          case hassign =>
            intro l x W K hK
            simp only [encK]
            gi_wp2
            exact hK
          case hbody =>
            intro l pre x W ⟨i0, i1, i2, i3, i4, i5, i6⟩
            have hs2 : s < 2 ^ m.orders.length := HN.out ▸ hlts
            have hxn : x.1 < m.orders.length := bitsS_mem_lt hs2 x
            have hD := HD.out.ext i1
            have hxb := x.2
            obtain ⟨k, hk⟩ : ∃ k, x.1 = k := ⟨_, rfl⟩
            rw [hk] at hxn hxb
            rw [hk]
            obtain ⟨r, hr⟩ : ∃ r, costC m i s k = r := ⟨_, rfl⟩
            have hstep := costC_in m i s k (by omega) hxb
            rw [hr] at hstep
            have hlt2 := sdiff_lt (by omega) hxb
            have hcall : ∀ W', Ext W W' → Calls Try.prog 100 #[.pointer (some ⟨D, 0, none⟩), .int .i64 i, .int .i64 s, .int .i64 k, .func (.func 101) #[] #[.pointer (some ⟨w.heap.size + 1, 0, none⟩), .pointer (some ⟨lm, 0, none⟩)]] W' fun e w' => e = .returned (.int .i64 r) ∧ Ext W' w' := by
              intro W' hW'
              rw [hstep]
              refine step_any D m hch i s k hlt hxn hs2 hxb _ _ _ (fun x => costC_bd m i _ x) (enters_of Try.func101 (by kernel_rfl) rfl) W' (hD.ext hW') ?_
              intro W2 hW2 y hy hyb
              have hf : costF4 m i s (pre.map fun y : In s => y.1) i (sdiff s (2 ^ k)) y = costC m i (sdiff s (2 ^ k)) y := by
                unfold costF4; rw [if_pos (.inr ⟨rfl, hlt2⟩)]
              rw [← hf]
              refine (costs1_any (w.heap.size + 1) lm i (sdiff s (2 ^ k)) y _ hi3 (by omega) (by omega) W2 (i3.ext (hW'.trans hW2)) (i4.ext (hW'.trans hW2))).mono ?_
              rintro e w' ⟨rfl, rfl⟩
              exact ⟨rfl, Ext.refl _⟩
            have Hcall := Lib.hid hcall; clear hcall
            have Hr := Lib.hid hr; clear hr hstep hD
            have Hpre := Lib.hid hk; clear hk
            gi_wp2_with fail
            refine wpIn_region_facts 12 (by kernel_rfl) (by kernel_rfl) (fun W' => Ext W W') (costR2 (w.heap.size + 1) D i s k lm r) (Ext.drew _) ?_ ?_
            · simp only [List.take, AllOpsIn, fill, Act.put, List.setIfInBounds_toArray, List.set_cons_zero, List.set_cons_succ, Nat.reduceAdd, Deps, and_true]
              refine ⟨?_, ?_, ?_, ?_, ?_, ?_, ?_, ?_, ?_, ?_, ?_, ?_⟩
              all_goals
                intro x W' hG hd K Q hK
                try (simp only [costR2] at hd; simp only [hd] at hK ⊢)
                have HK := Lib.hid hK; clear hK
                have e0 := (i2.ext hG).c1
                have e1 := (i4.ext hG).c1
                have e2 := (i5.ext hG).c1
                gi_wp2_with fail
                first
                  | exact HK.out _ _ rfl hG (fun _ _ h => h)
                  | (refine ⟨trivial, CallsIn.inRound l (callsIn_wide.2 ((Hcall.out W' hG).mono ?_))⟩
                     rintro e w' ⟨rfl, he'⟩
                     gi_wp2
                     exact HK.out _ _ rfl (hG.trans he') costR2.same)
            · intro x W7 hG hR
              simp only [AllR, costR2, true_and] at hR
              obtain ⟨⟨⟨⟨⟨⟨⟨⟨⟨⟨⟨r0, r1⟩, r2⟩, r3⟩, r4⟩, r5⟩, r6⟩, r7⟩, r8⟩, r9⟩, r10⟩, r11⟩ := hR
              simp only [List.take, List.drop, fill, Act.put, List.setIfInBounds_toArray, List.set_cons_zero, List.set_cons_succ, Nat.reduceAdd, r0, r1, r2, r3, r4, r5, r6, r7, r8, r9, r10, r11]
              clear r0 r1 r2 r3 r4 r5 r6 r7 r8 r9 r10 r11
              have hk7 : k < 7 := by omega
              have hC7 := i3.ext hG
              have hcell := hC7.cell hi3 hs128 hk7
              have hfr := hC7.frozen (i * 896 + s * 7 + k)
              gi_wp2
              have hsz7 := hG.size
              have hne : ∀ j, j ≠ w.heap.size + 1 → (W7.setCell ⟨w.heap.size + 1, i * 896 + s * 7 + k, none⟩ (.int .i64 r)).heap[j]? = W7.heap[j]? := fun j hj => Below.heap_setCell W7 _ _ j hj
              obtain ⟨cs, hcs, _⟩ := id hC7
              refine ⟨(keepsFrom_ext hG).trans ((KeepsOthers.setCell _ _ _).from _), ⟨(hne L (by omega)).trans (Below.block hG _ (by omega)), (hne (L + 1) (by omega)).trans (Below.block hG _ (by omega))⟩, ?_, ?_, (i2.ext hG).far (by show _ ≠ w.heap.size + 1; omega) _, ?_,
                (i4.ext hG).far (by show _ ≠ w.heap.size + 1; omega) _, (i5.ext hG).far (by show _ ≠ w.heap.size + 1; omega) _, (i6.ext hG).set_ (p := ⟨w.heap.size + 1, i * 896 + s * 7 + k, none⟩) hcs _⟩
              · rw [World.size_setCell]; omega
              · exact Below.setCell (i1.trans hG) (by show _ ≤ w.heap.size + 1; omega) _
              · refine (hC7.set_ hi3 hs128 hk7 r).congr (fun l' s' k' _ _ _ => ?_)
                rw [List.map_append, List.map_singleton, Hpre.out]
                unfold costF4
                by_cases g1 : l' = i ∧ s' = s ∧ k' = k
                · obtain ⟨rfl, rfl, rfl⟩ := g1
                  simp [Hr.out]
                · rw [if_neg g1]
                  by_cases g2 : l' = i ∧ s' = s
                  · have g3 : k' ≠ k := fun e => g1 ⟨g2.1, g2.2, e⟩
                    simp [g2, g3]
                  · simp [g2]
          case hstop => intro _ _ _ _ _ _ h _; exact h.elim
          case hdone =>
            intro Dd W hDd ⟨i0, i1, i2, i3, i4, i5, i6⟩ hdef
            rw [bitsS_map] at i3
            have hp := i6.push (Nat.le_trans he7.size hDd) hDd hdef
            have hDlt := (Array.getElem?_eq_some_iff.1 hdef).1
            have hn7 : s < 2 ^ m.orders.length := HN.out ▸ hlts
            clear hdef i6
            go_wp2_with fail
            refine Handed.intro (N - (s + 1)) (by omega) (hJ2 _ _ _ ⟨_, _, _, _, _, _, _, _, _, _, _, _, _, _, _, _, _, _, _, _, _, _, _, _, _, _, _, _, _, _, _, _, _, _, _, _, _, _, _, _, _, _, _, _, _, _, _, _, _, s + 1, _, rfl, by go_num, by omega, rfl, i1, i2, i3.congr (fun l s' k' _ _ hk' => ?_), i4, hp.mono (by omega)⟩)
            unfold costF4 costF2
            by_cases g1 : l < i ∧ s' < 2 ^ m.orders.length ∨ l = i ∧ s' < s
            · rw [if_pos g1, if_pos (show (l < i ∧ s' < 2 ^ m.orders.length) ∨ l = i ∧ s' < s + 1 by rcases g1 with g | g; exact .inl g; exact .inr (by omega))]
            · rw [if_neg g1]
              by_cases g2 : l = i ∧ s' = s
              · rw [if_pos g2, if_pos (show (l < i ∧ s' < 2 ^ m.orders.length) ∨ l = i ∧ s' < s + 1 from .inr (by omega))]
                obtain ⟨rfl, rfl⟩ := g2
                split
                · rfl
                · rename_i hnm
                  refine (costC_out m l s' k' ?_).symm
                  cases hb : s'.testBit k' with
                  | false => rfl
                  | true => exact absurd (mem_bits.2 ⟨bitsS_mem_lt hn7 ⟨k', hb⟩, hb⟩) hnm
              · rw [if_neg g2, if_neg (show ¬ ((l < i ∧ s' < 2 ^ m.orders.length) ∨ l = i ∧ s' < s + 1) from fun g => by rcases g with g | g; exact g1 (.inl g); exact g2 (by omega))]
    · obtain rfl : s = N := by omega
      go_wp2_with fail
      refine Handed.intro (m.laced.length - (i + 1)) (by omega) (hJ _ _ _ ⟨_, _, _, _, _, _, _, _, _, _, _, _, _, _, _, _, _, _, _, _, _, _, _, _, _, _, _, _, _, _, _, _, _, _, _, _, _, _, _, _, _, _, _, _, _, _, _, _, _, _, _, _, i + 1, ds, rfl, by go_num, by omega, rfl, he4, b4, hC4.congr (fun l s' k _ _ _ => ?_), hm4⟩)
      unfold costF1 costF2
      rw [← HN.out]
      have e1 : (l < i ∧ s' < s ∨ l = i ∧ s' < s) ↔ (l < i + 1 ∧ s' < s) := by omega
      simp only [e1]
  · obtain rfl : i = m.laced.length := by omega
    go_wp2
    refine leaves_marks' ds W1 hm1 (fun W' => results_tmp rfl _ _ _) (fun W' hq => ⟨_, rfl, by omega, ?_, hq.ext he1 (Nat.le_refl _)⟩)
    obtain ⟨cs, c1, c2, c3⟩ := hC1
    exact ⟨cs, hq.blk c1, c2, fun l s k hl hs hk => by rw [c3 l s k hl hs hk]; rfl⟩
end Go.Proofs.Pet

namespace Go.Proofs.Pet
open Go Go.RowKit Go.Maps Go.Shelf

theorem cheapest_any (B l s : Nat) (hl : l < 3) (hs : s < 128) (f : Nat → Nat → Nat → Int) (r : Int) (hr : (if s = 0 then 0 else ((List.range 7).map (f l s)).foldl min 99) = r) (w : World) (hc : CostsAt w B f) :
    Calls Try.prog 50 #[.pointer (some ⟨B, 0, none⟩), .int .i64 (l : Int), .int .i64 (s : Int)] w fun e w' => e = .returned (.int .i64 r) ∧ w = w' := by
  by_cases h0 : s = 0
  · subst h0
    rw [if_pos rfl] at hr
    subst hr
    go_enter Try.func50, Try.ntmps50
    go_wp2
    go_ret
    exact ⟨rfl, rfl⟩
  · rw [if_neg h0] at hr
    have hd : ((s : Int) == 0) = false := by simpa using h0
    have hI : IntsAt w (some ⟨B, l * 896 + s * 7, none⟩) ((List.range 7).map (f l s)) := by
      intro k hk
      have hk7 : k < 7 := by simpa using hk
      refine ⟨B, l * 896 + s * 7, rfl, ?_⟩
      rw [hc.cell hl hs hk7]
      simp [hk7]
    have H := Lib.hid (least_any 99 _ 7 7 _ (by simp) r hr w (by simp [maxLen]) hI)
    clear hr hI hc
    go_enter Try.func50, Try.ntmps50
    go_wp2_with fail
    refine H.out.mono ?_
    rintro e w' ⟨rfl, rfl⟩
    go_wp2
    go_ret
    exact ⟨rfl, rfl⟩

/-- the next smaller set within another one -/
theorem next_sub : ∀ (all own j : Nat), own &&& all = own → j &&& all = j → j < own → j ≤ (own - 1) &&& all := by
  intro all
  induction all using Nat.strongRecOn with
  | _ all ih =>
    intro own j ho hj hlt
    by_cases ha : all = 0
    · subst ha
      simp at ho
      omega
    · have d1 : own / 2 &&& all / 2 = own / 2 := by rw [← Nat.and_div_two, ho]
      have d2 : j / 2 &&& all / 2 = j / 2 := by rw [← Nat.and_div_two, hj]
      have e1 : (own - 1 &&& all) / 2 = (own - 1) / 2 &&& all / 2 := Nat.and_div_two
      have mod2 : ∀ a b : Nat, (a &&& b) % 2 = a % 2 &&& b % 2 := fun a b => by simpa using @Nat.and_mod_two_pow a b 1
      have m1 := mod2 (own - 1) all
      have m2 := mod2 own all
      have m3 := mod2 j all
      rw [ho] at m2
      rw [hj] at m3
      rcases Nat.mod_two_eq_zero_or_one own with h1 | h1
      · have h2 : (own - 1) % 2 = 1 := by omega
        have h3 : (own - 1) / 2 = own / 2 - 1 := by omega
        have h4 : j / 2 < own / 2 ∨ own = 0 := by omega
        rcases h4 with h4 | h4
        · have h5 := ih (all / 2) (by omega) (own / 2) (j / 2) d1 d2 h4
          rw [← h3, ← e1] at h5
          rcases Nat.mod_two_eq_zero_or_one all with h6 | h6
          · rw [h6] at m3
            have h7 : j % 2 = 0 := by rw [m3]; simp
            omega
          · rw [h2, h6] at m1
            have h7 : (own - 1 &&& all) % 2 = 1 := by rw [m1]; decide
            omega
        · omega
      · have h3 : (own - 1) / 2 = own / 2 := by omega
        rw [h3, d1] at e1
        omega
theorem wrapU (x : Int) (h0 : 0 ≤ x) (h1 : x < 18446744073709551616) : IntKind.u64.wrap x = x := by
  rw [IntKind.wrap_u64]; omega
theorem ofIntU (a : Nat) (ha : a < 18446744073709551616) : (BitVec.ofInt 64 (a : Int)).toNat = a := by
  rw [BitVec.ofInt_natCast, BitVec.toNat_ofNat]; exact Nat.mod_eq_of_lt (by omega)
theorem and32 (N : Nat) (hN : N ≤ 1000) : Go.bits .and .u64 (N : Int) 4294967295 = (N : Int) := by
  show IntKind.u64.wrap ((BitVec.ofInt 64 (N : Int) &&& BitVec.ofInt 64 ((4294967295 : Nat) : Int)).toNat : Int) = _
  rw [BitVec.toNat_and, ofIntU N (by omega), ofIntU 4294967295 (by omega)]
  have h : N &&& 4294967295 = N := by
    have := Nat.and_two_pow_sub_one_eq_mod N 32
    have h2 : (2 : Nat) ^ 32 - 1 = 4294967295 := by decide
    rw [h2] at this
    rw [this]; exact Nat.mod_eq_of_lt (by omega)
  rw [h, wrapU _ (by omega) (by omega)]

theorem mul64_one (N : Nat) (hN : N ≤ 1000) (w : World) :
    Calls Try.prog 165 #[.int .u64 1, .int .u64 (N : Int)] w fun e w' => e = .returned (.tuple #[.int .u64 0, .int .u64 (N : Int)]) ∧ w = w' := by
  go_enter Try.func165, Try.ntmps165
  go_wp2
  have h1 : Go.bits .and .u64 1 4294967295 = 1 := by decide
  have h2 : (N : Int) / 4294967296 = 0 := by omega
  have h3 : Go.bits .and .u64 0 4294967295 = 0 := by decide
  have hw := wrapU N (by omega) (by omega)
  have hz := wrapU 0 (by omega) (by omega)
  simp only [h1, and32 N hN, h2, Int.one_mul, Int.mul_zero, hw, hz, h3, Int.add_zero]
  have hz2 : (0 : Int) / 4294967296 = 0 := by decide
  simp only [hz2, hz, Int.add_zero]
  go_ret2
  exact ⟨rfl, rfl⟩
theorem mul_one_ (N : Nat) (hN : N ≤ 1000) (w : World) :
    Calls Try.prog 148 #[.int .u64 1, .int .u64 (N : Int)] w fun e w' => e = .returned (.tuple #[.int .u64 0, .int .u64 (N : Int)]) ∧ w = w' := by
  have H := Lib.hid (mul64_one N hN w)
  go_enter Try.func148, Try.ntmps148
  go_wp2_with fail
  refine H.out.mono ?_
  rintro e w' ⟨rfl, rfl⟩
  go_wp2
  go_ret2
  exact ⟨rfl, rfl⟩
end Go.Proofs.Pet

namespace Go.Proofs.Pet
open Go Go.RowKit Go.Maps Go.Shelf

/-- a row whose first n cells hold c -/
def repRow (c : Int) (n N : Nat) : Array Value := (List.replicate n (Value.int .i64 c) ++ List.replicate (N - n) (Value.int .i64 0)).toArray
theorem repRow_size (c : Int) (n N : Nat) (h : n ≤ N) : (repRow c n N).size = N := by simp [repRow]; omega
theorem repRow_full (c : Int) (N : Nat) : repRow c N N = Array.replicate N (.int .i64 c) := by
  apply Array.toList_inj.1; simp [repRow]
theorem repRow_get (c : Int) (n N j : Nat) (h : j < n) : (repRow c n N)[j]? = some (.int .i64 c) := by
  unfold repRow
  rw [List.getElem?_toArray, List.getElem?_append_left (by simpa using h)]
  simp [h]
theorem repRow_at (c : Int) (n N j : Nat) (h : n ≤ N) : (repRow c n N).toList[j]? = if j < n then some (.int .i64 c) else if j < N then some (.int .i64 0) else none := by
  unfold repRow
  simp only
  rw [List.getElem?_append]
  simp only [List.length_replicate, List.getElem?_replicate]
  by_cases h1 : j < n
  · rw [if_pos h1, if_pos h1, if_pos h1]
  · rw [if_neg h1, if_neg h1]
    by_cases h2 : j < N
    · rw [if_pos (by omega), if_pos h2]
    · rw [if_neg (by omega), if_neg h2]
theorem repRow_fill (c : Int) (n m k N : Nat) (h : n ≤ m) (hm : m ≤ n + k) (hk : n + k ≤ N) :
    ((repRow c m N).toList.take n ++ List.replicate k (Value.int .i64 c) ++ (repRow c m N).toList.drop (n + k)).toArray = repRow c (n + k) N := by
  have hl : (repRow c m N).toList.length = N := by rw [Array.length_toList, repRow_size c m N (by omega)]
  apply Array.toList_inj.1
  simp only
  apply List.ext_getElem?
  intro j
  rw [repRow_at c (n + k) N j hk, List.append_assoc, List.getElem?_append]
  have e1 : ((repRow c m N).toList.take n).length = n := by rw [List.length_take, hl]; omega
  rw [e1]
  by_cases h1 : j < n
  · rw [if_pos h1, List.getElem?_take, if_pos h1, repRow_at c m N j (by omega), if_pos (by omega), if_pos (by omega)]
  · rw [if_neg h1, List.getElem?_append, List.length_replicate]
    by_cases h2 : j < n + k
    · rw [if_pos (by omega), List.getElem?_replicate, if_pos (by omega), if_pos h2]
    · rw [if_neg (by omega), List.getElem?_drop, repRow_at c m N _ (by omega), if_neg (by omega), if_neg h2]
      have e2 : n + k + (j - n - k) = j := by omega
      rw [e2]
theorem info_sz : (Try.prog.info? 3).map (·.size) = some 1 := by kernel_rfl
theorem rep_copy {W : World} {S n m N : Nat} {c : Int} (hb : Blk W S 3 (repRow c m N)) (k : Nat) (h : n ≤ m) (hm : m ≤ n + k) (hk : k = Nat.min n (N - n)) (hn : n ≤ N) (ty : TypeId) (d1 d2 : Nat) :
    (Builtin.copy_ #[28, 28] ty #[.slice (some ⟨S, n, none⟩) (N - n) d1, .slice (some ⟨S, 0, none⟩) n d2]).run Try.prog W = .ok (goInt (k : Nat)) (W.setRow S (repRow c (n + k) N)) := by
  have hkN : n + k ≤ N := by rw [hk]; have := Nat.min_le_right n (N - n); simp only [Nat.min_def]; split <;> omega
  have hkn : k ≤ n := by rw [hk]; exact Nat.min_le_left _ _
  have := run_copy_row (P := Try.prog) W 28 28 ty 3 S n (N - n) d1 ⟨S, 0, none⟩ n d2 (repRow c m N) 3 (List.replicate k (Value.int .i64 c))
    Try.underlying28 info_sz hb (by simp [hk]) (fun j v hv => by
      have hj : j < k := by
        have := (List.getElem?_eq_some_iff.1 hv).1
        simpa using this
      have hv' : v = .int .i64 c := by
        rw [List.getElem?_replicate, if_pos hj] at hv
        exact (Option.some.inj hv).symm
      have := hb.cell j
      rw [repRow_get c m N j (by omega)] at this
      have hadd : (⟨S, 0, none⟩ : Addr).add j = ⟨S, j, none⟩ := by unfold Addr.add; split <;> simp_all
      rw [hv', hadd]
      exact this) (by rw [List.length_replicate, repRow_size c m N (by omega)]; omega) (fun v hv => by rw [List.eq_of_mem_replicate hv]; rfl)
  rw [List.length_replicate, repRow_fill c n m k N h hm hkN] at this
  exact this
def repR (S n k N : Nat) (c : Int) (_d1 : Nat) : Nat → Value → World → Prop
  | 0 => fun v _ => v = .int .i64 n
  | 1 => fun v _ => v = .slice (some ⟨S, 0, none⟩) N N
  | 2 => fun v _ => v = .int .i64 n
  | 3 => fun v _ => v = .slice (some ⟨S, n, none⟩) (N - n) (N - n)
  | 4 => fun v _ => v = .slice (some ⟨S, 0, none⟩) N N
  | 5 => fun v _ => v = .int .i64 n
  | 6 => fun v _ => v = .slice (some ⟨S, 0, none⟩) n N
  | 7 => fun v W => v = .int .i64 k ∧ Blk W S 3 (repRow c (n + k) N)
  | _ => fun _ _ => True

set_option maxHeartbeats 1000000 in
set_option maxRecDepth 20000 in
theorem repeat_any (c : Int) (A : Option Addr) (cap N : Nat) (hN : N ≤ 1000) (w : World) (hx : IntsAt w A [c]) (_hcap : 1 ≤ cap ∧ cap ≤ maxLen) :
    Calls Try.prog 102 #[.slice A 1 cap, .int .i64 (N : Int)] w fun e w' => ∃ S, e = .returned (.slice (some ⟨S, 0, none⟩) N N) ∧ w.heap.size ≤ S ∧ Blk w' S 3 (Array.replicate N (.int .i64 c)) ∧ Ext w w' := by
  obtain ⟨i, hi, hz0, hz1, hz2⟩ := info_parts info_int
  have hmk : ∀ W : World, (Instr.makeSlice 28 (.int .i64 (N : Int)) (.int .i64 (N : Int))).run Try.prog W = .ok (.slice (some ⟨W.heap.size, 0, none⟩) N N) (W.alloc (.cells (repRow c 0 N) 3)) := by
    intro W
    have := run_make (P := Try.prog) W 28 3 i _ Try.underlying28 hi hz0 .i64 .i64 N N (by omega) (by omega) (by rw [hz2]; omega) (by omega)
    have e : madeCells #[Value.int .i64 0] N = repRow c 0 N := by
      apply Array.ext
      · simp [madeCells, repRow_size]
      · intro j h1 h2
        have h3 := repRow_at c 0 N j (by omega)
        rw [repRow_size c 0 N (by omega)] at h2
        rw [if_neg (by omega), if_pos h2] at h3
        have : (repRow c 0 N)[j] = Value.int .i64 0 := by
          have h4 : (repRow c 0 N)[j]? = some (Value.int .i64 0) := by rw [← Array.getElem?_toList]; exact h3
          exact (Array.getElem?_eq_some_iff.1 h4).2
        rw [this]
        simp [madeCells, Nat.mod_one]
    simpa [hz1, Value.cells, e] using this
  have hE := Ext.alloc w (.cells (repRow c 0 N) 3)
  have hm := Lib.hid (mul_one_ N hN w)
  have hb0 := Blk.new w 3 (repRow c 0 N)
  obtain ⟨n0, W1, hcp, hn0, hn0', hb1, hE1⟩ : ∃ (n0 : Nat) (W1 : World), (Builtin.copy_ #[28, 28] 3 #[.slice (some ⟨w.heap.size, 0, none⟩) N N, .slice A 1 cap]).run Try.prog (w.alloc (.cells (repRow c 0 N) 3)) = .ok (goInt (n0 : Nat)) W1 ∧
      n0 ≤ N ∧ (n0 = 0 → N = 0) ∧ Blk W1 w.heap.size 3 (repRow c n0 N) ∧ Ext w W1 := by
    by_cases hN0 : N = 0
    · subst hN0
      exact ⟨0, _, run_copy_none _ 28 28 3 3 _ _ _ _ _ _ Try.underlying28 info_sz rfl, by omega, fun _ => rfl, hb0, hE⟩
    · obtain ⟨b, o, rfl, hc⟩ := hx 0 (by simp)
      have := run_copy_row (P := Try.prog) (w.alloc (.cells (repRow c 0 N) 3)) 28 28 3 3 w.heap.size 0 N N ⟨b, o, none⟩ 1 cap (repRow c 0 N) 3 (List.replicate 1 (Value.int .i64 c))
        Try.underlying28 info_sz hb0 (by simp only [List.length_replicate, Nat.min_def]; rw [if_pos (by omega)]) (fun j v hv => by
          have hj : j < 1 := by
            have := (List.getElem?_eq_some_iff.1 hv).1
            simpa using this
          obtain rfl : j = 0 := by omega
          have hv' : v = .int .i64 c := by simpa using hv.symm
          have hadd : (⟨b, o, none⟩ : Addr).add 0 = ⟨b, o + 0, none⟩ := by unfold Addr.add; split <;> simp_all
          rw [hv', hadd]
          simpa using hE.cell hc) (by rw [List.length_replicate, repRow_size c 0 N (by omega)]; omega) (fun v hv => by rw [List.eq_of_mem_replicate hv]; rfl)
      have hf := repRow_fill c 0 0 1 N (by omega) (by omega) (by omega)
      rw [List.length_replicate] at this
      rw [hf] at this
      exact ⟨1, _, this, by omega, fun h => by omega, setRow_heap _ _ _ _ _ _ hb0, below_setRow hE (Nat.le_refl _) _⟩
  clear hb0 hx
  go_enter Try.func102, Try.ntmps102
  go_wp2_with fail
  refine hm.out.mono ?_
  rintro e w' ⟨rfl, rfl⟩
  go_wp2_with fail
  go_loopw [8] (fun v wr => ∃ n : Nat, v = .int .i64 n ∧ n ≤ N ∧ (n = 0 → N = 0) ∧ Blk wr w.heap.size 3 (repRow c n N) ∧ Ext w wr) (fun v _ => N - (intOf v).toNat)
  case atStart => exact ⟨n0, rfl, hn0, hn0', hb1, hE1⟩
  case round =>
    obtain ⟨n, rfl, hn, hn', hb, he⟩ := hrel
    by_cases hlt : n < N
    · go_wp2_with fail
      have hn1 : 1 ≤ n := by rcases Nat.eq_zero_or_pos n with h | h; exact absurd (hn' h) (by omega); exact h
      obtain ⟨k, hk⟩ : ∃ k, k = Nat.min n (N - n) := ⟨_, rfl⟩
      have hk1 : 1 ≤ k ∧ k ≤ N - n := by rw [hk]; simp only [Nat.min_def]; split <;> omega
      have Hk := Lib.hid hk; clear hk
      refine wp_region_facts 8 (by kernel_rfl) (by kernel_rfl) (fun W' => Ext w W' ∧ ∃ mm, n ≤ mm ∧ mm ≤ n + k ∧ Blk W' w.heap.size 3 (repRow c mm N)) (repR w.heap.size n k N c 0) ⟨he.trans (Ext.drew _), n, Nat.le_refl _, by omega, hb.drew⟩ ?_ ?_
      · simp only [List.take, AllOps, fill, Act.put, List.setIfInBounds_toArray, List.set_cons_zero, List.set_cons_succ, Nat.reduceAdd, Deps, and_true]
        refine ⟨?_, ?_, ?_, ?_, ?_, ?_, ?_, ?_⟩
        all_goals
          intro x W hG hd K Q hK
          try (simp only [repR] at hd; simp only [hd] at hK ⊢)
        · have HK := Lib.hid hK; clear hK; go_wp2; exact HK.out _ _ rfl hG (fun _ _ h => h)
        · have HK := Lib.hid hK; clear hK; go_wp2; exact HK.out _ _ rfl hG (fun _ _ h => h)
        · have HK := Lib.hid hK; clear hK; go_wp2; exact HK.out _ _ rfl hG (fun _ _ h => h)
        · have HK := Lib.hid hK; clear hK; go_wp2; exact HK.out _ _ rfl hG (fun _ _ h => h)
        · have HK := Lib.hid hK; clear hK; go_wp2; exact HK.out _ _ rfl hG (fun _ _ h => h)
        · have HK := Lib.hid hK; clear hK; go_wp2; exact HK.out _ _ rfl hG (fun _ _ h => h)
        · have HK := Lib.hid hK; clear hK; go_wp2; exact HK.out _ _ rfl hG (fun _ _ h => h)
        · obtain ⟨hG1, mm, hm1, hm2, hbm⟩ := hG
          have hcp2 := rep_copy (W := W) hbm k hm1 hm2 Hk.out hn 3 (N - n) N
          have hW2 : Blk (W.setRow w.heap.size (repRow c (n + k) N)) w.heap.size 3 (repRow c (n + k) N) := setRow_heap _ _ _ _ _ _ hbm
          have hE2 : Ext w (W.setRow w.heap.size (repRow c (n + k) N)) := below_setRow hG1 (Nat.le_refl _) _
          have HK := Lib.hid hK; clear hK hbm
          go_wp2
          refine HK.out _ _ ⟨rfl, hW2⟩ ⟨hE2, n + k, by omega, by omega, hW2⟩ (fun j u h => ?_)
          match j, h with
          | 0, h | 1, h | 2, h | 3, h | 4, h | 5, h | 6, h => exact h
          | 7, h => exact ⟨h.1, hW2⟩
          | _ + 8, h => trivial
      · intro x W hG hR
        simp only [AllR, repR, true_and] at hR
        obtain ⟨⟨⟨⟨⟨⟨⟨r0, r1⟩, r2⟩, r3⟩, r4⟩, r5⟩, r6⟩, r7, hbW⟩ := hR
        simp only [List.take, List.drop, fill, Act.put, List.setIfInBounds_toArray, List.set_cons_zero, List.set_cons_succ, Nat.reduceAdd, r0, r1, r2, r3, r4, r5, r6, r7]
        clear r0 r1 r2 r3 r4 r5 r6 r7
        have heW := hG.1
        clear hG
        go_wp2
        go_roundw
        case rel => exact ⟨n + k, by go_num, by omega, fun h => by omega, hbW, heW⟩
        case measure => simp [intOf]; omega
    · obtain rfl : n = N := by omega
      rw [repRow_full] at hb
      go_wp2
      go_ret
      exact ⟨_, rfl, Nat.le_refl _, hb, he⟩
end Go.Proofs.Pet

namespace Go.Proofs.Pet
open Go Go.RowKit Go.Maps Go.Shelf

/-- a row of numbers, known whole -/
def Row (w : World) (b N : Nat) (f : Nat → Int) : Prop := ∃ cs, Blk w b 3 cs ∧ cs.size = N ∧ ∀ j, j < N → cs[j]? = some (.int .i64 (f j))
section
variable {w w' : World} {b N : Nat} {f g : Nat → Int}
theorem Row.cell (h : Row w b N f) {j : Nat} (hj : j < N) : w.cell? ⟨b, j, none⟩ = some (.int .i64 (f j)) := by
  obtain ⟨cs, h1, h2, h3⟩ := h
  rw [h1.cell, h3 j hj]
theorem Row.frozen (h : Row w b N f) (j : Nat) : w.frozen? ⟨b, j, none⟩ = false := by
  obtain ⟨cs, h1, h2, h3⟩ := h
  exact h1.frozen j
theorem Row.ext (h : Row w b N f) (he : Ext w w') : Row w' b N f := by
  obtain ⟨cs, h1, h2, h3⟩ := h
  exact ⟨cs, h1.ext he, h2, h3⟩
theorem Row.lt (h : Row w b N f) : b < w.heap.size := by
  obtain ⟨cs, h1, h2, h3⟩ := h
  exact h1.lt
theorem Row.congr (h : Row w b N f) (hg : ∀ j, j < N → f j = g j) : Row w b N g := by
  obtain ⟨cs, h1, h2, h3⟩ := h
  exact ⟨cs, h1, h2, fun j hj => by rw [h3 j hj, hg j hj]⟩
theorem Row.far (h : Row w b N f) {p : Addr} (hp : b ≠ p.block) (u : Value) : Row (w.setCell p u) b N f := by
  obtain ⟨cs, h1, h2, h3⟩ := h
  exact ⟨cs, h1.far hp u, h2, h3⟩
theorem Row.set_ (h : Row w b N f) {j : Nat} (_hj : j < N) (v : Int) : Row (w.setCell ⟨b, j, none⟩ (.int .i64 v)) b N (fun j' => if j' = j then v else f j') := by
  obtain ⟨cs, h1, h2, h3⟩ := h
  refine ⟨_, h1.set_ _ _, by simpa using h2, fun j' hj' => ?_⟩
  rw [Array.getElem?_setIfInBounds]
  dsimp only
  by_cases e : j = j'
  · rw [if_pos e, if_pos (by omega), if_pos e.symm]
  · rw [if_neg e, if_neg (fun h => e h.symm), h3 j' hj']
theorem Row.const {c : Int} (hb : Blk w b 3 (Array.replicate N (.int .i64 c))) : Row w b N (fun _ => c) :=
  ⟨_, hb, by simp, fun j hj => by rw [Array.getElem?_replicate, if_pos hj]⟩
end

/-- rows in a row: those from lo up to hi are known whole, and lie below lim -/
def RowsTo (w : World) (S n1 N lo hi lim : Nat) (F : Nat → Nat → Int) : Prop :=
  ∃ (cs : Array Value) (bs : Nat → Nat), Blk w S 28 cs ∧ cs.size = n1 ∧ ∀ i, lo ≤ i → i < hi → cs[i]? = some (.slice (some ⟨bs i, 0, none⟩) N N) ∧ bs i < lim ∧ Row w (bs i) N (F i)
section
variable {w w' : World} {S n1 N lo hi lim : Nat} {F G : Nat → Nat → Int}
theorem RowsTo.frozen (h : RowsTo w S n1 N lo hi lim F) (j : Nat) : w.frozen? ⟨S, j, none⟩ = false := by
  obtain ⟨cs, bs, h1, h2, h3⟩ := h
  exact h1.frozen j
theorem RowsTo.ext (h : RowsTo w S n1 N lo hi lim F) (he : Ext w w') : RowsTo w' S n1 N lo hi lim F := by
  obtain ⟨cs, bs, h1, h2, h3⟩ := h
  exact ⟨cs, bs, h1.ext he, h2, fun i h4 h5 => ⟨(h3 i h4 h5).1, (h3 i h4 h5).2.1, (h3 i h4 h5).2.2.ext he⟩⟩
theorem RowsTo.lim_ (h : RowsTo w S n1 N lo hi lim F) {lim' : Nat} (hl : lim ≤ lim') : RowsTo w S n1 N lo hi lim' F := by
  obtain ⟨cs, bs, h1, h2, h3⟩ := h
  exact ⟨cs, bs, h1, h2, fun i h4 h5 => ⟨(h3 i h4 h5).1, Nat.lt_of_lt_of_le (h3 i h4 h5).2.1 hl, (h3 i h4 h5).2.2⟩⟩
theorem RowsTo.far (h : RowsTo w S n1 N lo hi lim F) {p : Addr} (hp : S ≠ p.block) (hl : lim ≤ p.block) (u : Value) : RowsTo (w.setCell p u) S n1 N lo hi lim F := by
  obtain ⟨cs, bs, h1, h2, h3⟩ := h
  exact ⟨cs, bs, h1.far hp u, h2, fun i h4 h5 => ⟨(h3 i h4 h5).1, (h3 i h4 h5).2.1, (h3 i h4 h5).2.2.far (by have := (h3 i h4 h5).2.1; omega) u⟩⟩
theorem RowsTo.farS (h : RowsTo w S n1 N lo hi lim F) {p : Addr} (hp : S ≠ p.block) {cs' : Array Value} (hb : Blk w p.block 28 cs') (u : Value) : RowsTo (w.setCell p u) S n1 N lo hi lim F := by
  obtain ⟨cs, bs, h1, h2, h3⟩ := h
  refine ⟨cs, bs, h1.far hp u, h2, fun i h4 h5 => ⟨(h3 i h4 h5).1, (h3 i h4 h5).2.1, ?_⟩⟩
  have hr := (h3 i h4 h5).2.2
  refine hr.far (fun e => ?_) u
  obtain ⟨_, q, _⟩ := hr
  rw [e] at q
  exact q.ne_ hb (by decide) rfl
theorem RowsTo.blk (h : RowsTo w S n1 N lo hi lim F) : ∃ cs, Blk w S 28 cs := by
  obtain ⟨cs, bs, h1, h2, h3⟩ := h
  exact ⟨cs, h1⟩
theorem RowsTo.at_ (h : RowsTo w S n1 N lo hi lim F) {i : Nat} (h1 : lo ≤ i) (h2 : i < hi) : ∃ b, w.cell? ⟨S, i, none⟩ = some (.slice (some ⟨b, 0, none⟩) N N) ∧ b < lim ∧ Row w b N (F i) := by
  obtain ⟨cs, bs, h3, h4, h5⟩ := h
  exact ⟨bs i, by rw [h3.cell, (h5 i h1 h2).1], (h5 i h1 h2).2⟩
theorem RowsTo.some_ (h : RowsTo w S n1 N lo hi lim F) {i : Nat} (hi' : i < n1) : ∃ v, w.cell? ⟨S, i, none⟩ = some v := by
  obtain ⟨cs, bs, h3, h4, h5⟩ := h
  exact ⟨cs[i], by rw [h3.cell, Array.getElem?_eq_getElem (by omega)]⟩
theorem RowsTo.push (h : RowsTo w S n1 N lo hi lim F) (hn : hi < n1) {b lim' : Nat} (hb : Row w b N (F hi)) (hl : lim ≤ lim') (hbl : b < lim') :
    RowsTo (w.setCell ⟨S, hi, none⟩ (.slice (some ⟨b, 0, none⟩) N N)) S n1 N lo (hi + 1) lim' F := by
  obtain ⟨cs, bs, h1, h2, h3⟩ := h
  have hne : ∀ b' f, Row w b' N f → b' ≠ S := by
    rintro b' f ⟨cs', g1, _, _⟩ rfl
    exact g1.ne_ h1 (by decide) rfl
  refine ⟨_, fun i => if i = hi then b else bs i, h1.set_ _ _, by simpa using h2, fun i h4 h5 => ?_⟩
  rw [Array.getElem?_setIfInBounds]
  by_cases e : i = hi
  · subst e
    rw [if_pos rfl, if_pos (by omega)]
    simp only [if_true]
    exact ⟨trivial, hbl, hb.far (hne _ _ hb) _⟩
  · rw [if_neg (fun h => e h.symm)]
    simp only [e, if_false]
    have h6 := h3 i h4 (by omega)
    exact ⟨h6.1, by omega, h6.2.2.far (hne _ _ h6.2.2) _⟩
end

/-- the best way to give some orders of a set to one more loom: those tried from the greatest set down -/
def pickA (num rest : Nat → Int) (all : Nat) : Nat → Int × Nat
  | 0 => (297, 0)
  | c + 1 =>
    let own := all - c
    let p := pickA num rest all c
    if own &&& all = own then (if num own < 99 ∧ rest (sdiff all own) < 297 ∧ num own + rest (sdiff all own) < p.1 then (num own + rest (sdiff all own), own) else p) else p
def sumF (num : Nat → Nat → Int) : Nat → Nat → Int
  | 0, all => if all = 0 then 0 else 297
  | l + 1, all => (pickA (num l) (sumF num l) all (all + 1)).1
def getF (num : Nat → Nat → Int) (l all : Nat) : Nat := (pickA (num l) (sumF num l) all (all + 1)).2
theorem pickA_skip (num rest : Nat → Int) (all c : Nat) : ∀ k, (∀ d, c ≤ d → d < c + k → (all - d) &&& all ≠ all - d) → pickA num rest all (c + k) = pickA num rest all c
  | 0, _ => rfl
  | k + 1, h => by
    rw [show c + (k + 1) = c + k + 1 by omega, pickA]
    rw [if_neg (h (c + k) (by omega) (by omega))]
    exact pickA_skip num rest all c k (fun d h1 h2 => h d h1 (by omega))
theorem pickA_next (num rest : Nat → Int) (all own : Nat) (ho : own &&& all = own) (h0 : own ≠ 0) (hle : own ≤ all) :
    pickA num rest all (all - ((own - 1) &&& all)) = pickA num rest all (all - own + 1) := by
  have h1 : (own - 1) &&& all ≤ own - 1 := Nat.and_le_left
  obtain ⟨k, hk⟩ : ∃ k, all - ((own - 1) &&& all) = all - own + 1 + k := ⟨all - ((own - 1) &&& all) - (all - own + 1), by omega⟩
  rw [hk]
  refine pickA_skip num rest all _ k fun d h2 h3 h4 => ?_
  have := next_sub all own (all - d) ho h4 (by omega)
  omega
theorem pickA_bd (num rest : Nat → Int) (all : Nat) (hn : ∀ s, 0 ≤ num s) (hr : ∀ s, 0 ≤ rest s) : ∀ c, 0 ≤ (pickA num rest all c).1 ∧ (pickA num rest all c).1 ≤ 297 ∧ (pickA num rest all c).2 ≤ all
  | 0 => by simp [pickA]
  | c + 1 => by
    have ih := pickA_bd num rest all hn hr c
    have h1 := hn (all - c)
    have h2 := hr (sdiff all (all - c))
    unfold pickA
    dsimp only
    split
    · split
      · dsimp only; omega
      · exact ih
    · exact ih
theorem sumF_bd (num : Nat → Nat → Int) (hn : ∀ l s, 0 ≤ num l s) : ∀ l s, 0 ≤ sumF num l s ∧ sumF num l s ≤ 297
  | 0, s => by unfold sumF; split <;> omega
  | l + 1, s => by
    have := pickA_bd (num l) (sumF num l) s (hn l) (fun s => (sumF_bd num hn l s).1) (s + 1)
    unfold sumF; omega
end Go.Proofs.Pet
