/-
  Chains of cards taken round: CheckChain, round, lift, Differ.
-/
import Derived.Test.YtknokjnplbdmeaaP21
import Derived.Test.YtknokjnplbdmeaaV1
import Derived.Test.YtknokjnplbdmeaaC1
namespace Go.Proofs.Pet
open Go Go.RowKit Go.Maps Go.Shelf

/-- a chain of width 2 that is taken round -/
def ChainVal (w : World) (v : Value) (cs : List Int) : Prop := ∃ A c, cs.length ≤ c ∧ c ≤ maxLen ∧ v = .agg #[.int .i64 2, .slice A cs.length c, .int .i64 0, .int .i64 0] ∧ IntsAt w A cs
theorem ChainVal.ext {w w' : World} {v : Value} {cs : List Int} (h : ChainVal w v cs) (he : Ext w w') : ChainVal w' v cs := by
  obtain ⟨A, c, h1, h2, h3, h4⟩ := h
  exact ⟨A, c, h1, h2, h3, h4.ext he⟩
instance {w w' : World} {v : Value} {cs : List Int} : Lift (ChainVal w v cs) w w' (ChainVal w' v cs) := ⟨fun he h => h.ext he⟩
def CardsOk (cs : List Int) : Prop := ChainOk cs ∧ ∀ x, x ∈ cs → 0 ≤ x ∧ x ≤ 1
theorem cardIn_any (n lo hi : Int) (q : Bool) (hq : inB n lo hi = q) (w : World) :
    Calls Try.prog 144 #[.int .i64 n, .int .i64 lo, .int .i64 hi] w fun e w' => e = .returned (.bool q) ∧ w = w' := by
  subst hq
  unfold inB
  by_cases h1 : lo ≤ n
  · by_cases h2 : n ≤ hi
    · go_enter Try.func144, Try.ntmps144
      go_wp2
      go_ret
      exact ⟨by simp [h1, h2], rfl⟩
    · have hd : decide (n ≤ hi) = false := by simp; omega
      go_enter Try.func144, Try.ntmps144
      go_wp2
      go_ret
      exact ⟨by simp, rfl⟩
  · have hd : decide (lo ≤ n) = false := by simp; omega
    go_enter Try.func144, Try.ntmps144
    go_wp2
    go_ret
    exact ⟨by simp, rfl⟩

theorem cardEvery1 (g : Nat) (fs lb : Array Value) (eg : Enters Try.prog g) (B : Nat) (x : Int) (q : Bool) (w : World) (hp : Tells Try.prog w g fs lb IntVal x q) (hB : w.cell? ⟨B, 0, none⟩ = some (.func (.func g) fs lb)) :
    Tells Try.prog w 168 #[] #[.pointer (some ⟨B, 0, none⟩)] IntVal x (!q) := by
  intro W v hW hv
  have hB' := hW.cell hB
  obtain rfl : v = .int .i64 x := hv
  have hW' : Ext W W := Ext.refl W
  have Hp := Lib.hid hp
  clear hp hB
  have eg' := eg
  unfold Enters at eg'
  have hB2 := hW'.cell hB'
  show Calls Try.prog 168 #[_, .pointer (some ⟨B, 0, none⟩)] W _
  go_enter Try.func168, Try.ntmps168
  cases q with
  | true =>
    go_wp2_with fail
    refine (Hp.out _ _ (hW.trans hW') rfl).mono ?_
    rintro e w' ⟨rfl, he⟩
    go_wp2
    go_ret
    exact ⟨rfl, hW'.trans he⟩
  | false =>
    go_wp2_with fail
    refine (Hp.out _ _ (hW.trans hW') rfl).mono ?_
    rintro e w' ⟨rfl, he⟩
    go_wp2
    go_ret
    exact ⟨rfl, hW'.trans he⟩

theorem cardEvery (g : Nat) (fs lb : Array Value) (eg : Enters Try.prog g) (p : Int → Bool) (A : Option Addr) (c : Nat) (xs : List Int) (w : World) (hb : xs.length ≤ maxLen)
    (hx : IntsAt w A xs) (hp : ∀ x ∈ xs, Tells Try.prog w g fs lb IntVal x (p x)) :
    Calls Try.prog 146 #[.slice A xs.length c, .func (.func g) fs lb] w fun e w' => e = .returned (.bool (xs.all p)) ∧ Ext w w' := by
  have hmf : ∀ (fn : Fn) (first cap : Array Value) (w : World), (Instr.makeFunc fn first cap).run Try.prog w = .ok (.func fn first cap) w := fun _ _ _ _ => rfl
  have hq0 : xs.all p = !(xs.any fun x => !p x) := by rw [List.not_any_eq_all_not]; simp
  obtain ⟨q, hq⟩ : ∃ q, xs.any (fun x => !p x) = q := ⟨_, rfl⟩
  rw [hq0, hq]
  have hE : Ext w (w.alloc (.cells #[.func (.func g) fs lb] 115)) := Ext.alloc _ _
  have h := containsFuncI 168 #[] #[.pointer (some ⟨w.heap.size, 0, none⟩)] (enters_of Try.func168 (by kernel_rfl) rfl) (fun x => !p x) A c xs _ hb (hx.ext hE) (fun x hxm => cardEvery1 g fs lb eg w.heap.size x (p x) _ ((hp x hxm).ext hE) (cell_new_l w _ _).1)
  rw [hq] at h
  have H := Lib.hid h; clear h hx hp hq hq0
  go_enter Try.func146, Try.ntmps146
  go_wp2_with fail
  refine H.out.mono ?_
  rintro e w' ⟨rfl, he⟩
  cases q with
  | true =>
    go_wp2
    go_ret
    exact ⟨rfl, hE.trans he⟩
  | false =>
    go_wp2
    go_ret
    exact ⟨rfl, hE.trans he⟩


theorem known_any (w : World) : Calls Try.prog 145 #[.int .i64 0] w fun e w' => e = .returned (.bool true) ∧ w = w' := by
  have H := Lib.hid (cardIn_any 0 0 2 true rfl)
  go_enter Try.func145, Try.ntmps145
  go_wp2_with fail
  refine (H.out _).mono ?_
  rintro e w' ⟨rfl, rfl⟩
  go_wp2
  go_ret
  exact ⟨rfl, rfl⟩
theorem stepped_any (n : Int) (w : World) : Calls Try.prog 149 #[.agg #[.int .i64 0, .int .i64 n, .int .i64 0], .int .i64 2] w fun e w' => e = .returned (.bool true) ∧ Ext w w' := by
  have hX := Ext.alloc w (.cells #[.int .i64 0, .int .i64 n, .int .i64 0] 177)
  go_enter Try.func149, Try.ntmps149
  go_wp2
  go_ret
  exact ⟨rfl, hX⟩
theorem planC_any (v : Value) (cs : List Int) (w : World) (hv : ChainVal w v cs) : Calls Try.prog 148 #[v] w fun e w' => e = .returned (.agg #[.int .i64 0, .int .i64 cs.length, .int .i64 0]) ∧ Ext w w' := by
  obtain ⟨A, c, h1, h2, rfl, h4⟩ := hv
  clear h4
  have hX := (Ext.alloc w (.cells #[.int .i64 2, .slice A cs.length c, .int .i64 0, .int .i64 0] 100))
  have hX2 := Ext.alloc (w.alloc (.cells #[.int .i64 2, .slice A cs.length c, .int .i64 0, .int .i64 0] 100)) (.cells #[.int .i64 0, .int .i64 cs.length, .int .i64 0] 177)
  have hb := Blk.new (w.alloc (.cells #[.int .i64 2, .slice A cs.length c, .int .i64 0, .int .i64 0] 100)) 177 #[.int .i64 0, .int .i64 cs.length, .int .i64 0]
  go_enter Try.func148, Try.ntmps148
  go_wp2
  obtain ⟨v0, v1, v2⟩ := hb.c3
  refine bodyPost_ret (v := .agg #[.int .i64 0, .int .i64 cs.length, .int .i64 0]) ?_ rfl ⟨rfl, hX.trans hX2⟩
  simp [results, Try.results148, go_sem]
theorem roundC_any (v : Value) (cs : List Int) (w : World) (hv : ChainVal w v cs) : Calls Try.prog 117 #[v] w fun e w' => e = .returned (.int .i64 cs.length) ∧ Ext w w' := by
  obtain ⟨A, c, h1, h2, rfl, h4⟩ := hv
  clear h4
  have hX := (Ext.alloc w (.cells #[.int .i64 2, .slice A cs.length c, .int .i64 0, .int .i64 0] 100))
  go_enter Try.func117, Try.ntmps117
  go_wp2
  go_ret
  exact ⟨rfl, hX⟩
theorem checkChain1 (w : World) (B : Nat) (_s : Value) (hB : w.cell? ⟨B, 0, none⟩ = some (.int .i64 2)) (x : Int) : Tells Try.prog w 147 #[] #[.pointer (some ⟨B, 0, none⟩)] IntVal x (inB x 0 3) := by
  intro W v hW hv
  obtain rfl : v = .int .i64 x := hv
  have hB' := hW.cell hB
  have Hc := Lib.hid (cardIn_any x 0 3 _ rfl)
  generalize inB x 0 3 = q at Hc ⊢
  clear hB
  show Calls Try.prog 147 #[_, .pointer (some ⟨B, 0, none⟩)] W _
  go_enter Try.func147, Try.ntmps147
  go_wp2_with fail
  refine (Hc.out _).mono ?_
  rintro e w' ⟨rfl, rfl⟩
  go_wp2
  go_ret
  exact ⟨rfl, Ext.refl _⟩
end Go.Proofs.Pet
