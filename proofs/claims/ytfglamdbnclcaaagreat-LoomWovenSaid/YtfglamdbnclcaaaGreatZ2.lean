/-
  Tables as they come in: lists of lists of lists of numbers; 'every' over them.
  loom.tabled, walked.
-/
import Derived.Test.YtfglamdbnclcaaaGreatUB
import Derived.Test.YtfglamdbnclcaaaGreatT21
namespace Go.Proofs.Pet
open Go Go.RowKit Go.Maps Go.Shelf

def RowsAt (w : World) (A : Option Addr) (xss : List (List Int)) : Prop :=
  ∀ i, i < xss.length → ∃ b o u, A = some ⟨b, o, none⟩ ∧ w.cell? ⟨b, o + i, none⟩ = some u ∧ SlI w u (xss[i]?.getD [])
theorem RowsAt.ext {w w' : World} {A : Option Addr} {xss : List (List Int)} (h : RowsAt w A xss) (he : Ext w w') : RowsAt w' A xss := fun i hi => by
  obtain ⟨b, o, u, g1, g2, g3⟩ := h i hi
  exact ⟨b, o, u, g1, he.cell g2, g3.ext he⟩
def TabsAt (w : World) (A : Option Addr) (T : List (List (List Int))) : Prop :=
  ∀ i, i < T.length → ∃ b o u, A = some ⟨b, o, none⟩ ∧ w.cell? ⟨b, o + i, none⟩ = some u ∧ RowsI w u (T[i]?.getD [])
theorem TabsAt.ext {w w' : World} {A : Option Addr} {T : List (List (List Int))} (h : TabsAt w A T) (he : Ext w w') : TabsAt w' A T := fun i hi => by
  obtain ⟨b, o, u, g1, g2, g3⟩ := h i hi
  exact ⟨b, o, u, g1, he.cell g2, g3.ext he⟩
/-- a table, wherever it lies -/
def TabI (w : World) (v : Value) (T : List (List (List Int))) : Prop :=
  ∃ A c, v = .slice A T.length c ∧ T.length ≤ c ∧ c ≤ maxLen ∧ TabsAt w A T
theorem TabI.ext {w w' : World} {v : Value} {T : List (List (List Int))} (h : TabI w v T) (he : Ext w w') : TabI w' v T := by
  obtain ⟨A, c, h1, h2, h3, h4⟩ := h
  exact ⟨A, c, h1, h2, h3, h4.ext he⟩
theorem RowsI.at_ {w : World} {v : Value} {xss : List (List Int)} : RowsI w v xss ↔ ∃ A c, v = .slice A xss.length c ∧ xss.length ≤ c ∧ c ≤ maxLen ∧ RowsAt w A xss := Iff.rfl
/-! What a table says; its errors; whether it bounds; its least. -/
def tabF (T : List (List (List Int))) (l s k : Nat) : Int := ((T[l]?.getD [])[s]?.getD [])[k]?.getD 0
def sizedB (m : Mill) (T : List (List (List Int))) : Bool := T.all fun l => decide (l.length = 2 ^ m.orders.length) && l.all fun k => decide (k.length = m.orders.length)
def rangedB (T : List (List (List Int))) : Bool := T.all fun l => l.all fun k => k.all fun n => inB n 0 99
def tabE (m : Mill) (T : List (List (List Int))) : Int :=
  if checkE m = 0 then (if T.length = m.laced.length then (if sizedB m T = true then (if rangedB T = true then 0 else 3) else 2) else 2) else checkE m
structure TabOk (m : Mill) (T : List (List (List Int))) : Prop where
  ok : checkE m = 0
  len : T.length = m.laced.length
  rows : ∀ l, l < m.laced.length → (T[l]?.getD []).length = 2 ^ m.orders.length
  nums : ∀ l s, l < m.laced.length → s < 2 ^ m.orders.length → ((T[l]?.getD [])[s]?.getD []).length = m.orders.length
  bd : ∀ l s k, 0 ≤ tabF T l s k ∧ tabF T l s k ≤ 99
theorem getD_memL {α : Type} {l : List (List α)} {i : Nat} (h : i < l.length) : l[i]?.getD [] ∈ l := by
  rw [List.getElem?_eq_getElem h]; exact List.getElem_mem h
theorem tabE_ok {m : Mill} {T : List (List (List Int))} (h : tabE m T = 0) : TabOk m T := by
  unfold tabE at h
  split at h
  · rename_i hc
    split at h
    · rename_i hl
      split at h
      · rename_i hs
        split at h
        · rename_i hr
          have h1 : ∀ l, l < m.laced.length → (T[l]?.getD []).length = 2 ^ m.orders.length ∧ ∀ k, k ∈ T[l]?.getD [] → k.length = m.orders.length := fun l hl' => by
            have := List.all_eq_true.1 hs _ (getD_memL (by omega : l < T.length))
            simp only [Bool.and_eq_true, decide_eq_true_eq, List.all_eq_true] at this
            exact this
          refine ⟨hc, hl, fun l h => (h1 l h).1, fun l s h g => ?_, fun l s k => ?_⟩
          · exact (h1 l h).2 _ (getD_memL (by rw [(h1 l h).1]; exact g))
          · unfold tabF
            by_cases a1 : l < T.length
            · have q1 := List.all_eq_true.1 hr _ (getD_memL a1)
              by_cases a2 : s < (T[l]?.getD []).length
              · have q2 := List.all_eq_true.1 q1 _ (getD_memL a2)
                by_cases a3 : k < ((T[l]?.getD [])[s]?.getD []).length
                · have q3 := List.all_eq_true.1 q2 (((T[l]?.getD [])[s]?.getD [])[k]?.getD 0) (by rw [List.getElem?_eq_getElem a3]; exact List.getElem_mem a3)
                  unfold inB at q3
                  simpa using q3
                · rw [List.getElem?_eq_none (by omega)]; simp
              · rw [List.getElem?_eq_none (l := T[l]?.getD []) (by omega)]; simp
            · rw [List.getElem?_eq_none (l := T) (by omega)]; simp
        · cases h
      · cases h
    · cases h
  · rename_i hc; exact absurd h hc
def boundsQ (m : Mill) (T : Nat → Nat → Nat → Int) : Bool :=
  (List.range m.laced.length).all fun l => (List.range (2 ^ m.orders.length)).all fun s => (bits m.orders.length s).all fun k => decide (T l s k ≤ stepS m (T l) l s k)
theorem boundsQ_iff {m : Mill} {T : Nat → Nat → Nat → Int} : boundsQ m T = true ↔ ∀ l s k, l < m.laced.length → s < 2 ^ m.orders.length → k < m.orders.length → s.testBit k = true → T l s k ≤ stepS m (T l) l s k := by
  unfold boundsQ
  simp only [List.all_eq_true, List.mem_range, mem_bits, decide_eq_true_eq]
  exact ⟨fun h l s k h1 h2 h3 h4 => h l h1 s h2 k ⟨h3, h4⟩, fun h l h1 s h2 k h3 => h l s k h1 h2 h3.1 h3.2⟩
/-- what Bounds and Least answer -/
def boundE (m : Mill) (T : List (List (List Int))) : Bool × Int := (decide (tabE m T = 0) && boundsQ m (tabF T), tabE m T)
def leastE (m : Mill) (T : List (List (List Int))) : Int × Int :=
  if tabE m T = 0 then (if boundsQ m (tabF T) = true then (if 297 ≤ sumF (numT m.orders.length (tabF T)) m.laced.length (2 ^ m.orders.length - 1) then (0, 6) else (sumF (numT m.orders.length (tabF T)) m.laced.length (2 ^ m.orders.length - 1), 0)) else (0, 8)) else (0, tabE m T)

set_option maxHeartbeats 400000 in
theorem indexFuncR (g : Nat) (fs lb : Array Value) (eg : Enters Tryz.prog g) (p : (List Int) → Bool) (A : Option Addr) (c : Nat) (xs : List (List Int)) (w : World) (hb : xs.length ≤ maxLen)
    (hx : RowsAt w A xs) (hp : ∀ x ∈ xs, Tells Tryz.prog w g fs lb SlI x (p x)) :
    Calls Tryz.prog 85 #[.slice A xs.length c, .func (.func g) fs lb] w fun e w' => (∃ i : Int, (0 ≤ i ↔ xs.any p = true) ∧ e = .returned (.int .i64 i)) ∧ Ext w w' := by
  unfold maxLen at hb
  go_enter Tryz.func85, Tryz.ntmps85
  go_wp2
  go_loopw [5, 8] (fun _ i wr => ∃ k : Nat, k ≤ xs.length ∧ i = .int .i64 k ∧ Hid (∀ j, j < k → p (xs[j]?.getD []) = false) ∧ Ext w wr) (fun _ i _ => xs.length - (intOf i).toNat)
  case atStart => exact ⟨0, by omega, rfl, fun j hj => absurd hj (by omega), Ext.refl _⟩
  case round =>
    obtain ⟨k, hk, rfl, hm, he⟩ := hrel
    by_cases hlt : k < xs.length
    · obtain ⟨b, o, u, rfl, h1, h2⟩ := hx.ext he k hlt
      have hmem0 : (xs[k]?.getD []) ∈ xs := by simp [hlt]
      have hmem := Lib.hid hmem0
      generalize hgx : xs[k]?.getD [] = x at *
      have Hgx := Lib.hid hgx; clear hgx
      have hc := hp x hmem0 wr _ he h2
      clear hmem0
      obtain ⟨q, hq⟩ : ∃ q, p x = q := ⟨_, rfl⟩
      rw [hq] at hc
      have Hc := Lib.hid hc; clear hc
      have Hq := Lib.hid hq; clear hq
      have eg' := eg
      unfold Enters at eg'
      cases q with
      | true =>
        go_wp2_with fail
        refine Hc.out.mono ?_
        rintro e w' ⟨rfl, he'⟩
        go_wp2
        go_ret
        have ha : xs.any p = true := List.any_eq_true.2 ⟨x, hmem.out, Hq.out⟩
        exact ⟨⟨_, ⟨fun _ => ha, fun _ => by omega⟩, rfl⟩, he.trans he'⟩
      | false =>
        go_wp2_with fail
        refine Hc.out.mono ?_
        rintro e w' ⟨rfl, he'⟩
        go_wp2
        go_roundw
        case rel =>
          refine ⟨k + 1, by omega, by go_num, fun j hj => ?_, he.trans he'⟩
          by_cases ej : j = k
          · subst ej; rw [Hgx.out]; exact Hq.out
          · exact hm.out j (by omega)
        case measure => simp [intOf]; omega
    · go_wp2
      go_ret
      have hn : xs.any p = false := by
        rw [List.any_eq_false]
        intro y hy hpy
        obtain ⟨j, hj, rfl⟩ := List.mem_iff_getElem.1 hy
        have := hm.out j (by omega)
        simp [hj, hpy] at this
      exact ⟨⟨-1, ⟨fun h => absurd h (by omega), fun h => by rw [hn] at h; cases h⟩, rfl⟩, he⟩

theorem containsFuncR (g : Nat) (fs lb : Array Value) (eg : Enters Tryz.prog g) (p : (List Int) → Bool) (A : Option Addr) (c : Nat) (xs : List (List Int)) (w : World) (hb : xs.length ≤ maxLen)
    (hx : RowsAt w A xs) (hp : ∀ x ∈ xs, Tells Tryz.prog w g fs lb SlI x (p x)) :
    Calls Tryz.prog 23 #[.slice A xs.length c, .func (.func g) fs lb] w fun e w' => e = .returned (.bool (xs.any p)) ∧ Ext w w' := by
  have h := indexFuncR g fs lb eg p A c xs w hb hx hp
  clear hx hp
  obtain ⟨q, hq⟩ : ∃ q, xs.any p = q := ⟨_, rfl⟩
  rw [hq] at h ⊢
  have H := Lib.hid h; clear h hq
  go_enter Tryz.func23, Tryz.ntmps23
  go_wp2_with fail
  refine H.out.mono ?_
  rintro e w' ⟨⟨i, hi, rfl⟩, he⟩
  cases q with
  | true =>
    have h0 : 0 ≤ i := hi.2 rfl
    clear hi
    go_wp2
    go_ret
    exact ⟨rfl, he⟩
  | false =>
    have h0 : decide (0 ≤ i) = false := by
      rw [decide_eq_false_iff_not]
      exact fun h => absurd (hi.1 h) (by simp)
    clear hi
    go_wp2
    go_ret
    exact ⟨rfl, he⟩

theorem everyR1 (g : Nat) (fs lb : Array Value) (eg : Enters Tryz.prog g) (B : Nat) (x : (List Int)) (q : Bool) (w : World) (hp : Tells Tryz.prog w g fs lb SlI x q) (hB : w.cell? ⟨B, 0, none⟩ = some (.func (.func g) fs lb)) :
    Tells Tryz.prog w 168 #[] #[.pointer (some ⟨B, 0, none⟩)] SlI x (!q) := by
  intro W v hW hv
  have hB' := hW.cell hB
  have hW' : Ext W W := Ext.refl W
  have Hp := Lib.hid hp
  clear hp hB
  have eg' := eg
  unfold Enters at eg'
  have hB2 := hW'.cell hB'
  show Calls Tryz.prog 168 #[_, .pointer (some ⟨B, 0, none⟩)] W _
  go_enter Tryz.func168, Tryz.ntmps168
  cases q with
  | true =>
    go_wp2_with fail
    refine (Hp.out _ _ (hW.trans hW') (hv.ext hW')).mono ?_
    rintro e w' ⟨rfl, he⟩
    go_wp2
    go_ret
    exact ⟨rfl, hW'.trans he⟩
  | false =>
    go_wp2_with fail
    refine (Hp.out _ _ (hW.trans hW') (hv.ext hW')).mono ?_
    rintro e w' ⟨rfl, he⟩
    go_wp2
    go_ret
    exact ⟨rfl, hW'.trans he⟩

theorem everyR (g : Nat) (fs lb : Array Value) (eg : Enters Tryz.prog g) (p : (List Int) → Bool) (A : Option Addr) (c : Nat) (xs : List (List Int)) (w : World) (hb : xs.length ≤ maxLen)
    (hx : RowsAt w A xs) (hp : ∀ x ∈ xs, Tells Tryz.prog w g fs lb SlI x (p x)) :
    Calls Tryz.prog 134 #[.slice A xs.length c, .func (.func g) fs lb] w fun e w' => e = .returned (.bool (xs.all p)) ∧ Ext w w' := by
  have hmf : ∀ (fn : Fn) (first cap : Array Value) (w : World), (Instr.makeFunc fn first cap).run Tryz.prog w = .ok (.func fn first cap) w := fun _ _ _ _ => rfl
  have hq0 : xs.all p = !(xs.any fun x => !p x) := by rw [List.not_any_eq_all_not]; simp
  obtain ⟨q, hq⟩ : ∃ q, xs.any (fun x => !p x) = q := ⟨_, rfl⟩
  rw [hq0, hq]
  have hE : Ext w (w.alloc (.cells #[.func (.func g) fs lb] 60)) := Ext.alloc _ _
  have h := containsFuncR 168 #[] #[.pointer (some ⟨w.heap.size, 0, none⟩)] (enters_of Tryz.func168 (by kernel_rfl) rfl) (fun x => !p x) A c xs _ hb (hx.ext hE) (fun x hxm => everyR1 g fs lb eg w.heap.size x (p x) _ ((hp x hxm).ext hE) (cell_new_l w _ _).1)
  rw [hq] at h
  have H := Lib.hid h; clear h hx hp hq hq0
  go_enter Tryz.func134, Tryz.ntmps134
  go_wp2_with fail
  refine H.out.mono ?_
  rintro e w' ⟨rfl, he⟩
  cases q with
  | true =>
    go_wp2
    go_ret
    exact ⟨rfl, hE.trans he⟩
  | false =>
    go_wp2
    go_ret
    exact ⟨rfl, hE.trans he⟩

set_option maxHeartbeats 400000 in
theorem indexFuncT (g : Nat) (fs lb : Array Value) (eg : Enters Tryz.prog g) (p : (List (List Int)) → Bool) (A : Option Addr) (c : Nat) (xs : List (List (List Int))) (w : World) (hb : xs.length ≤ maxLen)
    (hx : TabsAt w A xs) (hp : ∀ x ∈ xs, Tells Tryz.prog w g fs lb RowsI x (p x)) :
    Calls Tryz.prog 178 #[.slice A xs.length c, .func (.func g) fs lb] w fun e w' => (∃ i : Int, (0 ≤ i ↔ xs.any p = true) ∧ e = .returned (.int .i64 i)) ∧ Ext w w' := by
  unfold maxLen at hb
  go_enter Tryz.func178, Tryz.ntmps178
  go_wp2
  go_loopw [5, 8] (fun _ i wr => ∃ k : Nat, k ≤ xs.length ∧ i = .int .i64 k ∧ Hid (∀ j, j < k → p (xs[j]?.getD []) = false) ∧ Ext w wr) (fun _ i _ => xs.length - (intOf i).toNat)
  case atStart => exact ⟨0, by omega, rfl, fun j hj => absurd hj (by omega), Ext.refl _⟩
  case round =>
    obtain ⟨k, hk, rfl, hm, he⟩ := hrel
    by_cases hlt : k < xs.length
    · obtain ⟨b, o, u, rfl, h1, h2⟩ := hx.ext he k hlt
      have hmem0 : (xs[k]?.getD []) ∈ xs := by simp [hlt]
      have hmem := Lib.hid hmem0
      generalize hgx : xs[k]?.getD [] = x at *
      have Hgx := Lib.hid hgx; clear hgx
      have hc := hp x hmem0 wr _ he h2
      clear hmem0
      obtain ⟨q, hq⟩ : ∃ q, p x = q := ⟨_, rfl⟩
      rw [hq] at hc
      have Hc := Lib.hid hc; clear hc
      have Hq := Lib.hid hq; clear hq
      have eg' := eg
      unfold Enters at eg'
      cases q with
      | true =>
        go_wp2_with fail
        refine Hc.out.mono ?_
        rintro e w' ⟨rfl, he'⟩
        go_wp2
        go_ret
        have ha : xs.any p = true := List.any_eq_true.2 ⟨x, hmem.out, Hq.out⟩
        exact ⟨⟨_, ⟨fun _ => ha, fun _ => by omega⟩, rfl⟩, he.trans he'⟩
      | false =>
        go_wp2_with fail
        refine Hc.out.mono ?_
        rintro e w' ⟨rfl, he'⟩
        go_wp2
        go_roundw
        case rel =>
          refine ⟨k + 1, by omega, by go_num, fun j hj => ?_, he.trans he'⟩
          by_cases ej : j = k
          · subst ej; rw [Hgx.out]; exact Hq.out
          · exact hm.out j (by omega)
        case measure => simp [intOf]; omega
    · go_wp2
      go_ret
      have hn : xs.any p = false := by
        rw [List.any_eq_false]
        intro y hy hpy
        obtain ⟨j, hj, rfl⟩ := List.mem_iff_getElem.1 hy
        have := hm.out j (by omega)
        simp [hj, hpy] at this
      exact ⟨⟨-1, ⟨fun h => absurd h (by omega), fun h => by rw [hn] at h; cases h⟩, rfl⟩, he⟩

theorem containsFuncT (g : Nat) (fs lb : Array Value) (eg : Enters Tryz.prog g) (p : (List (List Int)) → Bool) (A : Option Addr) (c : Nat) (xs : List (List (List Int))) (w : World) (hb : xs.length ≤ maxLen)
    (hx : TabsAt w A xs) (hp : ∀ x ∈ xs, Tells Tryz.prog w g fs lb RowsI x (p x)) :
    Calls Tryz.prog 166 #[.slice A xs.length c, .func (.func g) fs lb] w fun e w' => e = .returned (.bool (xs.any p)) ∧ Ext w w' := by
  have h := indexFuncT g fs lb eg p A c xs w hb hx hp
  clear hx hp
  obtain ⟨q, hq⟩ : ∃ q, xs.any p = q := ⟨_, rfl⟩
  rw [hq] at h ⊢
  have H := Lib.hid h; clear h hq
  go_enter Tryz.func166, Tryz.ntmps166
  go_wp2_with fail
  refine H.out.mono ?_
  rintro e w' ⟨⟨i, hi, rfl⟩, he⟩
  cases q with
  | true =>
    have h0 : 0 ≤ i := hi.2 rfl
    clear hi
    go_wp2
    go_ret
    exact ⟨rfl, he⟩
  | false =>
    have h0 : decide (0 ≤ i) = false := by
      rw [decide_eq_false_iff_not]
      exact fun h => absurd (hi.1 h) (by simp)
    clear hi
    go_wp2
    go_ret
    exact ⟨rfl, he⟩

theorem everyT1 (g : Nat) (fs lb : Array Value) (eg : Enters Tryz.prog g) (B : Nat) (x : (List (List Int))) (q : Bool) (w : World) (hp : Tells Tryz.prog w g fs lb RowsI x q) (hB : w.cell? ⟨B, 0, none⟩ = some (.func (.func g) fs lb)) :
    Tells Tryz.prog w 167 #[] #[.pointer (some ⟨B, 0, none⟩)] RowsI x (!q) := by
  intro W v hW hv
  have hB' := hW.cell hB
  have hW' : Ext W W := Ext.refl W
  have Hp := Lib.hid hp
  clear hp hB
  have eg' := eg
  unfold Enters at eg'
  have hB2 := hW'.cell hB'
  show Calls Tryz.prog 167 #[_, .pointer (some ⟨B, 0, none⟩)] W _
  go_enter Tryz.func167, Tryz.ntmps167
  cases q with
  | true =>
    go_wp2_with fail
    refine (Hp.out _ _ (hW.trans hW') (hv.ext hW')).mono ?_
    rintro e w' ⟨rfl, he⟩
    go_wp2
    go_ret
    exact ⟨rfl, hW'.trans he⟩
  | false =>
    go_wp2_with fail
    refine (Hp.out _ _ (hW.trans hW') (hv.ext hW')).mono ?_
    rintro e w' ⟨rfl, he⟩
    go_wp2
    go_ret
    exact ⟨rfl, hW'.trans he⟩

theorem everyT (g : Nat) (fs lb : Array Value) (eg : Enters Tryz.prog g) (p : (List (List Int)) → Bool) (A : Option Addr) (c : Nat) (xs : List (List (List Int))) (w : World) (hb : xs.length ≤ maxLen)
    (hx : TabsAt w A xs) (hp : ∀ x ∈ xs, Tells Tryz.prog w g fs lb RowsI x (p x)) :
    Calls Tryz.prog 132 #[.slice A xs.length c, .func (.func g) fs lb] w fun e w' => e = .returned (.bool (xs.all p)) ∧ Ext w w' := by
  have hmf : ∀ (fn : Fn) (first cap : Array Value) (w : World), (Instr.makeFunc fn first cap).run Tryz.prog w = .ok (.func fn first cap) w := fun _ _ _ _ => rfl
  have hq0 : xs.all p = !(xs.any fun x => !p x) := by rw [List.not_any_eq_all_not]; simp
  obtain ⟨q, hq⟩ : ∃ q, xs.any (fun x => !p x) = q := ⟨_, rfl⟩
  rw [hq0, hq]
  have hE : Ext w (w.alloc (.cells #[.func (.func g) fs lb] 174)) := Ext.alloc _ _
  have h := containsFuncT 167 #[] #[.pointer (some ⟨w.heap.size, 0, none⟩)] (enters_of Tryz.func167 (by kernel_rfl) rfl) (fun x => !p x) A c xs _ hb (hx.ext hE) (fun x hxm => everyT1 g fs lb eg w.heap.size x (p x) _ ((hp x hxm).ext hE) (cell_new_l w _ _).1)
  rw [hq] at h
  have H := Lib.hid h; clear h hx hp hq hq0
  go_enter Tryz.func132, Tryz.ntmps132
  go_wp2_with fail
  refine H.out.mono ?_
  rintro e w' ⟨rfl, he⟩
  cases q with
  | true =>
    go_wp2
    go_ret
    exact ⟨rfl, hE.trans he⟩
  | false =>
    go_wp2
    go_ret
    exact ⟨rfl, hE.trans he⟩
end Go.Proofs.Pet

namespace Go.Proofs.Pet
open Go Go.RowKit Go.Maps Go.Shelf

theorem ieq (a b : Nat) : ((a : Int) == (b : Int)) = decide (a = b) := by
  rw [Bool.eq_iff_iff, beq_iff_eq, decide_eq_true_eq]; omega
theorem ine (a b : Nat) : ((a : Int) != (b : Int)) = !decide (a = b) := by rw [bne, ieq]
theorem tab211 (w : World) (x : Int) : Tells Tryz.prog w 138 #[] #[] IntVal x (inB x 0 99) := by
  intro W v hW hv
  obtain rfl : v = .int .i64 x := hv
  have Hc := Lib.hid (in_any x 0 99 _ rfl)
  generalize inB x 0 99 = q at Hc ⊢
  show Calls Tryz.prog 138 #[_] W _
  go_enter Tryz.func138, Tryz.ntmps138
  go_wp2_with fail
  refine (Hc.out _).mono ?_
  rintro e w' ⟨rfl, rfl⟩
  go_wp2
  go_ret
  exact ⟨rfl, Ext.refl _⟩
theorem tab21 (w : World) (x : List Int) : Tells Tryz.prog w 137 #[] #[] SlI x (x.all fun n => inB n 0 99) := by
  intro W v hW hv
  obtain ⟨A, c, rfl, h2, h3, h4⟩ := hv
  have H := Lib.hid (everyI 138 #[] #[] (enters_of Tryz.func138 (by kernel_rfl) rfl) (fun n => inB n 0 99) A c x W (Nat.le_trans h2 h3) h4 (fun y _ => tab211 W y))
  generalize (x.all fun n => inB n 0 99) = q at H ⊢
  clear h4
  show Calls Tryz.prog 137 #[_] W _
  go_enter Tryz.func137, Tryz.ntmps137
  go_wp2_with fail
  refine H.out.mono ?_
  rintro e w' ⟨rfl, he⟩
  go_wp2
  go_ret
  exact ⟨rfl, he⟩
theorem tab2 (w : World) (x : List (List Int)) : Tells Tryz.prog w 136 #[] #[] RowsI x (x.all fun k => k.all fun n => inB n 0 99) := by
  intro W v hW hv
  obtain ⟨A, c, rfl, h2, h3, h4⟩ := hv
  have H := Lib.hid (everyR 137 #[] #[] (enters_of Tryz.func137 (by kernel_rfl) rfl) (fun k => k.all fun n => inB n 0 99) A c x W (Nat.le_trans h2 h3) h4 (fun y _ => tab21 W y))
  generalize (x.all fun k => k.all fun n => inB n 0 99) = q at H ⊢
  clear h4
  show Calls Tryz.prog 136 #[_] W _
  go_enter Tryz.func136, Tryz.ntmps136
  go_wp2_with fail
  refine H.out.mono ?_
  rintro e w' ⟨rfl, he⟩
  go_wp2
  go_ret
  exact ⟨rfl, he⟩
theorem tab11 (w : World) (M n : Nat) (a b : Value) (A : Option Addr) (c : Nat) (hM : Blk w M 25 #[a, b, .slice A n c]) (x : List Int) : Tells Tryz.prog w 135 #[] #[.pointer (some ⟨M, 0, none⟩)] SlI x (decide (x.length = n)) := by
  intro W v hW hv
  obtain ⟨A', c', rfl, h2, h3, h4⟩ := hv
  obtain ⟨k0, k1, k2⟩ := (hM.ext hW).c3
  obtain ⟨q, hq⟩ : ∃ q, decide (x.length = n) = q := ⟨_, rfl⟩
  have hq2 : ((x.length : Int) == (n : Int)) = q := by rw [← hq, ieq]
  rw [hq]
  clear h4 hM hW
  show Calls Tryz.prog 135 #[_, .pointer (some ⟨M, 0, none⟩)] W _
  go_enter Tryz.func135, Tryz.ntmps135
  go_wp2
  go_ret
  exact ⟨rfl, Ext.refl _⟩
theorem tab1 (w : World) (M Dc D : Nat) (m : Mill) (hn : m.orders.length ≤ 7) (hm : ∃ A1 c1 A2 c2, Blk w M 25 #[.slice A1 m.laced.length c1, .int .i64 m.change, .slice A2 m.orders.length c2]) (hDc : Blk w Dc 75 #[.pointer (some ⟨D, 0, none⟩)]) (hD : Desk w D m) (x : List (List Int)) :
    Tells Tryz.prog w 133 #[] #[.pointer (some ⟨Dc, 0, none⟩), .pointer (some ⟨M, 0, none⟩)] RowsI x (decide (x.length = 2 ^ m.orders.length) && x.all fun k => decide (k.length = m.orders.length)) := by
  intro W v hW hv
  obtain ⟨A, c, rfl, h2, h3, h4⟩ := hv
  obtain ⟨A1', c1', A2', c2', hMb⟩ := hm
  have hMW := hMb.ext hW
  obtain ⟨A1, c1, A2, c2, MM, cnt, hb, g2, g3, g4, g5, g6, g7, _, _⟩ := hD.ext hW
  obtain ⟨N, hN⟩ : ∃ N, 2 ^ m.orders.length = N := ⟨_, rfl⟩
  have hse := Lib.hid (sets_any _ m (by omega) N hN.symm W ⟨A1, c1, A2, c2, rfl, g2, g3, g4, g5, g6, g7⟩)
  have H := Lib.hid (fun W' (hW' : Ext W W') => everyR 135 #[] #[.pointer (some ⟨M, 0, none⟩)] (enters_of Tryz.func135 (by kernel_rfl) rfl) (fun k => decide (k.length = m.orders.length)) A c x W' (Nat.le_trans h2 h3) (RowsAt.ext h4 hW') (fun y _ => tab11 W' M _ _ _ _ _ (hMW.ext hW') y))
  obtain ⟨k0, k1, k2, k3⟩ := hb.c4
  have u0 := (hDc.ext hW).c1
  generalize (x.all fun k => decide (k.length = m.orders.length)) = q at H ⊢
  rw [hN]
  have hmf : ∀ (fn : Fn) (first cap : Array Value) (w : World), (Instr.makeFunc fn first cap).run Tryz.prog w = .ok (.func fn first cap) w := fun _ _ _ _ => rfl
  clear h4 hMb hDc hD g6 g7 hN
  show Calls Tryz.prog 133 #[_, .pointer (some ⟨Dc, 0, none⟩), .pointer (some ⟨M, 0, none⟩)] W _
  by_cases e : x.length = N
  · have hd : decide (x.length = N) = true := by simpa using e
    have hd2 : ((x.length : Int) == (N : Int)) = true := by rw [ieq]; simpa using e
    rw [hd]
    have Hd := Lib.hid hd; clear hd e
    go_enter Tryz.func133, Tryz.ntmps133
    go_wp2_with fail
    refine hse.out.mono ?_
    rintro e w1 ⟨rfl, he1⟩
    go_wp2_with fail
    refine (H.out _ he1).mono ?_
    rintro e w2 ⟨rfl, he2⟩
    go_wp2
    go_ret
    exact ⟨rfl, he1.trans he2⟩
  · have hd : decide (x.length = N) = false := by simpa using e
    have hd2 : ((x.length : Int) == (N : Int)) = false := by rw [ieq]; simpa using e
    rw [hd]
    have Hd := Lib.hid hd; clear hd e
    go_enter Tryz.func133, Tryz.ntmps133
    go_wp2_with fail
    refine hse.out.mono ?_
    rintro e w1 ⟨rfl, he1⟩
    go_wp2
    go_ret
    exact ⟨rfl, he1⟩
/-- what tabled gives: a desk just if there is no error -/
def Opens (w w' : World) (m : Mill) (r : Int) (v : Value) : Prop := (r = 0 ∧ ∃ D, v = .pointer (some ⟨D, 0, none⟩) ∧ w.heap.size ≤ D ∧ Desk w' D m) ∨ (r ≠ 0 ∧ v = .pointer none)
theorem Opens.ok {w w' : World} {m : Mill} {v : Value} (h : Opens w w' m 0 v) : ∃ D, v = .pointer (some ⟨D, 0, none⟩) ∧ w.heap.size ≤ D ∧ Desk w' D m := by
  rcases h with ⟨_, h⟩ | ⟨h, _⟩
  · exact h
  · exact absurd rfl h
theorem Opens.bad {w w' : World} {m : Mill} {r : Int} {v : Value} (h : Opens w w' m r v) (h0 : r ≠ 0) : v = .pointer none := by
  rcases h with ⟨e, _⟩ | ⟨_, h⟩
  · exact absurd e h0
  · exact h
set_option maxRecDepth 20000 in
set_option maxHeartbeats 2000000 in
theorem tabled_any (v tv : Value) (m : Mill) (T : List (List (List Int))) (r : Int) (hr : tabE m T = r) (w : World) (hv : MillVal w v m) (ht : TabI w tv T) :
    Calls Tryz.prog 87 #[v, tv] w fun e w' => (∃ dv, e = .returned (.tuple #[dv, .int .i64 r]) ∧ Opens w w' m r dv) ∧ Ext w w' := by
  have Hv := Lib.hid hv
  have Ht := Lib.hid ht
  obtain ⟨A1, c1, A2, c2, rfl, h2, h3, h4, h5, h6, h7⟩ := hv
  obtain ⟨At, ct, rfl, t2, t3, t4⟩ := ht
  have hmf : ∀ (fn : Fn) (first cap : Array Value) (w : World), (Instr.makeFunc fn first cap).run Tryz.prog w = .ok (.func fn first cap) w := fun _ _ _ _ => rfl
  have hE := Ext.alloc w (.cells #[.slice A1 m.laced.length c1, .int .i64 m.change, .slice A2 m.orders.length c2] 25)
  have hM := Blk.new w 25 #[.slice A1 m.laced.length c1, .int .i64 m.change, .slice A2 m.orders.length c2]
  clear h6 h7 t4
  by_cases h0 : checkE m = 0
  · obtain ⟨l1, l2, l3⟩ := check_len h0
    have hop := Lib.hid (opened_any _ m h0 _ (Hv.out.ext hE))
    have hr' : (if T.length = m.laced.length then (if sizedB m T = true then (if rangedB T = true then 0 else 3) else 2) else 2) = r := by rw [← hr]; unfold tabE; rw [if_pos h0]
    have Hr := Lib.hid hr'; clear hr hr'
    have H0 := Lib.hid h0; clear h0
    obtain ⟨k0, k1, k2⟩ := hM.c3
    go_enter Tryz.func87, Tryz.ntmps87
    go_wp2_with fail
    refine hop.out.mono ?_
    rintro e w1 ⟨D, rfl, hDs, hD, he1⟩
    have hE1 := hE.trans he1
    have hM1 := hM.ext he1
    clear hM hE he1 hop k0 k1 k2
    have hX := Ext.alloc w1 (.cells #[.pointer (some ⟨D, 0, none⟩)] 75)
    have hDc := Blk.new w1 75 #[.pointer (some ⟨D, 0, none⟩)]
    have hE2 := hE1.trans hX
    have hM2 := hM1.ext hX
    have hD2 := hD.ext hX
    have hDw : w.heap.size ≤ D := by simp at hDs; omega
    obtain ⟨k0, k1, k2⟩ := hM2.c3
    by_cases hl : T.length = m.laced.length
    · have hd : ((T.length : Int) != (m.laced.length : Int)) = false := by rw [ine]; simpa using hl
      have hR1 : Hid ((if sizedB m T = true then (if rangedB T = true then 0 else 3) else 2) = r) := by have := Hr.out; rw [if_pos hl] at this; exact this
      clear hl Hr
      have ev1 := Lib.hid (everyT 133 #[] #[.pointer (some ⟨w1.heap.size, 0, none⟩), .pointer (some ⟨w.heap.size, 0, none⟩)] (enters_of Tryz.func133 (by kernel_rfl) rfl) (fun l => decide (l.length = 2 ^ m.orders.length) && l.all fun k => decide (k.length = m.orders.length)) At ct T _ (Nat.le_trans t2 t3) (by obtain ⟨a, b, e, _, _, e4⟩ := Ht.out.ext hE2; cases e; exact e4) (fun y _ => tab1 _ w.heap.size w1.heap.size D m l3 ⟨_, _, _, _, hM2⟩ hDc hD2 y))
      have ev2 := Lib.hid (fun W (hW : Ext w W) => everyT 136 #[] #[] (enters_of Tryz.func136 (by kernel_rfl) rfl) (fun l => l.all fun k => k.all fun n => inB n 0 99) At ct T W (Nat.le_trans t2 t3) (by obtain ⟨a, b, e, _, _, e4⟩ := Ht.out.ext hW; cases e; exact e4) (fun y _ => tab2 W y))
      have es : (T.all fun l => decide (l.length = 2 ^ m.orders.length) && l.all fun k => decide (k.length = m.orders.length)) = sizedB m T := rfl
      have er : (T.all fun l => l.all fun k => k.all fun n => inB n 0 99) = rangedB T := rfl
      rw [es] at ev1
      rw [er] at ev2
      clear es er
      obtain ⟨q1, hq1⟩ : ∃ q, sizedB m T = q := ⟨_, rfl⟩
      obtain ⟨q2, hq2⟩ : ∃ q, rangedB T = q := ⟨_, rfl⟩
      rw [hq1] at ev1
      rw [hq2] at ev2
      have hR2 : Hid ((if q1 = true then (if q2 = true then (0 : Int) else 3) else 2) = r) := by have := hR1.out; rw [hq1, hq2] at this; exact this
      clear hq1 hq2 hR1
      have HD2 := Lib.hid hD2; clear hD2 hD
      go_wp2_with fail
      refine ev1.out.mono ?_
      rintro e w3 ⟨rfl, he3⟩
      have hE3 := hE2.trans he3
      have hDc3 := hDc.ext he3
      clear hDc hE2 hE1 hX ev1 k0 k1 k2 hM2 hM1
      cases q1 with
      | false =>
        obtain rfl : (2 : Int) = r := by simpa using hR2.out
        go_wp2_with fail
        go_ret2
        exact ⟨⟨_, rfl, .inr ⟨by decide, rfl⟩⟩, hE3⟩
      | true =>
        go_wp2_with fail
        refine (ev2.out _ hE3).mono ?_
        rintro e w4 ⟨rfl, he4⟩
        have hE4 := hE3.trans he4
        have u0 := (hDc3.ext he4).c1
        clear ev2
        cases q2 with
        | false =>
          obtain rfl : (3 : Int) = r := by simpa using hR2.out
          go_wp2_with fail
          go_ret2
          exact ⟨⟨_, rfl, .inr ⟨by decide, rfl⟩⟩, hE4⟩
        | true =>
          obtain rfl : (0 : Int) = r := by simpa using hR2.out
          go_wp2_with fail
          go_ret2
          exact ⟨⟨_, rfl, .inl ⟨rfl, D, rfl, hDw, HD2.out.ext (he3.trans he4)⟩⟩, hE4⟩
    · have hd : ((T.length : Int) != (m.laced.length : Int)) = true := by rw [ine]; simpa using hl
      have hR1 : (2 : Int) = r := by have := Hr.out; rw [if_neg hl] at this; exact this
      subst hR1
      clear hl Hr hD hD2
      go_wp2_with fail
      go_ret2
      exact ⟨⟨_, rfl, .inr ⟨by decide, rfl⟩⟩, hE2⟩
  · have hr' : checkE m = r := by rw [← hr]; unfold tabE; rw [if_neg h0]
    rw [hr'] at h0
    have hop := Lib.hid (openedErr _ m r hr' h0 _ (Hv.out.ext hE))
    have hd : (r != 0) = true := by simpa using h0
    have H0 := Lib.hid h0
    clear hr hr' h0
    obtain ⟨k0, k1, k2⟩ := hM.c3
    go_enter Tryz.func87, Tryz.ntmps87
    go_wp2_with fail
    refine hop.out.mono ?_
    rintro e w1 ⟨rfl, he1⟩
    have hE1 := hE.trans he1
    have hX := Ext.alloc w1 (.cells #[.pointer none] 75)
    go_wp2_with fail
    go_ret2
    exact ⟨⟨_, rfl, .inr ⟨H0.out, rfl⟩⟩, hE1.trans hX⟩
end Go.Proofs.Pet
