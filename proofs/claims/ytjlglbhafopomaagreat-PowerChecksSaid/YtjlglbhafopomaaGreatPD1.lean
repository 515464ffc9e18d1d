/-
  Lists of groups and of orders, walked.
-/
import Derived.Test.YtjlglbhafopomaaGreatPC5
import Derived.Test.YtjlglbhafopomaaGreatS18
namespace Go.Proofs.Pet
open Go Go.RowKit Go.Maps Go.Shelf
open Go.Proofs.Pow (PM Sh Wv POk Up)

theorem info_row : (Tryz.prog.info? 31).map (fun i => (i.zero, i.size, i.bytes)) = some (some (.slice none 0 0), 1, 24) := by kernel_rfl
theorem OwnR.first (w : World) : OwnR (w.alloc (.cells #[.slice none 0 0] 31)) w.heap.size (.slice (some ⟨w.heap.size, 0, none⟩) 1 1) [[]] := by
  refine ⟨[.slice none 0 0], ⟨by simp, .inr ⟨w.heap.size, 1, #[.slice none 0 0], rfl, Nat.le_refl _, heap_alloc_new w _, by simp, by unfold maxLen; omega, by simp, by simp⟩⟩, rfl, fun i hi => ?_⟩
  obtain rfl : i = 0 := by simpa using hi
  exact OwnI.nil _ _ _
theorem ownsRow_src {w : World} {base n : Nat} {e : TypeId} {v : Value} {vs : List Value} (h : w.ownsRow base e 1 v n vs) {A : Option Addr} {c : Nat} (hv : v = .slice A n c) : Src w A vs := by
  rcases h.2 with ⟨rfl, hn⟩ | ⟨g, cap, cur, rfl, hg, hb, hn, hm, hs, hc⟩
  · exact .inl (List.length_eq_zero_iff.1 (by have := h.1; omega))
  · simp only [Value.slice.injEq] at hv
    obtain ⟨rfl, -, rfl⟩ := hv
    exact .inr ⟨_, rfl, fun j u hu => by rw [addr_off]; exact row_cell hb hc j u hu⟩
/-- rows by their own places -/
theorem OwnR.ones {w : World} {base : Nat} {xss : List (List Int)} {vs : List Value} (hl : vs.length = xss.length) (h : ∀ i, i < xss.length → OwnI w base 3 (vs[i]?.getD undef) (xss[i]?.getD [])) : ∀ u ∈ vs, u.oneCell' = true := by
  intro u hu
  obtain ⟨i, hi, rfl⟩ := List.getElem_of_mem hu
  have := (h i (by omega)).one
  rwa [List.getElem?_eq_getElem hi] at this
set_option maxHeartbeats 400000 in
theorem cloneR_any (base : Nat) (v : Value) (xss : List (List Int)) (w : World) (h : OwnR w base v xss) (hne : 0 < xss.length) (hlen : xss.length ≤ 1000) :
    Calls Tryz.prog 105 #[v] w fun e w' => ∃ v', e = .returned v' ∧ OwnR w' base v' xss ∧ (∀ g, v'.ownBlock = some g → w.heap.size ≤ g) ∧ Ext w w' := by
  obtain ⟨i, hi, hz0, hz1, hz2⟩ := info_parts info_row
  obtain ⟨vs, hrow, hvl, hvi⟩ := h
  have hbs : base ≤ w.heap.size := by
    rcases hrow.2 with ⟨-, h0⟩ | ⟨g, cap, cur, -, hg, hb, -⟩
    · omega
    · have := (Array.getElem?_eq_some_iff.1 hb).1; omega
  obtain ⟨A, c, rfl⟩ := ownsRow_slice hrow
  obtain ⟨ad, rfl⟩ : ∃ ad, A = some ad := by
    rcases hrow.2 with ⟨-, h0⟩ | ⟨g, cap, cur, e, -⟩
    · omega
    · simp only [Value.slice.injEq] at e; exact ⟨_, e.1⟩
  have hnil' : ∀ W : World, (binOp .eql 44 (.slice (some ad) xss.length c) (.slice none 0 0)).run Tryz.prog W = .ok (.bool false) W := fun W => Lib.run_eql_slice_nil W 44 _ (some ad) _ _ 0 0 Tryz.underlying44
  have hE := Ext.alloc w (.cells #[] 31)
  have hsrc := Lib.hid ((ownsRow_src hrow rfl).ext hE)
  have hone := Lib.hid (OwnR.ones hvl hvi)
  have hown := Lib.hid (World.ownsRow_made (w := w) (e := 31) (size := 1) #[] 0 (Nat.le_refl _) (by unfold maxLen; omega) (by simp))
  have Hvl := Lib.hid hvl; have Hvi := Lib.hid hvi
  clear hrow hvl hvi hne
  go_enter Tryz.func105, Tryz.ntmps105
  go_wp2_with (at_builtin; go_must (refine wpList_app rfl _ _ 44 rfl w.heap.size 31 i (.slice none 0 0) 1 24 Tryz.underlying44 hi hz0 hz1 hz2 rfl (by decide) _ _ _ rfl hown.out (some ad) xss.length c vs rfl ?c1 hsrc.out hone.out ?c3 ?c4 ?c5 ?_); (case c1 => (rw [Hvl.out]; omega)); (case c3 => (unfold maxLen; omega)); (case c4 => omega); (case c5 => simp); intro v' w' hown' hg hblk)
  go_ret
  have he : Ext w w' := ext_alloc_grown hg (fun k hk => Nat.le_of_eq (Option.some.inj hk))
  simp only [Nat.zero_add, List.nil_append] at hown'
  exact ⟨_, rfl, ⟨vs, ownsRow_mono hown' hbs, Hvl.out, fun i hi => (Hvi.out i hi).ext he⟩, fun g hg => (ownsRow_own hown' g hg).1, he⟩

/-- all groups, as lists of ints -/
def groupsI (n : Nat) : List (List Int) := (Pow.groupsF n).map ints
theorem groupsI_succ (k : Nat) : groupsI (k + 1) = groupsI k ++ (groupsI k).map (· ++ [(k : Int)]) := by
  unfold groupsI
  simp only [Pow.groupsF, List.map_append, List.map_map]
  congr 1
  exact List.map_congr_left fun l _ => by simp [ints]
theorem groupsI_few (k : Nat) (hk : k < 6) : 0 < (groupsI k).length ∧ (groupsI k).length ≤ 32 := by
  have : ∀ k : Fin 6, 0 < (Pow.groupsF k).length ∧ (Pow.groupsF k).length ≤ 32 := by decide
  have := this ⟨k, hk⟩
  unfold groupsI
  rw [List.length_map]
  exact this
theorem groups_len {k : Nat} {l : List Int} (h : l ∈ groupsI k) : l.length ≤ k := by
  obtain ⟨g, hg, rfl⟩ := List.mem_map.1 h
  have := Pow.up_len ((Pow.mem_groupsF _ _).1 hg)
  rw [show (ints g).length = g.length by simp [ints]]; omega
/-- the own block of what was appended to is not one that is known -/
theorem apart_app {w : World} {v v' c : Value} (h : ∀ g, c.ownBlock = some g → v.ownBlock ≠ some g) (hlt : ∀ g, c.ownBlock = some g → g < w.heap.size) (hb : v'.ownBlock = v.ownBlock ∨ v'.ownBlock = some w.heap.size) : ∀ g, c.ownBlock = some g → v'.ownBlock ≠ some g := by
  intro g hg e
  rcases hb with hb | hb
  · exact h g hg (hb ▸ e)
  · have := hlt g hg
    rw [hb] at e
    have := Option.some.inj e
    omega
set_option maxRecDepth 20000 in
set_option maxHeartbeats 2000000 in
theorem groups_any (v : Value) (m : PM) (hml : m.wvs.length ≤ 6) (w : World) (hv : PMVal w v m) :
    Calls Tryz.prog 28 #[v] w fun e w' => ∃ v', e = .returned v' ∧ OwnR w' w.heap.size v' (groupsI m.wvs.length) ∧ Ext w w' := by
  obtain ⟨ti, hi, hz0, hz1, hz2⟩ := info_parts info_int
  obtain ⟨ti2, hi2, hy0, hy1, hy2⟩ := info_parts info_row
  obtain ⟨A1, c1, A2, c2, rfl, -, -, -, -, -, -⟩ := hv
  have hE := Ext.alloc w (.cells #[.slice A1 m.shafts.length c1, .slice A2 m.wvs.length c2] 26)
  have hM := Blk.new w 26 #[.slice A1 m.shafts.length c1, .slice A2 m.wvs.length c2]
  have hszE := hE.size
  obtain ⟨w1, hw1⟩ : ∃ w1, w.alloc (.cells #[.slice A1 m.shafts.length c1, .slice A2 m.wvs.length c2] 26) = w1 := ⟨_, rfl⟩
  rw [hw1] at hE hM hszE
  have hX := Ext.alloc w1 (.cells #[.slice none 0 0] 31)
  have hO0 := Lib.hid (OwnR.first w1)
  obtain ⟨k0, k1⟩ := (hM.ext hX).c2
  clear hM
  go_enter Tryz.func28, Tryz.ntmps28
  go_wp2_with fail
  go_loopw [3, 11] (fun u i wr => ∃ k : Nat, k ≤ m.wvs.length ∧ i = .int .i64 (k : Int) ∧ Hid (OwnR wr w1.heap.size u (groupsI k)) ∧ Ext w1 wr) (fun _ i _ => m.wvs.length - (intOf i).toNat)
  case atStart => exact ⟨0, Nat.zero_le _, rfl, by subst hw1; exact hO0, by subst hw1; exact hX⟩
  case round =>
    obtain ⟨k, hk, rfl, hO, he⟩ := hrel
    by_cases hlt : k < m.wvs.length
    · obtain ⟨X, hXe⟩ : ∃ X, groupsI k = X := ⟨_, rfl⟩
      have hfew := groupsI_few k (by omega)
      have Hgl : Hid (∀ l, l ∈ X → l.length ≤ k) := fun l hl => groups_len (by rw [hXe]; exact hl)
      rw [hXe] at hO hfew
      have Hsucc : Hid (groupsI (k + 1) = X ++ X.map (· ++ [(k : Int)])) := by unfold Hid; rw [groupsI_succ, hXe]
      obtain ⟨A3, c3, rfl, -, -, g3, -⟩ := hO.out.open_
      have hcl := Lib.hid (cloneR_any w1.heap.size _ X wr hO.out hfew.1 (by omega))
      clear hXe
      go_wp2_with fail
      refine hcl.out.mono ?_
      rintro e w2 ⟨cv, rfl, hC, hCg, he2⟩
      have hap : Hid (∀ g, cv.ownBlock = some g → (Value.slice A3 X.length c3).ownBlock ≠ some g) := fun g hg e => by
        obtain ⟨vs, hr, -⟩ := hO.out
        have := (ownsRow_own hr g e).2
        have := hCg g hg
        omega
      have HC := Lib.hid hC
      have HO2 := Lib.hid (hO.out.ext he2)
      have heA := he.trans he2
      obtain ⟨A5, c5, rfl, -, -, -, -⟩ := hC.open_
      clear hC hCg hcl hO he he2 g3 hX hO0 k0 k1
      go_wp2_with fail
      go_loopw [3, 17] (fun u i wq => ∃ j : Nat, j ≤ X.length ∧ i = .int .i64 (j : Int) ∧ Hid (OwnR wq w1.heap.size u (X ++ (X.take j).map (· ++ [(k : Int)]))) ∧ Hid (OwnR wq w1.heap.size (.slice A5 X.length c5) X) ∧ Hid (∀ g, (Value.slice A5 X.length c5).ownBlock = some g → u.ownBlock ≠ some g) ∧ Ext w1 wq) (fun _ i _ => X.length - (intOf i).toNat)
      case atStart => exact ⟨0, Nat.zero_le _, rfl, by simpa using HO2, HC, hap, heA⟩
      case round =>
        clear HO2 HC hap heA
        obtain ⟨j, hj, rfl, hO, hC, hap, heq⟩ := hrel
        by_cases hlj : j < X.length
        · obtain ⟨Y, hY⟩ : ∃ Y, X ++ (X.take j).map (· ++ [(k : Int)]) = Y := ⟨_, rfl⟩
          obtain ⟨l, hl⟩ : ∃ l, X[j]? = some l := ⟨_, List.getElem?_eq_getElem hlj⟩
          have hYn : Hid (X ++ (X.take (j + 1)).map (· ++ [(k : Int)]) = Y ++ [l ++ [(k : Int)]]) := by
            unfold Hid
            rw [← hY, List.take_add_one, hl, List.map_append, List.append_assoc]; rfl
          have hYl : Y.length ≤ 64 := by
            rw [← hY, List.length_append, List.length_map, List.length_take]; omega
          rw [hY] at hO
          have hll := Hgl.out l (List.mem_of_getElem? hl)
          obtain ⟨A6, c6, e6, -, -, -, hrows⟩ := hC.out.open_
          cases e6
          obtain ⟨b5, u5, rfl, hc5, hI5⟩ := hrows j hlj
          rw [hl, Option.getD_some] at hI5
          obtain ⟨A6, c6, rfl, l1, l2, l3, -, -⟩ := hI5.open_
          have hcl := Lib.hid (cloneI A6 c6 l wr (by omega) l3)
          have hszq := heq.size
          obtain ⟨A3, c3, rfl, -, -, -, -⟩ := hO.out.open_
          clear hI5 hrows l3 hl hY
          go_wp2_with fail
          refine hcl.out.mono ?_
          rintro e w5 ⟨v5, rfl, hV, he5⟩
          have hX5 := Ext.alloc w5 (.cells #[.int .i64 (k : Int)] 3)
          have hsrc := Src.one w5 (.int .i64 (k : Int)) 3
          have hVX := hV.ext hX5
          have hsz5 := he5.size
          obtain ⟨A7, c7, rfl⟩ := ownsRow_slice hV
          have Hw : Hid (∀ v' w', w'.ownsRow wr.heap.size 3 1 v' (l.length + 1) (l.map (Value.int .i64) ++ [.int .i64 (k : Int)]) → (w5.alloc (.cells #[.int .i64 (k : Int)] 3)).grownBy w' (Value.slice A7 l.length c7).ownBlock → OwnI w' wr.heap.size 3 v' (l ++ [(k : Int)]) ∧ Ext wr w') := by
            intro v' w' hown hg
            exact ⟨by unfold OwnI; rw [List.length_append, List.map_append]; exact hown, ext_grown he5 hg fun j hj => (hV.own_lt j hj).1⟩
          clear hV hcl
          go_wp2_with (at_builtin; first
            | (refine wpList_app rfl _ _ 31 rfl wr.heap.size 3 ti (.int .i64 0) 1 8 Tryz.underlying31 hi hz0 hz1 hz2 rfl (by decide) (.slice A7 l.length c7) l.length _ rfl hVX (some ⟨w5.heap.size, 0, none⟩) 1 1 [.int .i64 (k : Int)] rfl rfl hsrc ?c2 ?c3 ?c4 ?c5 ?_; (case c2 => (intro u hu; rw [List.mem_singleton] at hu; subst hu; rfl)); (case c3 => (unfold maxLen; omega)); (case c4 => omega); (case c5 => (rw [World.size_alloc]; omega)); intro v7 w7 hown hg hblk; have HO7 := Lib.hid (Hw.out v7 w7 hown hg); obtain ⟨A9, c9, rfl⟩ := ownsRow_slice hown; clear hown hg hblk)
            | (have heY := HO7.out.2.trans (Ext.alloc w7 (.cells #[.slice A9 (l.length + 1) c9] 31))
               have hszY := heY.size
               obtain ⟨vs, hrow, hvl, hvi⟩ := hO.out.ext heY
               have Hw8 : Hid (∀ v' w', w'.ownsRow w1.heap.size 31 1 v' (Y.length + 1) (vs ++ [.slice A9 (l.length + 1) c9]) → (w7.alloc (.cells #[.slice A9 (l.length + 1) c9] 31)).grownBy w' (Value.slice A3 Y.length c3).ownBlock → (v'.ownBlock = (Value.slice A3 Y.length c3).ownBlock ∨ v'.ownBlock = some (w7.alloc (.cells #[.slice A9 (l.length + 1) c9] 31)).heap.size) →
                   OwnR w' w1.heap.size v' (X ++ (X.take (j + 1)).map (· ++ [(k : Int)])) ∧ OwnR w' w1.heap.size (.slice (some ⟨b5, 0, none⟩) X.length c5) X ∧ (∀ g, (Value.slice (some ⟨b5, 0, none⟩) X.length c5).ownBlock = some g → v'.ownBlock ≠ some g) ∧ Ext w1 w') := by
                 intro v' w' hown hg hblk
                 refine ⟨?_, (hC.out.ext heY).grown hg hrow (fun g h e => hap.out g h e.symm), apart_app hap.out (fun g h => ?_) hblk, ext_grown0 (heq.trans heY) hg fun j hj => (ownsRow_own hrow j hj).1⟩
                 · rw [hYn.out]
                   exact OwnR.push rfl hrow hvl hvi (((HO7.out.1).mono hszq).ext (Ext.alloc w7 _)) hown hg
                 · obtain ⟨us, hr, -⟩ := hC.out.ext heY
                   exact (ownsRow_own hr g h).2
               have hsrc2 := Src.one w7 (.slice A9 (l.length + 1) c9) 31
               refine wpList_app rfl _ _ 44 rfl w1.heap.size 31 ti2 (.slice none 0 0) 1 24 Tryz.underlying44 hi2 hy0 hy1 hy2 rfl (by decide) (.slice A3 Y.length c3) Y.length _ rfl hrow (some ⟨w7.heap.size, 0, none⟩) 1 1 [.slice A9 (l.length + 1) c9] rfl rfl hsrc2 ?c2 ?c3 ?c4 ?c5 ?_; (case c2 => (intro u hu; rw [List.mem_singleton] at hu; subst hu; exact HO7.out.1.one)); (case c3 => (unfold maxLen; omega)); (case c4 => omega); (case c5 => omega); intro v8 w8 hown hg hblk; have HO8 := Lib.hid (Hw8.out v8 w8 hown hg hblk); clear hown hg hblk))
          go_roundw
          case rel => exact ⟨j + 1, by omega, by go_num, HO8.out.1, HO8.out.2.1, HO8.out.2.2.1, HO8.out.2.2.2⟩
          case measure => simp [intOf]; omega
        · obtain rfl : j = X.length := by omega
          rw [List.take_length] at hO
          go_wp2_with fail
          go_roundw
          case rel => exact ⟨k + 1, by omega, by go_num, by rw [Hsucc.out]; exact hO, heq⟩
          case measure => simp [intOf]; omega
    · obtain rfl : k = m.wvs.length := by omega
      go_wp2_with fail
      go_ret
      exact ⟨_, rfl, hO.out.mono hszE, hE.trans he⟩

/-- a number put into a list -/
def insI (k : Nat) (l : List Int) (a : Nat) : List Int := l.take a ++ (k : Int) :: l.drop a
def insL (k : Nat) (l : List Int) : List (List Int) := (List.range (l.length + 1)).map (insI k l)
/-- all orders, as lists of ints -/
def permsI (n : Nat) : List (List Int) := (Pow.permsF n).map ints
theorem permsI_succ (k : Nat) : permsI (k + 1) = (permsI k).flatMap (insL k) := by
  unfold permsI
  simp only [Pow.permsF, List.map_flatMap, List.flatMap_map]
  congr 1
  funext l
  unfold insL
  rw [List.map_map, show (ints l).length = l.length by simp [ints]]
  exact List.map_congr_left fun a _ => by simp [insI, ints, List.map_take, List.map_drop]
theorem permsI_len {k : Nat} {l : List Int} (h : l ∈ permsI k) : l.length = k := by
  obtain ⟨g, hg, rfl⟩ := List.mem_map.1 h
  rw [show (ints g).length = g.length by simp [ints], (Pow.permsF_perm _ _ hg).length_eq, List.length_range]
theorem permsI_few {k : Nat} (hk : k < 6) : (permsI k).length ≤ 120 := by
  unfold permsI
  rw [List.length_map, Pow.perms_len]
  exact Pow.fac_five (by omega)
theorem ins_total {k : Nat} : ∀ {X : List (List Int)}, (∀ l, l ∈ X → l.length = k) → (X.flatMap (insL k)).length = X.length * (k + 1)
  | [], _ => by simp
  | a :: X, h => by
    have ih := ins_total (k := k) (X := X) fun l hl => h l (List.mem_cons_of_mem _ hl)
    rw [List.flatMap_cons, List.length_append, ih, List.length_cons, Nat.succ_mul]
    unfold insL
    rw [List.length_map, List.length_range, h a List.mem_cons_self]
    omega
set_option maxRecDepth 20000 in
set_option maxHeartbeats 2000000 in
theorem perms_any (n : Nat) (hn : n ≤ 6) (w1 : World) :
    Calls Tryz.prog 88 #[.int .i64 (n : Int)] w1 fun e w' => ∃ v', e = .returned v' ∧ OwnR w' w1.heap.size v' (permsI n) ∧ Ext w1 w' := by
  obtain ⟨ti2, hi2, hy0, hy1, hy2⟩ := info_parts info_row
  have hX := Ext.alloc w1 (.cells #[.slice none 0 0] 31)
  have hO0 := Lib.hid (OwnR.first w1)
  go_enter Tryz.func88, Tryz.ntmps88
  go_wp2_with fail
  go_loopw [3, 11] (fun u i wr => ∃ k : Nat, k ≤ n ∧ i = .int .i64 (k : Int) ∧ Hid (OwnR wr w1.heap.size u (permsI k)) ∧ Ext w1 wr) (fun _ i _ => n - (intOf i).toNat)
  case atStart => exact ⟨0, Nat.zero_le _, rfl, hO0, hX⟩
  case round =>
    obtain ⟨k, hk, rfl, hO, he⟩ := hrel
    clear hX hO0
    by_cases hlt : k < n
    · obtain ⟨X, hXe⟩ : ∃ X, permsI k = X := ⟨_, rfl⟩
      have hfew := permsI_few (k := k) (by omega)
      have Hgl : Hid (∀ l, l ∈ X → l.length = k) := fun l hl => permsI_len (by rw [hXe]; exact hl)
      rw [hXe] at hO hfew
      have Hsucc : Hid (permsI (k + 1) = X.flatMap (insL k)) := by unfold Hid; rw [permsI_succ, hXe]
      obtain ⟨A3, c3, rfl, -, -, g3, -⟩ := hO.out.open_
      clear hXe
      have hsz1 := he.size
      generalize wr = wk at *
      go_wp2_with fail
      go_loopw [5, 16] (fun u i wq => ∃ j : Nat, j ≤ X.length ∧ i = .int .i64 (j : Int) ∧ Hid (OwnR wq wk.heap.size u ((X.take j).flatMap (insL k))) ∧ Ext wk wq) (fun _ i _ => X.length - (intOf i).toNat)
      case atStart => exact ⟨0, Nat.zero_le _, rfl, Lib.hid (OwnR.nil _ _), Ext.refl _⟩
      case round =>
        obtain ⟨j, hj, rfl, hN, heq⟩ := hrel
        by_cases hlj : j < X.length
        · obtain ⟨Z, hZ⟩ : ∃ Z, (X.take j).flatMap (insL k) = Z := ⟨_, rfl⟩
          obtain ⟨l, hl⟩ : ∃ l, X[j]? = some l := ⟨_, List.getElem?_eq_getElem hlj⟩
          have hll : l.length ≤ 5 := by have := Hgl.out l (List.mem_of_getElem? hl); omega
          have hZn : Hid ((X.take (j + 1)).flatMap (insL k) = Z ++ insL k l) := by
            unfold Hid
            rw [← hZ, List.take_add_one, hl, List.flatMap_append]; simp
          have hZl : Z.length ≤ 720 := by
            rw [← hZ, ins_total fun l hl => Hgl.out l (List.mem_of_mem_take hl), List.length_take]
            exact Nat.mul_le_mul (show min j X.length ≤ 120 by omega) (show k + 1 ≤ 6 by omega)
          rw [hZ] at hN
          obtain ⟨A6, c6, e6, -, -, -, hrows⟩ := hO.out.open_
          cases e6
          obtain ⟨b5, u5, rfl, hc5', hI5⟩ := hrows j hlj
          have hc5 := heq.cell hc5'
          rw [hl, Option.getD_some] at hI5
          obtain ⟨A6, c6, rfl, l1, l2, l3, -, -⟩ := hI5.open_
          have HL3 := Lib.hid l3
          clear hI5 hrows hl hZ hc5' l3
          go_wp2_with fail
          go_loopw [5, 23] (fun u i wq => ∃ a : Nat, a ≤ l.length + 1 ∧ i = .int .i64 (a : Int) ∧ Hid (OwnR wq wk.heap.size u (Z ++ (List.range a).map (insI k l))) ∧ Ext wk wq) (fun _ i _ => l.length + 1 - (intOf i).toNat)
          case atStart => exact ⟨0, Nat.zero_le _, rfl, by simpa using hN, heq⟩
          case round =>
            clear heq hN hc5
            obtain ⟨a, ha, rfl, hM, hea⟩ := hrel
            by_cases hla : a < l.length + 1
            · have hdl : decide ((a : Int) < (l.length : Int) + 1) = true := by simp; omega
              obtain ⟨Y, hY⟩ : ∃ Y, Z ++ (List.range a).map (insI k l) = Y := ⟨_, rfl⟩
              have hYn : Hid (Z ++ (List.range (a + 1)).map (insI k l) = Y ++ [insI k l a]) := by
                unfold Hid
                rw [← hY, List.range_succ, List.map_append, List.append_assoc]; rfl
              have hYl : Y.length ≤ 800 := by
                rw [← hY, List.length_append, List.length_map, List.length_range]; omega
              rw [hY] at hM
              have hcl := Lib.hid (cloneI A6 c6 l wr (by omega) (HL3.out.ext hea))
              have hsza := hea.size
              obtain ⟨A8, c8, rfl, -, -, -, -⟩ := hM.out.open_
              clear hY
              go_wp2_with fail
              refine hcl.out.mono ?_
              rintro e w5 ⟨v5, rfl, hV, he5⟩
              have hX5 := Ext.alloc w5 (.cells #[.int .i64 (k : Int)] 3)
              have hB5 := Blk.new w5 3 #[.int .i64 (k : Int)]
              have hsz5 := he5.size
              have hVX := hV.ext hX5
              have hin := Lib.hid (insertI wr.heap.size v5 l _ hVX (by rw [World.size_alloc]; omega) (by omega) a (by omega) (k : Int) w5.heap.size 1 hB5 (fun e => by have := (hV.own_lt _ e).2; omega))
              have HV := Lib.hid hV
              obtain ⟨A7, c7, rfl⟩ := ownsRow_slice hV
              clear hV hcl hVX hB5
              go_wp2_with fail
              refine hin.out.mono ?_
              rintro e w7 ⟨v7, rfl, hO7, hg7, -⟩
              have he7 : Ext wr w7 := ext_grown he5 hg7 fun j hj => (HV.out.own_lt j hj).1
              have HO7 : Hid (OwnI w7 wr.heap.size 3 v7 (insI k l a)) := hO7
              obtain ⟨A9, c9, rfl⟩ := ownsRow_slice HO7.out
              have heY := he7.trans (Ext.alloc w7 (.cells #[.slice A9 (insI k l a).length c9] 31))
              have hszY := heY.size
              obtain ⟨vs, hrow, hvl, hvi⟩ := hM.out.ext heY
              have Hw8 : Hid (∀ v' w', w'.ownsRow wk.heap.size 31 1 v' (Y.length + 1) (vs ++ [.slice A9 (insI k l a).length c9]) → (w7.alloc (.cells #[.slice A9 (insI k l a).length c9] 31)).grownBy w' (Value.slice A8 Y.length c8).ownBlock →
                  OwnR w' wk.heap.size v' (Z ++ (List.range (a + 1)).map (insI k l)) ∧ Ext wk w') := by
                intro v' w' hown hg
                refine ⟨?_, ext_grown0 (hea.trans heY) hg fun j hj => (ownsRow_own hrow j hj).1⟩
                rw [hYn.out]
                exact OwnR.push rfl hrow hvl hvi ((HO7.out.mono hsza).ext (Ext.alloc w7 _)) hown hg
              have hsrc2 := Src.one w7 (.slice A9 (insI k l a).length c9) 31
              clear hin hO7 hg7 hvi
              go_wp2_with (at_builtin; refine wpList_app rfl _ _ 44 rfl wk.heap.size 31 ti2 (.slice none 0 0) 1 24 Tryz.underlying44 hi2 hy0 hy1 hy2 rfl (by decide) (.slice A8 Y.length c8) Y.length _ rfl hrow (some ⟨w7.heap.size, 0, none⟩) 1 1 [.slice A9 (insI k l a).length c9] rfl rfl hsrc2 ?c2 ?c3 ?c4 ?c5 ?_; (case c2 => (intro u hu; rw [List.mem_singleton] at hu; subst hu; exact HO7.out.one)); (case c3 => (unfold maxLen; omega)); (case c4 => omega); (case c5 => omega); intro v8 w8 hown hg hblk; have HO8 := Lib.hid (Hw8.out v8 w8 hown hg); clear hown hg hblk)
              go_roundw
              case rel => exact ⟨a + 1, by omega, by go_num, HO8.out.1, HO8.out.2⟩
              case measure => simp [intOf]; omega
            · obtain rfl : a = l.length + 1 := by omega
              have hdl : decide (((l.length + 1 : Nat) : Int) < (l.length : Int) + 1) = false := by simp
              go_wp2_with fail
              go_roundw
              case rel => exact ⟨j + 1, by omega, by go_num, by rw [hZn.out]; exact hM, hea⟩
              case measure => simp [intOf]; omega
        · obtain rfl : j = X.length := by omega
          rw [List.take_length] at hN
          go_wp2_with fail
          go_roundw
          case rel => exact ⟨k + 1, by omega, by go_num, by rw [Hsucc.out]; exact Lib.hid (hN.out.mono hsz1), he.trans heq⟩
          case measure => simp [intOf]; omega
    · obtain rfl : k = n := by omega
      go_wp2_with fail
      go_ret
      exact ⟨_, rfl, hO.out, he⟩
end Go.Proofs.Pet
