/-
  PowerFair walked.
-/
import Derived.Test.YtjlglbhafopomaaGreatPD1
namespace Go.Proofs.Pet
open Go Go.RowKit Go.Maps Go.Shelf
open Go.Proofs.Pow (PM Sh Wv POk Up)

theorem OwnR.apartB {w W : World} {base b : Nat} {v : Value} {xss : List (List Int)} (h : OwnR w base v xss) (hb : b < base) (ha : Apart b w W) : OwnR W base v xss := by
  obtain ⟨vs, h1, h2, h3⟩ := h
  exact ⟨vs, ownsRow_apart h1 (fun e => by have := (ownsRow_own h1 b e).1; omega) ha, h2, fun i hi => (h3 i hi).apartB hb ha⟩
theorem up_in {m : PM} {x : List Nat} (hu : Up m.wvs.length 0 x) : Pow.InG m (ints x) := fun y hy => by
  obtain ⟨k, hk, rfl⟩ := ints_mem.1 hy
  have := hu.2 k hk
  omega
theorem group_ok {m : PM} (hm : POk m) {x : List Nat} (hu : Up m.wvs.length 0 x) : groupE m (ints x) = 0 := by
  have hc : checkP m = 0 := (checkP_iff m).2 hm
  have a1 : ((ints x).all fun k => inB k 0 ((m.wvs.length : Int) - 1)) = true := List.all_eq_true.2 fun y hy => inB_iff.2 (by have := up_in hu y hy; omega)
  have hn : (ints x).Nodup := nodup_ints (Pow.up_nodup hu)
  have a2 : twiceB (ints x) = false := twiceB_false fun k hk => by
    rw [← Bool.not_eq_true, List.contains_iff_mem]
    intro hmem
    rw [List.getElem?_eq_getElem hk, Option.getD_some, List.mem_take_iff_getElem] at hmem
    obtain ⟨j, hj, e⟩ := hmem
    exact List.pairwise_iff_getElem.1 (List.nodup_iff_pairwise_ne.1 hn) j k (by omega) hk (by omega) e
  unfold groupE
  rw [if_neg (by rw [hc]; decide), if_neg (by rw [a1]; decide), if_neg (by rw [a2]; decide)]
/-- what the shares of the first ones of a list come to -/
def shT (f : Nat → Int) (l : List Int) (t : Nat) : Int := ((l.take t).map fun k => f k.toNat).sum
theorem shT_succ {f : Nat → Int} {l : List Int} {t : Nat} {x : Int} (h : l[t]? = some x) : shT f l (t + 1) = shT f l t + f x.toNat := by
  unfold shT
  rw [List.take_add_one, h]
  simp
theorem shT_full (f : Nat → Int) (x : List Nat) : shT f (ints x) (ints x).length = (x.map f).sum := by
  unfold shT
  rw [List.take_length]
  unfold ints
  rw [List.map_map]
  rfl
theorem shT_bd {f : Nat → Int} {B : Int} (hB : 0 ≤ B) {l : List Int} (h : ∀ y, y ∈ l → 0 ≤ f y.toNat ∧ f y.toNat ≤ B) : ∀ t : Nat, 0 ≤ shT f l t ∧ shT f l t ≤ B * t
  | 0 => by simp [shT]
  | t + 1 => by
    have ih := shT_bd hB h t
    by_cases ht : t < l.length
    · have := h l[t] (List.getElem_mem ht)
      rw [shT_succ (List.getElem?_eq_getElem ht), show B * ((t + 1 : Nat) : Int) = B * t + B by rw [Int.natCast_add, Int.mul_add]; simp]
      omega
    · have e : shT f l (t + 1) = shT f l t := by unfold shT; rw [List.take_of_length_le (by omega), List.take_of_length_le (by omega)]
      rw [e, show B * ((t + 1 : Nat) : Int) = B * t + B by rw [Int.natCast_add, Int.mul_add]; simp]
      omega
/-- the shares of the mill as a list -/
def shareL (m : PM) : List Int := (List.range m.wvs.length).map (Pow.shareP m)
theorem shareL_len (m : PM) : (shareL m).length = m.wvs.length := by simp [shareL]
theorem shareL_get {m : PM} {k : Nat} (hk : k < m.wvs.length) : (shareL m)[k]?.getD 0 = Pow.shareP m k := by
  unfold shareL
  rw [List.getElem?_map, List.getElem?_range hk]; rfl
theorem shared_ok {m : PM} (hm : POk m) : sharedE m (shareL m) = 0 ∧ fairF m (shareL m) = true ∧ bettE m (shareL m) = 6 := by
  have hc : checkP m = 0 := (checkP_iff m).2 hm
  have h1 : ((shareL m).all fun n => inB n 0 1000000) = true := List.all_eq_true.2 fun y hy => by
    obtain ⟨k, hk, rfl⟩ := List.mem_map.1 hy
    have := Pow.share_le hm (List.mem_range.1 hk)
    exact inB_iff.2 (by omega)
  have h2 : sharedE m (shareL m) = 0 := by
    unfold sharedE
    rw [if_neg (by rw [hc]; decide), if_neg (by rw [shareL_len]; exact fun h => h rfl), if_neg (by rw [h1]; decide)]
  have h3 : Pow.firstF m.wvs.length (Pow.moreB m (shareL m)) = none := Pow.better_none hm fun k hk => shareL_get hk
  refine ⟨h2, ?_, ?_⟩
  · unfold fairF
    rw [h3, show (shareL m).sum = 60 * Pow.costF m fun _ => true from hm.total]
    simp
  · unfold bettE
    rw [h2, if_neg (by decide), h3]
    rfl
theorem permsI_get {n j : Nat} {l : List Int} (h : (permsI n)[j]? = some l) : ∃ x, (Pow.permsF n)[j]? = some x ∧ l = ints x ∧ PermOf n l := by
  unfold permsI at h
  rw [List.getElem?_map] at h
  cases hx : (Pow.permsF n)[j]? with
  | none => rw [hx] at h; cases h
  | some x =>
    rw [hx] at h
    have e : l = ints x := (Option.some.inj h).symm
    refine ⟨x, rfl, e, ?_⟩
    rw [e]
    exact (Pow.permsF_perm _ _ (List.mem_of_getElem? hx)).map _
set_option maxRecDepth 100000 in
set_option maxHeartbeats 4000000 in
theorem powerFair_any (v : Value) (w : World) (hv : BytesIn w v) :
    Calls Tryz.prog 15 #[v] w fun e w' => e = .returned (.bool true) ∧ Ext w w' := by
  obtain ⟨ti, hi, hz0, hz1, hz2⟩ := info_parts info_int
  have hmk : ∀ (n : Nat) (W : World), n ≤ 6 → (Instr.makeSlice 31 (.int .i64 (n : Int)) (.int .i64 (n : Int))).run Tryz.prog W = .ok (.slice (some ⟨W.heap.size, 0, none⟩) n n) (W.alloc (.cells (madeCells #[.int .i64 0] n) 3)) := by
    intro n W hn
    have := run_make (P := Tryz.prog) W 31 3 ti _ Tryz.underlying31 hi hz0 .i64 .i64 n n (by omega) (by omega) (by rw [hz2]; omega) (by omega)
    simpa [hz1, Value.cells] using this
  have hwo := Lib.hid (wound_any v w hv)
  clear hv
  go_enter Tryz.func15, Tryz.ntmps15
  go_wp2_with fail
  refine hwo.out.mono ?_
  rintro e w1 ⟨rfl, hs1, he1⟩
  clear hwo
  have hma := Lib.hid (made7_any w.heap.size 0 (by omega) 5 (by omega) w1 hs1)
  go_wp2_with fail
  refine hma.out.mono ?_
  rintro e w2 ⟨mv, m, rfl, hO, hok, hm5, -, hap⟩
  have hE := Apart.ext_of he1 (Nat.le_refl _) hap
  have hml : m.wvs.length ≤ 5 := by omega
  have hval := hO.val
  obtain ⟨A1, c1, A2, c2, rfl, q1, q2, q3, q4, q5, q6⟩ := hO.val
  have hM := Blk.new w2 26 #[.slice A1 m.shafts.length c1, .slice A2 m.wvs.length c2]
  have hX := Ext.alloc w2 (.cells #[.slice A1 m.shafts.length c1, .slice A2 m.wvs.length c2] 26)
  have HV := Lib.hid (hval.ext hX)
  have hMw := hM
  have Hok := Lib.hid hok.1
  have hcm : checkP m = 0 := (checkP_iff m).2 hok.1
  have HE := Lib.hid (hE.trans hX)
  obtain ⟨M, hMe⟩ : ∃ M, w2.heap.size = M := ⟨_, rfl⟩
  obtain ⟨k0, k1⟩ := hM.c2
  rw [hMe] at hMw k0 k1
  have HM := Lib.hid hMw
  clear hma hs1 he1 hap hok hval hO hM hMw hX hE q5 q6
  go_upto_region 2 with fail
  try rw [hMe]
  clear hMe
  generalize w2.alloc _ = w3 at *
  have hsh := Lib.hid (shares_any _ m hcm w3 HV.out)
  go_wp2_with fail
  refine hsh.out.mono ?_
  rintro e w4 ⟨S, rfl, hR, -, he4⟩
  obtain ⟨k0', k1'⟩ := (HM.out.ext he4).c2
  have hck := Lib.hid (pcheck_any _ m w4 (HV.out.ext he4))
  rw [hcm] at hck
  have hlen : ((m.wvs.length : Int) != (m.wvs.length : Int)) = false := by simp
  clear hsh k0 k1
  go_wp2_with fail
  refine hck.out.mono ?_
  rintro e w5 ⟨rfl, he5⟩
  have heA := he4.trans he5
  obtain ⟨k0, k1⟩ := (HM.out.ext heA).c2
  have hgr := Lib.hid (groups_any _ m (by omega) w5 (HV.out.ext heA))
  have HR := Lib.hid (hR.ext he5)
  clear k0' k1' hck hR he4 he5
  go_wp2_with fail
  refine hgr.out.mono ?_
  rintro e w6 ⟨gv, rfl, hG, he6⟩
  have heB := heA.trans he6
  obtain ⟨G, hGe⟩ : ∃ G, groupsI m.wvs.length = G := ⟨_, rfl⟩
  have HGm : Hid (∀ g, g ∈ G → ∃ x, x ∈ Pow.groupsF m.wvs.length ∧ ints x = g) := fun g hg => by
    rw [← hGe] at hg
    exact List.mem_map.1 hg
  have hGl := (groupsI_few m.wvs.length (by omega)).2
  rw [hGe] at hG hGl
  obtain ⟨AG, cG, rfl, -, -, -, -⟩ := hG.open_
  have HG := Lib.hid hG
  have HR6 := Lib.hid (HR.out.ext he6)
  clear hgr k0 k1 hG hGe heA he6 HR
  go_wp2_with fail
  go_loopw [52] (fun i wr => ∃ j : Nat, j ≤ G.length ∧ i = .int .i64 (j : Int) ∧ Ext w6 wr) (fun i _ => G.length - (intOf i).toNat)
  case atStart => exact ⟨0, Nat.zero_le _, rfl, Ext.refl _⟩
  case round =>
    obtain ⟨j, hj, rfl, he⟩ := hrel
    by_cases hlt : j < G.length
    -- <<G
    · obtain ⟨g, hg⟩ : ∃ g, G[j]? = some g := ⟨_, List.getElem?_eq_getElem hlt⟩
      obtain ⟨x, hx, rfl⟩ := HGm.out g (List.mem_of_getElem? hg)
      have hu := (Pow.mem_groupsF _ _).1 hx
      obtain ⟨f1, f2⟩ := Pow.fair_group Hok.out hx
      obtain ⟨A6, c6, e6, -, -, -, hrows⟩ := (HG.out.ext he).open_
      cases e6
      obtain ⟨b5, u5, rfl, hc5, hI5⟩ := hrows j hlt
      rw [hg, Option.getD_some] at hI5
      obtain ⟨A6, c6, rfl, l1, l2, l3, -, -⟩ := hI5.open_
      have hgin := up_in hu
      have hgl5 : (ints x).length ≤ 5 := by have := Pow.up_len hu; rw [ints_length]; omega
      have hgo := group_ok Hok.out hu
      have hful := shT_full (Pow.shareP m) x
      have hbd := shT_bd (f := Pow.shareP m) (B := 777600) (by decide) (l := ints x) fun y hy => Pow.share_le Hok.out (by have := hgin y hy; omega)
      have f1' : shT (Pow.shareP m) (ints x) (ints x).length ≤ 60 * Pow.costF m (fun k => (ints x).contains (k : Int)) ∧ ((ints x).length = m.wvs.length → shT (Pow.shareP m) (ints x) (ints x).length = 60 * Pow.costF m (fun k => (ints x).contains (k : Int))) := by
        rw [hful, show Pow.costF m (fun k => (ints x).contains (k : Int)) = Pow.costF m (fun k => x.contains k) from Pow.costQ_congr fun k _ => ints_contains ..]
        exact ⟨f1, fun h => f2 (by rw [ints_length] at h; exact h)⟩
      obtain ⟨g, hgx⟩ : ∃ g, ints x = g := ⟨_, rfl⟩
      rw [hgx] at hgin hgl5 hgo hbd f1' l1 l3 hc5
      obtain ⟨gl, hgl⟩ : ∃ gl, g.length = gl := ⟨_, rfl⟩
      rw [hgl] at hgl5 f1' l1 hc5
      have Hgl := Lib.hid hgl; have Hl3 := Lib.hid l3; have Hgin := Lib.hid hgin; have Hbd := Lib.hid hbd; have Hf := Lib.hid f1'; have Hgo := Lib.hid hgo
      clear hg hx hu f1 f2 hI5 hrows hful hgx hgl l3 hgin hbd f1' hgo
      generalize wr = wj at *
      go_wp2_with fail
      go_loopw [8, 58] (fun s i wq => ∃ t : Nat, t ≤ gl ∧ i = .int .i64 (t : Int) ∧ s = .int .i64 (shT (Pow.shareP m) g t) ∧ wj = wq) (fun _ i _ => gl - (intOf i).toNat)
      case atStart => exact ⟨0, Nat.zero_le _, rfl, rfl, rfl⟩
      case round =>
        obtain ⟨t, ht, rfl, rfl, rfl⟩ := hrel
        have hb1 := Hbd.out t
        by_cases hlt2 : t < gl
        · obtain ⟨y, hy⟩ : ∃ y, g[t]? = some y := ⟨_, List.getElem?_eq_getElem (by rw [Hgl.out]; exact hlt2)⟩
          have hyb := Hgin.out y (List.mem_of_getElem? hy)
          obtain ⟨b7, o7, rfl, l7⟩ := Hl3.out t (by rw [Hgl.out]; exact hlt2)
          rw [hy, Option.getD_some] at l7
          obtain ⟨yy, rfl⟩ : ∃ yy : Nat, y = yy := ⟨y.toNat, by omega⟩
          have hyl : yy < m.wvs.length := by omega
          have r1 := (HR6.out.ext he).cell hyl
          have hsu := shT_succ (f := Pow.shareP m) hy
          rw [Int.toNat_natCast] at hsu
          have hb2 := Hbd.out (t + 1)
          rw [hsu] at hb2
          have Hsu := Lib.hid hsu
          obtain ⟨s0, hs0⟩ : ∃ s0, shT (Pow.shareP m) g t = s0 := ⟨_, rfl⟩
          obtain ⟨sy, hsy⟩ : ∃ sy, Pow.shareP m yy = sy := ⟨_, rfl⟩
          rw [hs0] at hb1 hb2 ⊢
          rw [hsy] at r1 hb2
          have Hs0 := Lib.hid hs0; have Hsy := Lib.hid hsy
          clear hy hsu hs0 hsy hyb
          go_wp2_with fail
          go_roundw
          case rel => exact ⟨t + 1, by omega, by go_num, by rw [Hsu.out, Hs0.out, Hsy.out], by trivial⟩
          case measure => simp [intOf]; omega
        · obtain rfl : t = gl := by omega
          have hco := Lib.hid (Cost_any _ m A6 c6 t g Hgl.out 0 _ Hgo.out (if_pos rfl) wj (HV.out.ext (heB.trans he)) (by unfold maxLen; omega) l1 Hl3.out)
          obtain ⟨k0, k1⟩ := (HM.out.ext (heB.trans he)).c2
          obtain ⟨S0, hS0⟩ : ∃ S0, shT (Pow.shareP m) g t = S0 := ⟨_, rfl⟩
          have hlc := Lib.hid (fun W (heW : Ext wj W) => lcost_any _ m Hok.out A6 c6 t g Hgl.out Hgin.out (by unfold maxLen; omega) W (HV.out.ext ((heB.trans he).trans heW)) (Hl3.out.ext heW))
          have hcb := Pow.cost_bounds Hok.out fun k => g.contains (k : Int)
          obtain ⟨cf, hcf⟩ : ∃ cf, (Pow.costF m fun k => g.contains (k : Int)) = cf := ⟨_, rfl⟩
          have hf := Hf.out
          rw [hS0, hcf] at hf
          rw [hcf] at hco hlc hcb
          rw [hS0] at hb1 ⊢
          clear hcf hS0
          go_wp2_with fail
          refine hco.out.mono ?_
          rintro e w8 ⟨rfl, he8⟩
          obtain ⟨k0', k1'⟩ := (HM.out.ext ((heB.trans he).trans he8)).c2
          have hcc : (cf != cf) = false := by simp
          have ht1 : decide (S0 > 60 * cf) = false := by have := hf.1; simpa using this
          clear hco k0 k1
          go_wp2_with fail
          refine (hlc.out w8 he8).mono ?_
          rintro e w9 ⟨rfl, he9⟩
          obtain ⟨k0, k1⟩ := (HM.out.ext ((heB.trans he).trans (he8.trans he9))).c2
          by_cases hgw : t = m.wvs.length
          · have ht2 : ((t : Int) == (m.wvs.length : Int)) = true := by simp [hgw]
            have ht3 : (S0 != 60 * cf) = false := by simp [hf.2 hgw]
            clear hf hlc k0' k1' hgw
            go_wp2_with fail
            go_roundw
            case rel => exact ⟨j + 1, by omega, by go_num, he.trans (he8.trans he9)⟩
            case measure => simp [intOf]; omega
          · have ht2 : ((t : Int) == (m.wvs.length : Int)) = false := by simp; omega
            clear hf hlc k0' k1' hgw
            go_wp2_with fail
            go_roundw
            case rel => exact ⟨j + 1, by omega, by go_num, he.trans (he8.trans he9)⟩
            case measure => simp [intOf]; omega
    -- >>
    · -- <<P
      obtain rfl : j = G.length := by omega
      have heC := heB.trans he
      have HR7 := Lib.hid (HR6.out.ext he)
      have hmk2 : ∀ W : World, (Instr.makeSlice 31 (.int .i64 (m.wvs.length : Int)) (.int .i64 (m.wvs.length : Int))).run Tryz.prog W = .ok (.slice (some ⟨W.heap.size, 0, none⟩) m.wvs.length m.wvs.length) (W.alloc (.cells (madeCells #[.int .i64 0] m.wvs.length) 3)) := fun W => hmk _ W (by omega)
      have hX := Ext.alloc wr (.cells (madeCells #[.int .i64 0] m.wvs.length) 3)
      have hRow := Row.made (Blk.new wr 3 (madeCells #[.int .i64 0] m.wvs.length))
      have hpe := Lib.hid (perms_any m.wvs.length (by omega) (wr.alloc (.cells (madeCells #[.int .i64 0] m.wvs.length) 3)))
      generalize wr = wg at *
      obtain ⟨S2, hS2⟩ : ∃ S2, wg.heap.size = S2 := ⟨_, rfl⟩
      rw [hS2] at hRow
      have hS2l : wg.heap.size ≤ S2 := by omega
      have HRow := Lib.hid hRow
      clear hmk HG HGm hGl he heB HR6 hlen hRow hj hlt
      go_upto_region 19 with fail
      try rw [hS2]
      clear hS2 hmk2
      generalize wg.alloc _ = w7 at *
      have hS7 := HRow.out.lt
      go_wp2_with fail
      refine hpe.out.mono ?_
      rintro e w8 ⟨pv, rfl, hP, he8⟩
      have HR8 := Lib.hid (HRow.out.ext he8)
      obtain ⟨P, hPe⟩ : ∃ P, permsI m.wvs.length = P := ⟨_, rfl⟩
      have HPm : Hid (∀ j l, P[j]? = some l → ∃ x, (Pow.permsF m.wvs.length)[j]? = some x ∧ l = ints x ∧ PermOf m.wvs.length l) := fun j l h => permsI_get (by rw [hPe]; exact h)
      have hPl := permsI_few (k := m.wvs.length) (by omega)
      have HPN : Hid ((Pow.permsF m.wvs.length).length = P.length) := by unfold Hid; rw [← hPe]; simp [permsI]
      rw [hPe] at hP hPl
      obtain ⟨AP, cP, rfl, -, -, -, -⟩ := hP.open_
      have HP := Lib.hid hP
      have heG8 := hX.trans he8
      clear hpe hP hPe he8 HRow hX
      obtain ⟨PN, hPN⟩ : ∃ PN, Pow.permsF m.wvs.length = PN := ⟨_, rfl⟩
      have HPp : Hid (∀ l, l ∈ PN → l.Perm (List.range m.wvs.length)) := fun l hl => Pow.permsF_perm _ _ (by rw [hPN]; exact hl)
      have Hfs : Hid (∀ k, k < m.wvs.length → 60 * Pow.sumA m PN k = Pow.shareP m k * (PN.length : Int)) := fun k hk => by rw [← hPN]; exact Pow.fair_sums Hok.out hk
      have Hsb : Hid (∀ j k, k < m.wvs.length → 0 ≤ Pow.sumA m (PN.take j) k ∧ Pow.sumA m (PN.take j) k ≤ 1555200) := fun j k hk => by
        have h1 := Pow.sumA_bd Hok.out hk (L := PN.take j) fun l hl => HPp.out l (List.mem_of_mem_take hl)
        have h2 : (PN.take j).length ≤ 120 := by rw [List.length_take, ← hPN, HPN.out]; omega
        omega
      rw [hPN] at HPN HPm
      clear hPN
      go_wp2_with fail
      go_loopw [14, 112] (fun o i wq => ∃ j : Nat, j ≤ P.length ∧ i = .int .i64 (j : Int) ∧ o = .int .i64 (j : Int) ∧ Hid (Row wq S2 m.wvs.length (fun k => Pow.sumA m (PN.take j) k)) ∧ Apart S2 w8 wq) (fun _ i _ => P.length - (intOf i).toNat)
      case atStart => exact ⟨0, Nat.zero_le _, rfl, rfl, Lib.hid (HR8.out.congr fun k _ => by simp [Pow.sumA]), Apart.refl _ _⟩
      case round =>
        clear HR8
        obtain ⟨j, hj, rfl, rfl, hRj, hap⟩ := hrel
        have heW := Apart.ext_of heG8 hS2l hap
        by_cases hlt : j < P.length
        -- <<P1
        · obtain ⟨l, hl⟩ : ∃ l, P[j]? = some l := ⟨_, List.getElem?_eq_getElem hlt⟩
          obtain ⟨x, hx, hlx, hp⟩ := HPm.out j l hl
          obtain ⟨A6, c6, e6, -, -, -, hrows⟩ := (HP.out.apartB hS7 hap).open_
          cases e6
          obtain ⟨b5, u5, rfl, hc5, hI5⟩ := hrows j hlt
          rw [hl, Option.getD_some] at hI5
          obtain ⟨A6, c6, rfl, l1, l2, l3, -, -⟩ := hI5.open_
          have hll := perm_len hp
          rw [hll] at l1 hc5
          have hpa := (perm_adds Hok.out hp).2
          obtain ⟨xa, hxa⟩ : ∃ xa, Pow.addsF m (natL l) = xa := ⟨_, rfl⟩
          have hxl : xa.length = m.wvs.length := by rw [← hxa, addsF_len]
          have hnl : natL l = x := by rw [hlx, natL_ints]
          have Hsum : Hid (∀ k, Pow.sumA m (PN.take (j + 1)) k = Pow.sumA m (PN.take j) k + xa[k]?.getD 0) := fun k => by
            rw [List.take_add_one, hx, show (some x).toList = [x] from rfl, Pow.sumA_snoc, ← hxa, hnl]
          have Hxb : Hid (∀ k, k < m.wvs.length → 0 ≤ xa[k]?.getD 0 ∧ xa[k]?.getD 0 ≤ 12960) := fun k hk => by
            rw [← hxa]
            exact Pow.addsF_bd Hok.out (perm_nat hp) hk
          have had := Lib.hid (Adds_any _ m A6 c6 m.wvs.length l hll 0 xa hpa (by rw [if_pos rfl]; exact hxa) wr (HV.out.ext (heC.trans heW)) (by unfold maxLen; omega) l1 l3)
          obtain ⟨k0, k1⟩ := (HM.out.ext (heC.trans heW)).c2
          have hlt9 := hRj.out.lt
          have hlen : ((m.wvs.length : Int) != (m.wvs.length : Int)) = false := by simp
          clear hl hx hlx hp hI5 hrows l3 hll hpa hxa hnl
          go_wp2_with fail
          refine had.out.mono ?_
          rintro e w9 ⟨ua, rfl, hO9, he9⟩
          have hapA := hap.trans (Apart.of_ext he9)
          obtain ⟨A4, c4, rfl, -, -, -, -, -⟩ := hO9.open_
          rw [hxl]
          have HO9 := Lib.hid hO9
          have Hxl := Lib.hid hxl
          have HR9 := Lib.hid (hRj.out.ext he9)
          clear had hO9 hxl hRj heW hap he9 k0 k1
          go_wp2_with fail
          go_loopw [135] (fun i wq => ∃ t : Nat, t ≤ m.wvs.length ∧ i = .int .i64 (t : Int) ∧ Hid (Row wq S2 m.wvs.length (fun k => if k < t then Pow.sumA m (PN.take (j + 1)) k else Pow.sumA m (PN.take j) k)) ∧ Apart S2 w9 wq) (fun i _ => m.wvs.length - (intOf i).toNat)
          case atStart => exact ⟨0, Nat.zero_le _, rfl, Lib.hid (HR9.out.congr fun k _ => by rw [if_neg (by omega)]), Apart.refl _ _⟩
          case round =>
            clear HR9
            obtain ⟨t, ht, rfl, hRt, hapt⟩ := hrel
            by_cases hlt2 : t < m.wvs.length
            · obtain ⟨A', c', e', -, -, a3, -, -⟩ := (HO9.out.apartB hlt9 hapt).open_
              cases e'
              obtain ⟨b4, o4, rfl, l4⟩ := a3 t (by rw [Hxl.out]; exact hlt2)
              have r1 := hRt.out.cell hlt2
              have r2 := hRt.out.frozen t
              rw [if_neg (by omega)] at r1
              have hb1 := Hsb.out j t hlt2
              have hb2 := Hxb.out t hlt2
              have hsu := Hsum.out t
              obtain ⟨x0, hx0⟩ : ∃ x0, xa[t]?.getD 0 = x0 := ⟨_, rfl⟩
              obtain ⟨s0, hs0⟩ : ∃ s0, Pow.sumA m (PN.take j) t = s0 := ⟨_, rfl⟩
              rw [hx0] at l4 hb2 hsu
              rw [hs0] at r1 hb1 hsu
              have Hnew : Hid (Row (wr.setCell ⟨S2, t, none⟩ (.int .i64 (s0 + x0))) S2 m.wvs.length (fun k => if k < t + 1 then Pow.sumA m (PN.take (j + 1)) k else Pow.sumA m (PN.take j) k)) := by
                refine (hRt.out.set_ hlt2 (s0 + x0)).congr fun k hk => ?_
                by_cases hkt : k = t
                · subst hkt
                  rw [if_pos rfl, if_pos (by omega), hsu]
                · rw [if_neg hkt]
                  by_cases hk2 : k < t
                  · rw [if_pos hk2, if_pos (by omega)]
                  · rw [if_neg hk2, if_neg (by omega)]
              have Hap := Lib.hid (hapt.set_ t (.int .i64 (s0 + x0)))
              clear hx0 hs0 hsu hRt hapt a3
              go_wp2_with fail
              go_roundw
              case rel => exact ⟨t + 1, by omega, by go_num, Hnew, Hap.out⟩
              case measure => simp [intOf]; omega
            · obtain rfl : t = m.wvs.length := by omega
              go_wp2_with fail
              go_roundw
              case rel => exact ⟨j + 1, by omega, by go_num, by go_num, Lib.hid (hRt.out.congr fun k hk => by rw [if_pos hk]), hapA.trans hapt⟩
              case measure => simp [intOf]; omega
        -- >>
        · -- <<P2
          obtain rfl : j = P.length := by omega
          have hR9 := hRj.out
          rw [← HPN.out, List.take_length] at hR9
          have HR9 := Lib.hid hR9
          have HRs := Lib.hid (HR7.out.ext heW)
          have Hfs2 := Hfs.out
          rw [HPN.out] at Hfs2
          have Hfs3 := Lib.hid Hfs2
          have Hsb2 := Hsb.out PN.length
          rw [List.take_length] at Hsb2
          have Hsb3 := Lib.hid Hsb2
          clear hR9 hRj Hfs2 Hsb2 Hfs Hsb HPN HPp HPm HR7
          generalize wr = wz at *
          go_wp2_with fail
          go_loopw [151] (fun i wq => ∃ t : Nat, t ≤ m.wvs.length ∧ i = .int .i64 (t : Int) ∧ wz = wq) (fun i _ => m.wvs.length - (intOf i).toNat)
          case atStart => exact ⟨0, Nat.zero_le _, rfl, rfl⟩
          case round =>
            obtain ⟨t, ht, rfl, rfl⟩ := hrel
            by_cases hlt2 : t < m.wvs.length
            · have r1 := HR9.out.cell hlt2
              have r2 := HRs.out.cell hlt2
              have hb1 := Hsb3.out t hlt2
              have hfs := Hfs3.out t hlt2
              obtain ⟨s0, hs0⟩ : ∃ s0, Pow.sumA m PN t = s0 := ⟨_, rfl⟩
              obtain ⟨x0, hx0⟩ : ∃ x0, Pow.shareP m t = x0 := ⟨_, rfl⟩
              rw [hs0] at r1 hb1 hfs
              rw [hx0] at r2 hfs
              have hpb : 0 ≤ x0 * (P.length : Int) ∧ x0 * (P.length : Int) ≤ 93312000 := by omega
              have ht1 : (60 * s0 != x0 * (P.length : Int)) = false := by rw [hfs]; simp
              clear hs0 hx0 hfs
              go_wp2_with fail
              go_roundw
              case rel => exact ⟨t + 1, by omega, by go_num, by trivial⟩
              case measure => simp [intOf]; omega
            · obtain rfl : t = m.wvs.length := by omega
              obtain ⟨g1, g2, g3⟩ := shared_ok Hok.out
              have hsA : IntsAt wz (some ⟨S, 0, none⟩) (shareL m) := HRs.out.ints
              have hfa := Lib.hid (Fair_any _ m (some ⟨S, 0, none⟩) m.wvs.length m.wvs.length (shareL m) (shareL_len m) 0 true g1 (by rw [if_pos rfl]; exact g2) wz (HV.out.ext (heC.trans heW)) (by unfold maxLen; omega) hsA)
              have HsA := Lib.hid hsA
              obtain ⟨k0, k1⟩ := (HM.out.ext (heC.trans heW)).c2
              clear hsA g1 g2
              go_wp2_with fail
              refine hfa.out.mono ?_
              rintro e wA ⟨rfl, heA⟩
              have hbe := Lib.hid (Better_any _ m (some ⟨S, 0, none⟩) m.wvs.length m.wvs.length (shareL m) (shareL_len m) 6 _ g3 rfl wA (HV.out.ext ((heC.trans heW).trans heA)) (by unfold maxLen; omega) (HsA.out.ext heA))
              obtain ⟨k0', k1'⟩ := (HM.out.ext ((heC.trans heW).trans heA)).c2
              clear hfa k0 k1
              go_wp2_with fail
              refine hbe.out.mono ?_
              rintro e wB ⟨u, rfl, hOB, heB⟩
              have haw := Lib.hid (awake7_any wB)
              clear hbe k0' k1'
              go_wp2_with fail
              refine haw.out.mono ?_
              rintro e wC ⟨rfl, heC2⟩
              go_wp2_with fail
              go_ret
              exact ⟨rfl, HE.out.trans (((heC.trans heW).trans heA).trans (heB.trans heC2))⟩
          -- >>
      -- >>
end Go.Proofs.Pet
