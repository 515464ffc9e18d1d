/-
  PowerBetter walked.
-/
import Derived.Test.YtjlglbhafopomaaGreatPD3
namespace Go.Proofs.Pet
set_option linter.unusedSimpArgs false
open Go Go.RowKit Go.Maps Go.Shelf
open Go.Proofs.Pow (PM Sh Wv POk Up)

theorem groupsI_bd (k : Nat) (hk : k ≤ 6) : (groupsI k).length ≤ 64 := by
  have : ∀ k : Fin 7, (Pow.groupsF k).length ≤ 64 := by decide
  have := this ⟨k, by omega⟩
  unfold groupsI
  rw [List.length_map]
  exact this
/-- shares that are tried -/
def tryL (m : PM) (f : Nat → Int) : List Int := (List.range m.wvs.length).map f
theorem tryL_len (m : PM) (f : Nat → Int) : (tryL m f).length = m.wvs.length := by simp [tryL]
theorem tryL_get {m : PM} {f : Nat → Int} {k : Nat} (hk : k < m.wvs.length) : (tryL m f)[k]? = some (f k) := by
  unfold tryL
  rw [List.getElem?_map, List.getElem?_range hk]; rfl
theorem tryL_shared {m : PM} (hm : POk m) {f : Nat → Int} (hf : ∀ k, k < m.wvs.length → 0 ≤ f k ∧ f k ≤ 1000000) : sharedE m (tryL m f) = 0 := by
  have hc : checkP m = 0 := (checkP_iff m).2 hm
  have h1 : ((tryL m f).all fun n => inB n 0 1000000) = true := List.all_eq_true.2 fun y hy => by
    obtain ⟨k, hk, rfl⟩ := List.mem_map.1 hy
    exact inB_iff.2 (hf k (List.mem_range.1 hk))
  unfold sharedE
  rw [if_neg (by rw [hc]; decide), if_neg (by rw [tryL_len]; exact fun h => h rfl), if_neg (by rw [h1]; decide)]
/-- what is met among the first groups -/
def metT (m : PM) (sh bl : List Int) (G : List (List Int)) (j : Nat) : Bool := (G.take j).any fun g => Pow.moreB m sh (natL g) && decide (g = bl)
theorem metT_succ {m : PM} {sh bl : List Int} {G : List (List Int)} {j : Nat} {g : List Int} (h : G[j]? = some g) : metT m sh bl G (j + 1) = (metT m sh bl G j || (Pow.moreB m sh (natL g) && decide (g = bl))) := by
  unfold metT
  rw [List.take_add_one, h]
  simp
/-- what PowerBetter finds out about all groups -/
structure BetP (m : PM) (sh : List Int) (r : Int) (bl : List Int) : Prop where
  re : bettE m sh = r
  bl_ : bettL m sh = bl
  r6 : r = 0 ∨ r = 6
  few : bl.length ≤ 6
  met : metT m sh bl (groupsI m.wvs.length) (groupsI m.wvs.length).length = decide (r = 0)
  more : ∀ x, x ∈ Pow.groupsF m.wvs.length → Pow.moreB m sh x = true → r = 0 ∧ bl.length ≤ x.length ∧ (x.length = bl.length → ¬ cmpL (ints x) bl < 0)
theorem bet_law {m : PM} (hm : POk m) {f : Nat → Int} (hf : ∀ k, k < m.wvs.length → 0 ≤ f k ∧ f k ≤ 1000000) : ∃ r bl, BetP m (tryL m f) r bl ∧ fairF m (tryL m f) = (decide (r = 6) && decide ((tryL m f).sum = 60 * Pow.costF m fun _ => true)) := by
  have hs := tryL_shared hm hf
  obtain ⟨o, ho⟩ : ∃ o, Pow.firstF m.wvs.length (Pow.moreB m (tryL m f)) = o := ⟨_, rfl⟩
  have hE : bettE m (tryL m f) = if o.isNone then 6 else 0 := by unfold bettE; rw [hs, if_neg (by decide), ho]
  have hL : bettL m (tryL m f) = ints (o.getD []) := by unfold bettL; rw [hs, if_neg (by decide), ho]
  have hmet : metT m (tryL m f) (ints (o.getD [])) (groupsI m.wvs.length) (groupsI m.wvs.length).length = o.isSome := by
    rw [← ho, ← Pow.better_met (m := m) (sh := tryL m f), ho]
    unfold metT groupsI
    rw [List.take_length, List.any_map]
    congr 1
    funext g
    show (Pow.moreB m (tryL m f) (natL (ints g)) && decide (ints g = ints (o.getD []))) = _
    rw [natL_ints]
    congr 1
    rw [Bool.eq_iff_iff, decide_eq_true_eq, decide_eq_true_eq]
    exact ⟨fun h => by have := congrArg natL h; rwa [natL_ints, natL_ints] at this, fun h => by rw [h]⟩
  have hmore : ∀ x, x ∈ Pow.groupsF m.wvs.length → Pow.moreB m (tryL m f) x = true → o.isNone = false ∧ (ints (o.getD [])).length ≤ x.length ∧ (x.length = (ints (o.getD [])).length → ¬ cmpL (ints x) (ints (o.getD [])) < 0) := fun x hx hmx => by
    obtain ⟨l, h1, h2, h3⟩ := Pow.better_groups x hx hmx rfl rfl
    rw [ho] at h1
    subst h1
    refine ⟨rfl, by rw [ints_length]; exact h2, fun e => ?_⟩
    rw [ints_length] at e
    have := h3 e
    rw [← cmpL_ahead, decide_eq_false_iff_not] at this
    exact this
  have hfew : (ints (o.getD [])).length ≤ 6 := by
    rw [ints_length]
    cases o with
    | none => simp
    | some l =>
      have := Pow.up_len (Pow.firstF_some.1 ho).2.1
      have := hm.few
      show l.length ≤ 6
      omega
  cases o with
  | none => exact ⟨6, _, ⟨hE, hL, .inr rfl, hfew, by rw [hmet]; rfl, fun x hx h => by cases (hmore x hx h).1⟩, by unfold fairF; rw [ho]; rfl⟩
  | some l => exact ⟨0, _, ⟨hE, hL, .inl rfl, hfew, by rw [hmet]; rfl, fun x hx h => ⟨rfl, (hmore x hx h).2⟩⟩, by unfold fairF; rw [ho]; rfl⟩
/-- the shares that a group has, and its cost -/
theorem more_sum {m : PM} {f : Nat → Int} {x : List Nat} (hu : Up m.wvs.length 0 x) : Pow.moreB m (tryL m f) x = decide (shT f (ints x) (ints x).length > 60 * Pow.costF m fun k => (ints x).contains (k : Int)) := by
  rw [shT_full, show Pow.costF m (fun k => (ints x).contains (k : Int)) = Pow.costF m (fun k => x.contains k) from Pow.costQ_congr fun k _ => ints_contains ..]
  unfold Pow.moreB
  have : (x.map fun k => (tryL m f)[k]?.getD 0).sum = (x.map f).sum := by
    congr 1
    exact List.map_congr_left fun k hk => by rw [tryL_get (hu.2 k hk).2]; rfl
  rw [this]
set_option maxRecDepth 100000 in
set_option maxHeartbeats 16000000 in
theorem powerBetter_any (v v2 : Value) (w : World) (hv : BytesIn w v) (hv2 : BytesIn w v2) :
    Calls Tryz.prog 12 #[v, v2] w fun e w' => e = .returned (.bool true) ∧ Ext w w' := by
  have hmf : ∀ (fn : Fn) (first cap : Array Value) (w : World), (Instr.makeFunc fn first cap).run Tryz.prog w = .ok (.func fn first cap) w := fun _ _ _ _ => rfl
  have hwo := Lib.hid (wound_any v w hv)
  have Hv2 := Lib.hid hv2
  clear hv hv2
  go_enter Tryz.func12, Tryz.ntmps12
  go_wp2_with fail
  refine hwo.out.mono ?_
  rintro e w1 ⟨rfl, hs1, he1⟩
  clear hwo
  have hma := Lib.hid (made7_any w.heap.size 0 (by omega) 6 (by omega) w1 hs1)
  go_wp2_with fail
  refine hma.out.mono ?_
  rintro e w2 ⟨mv, m, rfl, hO, hok, -, -, hap⟩
  have hE := Apart.ext_of he1 (Nat.le_refl _) hap
  have hwo := Lib.hid (wound_any v2 w2 (Hv2.out.ext hE))
  have hml := hok.1.few
  have HV := Lib.hid hO.val
  have Hok := Lib.hid hok.1
  have hcm : checkP m = 0 := (checkP_iff m).2 hok.1
  have HE := Lib.hid hE
  obtain ⟨A1, c1, A2, c2, rfl, q1, q2, q3, q4, q5, q6⟩ := hO.val
  clear hma hs1 he1 hap hok hO hE q5 q6 Hv2
  go_wp2_with fail
  refine hwo.out.mono ?_
  rintro e w3 ⟨rfl, hs3, he3⟩
  obtain ⟨Qb, hQb⟩ : ∃ Qb, w2.heap.size = Qb := ⟨_, rfl⟩
  have hQl : w2.heap.size ≤ Qb := by omega
  rw [hQb] at hs3 ⊢
  have hX := Ext.alloc w3 (.cells #[.slice A1 m.shafts.length c1, .slice A2 m.wvs.length c2] 26)
  have hM := Blk.new w3 26 #[.slice A1 m.shafts.length c1, .slice A2 m.wvs.length c2]
  have hQ3 := hs3.lt
  have hs4 := hs3.ext hX
  have heX := he3.trans hX
  obtain ⟨M, hMe⟩ : ∃ M, w3.heap.size = M := ⟨_, rfl⟩
  rw [hMe] at hM hQ3
  obtain ⟨k0, k1⟩ := hM.c2
  have HM := Lib.hid hM
  clear hwo hQb hs3 hX hM he3
  go_upto_region 2 with fail
  try rw [hMe]
  clear hMe
  generalize w3.alloc _ = w4 at *
  have hsh := Lib.hid (shares_any _ m hcm w4 (HV.out.ext heX))
  go_wp2_with fail
  refine hsh.out.mono ?_
  rintro e w5 ⟨S, rfl, hR, hSl, he5⟩
  have hM4 := HM.out.lt
  have hMS : M < S := by omega
  have HM5 := Lib.hid (HM.out.ext he5)
  have HS5 := Lib.hid (hs4.ext he5)
  have HR := Lib.hid hR
  have heA := heX.trans he5
  obtain ⟨k0', k1'⟩ := HM5.out.c2
  have hlen : ((m.wvs.length : Int) != (m.wvs.length : Int)) = false := by simp
  have hup := Lib.hid (upto_any Qb 0 (by omega) 3 (by omega) 3 (by omega) w5 HS5.out)
  clear hsh hs4 hR he5 heX k0 k1 HM hSl hM4 HS5
  go_wp2_with fail
  refine hup.out.mono ?_
  rintro e w6 ⟨n3, rfl, hn0, hn3, hs6, hap6⟩
  have heB := Apart.ext_of heA hQl hap6
  have HM6 := Lib.hid (HM5.out.apart (by omega) hap6)
  have hR6 : Row w6 S m.wvs.length (Pow.shareP m) := by
    obtain ⟨cs, g1, g2⟩ := HR.out
    exact ⟨cs, g1.apart (by omega) hap6, g2⟩
  have hf0 : Hid (∀ k, k < m.wvs.length → 0 ≤ Pow.shareP m k ∧ Pow.shareP m k ≤ 777600) := fun k hk => Pow.share_le Hok.out hk
  clear hup hap6 HM5 HR heA k0' k1'
  have HM6 := HM6
  have Hs6 := Lib.hid hs6
  have HR6 := Lib.hid hR6
  clear hs6 hR6
  go_wp2_with fail
  go_loopw [50] (fun i wr => ∃ (j : Nat) (f : Nat → Int), (j : Int) ≤ n3 ∧ i = .int .i64 (j : Int) ∧ Hid (Row wr S m.wvs.length f) ∧ Hid (∀ k, k < m.wvs.length → 0 ≤ f k ∧ f k ≤ 777600 + 400 * (j : Int)) ∧ Hid (SpoolAt wr Qb (1 + 3 * j)) ∧ Hid (Blk wr M 26 #[.slice A1 m.shafts.length c1, .slice A2 m.wvs.length c2]) ∧ Ext w2 wr) (fun i _ => (n3 - intOf i).toNat)
  case atStart => exact ⟨0, _, hn0, rfl, HR6, fun k hk => by have := hf0.out k hk; omega, Hs6, HM6, heB⟩
  case round =>
    clear HR6 hf0 Hs6 HM6 heB
    obtain ⟨j, f, hj, rfl, hR, hf, hs, hM, he⟩ := hrel
    by_cases hlt : (j : Int) < n3
    · -- <<T
      as_aux_lemma =>
      by_cases hW : m.wvs.length = 0
      · go_wp2_with fail
        go_roundw
        case rel => exact ⟨j + 1, f, by omega, by go_num, hR, (fun k hk => by have := hf.out k hk; omega), Lib.hid (hs.out.mono (by omega)), hM, he⟩
        case measure => simp [intOf]; omega
      · have hW2 : 0 < m.wvs.length := by omega
        have hu1 := Lib.hid (upto_any Qb (1 + 3 * j) (by omega) ((m.wvs.length : Int) - 1) (by omega) ((m.wvs.length : Int) - 1) (by omega) wr hs.out)
        go_wp2_with fail
        refine hu1.out.mono ?_
        rintro e w7 ⟨a', rfl, ha0, ha1, hs7, hap7⟩
        obtain ⟨a, rfl⟩ : ∃ a : Nat, a' = a := ⟨a'.toNat, by omega⟩
        have hu2 := Lib.hid (upto_any Qb (1 + 3 * j + 1) (by omega) ((m.wvs.length : Int) - 1) (by omega) ((m.wvs.length : Int) - 1) (by omega) w7 hs7)
        clear hu1 hs7
        go_wp2_with fail
        refine hu2.out.mono ?_
        rintro e w8 ⟨b', rfl, hb0, hb1, hs8, hap8⟩
        obtain ⟨b, rfl⟩ : ∃ b : Nat, b' = b := ⟨b'.toNat, by omega⟩
        have hapA := hap7.trans hap8
        have hal : a < m.wvs.length := by omega
        have hbl : b < m.wvs.length := by omega
        have hR8 := hR.out.apart (by omega) hapA
        have hM8 := Lib.hid (hM.out.apart (by omega) hapA)
        have he8 := Apart.ext_of he hQl hapA
        have r1 := hR8.cell hal
        have hfa := hf.out a hal
        have hfb := hf.out b hbl
        obtain ⟨xa, hxa⟩ : ∃ xa, f a = xa := ⟨_, rfl⟩
        obtain ⟨xb, hxb⟩ : ∃ xb, f b = xb := ⟨_, rfl⟩
        rw [hxa] at r1 hfa
        rw [hxb] at hfb
        have HR8 := Lib.hid hR8
        have Hxa := Lib.hid hxa; have Hxb := Lib.hid hxb
        clear hu2 hap7 hap8 hapA hR8 hR hM he hs hxa hxb ha0 ha1 hb0 hb1
        go_upto_region 10 with fail
        refine wp_region_chainG (fun W => W.cell? ⟨S, a, none⟩ = some (.int .i64 xa)) ((Ext.drew _).cell r1) 7 [(5, true), (6, true)] [] (by kernel_rfl) (by kernel_rfl) (by kernel_rfl) ?_
        simp only [List.take, List.drop, fill, Act.put, List.setIfInBounds_toArray, List.set_cons_zero, List.set_cons_succ, Nat.reduceAdd]
        repeat (first
          | refine Floats.mut rfl ?_
          | (apply Floats.float rfl
             · intro x W he hd K Q hK
               try (have he := he (by decide); have r1 : W.cell? _ = some _ := he)
               try simp only [edges, DepsE, List.filter_cons, List.filter_nil, Region.binds, if_true, and_true, true_and, upd, Nat.reduceEqDiff, if_false] at hd
               try simp only [hd] at hK ⊢
               have HK := Lib.hid hK; clear hK
               go_wp2_with fail
               exact HK.out))
        refine Floats.done fun W he hG => ?_
        have hs9 := hs8.ext he
        have hu3 := Lib.hid (upto_any Qb _ (by omega) 400 (by omega) 400 (by omega) W hs9)
        have HR9 := Lib.hid (HR8.out.ext he)
        have HM9 := Lib.hid (hM8.out.ext he)
        have he9 := he8.trans he
        clear hG r1 hs9 hs8 he he8 HR8 hM8
        refine Chain.cons _ rfl ?_
        intro x hd K Q hK
        try simp only [edges, DepsE, List.filter_cons, List.filter_nil, Region.binds, if_true, and_true, true_and, upd, Nat.reduceEqDiff, if_false] at hd
        try simp only [hd] at hK ⊢
        clear hd
        have HK := Lib.hid hK; clear hK
        go_wp2_with fail
        refine hu3.out.mono ?_
        rintro e w9 ⟨u, rfl, hu0, hu4, hsA, ha9⟩
        have hR9 := HR9.out.apart (by omega) ha9
        have hMA := Lib.hid (HM9.out.apart (by omega) ha9)
        have heA := Apart.ext_of he9 hQl ha9
        have r1 := hR9.cell hal
        rw [Hxa.out] at r1
        have r2 := hR9.cell hbl
        rw [Hxb.out] at r2
        have HRA := Lib.hid hR9
        clear hu3 HR9 HM9 he9 ha9 hR9
        go_wp2_with fail
        refine HK.out _ _ (fun _ => r1) ?_
        clear HK
        refine Chain.cons _ rfl ?_
        intro x hd K Q hK
        try simp only [edges, DepsE, List.filter_cons, List.filter_nil, Region.binds, if_true, and_true, true_and, upd, Nat.reduceEqDiff, if_false] at hd
        try simp only [hd] at hK ⊢
        clear hd
        have HK := Lib.hid hK; clear hK
        go_wp2_with fail
        refine HK.out _ _ (fun _ => r1) ?_
        clear HK
        refine Chain.nil ?_
        simp only [upd, Nat.reduceEqDiff, if_false, if_true]
        obtain ⟨nn, hnn⟩ : ∃ nn, min xa u = nn := ⟨_, rfl⟩
        rw [hnn]
        have hn1 : 0 ≤ nn ∧ nn ≤ xa ∧ nn ≤ 400 := by omega
        clear hnn hu0 hu4
        have HsA := Lib.hid hsA
        clear hsA
        go_upto_region 11 with fail
        refine wp_region_chainG (fun W => W.cell? ⟨S, a, none⟩ = some (.int .i64 xa) ∧ W.cell? ⟨S, b, none⟩ = some (.int .i64 xb)) (⟨(Ext.drew _).cell r1, (Ext.drew _).cell r2⟩) 18 [(17, false)] [2, 3, 14, 15] (by kernel_rfl) (by kernel_rfl) (by kernel_rfl) ?_
        simp only [List.take, List.drop, fill, Act.put, List.setIfInBounds_toArray, List.set_cons_zero, List.set_cons_succ, Nat.reduceAdd]
        repeat (first
          | refine Floats.mut rfl ?_
          | (apply Floats.float rfl
             · intro x W he hd K Q hK
               try (have he := he (by decide); have r1 : W.cell? _ = some _ := he.1; have r2 : W.cell? _ = some _ := he.2)
               try simp only [edges, DepsE, List.filter_cons, List.filter_nil, Region.binds, if_true, and_true, true_and, upd, Nat.reduceEqDiff, if_false] at hd
               try simp only [hd] at hK ⊢
               have HK := Lib.hid hK; clear hK
               go_wp2_with fail
               exact HK.out))
        refine Floats.done fun W he hG => ?_
        have hRB := HRA.out.ext he
        have hMB := hMA.out.ext he
        have hsB := HsA.out.ext he
        have heB := heA.trans he
        have f1 := hRB.frozen a
        have g1 := hRB.cell hal
        have hRC := hRB.set_ hal (xa - nn)
        have f2 := hRC.frozen b
        obtain ⟨y2, hy2⟩ : ∃ y, (W.setCell ⟨S, a, none⟩ (.int .i64 (xa - nn))).cell? ⟨S, b, none⟩ = some y := ⟨_, hRC.cell hbl⟩
        have hRD := Lib.hid (hRC.set_ hbl (xb + nn))
        have hMD := Lib.hid ((hMB.far (p := ⟨S, a, none⟩) (by show M ≠ S; omega) (.int .i64 (xa - nn))).far (p := ⟨S, b, none⟩) (by show M ≠ S; omega) (.int .i64 (xb + nn)))
        have hsD := Lib.hid ((hsB.apart (by omega : Qb < S) ((Apart.refl S W).set_ a (.int .i64 (xa - nn)))).apart (by omega : Qb < S) ((Apart.refl S _).set_ b (.int .i64 (xb + nn))))
        have heD := Lib.hid (Below.setCell (Below.setCell heB (p := ⟨S, a, none⟩) (by show _ ≤ S; omega) (.int .i64 (xa - nn))) (p := ⟨S, b, none⟩) (by show _ ≤ S; omega) (.int .i64 (xb + nn)))
        clear hG r1 r2 hRB hMB hsB heB hRC HRA hMA HsA heA he
        refine Chain.cons _ rfl ?_
        intro x hd K Q hK
        try simp only [edges, DepsE, List.filter_cons, List.filter_nil, Region.binds, if_true, and_true, true_and, upd, Nat.reduceEqDiff, if_false] at hd
        try simp only [hd] at hK ⊢
        clear hd
        have HK := Lib.hid hK; clear hK
        go_wp2_with fail
        refine HK.out undef _ (fun h => by cases h) ?_
        clear HK
        refine Chain.nil ?_
        simp only [upd, Nat.reduceEqDiff, if_false, if_true]
        go_wp2_with fail
        go_roundw
        case rel =>
          refine ⟨j + 1, fun k => if k = b then xb + nn else if k = a then xa - nn else f k, by omega, by go_num, hRD, fun k hk => ?_, Lib.hid (hsD.out.mono (by omega)), hMD, heD.out⟩
          have h0 := hf.out k hk
          show 0 ≤ (if k = b then xb + nn else if k = a then xa - nn else f k) ∧ (if k = b then xb + nn else if k = a then xa - nn else f k) ≤ _
          split
          · omega
          · split <;> omega
        case measure => simp [intOf]; omega
      -- >>
    · -- <<U
      obtain rfl : n3 = (j : Int) := by omega
      have hf2 : Hid (∀ k, k < m.wvs.length → 0 ≤ f k ∧ f k ≤ 778800) := fun k hk => by have := hf.out k hk; omega
      have hs2 := Lib.hid (hs.out.mono (show 1 + 3 * j ≤ 100 by omega))
      clear hf hs
      go_upto_region 14 with fail
      go_cut [97] (fun t wx => ∃ q : Bool, t = .bool q ∧ (q = true → 0 < m.wvs.length) ∧ Hid (Row wx S m.wvs.length f) ∧ Hid (SpoolAt wx Qb 200) ∧ Hid (Blk wx M 26 #[.slice A1 m.shafts.length c1, .slice A2 m.wvs.length c2]) ∧ Ext w2 wx)
      case first =>
        by_cases hW : m.wvs.length = 0
        · have hd1 : decide ((m.wvs.length : Int) > 0) = false := by simp [hW]
          have hd2 : decide (0 < m.wvs.length) = false := by simp [hW]
          clear hW
          go_wp2_with fail
          go_meet
          exact ⟨false, rfl, (fun h => by cases h), hR, Lib.hid (hs2.out.mono (by omega)), hM, he⟩
        · have hW2 : 0 < m.wvs.length := by omega
          have hon := Lib.hid (once_any Qb _ (by omega) 4 (by omega) wr hs2.out)
          go_wp2_with fail
          refine hon.out.mono ?_
          rintro e w7 ⟨q, rfl, hs7, ha7⟩
          have hR7 := Lib.hid (hR.out.apart (by omega) ha7)
          have hM7 := Lib.hid (hM.out.apart (by omega) ha7)
          have he7 := Apart.ext_of he hQl ha7
          clear hon
          go_wp2_with fail
          go_meet
          exact ⟨q, rfl, (fun _ => hW2), hR7, Lib.hid (hs7.mono (by omega)), hM7, he7⟩
      case rest =>
        clear hR hs2 hM he
        obtain ⟨q, rfl, hq, hR, hs, hM, he⟩ := hcut
        go_upto_if 97 with fail
        go_cut [] (fun wx => ∃ f' : Nat → Int, Hid (Row wx S m.wvs.length f') ∧ Hid (∀ k, k < m.wvs.length → 0 ≤ f' k ∧ f' k ≤ 778809) ∧ Hid (Blk wx M 26 #[.slice A1 m.shafts.length c1, .slice A2 m.wvs.length c2]) ∧ Ext w2 wx)
        case first =>
          cases q with
          | false =>
            go_wp2_with fail
            go_meet
            exact ⟨f, hR, (fun k hk => by have := hf2.out k hk; omega), hM, he⟩
          | true =>
            have hW2 := hq rfl
            clear hq
            go_upto_region 15 with fail
            have he0 := he
            clear he
            clear hmf hlen hn0 hn3 hj hlt q1 q2 q3 q4 hcm
            refine wp_region_treeG (Apart Qb wc) (Apart.of_ext (Ext.drew _)) 10 [(4, true), (8, true)] [] (by kernel_rfl) (by kernel_rfl) (by kernel_rfl) (ds := [0, 1, 2, 3, 7]) (by kernel_rfl) ?_
            simp only [List.take, List.drop, fill, Act.put, List.setIfInBounds_toArray, List.set_cons_zero, List.set_cons_succ, Nat.reduceAdd]
            repeat (first
              | (apply Unlock.float rfl
                 · intro x W he hd K Qr hK
                   try (have he := he (by decide); skip)
                   try simp only [edges, DepsE, List.filter_cons, List.filter_nil, Region.binds, if_true, and_true, true_and, upd, Nat.reduceEqDiff, if_false] at hd
                   try simp only [hd] at hK ⊢
                   have HK := Lib.hid hK; clear hK
                   go_wp2_with fail
                   exact HK.out))
            refine Unlock.nil ?_
            intro W he hG
            have hsW := hs.out.ext he
            refine Tree.next (ks := [(4, true)]) (by kernel_rfl) ?_
            refine TSteps.cons _ rfl ?_ trivial
            intro x hd K Qr hK
            try simp only [edges, DepsE, List.filter_cons, List.filter_nil, Region.binds, if_true, and_true, true_and, upd, Nat.reduceEqDiff, if_false] at hd
            try simp only [hd] at hK ⊢
            clear hd
            have HK := Lib.hid hK; clear hK
            have hu := Lib.hid (upto_any Qb _ (by omega) ((m.wvs.length : Int) - 1) (by omega) ((m.wvs.length : Int) - 1) (by omega) W hsW)
            clear hsW he
            go_wp2_with fail
            refine hu.out.mono ?_
            rintro e w7 ⟨a', rfl, ha0, ha1, hs7, ha7⟩
            obtain ⟨a, rfl⟩ : ∃ a : Nat, a' = a := ⟨a'.toNat, by omega⟩
            have hal : a < m.wvs.length := by omega
            replace ha7 := hG.trans ha7
            obtain ⟨xa, hxa⟩ : ∃ xa, f a = xa := ⟨_, rfl⟩
            have hcr : Hid (∀ W, Apart Qb wc W → W.cell? ⟨S, a, none⟩ = some (.int .i64 xa)) := fun W ha => by have := (hR.out.apart (by omega) ha).cell hal; rwa [hxa] at this
            have hfa := hf2.out a hal
            rw [hxa] at hfa
            have Hs7 := Lib.hid hs7
            clear hu hG hxa ha0 ha1 hs7
            go_wp2_with fail
            refine HK.out _ _ (fun _ => ha7) ?_
            clear HK
            refine Unlock.of (ds := [5, 6]) (by kernel_rfl) ?_
            repeat (first
              | (apply Unlock.float rfl
                 · intro x W he hd K Qr hK
                   try (have he := he (by decide); have hcW := hcr.out _ he)
                   try simp only [edges, DepsE, List.filter_cons, List.filter_nil, Region.binds, if_true, and_true, true_and, upd, Nat.reduceEqDiff, if_false] at hd
                   try simp only [hd] at hK ⊢
                   have HK := Lib.hid hK; clear hK
                   go_wp2_with fail
                   exact HK.out))
            refine Unlock.nil ?_
            refine Tree.next (ks := [(8, true)]) (by kernel_rfl) ?_
            refine TSteps.cons _ rfl ?_ trivial
            intro x hd K Qr hK
            try simp only [edges, DepsE, List.filter_cons, List.filter_nil, Region.binds, if_true, and_true, true_and, upd, Nat.reduceEqDiff, if_false] at hd
            try simp only [hd] at hK ⊢
            clear hd
            have HK := Lib.hid hK; clear hK
            have hu2 := Lib.hid (upto_any Qb _ (by omega) 9 (by omega) 9 (by omega) w7 Hs7.out)
            go_wp2_with fail
            refine hu2.out.mono ?_
            rintro e w8 ⟨u, rfl, hu0, hu9, -, ha8⟩
            have ha9 := ha7.trans ha8
            clear hu2 ha7 ha8 hcr
            go_wp2_with fail
            refine HK.out _ _ (fun _ => ha9) ?_
            clear HK
            refine Unlock.of (ds := [9]) (by kernel_rfl) ?_
            repeat (first
              | (apply Unlock.float rfl
                 · intro x W he hd K Qr hK
                   try (have he := he (by decide))
                   try simp only [edges, DepsE, List.filter_cons, List.filter_nil, Region.binds, if_true, and_true, true_and, upd, Nat.reduceEqDiff, if_false] at hd
                   try simp only [hd] at hK ⊢
                   have HK := Lib.hid hK; clear hK
                   go_wp2_with fail
                   exact HK.out))
            refine Unlock.nil ?_
            refine Tree.nil (by kernel_rfl) ?_
            simp only [upd, Nat.reduceEqDiff, if_false, if_true]
            have hR8 := hR.out.apart (by omega) ha9
            have r1 := hR8.cell hal
            have f1 := hR8.frozen a
            have hRn := Lib.hid (hR8.set_ hal (xa + u))
            have hMn := Lib.hid ((hM.out.apart (by omega) ha9).far (p := ⟨S, a, none⟩) (by show M ≠ S; omega) (.int .i64 (xa + u)))
            have hen := Lib.hid (Below.setCell (Apart.ext_of he0 hQl ha9) (p := ⟨S, a, none⟩) (by show _ ≤ S; omega) (.int .i64 (xa + u)))
            clear hR8 hR hM hs he0 ha9
            go_wp2_with fail
            go_meet
            refine ⟨fun k => if k = a then xa + u else f k, hRn, fun k hk => ?_, hMn, hen.out⟩
            have h0 := hf2.out k hk
            show 0 ≤ (if k = a then xa + u else f k) ∧ (if k = a then xa + u else f k) ≤ _
            split <;> omega
        case rest =>
          clear hR hs hM he hf2 hq
          obtain ⟨f', hR, hf, hM, he⟩ := hcut
          -- <<V
          as_aux_lemma =>
          clear hlt hj hn0 hn3 hcm
          have hsA0 : IntsAt wc (some ⟨S, 0, none⟩) (tryL m f') := hR.out.ints
          obtain ⟨r, bl, hB, hfa⟩ := bet_law Hok.out (f := f') fun k hk => by have := hf.out k hk; omega
          have hsE := tryL_shared Hok.out (f := f') fun k hk => by have := hf.out k hk; omega
          have Hsb : Hid (∀ t, 0 ≤ ((tryL m f').take t).sum ∧ ((tryL m f').take t).sum ≤ 7000000) := fun t => by
            have h1 := sum_bd (l := (tryL m f').take t) fun x hx => by
              obtain ⟨k, hk, rfl⟩ := List.mem_map.1 (List.mem_of_mem_take hx)
              have := hf.out k (List.mem_range.1 hk)
              omega
            have h2 : ((tryL m f').take t).length ≤ 6 := by rw [List.length_take, tryL_len]; omega
            omega
          have Hget : Hid (∀ k, k < m.wvs.length → (tryL m f')[k]?.getD 0 = f' k) := fun k hk => by rw [tryL_get hk]; rfl
          have Hmo : Hid (∀ x, Up m.wvs.length 0 x → Pow.moreB m (tryL m f') x = decide (shT f' (ints x) (ints x).length > 60 * Pow.costF m fun k => (ints x).contains (k : Int))) := fun x hu => more_sum hu
          obtain ⟨sh, hsh⟩ : ∃ sh, tryL m f' = sh := ⟨_, rfl⟩
          obtain ⟨fq, hfq⟩ : ∃ fq, fairF m sh = fq := ⟨_, rfl⟩
          have hsl : sh.length = m.wvs.length := by rw [← hsh, tryL_len]
          rw [hsh] at hsA0 hB hfa hsE Hsb Hget Hmo
          rw [hfq] at hfa
          have HsA := Lib.hid hsA0; have HB := Lib.hid hB; have Hfa := Lib.hid hfa; have Hsl := Lib.hid hsl
          have hFa := Lib.hid (Fair_any _ m (some ⟨S, 0, none⟩) m.wvs.length m.wvs.length sh hsl 0 fq hsE (by rw [if_pos rfl]; exact hfq) wc (HV.out.ext he) (by unfold maxLen; omega) hsA0)
          obtain ⟨k0, k1⟩ := hM.out.c2
          clear hsA0 hB hfa hsE hsl hsh hfq
          go_wp2_with fail
          refine hFa.out.mono ?_
          rintro e wA ⟨rfl, heA⟩
          have hBe := Lib.hid (Better_any _ m (some ⟨S, 0, none⟩) m.wvs.length m.wvs.length sh Hsl.out r bl HB.out.re HB.out.bl_ wA (HV.out.ext (he.trans heA)) (by unfold maxLen; omega) (HsA.out.ext heA))
          obtain ⟨k0', k1'⟩ := (hM.out.ext heA).c2
          clear hFa k0 k1
          go_wp2_with fail
          refine hBe.out.mono ?_
          rintro e wB ⟨bv, rfl, hOB, heB⟩
          have heC := heA.trans heB
          obtain ⟨AB, cB, rfl, p1, p2, p3, -, -⟩ := hOB.open_
          obtain ⟨bn, hbn⟩ : ∃ bn, bl.length = bn := ⟨_, rfl⟩
          rw [hbn] at p1 ⊢
          have hbn6 : bn ≤ 6 := by have := HB.out.few; omega
          have Hbn := Lib.hid hbn; have Hp3 := Lib.hid p3
          have HM := Lib.hid (hM.out.ext heC)
          have HR := Lib.hid (hR.out.ext heC)
          have heW := he.trans heC
          clear hBe hOB p3 hbn k0' k1' heA heB heC hR hM he HsA HM6
          go_upto_region 18 with fail
          go_cut [130] (fun t wx => t = .bool false ∧ wB = wx)
          case first =>
            rcases HB.out.r6 with rfl | rfl
            · go_wp2_with fail
              go_meet
              exact ⟨rfl, rfl⟩
            · go_wp2_with fail
              go_meet
              exact ⟨rfl, rfl⟩
          case rest =>
            obtain ⟨rfl, rfl⟩ := hcut
            go_wp2_with fail
            go_loopw [17, 133] (fun s i wq => ∃ t : Nat, t ≤ m.wvs.length ∧ i = .int .i64 (t : Int) ∧ s = .int .i64 ((sh.take t).sum) ∧ wB = wq) (fun _ i _ => m.wvs.length - (intOf i).toNat)
            case atStart => exact ⟨0, Nat.zero_le _, rfl, by simp, rfl⟩
            case round =>
              obtain ⟨t, ht, rfl, rfl, rfl⟩ := hrel
              have hb1 := Hsb.out t
              by_cases hlt : t < m.wvs.length
              · have r1 := HR.out.cell hlt
                have hft := hf.out t hlt
                have hsu := sum_take (l := sh) (k := t) (by rw [Hsl.out]; exact hlt)
                have hb2 := Hsb.out (t + 1)
                rw [Hget.out t hlt] at hsu
                rw [hsu] at hb2
                obtain ⟨x, hx⟩ : ∃ x, f' t = x := ⟨_, rfl⟩
                obtain ⟨s0, hs0⟩ : ∃ s0, (sh.take t).sum = s0 := ⟨_, rfl⟩
                rw [hx] at r1 hft hsu hb2
                rw [hs0] at hsu hb1 hb2 ⊢
                have Hsu := Lib.hid hsu
                have hxd : decide (x < 0) = false := by have := hft.1; simpa using this
                clear hx hs0 hsu
                go_wp2_with fail
                go_roundw
                case rel => exact ⟨t + 1, by omega, by go_num, by rw [Hsu.out], by trivial⟩
                case measure => simp [intOf]; omega
              · obtain rfl : t = m.wvs.length := by omega
                -- <<G
                rw [show sh.take m.wvs.length = sh from by rw [← Hsl.out, List.take_length]] at hb1 ⊢
                obtain ⟨T, hT⟩ : ∃ T, sh.sum = T := ⟨_, rfl⟩
                rw [hT] at hb1 ⊢
                have HT := Lib.hid hT
                have hgr := Lib.hid (groups_any _ m hml wB (HV.out.ext heW))
                obtain ⟨k0, k1⟩ := HM.out.c2
                clear hT Hsb hlt ht
                go_wp2_with fail
                refine hgr.out.mono ?_
                rintro e wG ⟨gv, rfl, hG, heG⟩
                have heH := heW.trans heG
                obtain ⟨G, hGe⟩ : ∃ G, groupsI m.wvs.length = G := ⟨_, rfl⟩
                have HGm : Hid (∀ g, g ∈ G → ∃ x, x ∈ Pow.groupsF m.wvs.length ∧ ints x = g) := fun g hg => by
                  rw [← hGe] at hg
                  exact List.mem_map.1 hg
                have hGl := groupsI_bd m.wvs.length hml
                rw [hGe] at hG hGl
                obtain ⟨AG, cG, rfl, -, -, -, -⟩ := hG.open_
                have HG := Lib.hid hG
                have HMG := Lib.hid (HM.out.ext heG); have HRG := Lib.hid (HR.out.ext heG); have HPG := Lib.hid (Hp3.out.ext heG)
                have HGe := Lib.hid hGe
                clear hgr k0 k1 hG hGe heG HM HR Hp3 heW
                go_wp2_with fail
                go_loopw [18, 146] (fun q i wr => ∃ j : Nat, j ≤ G.length ∧ i = .int .i64 (j : Int) ∧ q = .bool (metT m sh bl G j) ∧ Ext wG wr) (fun _ i _ => G.length - (intOf i).toNat)
                case atStart => exact ⟨0, Nat.zero_le _, rfl, rfl, Ext.refl _⟩
                case round =>
                  obtain ⟨j, hj, rfl, rfl, he⟩ := hrel
                  by_cases hlt : j < G.length
                  · obtain ⟨g, hg⟩ : ∃ g, G[j]? = some g := ⟨_, List.getElem?_eq_getElem hlt⟩
                    obtain ⟨x, hx, rfl⟩ := HGm.out g (List.mem_of_getElem? hg)
                    have hu := (Pow.mem_groupsF _ _).1 hx
                    have hms := metT_succ (m := m) (sh := sh) (bl := bl) hg
                    rw [natL_ints] at hms
                    have hmo := Hmo.out x hu
                    have hmore := HB.out.more x hx
                    obtain ⟨A6, c6, e6, -, -, -, hrows⟩ := (HG.out.ext he).open_
                    cases e6
                    obtain ⟨b5, u5, rfl, hc5, hI5⟩ := hrows j hlt
                    rw [hg, Option.getD_some] at hI5
                    obtain ⟨A6, c6, rfl, l1, l2, l3, -, -⟩ := hI5.open_
                    have hgin := up_in hu
                    have hgl6 : (ints x).length ≤ 6 := by have := Pow.up_len hu; rw [ints_length]; omega
                    have hbd := shT_bd (f := f') (B := 778809) (by decide) (l := ints x) fun y hy => hf.out _ (by have := hgin y hy; omega)
                    rw [← ints_length x] at hmore
                    obtain ⟨mq, hmq⟩ : ∃ mq, Pow.moreB m sh x = mq := ⟨_, rfl⟩
                    obtain ⟨mb, hmb⟩ : ∃ mb, metT m sh bl G j = mb := ⟨_, rfl⟩
                    rw [hmq] at hms hmo hmore
                    rw [hmb] at hms ⊢
                    obtain ⟨g, hgx⟩ : ∃ g, ints x = g := ⟨_, rfl⟩
                    rw [hgx] at hgin hgl6 hbd l1 l3 hc5 hmo hms hmore
                    obtain ⟨gl, hgl⟩ : ∃ gl, g.length = gl := ⟨_, rfl⟩
                    rw [hgl] at hgl6 l1 hc5 hmo hmore
                    have Hgl := Lib.hid hgl; have Hl3 := Lib.hid l3; have Hgin := Lib.hid hgin; have Hbd := Lib.hid hbd; have Hms := Lib.hid hms; have Hmore := Lib.hid hmore; have Hmo2 := Lib.hid hmo
                    clear hg hx hu hms hmo hmore hI5 hrows hmq hmb hgx hgl l3 hgin hbd
                    generalize wr = wj at *
                    go_wp2_with fail
                    go_loopw [23, 152] (fun s i wq => ∃ t : Nat, t ≤ gl ∧ i = .int .i64 (t : Int) ∧ s = .int .i64 (shT f' g t) ∧ wj = wq) (fun _ i _ => gl - (intOf i).toNat)
                    case atStart => exact ⟨0, Nat.zero_le _, rfl, rfl, rfl⟩
                    case round =>
                      obtain ⟨t, ht, rfl, rfl, rfl⟩ := hrel
                      have hb1 := Hbd.out t
                      by_cases hlt2 : t < gl
                      · obtain ⟨y, hy⟩ : ∃ y, g[t]? = some y := ⟨_, List.getElem?_eq_getElem (by rw [Hgl.out]; exact hlt2)⟩
                        have hyb := Hgin.out y (List.mem_of_getElem? hy)
                        obtain ⟨b7, o7, rfl, l7⟩ := Hl3.out t (by rw [Hgl.out]; exact hlt2)
                        rw [hy, Option.getD_some] at l7
                        obtain ⟨yy, rfl⟩ : ∃ yy : Nat, y = yy := ⟨y.toNat, by omega⟩
                        have hyl : yy < m.wvs.length := by omega
                        have r1 := (HRG.out.ext he).cell hyl
                        have hsu := shT_succ (f := f') hy
                        rw [Int.toNat_natCast] at hsu
                        have hb2 := Hbd.out (t + 1)
                        rw [hsu] at hb2
                        have Hsu := Lib.hid hsu
                        obtain ⟨s0, hs0⟩ : ∃ s0, shT f' g t = s0 := ⟨_, rfl⟩
                        obtain ⟨sy, hsy⟩ : ∃ sy, f' yy = sy := ⟨_, rfl⟩
                        rw [hs0] at hb1 hb2 ⊢
                        rw [hsy] at r1 hb2
                        have Hs0 := Lib.hid hs0; have Hsy := Lib.hid hsy
                        clear hy hsu hs0 hsy hyb
                        go_wp2_with fail
                        go_roundw
                        case rel => exact ⟨t + 1, by omega, by go_num, by rw [Hsu.out, Hs0.out, Hsy.out], by trivial⟩
                        case measure => simp [intOf]; omega
                      · -- <<H
                        as_aux_lemma =>
                        obtain rfl : t = gl := by omega
                        obtain ⟨k0, k1⟩ := (HMG.out.ext he).c2
                        have hlc := Lib.hid (lcost_any _ m Hok.out A6 c6 t g Hgl.out Hgin.out (by unfold maxLen; omega) wj (HV.out.ext (heH.trans he)) Hl3.out)
                        have hcb := Pow.cost_bounds Hok.out fun k => g.contains (k : Int)
                        have hmo := Hmo2.out
                        obtain ⟨S0, hS0⟩ : ∃ S0, shT f' g t = S0 := ⟨_, rfl⟩
                        obtain ⟨cf, hcf⟩ : ∃ cf, (Pow.costF m fun k => g.contains (k : Int)) = cf := ⟨_, rfl⟩
                        rw [hcf] at hlc hcb hmo
                        rw [hS0] at hb1 hmo ⊢
                        have ht1 : decide (S0 > 60 * cf) = mq := hmo.symm
                        clear hS0 hcf hmo Hmo2 Hbd
                        go_wp2_with fail
                        refine hlc.out.mono ?_
                        rintro e w9 ⟨rfl, he9⟩
                        have heJ := he.trans he9
                        obtain ⟨eq, heq⟩ : ∃ eq, decide (g = bl) = eq := ⟨_, rfl⟩
                        have Hms2 := Hms.out
                        rw [heq] at Hms2
                        have Hms3 := Lib.hid Hms2
                        have hEq := equalI A6 AB c6 cB g bl eq heq w9 (by unfold maxLen; rw [Hgl.out]; omega) (Hl3.out.ext he9) (HPG.out.ext heJ)
                        rw [Hgl.out, Hbn.out] at hEq
                        have HEq := Lib.hid hEq
                        clear hlc Hms Hms2 hEq heq k0 k1
                        go_upto_region 38 with fail
                        go_cut [18] (fun q wx => q = .bool (mb || (mq && eq)) ∧ Ext w9 wx)
                        case first =>
                          cases mb with
                          | true =>
                            go_wp2_with fail
                            go_meet
                            exact ⟨rfl, Ext.refl _⟩
                          | false =>
                            cases mq with
                            | false =>
                              go_wp2_with fail
                              go_meet
                              exact ⟨rfl, Ext.refl _⟩
                            | true =>
                              go_wp2_with fail
                              refine HEq.out.mono ?_
                              rintro e wE ⟨rfl, heE⟩
                              go_wp2_with fail
                              go_meet
                              exact ⟨by cases eq <;> rfl, heE⟩
                        case rest =>
                          obtain ⟨rfl, heK⟩ := hcut
                          have heL := heJ.trans heK
                          obtain ⟨mn, hmn⟩ : ∃ mn, (mb || (mq && eq)) = mn := ⟨_, rfl⟩
                          rw [hmn] at Hms3 ⊢
                          have Hr := Hmore.out
                          clear ht1 HEq hmn Hmore
                          cases mq with
                          | false =>
                            clear Hr
                            go_wp2_with fail
                            go_roundw
                            case rel => exact ⟨j + 1, by omega, by go_num, by rw [Hms3.out], heL⟩
                            case measure => simp [intOf]; omega
                          | true =>
                            obtain ⟨rfl, h1, h2⟩ := Hr rfl
                            rw [Hbn.out] at h1 h2
                            by_cases hgb : t = bn
                            · have hnl := h2 hgb
                              obtain ⟨z, hz⟩ : ∃ z, cmpL g bl = z := ⟨_, rfl⟩
                              rw [hz] at hnl
                              have hcm := Lib.hid (compareI A6 AB c6 cB t bn g bl Hgl.out Hbn.out z hz wc ⟨by omega, by omega⟩ (Hl3.out.ext (he9.trans heK)) (HPG.out.ext heL))
                              have ht3 : ((t : Int) == (bn : Int)) = true := by simp [hgb]
                              have ht4 : decide (z < 0) = false := by simpa using hnl
                              clear Hr hz hnl h2 hgb
                              go_wp2_with fail
                              refine hcm.out.mono ?_
                              rintro e wE ⟨rfl, rfl⟩
                              go_wp2_with fail
                              go_roundw
                              case rel => exact ⟨j + 1, by omega, by go_num, by rw [Hms3.out], heL⟩
                              case measure => simp [intOf]; omega
                            · have ht3 : ((t : Int) == (bn : Int)) = false := by simp; omega
                              clear Hr h2 hgb
                              go_wp2_with fail
                              go_roundw
                              case rel => exact ⟨j + 1, by omega, by go_num, by rw [Hms3.out], heL⟩
                              case measure => simp [intOf]; omega
                        -- >>
                  · -- <<E
                    as_aux_lemma =>
                    obtain rfl : j = G.length := by omega
                    have hmet := HB.out.met
                    rw [HGe.out] at hmet
                    rw [hmet]
                    have hco := Lib.hid (collectAll_any M m.wvs.length (by omega) A2 c2 (.slice A1 m.shafts.length c1) wr (HMG.out.ext he))
                    have hfa := Hfa.out
                    rw [HT.out] at hfa
                    clear hmet HG HGm HGe HRG HPG Hget Hmo hlt hj
                    go_wp2_with fail
                    refine hco.out.mono ?_
                    rintro e wC ⟨av, rfl, hOA, heC⟩
                    have heD := heH.trans (he.trans heC)
                    obtain ⟨AA, cA, rfl, -, -, y3, -, -⟩ := hOA.open_
                    have hal := allI_len m.wvs.length
                    rw [hal]
                    have hlc := lcost_any _ m Hok.out AA cA m.wvs.length (Pow.allI m.wvs.length) hal (fun y hy => Pow.all_in m y hy) (by unfold maxLen; omega) wC (HV.out.ext heD) y3
                    rw [Pow.all_group] at hlc
                    obtain ⟨C, hC⟩ : ∃ C, (Pow.costF m fun _ => true) = C := ⟨_, rfl⟩
                    have hcb := Pow.cost_bounds Hok.out fun _ => true
                    rw [hC] at hlc hfa hcb
                    obtain ⟨z, hz⟩ : ∃ z, decide (T = 60 * C) = z := ⟨_, rfl⟩
                    rw [hz] at hfa
                    have hz2 : (T == 60 * C) = z := by rw [← hz]; rfl
                    have Hlc := Lib.hid hlc
                    obtain ⟨k0, k1⟩ := (HMG.out.ext (he.trans heC)).c2
                    rcases HB.out.r6 with hr | hr
                    · have hfq : fq = false := by rw [hfa, hr]; rfl
                      have haw := Lib.hid (awake7_any wC)
                      clear hlc hC hco hOA y3 hal hz hz2 hfa HB Hlc
                      subst hr hfq
                      go_wp2_with fail
                      refine haw.out.mono ?_
                      rintro e wE ⟨rfl, heE⟩
                      go_wp2_with fail
                      go_ret
                      exact ⟨rfl, HE.out.trans (heD.trans heE)⟩
                    · have hfq : fq = z := by rw [hfa, hr]; simp
                      clear hlc hC hco hOA y3 hal hz hfa HB
                      subst hr hfq
                      go_wp2_with fail
                      refine Hlc.out.mono ?_
                      rintro e wE ⟨rfl, heE⟩
                      have haw := Lib.hid (awake7_any wE)
                      cases fq with
                      | true =>
                        go_wp2_with fail
                        refine haw.out.mono ?_
                        rintro e wF ⟨rfl, heF⟩
                        go_wp2_with fail
                        go_ret
                        exact ⟨rfl, HE.out.trans (heD.trans (heE.trans heF))⟩
                      | false =>
                        go_wp2_with fail
                        refine haw.out.mono ?_
                        rintro e wF ⟨rfl, heF⟩
                        go_wp2_with fail
                        go_ret
                        exact ⟨rfl, HE.out.trans (heD.trans (heE.trans heF))⟩
                    -- >>
                -- >>
          -- >>
      -- >>
end Go.Proofs.Pet
