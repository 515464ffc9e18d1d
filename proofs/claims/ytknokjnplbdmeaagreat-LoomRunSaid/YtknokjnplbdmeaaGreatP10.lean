/-
  Contracts of functions, each proved once.
-/
import Derived.Test.YtknokjnplbdmeaaGreatP09
import Derived.Test.YtknokjnplbdmeaaGreatP01
namespace Go.Proofs.Pet
open Go Go.RowKit Go.Maps Go.Shelf

/-- the numbers of a list below k, in increasing order -/
def sortF (xs : List Int) (k : Nat) : List Int := ints ((List.range k).filter fun n => xs.contains (n : Int))
theorem sortF_succ (xs : List Int) (k : Nat) : sortF xs (k + 1) = if xs.contains (k : Int) then sortF xs k ++ [(k : Int)] else sortF xs k := by
  unfold sortF
  rw [List.range_succ, List.filter_append]
  by_cases h : xs.contains (k : Int) = true
  · rw [if_pos h, List.filter_cons, if_pos h, ints_append]; rfl
  · rw [if_neg h, List.filter_cons, if_neg h]; simp
theorem sortF_len (xs : List Int) (k : Nat) : (sortF xs k).length ≤ k := by
  unfold sortF ints
  have := List.length_filter_le (fun n : Nat => xs.contains (n : Int)) (List.range k)
  simpa using this
set_option maxRecDepth 20000 in
theorem sorted_any (A : Option Addr) (c n : Nat) (xs : List Int) (hn : xs.length = n) (hb : xs.length ≤ maxLen) (w : World) (hx : IntsAt w A xs) :
    Calls Tryz.prog 144 #[.slice A n c] w fun e w' => ∃ r, e = .returned r ∧ OwnI w' w.heap.size 3 r (sortF xs 7) ∧ Ext w w' := by
  obtain ⟨i, hi, hz0, hz1, hz2⟩ := info_parts info_int
  have Hx := Lib.hid hx; clear hx
  have Hn := Lib.hid hn; clear hn
  go_enter Tryz.func144, Tryz.ntmps144
  go_wp2_with fail
  go_loopw [3, 4] (fun v i wr => ∃ k : Nat, k ≤ 7 ∧ i = .int .i64 k ∧ Ext w wr ∧ Hid (OwnI wr w.heap.size 3 v (sortF xs k))) (fun _ i _ => 7 - (intOf i).toNat)
  case atStart => exact ⟨0, by omega, rfl, Ext.refl _, OwnI.nil _ _ _⟩
  case round =>
    obtain ⟨k, hk, rfl, he, ho⟩ := hrel
    obtain ⟨B, cB, rfl, o1, o2, o3, o4, o5⟩ := ho.out.open_
    have O4 := Lib.hid o4; clear o3 o4 o5
    have hbl := sortF_len xs k
    generalize hln : (sortF xs k).length = L at *
    have HL := Lib.hid hln; clear hln
    have hszr := he.size
    by_cases hlt : k < 7
    · obtain ⟨q, hq⟩ : ∃ q, xs.contains (k : Int) = q := ⟨_, rfl⟩
      have Hh := Lib.hid (has_any (k : Int) A c n xs Hn.out q hq wr hb (Hx.out.ext he))
      have Hq := Lib.hid hq; clear hq
      go_wp2_with fail
      refine Hh.out.mono ?_
      rintro e w' ⟨rfl, rfl⟩
      clear Hh
      cases q with
      | true =>
        go_wp2_with (at_builtin; refine wpList_app rfl _ _ 22 rfl w.heap.size 3 i (.int .i64 0) 1 8 Tryz.underlying22 hi hz0 hz1 hz2 rfl (by decide) _ _ _ rfl (ownsRow_alloc_of HL.out ho.out) (some ⟨wr.heap.size, 0, none⟩) 1 1 [.int .i64 k] rfl rfl (Src.one _ _ _) ?c2 ?c3 ?c4 ?c5 ?_; (case c2 => (intro u hu; simp at hu; subst hu; rfl)); (case c3 => (unfold maxLen; omega)); (case c4 => omega); (case c5 => (simp; omega)); intro v' w' hown' hg hblk)
        go_roundw
        case rel =>
          have hge := own_ge O4.out (L := L) (c := cB)
          refine ⟨k + 1, by omega, by go_num, ext_grown he hg (fun j hj => by have := hge j hj; omega), ?_⟩
          unfold Hid
          rw [sortF_succ, if_pos Hq.out]
          unfold OwnI
          rw [List.map_append, List.length_append, HL.out]
          exact hown'
        case measure => simp [intOf]; omega
      | false =>
        go_wp2
        go_roundw
        case rel => exact ⟨k + 1, by omega, by go_num, he, by unfold Hid; rw [sortF_succ, if_neg (by rw [Hq.out]; simp)]; exact ho.out⟩
        case measure => simp [intOf]; omega
    · go_wp2
      go_ret
      have : k = 7 := by omega
      subst this
      exact ⟨_, rfl, ho.out, he⟩
end Go.Proofs.Pet

namespace Go.Proofs.Pet
open Go Go.RowKit Go.Maps Go.Shelf

theorem rvI_take {xs : List Int} {k : Nat} (hk : k < xs.length) : rvI (xs.take (k + 1)) = (xs[k]?.getD 0).toNat :: rvI (xs.take k) := by
  unfold rvI
  rw [List.take_succ_eq_append_getElem hk, List.map_append, List.reverse_append]
  simp [hk]
def endsF (m : Mill) (l : Nat) (xs : List Int) (k : Nat) : List Int := (List.range k).map fun j => dyR m l (rvI (xs.take (j + 1)))
theorem endsF_succ (m : Mill) (l : Nat) (xs : List Int) (k : Nat) : endsF m l xs (k + 1) = endsF m l xs k ++ [dyR m l (rvI (xs.take (k + 1)))] := by
  unfold endsF; rw [List.range_succ, List.map_append]; rfl
theorem endsF_len (m : Mill) (l : Nat) (xs : List Int) (k : Nat) : (endsF m l xs k).length = k := by unfold endsF; simp
theorem dyR_bd {m : Mill} (hch : checkE m = 0) (l : Nat) : ∀ r : List Nat, (∀ j, j ∈ r → j < m.orders.length) → 0 ≤ dyR m l r ∧ dyR m l r ≤ 25 * r.length
  | [], _ => by simp [dyR]
  | k :: r, h => by
    have ih := dyR_bd hch l r (fun j hj => h j (by simp [hj]))
    have hk := h k (by simp)
    have ho := (check_orders hch).1 (m.orders[k]?.getD default) (by simp [hk])
    have hc := (check_orders hch).2
    have h1 := chg_bd (lastPat m l r) (m.pat k)
    have h2 : 0 ≤ m.change * chg (lastPat m l r) (m.pat k) ∧ m.change * chg (lastPat m l r) (m.pat k) ≤ 5 := by
      rcases (show chg (lastPat m l r) (m.pat k) = 0 ∨ chg (lastPat m l r) (m.pat k) = 1 by omega) with e | e
      · rw [e]; omega
      · rw [e]; omega
    rw [dyR, List.length_cons]
    unfold Mill.dys
    omega

def runR (M i ba oa c n b2 o2 n2 c2 x L : Nat) (u : Value) : Nat → Value → World → Prop
  | 0 => fun v _ => v = .pointer (some ⟨M, 2, none⟩)
  | 1 => fun v _ => v = .slice (some ⟨b2, o2, none⟩) n2 c2
  | 2 => fun v _ => v = .slice (some ⟨ba, oa, none⟩) n c
  | 3 => fun v _ => v = .int .i64 i
  | 4 => fun v _ => v = .pointer (some ⟨ba, oa + i, none⟩)
  | 5 => fun v _ => v = .int .i64 x
  | 6 => fun v _ => v = .pointer (some ⟨b2, o2 + x * 4, none⟩)
  | 7 => fun v _ => v = u
  | 8 => fun v W => ∃ b, v = .pointer (some ⟨b, 0, none⟩) ∧ L ≤ b ∧ Blk W b 99 #[.int .i64 0, .int .i64 0, .int .i64 0, .slice none 0 0]
  | _ => fun _ _ => True
theorem runR.ext {M i ba oa c n b2 o2 n2 c2 x L : Nat} {u : Value} {w w' : World} (he : Ext w w') (j : Nat) (v : Value) (h : runR M i ba oa c n b2 o2 n2 c2 x L u j v w) : runR M i ba oa c n b2 o2 n2 c2 x L u j v w' := by
  match j, h with
  | 0, h | 1, h | 2, h | 3, h | 4, h | 5, h | 6, h | 7, h => exact h
  | 8, ⟨b, h1, h2, h3⟩ => exact ⟨b, h1, h2, h3.ext he⟩
  | _ + 9, h => trivial
set_option maxRecDepth 20000 in
set_option maxHeartbeats 4000000 in
theorem run5_any (v : Value) (m : Mill) (hch : checkE m = 0) (l : Nat) (hl : l < m.laced.length) (A : Option Addr) (c n : Nat) (xs : List Int) (hn : xs.length = n) (hb : n ≤ 100) (hxs : ∀ x, x ∈ xs → 0 ≤ x ∧ x < m.orders.length) (w : World) (hv : MillVal w v m) (hx : IntsAt w A xs) :
    Calls Tryz.prog 84 #[v, .int .i64 (l : Int), .slice A n c] w fun e w' => ∃ r, e = .returned (.tuple #[r, .int .i64 (chR m l (rvI xs)), .bool (tmR m l (rvI xs))]) ∧ OwnI w' w.heap.size 3 r (endsF m l xs n) ∧ Ext w w' := by
  obtain ⟨ti, hi, hz0, hz1, hz2⟩ := info_parts info_int
  obtain ⟨A1, c1, A2, c2, rfl, h2, h3, h4, h5, h6, h7⟩ := hv
  have hE := Ext.alloc w (.cells #[.slice A1 m.laced.length c1, .int .i64 m.change, .slice A2 m.orders.length c2] 35)
  have hM := Blk.new w 35 #[.slice A1 m.laced.length c1, .int .i64 m.change, .slice A2 m.orders.length c2]
  have Hx := Lib.hid hx; clear hx
  have Hn := Lib.hid hn; clear hn
  have Hxs := Lib.hid hxs; clear hxs
  have H7 := Lib.hid h7; clear h7
  have Hch := Lib.hid hch
  have hco := (check_orders hch).2
  obtain ⟨l1, l2, l3⟩ := check_len hch
  clear hch h3 h5
  obtain ⟨b1, o1, rfl, e1⟩ := h6.ext hE l hl
  clear h6
  obtain ⟨p0, hp0⟩ : ∃ p, m.laced[l]?.getD 0 = p := ⟨_, rfl⟩
  rw [hp0] at e1
  have Hp0 := Lib.hid hp0; clear hp0
  obtain ⟨k0, k1, k2⟩ := hM.c3
  go_enter Tryz.func84, Tryz.ntmps84
  go_wp2_with fail
  have hsz : w.heap.size + 1 ≤ (w.alloc (.cells #[.slice (some ⟨b1, o1, none⟩) m.laced.length c1, .int .i64 m.change, .slice A2 m.orders.length c2] 35)).heap.size := by simp
  generalize w.alloc _ = W at *
  go_loopw [9, 10, 11, 12, 13, 14] (fun v la day ch is i wr => ∃ (k : Nat) (p d c : Int) (q : Bool), k ≤ n ∧ i = .int .i64 k ∧ la = .int .i64 p ∧ day = .int .i64 d ∧ ch = .int .i64 c ∧ is = .bool q ∧ (0 ≤ d ∧ d ≤ 25 * k) ∧ (0 ≤ c ∧ c ≤ k) ∧
      Hid (lastPat m l (rvI (xs.take k)) = p ∧ dyR m l (rvI (xs.take k)) = d ∧ chR m l (rvI (xs.take k)) = c ∧ tmR m l (rvI (xs.take k)) = q) ∧ Ext w wr ∧ w.heap.size + 1 ≤ wr.heap.size ∧
      Blk wr w.heap.size 35 #[.slice (some ⟨b1, o1, none⟩) m.laced.length c1, .int .i64 m.change, .slice A2 m.orders.length c2] ∧ Hid (OwnI wr (w.heap.size + 1) 3 v (endsF m l xs k)))
    (fun _ _ _ _ _ i _ => n - (intOf i).toNat)
  case atStart => exact ⟨0, _, 0, 0, true, by omega, rfl, rfl, rfl, rfl, rfl, by omega, by omega, ⟨Hp0.out, rfl, rfl, rfl⟩, hE, hsz, hM, OwnI.nil _ _ _⟩
  case round =>
    obtain ⟨k, p, d, ch, q, hk, rfl, rfl, rfl, rfl, rfl, hd, hc, hspec, he, hsw, hM', ho⟩ := hrel
    by_cases hlt : k < n
    · obtain ⟨ba, oa, rfl, ca⟩ := Hx.out.ext he k (by rw [Hn.out]; exact hlt)
      have hxk := Hxs.out (xs[k]?.getD 0) (by have := Hn.out; simp [show k < xs.length by omega])
      obtain ⟨X, hX⟩ : ∃ X : Nat, xs[k]?.getD 0 = (X : Int) := ⟨(xs[k]?.getD 0).toNat, by omega⟩
      rw [hX] at ca hxk
      obtain ⟨b2, o2, rfl, A', cap', hcap, p1, p2, p3, p4, p5⟩ := H7.out.ext he X (by omega)
      have Hrv : Hid (rvI (xs.take (k + 1)) = X :: rvI (xs.take k)) := by
        unfold Hid; rw [rvI_take (by rw [Hn.out]; exact hlt), hX]; rfl
      have hob := (check_orders Hch.out).1 (m.orders[X]?.getD default) (by simp [show X < m.orders.length by omega])
      have Hpat : Hid (m.pat X = (m.orders[X]?.getD default).pattern ∧ m.dys X = (m.orders[X]?.getD default).days ∧ m.byy X = (m.orders[X]?.getD default).by_) := ⟨rfl, rfl, rfl⟩
      clear p5
      generalize m.orders[X]?.getD default = x0 at *
      have HX := Lib.hid hX; clear hX
      obtain ⟨k0, k1, k2⟩ := hM'.c3
      go_wp2_with fail
      refine wp_region_facts 9 (by kernel_rfl) (by kernel_rfl) (fun W' => Ext wr W') (runR w.heap.size k ba oa c n b2 o2 m.orders.length c2 X wr.heap.size (.agg #[.int .i64 x0.pattern, .int .i64 x0.days, .int .i64 x0.by_, .slice A' x0.on.length cap'])) (Ext.drew _) ?_ ?_
      · simp only [List.take, AllOps, fill, Act.put, List.setIfInBounds_toArray, List.set_cons_zero, List.set_cons_succ, Nat.reduceAdd, Deps, and_true]
        refine ⟨?_, ?_, ?_, ?_, ?_, ?_, ?_, ?_, ?_⟩
        all_goals
          intro x W' hG hd K Q hK
          try (simp only [runR] at hd; simp only [hd] at hK ⊢)
          have HK := Lib.hid hK; clear hK
          have e0 := hG.cell k2
          have e1 := hG.cell ca
          have e2 := hG.cell p1
          have e3 := hG.cell p2
          have e4 := hG.cell p3
          have e5 := hG.cell p4
          go_wp2_with fail
          first
            | exact HK.out _ _ rfl hG (fun _ _ h => h)
            | exact HK.out _ _ ⟨_, rfl, hG.size, Blk.new _ _ _⟩ (hG.trans (Ext.alloc _ _)) (runR.ext (Ext.alloc _ _))
      · rintro x W7 hG hR
        simp only [AllR, runR, true_and] at hR
        obtain ⟨⟨⟨⟨⟨⟨⟨⟨r0, r1⟩, r2⟩, r3⟩, r4⟩, r5⟩, r6⟩, r7⟩, B, r8, hB1, hB2⟩ := hR
        simp only [List.take, List.drop, fill, Act.put, List.setIfInBounds_toArray, List.set_cons_zero, List.set_cons_succ, Nat.reduceAdd, r0, r1, r2, r3, r4, r5, r6, r7, r8]
        clear r0 r1 r2 r3 r4 r5 r6 r7 r8
        refine wpList_store_row rfl 99 _ _ rfl B #[.int .i64 x0.pattern, .int .i64 x0.days, .int .i64 x0.by_, .slice A' x0.on.length cap'] rfl rfl 99 _ hB2 (by kernel_rfl) rfl (by simp only [List.all_toArray, List.all_cons, List.all_nil]; rfl) ?_
        have hB3 := hB2.row #[.int .i64 x0.pattern, .int .i64 x0.days, .int .i64 x0.by_, .slice A' x0.on.length cap']
        have he8 := (he.trans hG).setRow (g := B) (by omega) #[.int .i64 x0.pattern, .int .i64 x0.days, .int .i64 x0.by_, .slice A' x0.on.length cap']
        have hM8 := (hM'.ext hG).rowFar (g' := B) (by omega) #[.int .i64 x0.pattern, .int .i64 x0.days, .int .i64 x0.by_, .slice A' x0.on.length cap']
        have ho8 : Hid (OwnI (W7.setRow B #[.int .i64 x0.pattern, .int .i64 x0.days, .int .i64 x0.by_, .slice A' x0.on.length cap']) (w.heap.size + 1) 3 u9 (endsF m l xs k)) := ho.out.ext (hG.setRow hB1 _)
        have hs8 := (hG.setRow hB1 #[.int .i64 x0.pattern, .int .i64 x0.days, .int .i64 x0.by_, .slice A' x0.on.length cap']).size
        clear hB2 hG p1 p2 p3 p4 k0 k1 k2 ca hM' ho he
        generalize W7.setRow _ _ = W8 at *
        obtain ⟨k0, k1, k2⟩ := hM8.c3
        obtain ⟨g0, g1, g2, g3⟩ := hB3.c4
        obtain ⟨BB, cB, rfl, oo1, oo2, oo3, oo4, oo5⟩ := ho8.out.open_
        have hlen := endsF_len m l xs k
        rw [hlen] at oo1 ho8 ⊢
        have HL := Lib.hid hlen; clear hlen
        have O4 := Lib.hid oo4; clear oo3 oo4 oo5
        have hcap2 := hcap.2
        have HBne := Lib.hid (ho8.out.ne_blk hB3 (by decide))
        by_cases hpe : p = x0.pattern
        · have hpb : (x0.pattern != p) = false := by simp; omega
          cases q with
          | false =>
            have Hs2 : Hid (lastPat m l (rvI (xs.take (k + 1))) = x0.pattern ∧ dyR m l (rvI (xs.take (k + 1))) = (d + x0.days) ∧ chR m l (rvI (xs.take (k + 1))) = ch ∧ tmR m l (rvI (xs.take (k + 1))) = false) := by
              obtain ⟨z1, z2, z3, z4⟩ := hspec.out
              obtain ⟨z5, z6, z7⟩ := Hpat.out
              have hg : chg p x0.pattern = 0 := by unfold chg; rw [if_pos hpe]
              have e1 : dyR m l (X :: rvI (xs.take k)) = (d + x0.days) := by rw [dyR, z1, z2, z5, z6, hg] <;> simp
              unfold Hid
              rw [Hrv.out]
              refine ⟨z5, e1, by rw [chR, z1, z3, z5, hg] <;> simp, ?_⟩
              rw [tmR, e1, z4, z7]; simp
            have Hpe := Lib.hid hpe; clear hpe
            go_wp2_with (at_builtin; refine wpList_app rfl _ _ 22 rfl (w.heap.size + 1) 3 ti (.int .i64 0) 1 8 Tryz.underlying22 hi hz0 hz1 hz2 rfl (by decide) _ _ _ rfl (ownsRow_alloc_of HL.out ho8.out) (some ⟨W8.heap.size, 0, none⟩) 1 1 [.int .i64 (d + x0.days)] rfl rfl (Src.one _ _ _) ?c2 ?c3 ?c4 ?c5 ?_; (case c2 => (intro u hu; simp at hu; subst hu; rfl)); (case c3 => (unfold maxLen; omega)); (case c4 => omega); (case c5 => (simp; omega)); intro v' w' hown' hg hblk; have g2' := ((hB3.alloc _).grown hg HBne.out).c4.2.2.1)
            go_roundw
            case rel =>
              have hge := own_ge O4.out (L := k) (c := cB)
              refine ⟨k + 1, _, _, _, _, by omega, by go_num, rfl, rfl, rfl, rfl, ?_, ?_, Hs2, ext_grown he8 hg (fun j hj => by have := hge j hj; omega), ?_, (hM8.alloc _).grown hg (fun e => by have := hge _ e.symm; omega), ?_⟩
              · omega
              · omega
              · have := hg.size; simp at this; omega
              · unfold Hid
                rw [endsF_succ, Hs2.out.2.1]
                unfold OwnI
                rw [List.map_append, List.length_append, HL.out]
                exact hown'
            case measure => simp [intOf]; omega
          | true =>
            have Hs2 : Hid (lastPat m l (rvI (xs.take (k + 1))) = x0.pattern ∧ dyR m l (rvI (xs.take (k + 1))) = (d + x0.days) ∧ chR m l (rvI (xs.take (k + 1))) = ch ∧ tmR m l (rvI (xs.take (k + 1))) = (decide ((d + x0.days) ≤ x0.by_))) := by
              obtain ⟨z1, z2, z3, z4⟩ := hspec.out
              obtain ⟨z5, z6, z7⟩ := Hpat.out
              have hg : chg p x0.pattern = 0 := by unfold chg; rw [if_pos hpe]
              have e1 : dyR m l (X :: rvI (xs.take k)) = (d + x0.days) := by rw [dyR, z1, z2, z5, z6, hg] <;> simp
              unfold Hid
              rw [Hrv.out]
              refine ⟨z5, e1, by rw [chR, z1, z3, z5, hg] <;> simp, ?_⟩
              rw [tmR, e1, z4, z7]; simp
            have Hpe := Lib.hid hpe; clear hpe
            go_wp2_with (at_builtin; refine wpList_app rfl _ _ 22 rfl (w.heap.size + 1) 3 ti (.int .i64 0) 1 8 Tryz.underlying22 hi hz0 hz1 hz2 rfl (by decide) _ _ _ rfl (ownsRow_alloc_of HL.out ho8.out) (some ⟨W8.heap.size, 0, none⟩) 1 1 [.int .i64 (d + x0.days)] rfl rfl (Src.one _ _ _) ?c2 ?c3 ?c4 ?c5 ?_; (case c2 => (intro u hu; simp at hu; subst hu; rfl)); (case c3 => (unfold maxLen; omega)); (case c4 => omega); (case c5 => (simp; omega)); intro v' w' hown' hg hblk; have g2' := ((hB3.alloc _).grown hg HBne.out).c4.2.2.1)
            go_roundw
            case rel =>
              have hge := own_ge O4.out (L := k) (c := cB)
              refine ⟨k + 1, _, _, _, _, by omega, by go_num, rfl, rfl, rfl, rfl, ?_, ?_, Hs2, ext_grown he8 hg (fun j hj => by have := hge j hj; omega), ?_, (hM8.alloc _).grown hg (fun e => by have := hge _ e.symm; omega), ?_⟩
              · omega
              · omega
              · have := hg.size; simp at this; omega
              · unfold Hid
                rw [endsF_succ, Hs2.out.2.1]
                unfold OwnI
                rw [List.map_append, List.length_append, HL.out]
                exact hown'
            case measure => simp [intOf]; omega
        · have hpb : (x0.pattern != p) = true := by simp; omega
          cases q with
          | false =>
            have Hs2 : Hid (lastPat m l (rvI (xs.take (k + 1))) = x0.pattern ∧ dyR m l (rvI (xs.take (k + 1))) = (d + m.change + x0.days) ∧ chR m l (rvI (xs.take (k + 1))) = (ch + 1) ∧ tmR m l (rvI (xs.take (k + 1))) = false) := by
              obtain ⟨z1, z2, z3, z4⟩ := hspec.out
              obtain ⟨z5, z6, z7⟩ := Hpat.out
              have hg : chg p x0.pattern = 1 := by unfold chg; rw [if_neg hpe]
              have e1 : dyR m l (X :: rvI (xs.take k)) = (d + m.change + x0.days) := by rw [dyR, z1, z2, z5, z6, hg] <;> omega
              unfold Hid
              rw [Hrv.out]
              refine ⟨z5, e1, by rw [chR, z1, z3, z5, hg] <;> rfl, ?_⟩
              rw [tmR, e1, z4, z7]; simp
            have Hpe := Lib.hid hpe; clear hpe
            go_wp2_with (at_builtin; refine wpList_app rfl _ _ 22 rfl (w.heap.size + 1) 3 ti (.int .i64 0) 1 8 Tryz.underlying22 hi hz0 hz1 hz2 rfl (by decide) _ _ _ rfl (ownsRow_alloc_of HL.out ho8.out) (some ⟨W8.heap.size, 0, none⟩) 1 1 [.int .i64 (d + m.change + x0.days)] rfl rfl (Src.one _ _ _) ?c2 ?c3 ?c4 ?c5 ?_; (case c2 => (intro u hu; simp at hu; subst hu; rfl)); (case c3 => (unfold maxLen; omega)); (case c4 => omega); (case c5 => (simp; omega)); intro v' w' hown' hg hblk; have g2' := ((hB3.alloc _).grown hg HBne.out).c4.2.2.1)
            go_roundw
            case rel =>
              have hge := own_ge O4.out (L := k) (c := cB)
              refine ⟨k + 1, _, _, _, _, by omega, by go_num, rfl, rfl, rfl, rfl, ?_, ?_, Hs2, ext_grown he8 hg (fun j hj => by have := hge j hj; omega), ?_, (hM8.alloc _).grown hg (fun e => by have := hge _ e.symm; omega), ?_⟩
              · omega
              · omega
              · have := hg.size; simp at this; omega
              · unfold Hid
                rw [endsF_succ, Hs2.out.2.1]
                unfold OwnI
                rw [List.map_append, List.length_append, HL.out]
                exact hown'
            case measure => simp [intOf]; omega
          | true =>
            have Hs2 : Hid (lastPat m l (rvI (xs.take (k + 1))) = x0.pattern ∧ dyR m l (rvI (xs.take (k + 1))) = (d + m.change + x0.days) ∧ chR m l (rvI (xs.take (k + 1))) = (ch + 1) ∧ tmR m l (rvI (xs.take (k + 1))) = (decide ((d + m.change + x0.days) ≤ x0.by_))) := by
              obtain ⟨z1, z2, z3, z4⟩ := hspec.out
              obtain ⟨z5, z6, z7⟩ := Hpat.out
              have hg : chg p x0.pattern = 1 := by unfold chg; rw [if_neg hpe]
              have e1 : dyR m l (X :: rvI (xs.take k)) = (d + m.change + x0.days) := by rw [dyR, z1, z2, z5, z6, hg] <;> omega
              unfold Hid
              rw [Hrv.out]
              refine ⟨z5, e1, by rw [chR, z1, z3, z5, hg] <;> rfl, ?_⟩
              rw [tmR, e1, z4, z7]; simp
            have Hpe := Lib.hid hpe; clear hpe
            go_wp2_with (at_builtin; refine wpList_app rfl _ _ 22 rfl (w.heap.size + 1) 3 ti (.int .i64 0) 1 8 Tryz.underlying22 hi hz0 hz1 hz2 rfl (by decide) _ _ _ rfl (ownsRow_alloc_of HL.out ho8.out) (some ⟨W8.heap.size, 0, none⟩) 1 1 [.int .i64 (d + m.change + x0.days)] rfl rfl (Src.one _ _ _) ?c2 ?c3 ?c4 ?c5 ?_; (case c2 => (intro u hu; simp at hu; subst hu; rfl)); (case c3 => (unfold maxLen; omega)); (case c4 => omega); (case c5 => (simp; omega)); intro v' w' hown' hg hblk; have g2' := ((hB3.alloc _).grown hg HBne.out).c4.2.2.1)
            go_roundw
            case rel =>
              have hge := own_ge O4.out (L := k) (c := cB)
              refine ⟨k + 1, _, _, _, _, by omega, by go_num, rfl, rfl, rfl, rfl, ?_, ?_, Hs2, ext_grown he8 hg (fun j hj => by have := hge j hj; omega), ?_, (hM8.alloc _).grown hg (fun e => by have := hge _ e.symm; omega), ?_⟩
              · omega
              · omega
              · have := hg.size; simp at this; omega
              · unfold Hid
                rw [endsF_succ, Hs2.out.2.1]
                unfold OwnI
                rw [List.map_append, List.length_append, HL.out]
                exact hown'
            case measure => simp [intOf]; omega
    · obtain rfl : k = n := by omega
      go_wp2_with fail
      have e : xs.take k = xs := List.take_of_length_le (by have := Hn.out; omega)
      have h := hspec.out
      rw [e] at h
      obtain ⟨-, -, z3, z4⟩ := h
      rw [z3, z4]
      go_ret3
      exact ⟨_, rfl, ho.out.mono (by omega), he⟩
end Go.Proofs.Pet
