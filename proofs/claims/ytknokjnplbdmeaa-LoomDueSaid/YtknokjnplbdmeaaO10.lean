/-
  LoomDue, walked.
-/
import Derived.Test.YtknokjnplbdmeaaO3
import Derived.Test.YtknokjnplbdmeaaO7
import Derived.Test.YtknokjnplbdmeaaO8
import Derived.Test.YtknokjnplbdmeaaO9
namespace Go.Proofs.Pet
open Go Go.RowKit Go.Maps Go.Shelf

theorem due1_any (M : Nat) (v1 ch : Value) (A2 : Option Addr) (c2 : Nat) (os : List Ord) (a b : Nat) (ha : a < os.length) (hb : b < os.length) (hos : ∀ o, o ∈ os → 1 ≤ o.by_ ∧ o.by_ ≤ 99) (W : World) (hM : Blk W M 25 #[v1, ch, .slice A2 os.length c2]) (hO : OrdsAt W A2 os) :
    Calls Try.prog 60 #[.int .i64 (a : Int), .int .i64 (b : Int), .pointer (some ⟨M, 0, none⟩)] W fun e W' => e = .returned (.int .i64 ((os[a]?.getD default).by_ - (os[b]?.getD default).by_)) ∧ ∃ q, W' = W.drewN q := by
  obtain ⟨k0, k1, k2⟩ := hM.c3
  obtain ⟨bo, oo, rfl, A', ca, _, _, _, p3, _, _⟩ := hO a ha
  obtain ⟨bo', oo', e, A'', ca', _, _, _, p3', _, _⟩ := hO b hb
  simp only [Option.some.injEq, Addr.mk.injEq, and_true] at e
  obtain ⟨rfl, rfl⟩ := e
  have h1 := hos (os[a]?.getD default) (by simp [ha])
  have h2 := hos (os[b]?.getD default) (by simp [hb])
  generalize (os[a]?.getD default).by_ = x at *
  generalize (os[b]?.getD default).by_ = y at *
  clear hO hos
  go_enter Try.func60, Try.ntmps60
  go_wp2_with fail
  go_quiet (fail)
  go_wp2_with fail
  go_ret
  exact ⟨rfl, _, rfl⟩
/-- the mill of a law, without days for a change -/
def Mill.still (m : Mill) : Mill := ⟨m.laced, 0, m.orders⟩
theorem still_ok {m : Mill} (h : MillOk m) : MillOk m.still := ⟨h.looms, h.few, h.laced, ⟨Int.le_refl _, show (0 : Int) ≤ 5 by decide⟩, h.ords⟩
theorem vals_fin (n : Nat) : vals (List.finRange n) = ints (List.range n) := by
  unfold vals ints
  apply List.ext_getElem
  · simp
  · intro i h1 h2
    simp
theorem due_sort (m : Mill) (hos : ∀ o, o ∈ m.orders → 1 ≤ o.by_ ∧ o.by_ ≤ 99) (hl : m.orders.length ≤ 7) (M : Nat) (v1 ch : Value) (A2 : Option Addr) (c2 : Nat) (W2 : World) (hM : Blk W2 M 25 #[v1, ch, .slice A2 m.orders.length c2]) (hO : OrdsAt W2 A2 m.orders)
    (v : Value) (w : World) (he : Ext W2 w) (h : OwnI w W2.heap.size 3 v (ints (List.range m.orders.length))) :
    Calls Try.prog 59 #[v, .func (.func 60) #[] #[.pointer (some ⟨M, 0, none⟩)]] w fun e w' => e = .returned (.tuple #[]) ∧ ∃ zs, zs.Perm (ints (List.range m.orders.length)) ∧ zs.Pairwise (fun a b => m.byy a.toNat ≤ m.byy b.toNat) ∧ OwnI w' W2.heap.size 3 v zs ∧ Ext W2 w' := by
  rcases Nat.eq_zero_or_pos m.orders.length with h0 | hpos
  · rw [h0] at h ⊢
    obtain ⟨A, c, rfl, _, _, _, _⟩ := h.open_
    refine (stable0 _ A c w).mono fun e w' ⟨h1, h2⟩ => ?_
    subst h2
    exact ⟨h1, [], List.Perm.refl _, List.Pairwise.nil, h, he⟩
  · obtain ⟨k, hk⟩ : ∃ k, m.orders.length = k + 1 := ⟨m.orders.length - 1, by omega⟩
    rw [hk, ← vals_fin] at h
    have hst := stableI (n := k) (by omega) (fun j => m.byy j) 60 #[.pointer (some ⟨M, 0, none⟩)] (enters_of Try.func60 (by kernel_rfl) rfl) W2.heap.size v (List.finRange (k + 1)) (by simp) w h (fun W hg x y => by
      have heW : Ext W2 W := Below.grown he hg he.size (fun j hj => (h.own_lt j hj).1)
      exact due1_any M v1 ch A2 c2 m.orders x.val y.val (by have := x.isLt; omega) (by have := y.isLt; omega) hos W (hM.ext heW) (hO.ext heW))
    refine hst.mono fun e w' ⟨h1, ys, h2, h3, h4, h5⟩ => ⟨h1, vals ys, ?_, ?_, h4, Below.grown he h5 he.size (fun j hj => (h.own_lt j hj).1)⟩
    · rw [hk, ← vals_fin]
      exact h2.map _
    · unfold vals
      rw [List.pairwise_map]
      exact h3.imp fun {a b} hab => by simpa using hab
theorem due_cost {m : Mill} (hok : MillOk m) (h1 : m.laced.length = 1) : costE m 0 (ints (List.range m.orders.length)) = if numC m 0 (2 ^ m.orders.length - 1) = 99 then (0, 6) else (numC m 0 (2 ^ m.orders.length - 1), 0) := by
  have hch := (check_iff m).2 hok
  have hr : runE m 0 (ints (List.range m.orders.length)) = 0 := by
    unfold runE
    rw [if_pos hch]
    unfold runningE
    have hmem : ∀ x, x ∈ ints (List.range m.orders.length) → ∃ k : Nat, k < m.orders.length ∧ x = k := fun x hx => by
      obtain ⟨k, hk, rfl⟩ := ints_mem.1 hx
      exact ⟨k, List.mem_range.1 hk, rfl⟩
    have hl0 : listedE m (ints (List.range m.orders.length)) = 0 := by
      unfold listedE
      rw [if_neg, if_neg]
      · rw [twice_of_nodup (nodup_ints List.nodup_range)]; simp
      · rw [Bool.not_eq_false, List.all_eq_true]
        intro x hx
        obtain ⟨k, hk, rfl⟩ := hmem x hx
        exact inB_nat.2 (by omega)
    rw [if_neg, if_neg (by rw [hl0]; simp), if_neg]
    · rw [Bool.not_eq_false, List.all_eq_true]
      intro x hx
      obtain ⟨k, hk, rfl⟩ := hmem x hx
      exact one_weaves hok h1 k hk
    · rw [h1]; decide
  unfold costE
  rw [if_neg (by rw [hr]; simp), setF_full]
  rfl
theorem due_law {m : Mill} (hok : MillOk m) (h0 : m.change = 0) (h1 : m.laced.length = 1) {zs : List Int} (hp : zs.Perm (ints (List.range m.orders.length))) (hs : zs.Pairwise (fun a b => m.byy a.toNat ≤ m.byy b.toNat)) :
    (numC m 0 (2 ^ m.orders.length - 1) = 99 → okW m 0 zs = false) ∧ (numC m 0 (2 ^ m.orders.length - 1) ≠ 99 → okW m 0 zs = true ∧ numC m 0 (2 ^ m.orders.length - 1) ≤ chR m 0 (rvI zs)) := by
  have hch := (check_iff m).2 hok
  have hlt : 2 ^ m.orders.length - 1 < 2 ^ m.orders.length := by have := Nat.two_pow_pos m.orders.length; omega
  have hmem : ∀ x, x ∈ zs → ∃ k : Nat, k < m.orders.length ∧ x = k := fun x hx => by
    obtain ⟨k, hk, rfl⟩ := ints_mem.1 (hp.mem_iff.1 hx)
    exact ⟨k, List.mem_range.1 hk, rfl⟩
  have hset := full_set hp
  have hwv : ∀ j, j ∈ rvI zs → m.weaves 0 j = true := fun j hj => by
    have hj : j ∈ zs.map Int.toNat := by unfold rvI at hj; simpa using hj
    obtain ⟨x, hx, rfl⟩ := List.mem_map.1 hj
    obtain ⟨k, hk, rfl⟩ := hmem x hx
    have := one_weaves hok h1 k hk
    unfold weavesI at this
    unfold Mill.weaves
    simpa using this
  have hok3 : okW m 0 zs = tmR m 0 (rvI zs) := by
    unfold okW
    have a1 : (zs.all fun k => inB k 0 (m.orders.length - 1)) = true := List.all_eq_true.2 fun x hx => by
      obtain ⟨k, hk, rfl⟩ := hmem x hx
      exact inB_nat.2 (by omega)
    have a2 : twiceB zs = false := twice_of_nodup (hp.symm.nodup_iff.1 (nodup_ints List.nodup_range))
    have a3 : (zs.all fun k => weavesI m ((0 : Nat) : Int) k) = true := List.all_eq_true.2 fun x hx => by
      obtain ⟨k, hk, rfl⟩ := hmem x hx
      exact one_weaves hok h1 k hk
    rw [a1, a2, a3]; simp
  have hle : tmR m 0 (rvI zs) = true → numC m 0 (2 ^ m.orders.length - 1) ≤ chR m 0 (rvI zs) := numC_le m 0 _ (check_change hch) hlt hok.few _ hset hwv
  constructor
  · intro h
    rw [hok3]
    cases ht : tmR m 0 (rvI zs) with
    | false => rfl
    | true =>
      have := hle ht
      have h3 := (chR_bd m 0 (rvI zs)).2
      have h4 : (rvI zs).length = m.orders.length := by unfold rvI; simp [hp.length_eq, ints]
      have := hok.few
      omega
  · intro h
    have hb := (numC_bd m 0 (2 ^ m.orders.length - 1)).2
    obtain ⟨r, r1, r2, r3, r4⟩ := numC_has m 0 _ hlt hok.few (by omega)
    have hpr : (zs.map Int.toNat).Perm r := by
      have g1 := (isSet_perm hlt (rvI zs)).1 hset
      have g2 := (isSet_perm hlt r).1 r1
      unfold rvI at g1
      exact ((List.reverse_perm _).symm.trans g1).trans g2.symm
    have ht := due_ok hch h0 0 r r3 zs hpr (fun k hk => by
      have := (isSet_perm hlt r).1 r1
      have hk2 := mem_bits.1 (this.mem_iff.1 hk)
      have := hok.ords (m.orders[k]?.getD default) (by simp [hk2.1])
      have := this.byy
      unfold Mill.byy; omega) hs
    rw [hok3]
    exact ⟨ht, hle ht⟩
set_option maxRecDepth 100000 in
set_option maxHeartbeats 4000000 in
theorem loomDue_any (v : Value) (w : World) (hv : BytesIn w v) :
    Calls Try.prog 11 #[v] w fun e w' => e = .returned (.bool true) ∧ Ext w w' := by
  have hmf : ∀ (fn : Fn) (first cap : Array Value) (w : World), (Instr.makeFunc fn first cap).run Try.prog w = .ok (.func fn first cap) w := fun _ _ _ _ => rfl
  obtain ⟨ti, hi, hz0, hz1, hz2⟩ := info_parts info_int
  have hwo := Lib.hid (wound_any v w hv)
  have Hv := Lib.hid hv; clear hv
  go_enter Try.func11, Try.ntmps11
  go_wp2_with fail
  refine hwo.out.mono ?_
  rintro e w1 ⟨rfl, hs1, he1⟩
  clear hwo
  have hma := Lib.hid (madeS_any w.heap.size 0 (by omega) 1 7 (by omega) (by omega) w1 hs1)
  go_wp2_with fail
  refine hma.out.mono ?_
  rintro e w2 ⟨mv, m, rfl, hm, hok, hlm, hom, _, hap⟩
  have hE := Apart.ext_of he1 (Nat.le_refl _) hap
  have hok' := still_ok hok
  have hch := (check_iff m.still).2 hok'
  have hl1 : m.laced.length = 1 := by have := hok.looms.1; omega
  clear hma hs1 he1 hap hlm hom hok
  obtain ⟨A1, c1, A2, c2, rfl, q1, q2, q3, q4, q5, q6⟩ := hm
  have hM := Blk.new w2 25 #[.slice A1 m.laced.length c1, .int .i64 0, .slice A2 m.orders.length c2]
  have hX := Ext.alloc w2 (.cells #[.slice A1 m.laced.length c1, .int .i64 0, .slice A2 m.orders.length c2] 25)
  have Hm : Hid (MillVal _ (.agg #[.slice A1 m.laced.length c1, .int .i64 0, .slice A2 m.orders.length c2]) m.still) := ⟨A1, c1, A2, c2, rfl, q1, q2, q3, q4, q5.ext hX, q6.ext hX⟩
  have HO := Lib.hid (q6.ext hX)
  have Hch := Lib.hid hch; have Hok := Lib.hid hok'; have Hl1 := Lib.hid hl1
  have l3 : m.orders.length ≤ 7 := hok'.few
  clear hch hok' q5 q6 hl1
  obtain ⟨M, hMe⟩ : ∃ M, w2.heap.size = M := ⟨_, rfl⟩
  obtain ⟨k0, k1, k2⟩ := hM.c3
  go_wp2_with fail
  rw [hMe] at hM
  have hE := hE.trans hX
  generalize w2.alloc _ = W2 at *
  clear hMe hX k0 k1 k2 q1 q2 q3 q4
  go_loopw [4, 17] (fun lv iv wr => ∃ i : Nat, i ≤ m.orders.length ∧ iv = .int .i64 i ∧ Ext W2 wr ∧ OwnI wr W2.heap.size 3 lv (ints (List.range i))) (fun _ iv _ => m.orders.length - (intOf iv).toNat)
  case atStart => exact ⟨0, by omega, rfl, Ext.refl _, OwnI.nil _ _ _⟩
  case round =>
    obtain ⟨i, hi', rfl, he, hl⟩ := hrel
    by_cases hlt : i < m.orders.length
    · obtain ⟨A5, c5, rfl, r1, r2, r3, r4, r5⟩ := hl.open_
      have hX5 := Ext.alloc wr (.cells #[.int .i64 i] 3)
      have hlX := hl.ext hX5
      have hsrc := Src.one wr (.int .i64 i) 3
      have hil : (ints (List.range i)).length = i := by simp [ints]
      have hszw := (he.trans hX5).size
      rw [hil] at hl hlX ⊢
      have Hl := Lib.hid hl
      have hApp : ∀ v' w12, w12.ownsRow W2.heap.size 3 1 v' (i + 1) ((ints (List.range i)).map (Value.int .i64) ++ [.int .i64 (i : Int)]) → (wr.alloc (.cells #[.int .i64 i] 3)).grownBy w12 (Value.slice A5 i c5).ownBlock →
          Ext W2 w12 ∧ OwnI w12 W2.heap.size 3 v' (ints (List.range (i + 1))) := by
        intro v' w12 hown hg
        refine ⟨Below.grown (he.trans hX5) hg (by omega) (fun g hg' => (Hl.out.own_lt g hg').1), ?_⟩
        rw [List.range_succ, ints_append]
        unfold OwnI; rw [List.length_append, List.map_append, hil]; exact hown
      have HApp := Lib.hid hApp
      have hrow : (wr.alloc (.cells #[.int .i64 i] 3)).ownsRow W2.heap.size 3 1 (.slice A5 i c5) i ((ints (List.range i)).map (Value.int .i64)) := by
        have := hlX
        unfold OwnI at this
        rwa [hil] at this
      clear hApp r3 r4 r5 hl hil
      go_wp2_with (at_builtin; refine wpList_app rfl _ _ 22 rfl W2.heap.size 3 ti (.int .i64 0) 1 8 Try.underlying22 hi hz0 hz1 hz2 rfl (by decide) (.slice A5 i c5) i _ rfl hrow (some ⟨wr.heap.size, 0, none⟩) 1 1 [.int .i64 i] rfl rfl hsrc ?c2 ?c3 ?c4 ?c5 ?_; (case c2 => (intro u hu; rw [List.mem_singleton] at hu; subst hu; rfl)); (case c3 => (unfold maxLen; omega)); (case c4 => omega); (case c5 => omega); intro v' w12 hown hg hblk; have hN := HApp.out v' w12 hown hg; have HN := Lib.hid hN; clear hN)
      go_roundw
      case rel => exact ⟨i + 1, by omega, by go_num, HN.out.1, HN.out.2⟩
      case measure => simp [intOf]; omega
    · obtain rfl : i = m.orders.length := by omega
      obtain ⟨A5, c5, rfl, r1, r2, r3, r4, r5⟩ := hl.open_
      have Hl := Lib.hid hl
      have hc := due_cost Hok.out Hl1.out
      obtain ⟨cn, hcn⟩ : ∃ cn, numC m.still 0 (2 ^ m.orders.length - 1) = cn := ⟨_, rfl⟩
      have hlaw := fun zs hp hs => due_law (zs := zs) Hok.out rfl Hl1.out hp hs
      obtain ⟨rr, kk, hrk⟩ : ∃ rr kk, costE m.still 0 (ints (List.range m.orders.length)) = (rr, kk) := ⟨_, _, rfl⟩
      have hco := Lib.hid (cost_any _ m.still 0 A5 c5 (ints (List.range m.orders.length)) (rr, kk) hrk wr (Hm.out.ext he) r1 r2 r3)
      have hsum : (cn = 99 ∧ rr = 0 ∧ kk = 6) ∨ (cn ≠ 99 ∧ rr = cn ∧ kk = 0) := by
        have hc' : costE m.still 0 (ints (List.range m.orders.length)) = if numC m.still 0 (2 ^ m.orders.length - 1) = 99 then (0, 6) else (numC m.still 0 (2 ^ m.orders.length - 1), 0) := hc
        rw [hrk, hcn] at hc'
        by_cases h : cn = 99
        · rw [if_pos h] at hc'
          simp only [Prod.mk.injEq] at hc'
          exact .inl ⟨h, hc'.1, hc'.2⟩
        · rw [if_neg h] at hc'
          simp only [Prod.mk.injEq] at hc'
          exact .inr ⟨h, hc'.1, hc'.2⟩
      have Hsum := Lib.hid hsum; have Hlaw := Lib.hid hlaw; have Hcn := Lib.hid hcn
      clear hsum hlaw hcn hc hrk r3 r4 r5 hl
      obtain ⟨k0, k1, k2⟩ := (hM.ext he).c3
      go_wp2_with fail
      refine hco.out.mono ?_
      rintro e w5 ⟨rfl, he5⟩
      clear hco k0 k1 k2
      have heX := he.trans he5
      have hso := Lib.hid (due_sort m (fun o ho => (Hok.out.ords o ho).byy) l3 M _ _ A2 c2 W2 hM HO.out (.slice A5 (ints (List.range m.orders.length)).length c5) w5 heX (Hl.out.ext he5))
      go_wp2_with fail
      refine hso.out.mono ?_
      rintro e w6 ⟨rfl, zs, hp, hs, hl6, he6⟩
      clear hso
      have hlen : zs.length = (ints (List.range m.orders.length)).length := hp.length_eq
      have hlen2 : zs.length = m.orders.length := by rw [hlen]; simp [ints]
      obtain ⟨A6, c6, e6, s1, s2, s3, _, _⟩ := hl6.open_
      rw [← hlen] at e6 ⊢
      simp only [Value.slice.injEq, true_and] at e6
      obtain ⟨rfl, rfl⟩ := e6
      obtain ⟨q, hq⟩ : ∃ q, okW m.still 0 zs = q := ⟨_, rfl⟩
      have hwo := Lib.hid (woven_any _ m.still Hch.out 0 (by have := Hl1.out; show 0 < m.laced.length; omega) A5 c5 zs s1 s2 (by omega) q hq w6 (Hm.out.ext he6) s3)
      have hfin := Hlaw.out zs hp hs
      rw [hq] at hfin
      have hcn := Hcn.out
      have hnn : numC m.still 0 (2 ^ m.still.orders.length - 1) = cn := hcn
      rw [hnn] at hfin
      have Hfin := Lib.hid hfin
      clear hfin hcn hnn hq hp hs s3 hlen hlen2 hl6
      obtain ⟨k0, k1, k2⟩ := (hM.ext he6).c3
      go_wp2_with fail
      refine hwo.out.mono ?_
      rintro e w7 ⟨rfl, he7⟩
      clear hwo k0 k1 k2
      obtain ⟨ch, hch⟩ : ∃ ch, chR m.still 0 (rvI zs) = ch := ⟨_, rfl⟩
      rw [hch] at Hfin
      simp only [hch]
      clear hch
      rcases Hsum.out with ⟨h1, rfl, rfl⟩ | ⟨h1, rfl, rfl⟩
      · have hql := Hfin.out.1 h1
        subst hql
        clear Hfin
        go_wp2_with fail
        refine (awake_any w7).mono ?_
        rintro e w8 ⟨rfl, he8⟩
        go_wp2_with fail
        go_ret
        exact ⟨rfl, hE.trans (he6.trans (he7.trans he8))⟩
      · obtain ⟨hql, hge⟩ := Hfin.out.2 h1
        subst hql
        have H1 := Lib.hid h1
        clear Hfin h1
        go_wp2_with fail
        refine (awake_any w7).mono ?_
        rintro e w8 ⟨rfl, he8⟩
        go_wp2_with fail
        go_ret
        exact ⟨rfl, hE.trans (he6.trans (he7.trans he8))⟩
end Go.Proofs.Pet
