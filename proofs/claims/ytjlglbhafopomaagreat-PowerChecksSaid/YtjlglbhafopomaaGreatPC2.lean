/-
  What law7's drives and cost say.
-/
import Derived.Test.YtjlglbhafopomaaGreatPL1
namespace Go.Proofs.Pet
set_option linter.unusedSimpArgs false
open Go Go.RowKit Go.Maps Go.Shelf
open Go.Proofs.Pow (PM Sh Wv POk Up)

set_option maxRecDepth 20000 in
set_option maxHeartbeats 1000000 in
theorem drives_any (v : Value) (m : PM) (hm : POk m) (s k : Nat) (hk : k < m.wvs.length) (q : Bool) (hq : m.drv s k = q) (w : World) (hv : PMVal w v m) :
    Calls Tryz.prog 26 #[v, .int .i64 (s : Int), .int .i64 (k : Int)] w fun e w' => e = .returned (.bool q) ∧ Ext w w' := by
  obtain ⟨A1, c1, A2, c2, rfl, h2, h3, h4, h5, h6, h7⟩ := hv
  have hE := Ext.alloc w (.cells #[.slice A1 m.shafts.length c1, .slice A2 m.wvs.length c2] 26)
  obtain ⟨k0, k1⟩ := (Blk.new w 26 #[.slice A1 m.shafts.length c1, .slice A2 m.wvs.length c2]).c2
  have H6 := Lib.hid (h6.ext hE)
  obtain ⟨b2, o2, rfl, A3, c3, h3', j1, j2, j3⟩ := h7.ext hE k hk
  have hwv : m.wvs[k]?.getD default = m.wv k := rfl
  rw [hwv] at j1
  have hat := hm.at_ k hk
  obtain ⟨z, hz⟩ : ∃ z : Nat, (m.wv k).shaft = z := ⟨_, (Int.toNat_of_nonneg hat.1).symm⟩
  have hq2 : Hid ((m.line z).contains (s : Int) = q) := by unfold Hid; rw [← hq, ← hz]; rfl
  rw [hz] at j1 hat
  have Hup := Lib.hid hm.up
  have hsz := hm.sz
  have hzl : z < m.shafts.length := by omega
  clear hq hz hwv j2 j3 h3' h6 h7 hm
  go_enter Tryz.func26, Tryz.ntmps26
  go_wp2_with fail
  generalize w.alloc _ = w1 at *
  go_loopw [7] (fun x wr => ∃ y : Int, -1 ≤ y ∧ y < m.shafts.length ∧ x = .int .i64 y ∧ Hid ((m.line y).contains (s : Int) = q) ∧ w1 = wr) (fun x _ => (intOf x + 1).toNat)
  case atStart => exact ⟨(z : Int), by omega, by omega, rfl, hq2, rfl⟩
  case round =>
    obtain ⟨y, hy1, hy2, rfl, hqy, rfl⟩ := hrel
    by_cases h1 : y = -1
    · subst h1
      have : q = false := by rw [← hqy.out, Pow.line_neg m (by decide)]; rfl
      subst this
      go_wp2_with fail
      go_ret
      exact ⟨rfl, hE⟩
    · obtain ⟨yy, rfl⟩ : ∃ yy : Nat, y = yy := ⟨y.toNat, by omega⟩
      have hyl : yy < m.shafts.length := by omega
      have hd1 : ((yy : Int) != -1) = true := bne_iff_ne.2 (by omega)
      have hl := Pow.line_cons m Hup.out hyl
      have hup := Hup.out yy hyl
      obtain ⟨b1, o1, rfl, s1, s2⟩ := H6.out yy hyl
      have hsh : m.shafts[yy]?.getD default = m.sh yy := rfl
      rw [hsh] at s1 s2
      obtain ⟨u, hu⟩ : ∃ u, (m.sh yy).up = u := ⟨_, rfl⟩
      rw [hu] at s1 hl hup
      by_cases h2 : yy = s
      · subst h2
        have : q = true := by rw [← hqy.out, hl]; simp
        subst this
        have hd2 : ((yy : Int) == (yy : Int)) = true := by simp
        clear hl hu
        go_wp2_with fail
        go_ret
        exact ⟨rfl, hE⟩
      · have hd2 : ((yy : Int) == (s : Int)) = false := by simp; omega
        have hqn : Hid ((m.line u).contains (s : Int) = q) := by
          unfold Hid
          rw [← hqy.out, hl, List.contains_cons]
          have : ((s : Int) == (yy : Int)) = false := by simp; omega
          rw [this, Bool.false_or]
        clear hl hu
        go_wp2_with fail
        go_roundw
        case rel => exact ⟨u, by omega, by omega, rfl, hqn, by trivial⟩
        case measure => simp [intOf]; omega

set_option maxRecDepth 20000 in
set_option maxHeartbeats 1000000 in
theorem cost1_any (Mb Sb Hb : Nat) (A1 A2 : Option Addr) (c1 c2 : Nat) (m : PM) (hm : POk m) (s h k : Nat) (hk : k < m.wvs.length) (w : World) (hv : PMVal w (.agg #[.slice A1 m.shafts.length c1, .slice A2 m.wvs.length c2]) m)
    (hMb : Blk w Mb 26 #[.slice A1 m.shafts.length c1, .slice A2 m.wvs.length c2]) (hSb : Blk w Sb 3 #[.int .i64 (s : Int)]) (hHb : Blk w Hb 3 #[.int .i64 (h : Int)]) :
    Tells Tryz.prog w 125 #[] #[.pointer (some ⟨Mb, 0, none⟩), .pointer (some ⟨Sb, 0, none⟩), .pointer (some ⟨Hb, 0, none⟩)] IntVal (k : Int) (Pow.usesB m s h k) := by
  intro W0 v0 hW hv0
  obtain rfl : v0 = .int .i64 (k : Int) := hv0
  have hV := hv.ext hW
  obtain ⟨k0, k1⟩ := (hMb.ext hW).c2
  have e0 := (hSb.ext hW).c1
  have e1 := (hHb.ext hW).c1
  obtain ⟨q, hq⟩ : ∃ q, m.drv s k = q := ⟨_, rfl⟩
  have Hdr : Hid (∀ W, Ext W0 W → Calls Tryz.prog 26 #[.agg #[.slice A1 m.shafts.length c1, .slice A2 m.wvs.length c2], .int .i64 (s : Int), .int .i64 (k : Int)] W fun e w' => e = .returned (.bool q) ∧ Ext W w') := fun W he => drives_any _ m hm s k hk q hq W (hV.ext he)
  obtain ⟨_, _, _, _, hvv, h2, h3, h4, h5, h6, h7⟩ := hV
  cases hvv
  obtain ⟨b2, o2, rfl, A3, c3, h3', j1, j2, j3⟩ := h7 k hk
  have hwv : m.wvs[k]?.getD default = m.wv k := rfl
  rw [hwv] at j2 j3 h3'
  obtain ⟨hl, hhl⟩ : ∃ hl, (m.wv k).hours.length = hl := ⟨_, rfl⟩
  obtain ⟨r, hr⟩ : ∃ r, (m.wv k).hours.contains (h : Int) = r := ⟨_, rfl⟩
  have hres : Pow.usesB m s h k = (q && r) := by unfold Pow.usesB; rw [hq, hr]
  rw [hres]
  have Hct : Hid (∀ W, Ext W0 W → Calls Tryz.prog 30 #[.slice A3 hl c3, .int .i64 (h : Int)] W fun e w' => e = .returned (.bool r) ∧ W = w') := fun W he =>
    contains_any (h : Int) A3 c3 hl (m.wv k).hours hhl r hr W (Nat.le_trans h3'.1 h3'.2) (j3.ext he)
  rw [hhl] at j2
  clear hq hr hres hhl hwv hm hv hMb hSb hHb h6 h7 j1 j3 h3' hW
  show Calls Tryz.prog 125 #[_, .pointer (some ⟨Mb, 0, none⟩), .pointer (some ⟨Sb, 0, none⟩), .pointer (some ⟨Hb, 0, none⟩)] W0 _
  go_enter Tryz.func125, Tryz.ntmps125
  go_wp2_with fail
  cases q with
  | true =>
    refine wp_region_tree 14 [(3, true), (12, true)] [] (by kernel_rfl) (by kernel_rfl) (by kernel_rfl) (ds := [0, 1, 2]) (by kernel_rfl) ?_
    simp only [List.take, List.drop, fill, Act.put, List.setIfInBounds_toArray, List.set_cons_zero, List.set_cons_succ, Nat.reduceAdd]
    repeat (first
      | (apply Unlock.float rfl
         · intro x W he hd K Qr hK
           try (have he := he (by decide); have k0 := he.cell k0; have k1 := he.cell k1; have e0 := he.cell e0)
           try simp only [edges, DepsE, List.filter_cons, List.filter_nil, Region.binds, if_true, and_true, true_and, upd, Nat.reduceEqDiff, if_false] at hd
           try simp only [hd] at hK ⊢
           have HK := Lib.hid hK; clear hK
           go_wp2_with fail
           exact HK.out))
    refine Unlock.nil ?_
    intro W he hG
    refine Tree.next (ks := [(3, true)]) (by kernel_rfl) ?_
    refine TSteps.cons _ rfl ?_ trivial
    intro x hd K Qr hK
    try simp only [edges, DepsE, List.filter_cons, List.filter_nil, Region.binds, if_true, and_true, true_and, upd, Nat.reduceEqDiff, if_false] at hd
    try simp only [hd] at hK ⊢
    clear hd
    have HK := Lib.hid hK; clear hK
    go_wp2_with fail
    refine (Hdr.out W he).mono ?_
    rintro e W5 ⟨rfl, he5⟩
    have heA := he.trans he5
    go_wp2_with fail
    refine HK.out _ _ (fun _ => heA) ?_
    refine Unlock.of (ds := [4, 5, 6, 7, 8, 9, 10, 11]) (by kernel_rfl) ?_
    repeat (first
      | (apply Unlock.float rfl
         · intro x W he hd K Qr hK
           try (have he := he (by decide); have z1 := he.cell k1; have z2 := he.cell j2; have z3 := he.cell e1)
           try simp only [edges, DepsE, List.filter_cons, List.filter_nil, Region.binds, if_true, and_true, true_and, upd, Nat.reduceEqDiff, if_false] at hd
           try simp only [hd] at hK ⊢
           have HK := Lib.hid hK; clear hK
           go_wp2_with fail
           exact HK.out))
    refine Unlock.nil ?_
    clear HK
    refine Tree.next (ks := [(12, true)]) (by kernel_rfl) ?_
    refine TSteps.cons _ rfl ?_ trivial
    intro x hd K Qr hK
    try simp only [edges, DepsE, List.filter_cons, List.filter_nil, Region.binds, if_true, and_true, true_and, upd, Nat.reduceEqDiff, if_false] at hd
    try simp only [hd] at hK ⊢
    clear hd
    have HK := Lib.hid hK; clear hK
    go_wp2_with fail
    refine (Hct.out W5 heA).mono ?_
    rintro e W6 ⟨rfl, rfl⟩
    go_wp2_with fail
    refine HK.out _ _ (fun _ => heA) ?_
    refine Unlock.of (ds := [13]) (by kernel_rfl) ?_
    repeat (first
      | (apply Unlock.float rfl
         · intro x W he hd K Qr hK
           try (have he := he (by decide))
           try simp only [edges, DepsE, List.filter_cons, List.filter_nil, Region.binds, if_true, and_true, true_and, upd, Nat.reduceEqDiff, if_false] at hd
           try simp only [hd] at hK ⊢
           have HK := Lib.hid hK; clear hK
           go_wp2_with fail
           exact HK.out))
    refine Unlock.nil ?_
    refine Tree.nil (by kernel_rfl) ?_
    simp only [upd, Nat.reduceEqDiff, if_false, if_true]
    go_wp2_with fail
    go_ret
    exact ⟨rfl, heA⟩
  | false =>
    refine wp_region_tree 14 [(3, true)] [] (by kernel_rfl) (by kernel_rfl) (by kernel_rfl) (ds := [0, 1, 2]) (by kernel_rfl) ?_
    simp only [List.take, List.drop, fill, Act.put, List.setIfInBounds_toArray, List.set_cons_zero, List.set_cons_succ, Nat.reduceAdd]
    repeat (first
      | (apply Unlock.float rfl
         · intro x W he hd K Qr hK
           try (have he := he (by decide); have k0 := he.cell k0; have k1 := he.cell k1; have e0 := he.cell e0)
           try simp only [edges, DepsE, List.filter_cons, List.filter_nil, Region.binds, if_true, and_true, true_and, upd, Nat.reduceEqDiff, if_false] at hd
           try simp only [hd] at hK ⊢
           have HK := Lib.hid hK; clear hK
           go_wp2_with fail
           exact HK.out))
    refine Unlock.nil ?_
    intro W he hG
    refine Tree.next (ks := [(3, true)]) (by kernel_rfl) ?_
    refine TSteps.cons _ rfl ?_ trivial
    intro x hd K Qr hK
    try simp only [edges, DepsE, List.filter_cons, List.filter_nil, Region.binds, if_true, and_true, true_and, upd, Nat.reduceEqDiff, if_false] at hd
    try simp only [hd] at hK ⊢
    clear hd
    have HK := Lib.hid hK; clear hK
    go_wp2_with fail
    refine (Hdr.out W he).mono ?_
    rintro e W5 ⟨rfl, he5⟩
    have heA := he.trans he5
    go_wp2_with fail
    refine HK.out _ _ (fun _ => heA) ?_
    refine Unlock.of (ds := [4, 5, 6, 7, 8, 9, 10, 11, 12, 13]) (by kernel_rfl) ?_
    repeat (first
      | (apply Unlock.float rfl
         · intro x W he hd K Qr hK
           try (have he := he (by decide))
           try simp only [edges, DepsE, List.filter_cons, List.filter_nil, Region.binds, if_true, and_true, true_and, upd, Nat.reduceEqDiff, if_false] at hd
           try simp only [hd] at hK ⊢
           have HK := Lib.hid hK; clear hK
           go_wp2_with fail
           exact HK.out))
    refine Unlock.nil ?_
    clear HK
    refine Tree.nil (by kernel_rfl) ?_
    simp only [upd, Nat.reduceEqDiff, if_false, if_true]
    go_wp2_with fail
    go_ret
    exact ⟨rfl, heA⟩

/-- what law7's cost has summed up when it has seen the spots of a list -/
def lsum (m : PM) (g : List Int) (L : List (Nat × Nat)) : Int := (L.map fun x => if g.any (fun k => Pow.usesB m x.1 x.2 k.toNat) then (m.sh x.1).price else 0).sum
theorem lsum_snoc (m : PM) (g : List Int) (L : List (Nat × Nat)) (x : Nat × Nat) : lsum m g (L ++ [x]) = lsum m g L + if g.any (fun k => Pow.usesB m x.1 x.2 k.toNat) then (m.sh x.1).price else 0 := by simp [lsum]
theorem lsum_bounds {m : PM} (hm : POk m) (g : List Int) : ∀ {L : List (Nat × Nat)}, (∀ x, x ∈ L → x.1 < m.shafts.length) → 0 ≤ lsum m g L ∧ lsum m g L ≤ 60 * (L.length : Int)
  | [], _ => by constructor <;> simp [lsum]
  | a :: l, hl => by
    have ih := lsum_bounds hm g (L := l) fun y hy => hl y (List.mem_cons_of_mem _ hy)
    have hp := hm.price a.1 (hl a List.mem_cons_self)
    have e : lsum m g (a :: l) = (if g.any (fun k => Pow.usesB m a.1 a.2 k.toNat) then (m.sh a.1).price else 0) + lsum m g l := by simp [lsum]
    rw [e, List.length_cons]
    split <;> omega
/-- weavers -/
def InW (m : PM) (g : List Int) : Prop := ∀ x, x ∈ g → 0 ≤ x ∧ x < m.wvs.length
theorem lsum_cost {m : PM} {g : List Int} (hg : InW m g) : lsum m g (Pow.spotL m.shafts.length) = Pow.costF m fun k => g.contains (k : Int) := by
  rw [Pow.costF_sumM]
  unfold lsum Pow.sumM
  congr 1
  refine List.map_congr_left fun x _ => ?_
  have : (g.any fun k => Pow.usesB m x.1 x.2 k.toNat) = Pow.hitQ m.wvs.length (Pow.usesB m x.1 x.2) (fun k => g.contains (k : Int)) := by
    rw [Bool.eq_iff_iff, Pow.hitQ_iff, List.any_eq_true]
    constructor
    · rintro ⟨k, hk, h⟩
      have := hg k hk
      refine ⟨k.toNat, by omega, h, ?_⟩
      rw [Int.toNat_of_nonneg this.1, List.contains_iff_mem]
      exact hk
    · rintro ⟨k, hk, h, h2⟩
      exact ⟨(k : Int), List.contains_iff_mem.1 h2, h⟩
  rw [this]
theorem spotL_len2 (S : Nat) : (Pow.spotL S).length = S * 24 := by
  induction S with
  | zero => rfl
  | succ n ih => rw [Pow.spotL_succ]; simp [ih]; omega
theorem spotT_len (s h : Nat) : (Pow.spotT s h).length = s * 24 + h := by unfold Pow.spotT; simp [spotL_len2]
theorem spotT_in {m : PM} {s h : Nat} (hs : s < m.shafts.length) : ∀ x, x ∈ Pow.spotT s h → x.1 < m.shafts.length := by
  intro x hx
  unfold Pow.spotT at hx
  rcases List.mem_append.1 hx with h | h
  · obtain ⟨a, b⟩ := x
    have := (Pow.mem_spotL.1 h).1
    show a < _
    omega
  · obtain ⟨t, _, rfl⟩ := List.mem_map.1 h
    exact hs

set_option maxRecDepth 20000 in
set_option maxHeartbeats 1000000 in
theorem lcost_any (v : Value) (m : PM) (hm : POk m) (A : Option Addr) (c n : Nat) (g : List Int) (hn : g.length = n) (hg : InW m g) (hn2 : n ≤ maxLen) (w : World) (hv : PMVal w v m) (hA : IntsAt w A g) :
    Calls Tryz.prog 53 #[v, .slice A n c] w fun e w' => e = .returned (.int .i64 (Pow.costF m fun k => g.contains (k : Int))) ∧ Ext w w' := by
  have hmf : ∀ (fn : Fn) (first cap : Array Value) (w : World), (Instr.makeFunc fn first cap).run Tryz.prog w = .ok (.func fn first cap) w := fun _ _ _ _ => rfl
  have Hv := Lib.hid hv
  obtain ⟨A1, c1, A2, c2, rfl, h2, h3, h4, h5, h6, h7⟩ := hv
  have hE := Ext.alloc w (.cells #[.slice A1 m.shafts.length c1, .slice A2 m.wvs.length c2] 26)
  have hM := Blk.new w 26 #[.slice A1 m.shafts.length c1, .slice A2 m.wvs.length c2]
  obtain ⟨k0, k1⟩ := hM.c2
  have H6 := Lib.hid (h6.ext hE); have HV := Lib.hid (Hv.out.ext hE); have HA := Lib.hid (hA.ext hE); have Hm := Lib.hid hm; have Hg := Lib.hid hg
  have hms := hm.sz
  obtain ⟨Mb, hMb⟩ : ∃ Mb, w.heap.size = Mb := ⟨_, rfl⟩
  rw [hMb] at hM k0 k1
  have HM := Lib.hid hM
  have Hn := Lib.hid hn
  clear hm hg hA Hv hM h6 h7 hn
  go_enter Tryz.func53, Tryz.ntmps53
  go_wp2_with fail
  try rw [hMb]
  clear hMb k0 k1
  generalize w.alloc _ = w1 at *
  go_loopw [5, 12] (fun x i wr => ∃ s : Nat, s ≤ m.shafts.length ∧ i = .int .i64 (s : Int) ∧ x = .int .i64 (lsum m g (Pow.spotL s)) ∧ Ext w1 wr) (fun _ i _ => m.shafts.length - (intOf i).toNat)
  case atStart => exact ⟨0, Nat.zero_le _, rfl, rfl, Ext.refl _⟩
  case round =>
    obtain ⟨s, hs, rfl, rfl, he⟩ := hrel
    by_cases hlt : s < m.shafts.length
    · obtain ⟨b1, o1, rfl, s1, s2⟩ := H6.out.ext he s hlt
      have hsh : m.shafts[s]?.getD default = m.sh s := rfl
      rw [hsh] at s1 s2
      obtain ⟨pr, hpr⟩ : ∃ pr, (m.sh s).price = pr := ⟨_, rfl⟩
      have hpb := Hm.out.price s hlt
      rw [hpr] at s2 hpb
      obtain ⟨up, hup⟩ : ∃ up, (m.sh s).up = up := ⟨_, rfl⟩
      rw [hup] at s1
      have hX : Ext wr ((wr.alloc (.cells #[.int .i64 (s : Int)] 3)).alloc (.cells #[.int .i64 up, .int .i64 pr] 105)) := (Ext.alloc _ _).trans (Ext.alloc _ _)
      have hS := (Blk.new wr 3 #[.int .i64 (s : Int)]).alloc (.cells #[.int .i64 up, .int .i64 pr] 105)
      have hP := Blk.new (wr.alloc (.cells #[.int .i64 (s : Int)] 3)) 105 #[.int .i64 up, .int .i64 pr]
      rw [World.size_alloc] at hP
      obtain ⟨Sb, hSb⟩ : ∃ Sb, wr.heap.size = Sb := ⟨_, rfl⟩
      rw [hSb] at hS hP
      have HS := Lib.hid hS; have HP := Lib.hid hP
      have heX := he.trans hX
      have Hpr := Lib.hid hpr
      have h0 : lsum m g (Pow.spotL s) = lsum m g (Pow.spotT s 0) := by rw [Pow.spotT_zero]
      rw [h0]
      clear hpr hup he hX hS hP h0
      go_wp2_with fail
      try rw [hSb]
      clear s1 s2 hSb
      generalize (wr.alloc _).alloc _ = w2 at *
      go_loopw [5, 17] (fun x i wq => ∃ h : Nat, h ≤ 24 ∧ i = .int .i64 (h : Int) ∧ x = .int .i64 (lsum m g (Pow.spotT s h)) ∧ Ext w2 wq) (fun _ i _ => 24 - (intOf i).toNat)
      case atStart => exact ⟨0, by omega, rfl, rfl, Ext.refl _⟩
      case round =>
        obtain ⟨h, hh, rfl, rfl, he⟩ := hrel
        by_cases hlh : h < 24
        · have hdh : decide ((h : Int) < 24) = true := by simp; omega
          have hY := Ext.alloc wr (.cells #[.int .i64 (h : Int)] 3)
          have hH := Blk.new wr 3 #[.int .i64 (h : Int)]
          have heY := he.trans hY
          obtain ⟨q, hq⟩ : ∃ q, (g.any fun k => Pow.usesB m s h k.toNat) = q := ⟨_, rfl⟩
          have hcf := containsFuncI 125 #[] #[.pointer (some ⟨Mb, 0, none⟩), .pointer (some ⟨Sb, 0, none⟩), .pointer (some ⟨wr.heap.size, 0, none⟩)] (enters_of Tryz.func125 (by kernel_rfl) rfl) (fun i => Pow.usesB m s h i.toNat) A c g _ (by rw [Hn.out]; exact hn2) (HA.out.ext (heX.trans heY))
            (fun y hy => by
              have hy2 := Hg.out y hy
              obtain ⟨yy, rfl⟩ : ∃ yy : Nat, y = yy := ⟨y.toNat, by omega⟩
              exact cost1_any Mb Sb _ _ _ _ _ m Hm.out s h yy (by omega) _ (HV.out.ext (heX.trans heY)) (HM.out.ext (heX.trans heY)) (HS.out.ext heY) hH)
          rw [Hn.out, hq] at hcf
          have Hcf := Lib.hid hcf
          have hsn := lsum_snoc m g (Pow.spotT s h) (s, h)
          rw [← Pow.spotT_succ] at hsn
          dsimp only at hsn
          rw [hq, Hpr.out] at hsn
          have hb := lsum_bounds Hm.out g (L := Pow.spotT s h) (spotT_in hlt)
          rw [spotT_len] at hb
          obtain ⟨x0, hx0⟩ : ∃ x0, lsum m g (Pow.spotT s h) = x0 := ⟨_, rfl⟩
          rw [hx0] at hsn hb ⊢
          have Hsn := Lib.hid hsn
          clear hq hcf hsn hx0 hY hH
          go_wp2_with fail
          refine Hcf.out.mono ?_
          rintro e w5 ⟨rfl, he5⟩
          have heZ := heY.trans he5
          obtain ⟨p0, p1⟩ := (HP.out.ext heZ).c2
          cases q with
          | true =>
            go_wp2_with fail
            go_roundw
            case rel => exact ⟨h + 1, by omega, by go_num, by rw [Hsn.out]; simp, heZ⟩
            case measure => simp [intOf]; omega
          | false =>
            go_wp2_with fail
            go_roundw
            case rel => exact ⟨h + 1, by omega, by go_num, by rw [Hsn.out]; simp, heZ⟩
            case measure => simp [intOf]; omega
        · obtain rfl : h = 24 := by omega
          go_wp2_with fail
          go_roundw
          case rel => exact ⟨s + 1, by omega, by go_num, by rw [Pow.spotT_full], heX.trans he⟩
          case measure => simp [intOf]; omega
    · obtain rfl : s = m.shafts.length := by omega
      rw [lsum_cost Hg.out]
      go_wp2_with fail
      go_ret
      exact ⟨rfl, hE.trans he⟩
end Go.Proofs.Pet
