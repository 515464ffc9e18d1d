/- Joined texts: TL5, O3, Q1, O9, R2. -/
import Derived.Test.YtlekonngbmkdbaaJ10
import Derived.Test.YtlekonngbmkdbaaJ08
import Derived.Test.YtlekonngbmkdbaaJ07
import Derived.Deep.DeepCutAuto
import Derived.Lib.SlicesCompact
namespace Go.Proofs.Mended
theorem cut_ints {l : List Nat} {a : Nat} (ha : a < l.length) : (l.map fun k : Nat => (k : Int)).take a ++ (l.map fun k : Nat => (k : Int)).drop (a + 1) = (cutF a l).map fun k : Nat => (k : Int) := by
  rw [cutF_eq a l ha, List.map_append, List.map_take, List.map_drop]
end Go.Proofs.Mended
namespace Go.Proofs.Pet
open Go Go.RowKit Go.Maps Go.Shelf
open Go.Proofs.Mended (atN madeF keptF mendF mendR idxF destF toF cutF riseL)

theorem neq_move (f t : Nat) (hf : f < 7) (ht : t < 7) (W : World) : (binOp .neq 113 (.agg #[.int .i64 (f : Int), .int .i64 (t : Int)]) (.agg #[.int .i64 (f : Int), .int .i64 (f : Int)])).run Try.prog W = .ok (.bool (decide (f ≠ t))) W :=
  match f, t, hf, ht with
  | 0, 0, _, _ => by kernel_rfl
  | 0, 1, _, _ => by kernel_rfl
  | 0, 2, _, _ => by kernel_rfl
  | 0, 3, _, _ => by kernel_rfl
  | 0, 4, _, _ => by kernel_rfl
  | 0, 5, _, _ => by kernel_rfl
  | 0, 6, _, _ => by kernel_rfl
  | 1, 0, _, _ => by kernel_rfl
  | 1, 1, _, _ => by kernel_rfl
  | 1, 2, _, _ => by kernel_rfl
  | 1, 3, _, _ => by kernel_rfl
  | 1, 4, _, _ => by kernel_rfl
  | 1, 5, _, _ => by kernel_rfl
  | 1, 6, _, _ => by kernel_rfl
  | 2, 0, _, _ => by kernel_rfl
  | 2, 1, _, _ => by kernel_rfl
  | 2, 2, _, _ => by kernel_rfl
  | 2, 3, _, _ => by kernel_rfl
  | 2, 4, _, _ => by kernel_rfl
  | 2, 5, _, _ => by kernel_rfl
  | 2, 6, _, _ => by kernel_rfl
  | 3, 0, _, _ => by kernel_rfl
  | 3, 1, _, _ => by kernel_rfl
  | 3, 2, _, _ => by kernel_rfl
  | 3, 3, _, _ => by kernel_rfl
  | 3, 4, _, _ => by kernel_rfl
  | 3, 5, _, _ => by kernel_rfl
  | 3, 6, _, _ => by kernel_rfl
  | 4, 0, _, _ => by kernel_rfl
  | 4, 1, _, _ => by kernel_rfl
  | 4, 2, _, _ => by kernel_rfl
  | 4, 3, _, _ => by kernel_rfl
  | 4, 4, _, _ => by kernel_rfl
  | 4, 5, _, _ => by kernel_rfl
  | 4, 6, _, _ => by kernel_rfl
  | 5, 0, _, _ => by kernel_rfl
  | 5, 1, _, _ => by kernel_rfl
  | 5, 2, _, _ => by kernel_rfl
  | 5, 3, _, _ => by kernel_rfl
  | 5, 4, _, _ => by kernel_rfl
  | 5, 5, _, _ => by kernel_rfl
  | 5, 6, _, _ => by kernel_rfl
  | 6, 0, _, _ => by kernel_rfl
  | 6, 1, _, _ => by kernel_rfl
  | 6, 2, _, _ => by kernel_rfl
  | 6, 3, _, _ => by kernel_rfl
  | 6, 4, _, _ => by kernel_rfl
  | 6, 5, _, _ => by kernel_rfl
  | 6, 6, _, _ => by kernel_rfl
theorem IntsAt.grownBy {w w' : World} {A : Option Addr} {xs : List Int} {row : Option Nat} (h : IntsAt w A xs) (hg : w.grownBy w' row) (hne : ∀ ad, A = some ad → row ≠ some ad.block) : IntsAt w' A xs := by
  intro k hk
  obtain ⟨b, o, e, c⟩ := h k hk
  refine ⟨b, o, e, ?_⟩
  have hlt := cell_lt c
  have := hne _ e
  unfold World.cell? at c ⊢
  rw [hg.block b hlt (fun e2 => this e2.symm)]
  exact c
/-- the places at which what grows does not lie -/
def FarA (A : Option Addr) (v : Value) : Prop := ∀ ad, A = some ad → v.ownBlock ≠ some ad.block
theorem FarA.grown {w : World} {A : Option Addr} {xs : List Int} {v v' : Value} (h : FarA A v) (hx : IntsAt w A xs) (hx1 : 1 ≤ xs.length) (hv : v'.ownBlock = v.ownBlock ∨ v'.ownBlock = some w.heap.size) : FarA A v' := by
  intro ad e
  rcases hv with hv | hv
  · rw [hv]; exact h ad e
  · obtain ⟨b, o, e2, c⟩ := hx 0 (by omega)
    rw [e] at e2
    cases e2
    have h4 : b < w.heap.size := cell_lt c
    rw [hv]
    intro e3
    have h5 : w.heap.size = b := Option.some.inj e3
    omega
theorem OwnI.at_ {w : World} {base n c : Nat} {t : TypeId} {A : Option Addr} {xs : List Int} (h : OwnI w base t (.slice A n c) xs) : IntsAt w A xs := by
  obtain ⟨A', c', e, _, _, h3, _, _⟩ := h.open_
  injection e with e1 _ _
  subst e1
  exact h3
theorem row_grownT {w w' : World} {base base' size n size1 n1 : Nat} {e e1 : TypeId} {u v : Value} {vs vs1 : List Value} (h : w.ownsRow base e1 size1 u n1 vs1) (hne : e ≠ e1) (hg : w.grownBy w' v.ownBlock) (hv : w.ownsRow base' e size v n vs) : w'.ownsRow base e1 size1 u n1 vs1 := by
  obtain ⟨h1, h2⟩ := h
  refine ⟨h1, ?_⟩
  rcases h2 with h2 | ⟨g, cap, cur, rfl, hg1, hb, r⟩
  · exact .inl h2
  · refine .inr ⟨g, cap, cur, rfl, hg1, ?_, r⟩
    rw [← hb]
    refine hg.block g (Array.getElem?_eq_some_iff.1 hb).1 fun e' => ?_
    exact ownsRow_ne_blk hv (show Blk w g e1 cur from hb) (fun h => hne h.symm) e'
theorem OwnI.row {w : World} {base n : Nat} {v : Value} {kept : List Nat} (h : OwnI w base 3 v (ints kept)) (hn : kept.length = n) : w.ownsRow base 3 1 v n ((ints kept).map (Value.int .i64)) := by
  unfold OwnI at h
  rwa [lenI, hn] at h
theorem OwnI.push {w : World} {base n k : Nat} {v : Value} {kept : List Nat} (h : w.ownsRow base 3 1 v (n + 1) ((Go.Proofs.Pet.ints kept).map (Value.int .i64) ++ [.int .i64 (k : Int)])) (hn : kept.length = n) : OwnI w base 3 v (Go.Proofs.Pet.ints (kept ++ [k])) := by
  unfold OwnI
  have e1 : (Go.Proofs.Pet.ints (kept ++ [k])).length = n + 1 := by rw [lenI, List.length_append, hn]; rfl
  rw [e1]
  unfold Go.Proofs.Pet.ints at h ⊢
  rw [List.map_append, List.map_append]
  exact h
theorem Src.listL (w : World) (cs : List Value) (t : TypeId) : Src (w.alloc (.cells cs.toArray t)) (some ⟨w.heap.size, 0, none⟩) cs := .inr ⟨_, rfl, fun j u hj => by
  have hb := Blk.new w t cs.toArray
  have e : (⟨w.heap.size, 0, none⟩ : Addr).add j = ⟨w.heap.size, 0 + j, none⟩ := by unfold Addr.add; split <;> simp_all
  rw [e, Nat.zero_add, hb.cell, List.getElem?_toArray]
  exact hj⟩
set_option maxRecDepth 20000 in
set_option maxHeartbeats 8000000 in
theorem mend_any (A : Option Addr) (c : Nat) (l : List Nat) (hl : OrdL l) (w : World) (hc : l.length ≤ c) (hx : IntsAt w A (ints l)) :
    Calls Try.prog 18 #[.slice A l.length c] w fun e w' => ∃ v, e = .returned (.tuple #[v, .int .i64 0]) ∧ OwnMv w' w.heap.size v (mendF l) ∧ Ext w w' := by
  obtain ⟨ti, hi, hz0, hz1, hz2⟩ := info_parts info_int
  obtain ⟨ti2, hi2, hy0, hy1, hy2⟩ := info_parts info_move
  have hal := Lib.hid (alone_any A c l hl w hc hx)
  have hl6 := hl.few
  have Hl := Lib.hid hl
  have Hx := Lib.hid hx
  clear hl hx
  go_enter Try.func18, Try.ntmps18
  go_wp2_with fail
  refine hal.out.mono ?_
  rintro e w1 ⟨rfl, he1⟩
  have hri := Lib.hid (rise_any A c l (by omega) w1 (Hx.out.ext he1))
  clear hal
  go_wp2_with fail
  refine hri.out.mono ?_
  rintro e w2 ⟨v2, rfl, hO, he2⟩
  obtain ⟨ps, hps⟩ : ∃ ps, (riseL l).map (·.1) = ps := ⟨_, rfl⟩
  have hpb : ∀ x, x ∈ ps → x < l.length := fun x hx => by
    rw [← hps, List.mem_map] at hx
    obtain ⟨a, ha, rfl⟩ := hx
    exact (Mended.riseL_mem ha).1
  have hpk : keptF l = ps.map (atN l) := by rw [Mended.kept_rise, hps]
  have hpl : ps.length ≤ 7 := by
    rw [← hps, List.length_map]
    have := Mended.riseL_len l
    omega
  rw [hps] at hO
  obtain ⟨np, hnp⟩ : ∃ np, ps.length = np := ⟨_, rfl⟩
  have Hnp := Lib.hid hnp
  obtain ⟨A2, c2, rfl, -, -, hI, -, -⟩ := hO.open_
  rw [lenI, hnp] at hO ⊢
  rw [hnp] at hpl
  have Hpb := Lib.hid hpb
  have Hpk := Lib.hid hpk
  have HI := Lib.hid hI
  have hE2 := he1.trans he2
  clear hri hO hI he1 he2 hps hpb hpk hnp
  go_wp2_with fail
  go_loopw [5, 24] (fun o iv wr => ∃ j : Nat, ∃ A5 c5, j ≤ np ∧ iv = .int .i64 (j : Int) ∧ o = .slice A5 j c5 ∧ Hid (OwnI wr w2.heap.size 3 (.slice A5 j c5) (ints ((ps.take j).map (atN l)))) ∧ Hid (Ext w2 wr)) (fun _ iv _ => np - (intOf iv).toNat)
  case atStart => exact ⟨0, none, 0, by omega, rfl, rfl, Lib.hid (OwnI.nil _ _ _), Lib.hid (Ext.refl _)⟩
  case round =>
    obtain ⟨j, A5, c5, hj, rfl, rfl, hO, hE⟩ := hrel
    by_cases hlt : j < np
    · -- <<A
      obtain ⟨b2, o2, e1, cp⟩ := (HI.out.ext hE.out).atN (k := j) (by rw [Hnp.out]; exact hlt)
      subst e1
      have hpj : atN ps j < l.length := Hpb.out _ (by
        unfold Mended.atN
        rw [List.getElem?_eq_getElem (by rw [Hnp.out]; exact hlt)]
        exact List.getElem_mem _)
      have hst : (ps.take (j + 1)).map (atN l) = (ps.take j).map (atN l) ++ [atN l (atN ps j)] := by
        rw [List.take_add_one, List.map_append, Mended.atN_lt (by rw [Hnp.out]; exact hlt)]
        rfl
      obtain ⟨p, hp⟩ : ∃ p, atN ps j = p := ⟨_, rfl⟩
      rw [hp] at cp hpj hst
      obtain ⟨b3, o3, e3, cl⟩ := (Hx.out.ext (hE2.trans hE.out)).atN hpj
      subst e3
      obtain ⟨x, hxe⟩ : ∃ x, atN l p = x := ⟨_, rfl⟩
      rw [hxe] at cl hst
      have Hst := Lib.hid hst
      have hX := Ext.alloc wr (.cells #[.int .i64 (x : Int)] 3)
      have hsrc := Src.one wr (.int .i64 (x : Int)) 3
      have hlen : Hid ((ints ((ps.take j).map (atN l))).length = j) := by
        unfold Hid
        rw [lenI, List.length_map, List.length_take, Hnp.out]; omega
      have o1 : (wr.alloc (.cells #[.int .i64 (x : Int)] 3)).ownsRow w2.heap.size 3 1 (.slice A5 j c5) j ((ints ((ps.take j).map (atN l))).map (Value.int .i64)) := by
        have := hO.out.ext hX
        unfold OwnI at this
        rwa [hlen.out] at this
      have hfin : Hid (∀ v' w', w'.ownsRow w2.heap.size 3 1 v' (j + 1) ((ints ((ps.take j).map (atN l))).map (Value.int .i64) ++ [.int .i64 (x : Int)]) → (wr.alloc (.cells #[.int .i64 (x : Int)] 3)).grownBy w' (Value.slice A5 j c5).ownBlock → OwnI w' w2.heap.size 3 v' (ints ((ps.take (j + 1)).map (atN l))) ∧ Ext w2 w') := fun v' w' h hg => by
        refine ⟨?_, ext_grown hE.out hg fun k hk => (hO.out.own_lt k hk).1⟩
        rw [Hst.out]
        unfold OwnI
        have e1 : (ints ((ps.take j).map (atN l) ++ [x])).length = j + 1 := by
          have := hlen.out
          rw [lenI] at this ⊢
          rw [List.length_append, this]; rfl
        rw [e1]
        unfold ints at h ⊢
        rw [List.map_append, List.map_append]
        exact h
      have hsz := (hE.out.trans hX).size
      clear hst hp hxe hO hX
      go_wp2_with (at_builtin; refine wpList_app rfl _ _ 28 rfl w2.heap.size 3 ti (.int .i64 0) 1 8 Try.underlying28 hi hz0 hz1 hz2 rfl (by decide) (.slice A5 j c5) j _ rfl o1 (some ⟨wr.heap.size, 0, none⟩) 1 1 [.int .i64 (x : Int)] rfl rfl hsrc ?c2 ?c3 ?c4 ?c5 ?_; (case c2 => (intro u hu; rw [List.mem_singleton] at hu; subst hu; rfl)); (case c3 => (unfold maxLen; omega)); (case c4 => omega); (case c5 => omega); intro v' w11 hown hg hblk; obtain ⟨f1, f2⟩ := hfin.out v' w11 hown hg; obtain ⟨A9, c9, rfl⟩ := ownsRow_slice hown; have F1 := Lib.hid f1; have F2 := Lib.hid f2; clear f1 f2 hsrc o1 hown)
      go_roundw
      case rel => exact ⟨j + 1, _, _, by omega, by go_num, rfl, F1, F2⟩
      case measure => simp [intOf]; omega
      -- >>
    · -- <<B
      obtain rfl : j = np := by omega
      have hO2 : Hid (OwnI wr w2.heap.size 3 (.slice A5 j c5) (ints (keptF l))) := by
        unfold Hid
        rw [Hpk.out]
        have := hO.out
        rwa [← Hnp.out, List.take_length, Hnp.out] at this
      have hkl : Hid ((keptF l).length = j) := by unfold Hid; rw [Hpk.out, List.length_map, Hnp.out]
      obtain ⟨w3, rfl⟩ : ∃ z, z = wr := ⟨_, rfl⟩
      have hE3 := hE
      have hw2 := hE2.size
      have hIx := Lib.hid (Hx.out.ext (hE2.trans hE.out))
      have hfar0 : Hid (FarA A (.slice A5 j c5)) := fun ad e e2 => by
        have h1 := (hO2.out.own_lt _ e2).1
        obtain ⟨b, o, e3, c3⟩ := Hx.out 0 (by rw [lenI]; omega)
        rw [e] at e3
        cases e3
        have h4 : b < w.heap.size := cell_lt c3
        have h5 : w2.heap.size ≤ b := h1
        omega
      clear hO hE
      go_wp2_with fail
      go_loopw [0, 5, 8, 38] (fun ov kv mv iv wr => ∃ k : Nat, ∃ cur kept : List Nat, ∃ ms : List (Nat × Nat), ∃ A0 c0 n5 A5 c5 n8 A8 c8, k ≤ l.length ∧ iv = .int .i64 (k : Int) ∧ ov = .slice A0 l.length c0 ∧ kv = .slice A5 n5 c5 ∧ mv = .slice A8 n8 c8 ∧ n5 ≤ 7 + k ∧ n8 ≤ k ∧ Hid (cur.Perm l) ∧ Hid (IntsAt wr A0 (ints cur)) ∧ Hid (kept.length = n5) ∧ Hid (OwnI wr w2.heap.size 3 (.slice A5 n5 c5) (ints kept)) ∧ Hid (wr.ownsRow w2.heap.size 113 2 (.slice A8 n8 c8) n8 (mvFlat ms)) ∧ Hid (ms.length = n8) ∧ Hid (FarA A0 (.slice A5 n5 c5)) ∧ Hid (FarA A0 (.slice A8 n8 c8)) ∧ Hid (ms ++ mendR (l.length - k) k cur kept = mendF l) ∧ Hid (Ext w2 wr)) (fun _ _ _ iv _ => l.length - (intOf iv).toNat)
      case atStart => exact ⟨0, l, keptF l, [], A, c, j, A5, c5, 0, none, 0, by omega, rfl, rfl, rfl, rfl, by omega, by omega, Lib.hid (List.Perm.refl _), hIx, hkl, hO2, Lib.hid (World.ownsRow_nil _ _ _ _), Lib.hid rfl, hfar0, Lib.hid (fun ad _ e => by cases e), Lib.hid rfl, hE3⟩
      case round =>
        clear hO2 hE3 hIx hfar0 hkl
        obtain ⟨k, cur, kept, ms, A0, c0, n5, A5, c5, n8, A8, c8, hk, rfl, rfl, rfl, rfl, hn5, hn8, hcp, hIc, hkn, hOk, hOm, hmn, hf5, hf8, hres, hE⟩ := hrel
        by_cases hlt : k < l.length
        · -- <<C
          have hkc : k ∈ cur := hcp.out.mem_iff.2 (Hl.out.mem hlt)
          have hcl := hcp.out.length_eq
          have hsplit : l.length - k = (l.length - (k + 1)) + 1 := by omega
          have hdl := Mended.dest_lt (kept := kept) hkc
          have hfl := Mended.idxF_lt hkc
          have Hkq : Hid ((k ∈ kept → ms ++ mendR (l.length - (k + 1)) (k + 1) cur kept = mendF l) ∧ (k ∉ kept → (ms ++ if idxF k cur = destF k cur kept then [] else [(idxF k cur, destF k cur kept)]) ++ mendR (l.length - (k + 1)) (k + 1) (madeF cur (idxF k cur, destF k cur kept)) (kept ++ [k]) = mendF l)) := by
            have h := hres.out
            rw [hsplit] at h
            refine ⟨fun hk => ?_, fun hk => ?_⟩
            · rw [Mended.mendR_kept hk] at h; exact h
            · rw [Mended.mendR_move hk] at h
              rw [← h, List.append_assoc]
              congr 1
              split <;> rfl
          obtain ⟨q, hq⟩ : ∃ q, (ints kept).contains (k : Int) = q := ⟨_, rfl⟩
          have hqk : Hid (q = true ↔ k ∈ kept) := by
            unfold Hid
            rw [← hq, List.contains_iff_mem, memNat]
          have hIk := hOk.out.at_
          have HIk := Lib.hid hIk
          have hct := Lib.hid (contains_any (k : Int) A5 c5 n5 (ints kept) (by rw [lenI, hkn.out]) q hq wr (by rw [lenI, hkn.out]; unfold maxLen; omega) hIk)
          have hix := indexN_any k A0 c0 cur hkc wr (by omega) hIc.out
          rw [hcl] at hix hdl hfl
          have Hix := Lib.hid hix
          have Hcl := Lib.hid hcl
          have Hkc := Lib.hid hkc
          clear hkc hcl hsplit hq hIk hix hres
          go_wp2_with fail
          refine hct.out.mono ?_
          rintro e w4 ⟨rfl, rfl⟩
          cases q with
          | true =>
            have hr := Lib.hid (Hkq.out.1 (hqk.out.1 rfl))
            go_wp2_with fail
            go_roundw
            case rel => exact ⟨k + 1, cur, kept, ms, A0, c0, n5, A5, c5, n8, A8, c8, by omega, by go_num, rfl, rfl, rfl, by omega, by omega, hcp, hIc, hkn, hOk, hOm, hmn, hf5, hf8, hr, hE⟩
            case measure => simp [intOf]; omega
          | false =>
            have hnk : k ∉ kept := fun h => by
              have := hqk.out.2 h
              cases this
            have Hnk := Lib.hid hnk
            have Hr := Lib.hid (Hkq.out.2 hnk)
            have Hdd : Hid (destF k cur kept = toF k kept 0 0 (cutF (idxF k cur) cur)) := rfl
            obtain ⟨f, hf⟩ : ∃ f, idxF k cur = f := ⟨_, rfl⟩
            obtain ⟨d, hd⟩ : ∃ d, destF k cur kept = d := ⟨_, rfl⟩
            rw [hf] at Hr Hix Hdd hfl
            rw [hd] at Hr Hdd hdl
            have hcn := cloneI A0 c0 (ints cur) wr (by rw [lenI, Hcl.out]; omega) hIc.out
            rw [lenI, Hcl.out] at hcn
            have Hcn := Lib.hid hcn
            clear hnk hct Hkq hqk hf hd hcn
            go_wp2_with fail
            refine Hix.out.mono ?_
            rintro e w4 ⟨rfl, rfl⟩
            clear Hix
            go_wp2_with fail
            refine Hcn.out.mono ?_
            rintro e w5 ⟨v5, rfl, hO5, he5⟩
            have hdel := Lib.hid (deleteI wr.heap.size v5 (ints cur) w5 hO5 (by rw [lenI, Hcl.out]; omega) f (by rw [lenI, Hcl.out]; exact hfl))
            clear Hcn
            go_wp2_with fail
            refine hdel.out.mono ?_
            rintro e w6 ⟨v6, rfl, hO6, -, hg6⟩
            have he6 : Ext wr w6 := ext_grownL he5 hg6 fun k hk => (hO5.own_lt k hk).1
            have hci : (ints cur).take f ++ (ints cur).drop (f + 1) = ints (cutF f cur) := Mended.cut_ints (by rw [Hcl.out]; exact hfl)
            rw [hci] at hO6
            obtain ⟨rest, hre⟩ : ∃ rest, cutF f cur = rest := ⟨_, rfl⟩
            rw [hre] at hO6 Hdd
            have hrn : rest.length + 1 = l.length := by
              rw [← hre, Mended.cut_len (by rw [Hcl.out]; exact hfl), Hcl.out]; omega
            obtain ⟨rn, hrl⟩ : ∃ rn, rest.length = rn := ⟨_, rfl⟩
            obtain ⟨A6, c6, rfl, -, -, hI6, -, -⟩ := hO6.open_
            rw [lenI, hrl] at hO6 ⊢
            rw [hrl] at hrn
            have HI6 := Lib.hid hI6
            have Hrl := Lib.hid hrl
            have He6 := Lib.hid he6
            clear hdel hO5 he5 hO6 hg6 he6 hci hre hrl hI6
            go_wp2_with fail
            go_loopw [11, 55] (fun tv iv wz => ∃ i tq : Nat, i ≤ rn ∧ iv = .int .i64 (i : Int) ∧ tv = .int .i64 (tq : Int) ∧ tq ≤ i ∧ Hid (toF k kept i tq (rest.drop i) = d) ∧ w6 = wz) (fun _ iv _ => rn - (intOf iv).toNat)
            case atStart => exact ⟨0, 0, by omega, rfl, rfl, by omega, Lib.hid Hdd.out.symm, by trivial⟩
            case round =>
              obtain ⟨i, tq, hi', rfl, rfl, hto, htf, rfl⟩ := hrel
              by_cases hlti : i < rn
              · -- <<D
                obtain ⟨b6, o6, e6, cx⟩ := HI6.out.atN (k := i) (by rw [Hrl.out]; exact hlti)
                subst e6
                have hst := @Mended.toF_step k kept rest i tq (by rw [Hrl.out]; exact hlti)
                rw [htf.out] at hst
                obtain ⟨x, hx⟩ : ∃ x, atN rest i = x := ⟨_, rfl⟩
                rw [hx] at cx hst
                have Hst := Lib.hid hst
                clear hst hx
                by_cases hxk : x < k
                · have hd1 : decide ((x : Int) < (k : Int)) = true := by simp; omega
                  obtain ⟨q2, hq2⟩ : ∃ q, (ints kept).contains (x : Int) = q := ⟨_, rfl⟩
                  have hct := Lib.hid (contains_any (x : Int) A5 c5 n5 (ints kept) (by rw [lenI, hkn.out]) q2 hq2 w6 (by rw [lenI, hkn.out]; unfold maxLen; omega) (HIk.out.ext He6.out))
                  have hqk : Hid (q2 = true ↔ x ∈ kept) := by
                    unfold Hid
                    rw [← hq2, List.contains_iff_mem, memNat]
                  clear hq2
                  go_wp2_with fail
                  refine hct.out.mono ?_
                  rintro e w7 ⟨rfl, rfl⟩
                  cases q2 with
                  | true =>
                    go_wp2_with fail
                    go_roundw
                    case rel => exact ⟨i + 1, i + 1, by omega, by go_num, by go_num, by omega, by
                      have := Hst.out
                      rw [if_pos ⟨hxk, hqk.out.1 (by trivial)⟩] at this
                      exact this.symm, by trivial⟩
                    case measure => simp [intOf]; omega
                  | false =>
                    go_wp2_with fail
                    go_roundw
                    case rel => exact ⟨i + 1, tq, by omega, by go_num, rfl, by omega, by
                      have := Hst.out
                      rw [if_neg (fun h => by have := hqk.out.2 h.2; cases this)] at this
                      exact this.symm, by trivial⟩
                    case measure => simp [intOf]; omega
                · have hd1 : decide ((x : Int) < (k : Int)) = false := by simp; omega
                  go_wp2_with fail
                  go_roundw
                  case rel => exact ⟨i + 1, tq, by omega, by go_num, rfl, by omega, by
                    have := Hst.out
                    rw [if_neg (fun h => hxk h.1)] at this
                    exact this.symm, by trivial⟩
                  case measure => simp [intOf]; omega
                -- >>
              · -- <<F
                obtain rfl : i = rn := by omega
                have htd : tq = d := by
                  have := htf.out
                  rw [← Hrl.out] at this
                  rwa [Mended.toF_end] at this
                subst htd
                obtain ⟨qb, hqb⟩ : ∃ qb, decide (f ≠ tq) = qb := ⟨_, rfl⟩
                have hne := neq_move f tq (by omega) (by omega)
                rw [hqb] at hne
                have Hqb : Hid (qb = true ↔ f ≠ tq) := by unfold Hid; rw [← hqb, decide_eq_true_eq]
                have hX := Ext.alloc w6 (.cells #[.int .i64 (f : Int), .int .i64 (tq : Int)] 113)
                have hB := Blk.new w6 113 #[.int .i64 (f : Int), .int .i64 (tq : Int)]
                obtain ⟨k0, k1⟩ := hB.c2
                clear hqb
                go_upto_if 78 with fail
                have heX := He6.out.trans hX
                have hwr6 := He6.out.size
                obtain ⟨O, hOe⟩ : ∃ O, w6.heap.size = O := ⟨_, rfl⟩
                rw [hOe] at hB k0 k1 hwr6 ⊢
                have HOk := Lib.hid (hOk.out.ext heX)
                have HOm := Lib.hid (ownsRow_ext2 hOm.out heX)
                have HIc := Lib.hid (hIc.out.ext heX)
                have HB := Lib.hid hB
                have HEx := Lib.hid (hE.out.trans heX)
                have HmO : Hid (∀ j, (Value.slice A8 n8 c8).ownBlock = some j → w2.heap.size ≤ j ∧ j < O) := fun j hj => by
                  have := ownsRow_own hOm.out j hj
                  omega
                clear hne hX hB hOe heX
                generalize w6.alloc _ = w7 at *
                go_cut [8] (fun mv wx => ∃ ms' n9 A9 c9, mv = .slice A9 n9 c9 ∧ n9 ≤ k + 1 ∧ Hid (ms' = ms ++ if f = tq then [] else [(f, tq)]) ∧ Hid (ms'.length = n9) ∧ Hid (wx.ownsRow w2.heap.size 113 2 (.slice A9 n9 c9) n9 (mvFlat ms')) ∧ Hid (OwnI wx w2.heap.size 3 (.slice A5 n5 c5) (ints kept)) ∧ Hid (IntsAt wx A0 (ints cur)) ∧ Hid (Blk wx O 113 #[.int .i64 (f : Int), .int .i64 (tq : Int)]) ∧ Hid (Ext w2 wx))
                case first =>
                  -- <<G
                  cases qb with
                  | false =>
                    have hft : Hid (ms = ms ++ if f = tq then [] else [(f, tq)]) := by
                      have : f = tq := Decidable.byContradiction fun h => by have := Hqb.out.2 h; cases this
                      unfold Hid
                      rw [if_pos this, List.append_nil]
                    go_wp2_with fail
                    go_meet
                    exact ⟨ms, n8, A8, c8, rfl, by omega, hft, hmn, HOm, HOk, HIc, HB, HEx⟩
                  | true =>
                    have hft : Hid (ms ++ [(f, tq)] = ms ++ if f = tq then [] else [(f, tq)]) := by
                      have : f ≠ tq := Hqb.out.1 (by trivial)
                      unfold Hid
                      rw [if_neg this]
                    have hX := Ext.alloc w7 (.cells #[.int .i64 (f : Int), .int .i64 (tq : Int)] 113)
                    have hsrc := Src.listL w7 [.int .i64 (f : Int), .int .i64 (tq : Int)] 113
                    have o1 := ownsRow_ext2 HOm.out hX
                    have hsz := (HEx.out.trans hX).size
                    have hfin : Hid (∀ v' w', w'.ownsRow w2.heap.size 113 2 v' (n8 + 1) (mvFlat ms ++ [.int .i64 (f : Int), .int .i64 (tq : Int)]) → (w7.alloc (.cells #[.int .i64 (f : Int), .int .i64 (tq : Int)] 113)).grownBy w' (Value.slice A8 n8 c8).ownBlock →
                        w'.ownsRow w2.heap.size 113 2 v' (n8 + 1) (mvFlat (ms ++ [(f, tq)])) ∧ OwnI w' w2.heap.size 3 (.slice A5 n5 c5) (ints kept) ∧ IntsAt w' A0 (ints cur) ∧ Blk w' O 113 #[.int .i64 (f : Int), .int .i64 (tq : Int)] ∧ Ext w2 w') := fun v' w' h hg => by
                      refine ⟨by rw [mvFlat_append]; exact h, (HOk.out.ext hX).grownT (by decide) hg o1, (HIc.out.ext hX).grownBy hg hf8.out, (HB.out.ext hX).grown hg (fun e => by have := (HmO.out O e.symm).2; omega), ext_grownL (HEx.out.trans hX) hg fun j hj => (HmO.out j hj).1⟩
                    have O1 := o1
                    clear hX
                    go_wp2_with (at_builtin; refine wpList_app rfl _ _ 66 rfl w2.heap.size 113 ti2 (.agg #[.int .i64 0, .int .i64 0]) 2 16 Try.underlying66 hi2 hy0 hy1 hy2 rfl (by decide) (.slice A8 n8 c8) n8 _ rfl o1 (some ⟨w7.heap.size, 0, none⟩) 1 1 [.int .i64 (f : Int), .int .i64 (tq : Int)] rfl rfl hsrc ?c2 ?c3 ?c4 ?c5 ?_; (case c2 => (intro u hu; simp only [List.mem_cons, List.not_mem_nil, or_false] at hu; rcases hu with rfl | rfl <;> rfl)); (case c3 => (unfold maxLen; omega)); (case c4 => omega); (case c5 => omega); intro v' w12 hown hg hblk; obtain ⟨f1, f2, f3, f4, f5⟩ := hfin.out v' w12 hown hg; obtain ⟨A9, c9, rfl⟩ := ownsRow_slice hown; have F1 := Lib.hid f1; have F2 := Lib.hid f2; have F3 := Lib.hid f3; have F4 := Lib.hid f4; have F5 := Lib.hid f5; clear f1 f2 f3 f4 f5 hsrc o1 O1 hown)
                    go_meet
                    exact ⟨ms ++ [(f, tq)], n8 + 1, _, _, rfl, by omega, hft, by unfold Hid; rw [List.length_append, hmn.out]; rfl, F1, F2, F3, F4, F5⟩
                  -- >>
                case rest =>
                  -- <<H
                  clear HOk HOm HIc HB HEx HmO hOk hOm hIc hE hf5 hf8 hmn Hqb k0 k1
                  obtain ⟨ms', n9, A9, c9, rfl, hn9, hms, hmn, hOm, hOk, hIc, hB, hE⟩ := hcut
                  obtain ⟨k0, k1⟩ := hB.out.c2
                  have hmd := madeL_any A0 c0 cur (by have := Hcl.out; omega) f tq (by rw [Hcl.out]; exact hfl) (by rw [Hcl.out]; exact hdl) wc hIc.out
                  rw [Hcl.out] at hmd
                  have Hmd := Lib.hid hmd
                  have hmp := Mended.madeF_perm (l := cur) (a := f) (b := tq) (by rw [Hcl.out]; exact hfl) (by rw [Hcl.out]; exact hdl)
                  have hres : Hid (ms' ++ mendR (l.length - (k + 1)) (k + 1) (madeF cur (f, tq)) (kept ++ [k]) = mendF l) := by unfold Hid; rw [hms.out]; exact Hr.out
                  obtain ⟨nxt, hnx⟩ : ∃ nxt, madeF cur (f, tq) = nxt := ⟨_, rfl⟩
                  rw [hnx] at Hmd hmp hres
                  have hnp : Hid (nxt.Perm l) := hmp.trans hcp.out
                  have hnl : Hid (nxt.length = l.length) := by unfold Hid; rw [hmp.length_eq]; exact Hcl.out
                  clear hmd hmp hnx hms
                  go_wp2_with fail
                  refine Hmd.out.mono ?_
                  rintro e w8 ⟨v8, rfl, hO8, he8⟩
                  obtain ⟨A1, c1, rfl, -, -, -, hb8, -⟩ := hO8.open_
                  rw [lenI, hnl.out] at hO8 ⊢
                  have hX := Ext.alloc w8 (.cells #[.int .i64 (k : Int)] 3)
                  have hsrc := Src.one w8 (.int .i64 (k : Int)) 3
                  have o1 := OwnI.row (hOk.out.ext (he8.trans hX)) hkn.out
                  have hI8 := hO8.at_.ext hX
                  have hfar : FarA A1 (.slice A5 n5 c5) := fun ad e e2 => by
                    have h1 := (hb8 ad e).1
                    have h2 := (hOk.out.own_lt _ e2).2
                    omega
                  have hfar9 : Hid (FarA A1 (.slice A9 n9 c9)) := fun ad e e2 => by
                    have h1 := (hb8 ad e).1
                    have h2 := (ownsRow_own hOm.out _ e2).2
                    omega
                  have hE8 := hE.out.trans (he8.trans hX)
                  have hsz := hE8.size
                  have hm8 := ownsRow_ext2 hOm.out (he8.trans hX)
                  have hfin : Hid (∀ v' w', w'.ownsRow w2.heap.size 3 1 v' (n5 + 1) ((ints kept).map (Value.int .i64) ++ [.int .i64 (k : Int)]) → (w8.alloc (.cells #[.int .i64 (k : Int)] 3)).grownBy w' (Value.slice A5 n5 c5).ownBlock → (v'.ownBlock = (Value.slice A5 n5 c5).ownBlock ∨ v'.ownBlock = some (w8.alloc (.cells #[.int .i64 (k : Int)] 3)).heap.size) →
                      OwnI w' w2.heap.size 3 v' (ints (kept ++ [k])) ∧ IntsAt w' A1 (ints nxt) ∧ FarA A1 v' ∧ w'.ownsRow w2.heap.size 113 2 (.slice A9 n9 c9) n9 (mvFlat ms') ∧ Ext w2 w') := fun v' w' h hg hv => by
                    refine ⟨OwnI.push h hkn.out, hI8.grownBy hg hfar, hfar.grown hI8 (by rw [lenI, hnl.out]; omega) hv, row_grownT hm8 (by decide) hg o1, ext_grownL hE8 hg fun j hj => (hOk.out.own_lt j hj).1⟩
                  clear Hmd hO8 hb8 hE8 hm8 hX hI8 hfar
                  go_wp2_with (at_builtin; refine wpList_app rfl _ _ 28 rfl w2.heap.size 3 ti (.int .i64 0) 1 8 Try.underlying28 hi hz0 hz1 hz2 rfl (by decide) (.slice A5 n5 c5) n5 _ rfl o1 (some ⟨w8.heap.size, 0, none⟩) 1 1 [.int .i64 (k : Int)] rfl rfl hsrc ?c2 ?c3 ?c4 ?c5 ?_; (case c2 => (intro u hu; rw [List.mem_singleton] at hu; subst hu; rfl)); (case c3 => (unfold maxLen; omega)); (case c4 => omega); (case c5 => omega); intro v' w11 hown hg hblk; obtain ⟨f1, f2, f3, f4, f5⟩ := hfin.out v' w11 hown hg hblk; obtain ⟨A7, c7, rfl⟩ := ownsRow_slice hown; have F1 := Lib.hid f1; have F2 := Lib.hid f2; have F3 := Lib.hid f3; have F4 := Lib.hid f4; have F5 := Lib.hid f5; clear f1 f2 f3 f4 f5 hsrc o1 hown)
                  go_roundw
                  case rel => exact ⟨k + 1, nxt, kept ++ [k], ms', A1, c1, n5 + 1, A7, c7, n9, A9, c9, by omega, by go_num, rfl, rfl, rfl, by omega, by omega, hnp, F2, by unfold Hid; rw [List.length_append, hkn.out]; rfl, F1, F4, hmn, F3, hfar9, hres, F5⟩
                  case measure => simp [intOf]; omega
                  -- >>
                -- >>
          -- >>
        · obtain rfl : k = l.length := by omega
          have hms : Hid (ms = mendF l) := by
            have := hres.out
            rw [Nat.sub_self] at this
            unfold Hid
            rw [← this]
            show ms = ms ++ []
            rw [List.append_nil]
          go_wp2_with fail
          go_ret2
          refine ⟨_, rfl, ?_, hE2.trans hE.out⟩
          rw [← hms.out]
          unfold OwnMv
          rw [hmn.out]
          exact ownsRow_mono hOm.out hw2
      -- >>
end Go.Proofs.Pet

namespace Go.Proofs.Pet
set_option linter.unusedSimpArgs false
open Go Go.RowKit Go.Maps Go.Shelf

/-- a mill being made: w0 is the world at first, b the spool's block, R the result's, M the mill's -/
structure MkS (w0 : World) (b R M B0 : Nat) (la : List Int) (ch : Int) (os : List Ord) (k : Nat) (v1 v2 : Value) (W : World) : Prop where
  ap : Apart b w0 W
  sp : SpoolAt W b k
  br : Blk W R 64 zeroM
  bm : Blk W M 64 #[v1, .int .i64 ch, v2]
  o1 : OwnI W B0 3 v1 la
  o2 : OwnOB W B0 v2 os
  lt : b < w0.heap.size ∧ w0.heap.size ≤ R ∧ R < M ∧ M < B0
section
variable {w0 W W' : World} {b R M B0 k k' : Nat} {la : List Int} {ch : Int} {os : List Ord} {v1 v2 : Value}
theorem MkS.turn (h : MkS w0 b R M B0 la ch os k v1 v2 W) (ha : Apart b W W') (hs : SpoolAt W' b k') : MkS w0 b R M B0 la ch os k' v1 v2 W' := by
  obtain ⟨h1, h2, h3, h4, h5, h6, g1, g2, g3, g4⟩ := h
  exact ⟨h1.trans ha, hs, h3.apart (by omega) ha, h4.apart (by omega) ha, h5.apartB (by omega) ha, h6.apart (by omega) ha, g1, g2, g3, g4⟩
theorem MkS.ext (h : MkS w0 b R M B0 la ch os k v1 v2 W) (he : Ext W W') : MkS w0 b R M B0 la ch os k v1 v2 W' := h.turn (Apart.of_ext he) (h.sp.ext he)
theorem Apart.grown {w1 : World} {v : Value} (h : Apart b w0 w1) (hg : w1.grownBy W' v.ownBlock) (hr : ∀ j, v.ownBlock = some j → w0.heap.size ≤ j) : Apart b w0 W' := by
  obtain ⟨g1, g2, g3, g4, g5⟩ := h
  refine ⟨hg.os.trans g1, hg.tape.trans g2, hg.output.trans g3, Nat.le_trans g4 hg.size, fun j hj hne => ?_⟩
  rw [hg.block j (by omega) (fun e => by have := hr j e.symm; omega)]
  exact g5 j hj hne
theorem SpoolAt.grown {v : Value} (h : SpoolAt W b k) (hg : W.grownBy W' v.ownBlock) (hr : ∀ j, v.ownBlock = some j → b < j) : SpoolAt W' b k := by
  obtain ⟨A, n, c, st, a, h1, h2, h3, h4, h5⟩ := h
  refine ⟨A, n, c, st, a, h1.grown hg (fun e => by have := hr b e.symm; omega), h2, h3, h4, fun j hj => ?_⟩
  obtain ⟨b', o, u, rfl, g2, g3⟩ := h5 j hj
  refine ⟨b', o, u, rfl, g2, ?_⟩
  have hlt := cell_lt g3
  unfold World.cell? at g3 ⊢
  rw [hg.block b' hlt (fun e => by have := hr b' e.symm; omega)]
  exact g3
theorem MkS.monoK (h : MkS w0 b R M B0 la ch os k v1 v2 W) (hk : k ≤ k') : MkS w0 b R M B0 la ch os k' v1 v2 W := h.turn (Apart.refl _ _) (h.sp.mono hk)
theorem Src.list (w : World) (cs : List Value) (t : TypeId) : Src (w.alloc (.cells cs.toArray t)) (some ⟨w.heap.size, 0, none⟩) cs := .inr ⟨_, rfl, fun j u hj => by
  have hb := Blk.new w t cs.toArray
  have e : (⟨w.heap.size, 0, none⟩ : Addr).add j = ⟨w.heap.size, j, none⟩ := by rw [addr_add]; simp
  rw [e, hb.cell, List.getElem?_toArray]
  exact hj⟩
theorem MkS.pushL {v1' : Value} {x : Int} (h : MkS w0 b R M B0 la ch [] k v1 (.slice none 0 0) W) (hown : W'.ownsRow B0 3 1 v1' (la.length + 1) (la.map (Value.int .i64) ++ [.int .i64 x])) (hg : W.grownBy W' v1.ownBlock) :
    W'.cell? ⟨M, 0, none⟩ = some v1 ∧ W'.frozen? ⟨M, 0, none⟩ = false ∧ MkS w0 b R M B0 (la ++ [x]) ch [] k v1' (.slice none 0 0) (W'.setCell ⟨M, 0, none⟩ v1') := by
  obtain ⟨h1, h2, h3, h4, h5, h6, g1, g2, g3, g4⟩ := h
  have hge : ∀ j, v1.ownBlock = some j → B0 ≤ j := fun j hj => (h5.own_lt j hj).1
  have hM := h4.grown hg (fun e => by have := hge M e.symm; omega)
  have hR := h3.grown hg (fun e => by have := hge R e.symm; omega)
  have h2' := h2.grown hg (fun j hj => by have := hge j hj; omega)
  have hO : OwnI W' B0 3 v1' (la ++ [x]) := by
    unfold OwnI; rw [List.length_append, List.map_append]; exact hown
  refine ⟨hM.c3.1, hM.frozen 0, ((h1.grown hg (fun j hj => by have := hge j hj; omega)).above (by show w0.heap.size ≤ M; omega) _), h2'.apart (by omega : b < M) ((Apart.refl M W').set_ 0 v1'), hR.far (by show R ≠ M; omega) _, by simpa using hM.set_ 0 v1', hO.far hM (by decide) 0 v1', OwnOB.nil _ _, g1, g2, g3, g4⟩
theorem MkS.pushO {v2' s : Value} {cs : List Value} {x : Ord} (h : MkS w0 b R M B0 la ch os k v1 v2 W) (o1 : W.ownsRow B0 107 4 v2 os.length cs) (o2 : OrdOwn W B0 cs os) (hs : OwnI W B0 3 s x.on)
    (hown : W'.ownsRow B0 107 4 v2' (os.length + 1) (cs ++ [.int .i64 x.pattern, .int .i64 x.days, .int .i64 x.by_, s])) (hg : W.grownBy W' v2.ownBlock) :
    W'.cell? ⟨M, 2, none⟩ = some v2 ∧ W'.frozen? ⟨M, 2, none⟩ = false ∧ MkS w0 b R M B0 la ch (os ++ [x]) k v1 v2' (W'.setCell ⟨M, 2, none⟩ v2') := by
  obtain ⟨h1, h2, h3, h4, h5, h6, g1, g2, g3, g4⟩ := h
  have hge : ∀ j, v2.ownBlock = some j → B0 ≤ j := fun j hj => (ownsRow_own o1 j hj).1
  have hM := h4.grown hg (fun e => by have := hge M e.symm; omega)
  have hR := h3.grown hg (fun e => by have := hge R e.symm; omega)
  have h2' := h2.grown hg (fun j hj => by have := hge j hj; omega)
  have hO := OwnOB.push o1 o2 hs hown hg
  have hL := h5.grownT (by decide) hg o1
  refine ⟨hM.c3.2.2, hM.frozen 2, ((h1.grown hg (fun j hj => by have := hge j hj; omega)).above (by show w0.heap.size ≤ M; omega) _), h2'.apart (by omega : b < M) ((Apart.refl M W').set_ 2 v2'), hR.far (by show R ≠ M; omega) _, by simpa using hM.set_ 2 v2', hL.far hM (by decide) 2 v2', hO.far hM (by decide) (.inl (by decide)) 2 v2', g1, g2, g3, g4⟩
end
set_option maxRecDepth 100000 in
set_option maxHeartbeats 4000000 in
theorem madeS_any (b k : Nat) (hk : k ≤ 1000) (looms orders : Int) (hl : 1 ≤ looms ∧ looms ≤ 3) (ho : 0 ≤ orders ∧ orders ≤ 7) (w : World) (hs : SpoolAt w b k) :
    Calls Try.prog 17 #[.pointer (some ⟨b, 0, none⟩), .int .i64 looms, .int .i64 orders] w fun e w' => ∃ v m, e = .returned v ∧ MillVal w' v m ∧ MillOk m ∧ m.laced.length ≤ looms ∧ m.orders.length ≤ orders ∧ SpoolAt w' b 2000 ∧ Apart b w w' := by
  obtain ⟨ti, hi, hz0, hz1, hz2⟩ := info_parts info_int
  obtain ⟨ti2, hi2, hy0, hy1, hy2⟩ := info_parts info_order
  have hR := Blk.new w 64 zeroM
  have hX := Ext.alloc w (.cells zeroM 64)
  have hsp := hs.ext hX
  have hbl := hs.lt
  have hup := Lib.hid (upto_any b k (by omega) 3 (by omega) 3 (by omega) _ hsp)
  clear hsp
  go_enter Try.func17, Try.ntmps17
  go_wp2_with fail
  refine hup.out.mono ?_
  rintro e w1 ⟨ch, rfl, hc1, hc2, hs1, ha1⟩
  clear hup
  have hszA := ha1.size
  rw [World.size_alloc] at hszA
  have hX1 := Ext.alloc w1 (.cells #[.slice none 0 0, .int .i64 ch, .slice none 0 0] 64)
  have hM := Blk.new w1 64 #[.slice none 0 0, .int .i64 ch, .slice none 0 0]
  have hap := (Apart.of_ext (b := b) hX).trans ha1
  have hS : MkS w b w.heap.size w1.heap.size (w1.heap.size + 1) [] ch [] (k + 1) (.slice none 0 0) (.slice none 0 0) (w1.alloc (.cells #[.slice none 0 0, .int .i64 ch, .slice none 0 0] 64)) :=
    ⟨hap.trans (Apart.of_ext hX1), hs1.ext hX1, (hR.apart (by omega) ha1).ext hX1, hM, OwnI.nil _ _ _, OwnOB.nil _ _, hbl, Nat.le_refl _, by omega, by omega⟩
  have hfr := Lib.hid (from_any b (k + 1) (by omega) 1 looms (by omega) looms (by omega) _ hS.sp)
  clear hap hM hR ha1 hX
  go_wp2_with fail
  obtain ⟨R, hR⟩ : ∃ R, w.heap.size = R := ⟨_, rfl⟩
  obtain ⟨M, hM⟩ : ∃ M, w1.heap.size = M := ⟨_, rfl⟩
  rw [hR, hM] at hS
  rw [hM]
  have hRw : w.heap.size ≤ R := by omega
  generalize hW2 : w1.alloc _ = W2 at *
  refine hfr.out.mono ?_
  rintro e w3 ⟨L, rfl, hL1, hL2, hs3, ha3⟩
  have hS := hS.turn ha3 hs3
  have hR' := Lib.hid hR; have hM' := Lib.hid hM
  clear hfr hs3 ha3 hs1 hX1 hR hM hW2 hszA
  obtain ⟨Ln, rfl⟩ : ∃ Ln : Nat, L = (Ln : Int) := ⟨L.toNat, by omega⟩
  go_wp2_with fail
  go_loopw [17] (fun iv wr => ∃ i : Nat, ∃ la v1, i ≤ Ln ∧ iv = .int .i64 i ∧ la.length = i ∧ Hid (∀ x, x ∈ la → (-1 : Int) ≤ x ∧ x ≤ 9) ∧ Hid (MkS w b R M (M + 1) la ch [] (k + 2 + i) v1 (.slice none 0 0) wr)) (fun iv _ => Ln - (intOf iv).toNat)
  case atStart => exact ⟨0, [], _, by omega, rfl, rfl, fun x hx => by simp at hx, Lib.hid hS⟩
  case round =>
    clear hS
    obtain ⟨i, la, v1, hi', rfl, hla, hlx, hS⟩ := hrel
    subst hla
    by_cases hlt : la.length < Ln
    · obtain ⟨A1, c1, rfl, g1, g2, g3, g4, g5⟩ := hS.out.o1.open_
      obtain ⟨k0, k1, k2⟩ := hS.out.bm.c3
      clear g3 g4 g5
      have hszM := hS.out.bm.lt
      go_wp2_with fail
      refine wp_region_chainG (fun W => W.cell? ⟨M, 0, none⟩ = some (.slice A1 la.length c1)) (k0) 6 [(3, true), (4, true), (5, false)] [] (by kernel_rfl) (by kernel_rfl) (by kernel_rfl) ?_
      simp only [List.take, List.drop, fill, Act.put, List.setIfInBounds_toArray, List.set_cons_zero, List.set_cons_succ, Nat.reduceAdd]
      repeat (first
        | refine Floats.mut rfl ?_
        | (apply Floats.float rfl
           · intro x W he hd K Q hK
             try (have he := he (by decide); have k0 : W.cell? _ = some _ := he)
             try simp only [edges, DepsE, List.filter_cons, List.filter_nil, Region.binds, if_true, and_true, true_and, upd, Nat.reduceEqDiff, if_false] at hd
             try simp only [hd] at hK ⊢
             have HK := Lib.hid hK; clear hK
             go_wp2_with fail
             exact HK.out))
      refine Floats.done fun W he hG => ?_
      have hS1 := hS.out.ext he
      have hfr := Lib.hid (from_any b _ (by omega) (-1) 3 (by omega) 3 (by omega) W hS1.sp)
      clear hG
      refine Chain.cons _ rfl ?_
      intro x hd K Q hK
      try simp only [edges, DepsE, List.filter_cons, List.filter_nil, Region.binds, if_true, and_true, true_and, upd, Nat.reduceEqDiff, if_false] at hd
      try simp only [hd] at hK ⊢
      clear hd
      have HK := Lib.hid hK; clear hK
      go_wp2_with fail
      refine hfr.out.mono ?_
      rintro e w4 ⟨xv, rfl, hx1, hx2, hs4, ha4⟩
      have hS2 := hS1.turn ha4 hs4
      clear hfr hS1 ha4 hs4
      go_wp2_with fail
      refine HK.out _ _ (fun _ => hS2.bm.c3.1) ?_
      clear HK
      refine Chain.cons _ rfl ?_
      intro x hd K Q hK
      try simp only [edges, DepsE, List.filter_cons, List.filter_nil, Region.binds, if_true, and_true, true_and, upd, Nat.reduceEqDiff, if_false] at hd
      try simp only [hd] at hK ⊢
      clear hd
      have HK := Lib.hid hK; clear hK
      have hb5 := Ext.alloc w4 (.cells #[.int .i64 xv] 3)
      have hS3 := hS2.ext hb5
      have hsrc := Src.one w4 (.int .i64 xv) 3
      go_wp2_with fail
      refine HK.out _ _ (fun _ => hS3.bm.c3.1) ?_
      clear HK
      refine Chain.cons _ rfl ?_
      intro x hd K Q hK
      try simp only [edges, DepsE, List.filter_cons, List.filter_nil, Region.binds, if_true, and_true, true_and, upd, Nat.reduceEqDiff, if_false] at hd
      try simp only [hd] at hK ⊢
      clear hd
      have HK := Lib.hid hK; clear hK
      have hsz5 := hS3.bm.lt
      refine wpList_app rfl _ _ 28 rfl (M + 1) 3 ti (.int .i64 0) 1 8 Try.underlying28 hi hz0 hz1 hz2 rfl (by decide) (.slice A1 la.length c1) la.length _ rfl hS3.o1 (some ⟨w4.heap.size, 0, none⟩) 1 _ [.int .i64 xv] rfl rfl hsrc (fun u hu => by rw [List.mem_singleton] at hu; subst hu; rfl) (by simp only [maxLen]; omega) (by omega) (by omega) ?_
      intro v' w5 hown hg hblk
      obtain ⟨q0, q1, hS6⟩ := hS3.pushL hown hg
      have HS6 := Lib.hid hS6; clear hS6
      obtain ⟨A9, c9, rfl⟩ := ownsRow_slice hown
      refine HK.out _ _ (fun h => by cases h) ?_
      clear HK
      refine Chain.nil ?_
      simp only [upd, Nat.reduceEqDiff, if_false, if_true]
      go_wp2_with fail
      go_roundw
      case rel =>
        refine ⟨la.length + 1, la ++ [xv], _, by omega, by go_num, by simp, ?_, by rw [← Nat.add_assoc]; exact HS6⟩
        intro y hy
        rcases List.mem_append.1 hy with h | h
        · exact hlx.out y h
        · rw [List.mem_singleton] at h; subst h; omega
      case measure => simp [intOf]; omega
    · have hLe : la.length = Ln := by omega
      subst hLe
      have hfr := Lib.hid (from_any b _ (by omega) 6 24 (by omega) 24 (by omega) wr hS.out.sp)
      go_wp2_with fail
      refine hfr.out.mono ?_
      rintro e w4 ⟨by_, rfl, hb1, hb2, hs4, ha4⟩
      have hS4 := hS.out.turn ha4 hs4
      clear hfr hs4 ha4 hS
      have hup := Lib.hid (upto_any b _ (by omega) orders (by omega) orders (by omega) w4 hS4.sp)
      go_wp2_with fail
      refine hup.out.mono ?_
      rintro e w5 ⟨N, rfl, hN1, hN2, hs5, ha5⟩
      have hS5 := hS4.turn ha5 hs5
      clear hup hs5 ha5 hS4
      obtain ⟨Nn, rfl⟩ : ∃ Nn : Nat, N = (Nn : Int) := ⟨N.toNat, by omega⟩
      go_wp2_with fail
      go_loopw [32] (fun iv wr => ∃ i : Nat, ∃ os v2, i ≤ Nn ∧ iv = .int .i64 i ∧ os.length = i ∧ Hid (∀ o, o ∈ os → OrdOk la.length o) ∧ Hid (MkS w b R M (M + 1) la ch os (k + 20 + 20 * i) v1 v2 wr)) (fun iv _ => Nn - (intOf iv).toNat)
      case atStart => exact ⟨0, [], _, by omega, rfl, rfl, fun x hx => by simp at hx, Lib.hid (hS5.turn (Apart.refl _ _) (hS5.sp.mono (by omega)))⟩
      case round =>
        clear hS5
        obtain ⟨i, os, v2, hi', rfl, hos, hox, hS⟩ := hrel
        subst hos
        by_cases hlt : os.length < Nn
        · have hup := Lib.hid (upto_any b _ (by omega) 3 (by omega) 3 (by omega) wr hS.out.sp)
          go_wp2_with fail
          refine hup.out.mono ?_
          rintro e w6 ⟨pat, rfl, hp1, hp2, hs6, ha6⟩
          have hS6 := hS.out.turn ha6 hs6
          clear hup hs6 ha6 hS
          have hup := Lib.hid (from_any b _ (by omega) 1 6 (by omega) 6 (by omega) w6 hS6.sp)
          go_wp2_with fail
          refine hup.out.mono ?_
          rintro e w7 ⟨dy, rfl, hd1, hd2, hs7, ha7⟩
          have hS7 := hS6.turn ha7 hs7
          clear hup hs7 ha7 hS6
          have hup := Lib.hid (from_any b _ (by omega) 2 by_ (by omega) by_ (by omega) w7 hS7.sp)
          go_wp2_with fail
          refine hup.out.mono ?_
          rintro e w8 ⟨yy, rfl, hy8, hy9, hs8, ha8⟩
          have hS8 := hS7.turn ha8 hs8
          clear hup hs8 ha8 hS7
          have hX8 := Ext.alloc w8 (.cells #[.int .i64 pat, .int .i64 dy, .int .i64 yy, .slice none 0 0] 107)
          have hO8 := Blk.new w8 107 #[.int .i64 pat, .int .i64 dy, .int .i64 yy, .slice none 0 0]
          have hA8 : Apart b w8 _ := Apart.of_ext hX8
          have hsp8 := hS8.sp.ext hX8
          have hbs := hS8.bm.lt
          have hblt := hS8.lt
          obtain ⟨A1, c1, rfl, g1, g2, _, _, _⟩ := hS8.o1.open_
          obtain ⟨k0, k1, k2⟩ := (hS8.ext hX8).bm.c3
          go_wp2_with fail
          obtain ⟨O, hOe⟩ : ∃ O, w8.heap.size = O := ⟨_, rfl⟩
          rw [hOe] at hO8 ⊢
          generalize w8.alloc _ = W9 at *
          have HOe := Lib.hid hOe; clear hOe
          have HSe := Lib.hid hS8
          clear hX8 k0 k1 k2 hS8
          go_loopw [45] (fun iv wr => ∃ j : Nat, ∃ on v3, j ≤ la.length ∧ iv = .int .i64 j ∧ on.length ≤ j ∧ Hid (∀ x, x ∈ on → (0 : Int) ≤ x ∧ x < j) ∧ Hid (risingB on = true) ∧ Apart b w8 wr ∧ SpoolAt wr b (k + 20 + 20 * os.length + 1 + 1 + 1 + j) ∧ Blk wr O 107 #[.int .i64 pat, .int .i64 dy, .int .i64 yy, v3] ∧ OwnI wr (O + 1) 3 v3 on) (fun iv _ => la.length - (intOf iv).toNat)
          case atStart => exact ⟨0, [], _, by omega, rfl, Nat.le_refl _, fun x hx => by simp at hx, rfl, hA8, hsp8, hO8, OwnI.nil _ _ _⟩
          case round =>
            clear hA8 hsp8 hO8
            obtain ⟨j, on, v3, hj, rfl, honl, honr, honu, hA, hsp, hO, hon⟩ := hrel
            have hszO := hO.lt
            by_cases hltj : j < la.length
            · have hoc := Lib.hid (once_any b _ (by omega) 2 (by omega) wr hsp)
              go_wp2_with fail
              refine hoc.out.mono ?_
              rintro e w10 ⟨q, rfl, hs10, ha10⟩
              have hO := hO.apart (by have := HOe.out; omega) ha10
              have hon := hon.apartB (by have := HOe.out; omega) ha10
              have hA := hA.trans ha10
              have hsp := hs10
              clear hoc hs10 ha10
              cases q with
              | false =>
                go_wp2_with fail
                go_roundw
                case rel => exact ⟨j + 1, on, v3, by omega, by go_num, by omega, fun x hx => by have := honr.out x hx; omega, honu, hA, by rw [← Nat.add_assoc]; exact hsp, hO, hon⟩
                case measure => simp [intOf]; omega
              | true =>
                obtain ⟨A3, c3, rfl, r1, r2, r3, r4, r5⟩ := hon.open_
                obtain ⟨p0, p1, p2, p3⟩ := hO.c4
                have hX := Ext.alloc w10 (.cells #[.int .i64 j] 3)
                have hsrc := Src.one w10 (.int .i64 j) 3
                have honX := hon.ext hX
                have hOX := hO.ext hX
                have hszX := hOX.lt
                have hAX := hA.trans (Apart.of_ext hX)
                have hspX := hsp.ext hX
                have HonX := Lib.hid honX
                clear r3 r4 r5
                have hOe := HOe.out
                have hbO : b < O := by omega
                have Hon11 : ∀ v' w11, w11.ownsRow (O + 1) 3 1 v' (on.length + 1) (on.map (Value.int .i64) ++ [.int .i64 (j : Int)]) → (w10.alloc (.cells #[.int .i64 j] 3)).grownBy w11 (Value.slice A3 on.length c3).ownBlock →
                    Blk w11 O 107 #[.int .i64 pat, .int .i64 dy, .int .i64 yy, .slice A3 on.length c3] ∧ Apart b w8 (w11.setCell ⟨O, 3, none⟩ v') ∧ SpoolAt (w11.setCell ⟨O, 3, none⟩ v') b (k + 20 + 20 * os.length + 1 + 1 + 1 + j + 1) ∧ Blk (w11.setCell ⟨O, 3, none⟩ v') O 107 #[.int .i64 pat, .int .i64 dy, .int .i64 yy, v'] ∧ OwnI (w11.setCell ⟨O, 3, none⟩ v') (O + 1) 3 v' (on ++ [(j : Int)]) := by
                  intro v' w11 hown hg
                  have hge := fun g hg' => (HonX.out.own_lt g hg').1
                  have hO11 := hOX.grown hg (ownsRow_ne_blk honX hOX (by decide))
                  have hA11 := hAX.grown hg (fun g hg' => by have := hge g hg'; omega)
                  have hsp11 := hspX.grown hg (fun g hg' => by have := hge g hg'; omega)
                  have hon11 : OwnI w11 (O + 1) 3 v' (on ++ [(j : Int)]) := by unfold OwnI; rw [List.length_append, List.map_append]; exact hown
                  exact ⟨hO11, hA11.above (by show w8.heap.size ≤ O; omega) _, hsp11.apart hbO ((Apart.refl O w11).set_ 3 _), by simpa using hO11.set_ 3 v', hon11.far hO11 (by decide) 3 v'⟩
                have Hon12 := Lib.hid Hon11
                clear Hon11 hOe
                go_wp2_with (at_builtin; refine wpList_app rfl _ _ 28 rfl (O + 1) 3 ti (.int .i64 0) 1 8 Try.underlying28 hi hz0 hz1 hz2 rfl (by decide) (.slice A3 on.length c3) on.length _ rfl honX (some ⟨w10.heap.size, 0, none⟩) 1 1 [.int .i64 j] rfl rfl hsrc ?c2 ?c3 ?c4 ?c5 ?_; (case c2 => (intro u hu; rw [List.mem_singleton] at hu; subst hu; rfl)); (case c3 => (unfold maxLen; omega)); (case c4 => omega); (case c5 => omega); intro v' w11 hown hg hblk; obtain ⟨hO11, hrest⟩ := Hon12.out v' w11 hown hg; obtain ⟨A9, c9, rfl⟩ := ownsRow_slice hown; have Hrest := Lib.hid hrest; clear hrest hsrc; obtain ⟨z0, z1, z2, z3⟩ := hO11.c4; have zf := hO11.frozen 3)
                go_roundw
                case rel =>
                  refine ⟨j + 1, on ++ [(j : Int)], _, by omega, by go_num, by rw [List.length_append, List.length_singleton]; omega, ?_, ?_, Hrest.out⟩
                  · intro y hy
                    rcases List.mem_append.1 hy with h | h
                    · have := honr.out y h; omega
                    · rw [List.mem_singleton] at h; subst h; omega
                  · exact rising_snoc honu.out fun y hy => (honr.out y hy).2
                case measure => simp [intOf]; omega
            · obtain rfl : j = la.length := by omega
              have Honr := Lib.hid (show ∀ x, x ∈ on → (0 : Int) ≤ x ∧ x < (la.length : Int) from honr.out)
              have hz' : on.length = 0 ∨ ((on.length : Int) == 0) = false := by
                by_cases hz : on.length = 0
                · exact .inl hz
                · exact .inr (by simpa using hz)
              have Hz := Lib.hid hz'; clear hz'
              obtain ⟨A3, c3, rfl, r1, r2, r3, r4, r5⟩ := hon.open_
              have Hon := Lib.hid hon
              clear r3 r4 r5 hon
              obtain ⟨p0, p1, p2, p3⟩ := hO.c4
              have hla0 : ((la.length : Int) - 1) = ((la.length - 1 : Nat) : Int) := by omega
              have hup := Lib.hid (upto_any b _ (by omega) ((la.length : Int) - 1) (by omega) ((la.length : Int) - 1) (by omega) wr hsp)
              obtain ⟨k0, k1, k2⟩ := (HSe.out.turn hA hsp).bm.c3
              clear hla0
              have HS9 := Lib.hid HSe.out
              go_upto_if 60 with fail
              go_cut [] (fun wx => ∃ on v3, Hid (on ≠ [] ∧ on.length ≤ 3) ∧ Hid (∀ x, x ∈ on → (0 : Int) ≤ x ∧ x < (la.length : Int)) ∧ Hid (risingB on = true) ∧ Apart b w8 wx ∧ SpoolAt wx b (k + 20 + 20 * os.length + 10) ∧ Blk wx O 107 #[.int .i64 pat, .int .i64 dy, .int .i64 yy, v3] ∧ Hid (OwnI wx (O + 1) 3 v3 on))
              case first =>
                rcases Hz.out with hz | hz
                · have hnil : on = [] := List.length_eq_zero_iff.1 hz
                  subst hnil
                  go_wp2_with fail
                  refine hup.out.mono ?_
                  rintro e w10 ⟨r, rfl, hr1, hr2, hs10, ha10⟩
                  have hO := hO.apart (by have := HOe.out; omega) ha10
                  have hA := hA.trans ha10
                  have hX := Ext.alloc w10 (.cells #[.int .i64 r] 3)
                  have hb10 := Blk.new w10 3 #[.int .i64 r]
                  have hOX := hO.ext hX
                  obtain ⟨z0, z1, z2, z3⟩ := hOX.c4
                  have zf := hOX.frozen 3
                  have hA := (hA.trans (Apart.of_ext hX)).above (p := ⟨O, 3, none⟩) (by show w8.heap.size ≤ O; have := HOe.out; omega) (.slice (some ⟨w10.heap.size, 0, none⟩) 1 1)
                  have hsp := (hs10.ext hX).apart (by have := HOe.out; omega : b < O) ((Apart.refl O _).set_ 3 (.slice (some ⟨w10.heap.size, 0, none⟩) 1 1))
                  have hszO := hO.lt
                  have hO2 := hOX.set_ 3 (.slice (some ⟨w10.heap.size, 0, none⟩) 1 1)
                  have hon2 : OwnI ((w10.alloc (.cells #[.int .i64 r] 3)).setCell ⟨O, 3, none⟩ (.slice (some ⟨w10.heap.size, 0, none⟩) 1 1)) (O + 1) 3 (.slice (some ⟨w10.heap.size, 0, none⟩) 1 1) [r] :=
                    OwnI.far (xs := [r]) ⟨by simp [maxLen], .inr ⟨_, 1, _, rfl, by omega, hb10, Nat.le_refl _, by simp [maxLen], rfl, rfl⟩⟩ hOX (by decide) 3 _
                  rw [World.setCell_alloc_past _ _ _ _ hszO] at hA hsp hO2 hon2
                  have hrg : Hid (∀ x, x ∈ [r] → (0 : Int) ≤ x ∧ x < (la.length : Int)) := fun x hx => by rw [List.mem_singleton] at hx; subst hx; omega
                  have Hon2 := Lib.hid hon2
                  clear hup hs10 ha10 p0 p1 p2 p3 k0 k1 k2 hO hOX hX hb10 hon2
                  go_wp2_with fail
                  go_meet
                  exact ⟨[r], _, by unfold Hid; simp, hrg, rfl, hA, hsp.mono (by omega), hO2, Hon2⟩
                · go_wp2_with fail
                  go_meet
                  exact ⟨on, _, by unfold Hid; refine ⟨fun h => ?_, by omega⟩; subst h; simp at hz, Honr, honu, hA, hsp.mono (by omega), hO, Hon⟩
              case rest =>
                clear hA hsp hO Hon p0 p1 p2 p3 k0 k1 k2 hup Honr honu Hz
                obtain ⟨on, v3, hne, hrg, hup, hA, hsp, hO, hon⟩ := hcut
                have honl := hne.out.2
                have hS9 := HSe.out.turn hA hsp
                obtain ⟨cs, o1, o2⟩ := hS9.o2
                obtain ⟨A2, c2, rfl⟩ := ownsRow_slice o1
                obtain ⟨A4, c4, rfl, r1, r2, r3, r4, r5⟩ := hon.out.open_
                obtain ⟨p0, p1, p2, p3⟩ := hO.c4
                obtain ⟨k0, k1, k2⟩ := hS9.bm.c3
                have hX9 := Ext.alloc wc (.cells #[.int .i64 pat, .int .i64 dy, .int .i64 yy, .slice A4 on.length c4] 107)
                have hsrc := Src.list wc [.int .i64 pat, .int .i64 dy, .int .i64 yy, .slice A4 on.length c4] 107
                have hpO := fun v2' w' => MkS.pushO (W' := w') (v2' := v2') (x := ⟨pat, dy, yy, on⟩) (hS9.ext hX9) (ownsRow_ext2 o1 hX9) (o2.map fun _ _ g => g.ext hX9) ((hon.out.ext hX9).mono (by have := HOe.out; omega))
                have o1x := ownsRow_ext2 o1 hX9
                have hszM := (hS9.ext hX9).bm.lt
                have HpO := Lib.hid hpO
                have Ho2 := Lib.hid o2
                clear hpO r3 r4 r5 o2 o1
                go_wp2_with (at_builtin; refine wpList_app rfl _ _ 62 rfl (M + 1) 107 ti2 _ 4 48 Try.underlying62 hi2 hy0 hy1 hy2 rfl (by decide) (.slice A2 os.length c2) os.length cs rfl o1x (some ⟨wc.heap.size, 0, none⟩) 1 1 [.int .i64 pat, .int .i64 dy, .int .i64 yy, .slice A4 on.length c4] rfl rfl hsrc ?c2 ?c3 ?c4 ?c5 ?_; (case c2 => (intro u hu; simp only [List.mem_cons, List.not_mem_nil, or_false] at hu; rcases hu with rfl | rfl | rfl | rfl <;> rfl)); (case c3 => (unfold maxLen; omega)); (case c4 => omega); (case c5 => omega); intro v' w12 hown hg hblk; obtain ⟨q0, q1, hS12⟩ := HpO.out v' w12 hown hg; obtain ⟨A9, c9, rfl⟩ := ownsRow_slice hown; have HS12 := Lib.hid hS12; clear hS12 hsrc)
                go_roundw
                case rel =>
                  refine ⟨os.length + 1, os ++ [⟨pat, dy, yy, on⟩], _, by omega, by go_num, by simp, ?_, Lib.hid (HS12.out.monoK (by omega))⟩
                  intro o ho
                  rcases List.mem_append.1 ho with h | h
                  · exact hox.out o h
                  · rw [List.mem_singleton] at h; subst h
                    exact ⟨⟨hp1, by show pat ≤ 9; omega⟩, ⟨hd1, by show dy ≤ 20; omega⟩, ⟨by show 1 ≤ yy; omega, by show yy ≤ 99; omega⟩, hne.out.1, hrg.out, hup.out⟩
                case measure => simp [intOf]; omega
        · obtain rfl : os.length = Nn := by omega
          have hS9 := hS.out
          have hbr : Blk wr w.heap.size 64 #[.slice none 0 0, .int .i64 0, .slice none 0 0] := by rw [hR'.out]; exact hS9.br
          have hfin : ∀ u0 u1 u2, MkS w b w.heap.size M (M + 1) la ch os (k + 20 + 20 * os.length) v1 v2 wr → OwnI (((wr.setCell ⟨w.heap.size, 0, none⟩ u0).setCell ⟨w.heap.size, 1, none⟩ u1).setCell ⟨w.heap.size, 2, none⟩ u2) (M + 1) 3 v1 la ∧
              OwnOB (((wr.setCell ⟨w.heap.size, 0, none⟩ u0).setCell ⟨w.heap.size, 1, none⟩ u1).setCell ⟨w.heap.size, 2, none⟩ u2) (M + 1) v2 os ∧ Blk (((wr.setCell ⟨w.heap.size, 0, none⟩ u0).setCell ⟨w.heap.size, 1, none⟩ u1).setCell ⟨w.heap.size, 2, none⟩ u2) w.heap.size 64 #[u0, u1, u2] ∧
              SpoolAt (((wr.setCell ⟨w.heap.size, 0, none⟩ u0).setCell ⟨w.heap.size, 1, none⟩ u1).setCell ⟨w.heap.size, 2, none⟩ u2) b 2000 ∧ Apart b w (((wr.setCell ⟨w.heap.size, 0, none⟩ u0).setCell ⟨w.heap.size, 1, none⟩ u1).setCell ⟨w.heap.size, 2, none⟩ u2) := by
            intro u0 u1 u2 h
            have b1 := h.br
            have b2 := b1.set_ 0 u0
            have b3 := b2.set_ 1 u1
            have b4 := b3.set_ 2 u2
            have hAp := (((Apart.refl w.heap.size wr).set_ 0 u0).set_ 1 u1).set_ 2 u2
            refine ⟨((h.o1.far b1 (by decide) 0 u0).far b2 (by decide) 1 u1).far b3 (by decide) 2 u2, ((h.o2.far b1 (by decide) (.inl (by decide)) 0 u0).far b2 (by decide) (.inl (by decide)) 1 u1).far b3 (by decide) (.inl (by decide)) 2 u2, by simpa [zeroM] using b4, (h.sp.mono (by omega)).apart h.lt.1 hAp, ?_⟩
            exact ((h.ap.above (p := ⟨w.heap.size, 0, none⟩) (Nat.le_refl _) _).above (p := ⟨w.heap.size, 1, none⟩) (Nat.le_refl _) _).above (p := ⟨w.heap.size, 2, none⟩) (Nat.le_refl _) _
          have Hfin := Lib.hid (fun u0 u1 u2 => hfin u0 u1 u2 (by rw [hR'.out]; exact hS9))
          clear hfin
          obtain ⟨A1, c1, rfl, r1, r2, r3, _, _⟩ := hS9.o1.open_
          obtain ⟨A2, c2, rfl, r4, r5, r6⟩ := hS9.o2.ords
          obtain ⟨k0, k1, k2⟩ := hS9.bm.c3
          obtain ⟨y0, y1, y2⟩ := hbr.c3
          have f0 := hbr.frozen 0; have f1 := hbr.frozen 1; have f2 := hbr.frozen 2
          clear r3 r6 hS9 hS hbr
          go_wp2_with fail
          obtain ⟨e1, e2, e3, e4, e5⟩ := Hfin.out (.slice A1 la.length c1) (.int .i64 ch) (.slice A2 os.length c2)
          clear k0 k1 k2 y0 y1 y2 f0 f1 f2
          obtain ⟨A1', c1', h1', _, _, r3, _, _⟩ := e1.open_
          obtain ⟨A2', c2', h2', _, _, r6⟩ := e2.ords
          simp only [Value.slice.injEq, true_and] at h1' h2'
          obtain ⟨rfl, rfl⟩ := h1'
          obtain ⟨rfl, rfl⟩ := h2'
          obtain ⟨v0, v1', v2'⟩ := e3.c3
          refine bodyPost_ret (v := .agg #[.slice A1 la.length c1, .int .i64 ch, .slice A2 os.length c2]) ?_ rfl ⟨_, ⟨la, ch, os⟩, rfl, ⟨A1, c1, A2, c2, rfl, r1, r2, r4, r5, r3, r6⟩, ⟨⟨by show 1 ≤ la.length; omega, by show la.length ≤ 3; omega⟩, by show os.length ≤ 7; omega, hlx.out, ⟨hc1, by show ch ≤ 5; omega⟩, hox.out⟩, by show (la.length : Int) ≤ _; omega, by show (os.length : Int) ≤ _; omega, e4, e5⟩
          simp [results, Try.results17, go_sem, v0, v1', v2']
end Go.Proofs.Pet

namespace Go.Proofs.Pet
open Go Go.RowKit Go.Maps Go.Shelf

/-- what Best answers -/
def bestL (m : Mill) (l : Int) (xs : List Int) : List Int :=
  if (costE m l xs).2 = 0 then ints ((moreF m l.toNat (costE m l xs).1 7 [] (setF xs)).getD []) else []
end Go.Proofs.Pet

namespace Go.Proofs.Pet
open Go

end Go.Proofs.Pet

namespace Go.Proofs.Pet
open Go

/-- each loom's run is one, in time -/
def keptB (m : Mill) (rows : List (List Int)) : Bool := decide (rows.length = m.laced.length) && (List.range rows.length).all fun i => okW m i (rows[i]?.getD [])
/-- and each order is in one of them -/
def keptQ (m : Mill) (rows : List (List Int)) : Bool := keptB m rows && (decide rows.flatten.Nodup && decide (rows.flatten.length = m.orders.length))
end Go.Proofs.Pet

namespace Go.Proofs.Pet
open Go

/-- the set of some numbers -/
def setN (r : List Nat) : Nat := r.foldl (fun s k => s ||| 2 ^ k) 0
theorem setN_snoc (r : List Nat) (k : Nat) : setN (r ++ [k]) = setN r ||| 2 ^ k := by unfold setN; rw [List.foldl_append]; rfl
theorem setN_bit (j : Nat) : ∀ n (r : List Nat), r.length = n → ((setN r).testBit j = true ↔ j ∈ r)
  | 0, r, h => by
    have : r = [] := List.length_eq_zero_iff.1 h
    subst this; simp [setN]
  | n + 1, r, h => by
    have hne : r ≠ [] := fun e => by rw [e] at h; cases h
    have ih := setN_bit j n r.dropLast (by simp [h])
    have e := List.dropLast_concat_getLast hne
    rw [← e, setN_snoc, Nat.testBit_or, Bool.or_eq_true, ih, Nat.testBit_two_pow, decide_eq_true_eq, List.mem_append, List.mem_singleton]
    exact or_congr Iff.rfl eq_comm
theorem setN_mem {r : List Nat} {j : Nat} : (setN r).testBit j = true ↔ j ∈ r := setN_bit j _ r rfl
theorem setN_is {r : List Nat} (h : r.Nodup) : IsSet (setN r) r := ⟨h, fun _ => setN_mem.symm⟩
theorem setN_lt {r : List Nat} {n : Nat} (h : ∀ j, j ∈ r → j < n) : setN r < 2 ^ n := by
  refine Nat.lt_pow_two_of_testBit _ fun i hi => ?_
  rw [Bool.eq_false_iff]
  intro e
  have := h i (setN_mem.1 e)
  omega
theorem setN_bits {r : List Nat} {n : Nat} (hn : r.Nodup) (h : ∀ j, j ∈ r → j < n) : (bits n (setN r)).Perm r := ((isSet_perm (setN_lt h) r).1 (setN_is hn)).symm

/-- a run for each loom; the orders of S, each once -/
structure PlanOf (m : Mill) (S : Nat → Prop) (R : Nat → List Nat) : Prop where
  nodup : ∀ i, i < m.laced.length → (R i).Nodup
  mem : ∀ i, i < m.laced.length → ∀ j, j ∈ R i → j < m.orders.length ∧ m.weaves i j = true
  tm : ∀ i, i < m.laced.length → tmR m i (R i) = true
  all : ∀ j, S j ↔ ∃ i, i < m.laced.length ∧ j ∈ R i
  once : ∀ i i' j, i < m.laced.length → i' < m.laced.length → j ∈ R i → j ∈ R i' → i = i'
/-- its changes -/
def totC (m : Mill) (R : Nat → List Nat) : Nat → Int
  | 0 => 0
  | n + 1 => totC m R n + chR m n (R n)
theorem totC_sum (m : Mill) (R : Nat → List Nat) : ∀ n, totC m R n = ((List.range n).map fun i => chR m i (R i)).sum
  | 0 => rfl
  | n + 1 => by rw [totC, totC_sum m R n, List.range_succ, List.map_append, List.sum_append]; simp
theorem tot_le {t t' : Nat → Nat → Int} {f f' : Nat → Nat} : ∀ n, (∀ i, i < n → t i (f i) ≤ t' i (f' i)) → tot t f n ≤ tot t' f' n
  | 0, _ => Int.le_refl _
  | n + 1, h => by
    have := tot_le n (fun i hi => h i (by omega))
    have := h n (by omega)
    rw [tot, tot]; omega
theorem totC_tot (m : Mill) (R : Nat → List Nat) : ∀ n, totC m R n = tot (fun i _ => chR m i (R i)) (fun _ => 0) n
  | 0 => rfl
  | n + 1 => by rw [totC, totC_tot m R n]; rfl
theorem PlanOf.le {m : Mill} (hch : checkE m = 0) {s : Nat} {S : Nat → Prop} (hS : ∀ j, S j ↔ s.testBit j = true) {R : Nat → List Nat} (h : PlanOf m S R) : sumF (numC m) m.laced.length s ≤ totC m R m.laced.length ∧ sumF (numC m) m.laced.length s < 297 := by
  obtain ⟨l1, l2, l3⟩ := check_len hch
  have hlt : ∀ i, i < m.laced.length → setN (R i) < 2 ^ m.orders.length := fun i hi => setN_lt fun j hj => (h.mem i hi j hj).1
  have hle : ∀ i, i < m.laced.length → numC m i (setN (R i)) ≤ chR m i (R i) := fun i hi =>
    numC_le m i _ (check_change hch) (hlt i hi) l3 (R i) (setN_is (h.nodup i hi)) (fun j hj => (h.mem i hi j hj).2) (h.tm i hi)
  have h99 : ∀ i, i < m.laced.length → numC m i (setN (R i)) < 99 := fun i hi => by
    have h1 := (chR_bd m i (R i)).2
    have h2 := (setN_bits (h.nodup i hi) fun j hj => (h.mem i hi j hj).1).length_eq
    have h3 := bits_len m.orders.length (setN (R i))
    have := hle i hi
    omega
  have hP : Part (numC m) m.laced.length s (tot (numC m) (fun i => setN (R i)) m.laced.length) := by
    refine ⟨fun i => setN (R i), h99, rfl, fun b => ?_, fun i j b hi hj h1 h2 => h.once i j b hi hj (setN_mem.1 h1) (setN_mem.1 h2)⟩
    rw [← hS b, h.all b]
    simp only [setN_mem]
  have h1 := (sumF_least (numC m) (fun l s => (numC_bd m l s).1) m.laced.length s (by omega)).1 _ hP
  have h2 := tot_bd (numC m) (fun i => setN (R i)) m.laced.length h99
  have h3 : tot (numC m) (fun i => setN (R i)) m.laced.length ≤ totC m R m.laced.length := by
    rw [totC_tot]
    exact tot_le _ fun i hi => hle i hi
  exact ⟨by omega, by omega⟩
theorem PlanOf.has {m : Mill} (hch : checkE m = 0) {s : Nat} (hs : s < 2 ^ m.orders.length) {S : Nat → Prop} (hS : ∀ j, S j ↔ s.testBit j = true) (h : sumF (numC m) m.laced.length s < 297) : ∃ R, PlanOf m S R ∧ totC m R m.laced.length = sumF (numC m) m.laced.length s := by
  obtain ⟨l1, l2, l3⟩ := check_len hch
  obtain ⟨f, h1, h2, h3, h4⟩ := (sumF_least (numC m) (fun l s => (numC_bd m l s).1) m.laced.length s (by omega)).2 h
  have hlt : ∀ i, i < m.laced.length → f i < 2 ^ m.orders.length := fun i hi => by
    refine Nat.lt_pow_two_of_testBit _ fun j hj => ?_
    rw [Bool.eq_false_iff]
    intro e
    have := (h3 j).2 ⟨i, hi, e⟩
    rw [Nat.testBit_lt_two_pow (Nat.lt_of_lt_of_le hs (Nat.pow_le_pow_right (by omega) hj))] at this
    cases this
  have hr : ∀ i, ∃ r, i < m.laced.length → IsSet (f i) r ∧ (∀ j, j ∈ r → m.weaves i j = true) ∧ tmR m i r = true ∧ chR m i r = numC m i (f i) := fun i => by
    by_cases hi : i < m.laced.length
    · obtain ⟨r, g⟩ := numC_has m i (f i) (hlt i hi) l3 (h1 i hi)
      exact ⟨r, fun _ => g⟩
    · exact ⟨[], fun h => absurd h hi⟩
  refine ⟨fun i => (hr i).choose, ⟨fun i hi => ((hr i).choose_spec hi).1.1, fun i hi j hj => ⟨?_, ((hr i).choose_spec hi).2.1 j hj⟩, fun i hi => ((hr i).choose_spec hi).2.2.1, fun j => ?_, fun i i' j hi hi' g g' => ?_⟩, ?_⟩
  · have := (((hr i).choose_spec hi).1.2 j).1 hj
    rcases Nat.lt_or_ge j m.orders.length with h5 | h5
    · exact h5
    · rw [Nat.testBit_lt_two_pow (Nat.lt_of_lt_of_le (hlt i hi) (Nat.pow_le_pow_right (by omega) h5))] at this
      cases this
  · rw [hS j, h3 j]
    constructor
    · rintro ⟨i, hi, hb⟩
      exact ⟨i, hi, (((hr i).choose_spec hi).1.2 j).2 hb⟩
    · rintro ⟨i, hi, hb⟩
      exact ⟨i, hi, (((hr i).choose_spec hi).1.2 j).1 hb⟩
  · exact h4 i i' j hi hi' ((((hr i).choose_spec hi).1.2 j).1 g) ((((hr i').choose_spec hi').1.2 j).1 g')
  · rw [h2, totC_tot]
    have : ∀ n, n ≤ m.laced.length → tot (fun i _ => chR m i ((hr i).choose)) (fun _ => 0) n = tot (numC m) f n := fun n => by
      induction n with
      | zero => intro _; rfl
      | succ n ih =>
        intro hn
        rw [tot, tot, ih (by omega), ((hr n).choose_spec (by omega)).2.2.2]
    exact this _ (Nat.le_refl _)

/-! A run without some of its orders. -/
theorem chg_tri (a b c : Int) : chg a c ≤ chg a b + chg b c := by
  unfold chg
  by_cases h1 : a = b <;> by_cases h2 : b = c <;> by_cases h3 : a = c <;> simp_all
theorem chR_filter (m : Mill) (l : Nat) (p : Nat → Bool) : ∀ r, chR m l (r.filter p) + chg (lastPat m l (r.filter p)) (lastPat m l r) ≤ chR m l r
  | [] => by simp [chR, lastPat, chg]
  | k :: r => by
    have ih := chR_filter m l p r
    have ht := chg_tri (lastPat m l (r.filter p)) (lastPat m l r) (m.pat k)
    rw [List.filter_cons]
    split
    · have h0 : chg (lastPat m l (k :: r.filter p)) (lastPat m l (k :: r)) = 0 := by simp [lastPat, chg]
      rw [h0, chR, chR]
      omega
    · rw [chR]
      show _ + chg _ (m.pat k) ≤ _
      omega
theorem sdR_filter {m : Mill} (p : Nat → Bool) : ∀ r, (∀ j, j ∈ r → 0 ≤ m.dys j) → sdR m (r.filter p) ≤ sdR m r
  | [], _ => Int.le_refl _
  | k :: r, h => by
    have ih := sdR_filter p r (fun j hj => h j (by simp [hj]))
    have := h k (by simp)
    rw [List.filter_cons]
    split
    · rw [sdR, sdR]; omega
    · rw [sdR]; omega
theorem dyR_filter {m : Mill} (hc : 0 ≤ m.change) (l : Nat) (p : Nat → Bool) (r : List Nat) (h : ∀ j, j ∈ r → 0 ≤ m.dys j) : dyR m l (r.filter p) ≤ dyR m l r := by
  rw [dyR_eq, dyR_eq]
  have h1 := sdR_filter p r h
  have h2 := chR_filter m l p r
  have h3 := (chg_bd (lastPat m l (r.filter p)) (lastPat m l r)).1
  have h4 : m.change * chR m l (r.filter p) ≤ m.change * chR m l r := Int.mul_le_mul_of_nonneg_left (by omega) hc
  omega
/-- what makes a plan of one mill a plan of another: loom i has loom (g i)'s run, order j is called f j -/
structure Morph (m u : Mill) (g f : Nat → Nat) : Prop where
  looms : u.laced.length = m.laced.length
  perm : ((List.range m.laced.length).map g).Perm (List.range m.laced.length)
  inj : ∀ a b, a < m.orders.length → b < m.orders.length → f a = f b → a = b
  lt : ∀ a, a < m.orders.length → f a < u.orders.length
  wv : ∀ i, i < m.laced.length → ∀ j, j < m.orders.length → m.weaves (g i) j = true → u.weaves i (f j) = true
  ch : ∀ i, i < m.laced.length → ∀ r, (∀ j, j ∈ r → j < m.orders.length) → chR u i (r.map f) = chR m (g i) r
  tm : ∀ i, i < m.laced.length → ∀ r, (∀ j, j ∈ r → j < m.orders.length) → tmR m (g i) r = true → tmR u i (r.map f) = true
theorem nodup_map_in {f : Nat → Nat} {n : Nat} (hf : ∀ a b, a < n → b < n → f a = f b → a = b) : ∀ {r : List Nat}, (∀ j, j ∈ r → j < n) → r.Nodup → (r.map f).Nodup
  | [], _, _ => List.nodup_nil
  | k :: r, h, hn => by
    rw [List.nodup_cons] at hn
    rw [List.map_cons, List.nodup_cons]
    refine ⟨fun hk => ?_, nodup_map_in hf (fun j hj => h j (by simp [hj])) hn.2⟩
    obtain ⟨x, hx, e⟩ := List.mem_map.1 hk
    have := hf x k (h x (by simp [hx])) (h k (by simp)) e
    subst this
    exact hn.1 hx
theorem PlanOf.map {m u : Mill} {g f : Nat → Nat} (M : Morph m u g f) {S : Nat → Prop} {R : Nat → List Nat} (h : PlanOf m S R) :
    PlanOf u (fun k => ∃ j, S j ∧ f j = k) (fun i => (R (g i)).map f) ∧ totC u (fun i => (R (g i)).map f) u.laced.length = totC m R m.laced.length := by
  have hg : ∀ i, i < m.laced.length → g i < m.laced.length := fun i hi => List.mem_range.1 (M.perm.mem_iff.1 (List.mem_map.2 ⟨i, List.mem_range.2 hi, rfl⟩))
  have hginj : ∀ i i', i < m.laced.length → i' < m.laced.length → g i = g i' → i = i' := fun i i' hi hi' e => by
    have hn : ((List.range m.laced.length).map g).Nodup := M.perm.symm.nodup_iff.1 List.nodup_range
    rw [List.nodup_iff_pairwise_ne, List.pairwise_map, List.pairwise_iff_getElem] at hn
    simp only [List.getElem_range, List.length_range] at hn
    rcases Nat.lt_trichotomy i i' with h1 | h1 | h1
    · exact absurd e (hn i i' hi hi' h1)
    · exact h1
    · exact absurd e.symm (hn i' i hi' hi h1)
  have hrl : ∀ i, i < m.laced.length → ∀ j, j ∈ R i → j < m.orders.length := fun i hi j hj => (h.mem i hi j hj).1
  refine ⟨⟨fun i hi => ?_, fun i hi k hk => ?_, fun i hi => ?_, fun k => ?_, fun i i' k hi hi' g1 g2 => ?_⟩, ?_⟩
  · rw [M.looms] at hi
    exact nodup_map_in M.inj (hrl _ (hg i hi)) (h.nodup _ (hg i hi))
  · rw [M.looms] at hi
    obtain ⟨j, hj, rfl⟩ := List.mem_map.1 hk
    have := h.mem _ (hg i hi) j hj
    exact ⟨M.lt j this.1, M.wv i hi j this.1 this.2⟩
  · rw [M.looms] at hi
    exact M.tm i hi _ (hrl _ (hg i hi)) (h.tm _ (hg i hi))
  · constructor
    · rintro ⟨j, hj, rfl⟩
      obtain ⟨i, hi, hji⟩ := (h.all j).1 hj
      have hm : i ∈ (List.range m.laced.length).map g := M.perm.mem_iff.2 (List.mem_range.2 hi)
      obtain ⟨i', hi', rfl⟩ := List.mem_map.1 hm
      exact ⟨i', by rw [M.looms]; exact List.mem_range.1 hi', List.mem_map.2 ⟨j, hji, rfl⟩⟩
    · rintro ⟨i, hi, hk⟩
      rw [M.looms] at hi
      obtain ⟨j, hj, rfl⟩ := List.mem_map.1 hk
      exact ⟨j, (h.all j).2 ⟨g i, hg i hi, hj⟩, rfl⟩
  · rw [M.looms] at hi hi'
    obtain ⟨j, hj, rfl⟩ := List.mem_map.1 g1
    obtain ⟨j', hj', e⟩ := List.mem_map.1 g2
    have := M.inj j' j (hrl _ (hg i' hi') _ hj') (hrl _ (hg i hi) _ hj) e
    subst this
    exact hginj i i' hi hi' (h.once _ _ j' (hg i hi) (hg i' hi') hj hj')
  · rw [totC_sum, totC_sum, M.looms]
    have h1 : ((List.range m.laced.length).map fun i => chR u i ((R (g i)).map f)) = ((List.range m.laced.length).map g).map fun i => chR m i (R i) := by
      rw [List.map_map]
      refine List.map_congr_left fun i hi => ?_
      have hi := List.mem_range.1 hi
      exact M.ch i hi _ (hrl _ (hg i hi))
    rw [h1]
    exact sum_perm (M.perm.map _)
end Go.Proofs.Pet

namespace Go.Proofs.Pet
open Go

/-- the orders that are not put off have a plan -/
def Feas (m : Mill) (off : Nat) : Prop := ∃ R, PlanOf m (fun j => j < m.orders.length ∧ off.testBit j = false) R
theorem sdiff_full {n off j : Nat} : (sdiff (2 ^ n - 1) off).testBit j = true ↔ j < n ∧ off.testBit j = false := by
  rw [testBit_sdiff, Nat.testBit_two_pow_sub_one]; simp
theorem feas_iff {m : Mill} (hch : checkE m = 0) (off : Nat) : Feas m off ↔ sumF (numC m) m.laced.length (sdiff (2 ^ m.orders.length - 1) off) < 297 := by
  have hlt : sdiff (2 ^ m.orders.length - 1) off < 2 ^ m.orders.length := by have := sdiff_le (2 ^ m.orders.length - 1) off; have := Nat.two_pow_pos m.orders.length; omega
  constructor
  · rintro ⟨R, h⟩
    exact (PlanOf.le hch (fun j => sdiff_full.symm) h).2
  · intro h
    obtain ⟨R, h1, _⟩ := PlanOf.has hch hlt (fun j => sdiff_full.symm) h
    exact ⟨R, h1⟩
theorem full_zero {n : Nat} : sdiff (2 ^ n - 1) 0 = 2 ^ n - 1 := by
  apply Nat.eq_of_testBit_eq
  intro i
  rw [testBit_sdiff, Nat.zero_testBit]; simp
theorem planF_feas {m : Mill} (hch : checkE m = 0) : planF m = none ↔ ¬ Feas m 0 := by
  rw [feas_iff hch, full_zero]
  unfold planF
  split <;> simp <;> omega
/-- the fewest changes, if there is a plan -/
theorem few_feas {m : Mill} (hch : checkE m = 0) (h : Feas m 0) : ∃ R, PlanOf m (fun j => j < m.orders.length) R ∧ totC m R m.laced.length = fewR m (2 ^ m.orders.length - 1) := by
  have hlt : 2 ^ m.orders.length - 1 < 2 ^ m.orders.length := by have := Nat.two_pow_pos m.orders.length; omega
  rw [feas_iff hch, full_zero] at h
  rw [fewR_sum m hch _ hlt, if_pos h]
  exact PlanOf.has hch hlt (fun j => by rw [Nat.testBit_two_pow_sub_one, decide_eq_true_eq]) h
theorem few_le {m : Mill} (hch : checkE m = 0) {R : Nat → List Nat} (h : PlanOf m (fun j => j < m.orders.length) R) : fewR m (2 ^ m.orders.length - 1) ≤ totC m R m.laced.length := by
  have hlt : 2 ^ m.orders.length - 1 < 2 ^ m.orders.length := by have := Nat.two_pow_pos m.orders.length; omega
  obtain ⟨h1, h2⟩ := PlanOf.le hch (s := 2 ^ m.orders.length - 1) (fun j => by rw [Nat.testBit_two_pow_sub_one, decide_eq_true_eq]) h
  rw [fewR_sum m hch _ hlt, if_pos h2]
  exact h1
theorem feas_all (m : Mill) : Feas m (2 ^ m.orders.length - 1) := by
  refine ⟨fun _ => [], fun _ _ => List.nodup_nil, fun _ _ j hj => by simp at hj, fun _ _ => rfl, fun j => ?_, fun _ _ j _ _ hj => by simp at hj⟩
  rw [Nat.testBit_two_pow_sub_one]
  constructor
  · rintro ⟨h1, h2⟩
    simp at h2; omega
  · rintro ⟨i, _, hj⟩
    simp at hj
theorem late_some {m : Mill} (hch : checkE m = 0) : ∃ off, off < 2 ^ m.orders.length ∧ lateS m = some (intsOf (bits m.orders.length off)) ∧ Feas m off ∧ ∀ off', off' < 2 ^ m.orders.length → Feas m off' → beforeB (intsOf (bits m.orders.length off')) (intsOf (bits m.orders.length off)) = false := by
  have h := pickB_least ((List.range (2 ^ m.orders.length)).map fun off => (decide (sumF (numC m) m.laced.length (sdiff (2 ^ m.orders.length - 1) off) < 297), intsOf (bits m.orders.length off)))
  have hmem : ∀ off, off < 2 ^ m.orders.length → Feas m off → (true, intsOf (bits m.orders.length off)) ∈ ((List.range (2 ^ m.orders.length)).map fun off => (decide (sumF (numC m) m.laced.length (sdiff (2 ^ m.orders.length - 1) off) < 297), intsOf (bits m.orders.length off))) := fun off h1 h2 =>
    List.mem_map.2 ⟨off, List.mem_range.2 h1, by rw [decide_eq_true ((feas_iff hch off).1 h2)]⟩
  cases hp : pickB ((List.range (2 ^ m.orders.length)).map fun off => (decide (sumF (numC m) m.laced.length (sdiff (2 ^ m.orders.length - 1) off) < 297), intsOf (bits m.orders.length off))) with
  | none =>
    rw [hp] at h
    have := h _ (hmem _ (by have := Nat.two_pow_pos m.orders.length; omega) (feas_all m))
    cases this
  | some b =>
    rw [hp] at h
    obtain ⟨h1, h2⟩ := h
    obtain ⟨off, ho, e⟩ := List.mem_map.1 h1
    simp only [Prod.mk.injEq, decide_eq_true_eq] at e
    obtain ⟨e1, rfl⟩ := e
    exact ⟨off, List.mem_range.1 ho, hp, (feas_iff hch off).2 e1, fun off' g1 g2 => h2 _ (hmem off' g1 g2) rfl⟩
theorem before_len {a b : List Int} (h : beforeB a b = false) : b.length ≤ a.length := by
  unfold beforeB at h
  split at h
  · omega
  · simp at h; omega
/-- the orders that are late -/
def lateL (m : Mill) : List Int := (lateS m).getD []
theorem late_len {m : Mill} (hch : checkE m = 0) {off : Nat} (h1 : off < 2 ^ m.orders.length) (h2 : Feas m off) : (lateL m).length ≤ (bits m.orders.length off).length := by
  obtain ⟨o, g1, g2, g3, g4⟩ := late_some hch
  have := before_len (g4 off h1 h2)
  unfold lateL
  rw [g2]
  unfold intsOf at this ⊢
  simpa using this
theorem late_feas {m : Mill} (hch : checkE m = 0) : ∃ off, off < 2 ^ m.orders.length ∧ Feas m off ∧ lateL m = intsOf (bits m.orders.length off) := by
  obtain ⟨o, g1, g2, g3, g4⟩ := late_some hch
  exact ⟨o, g1, g3, by unfold lateL; rw [g2]; rfl⟩
theorem late_nil {m : Mill} (hch : checkE m = 0) : (lateL m).length = 0 ↔ Feas m 0 := by
  constructor
  · intro h
    obtain ⟨o, g1, g2, g3⟩ := late_feas hch
    rw [g3] at h
    have := bits_none g1 (by unfold intsOf at h; simpa using h)
    subst this
    exact g2
  · intro h
    have := late_len hch (Nat.two_pow_pos _) h
    have e : (bits m.orders.length 0).length = 0 := by simp [bits]
    omega
/-- off's orders by other names -/
theorem Feas.map {m u : Mill} {g f : Nat → Nat} (M : Morph m u g f) (hs : ∀ k, k < u.orders.length → ∃ j, j < m.orders.length ∧ f j = k) {off off' : Nat} (ho : ∀ j, j < m.orders.length → off'.testBit (f j) = off.testBit j) (h : Feas m off) : Feas u off' := by
  obtain ⟨R, hR⟩ := h
  have h1 := (hR.map M).1
  refine ⟨_, h1.nodup, h1.mem, h1.tm, fun k => ?_, h1.once⟩
  rw [← h1.all k]
  constructor
  · rintro ⟨hk, hb⟩
    obtain ⟨j, hj, rfl⟩ := hs k hk
    exact ⟨j, ⟨hj, by rw [← ho j hj]; exact hb⟩, rfl⟩
  · rintro ⟨j, ⟨hj, hb⟩, rfl⟩
    exact ⟨M.lt j hj, by rw [ho j hj]; exact hb⟩
/-- a mill to which each plan of another one serves, order by order, needs no more -/
theorem morph_few {m u : Mill} (hm : checkE m = 0) (hu : checkE u = 0) {g f : Nat → Nat} (M : Morph m u g f) (hs : ∀ k, k < u.orders.length → ∃ j, j < m.orders.length ∧ f j = k) (h : Feas m 0) : Feas u 0 ∧ fewR u (2 ^ u.orders.length - 1) ≤ fewR m (2 ^ m.orders.length - 1) := by
  refine ⟨h.map M hs fun j _ => by simp, ?_⟩
  obtain ⟨R, hR, ht⟩ := few_feas hm h
  obtain ⟨h1, h2⟩ := hR.map M
  rw [← ht, ← h2]
  refine few_le hu ⟨h1.nodup, h1.mem, h1.tm, fun k => ?_, h1.once⟩
  rw [← h1.all k]
  constructor
  · intro hk
    obtain ⟨j, hj, rfl⟩ := hs k hk
    exact ⟨j, hj, rfl⟩
  · rintro ⟨j, hj, rfl⟩
    exact M.lt j hj
theorem morph_late {m u : Mill} (hm : checkE m = 0) (hu : checkE u = 0) {g f : Nat → Nat} (M : Morph m u g f) (hs : ∀ k, k < u.orders.length → ∃ j, j < m.orders.length ∧ f j = k) : (lateL u).length ≤ (lateL m).length := by
  obtain ⟨off, h1, h2, h3⟩ := late_feas hm
  have hb : ∀ j, j ∈ bits m.orders.length off → j < m.orders.length := fun j hj => (mem_bits.1 hj).1
  have hbn : (bits m.orders.length off).Nodup := List.nodup_range.filter _
  have hn := nodup_map_in M.inj hb hbn
  have hl : ∀ k, k ∈ (bits m.orders.length off).map f → k < u.orders.length := fun k hk => by
    obtain ⟨j, hj, rfl⟩ := List.mem_map.1 hk
    exact M.lt j (hb j hj)
  have hf : Feas u (setN ((bits m.orders.length off).map f)) := h2.map M hs fun j hj => by
    rw [Bool.eq_iff_iff, setN_mem, List.mem_map]
    constructor
    · rintro ⟨i, hi, e⟩
      have := M.inj i j (hb i hi) hj e
      subst this
      exact (mem_bits.1 hi).2
    · intro h
      exact ⟨j, mem_bits.2 ⟨hj, h⟩, rfl⟩
  have h4 := late_len hu (setN_lt hl) hf
  rw [(setN_bits hn hl).length_eq, List.length_map] at h4
  rw [h3]
  unfold intsOf
  simpa using h4
end Go.Proofs.Pet

namespace Go.Proofs.Pet
open Go

/-- u lets all that m lets -/
structure Eased (m u : Mill) : Prop where
  laced : u.laced = m.laced
  len : u.orders.length = m.orders.length
  change : 0 ≤ u.change ∧ u.change ≤ m.change
  ords : ∀ k, k < m.orders.length → (u.orders[k]?.getD default).pattern = (m.orders[k]?.getD default).pattern ∧ (u.orders[k]?.getD default).days = (m.orders[k]?.getD default).days ∧
    (m.orders[k]?.getD default).by_ ≤ (u.orders[k]?.getD default).by_ ∧ ∀ x, x ∈ (m.orders[k]?.getD default).on → x ∈ (u.orders[k]?.getD default).on
theorem Eased.pat {m u : Mill} (h : Eased m u) {k : Nat} (hk : k < m.orders.length) : u.pat k = m.pat k := (h.ords k hk).1
theorem Eased.last {m u : Mill} (h : Eased m u) (l : Nat) : ∀ r, (∀ j, j ∈ r → j < m.orders.length) → lastPat u l r = lastPat m l r
  | [], _ => by unfold lastPat; rw [h.laced]
  | k :: _, hr => h.pat (hr k (by simp))
theorem Eased.ch {m u : Mill} (h : Eased m u) (l : Nat) : ∀ r, (∀ j, j ∈ r → j < m.orders.length) → chR u l r = chR m l r
  | [], _ => rfl
  | k :: r, hr => by
    have hr' : ∀ j, j ∈ r → j < m.orders.length := fun j hj => hr j (by simp [hj])
    rw [chR, chR, h.ch l r hr', h.last l r hr', h.pat (hr k (by simp))]
theorem Eased.sd {m u : Mill} (h : Eased m u) : ∀ r, (∀ j, j ∈ r → j < m.orders.length) → sdR u r = sdR m r
  | [], _ => rfl
  | k :: r, hr => by
    have : u.dys k = m.dys k := (h.ords k (hr k (by simp))).2.1
    rw [sdR, sdR, h.sd r (fun j hj => hr j (by simp [hj])), this]
theorem Eased.dy {m u : Mill} (h : Eased m u) (l : Nat) (r : List Nat) (hr : ∀ j, j ∈ r → j < m.orders.length) : dyR u l r ≤ dyR m l r := by
  rw [dyR_eq, dyR_eq, h.sd r hr, h.ch l r hr]
  have := Int.mul_le_mul_of_nonneg_right h.change.2 (chR_bd m l r).1
  omega
theorem Eased.tm {m u : Mill} (h : Eased m u) (l : Nat) : ∀ r, (∀ j, j ∈ r → j < m.orders.length) → tmR m l r = true → tmR u l r = true
  | [], _, _ => rfl
  | k :: r, hr, ht => by
    rw [tmR, Bool.and_eq_true, decide_eq_true_eq] at ht ⊢
    have h1 := h.dy l (k :: r) hr
    have h2 : m.byy k ≤ u.byy k := (h.ords k (hr k (by simp))).2.2.1
    exact ⟨h.tm l r (fun j hj => hr j (by simp [hj])) ht.1, by omega⟩
theorem Eased.morph {m u : Mill} (h : Eased m u) : Morph m u id id := by
  refine ⟨by rw [h.laced], by simp, fun a b _ _ e => e, fun a ha => by rw [h.len]; exact ha, fun i _ j hj hw => ?_, fun i _ r hr => by rw [List.map_id]; exact h.ch i r hr, fun i _ r hr ht => by rw [List.map_id]; exact h.tm i r hr ht⟩
  unfold Mill.weaves at hw ⊢
  rw [List.contains_iff_mem] at hw ⊢
  exact (h.ords j hj).2.2.2 _ hw
theorem Eased.all {m u : Mill} (h : Eased m u) : ∀ k, k < u.orders.length → ∃ j, j < m.orders.length ∧ id j = k := fun k hk => ⟨k, by rw [← h.len]; exact hk, rfl⟩
theorem Eased.late {m u : Mill} (h : Eased m u) (hm : checkE m = 0) (hu : checkE u = 0) : (lateL u).length ≤ (lateL m).length := morph_late hm hu h.morph h.all
theorem plan_late {m : Mill} (hm : checkE m = 0) : planF m = none ↔ (lateL m).length ≠ 0 := by
  rw [planF_feas hm, ← late_nil hm]
theorem Eased.few {m u : Mill} (h : Eased m u) (hm : checkE m = 0) (hu : checkE u = 0) (hp : planF m ≠ none) : fewR u (2 ^ u.orders.length - 1) ≤ fewR m (2 ^ m.orders.length - 1) :=
  (morph_few hm hu h.morph h.all (Classical.not_not.1 (fun g => hp ((planF_feas hm).2 g)))).2
theorem Eased.refl {m : Mill} (hm : checkE m = 0) : Eased m m := ⟨rfl, rfl, ⟨check_change hm, Int.le_refl _⟩, fun _ _ => ⟨rfl, rfl, Int.le_refl _, fun _ h => h⟩⟩
/-- a mill with one order turned -/
def Mill.put (m : Mill) (k : Nat) (o : Ord) : Mill := ⟨m.laced, m.change, m.orders.set k o⟩
theorem Eased.faster {m u : Mill} (h : Eased m u) {c : Int} (hc : 0 ≤ c ∧ c ≤ u.change) : Eased m ⟨u.laced, c, u.orders⟩ :=
  ⟨h.laced, h.len, ⟨hc.1, Int.le_trans hc.2 h.change.2⟩, h.ords⟩
end Go.Proofs.Pet
