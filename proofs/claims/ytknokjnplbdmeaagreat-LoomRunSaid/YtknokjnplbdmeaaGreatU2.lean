import Derived.Test.YtknokjnplbdmeaaGreatU1
namespace Go.Proofs.Pet
open Go Go.RowKit Go.Maps Go.Shelf

def keepK (m : Mill) (f : Nat → Int) (k : Nat) : Bool := !decide (f k = -1) && decide (f k ≤ m.byy k)
def keepsB (m : Mill) (xss : List (List Int)) : Bool := (List.range m.orders.length).all (keepK m (endsUp m xss xss.length))
theorem endsL_len (m : Mill) (xss : List (List Int)) : (endsL m xss).length = m.orders.length := by unfold endsL; simp
theorem endsL_get (m : Mill) (xss : List (List Int)) {k : Nat} (hk : k < m.orders.length) : (endsL m xss)[k]?.getD 0 = endsUp m xss xss.length k := by
  unfold endsL; rw [List.getElem?_map, List.getElem?_range hk]; rfl
set_option maxRecDepth 20000 in
theorem keeps_any (v pv : Value) (m : Mill) (xss : List (List Int)) (e0 : Int) (he0 : plE m xss = e0) (q : Bool) (hq : (if e0 = 0 then keepsB m xss else false) = q) (hb : xss.flatten.length ≤ 100) (hb2 : xss.length ≤ 1000) (w : World) (hv : MillVal w v m) (hp : RowsI w pv xss) :
    Calls Tryz.prog 53 #[v, pv] w fun e w' => e = .returned (.tuple #[.bool q, .int .i64 e0]) ∧ Ext w w' := by
  have Hv := Lib.hid hv
  have Hp := Lib.hid hp
  obtain ⟨A1, c1, A2, c2, rfl, h2, h3, h4, h5, h6, h7⟩ := hv
  obtain ⟨PA, pc, rfl, g2, g3, g4⟩ := hp
  have H7 := Lib.hid h7
  have hE := Ext.alloc w (.cells #[.slice A1 m.laced.length c1, .int .i64 m.change, .slice A2 m.orders.length c2] 25)
  have hM := Blk.new w 25 #[.slice A1 m.laced.length c1, .int .i64 m.change, .slice A2 m.orders.length c2]
  have hen := Lib.hid (ends_any _ _ m xss e0 he0 hb hb2 _ (Hv.out.ext hE) (Hp.out.ext hE))
  have He0 := Lib.hid he0; clear he0
  clear h6 h7 h3 h2 hb g4 g2 g3
  obtain ⟨k0, k1, k2⟩ := hM.c3
  go_enter Tryz.func53, Tryz.ntmps53
  go_wp2_with fail
  refine hen.out.mono ?_
  rintro e w1 ⟨r, rfl, hr, he1⟩
  have hE1 := hE.trans he1
  have hM1 := hM.ext he1
  clear hE hM he1 hen k0 k1 k2
  by_cases h0 : e0 = 0
  · subst h0
    simp only [if_true] at hr hq
    have Hq := Lib.hid hq; clear hq
    have hck := (plE_ok He0.out).1
    obtain ⟨l1, l2, l3⟩ := check_len hck
    have hel := endsL_len m xss
    obtain ⟨Ar, cr, rfl, r1, r2, r3⟩ := hr
    have Hget : Hid (∀ k, k < m.orders.length → (endsL m xss)[k]?.getD 0 = endsUp m xss xss.length k) := fun k hk => endsL_get m xss hk
    generalize endsL m xss = es at *
    have Hel := Lib.hid hel
    rw [hel] at r1 ⊢
    have R3 := Lib.hid r3; clear r3 hel hck
    clear r1 r2
    go_wp2_with fail
    go_loopw [21] (fun iv wr => ∃ k : Nat, k ≤ m.orders.length ∧ iv = .int .i64 k ∧ wr = w1 ∧ Hid (∀ j, j < k → keepK m (endsUp m xss xss.length) j = true)) (fun iv _ => m.orders.length - (intOf iv).toNat)
    case atStart => exact ⟨0, by omega, rfl, rfl, fun j hj => absurd hj (by omega)⟩
    case round =>
      obtain ⟨k, hk, rfl, rfl, hno⟩ := hrel
      by_cases hlt : k < m.orders.length
      · obtain ⟨be, oe, rfl, ce⟩ := R3.out k (by rw [Hel.out]; exact hlt)
        rw [Hget.out k hlt] at ce
        obtain ⟨b2, o2, rfl, A', ca, hca, p1, p2, p3, p4, p5⟩ := H7.out.ext hE1 k hlt
        have hby : (m.orders[k]?.getD default).by_ = m.byy k := rfl
        rw [hby] at p3
        have hkk : Hid (keepK m (endsUp m xss xss.length) k = (!decide (endsUp m xss xss.length k = -1) && decide (endsUp m xss xss.length k ≤ m.byy k))) := rfl
        obtain ⟨ev, hev⟩ : ∃ ev, endsUp m xss xss.length k = ev := ⟨_, rfl⟩
        rw [hev] at ce hkk
        clear p1 p2 p4 p5 hca hby hev
        generalize m.byy k = yb at *
        have HF : keepK m (endsUp m xss xss.length) k = false → Hid (q = false) := fun h => by
          unfold Hid; rw [← Hq.out]; unfold keepsB
          rw [List.all_eq_false]
          exact ⟨k, List.mem_range.2 hlt, by rw [h]; simp⟩
        have HF' := Lib.hid HF; clear HF
        obtain ⟨k0, k1, k2⟩ := hM1.c3
        by_cases h1 : ev = -1
        · subst h1
          have hqf := HF'.out (by rw [hkk.out]; simp)
          go_wp2_with fail
          go_ret2
          exact ⟨by rw [hqf.out]; rfl, hE1⟩
        · have hd1 : (ev == -1) = false := by simpa using h1
          by_cases h2 : yb < ev
          · have hqf := HF'.out (by rw [hkk.out]; simp; omega)
            clear h1
            go_wp2_with fail
            go_ret2
            exact ⟨by rw [hqf.out]; rfl, hE1⟩
          · have hd2 : decide (yb < ev) = false := by simpa using h2
            have hok : Hid (keepK m (endsUp m xss xss.length) k = true) := by unfold Hid; rw [hkk.out]; simp; exact ⟨h1, by omega⟩
            clear h1 h2
            go_wp2_with fail
            go_roundw
            case rel =>
              refine ⟨k + 1, by omega, by go_num, trivial, fun j hj => ?_⟩
              by_cases e : j = k
              · subst e; exact hok.out
              · exact hno.out j (by omega)
            case measure => simp [intOf]; omega
      · obtain rfl : k = m.orders.length := by omega
        have hqt : Hid (q = true) := by
          unfold Hid; rw [← Hq.out]; unfold keepsB
          rw [List.all_eq_true]
          exact fun j hj => hno.out j (List.mem_range.1 hj)
        go_wp2_with fail
        go_ret2
        exact ⟨by rw [hqt.out]; rfl, hE1⟩
  · have hd : (e0 != 0) = true := by simpa using h0
    rw [if_neg h0] at hq
    subst hq
    rw [if_neg h0] at hr
    obtain ⟨Ar, cr, rfl, _⟩ := hr
    clear h0
    go_wp2_with fail
    go_ret2
    exact ⟨rfl, hE1⟩
end Go.Proofs.Pet
