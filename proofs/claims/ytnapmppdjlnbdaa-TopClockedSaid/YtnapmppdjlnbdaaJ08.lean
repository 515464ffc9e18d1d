/- Joined texts: TCI, TCJ, TCK, TCL, TCM. -/
import Derived.Test.YtnapmppdjlnbdaaJ07
import Derived.Lib.MinMax
namespace Go.Proofs.Pet
open Go Go.RowKit Go.Maps Go.Shelf
open Go.Proofs.Clk (Cl Rd Gp Att nextD casesF stepF partG partS freeD foundL closedO)

theorem RngD.gaps {n : Int} (hn : n ≤ 4) : ∀ {l : List Gp} {f : List Int}, (∀ g, g ∈ l → (0 ≤ g.src ∧ g.src < n) ∧ (0 ≤ g.dst ∧ g.dst < n) ∧ (-240 ≤ g.lo ∧ g.lo ≤ g.hi ∧ g.hi ≤ 240)) → f.length = 25 → RngD f → RngD (Clk.gapsD f l)
  | [], _, _, _, h => h
  | g :: l, f, hl, hf, h => by
    obtain ⟨h1, h2, h3⟩ := hl g (List.mem_cons_self ..)
    refine RngD.gaps hn (l := l) (fun g hg => hl g (List.mem_cons_of_mem _ hg)) (by rw [Clk.gapD_len, hf]) ?_
    unfold Clk.gapD
    exact RngD.min_ (by rw [Clk.minD_len, hf]) (RngD.min_ hf h (by omega) (by omega) (by omega)) (by omega) (by omega) (by omega)
theorem RngD.free {a : Att} (hok : AttOk a) : RngD (freeD a) := by
  have hm := hok.mins
  refine RngD.gaps hok.evs.2 hok.gps (Clk.free0_len _) fun x y hx hy => ?_
  rw [Clk.free0_at _ hx hy]
  split <;> omega
set_option maxRecDepth 20000 in
set_option maxHeartbeats 4000000 in
theorem cases1_any (D n1 : Nat) (a : Att) (mv : Value) (Ms : List Nat) (hok : AttOk a) (w0 : World) (hw0 : w0.heap.size = n1) (hd : WorkC w0 D a mv Ms) (tb l : Nat) (J : List FoundX → World → Prop)
    (hJ : ∀ s X Y, J s X → Ext X Y → J s Y) (hY : YieldF n1 l (foundL a).length J) (V : World) (h0 : Ext w0 V) (hB : Blk V tb 82 #[.pointer (some ⟨D, 0, none⟩)]) (hp : J [] V) :
    Calls Try.prog 80 #[.func (.yield l) #[] #[], .pointer (some ⟨tb, 0, none⟩)] V fun e W' => (∃ v, e = .returned v) ∧ ∃ xs : List FoundX, xs.map (·.f) = foundL a ∧ J xs W' := by
  have hX := Ext.alloc V (.cells #[.func (.yield l) #[] #[]] 145)
  have hX2 := hX.trans (Ext.alloc _ (.cells #[.func (.func 81) #[] #[.pointer (some ⟨tb, 0, none⟩), .pointer (some ⟨V.heap.size, 0, none⟩), .pointer (some ⟨V.heap.size + 1, 0, none⟩)]] 146))
  have hM := Blk.new (V.alloc (.cells #[.func (.yield l) #[] #[]] 145)) 146 #[.func (.func 81) #[] #[.pointer (some ⟨tb, 0, none⟩), .pointer (some ⟨V.heap.size, 0, none⟩), .pointer (some ⟨V.heap.size + 1, 0, none⟩)]]
  simp only [World.size_alloc] at hM
  have hMB : MoreBox ((V.alloc (.cells #[.func (.yield l) #[] #[]] 145)).alloc (.cells #[.func (.func 81) #[] #[.pointer (some ⟨tb, 0, none⟩), .pointer (some ⟨V.heap.size, 0, none⟩), .pointer (some ⟨V.heap.size + 1, 0, none⟩)]] 146)) D tb V.heap.size (V.heap.size + 1) l :=
    ⟨hB.ext hX2, (Blk.new V 145 #[.func (.yield l) #[] #[]]).alloc _, hM⟩
  have t0 := hMB.d.c1
  have m0 := hMB.m.c1
  have HMB := Lib.hid hMB
  have Hp := Lib.hid (hJ _ _ _ hp hX2)
  have HE := Lib.hid (Ext.trans h0 hX2)
  have hD := hd.1
  have hfr := Lib.hid (freeC_any D a mv hok _ (hD.ext (Ext.trans h0 hX2)))
  have HJ := Lib.hid hJ; have HY := Lib.hid hY; have Hd := Lib.hid hd; have Hok := Lib.hid hok
  have hmf : ∀ (fn : Fn) (first cap : Array Value) (w : World), (Instr.makeFunc fn first cap).run Try.prog w = .ok (.func fn first cap) w := fun _ _ _ _ => rfl
  have eg' : Enters Try.prog 81 := enters_of Try.func81 (by kernel_rfl) rfl
  unfold Enters at eg'
  clear hX hX2 hM hMB hB hp h0 hJ hY hd hok hD
  go_enter Try.func80, Try.ntmps80
  go_wp2_with fail
  refine hfr.out.mono ?_
  rintro e w3 ⟨rfl, he3⟩
  have hcl := Lib.hid (closedC_any (freeD a) (Clk.freeD_len a) (RngD.free Hok.out) w3)
  go_wp2_with fail
  refine hcl.out.mono ?_
  rintro e w4 ⟨g, q, rfl, hg, he4⟩
  have hgl := hg.len (Clk.freeD_len a)
  have Hg := Lib.hid hg
  have HMB4 := Lib.hid ((HMB.out.ext he3).ext he4)
  have HE4 := Lib.hid ((HE.out.trans he3).trans he4)
  have Hp4 := Lib.hid (HJ.out _ _ _ (HJ.out _ _ _ Hp.out he3) he4)
  clear t0 m0 hfr hcl HMB HE Hp he3 he4 hg
  have hX5 := Ext.alloc w4 (.cells #[.int .i64 0, .int .i64 0, .int .i64 0, .int .i64 0, .int .i64 0, .int .i64 0, .int .i64 0, .int .i64 0, .int .i64 0, .int .i64 0, .int .i64 0, .int .i64 0, .int .i64 0, .int .i64 0, .int .i64 0, .int .i64 0, .int .i64 0, .int .i64 0, .int .i64 0, .int .i64 0, .int .i64 0, .int .i64 0, .int .i64 0, .int .i64 0, .int .i64 0] 118)
  have HN := Lib.hid (show FarAt (w4.alloc (.cells #[.int .i64 0, .int .i64 0, .int .i64 0, .int .i64 0, .int .i64 0, .int .i64 0, .int .i64 0, .int .i64 0, .int .i64 0, .int .i64 0, .int .i64 0, .int .i64 0, .int .i64 0, .int .i64 0, .int .i64 0, .int .i64 0, .int .i64 0, .int .i64 0, .int .i64 0, .int .i64 0, .int .i64 0, .int .i64 0, .int .i64 0, .int .i64 0, .int .i64 0] 118)) w4.heap.size (List.replicate 25 0) from ⟨Blk.new w4 118 (farA (List.replicate 25 0)), rfl⟩)
  have HX := Lib.hid (Ext.setRow hX5 (Nat.le_refl _) (farA g))
  have HN5 := Lib.hid (HN.out.row hgl)
  clear hX5
  cases q with
  | false =>
    go_wp2_with (first
      | refine wpList_farStore rfl _ _ rfl w4.heap.size rfl (List.replicate 25 0) g rfl hgl HN.out ?_)
    go_end0
    refine ⟨⟨_, rfl⟩, [], ?_, HJ.out _ _ _ Hp4.out HX.out⟩
    unfold foundL
    rw [Clk.closedO_of (Clk.freeD_len a) Hg.out]
    rfl
  | true =>
    have hfl : foundL a = casesF a a.clocks.length 0 g := by
      unfold foundL
      rw [Clk.closedO_of (Clk.freeD_len a) Hg.out]
      rfl
    have m5 := (HMB4.out.ext HX.out).m.c1
    have hn1 : n1 ≤ w4.heap.size := by rw [← hw0]; exact HE4.out.size
    have hcall := Lib.hid (moreN_any D n1 a mv Ms Hok.out w0 hw0 Hd.out tb V.heap.size (V.heap.size + 1) l (foundL a).length J HJ.out HY.out a.clocks.length 0 g (.slice none 0 0) [] _ (Nat.zero_add _) hgl (RngD.of_closed (Clk.freeD_len a) (RngD.free Hok.out) Hg.out) (RunsAt.nil _) (Ext.trans HE4.out HX.out) (HMB4.out.ext HX.out) (by rw [hfl]; exact Nat.le_of_eq (Nat.zero_add _)) (HJ.out _ _ _ Hp4.out HX.out))
    go_wp2_with (first
      | refine wpList_farStore rfl _ _ rfl w4.heap.size rfl (List.replicate 25 0) g rfl hgl HN.out ?_
      | refine wpList_farLoad rfl _ rfl w4.heap.size rfl g HN5.out ?_)
    refine hcall.out.mono ?_
    rintro e w6 ⟨rfl, -, xs, hxs, hJ6⟩
    go_wp2_with fail
    go_end0
    exact ⟨⟨_, rfl⟩, xs, by rw [hxs, hfl], hJ6⟩
theorem cases_seq (D n1 : Nat) (a : Att) (mv : Value) (Ms : List Nat) (hok : AttOk a) (w0 : World) (hw0 : w0.heap.size = n1) (hd : WorkC w0 D a mv Ms) (tb : Nat) (w : World) (h0 : Ext w0 w) (hB : Blk w tb 82 #[.pointer (some ⟨D, 0, none⟩)]) :
    SeqT Fence.wide 4 Try.prog 80 #[.pointer (some ⟨tb, 0, none⟩)] encF (KpF n1) Ext (fun xs : List FoundX => xs.map (·.f) = foundL a) (foundL a).length w :=
  fun l J W hW _ hJ hY hp => callsIn_wide.2 (cases1_any D n1 a mv Ms hok w0 hw0 hd tb l J hJ hY W (Ext.trans h0 hW) (Blk.ext hB hW) hp)
theorem cases_any (D : Nat) (w : World) :
    Calls Try.prog 50 #[.pointer (some ⟨D, 0, none⟩)] w fun e w' => e = .returned (.func (.func 80) #[] #[.pointer (some ⟨w.heap.size, 0, none⟩)]) ∧ Blk w' w.heap.size 82 #[.pointer (some ⟨D, 0, none⟩)] ∧ Ext w w' := by
  have hmf : ∀ (fn : Fn) (first cap : Array Value) (w : World), (Instr.makeFunc fn first cap).run Try.prog w = .ok (.func fn first cap) w := fun _ _ _ _ => rfl
  have hX := Ext.alloc w (.cells #[.pointer (some ⟨D, 0, none⟩)] 82)
  have hB := Blk.new w 82 #[.pointer (some ⟨D, 0, none⟩)]
  go_enter Try.func50, Try.ntmps50
  go_wp2_with fail
  go_ret
  exact ⟨rfl, hB, hX⟩
end Go.Proofs.Pet

namespace Go.Proofs.Pet
open Go Go.RowKit Go.Maps Go.Shelf
open Go.Proofs.Clk (Cl Rd Gp Att foundL atD)

/-- the cells of one that is found -/
def cellsX (x : FoundX) : Array Value := #[.slice x.A x.n x.c] ++ farA x.f
def listX (x : FoundX) : List Value := Value.slice x.A x.n x.c :: x.f.map (Value.int .i64)
theorem cellsX_list (x : FoundX) : cellsX x = (listX x).toArray := by unfold cellsX listX farA; simp
theorem cellsX_size (x : FoundX) : (cellsX x).size = 26 := by rw [cellsX_list]; simp [listX, x.hf]
theorem listX_one (x : FoundX) : ∀ u ∈ listX x, u.oneCell' = true := by
  intro u hu
  unfold listX at hu
  rcases List.mem_cons.1 hu with rfl | hu
  · rfl
  · obtain ⟨y, _, rfl⟩ := List.mem_map.1 hu; rfl
def flatF : List FoundX → List Value
  | [] => []
  | x :: l => listX x ++ flatF l
theorem flatF_append : ∀ l k : List FoundX, flatF (l ++ k) = flatF l ++ flatF k
  | [], _ => rfl
  | x :: l, k => by rw [List.cons_append, flatF, flatF, flatF_append l k, List.append_assoc]
/-- the cell of one that is found -/
theorem flatF_at : ∀ (l : List FoundX) (i j : Nat) (x : FoundX), l[i]? = some x → j < 26 → (flatF l)[i * 26 + j]? = (listX x)[j]?
  | y :: l, 0, j, x, h, hj => by
    rw [List.getElem?_cons_zero] at h
    cases h
    rw [flatF, Nat.zero_mul, Nat.zero_add, List.getElem?_append_left (by simp [listX, y.hf]; omega)]
  | y :: l, i + 1, j, x, h, hj => by
    rw [List.getElem?_cons_succ] at h
    have hl : (listX y).length = 26 := by simp [listX, y.hf]
    rw [flatF, List.getElem?_append_right (by rw [hl]; omega), hl, show (i + 1) * 26 + j - 26 = i * 26 + j by omega]
    exact flatF_at l i j x h hj
def OwnF (w : World) (base : Nat) (v : Value) (xs : List FoundX) : Prop := w.ownsRow base 120 26 v xs.length (flatF xs)
theorem info_found : (Try.prog.info? 120).map (fun i => (i.zero, i.size, i.bytes)) = some (some (.agg #[.slice none 0 0, .int .i64 0, .int .i64 0, .int .i64 0, .int .i64 0, .int .i64 0, .int .i64 0, .int .i64 0, .int .i64 0, .int .i64 0, .int .i64 0, .int .i64 0, .int .i64 0, .int .i64 0, .int .i64 0, .int .i64 0, .int .i64 0, .int .i64 0, .int .i64 0, .int .i64 0, .int .i64 0, .int .i64 0, .int .i64 0, .int .i64 0, .int .i64 0, .int .i64 0]), 26, 224) := by kernel_rfl
theorem wpListIn_foundStore {F : Fence} {n : Nat} {ops : Array Oper} {rest : List Oper} {op : Oper} {a : Act} {w : World} {Q : Exit → Act → World → Prop} (hgd : op.guard = none) (x y : Operand) (ho : op.op = .store 120 x y)
    (b : Nat) (hx : a.eval x = .pointer (some ⟨b, 0, none⟩)) (cs : Array Value) (hB : Blk w b 120 cs) (hcs : cs.size = 26) (g : FoundX) (hy : a.eval y = .agg (cellsX g)) (h : wpListIn F n Try.prog ops Q rest (a.put op.dst undef) (w.setRow b (cellsX g))) : wpListIn F n Try.prog ops Q (op :: rest) a w := by
  refine wpListIn_plain hgd fun K hK => ?_
  unfold Oper.wpIn
  refine ⟨by simp [Oper.about, ho], ?_⟩
  rw [Oper.semAt_plain F _ _ (by rw [ho]; intro c hc'; cases hc')]
  simp only [execOp, ho, hx, hy, Instr.storeAt, Instr.sureAddr, Sem.run_bind, Sem.run_pure, Result.andThen_ok, run_storeVar_row (P := Try.prog) w b 120 120 cs (cellsX g) hB (by rw [cellsX_size]; kernel_rfl) (by rw [cellsX_size, hcs]) (by rw [cellsX_list, List.all_toArray, List.all_eq_true]; exact listX_one g)]
  exact hK _ _ h
theorem wpListIn_foundLoad {F : Fence} {n : Nat} {ops : Array Oper} {rest : List Oper} {op : Oper} {a : Act} {w : World} {Q : Exit → Act → World → Prop} (hgd : op.guard = none) (x : Operand) (ho : op.op = .load 120 x)
    (b : Nat) (hx : a.eval x = .pointer (some ⟨b, 0, none⟩)) (g : FoundX) (hB : Blk w b 120 (cellsX g)) (h : wpListIn F n Try.prog ops Q rest (a.put op.dst (.agg (cellsX g))) w) : wpListIn F n Try.prog ops Q (op :: rest) a w := by
  refine wpListIn_plain hgd fun K hK => ?_
  unfold Oper.wpIn
  refine ⟨by simp [Oper.about, ho], ?_⟩
  rw [Oper.semAt_plain F _ _ (by rw [ho]; intro c hc'; cases hc')]
  simp only [execOp, ho, hx, Instr.loadAt, Instr.sureAddr, Sem.run_bind, Sem.run_pure, Result.andThen_ok, run_loadVar_mid (P := Try.prog) w b 0 120 (listX g) _ (fun j v hj => by
    rw [Nat.zero_add, hB.cell, cellsX_list, List.getElem?_toArray]; exact hj) Try.underlying120 rfl (by simp only [listX, List.length_cons, List.length_map, g.hf]; kernel_rfl)]
  rw [cellsX_list] at h
  exact hK _ _ h
theorem run_sliceFound (g : FoundX) (w : World) : (Instr.buildSlice 83 1 #[(0, .agg (cellsX g))]).run Try.prog w = .ok (.slice (some ⟨w.heap.size, 0, none⟩) 1 1) (w.alloc (.cells (cellsX g) 120)) := by
  obtain ⟨A, n, c, f, hf⟩ := g
  match f, hf with
  | [x0, x1, x2, x3, x4, x5, x6, x7, x8, x9, x10, x11, x12, x13, x14, x15, x16, x17, x18, x19, x20, x21, x22, x23, x24], _ => show _ = _; kernel_rfl
theorem wpListIn_sliceFound {F : Fence} {n : Nat} {ops : Array Oper} {rest : List Oper} {op : Oper} {a : Act} {w : World} {Q : Exit → Act → World → Prop} (hgd : op.guard = none) (x : Operand) (ho : op.op = .buildSlice 83 1 #[(0, x)])
    (g : FoundX) (hx : a.eval x = .agg (cellsX g)) (h : wpListIn F n Try.prog ops Q rest (a.put op.dst (.slice (some ⟨w.heap.size, 0, none⟩) 1 1)) (w.alloc (.cells (cellsX g) 120))) : wpListIn F n Try.prog ops Q (op :: rest) a w := by
  refine wpListIn_plain hgd fun K hK => ?_
  unfold Oper.wpIn
  refine ⟨by simp [Oper.about, ho], ?_⟩
  rw [Oper.semAt_plain F _ _ (by rw [ho]; intro c hc'; cases hc')]
  have hb := run_sliceFound g w
  simp only [execOp, ho, List.map_toArray, List.map_cons, List.map_nil, hx, Sem.run_bind, hb, Result.andThen_ok, Sem.run_pure]
  exact hK _ _ h
def AxF (x : FoundX) (b : Nat) (w : World) : Prop := Blk w b 120 (cellsX x)
theorem AxF.putObj {x : FoundX} {b l : Nat} {X : World} {o o' : Obj} (h : X.heap[l]? = some o) (hc : o.isCells = false) (hA : AxF x b X) : AxF x b (X.putObj l o') := by
  unfold AxF Blk at *
  have hne : b ≠ l := by
    intro e; subst e
    rw [hA] at h; cases h; cases hc
  exact (World.putObj_heap_other hne).trans hA
/-- a range over the cases -/
theorem wp_cases {g : Operand} {ps : Array Tmp} {assign body : Code} {Q : Exit → Act → World → Prop} {a : Act} {w : World} {D n1 : Nat} {at_ : Att} {mv : Value} {Ms : List Nat} (hok : AttOk at_) {w0 : World} (hw0 : w0.heap.size = n1) (hd : WorkC w0 D at_ mv Ms) {tb : Nat} (h0 : Ext w0 w) (hB : Blk w tb 82 #[.pointer (some ⟨D, 0, none⟩)])
    (hg : a.eval g = .func (.func 80) #[] #[.pointer (some ⟨tb, 0, none⟩)]) (hps : ps.size = 1)
    (I : List FoundX → World → Prop) (hI : ∀ p W W', I p W → Loops w.heap.size W W' → I p W') (hIE : ∀ p W W', I p W → Ext W W' → I p W') (h1 : I [] w) (a₁ : FoundX → Nat → Act)
    (hassign : ∀ (l : Nat) (x : FoundX) (W : World) (K : Act → World → Prop), (∀ W', Ext W W' → AxF x W.heap.size W' → K (a₁ x W.heap.size) W') →
      assign.wpIn (Fence.wide.inRound l) 3 Try.prog (Exit.then K (fun _ _ _ => False)) { tmps := (ps.zip (encF x)).foldl (fun t (p, v) => t.setIfInBounds p v) a.tmps, defers := [] } W)
    (hbody : ∀ (l : Nat) (pre : List FoundX) (x : FoundX) (b : Nat) (W : World), I pre W → AxF x b W → w.heap.size ≤ b → pre.length < (foundL at_).length → body.wpIn (Fence.wide.inRound l) 3 Try.prog (ownPostG w.heap.size (KpF n1) I (fun _ _ _ => False) (pre ++ [x]) W) (a₁ x b) W)
    (hdone : ∀ (D : Nat) (xs : List FoundX) (W : World), w.heap.size ≤ D → xs.map (·.f) = foundL at_ → I xs W → W.heap[D]? = some (.deferred (some [])) → Q .normal { a with defers := { target := .collected D, args := #[] } :: a.defers } W) :
    (Code.rangeFunc g ps assign body).wp Try.prog Q a w := by
  have hn : n1 ≤ w.heap.size := by rw [← hw0]; exact h0.size
  exact (wpIn_wide (n := 5)).1 (wpIn_rangeE (n := 5) (by rfl) (by omega) hg trivial (enters_of Try.func80 (by kernel_rfl) rfl)
    (cases_seq D n1 at_ mv Ms hok w0 hw0 hd tb w h0 hB) (Below.refl _ _) KpF.trans (fun W l o o' hl h h1 _ => KpF.putObj (by omega) h h1) (fun X Y h k _ hk => Below.block h k hk) (fun x => by rw [hps]; rfl) (fun X Y h hs => KpF.of_ext h (by omega)) I
    (ownFrom_keep hI) hIE hIE h1 AxF (fun x b X l o o' h hc hA => AxF.putObj h hc hA) a₁ hassign hbody (fun D xs W hD hxs hi hK => hdone D xs W hD hxs hi hK))
end Go.Proofs.Pet

namespace Go.Proofs.Pet
open Go Go.RowKit Go.Maps Go.Shelf
open Go.Proofs.Clk (Cl Rd Gp Att foundL atD)
attribute [local go_sem] Oper.semAt_some

theorem OwnF.ext {w w' : World} {b : Nat} {v : Value} {xs : List FoundX} (h : OwnF w b v xs) (he : Ext w w') : OwnF w' b v xs := ownsRow_ext2 h he
theorem ownsRow_loops {W W' : World} {B base size n : Nat} {e : TypeId} {v : Value} {xs : List Value} (h : W.ownsRow base e size v n xs) (hk : Loops B W W') : W'.ownsRow base e size v n xs := by
  obtain ⟨h1, h2⟩ := h
  refine ⟨h1, ?_⟩
  rcases h2 with h2 | ⟨g, cap, cur, rfl, hg, hb, r⟩
  · exact .inl h2
  · exact .inr ⟨g, cap, cur, rfl, hg, hk.cells _ _ _ _ hb, r⟩
theorem OwnF.loops {W W' : World} {B base : Nat} {v : Value} {xs : List FoundX} (h : OwnF W base v xs) (hk : Loops B W W') : OwnF W' base v xs := ownsRow_loops h hk
theorem OwnF.mono {w : World} {b b' : Nat} {v : Value} {xs : List FoundX} (h : OwnF w b v xs) (hb : b' ≤ b) : OwnF w b' v xs := ownsRow_mono h hb
theorem OwnF.push {w' : World} {b : Nat} {v : Value} {xs : List FoundX} {x : FoundX} (h : w'.ownsRow b 120 26 v (xs.length + 1) (flatF xs ++ listX x)) : OwnF w' b v (xs ++ [x]) := by
  unfold OwnF
  rw [flatF_append, List.length_append]
  have : flatF [x] = listX x := by show listX x ++ [] = _; rw [List.append_nil]
  rw [this]
  exact h
theorem run_allocFound (w : World) : (Instr.alloc 120 true (.tuple #[])).run Try.prog w = .ok (.pointer (some ⟨w.heap.size, 0, none⟩)) (w.alloc (.cells #[.slice none 0 0, .int .i64 0, .int .i64 0, .int .i64 0, .int .i64 0, .int .i64 0, .int .i64 0, .int .i64 0, .int .i64 0, .int .i64 0, .int .i64 0, .int .i64 0, .int .i64 0, .int .i64 0, .int .i64 0, .int .i64 0, .int .i64 0, .int .i64 0, .int .i64 0, .int .i64 0, .int .i64 0, .int .i64 0, .int .i64 0, .int .i64 0, .int .i64 0, .int .i64 0] 120)) := by kernel_rfl
theorem wpListIn_allocFound {F : Fence} {n : Nat} {ops : Array Oper} {rest : List Oper} {op : Oper} {a : Act} {w : World} {Q : Exit → Act → World → Prop} (hgd : op.guard = none) (ho : op.op = .alloc 120)
    (h : wpListIn F n Try.prog ops Q rest (a.put op.dst (.pointer (some ⟨w.heap.size, 0, none⟩))) (w.alloc (.cells #[.slice none 0 0, .int .i64 0, .int .i64 0, .int .i64 0, .int .i64 0, .int .i64 0, .int .i64 0, .int .i64 0, .int .i64 0, .int .i64 0, .int .i64 0, .int .i64 0, .int .i64 0, .int .i64 0, .int .i64 0, .int .i64 0, .int .i64 0, .int .i64 0, .int .i64 0, .int .i64 0, .int .i64 0, .int .i64 0, .int .i64 0, .int .i64 0, .int .i64 0, .int .i64 0] 120))) : wpListIn F n Try.prog ops Q (op :: rest) a w := by
  refine wpListIn_plain hgd fun K hK => ?_
  unfold Oper.wpIn
  refine ⟨by simp [Oper.about, ho], ?_⟩
  rw [Oper.semAt_plain F _ _ (by rw [ho]; intro c hc'; cases hc')]
  simp only [execOp, ho, Sem.run_bind, run_allocFound, Result.andThen_ok, Sem.run_pure]
  exact hK _ _ h
theorem cellsX_src (x : FoundX) (V : World) : ∀ j u, (listX x)[j]? = some u → (V.alloc (.cells (cellsX x) 120)).cell? ((⟨V.heap.size, 0, none⟩ : Addr).add j) = some u := by
  intro j u hu
  have e : (⟨V.heap.size, 0, none⟩ : Addr).add j = ⟨V.heap.size, j, none⟩ := by rw [addr_add]; simp
  rw [e, (Blk.new V 120 (cellsX x)).cell, cellsX_list, List.getElem?_toArray]
  exact hu
/-- what a round of the collecting loop keeps -/
theorem KpF.round {n1 b0 : Nat} {V V1 w' : World} {v u : Value} {base n : Nat} {xs : List Value} {cs : Array Value} (hX : Ext V V1) (hn : n1 ≤ b0) (hsz : n1 ≤ V.heap.size) (h4 : V1.ownsRow base 120 26 v n xs) (hb : b0 < base) (h3 : Blk V1 b0 83 cs) (hg : V1.grownBy w' v.ownBlock) :
    KpF n1 V (w'.setCell ⟨b0, 0, none⟩ u) := by
  have hge : ∀ j, v.ownBlock = some j → base ≤ j := fun j hj => (ownsRow_own h4 j hj).1
  refine ⟨Below.setCell (Below.grown (hX.mono hsz) hg (by have := hX.size; omega) (fun j hj => by have := hge j hj; omega)) (p := ⟨b0, 0, none⟩) hn u, fun {k t cs'} hk h1 h2 => ?_⟩
  have hk1 := hk.ext hX
  have hne : k ≠ b0 := by
    intro e; subst e
    unfold Blk at h3 hk1
    rw [h3] at hk1
    cases hk1; exact h1 rfl
  exact (Blk.grown hk1 hg (ownsRow_ne_blk h4 hk1 h2)).far (p := ⟨b0, 0, none⟩) hne u
set_option maxRecDepth 100000 in
set_option maxHeartbeats 4000000 in
theorem appendFound_any (D n1 : Nat) (a : Att) (mv : Value) (Ms : List Nat) (hok : AttOk a) (w0 : World) (hw0 : w0.heap.size = n1) (hd : WorkC w0 D a mv Ms) (tb : Nat) (W : World) (h0 : Ext w0 W) (hB : Blk W tb 82 #[.pointer (some ⟨D, 0, none⟩)]) (hlen : (foundL a).length ≤ 20000) :
    Calls Try.prog 79 #[.slice none 0 0, .func (.func 80) #[] #[.pointer (some ⟨tb, 0, none⟩)]] W fun e W' => ∃ r, ∃ xs : List FoundX, e = .returned r ∧ xs.map (·.f) = foundL a ∧ OwnF W' W.heap.size r xs ∧ Ext w0 W' := by
  obtain ⟨ti, hi, hz0, hz1, hz2⟩ := info_parts info_found
  refine (callsIn_wide (n := 5)).1 ?_
  refine callsIn_of_wp_marks Try.func79 rfl trivial ?_ rfl
  simp only [Try.ntmps79, List.size_toArray, List.length_cons, List.length_nil, Nat.reduceAdd, Nat.reduceSub, Array.replicate_succ, Array.replicate_zero, List.push_toArray, List.append_toArray, List.nil_append, List.cons_append]
  refine wpIn_wide.2 ?_
  have hX := Ext.alloc W (.cells #[.slice none 0 0] 83)
  have hbx := Blk.new W 83 #[.slice none 0 0]
  have hBX := hB.ext hX
  have hszX : (W.alloc (.cells #[.slice none 0 0] 83)).heap.size = W.heap.size + 1 := World.size_alloc ..
  have heX := h0.trans hX
  have hn1 : n1 ≤ W.heap.size := by rw [← hw0]; exact h0.size
  obtain ⟨b0, hb0⟩ : ∃ b0, W.heap.size = b0 := ⟨_, rfl⟩
  rw [hb0] at hbx hszX hn1
  have Hb0 := Lib.hid hb0
  clear hB hX hb0
  go_wp2_with fail
  rw [Hb0.out]
  generalize W.alloc _ = W5 at *
  apply wp_cases hok hw0 hd heX hBX rfl rfl
    (fun pre V => W5.heap.size ≤ V.heap.size ∧ Ext w0 V ∧ ∃ v, Blk V b0 83 #[v] ∧ OwnF V (b0 + 1) v pre)
    (fun pre V V' ⟨h1, h2, v, h3, h4⟩ hk => ⟨Nat.le_trans h1 hk.size, h2.loops hk (by have := heX.size; omega), v, h3.loops hk, ownsRow_loops h4 hk⟩)
    (fun pre V V' ⟨h1, h2, v, h3, h4⟩ ht => ⟨Nat.le_trans h1 ht.size, h2.trans ht, v, h3.ext ht, h4.ext ht⟩) ⟨Nat.le_refl _, heX, _, hbx, World.ownsRow_nil _ _ _ _⟩
  case hassign =>
    intro l x V K hK
    simp only [encF]
    have hBk := Blk.new V 120 #[.slice none 0 0, .int .i64 0, .int .i64 0, .int .i64 0, .int .i64 0, .int .i64 0, .int .i64 0, .int .i64 0, .int .i64 0, .int .i64 0, .int .i64 0, .int .i64 0, .int .i64 0, .int .i64 0, .int .i64 0, .int .i64 0, .int .i64 0, .int .i64 0, .int .i64 0, .int .i64 0, .int .i64 0, .int .i64 0, .int .i64 0, .int .i64 0, .int .i64 0, .int .i64 0]
    have hE := Ext.setRow (Ext.alloc V (.cells #[.slice none 0 0, .int .i64 0, .int .i64 0, .int .i64 0, .int .i64 0, .int .i64 0, .int .i64 0, .int .i64 0, .int .i64 0, .int .i64 0, .int .i64 0, .int .i64 0, .int .i64 0, .int .i64 0, .int .i64 0, .int .i64 0, .int .i64 0, .int .i64 0, .int .i64 0, .int .i64 0, .int .i64 0, .int .i64 0, .int .i64 0, .int .i64 0, .int .i64 0, .int .i64 0] 120)) (Nat.le_refl _) (cellsX x)
    have hR := Blk.row hBk (cellsX x)
    simp only [List.zip_toArray, List.zip_cons_cons, List.zip_nil_right, List.foldl_toArray, List.foldl_cons, List.foldl_nil, List.setIfInBounds_toArray, List.set_cons_succ, List.set_cons_zero]
    refine wpIn_region_lit ?_
    refine wpListIn_allocFound rfl rfl ?_
    refine wpListIn_foundStore rfl _ _ rfl V.heap.size rfl #[.slice none 0 0, .int .i64 0, .int .i64 0, .int .i64 0, .int .i64 0, .int .i64 0, .int .i64 0, .int .i64 0, .int .i64 0, .int .i64 0, .int .i64 0, .int .i64 0, .int .i64 0, .int .i64 0, .int .i64 0, .int .i64 0, .int .i64 0, .int .i64 0, .int .i64 0, .int .i64 0, .int .i64 0, .int .i64 0, .int .i64 0, .int .i64 0, .int .i64 0, .int .i64 0] hBk rfl x rfl ?_
    refine wpListIn_nil ?_
    simp only [Exit.then, Act.put, List.setIfInBounds_toArray, List.set_cons_succ, List.set_cons_zero]
    replace hK := hK _ hE hR
    generalize (V.alloc _).setRow _ _ = V9 at *
    generalize V.heap.size = vb at *
    exact hK
  case hbody =>
    rintro l pre x b V ⟨h1, h2, v, h3, h4⟩ hA hb hpl
    have u0 := h3.c1
    have hX := Ext.alloc V (.cells (cellsX x) 120)
    have h4X : (V.alloc (.cells (cellsX x) 120)).ownsRow (b0 + 1) 120 26 v pre.length (flatF pre) := h4.ext hX
    have h3X := h3.ext hX
    have hb0l := h3.lt
    have hpl2 : pre.length ≤ 20000 := by omega
    have hsrc := cellsX_src x V
    have hl26 : (listX x).length = 1 * 26 := by simp [listX, x.hf]
    have hge : ∀ j, v.ownBlock = some j → b0 + 1 ≤ j := fun j hj => (ownsRow_own h4X j hj).1
    have hnn : n1 ≤ V.heap.size := by omega
    have hszV : (V.alloc (.cells (cellsX x) 120)).heap.size = V.heap.size + 1 := World.size_alloc ..
    obtain ⟨A0, c0, rfl⟩ := ownsRow_slice h4X
    have Hlx := Lib.hid hl26
    clear h4 hl26
    gi_wp2_with (first
      | refine wpListIn_foundLoad rfl _ rfl b rfl x hA ?_
      | refine wpListIn_sliceFound rfl _ rfl x rfl ?_
      | (gi_at_builtin; refine wpListIn_append_own _ rfl _ _ 83 rfl (b0 + 1) 120 ti (.agg #[.slice none 0 0, .int .i64 0, .int .i64 0, .int .i64 0, .int .i64 0, .int .i64 0, .int .i64 0, .int .i64 0, .int .i64 0, .int .i64 0, .int .i64 0, .int .i64 0, .int .i64 0, .int .i64 0, .int .i64 0, .int .i64 0, .int .i64 0, .int .i64 0, .int .i64 0, .int .i64 0, .int .i64 0, .int .i64 0, .int .i64 0, .int .i64 0, .int .i64 0, .int .i64 0]) 26 224 Try.underlying83 hi hz0 hz1 hz2 rfl (by decide) _ _ _ rfl h4X ⟨V.heap.size, 0, none⟩ 1 1 (listX x) rfl Hlx.out hsrc (listX_one x) (by unfold maxLen; omega) (by omega) (by rw [hszV]; omega) ?_; intro v' w' hown hg hblk; have hB9 := Blk.grown h3X hg (fun e => by have := hge b0 e.symm; omega); have q0 := hB9.c1; have q1 := hB9.frozen 0; obtain ⟨A9, c9, rfl⟩ := ownsRow_slice hown))
    have hO := OwnF.push hown
    have hk := KpF.round hX (by omega) hnn h4X (by omega) h3X hg (u := .slice A9 (pre.length + 1) c9)
    refine ⟨(((KeepsOthers.alloc V _).trans (KeepsOthers.of_grownBy hg (ownsRow_cellsP h4X))).trans (KeepsOthers.setCell _ _ _)).from _, hk, ?_, hk.ext h2 (by omega), _, by simpa using hB9.set_ 0 (.slice A9 (pre.length + 1) c9), ?_⟩
    · have := hk.below.size; omega
    · exact ownsRow_apart hO (fun e => by have := (ownsRow_own hO b0 e).1; omega) ((Apart.refl _ _).set_ 0 _)
  case hdone =>
    intro Dd xs V hDd hxs ⟨h1, h2, v, h3, h4⟩ hdef
    have u0 := h3.c1
    have hm := (Marks.nil V W5.heap.size Dd).push hDd (Nat.le_refl _) hdef
    obtain ⟨A0, c0, rfl⟩ := ownsRow_slice h4
    have H4 := Lib.hid h4
    clear h4 hdef
    go_wp2_with fail
    exact leaves_marks' [markOf Dd] V hm (fun W' => results_tmp rfl _ _ _) (fun W' hq => ⟨_, xs, rfl, hxs, (H4.out.loops hq.loops).mono (by have := Hb0.out; omega), hq.ext h2 (by have := heX.size; omega)⟩)
end Go.Proofs.Pet

namespace Go.Proofs.Clk
set_option linter.unusedSimpArgs false
theorem flat_bd {α : Type} (B : Nat) (h : Nat → List α) : ∀ j : Nat, (∀ i, i < j → (h i).length ≤ B) → ((List.range j).flatMap h).length ≤ j * B
  | 0, _ => by simp
  | j + 1, hb => by
    have ih := flat_bd B h j (fun i hi => hb i (by omega))
    have h1 := hb j (by omega)
    rw [List.range_succ, List.flatMap_append, List.flatMap_singleton, List.length_append, Nat.add_mul, Nat.one_mul]
    omega
theorem cases_bd {a : Att} (hw : ∀ c, c ∈ a.clocks → (c.sl ≤ c.sh ∧ c.sh - c.sl ≤ 4) ∧ (c.gl ≤ c.gh ∧ c.gh - c.gl ≤ 4)) : ∀ (n c : Nat) (f : List Int), c + n = a.clocks.length → (casesF a n c f).length ≤ 25 ^ n
  | 0, c, f, _ => by rw [casesF]; simp
  | n + 1, c, f, hc => by
    have hcl : c < a.clocks.length := by omega
    have hm : a.clocks[c]?.getD default ∈ a.clocks := by rw [List.getElem?_eq_getElem hcl]; exact List.getElem_mem hcl
    obtain ⟨h1, h2⟩ := hw _ hm
    obtain ⟨ns, hns⟩ : ∃ n : Nat, (a.clocks[c]?.getD default).sh = (a.clocks[c]?.getD default).sl + (n : Int) := ⟨((a.clocks[c]?.getD default).sh - (a.clocks[c]?.getD default).sl).toNat, by omega⟩
    obtain ⟨ng, hng⟩ : ∃ n : Nat, (a.clocks[c]?.getD default).gh = (a.clocks[c]?.getD default).gl + (n : Int) := ⟨((a.clocks[c]?.getD default).gh - (a.clocks[c]?.getD default).gl).toNat, by omega⟩
    rw [cases_parts a n c f _ _ ns ng rfl hns rfl hng]
    have hst : ∀ s g, (stepF a n c f s g).length ≤ 25 ^ n := fun s g => by
      unfold stepF
      split
      · exact Nat.zero_le _
      · exact cases_bd hw n (c + 1) _ (by omega)
    have hG : ∀ s, (partG a n c f s (a.clocks[c]?.getD default).gl (ng + 1)).length ≤ 5 * 25 ^ n := fun s => by
      have := flat_bd (25 ^ n) (fun i : Nat => stepF a n c f s ((a.clocks[c]?.getD default).gl + (i : Int))) (ng + 1) (fun i _ => hst _ _)
      refine Nat.le_trans this (Nat.mul_le_mul_right _ (by omega))
    have := flat_bd (5 * 25 ^ n) (fun k : Nat => partG a n c f ((a.clocks[c]?.getD default).sl + (k : Int)) (a.clocks[c]?.getD default).gl (ng + 1)) (ns + 1) (fun i _ => hG _)
    refine Nat.le_trans this ?_
    rw [Nat.pow_succ, Nat.mul_comm (25 ^ n) 25, show 25 = 5 * 5 from rfl, Nat.mul_assoc]
    exact Nat.mul_le_mul_right _ (by omega)
theorem found_bd {a : Att} (hcl : a.clocks.length ≤ 3) (hw : ∀ c, c ∈ a.clocks → (c.sl ≤ c.sh ∧ c.sh - c.sl ≤ 4) ∧ (c.gl ≤ c.gh ∧ c.gh - c.gl ≤ 4)) : (foundL a).length ≤ 20000 := by
  unfold foundL
  split
  · exact Nat.zero_le _
  · refine Nat.le_trans (cases_bd hw _ 0 _ (Nat.zero_add _)) ?_
    exact Nat.le_trans (Nat.pow_le_pow_right (by omega) hcl) (by decide)
end Go.Proofs.Clk
namespace Go.Proofs.Pet
set_option linter.unusedSimpArgs false
open Go Go.RowKit Go.Maps Go.Shelf
open Go.Proofs.Clk (Cl Rd Gp Att foundL atD loF hiF)

theorem collectFound_any (D n1 : Nat) (a : Att) (mv : Value) (Ms : List Nat) (hok : AttOk a) (w0 : World) (hw0 : w0.heap.size = n1) (hd : WorkC w0 D a mv Ms) (tb : Nat) (W : World) (h0 : Ext w0 W) (hB : Blk W tb 82 #[.pointer (some ⟨D, 0, none⟩)]) (hlen : (foundL a).length ≤ 20000) :
    Calls Try.prog 49 #[.func (.func 80) #[] #[.pointer (some ⟨tb, 0, none⟩)]] W fun e W' => ∃ r, ∃ xs : List FoundX, e = .returned r ∧ xs.map (·.f) = foundL a ∧ OwnF W' W.heap.size r xs ∧ Ext w0 W' := by
  have H := Lib.hid (appendFound_any D n1 a mv Ms hok w0 hw0 hd tb W h0 hB hlen)
  clear hB hd h0
  go_enter Try.func49, Try.ntmps49
  go_wp2_with fail
  refine H.out.mono ?_
  rintro e w' ⟨r, xs, rfl, hx, hr, he⟩
  obtain ⟨A1, c1, rfl⟩ := ownsRow_slice hr
  have Hr := Lib.hid hr
  clear hr
  go_wp2
  go_ret
  exact ⟨_, xs, rfl, hx, Hr.out, he⟩
set_option maxRecDepth 20000 in
set_option maxHeartbeats 4000000 in
theorem told_any (v : Value) (a : Att) (hok : AttOk a) (hne : foundL a ≠ []) (w : World) (hv : AttVal w v a) :
    Calls Try.prog 25 #[v, .bool false] w fun e w' => ∃ p r, ∃ xs : List FoundX, e = .returned (.tuple #[p, r, .int .i64 0]) ∧ xs.map (·.f) = foundL a ∧ OwnF w' w.heap.size r xs ∧ Ext w w' := by
  have Hv := Lib.hid hv
  obtain ⟨A1, c1, A2, c2, A3, c3, rfl, -, -, -, -, -, -⟩ := hv
  have hX := Ext.alloc w (.cells #[.int .i64 a.minutes, .int .i64 a.events, .slice A1 a.clocks.length c1, .slice A2 a.reads.length c2, .slice A3 a.gaps.length c3] 27)
  have hP := Blk.new w 27 #[.int .i64 a.minutes, .int .i64 a.events, .slice A1 a.clocks.length c1, .slice A2 a.reads.length c2, .slice A3 a.gaps.length c3]
  obtain ⟨p0, p1, p2, p3, p4⟩ := hP.c5
  have hck := Lib.hid (checkC_any _ a hok _ (Hv.out.ext hX))
  have Hok := Lib.hid hok
  have HP := Lib.hid hP
  have hbd : Hid ((foundL a).length ≤ 20000) := Clk.found_bd hok.ncl fun c hc => by have := hok.cls c hc; omega
  clear hP hok
  go_enter Try.func25, Try.ntmps25
  go_wp2_with fail
  refine hck.out.mono ?_
  rintro e w1 ⟨rfl, he1⟩
  have HE1 := Lib.hid (hX.trans he1)
  have HP1 := Lib.hid (HP.out.ext he1)
  have Hv1 := Lib.hid ((Hv.out.ext hX).ext he1)
  clear p0 p1 p2 p3 p4 he1 hX HP hck
  go_upto_region 6 with fail
  obtain ⟨p0, p1, p2, p3, p4⟩ := HP1.out.c5
  refine wp_region_chain 3 [(1, true), (2, true)] [] (by kernel_rfl) (by kernel_rfl) (by kernel_rfl) ?_
  simp only [List.take, List.drop, fill, Act.put, List.setIfInBounds_toArray, List.set_cons_zero, List.set_cons_succ, Nat.reduceAdd]
  repeat (first
    | refine Floats.mut rfl ?_
    | (apply Floats.float rfl
       · intro x W he hd K Q hK
         try (have he := he (by decide); have p0 := he.cell p0; have p1 := he.cell p1; have p2 := he.cell p2; have p3 := he.cell p3; have p4 := he.cell p4)
         try simp only [edges, DepsE, List.filter_cons, List.filter_nil, Region.binds, if_true, and_true, true_and, upd, Nat.reduceEqDiff, if_false] at hd
         try simp only [hd] at hK ⊢
         have HK := Lib.hid hK; clear hK
         go_wp2_with fail
         exact HK.out))
  refine Floats.done fun W he hG => ?_
  refine Chain.cons _ rfl ?_
  intro x hd K Q hK
  try simp only [edges, DepsE, List.filter_cons, List.filter_nil, Region.binds, if_true, and_true, true_and, upd, Nat.reduceEqDiff, if_false] at hd
  try simp only [hd] at hK ⊢
  clear hd
  have HK := Lib.hid hK; clear hK
  go_wp2_with fail
  refine (allC_any W).mono ?_
  rintro e w2 ⟨rfl, he2⟩
  go_wp2_with fail
  refine HK.out _ _ (fun _ => Ext.trans he he2) ?_
  clear HK
  have hwk := Lib.hid (workedC_any _ a Hok.out w2 (Hv1.out.ext (Ext.trans he he2)))
  refine Chain.cons _ rfl ?_
  intro x hd K Q hK
  try simp only [edges, DepsE, List.filter_cons, List.filter_nil, Region.binds, if_true, and_true, true_and, upd, Nat.reduceEqDiff, if_false] at hd
  try simp only [hd] at hK ⊢
  clear hd
  have HK := Lib.hid hK; clear hK
  go_wp2_with fail
  refine hwk.out.mono ?_
  rintro e w3 ⟨D, mv, Ms, rfl, hD, hMl, hrow, hmaps, he3⟩
  go_wp2_with fail
  refine HK.out _ _ (fun _ => (Ext.trans he he2).trans he3) ?_
  clear HK
  refine Chain.nil ?_
  simp only [upd, Nat.reduceEqDiff, if_false, if_true]
  have HW := Lib.hid (show WorkC w3 D a mv Ms from ⟨hD, hMl, hrow, hmaps⟩)
  have HE3 := Lib.hid (HE1.out.trans ((Ext.trans he he2).trans he3))
  clear hD hMl hrow hmaps he3 he2 he hwk p0 p1 p2 p3 p4 hG HE1 HP1 Hv1
  have hcs := Lib.hid (cases_any D w3)
  go_wp2_with fail
  refine hcs.out.mono ?_
  rintro e w4 ⟨rfl, hB4, he4⟩
  obtain ⟨tb, htb⟩ : ∃ tb, w3.heap.size = tb := ⟨_, rfl⟩
  rw [htb] at hB4 ⊢
  have hco := Lib.hid (collectFound_any D tb a mv Ms Hok.out w3 htb HW.out tb w4 he4 hB4 hbd.out)
  have Hsz := Lib.hid (show w.heap.size ≤ w4.heap.size from Nat.le_trans HE3.out.size he4.size)
  clear hcs hB4 he4 htb
  go_wp2_with fail
  refine hco.out.mono ?_
  rintro e w5 ⟨r, xs, rfl, hxs, hr, he5⟩
  obtain ⟨Ar, cr, rfl⟩ := ownsRow_slice hr
  have hxl : ¬ xs.length = 0 := fun h => hne (by rw [← hxs, List.length_eq_zero_iff.1 h]; rfl)
  have Hr := Lib.hid hr
  have hd : ((xs.length : Int) == 0) = false := by simpa using hxl
  have Hxs := Lib.hid hxs
  have HE5 := Lib.hid (HE3.out.trans he5)
  clear hr hco hne hxs he5
  go_wp2_with fail
  refine bodyPost_ret (v := .tuple #[.pointer (some ⟨D, 0, none⟩), .slice Ar xs.length cr, .int .i64 0]) (by simp [results, Try.results25, go_sem]) rfl ⟨_, _, xs, rfl, Hxs.out, Hr.out.mono Hsz.out, HE5.out⟩
end Go.Proofs.Pet

namespace Go.Proofs.Pet
set_option linter.unusedSimpArgs false
open Go Go.RowKit Go.Maps Go.Shelf
open Go.Proofs.Clk (Cl Rd Gp Att foundL atD loF hiF)

theorem wpList_allocFound {ops : Array Oper} {rest : List Oper} {op : Oper} {a : Act} {w : World} {Q : Exit → Act → World → Prop} (hgd : op.guard = none) (ho : op.op = .alloc 120)
    (h : wpList Try.prog ops Q rest (a.put op.dst (.pointer (some ⟨w.heap.size, 0, none⟩))) (w.alloc (.cells #[.slice none 0 0, .int .i64 0, .int .i64 0, .int .i64 0, .int .i64 0, .int .i64 0, .int .i64 0, .int .i64 0, .int .i64 0, .int .i64 0, .int .i64 0, .int .i64 0, .int .i64 0, .int .i64 0, .int .i64 0, .int .i64 0, .int .i64 0, .int .i64 0, .int .i64 0, .int .i64 0, .int .i64 0, .int .i64 0, .int .i64 0, .int .i64 0, .int .i64 0, .int .i64 0] 120))) : wpList Try.prog ops Q (op :: rest) a w :=
  wpList_plain hgd fun K hK => by
    unfold Oper.wp execOp
    simp only [ho, Sem.run_bind, run_allocFound, Result.andThen_ok, Sem.run_pure]
    exact hK _ _ h
theorem wpList_foundStore {ops : Array Oper} {rest : List Oper} {op : Oper} {a : Act} {w : World} {Q : Exit → Act → World → Prop} (hgd : op.guard = none) (x y : Operand) (ho : op.op = .store 120 x y)
    (b : Nat) (hx : a.eval x = .pointer (some ⟨b, 0, none⟩)) (cs : Array Value) (hB : Blk w b 120 cs) (hcs : cs.size = 26) (g : FoundX) (hy : a.eval y = .agg (cellsX g)) (h : wpList Try.prog ops Q rest (a.put op.dst undef) (w.setRow b (cellsX g))) : wpList Try.prog ops Q (op :: rest) a w :=
  wpList_plain hgd fun K hK => by
    unfold Oper.wp execOp
    simp only [ho, hx, hy, Instr.storeAt, Instr.sureAddr, Sem.run_bind, Sem.run_pure, Result.andThen_ok, run_storeVar_row (P := Try.prog) w b 120 120 cs (cellsX g) hB (by rw [cellsX_size]; kernel_rfl) (by rw [cellsX_size, hcs]) (by rw [cellsX_list, List.all_toArray, List.all_eq_true]; exact listX_one g)]
    exact hK _ _ h
/-- a load of one that is found, out of a row of them -/
theorem wpList_foundLoad {ops : Array Oper} {rest : List Oper} {op : Oper} {a : Act} {w : World} {Q : Exit → Act → World → Prop} (hgd : op.guard = none) (x : Operand) (ho : op.op = .load 120 x)
    (b o : Nat) (hx : a.eval x = .pointer (some ⟨b, o, none⟩)) (g : FoundX) (hB : ∀ j, j < 26 → w.cell? ⟨b, o + j, none⟩ = (listX g)[j]?) (h : wpList Try.prog ops Q rest (a.put op.dst (.agg (cellsX g))) w) : wpList Try.prog ops Q (op :: rest) a w := by
  rw [cellsX_list] at h
  exact wpList_load_mid hgd 120 x ho b o hx (listX g) _ (fun j v hj => by
    have hl : (listX g).length = 26 := by simp [listX, g.hf]
    have hjl : j < 26 := by
      rcases Nat.lt_or_ge j 26 with h' | h'
      · exact h'
      · rw [List.getElem?_eq_none (by rw [hl]; exact h')] at hj; cases hj
    rw [hB j hjl, hj]) Try.underlying120 rfl (by simp only [listX, List.length_cons, List.length_map, g.hf]; kernel_rfl) h
theorem OwnF.at_ {w : World} {b : Nat} {A : Option Addr} {c n : Nat} {xs : List FoundX} (h : OwnF w b (.slice A n c) xs) (hn : xs.length = n) {k : Nat} (hk : k < n) : ∃ g x, A = some ⟨g, 0, none⟩ ∧ xs[k]? = some x ∧ ∀ j, j < 26 → w.cell? ⟨g, k * 26 + j, none⟩ = (listX x)[j]? := by
  obtain ⟨x, hx⟩ : ∃ x, xs[k]? = some x := ⟨xs[k]'(by omega), List.getElem?_eq_getElem (by omega)⟩
  unfold OwnF at h
  rw [hn] at h
  rcases h.2 with ⟨e, h0⟩ | ⟨g, cap, cur, e, _⟩
  · omega
  · cases e
    refine ⟨g, x, rfl, hx, fun j hj => ?_⟩
    rw [World.ownsRow.cellAt h _ (by omega), flatF_at xs k j x hx hj]
theorem listX_at (x : FoundX) {a b : Nat} (ha : a < 5) (hb : b < 5) : (listX x)[1 + (a * 5 + b)]? = some (.int .i64 (atD x.f a b)) := by
  unfold listX
  rw [show 1 + (a * 5 + b) = (a * 5 + b) + 1 by omega, List.getElem?_cons_succ, List.getElem?_map]
  unfold atD
  rw [show 5 * a + b = a * 5 + b by omega, List.getElem?_eq_getElem (by rw [x.hf]; omega)]
  rfl
theorem loF_step (l : List (List Int)) (k : Nat) (f : List Int) (e : Nat) (h : l[k]? = some f) : (l.take (k + 1)).foldl (fun n f => min n (-atD f e 4)) (-atD (l[0]?.getD []) e 4) = min ((l.take k).foldl (fun n f => min n (-atD f e 4)) (-atD (l[0]?.getD []) e 4)) (-atD f e 4) := by
  rw [List.take_add_one, h, List.foldl_append]; rfl
theorem hiF_step (l : List (List Int)) (k : Nat) (f : List Int) (e : Nat) (h : l[k]? = some f) : (l.take (k + 1)).foldl (fun n f => max n (atD f 4 e)) (atD (l[0]?.getD []) 4 e) = max ((l.take k).foldl (fun n f => max n (atD f 4 e)) (atD (l[0]?.getD []) 4 e)) (atD f 4 e) := by
  rw [List.take_add_one, h, List.foldl_append]; rfl

set_option maxRecDepth 20000 in
set_option maxHeartbeats 4000000 in
theorem between_any (r : Value) (xs : List FoundX) (b : Nat) (ev : Nat) (hev : ev < 4) (hne : xs ≠ []) (hbd : xs.length ≤ 20000) (hrg : ∀ x, x ∈ xs → RngD x.f) (w : World) (hr : OwnF w b r xs) :
    Calls Try.prog 27 #[r, .int .i64 4, .int .i64 (ev : Int)] w fun e w' => e = .returned (.agg #[.int .i64 (loF (xs.map (·.f)) ev), .int .i64 (hiF (xs.map (·.f)) ev)]) ∧ Ext w w' := by
  obtain ⟨A, c, rfl⟩ := ownsRow_slice hr
  have hl0 : 0 < xs.length := List.length_pos_iff.2 hne
  obtain ⟨g, x0, rfl, hx0, hc0⟩ := OwnF.at_ hr rfl hl0
  simp only [Nat.zero_mul, Nat.zero_add] at hc0
  have hX := Ext.alloc w (.cells #[.int .i64 0, .int .i64 0] 52)
  have hr0 := hrg x0 (List.mem_of_getElem? hx0)
  have c1 := hX.cell ((hc0 (1 + (ev * 5 + 4)) (by omega)).trans (listX_at x0 (by omega) (by omega)))
  have c2 := hX.cell ((hc0 (1 + (4 * 5 + ev)) (by omega)).trans (listX_at x0 (by omega) (by omega)))
  rw [show 1 + (ev * 5 + 4) = 1 + ev * 5 + 4 by omega] at c1
  rw [show 1 + (4 * 5 + ev) = 21 + ev by omega] at c2
  have hb1 := hr0 ev 4 (by omega) (by omega)
  have hb2 := hr0 4 ev (by omega) (by omega)
  obtain ⟨u, hu⟩ : ∃ u, atD x0.f ev 4 = u := ⟨_, rfl⟩
  obtain ⟨u', hu'⟩ : ∃ u, atD x0.f 4 ev = u := ⟨_, rfl⟩
  rw [hu] at c1 hb1; rw [hu'] at c2 hb2
  have Hu := Lib.hid hu; have Hu' := Lib.hid hu'; have Hr := Lib.hid hr; have Hrg := Lib.hid hrg
  have hR := Blk.new w 52 #[.int .i64 0, .int .i64 0]
  have HR := Lib.hid hR
  have HE := Lib.hid hX
  clear hu hu' hr hrg hr0 hc0 hX hR
  go_enter Try.func27, Try.ntmps27
  go_upto_region 1 with fail
  refine wp_region_chain 19 [(18, true)] [] (by kernel_rfl) (by kernel_rfl) (by kernel_rfl) ?_
  simp only [List.take, List.drop, fill, Act.put, List.setIfInBounds_toArray, List.set_cons_zero, List.set_cons_succ, Nat.reduceAdd]
  repeat (first
    | refine Floats.mut rfl ?_
    | (apply Floats.float rfl
       · intro x W he hd K Q hK
         try (have he := he (by decide); have c1 := he.cell c1; have c2 := he.cell c2)
         try simp only [edges, DepsE, List.filter_cons, List.filter_nil, Region.binds, if_true, and_true, true_and, upd, Nat.reduceEqDiff, if_false] at hd
         try simp only [hd] at hK ⊢
         have HK := Lib.hid hK; clear hK
         go_wp2_with fail
         exact HK.out))
  refine Floats.done fun W he hG => ?_
  refine Chain.cons _ rfl ?_
  intro x hd K Q hK
  try simp only [edges, DepsE, List.filter_cons, List.filter_nil, Region.binds, if_true, and_true, true_and, upd, Nat.reduceEqDiff, if_false] at hd
  try simp only [hd] at hK ⊢
  clear hd
  have HK := Lib.hid hK; clear hK
  have hX2 := Ext.alloc W (.cells #[.int .i64 0, .int .i64 0] 52)
  go_wp2_with fail
  refine HK.out _ _ (fun _ => Ext.trans he hX2) ?_
  clear HK
  refine Chain.nil ?_
  simp only [upd, Nat.reduceEqDiff, if_false, if_true]
  have hX3 := Ext.alloc W (.cells #[.int .i64 (-u), .int .i64 u'] 52)
  have hS := Lib.hid (Blk.new W 52 #[.int .i64 (-u), .int .i64 u'])
  have HR3 := Lib.hid (HR.out.ext (Ext.trans he hX3))
  have HE3 := Lib.hid (HE.out.trans (Ext.trans he hX3))
  have hws : w.heap.size < W.heap.size := HR.out.ext he |>.lt
  clear c1 c2 hX2 hX3
  go_wp2_with fail
  obtain ⟨S, hS0⟩ : ∃ S, W.heap.size = S := ⟨_, rfl⟩
  rw [hS0] at hS hws ⊢
  have hf0 : (xs.map (·.f))[0]?.getD [] = x0.f := by rw [List.getElem?_map, hx0]; rfl
  have Hf0 := Lib.hid hf0
  clear hS0 he hG HR HE hf0 hx0
  generalize W.alloc _ = W1 at *
  go_loopw [30] (fun iv wr => ∃ k : Nat, ∃ lo hi : Int, k ≤ xs.length ∧ iv = .int .i64 (k : Int) ∧ (-240 ≤ lo ∧ lo ≤ 240) ∧ (-240 ≤ hi ∧ hi ≤ 240) ∧ Hid (((xs.map (·.f)).take k).foldl (fun n f => min n (-atD f ev 4)) (-atD ((xs.map (·.f))[0]?.getD []) ev 4) = lo) ∧ Hid (((xs.map (·.f)).take k).foldl (fun n f => max n (atD f 4 ev)) (atD ((xs.map (·.f))[0]?.getD []) 4 ev) = hi) ∧ Hid (Blk wr S 52 #[.int .i64 lo, .int .i64 hi]) ∧ Hid (Blk wr w.heap.size 52 #[.int .i64 0, .int .i64 0]) ∧ Hid (Ext w wr)) (fun iv _ => xs.length - (intOf iv).toNat)
  case atStart => exact ⟨0, -u, u', Nat.zero_le _, rfl, by omega, hb2, Lib.hid (by rw [List.take_zero, Hf0.out, Hu.out]; rfl), Lib.hid (by rw [List.take_zero, Hf0.out, Hu'.out]; rfl), hS, HR3, HE3⟩
  case round =>
    clear hS HR3 HE3 Hu Hu' hb1 hb2
    obtain ⟨k, lo, hi, hk, rfl, hlo, hhi, hL, hH, hS, hR, hE⟩ := hrel
    by_cases hlk : k < xs.length
    · -- <<A
      obtain ⟨g', x, e, hx, hc⟩ := OwnF.at_ (Hr.out.ext hE.out) rfl hlk
      cases e
      have hrx := Hrg.out x (List.mem_of_getElem? hx)
      have hmx : (xs.map (·.f))[k]? = some x.f := by rw [List.getElem?_map, hx]; rfl
      have hl1 := loF_step _ k x.f ev hmx
      have hh1 := hiF_step _ k x.f ev hmx
      rw [hL.out] at hl1
      rw [hH.out] at hh1
      have hb1 := hrx ev 4 (by omega) (by omega)
      have hb2 := hrx 4 ev (by omega) (by omega)
      have hXb := (Ext.setRow (Ext.alloc wr (.cells #[.slice none 0 0, .int .i64 0, .int .i64 0, .int .i64 0, .int .i64 0, .int .i64 0, .int .i64 0, .int .i64 0, .int .i64 0, .int .i64 0, .int .i64 0, .int .i64 0, .int .i64 0, .int .i64 0, .int .i64 0, .int .i64 0, .int .i64 0, .int .i64 0, .int .i64 0, .int .i64 0, .int .i64 0, .int .i64 0, .int .i64 0, .int .i64 0, .int .i64 0, .int .i64 0] 120)) (Nat.le_refl _) (cellsX x))
      have hBk := Blk.new wr 120 #[.slice none 0 0, .int .i64 0, .int .i64 0, .int .i64 0, .int .i64 0, .int .i64 0, .int .i64 0, .int .i64 0, .int .i64 0, .int .i64 0, .int .i64 0, .int .i64 0, .int .i64 0, .int .i64 0, .int .i64 0, .int .i64 0, .int .i64 0, .int .i64 0, .int .i64 0, .int .i64 0, .int .i64 0, .int .i64 0, .int .i64 0, .int .i64 0, .int .i64 0, .int .i64 0]
      have hNx := Blk.row hBk (cellsX x)
      have c1 : ((wr.alloc (.cells #[.slice none 0 0, .int .i64 0, .int .i64 0, .int .i64 0, .int .i64 0, .int .i64 0, .int .i64 0, .int .i64 0, .int .i64 0, .int .i64 0, .int .i64 0, .int .i64 0, .int .i64 0, .int .i64 0, .int .i64 0, .int .i64 0, .int .i64 0, .int .i64 0, .int .i64 0, .int .i64 0, .int .i64 0, .int .i64 0, .int .i64 0, .int .i64 0, .int .i64 0, .int .i64 0] 120)).setRow wr.heap.size (cellsX x)).cell? ⟨wr.heap.size, 1 + ev * 5 + 4, none⟩ = some (.int .i64 (atD x.f ev 4)) := by
        rw [hNx.cell, cellsX_list, List.getElem?_toArray, ← listX_at x (show ev < 5 by omega) (show 4 < 5 by omega)]; rfl
      have c2 : ((wr.alloc (.cells #[.slice none 0 0, .int .i64 0, .int .i64 0, .int .i64 0, .int .i64 0, .int .i64 0, .int .i64 0, .int .i64 0, .int .i64 0, .int .i64 0, .int .i64 0, .int .i64 0, .int .i64 0, .int .i64 0, .int .i64 0, .int .i64 0, .int .i64 0, .int .i64 0, .int .i64 0, .int .i64 0, .int .i64 0, .int .i64 0, .int .i64 0, .int .i64 0, .int .i64 0, .int .i64 0] 120)).setRow wr.heap.size (cellsX x)).cell? ⟨wr.heap.size, 21 + ev, none⟩ = some (.int .i64 (atD x.f 4 ev)) := by
        rw [hNx.cell, cellsX_list, List.getElem?_toArray, ← listX_at x (show 4 < 5 by omega) (show ev < 5 by omega), show 1 + (4 * 5 + ev) = 21 + ev by omega]
      obtain ⟨u, hu⟩ : ∃ u, atD x.f ev 4 = u := ⟨_, rfl⟩
      obtain ⟨u', hu'⟩ : ∃ u, atD x.f 4 ev = u := ⟨_, rfl⟩
      rw [hu] at c1 hb1 hl1; rw [hu'] at c2 hb2 hh1
      have Hl1 := Lib.hid hl1; have Hh1 := Lib.hid hh1
      have HS2 := Lib.hid (hS.out.ext hXb)
      have HR2 := Lib.hid (hR.out.ext hXb)
      have HE2 := Lib.hid (hE.out.trans hXb)
      clear hl1 hh1 hrx hx hmx hL hH hu hu' hNx hXb hS hR hE
      go_wp2_with (first
        | refine wpList_foundLoad rfl _ rfl g (k * 26) rfl x hc ?_
        | refine wpList_allocFound rfl rfl ?_
        | refine wpList_foundStore rfl _ _ rfl wr.heap.size rfl #[.slice none 0 0, .int .i64 0, .int .i64 0, .int .i64 0, .int .i64 0, .int .i64 0, .int .i64 0, .int .i64 0, .int .i64 0, .int .i64 0, .int .i64 0, .int .i64 0, .int .i64 0, .int .i64 0, .int .i64 0, .int .i64 0, .int .i64 0, .int .i64 0, .int .i64 0, .int .i64 0, .int .i64 0, .int .i64 0, .int .i64 0, .int .i64 0, .int .i64 0, .int .i64 0] hBk rfl x rfl ?_)
      obtain ⟨X, hX0⟩ : ∃ X, wr.heap.size = X := ⟨_, rfl⟩
      rw [hX0] at c1 c2 HS2 HR2 HE2 ⊢
      clear hX0 hBk hc
      obtain ⟨s0, s1⟩ := HS2.out.c2
      generalize World.setRow _ _ _ = w5 at *
      refine wp_region_chain 21 [(9, true), (10, true), (20, true)] [] (by kernel_rfl) (by kernel_rfl) (by kernel_rfl) ?_
      simp only [List.take, List.drop, fill, Act.put, List.setIfInBounds_toArray, List.set_cons_zero, List.set_cons_succ, Nat.reduceAdd]
      repeat (first
        | refine Floats.mut rfl ?_
        | (apply Floats.float rfl
           · intro x W he hd K Q hK
             try (have he := he (by decide); have s0 := he.cell s0; have s1 := he.cell s1; have c1 := he.cell c1; have c2 := he.cell c2)
             try simp only [edges, DepsE, List.filter_cons, List.filter_nil, Region.binds, if_true, and_true, true_and, upd, Nat.reduceEqDiff, if_false] at hd
             try simp only [hd] at hK ⊢
             have HK := Lib.hid hK; clear hK
             go_wp2_with fail
             exact HK.out))
      refine Floats.done fun W he hG => ?_
      have hb5 := Ext.alloc W (.cells #[.int .i64 (-u)] 3)
      have hB5 := Blk.new W 3 #[.int .i64 (-u)]
      have hg := Lib.hid (leastC_any lo (some ⟨W.heap.size, 0, none⟩) 1 1 [-u] rfl (min lo (-u)) rfl (W.alloc (.cells #[.int .i64 (-u)] 3)) (by simp [maxLen]) (fun k hk => by
        match k, hk with
        | 0, _ => exact ⟨_, 0, rfl, by rw [hB5.cell]; rfl⟩))
      have heX := Ext.trans he hb5
      clear hb5 hB5
      refine Chain.cons _ rfl ?_
      intro x hd K Q hK
      try simp only [edges, DepsE, List.filter_cons, List.filter_nil, Region.binds, if_true, and_true, true_and, upd, Nat.reduceEqDiff, if_false] at hd
      try simp only [hd] at hK ⊢
      clear hd
      have HK := Lib.hid hK; clear hK
      go_wp2_with fail
      refine HK.out _ _ (fun _ => heX) ?_
      clear HK
      refine Chain.cons _ rfl ?_
      intro x hd K Q hK
      try simp only [edges, DepsE, List.filter_cons, List.filter_nil, Region.binds, if_true, and_true, true_and, upd, Nat.reduceEqDiff, if_false] at hd
      try simp only [hd] at hK ⊢
      clear hd
      have HK := Lib.hid hK; clear hK
      go_wp2_with fail
      refine hg.out.mono ?_
      rintro e w6 ⟨rfl, rfl⟩
      clear hg
      go_wp2_with fail
      refine HK.out _ _ (fun _ => heX) ?_
      clear HK
      refine Chain.cons _ rfl ?_
      intro x hd K Q hK
      try simp only [edges, DepsE, List.filter_cons, List.filter_nil, Region.binds, if_true, and_true, true_and, upd, Nat.reduceEqDiff, if_false] at hd
      try simp only [hd] at hK ⊢
      clear hd
      have HK := Lib.hid hK; clear hK
      go_wp2_with fail
      refine HK.out _ _ (fun _ => heX) ?_
      clear HK
      refine Chain.nil ?_
      simp only [upd, Nat.reduceEqDiff, if_false, if_true]
      have HS6 := Lib.hid (HS2.out.ext heX)
      have HR6 := Lib.hid (HR2.out.ext heX)
      have HE6 := Lib.hid (HE2.out.trans heX)
      have q0 := heX.cell s0; have q1 := heX.cell s1
      have f0 := HS6.out.frozen 0; have f1 := HS6.out.frozen 1
      clear HS2 HR2 HE2 s0 s1 c1 c2 he hG heX
      generalize World.alloc _ _ = w7 at *
      have hB1 := HS6.out.set_ 0 (.int .i64 (min lo (-u)))
      have hB2 := Lib.hid (hB1.set_ 1 (.int .i64 (max hi u')))
      simp at hB2
      have HRf := Lib.hid ((HR6.out.far (p := ⟨S, 0, none⟩) (show w.heap.size ≠ S by omega) (.int .i64 (min lo (-u)))).far (p := ⟨S, 1, none⟩) (show w.heap.size ≠ S by omega) (.int .i64 (max hi u')))
      have HEf := Lib.hid (Below.setCell (Below.setCell HE6.out (p := ⟨S, 0, none⟩) (show w.heap.size ≤ S by omega) (.int .i64 (min lo (-u)))) (p := ⟨S, 1, none⟩) (show w.heap.size ≤ S by omega) (.int .i64 (max hi u')))
      clear hB1
      go_wp2_with fail
      go_roundw
      case rel => exact ⟨k + 1, min lo (-u), max hi u', by omega, by go_num, by omega, by omega, Hl1, Hh1, hB2, HRf, HEf⟩
      case measure => simp [intOf]; omega
      -- >>
    · -- <<Z
      obtain rfl : k = xs.length := by omega
      have Hxl := Lib.hid (show (xs.map (·.f)).take xs.length = xs.map (·.f) from List.take_of_length_le (by rw [List.length_map]; exact Nat.le_refl _))
      obtain ⟨s0, s1⟩ := hS.out.c2
      obtain ⟨r0, r1⟩ := hR.out.c2
      have f0 := hR.out.frozen 0; have f1 := hR.out.frozen 1
      go_wp2_with fail
      have hRf := hR.out.frozen 0
      have hlt := hR.out.lt
      have e0 : loF (xs.map (·.f)) ev = lo := by have := hL.out; rwa [Hxl.out] at this
      have e1 : hiF (xs.map (·.f)) ev = hi := by have := hH.out; rwa [Hxl.out] at this
      have hB1 := hR.out.set_ 0 (.int .i64 lo)
      have hB2 := hB1.set_ 1 (.int .i64 hi)
      simp at hB2
      obtain ⟨z0, z1⟩ := hB2.c2
      have hE2 : Ext w ((wr.setCell ⟨w.heap.size, 0, none⟩ (.int .i64 lo)).setCell ⟨w.heap.size, 1, none⟩ (.int .i64 hi)) := Below.setCell (Below.setCell hE.out (p := ⟨w.heap.size, 0, none⟩) (Nat.le_refl _) _) (p := ⟨w.heap.size, 1, none⟩) (Nat.le_refl _) _
      refine bodyPost_ret (v := .agg #[.int .i64 lo, .int .i64 hi]) ?_ rfl ⟨by rw [e0, e1], hE2⟩
      simp [results, Try.results27, go_sem, z0, z1]
      -- >>
theorem RngD.read {a : Att} (hm : a.minutes ≤ 240) {c s q : Int} : ∀ {rs : List Rd} {f f1 : List Int}, (∀ r, r ∈ rs → 0 ≤ r.event ∧ r.event < 4) → f.length = 25 → RngD f → Clk.readL a c s q rs f = some f1 → RngD f1
  | [], f, f1, _, _, h, e => by rw [Clk.readL] at e; cases e; exact h
  | r :: rs, f, f1, hr, hf, h, e => by
    obtain ⟨e1, e2⟩ := hr r (List.mem_cons_self ..)
    have hr' : ∀ r, r ∈ rs → 0 ≤ r.event ∧ r.event < 4 := fun r hm => hr r (List.mem_cons_of_mem _ hm)
    rw [Clk.readL] at e
    by_cases h1 : r.clock = c
    · rw [if_neg (by simpa using h1)] at e
      by_cases h2 : (Clk.whenF a s q r.shows).1 > (Clk.whenF a s q r.shows).2
      · rw [if_pos h2] at e; cases e
      · rw [if_neg h2] at e
        have hb := Clk.whenT_lo s q r.shows (a.minutes + 1).toNat
        have hb2 := Clk.whenT_has.whenT_bd (s := s) (g := q) (n := r.shows) 0 0 s q r.shows (a.minutes + 1).toNat
        have hwf : Clk.whenT s q r.shows (a.minutes + 1).toNat = Clk.whenF a s q r.shows := rfl
        rw [hwf] at hb hb2
        have hb3 := hb2 (by omega)
        exact RngD.read hm hr' (by rw [Clk.minD_len, Clk.minD_len, hf]) (RngD.min_ (by rw [Clk.minD_len, hf]) (RngD.min_ hf h (by omega) (by omega) (by omega)) (by omega) (by omega) (by omega)) e
    · rw [if_pos h1] at e
      exact RngD.read hm hr' hf h e
/-- in all cases distances are in range -/
theorem RngD.cases {a : Att} (hok : AttOk a) : ∀ (n c : Nat) {f g : List Int}, f.length = 25 → RngD f → g ∈ Clk.casesF a n c f → RngD g
  | 0, _, f, g, _, h, hg => by rw [Clk.casesF, List.mem_singleton] at hg; subst hg; exact h
  | n + 1, c, f, g, hf, h, hg => by
    rw [Clk.casesF] at hg
    obtain ⟨s, -, hg⟩ := List.mem_flatMap.1 hg
    obtain ⟨q, -, hg⟩ := List.mem_flatMap.1 hg
    cases hn : Clk.nextD a (c : Int) s q f with
    | none => rw [hn] at hg; cases hg
    | some f2 =>
      rw [hn] at hg
      have h2 : RngD f2 ∧ f2.length = 25 := by
        unfold Clk.nextD at hn
        cases hr : Clk.readL a (c : Int) s q a.reads f with
        | none => rw [hr] at hn; cases hn
        | some f1 =>
          rw [hr] at hn
          have hl1 := Clk.readL_len hr
          have hcl := (Clk.closedO_some (by rw [hl1, hf])).1 hn
          exact ⟨RngD.of_closed (by rw [hl1, hf]) (RngD.read hok.mins.2 (fun r hm => by have := hok.rds r hm; have := hok.evs; omega) hf h hr) hcl, hcl.len (by rw [hl1, hf])⟩
      exact RngD.cases hok n (c + 1) h2.2 h2.1 hg
theorem RngD.found {a : Att} (hok : AttOk a) : ∀ g, g ∈ foundL a → RngD g := by
  intro g hg
  unfold foundL at hg
  cases hc : Clk.closedO (Clk.freeD a) with
  | none => rw [hc] at hg; cases hg
  | some f =>
    rw [hc] at hg
    have hcl := (Clk.closedO_some (Clk.freeD_len a)).1 hc
    exact RngD.cases hok _ 0 (hcl.len (Clk.freeD_len a)) (RngD.of_closed (Clk.freeD_len a) (RngD.free hok) hcl) hg
set_option maxRecDepth 20000 in
set_option maxHeartbeats 4000000 in
theorem Time_any (v : Value) (a : Att) (hok : AttOk a) (hne : foundL a ≠ []) (ev : Nat) (hev : (ev : Int) < a.events) (w : World) (hv : AttVal w v a) :
    Calls Try.prog 12 #[v, .int .i64 (ev : Int)] w fun e w' => e = .returned (.tuple #[.agg #[.int .i64 (loF (foundL a) ev), .int .i64 (hiF (foundL a) ev)], .int .i64 0]) ∧ Ext w w' := by
  have Hv := Lib.hid hv
  obtain ⟨A1, c1, A2, c2, A3, c3, rfl, -, -, -, -, -, -⟩ := hv
  have hev2 := hok.evs
  have hX := (Ext.alloc w (.cells #[.int .i64 a.minutes, .int .i64 a.events, .slice A1 a.clocks.length c1, .slice A2 a.reads.length c2, .slice A3 a.gaps.length c3] 27)).trans (Ext.alloc _ (.cells #[.int .i64 0, .int .i64 0] 52))
  have hP := (Blk.new w 27 #[.int .i64 a.minutes, .int .i64 a.events, .slice A1 a.clocks.length c1, .slice A2 a.reads.length c2, .slice A3 a.gaps.length c3]).alloc (.cells #[.int .i64 0, .int .i64 0] 52)
  have hR := Blk.new (w.alloc (.cells #[.int .i64 a.minutes, .int .i64 a.events, .slice A1 a.clocks.length c1, .slice A2 a.reads.length c2, .slice A3 a.gaps.length c3] 27)) 52 #[.int .i64 0, .int .i64 0]
  rw [World.size_alloc] at hR
  obtain ⟨p0, p1, p2, p3, p4⟩ := hP.c5
  have HR := Lib.hid hR; have HE := Lib.hid hX; have Hok := Lib.hid hok
  have hvx := Lib.hid (Hv.out.ext hX)
  have hq : inB (ev : Int) 0 (a.events - 1) = true := by unfold inB; simp; omega
  have hevt := Lib.hid fun W (he : Ext _ W) => eventC_any a _ (ev : Int) true hq (by omega) W (hvx.out.ext he)
  have htld := Lib.hid fun W (he : Ext _ W) => told_any _ a Hok.out hne W (hvx.out.ext he)
  have hne' := Lib.hid hne
  clear hP hX hR hok hq hne
  go_enter Try.func12, Try.ntmps12
  go_upto_region 1 with fail
  generalize World.alloc _ _ = w1 at *
  refine wp_region_tree 12 [(3, true), (5, true)] [] (by kernel_rfl) (by kernel_rfl) (by kernel_rfl) (ds := [0, 1, 2]) (by kernel_rfl) ?_
  simp only [List.take, List.drop, fill, Act.put, List.setIfInBounds_toArray, List.set_cons_zero, List.set_cons_succ, Nat.reduceAdd]
  repeat (first
    | (apply Unlock.float rfl
       · intro x W he hd K Qr hK
         try (have he := he (by decide); have p0 := he.cell p0; have p1 := he.cell p1; have p2 := he.cell p2; have p3 := he.cell p3; have p4 := he.cell p4)
         try simp only [edges, DepsE, List.filter_cons, List.filter_nil, Region.binds, if_true, and_true, true_and, upd, Nat.reduceEqDiff, if_false] at hd
         try simp only [hd] at hK ⊢
         have HK := Lib.hid hK; clear hK
         go_wp2_with fail
         exact HK.out))
  refine Unlock.nil ?_
  intro W he hG
  refine Tree.next (ks := [(3, true)]) (by kernel_rfl) ?_
  refine TSteps.cons _ rfl ?_ trivial
  intro x hd K Qr hK
  try simp only [edges, DepsE, List.filter_cons, List.filter_nil, Region.binds, if_true, and_true, true_and, upd, Nat.reduceEqDiff, if_false] at hd
  try simp only [hd] at hK ⊢
  clear hd
  have HK := Lib.hid hK; clear hK
  go_wp2_with fail
  refine (hevt.out W he).mono ?_
  rintro e w2 ⟨rfl, he2⟩
  go_wp2_with fail
  refine HK.out _ _ (fun _ => Ext.trans he he2) ?_
  clear HK
  refine Unlock.of (ds := [4]) (by kernel_rfl) ?_
  repeat (first
    | (apply Unlock.float rfl
       · intro x W he hd K Qr hK
         try (have he := he (by decide); skip)
         try simp only [edges, DepsE, List.filter_cons, List.filter_nil, Region.binds, if_true, and_true, true_and, upd, Nat.reduceEqDiff, if_false] at hd
         try simp only [hd] at hK ⊢
         have HK := Lib.hid hK; clear hK
         go_wp2_with fail
         exact HK.out))
  refine Unlock.nil ?_
  refine Tree.next (ks := [(5, true)]) (by kernel_rfl) ?_
  refine TSteps.cons _ rfl ?_ trivial
  intro x hd K Qr hK
  try simp only [edges, DepsE, List.filter_cons, List.filter_nil, Region.binds, if_true, and_true, true_and, upd, Nat.reduceEqDiff, if_false] at hd
  try simp only [hd] at hK ⊢
  clear hd
  have HK := Lib.hid hK; clear hK
  go_wp2_with fail
  refine (htld.out w2 (Ext.trans he he2)).mono ?_
  rintro e w3 ⟨pv, r, xs, rfl, hxs, hr, he3⟩
  obtain ⟨Ar, cr, rfl⟩ := ownsRow_slice hr
  go_wp2_with fail
  refine HK.out _ _ (fun _ => Ext.trans (Ext.trans he he2) he3) ?_
  clear HK
  refine Unlock.of (ds := [6, 7, 8, 9, 10, 11]) (by kernel_rfl) ?_
  repeat (first
    | (apply Unlock.float rfl
       · intro x W he hd K Qr hK
         try (have he := he (by decide); skip)
         try simp only [edges, DepsE, List.filter_cons, List.filter_nil, Region.binds, if_true, and_true, true_and, upd, Nat.reduceEqDiff, if_false] at hd
         try simp only [hd] at hK ⊢
         have HK := Lib.hid hK; clear hK
         go_wp2_with fail
         exact HK.out))
  refine Unlock.nil ?_
  refine Tree.nil (by kernel_rfl) ?_
  simp only [upd, Nat.reduceEqDiff, if_false, if_true]
  have hX3 := Ext.trans (Ext.trans he he2) he3
  have HR3 := Lib.hid (HR.out.ext hX3)
  have HE3 := Lib.hid (HE.out.trans hX3)
  have hxl : xs.length ≤ 20000 := by
    have h1 := Clk.found_bd Hok.out.ncl (fun c hc => by have := Hok.out.cls c hc; omega)
    have h2 := congrArg List.length hxs
    rw [List.length_map] at h2
    omega
  have hbt := Lib.hid (between_any _ xs _ ev (by omega) (fun h => hne'.out (by rw [← hxs, h]; rfl)) hxl (fun x hx => RngD.found Hok.out x.f (by rw [← hxs]; exact List.mem_map_of_mem hx)) w3 hr)
  rw [hxs] at hbt
  have hxl' := Lib.hid hxl
  clear p0 p1 p2 p3 p4 he he2 he3 hX3 hG hr hxs hxl hevt htld HR HE hvx
  go_wp2_with fail
  refine hbt.out.mono ?_
  rintro e w4 ⟨rfl, he4⟩
  have hR4 := HR3.out.ext he4
  have hE4 := HE3.out.trans he4
  obtain ⟨r0, r1⟩ := hR4.c2
  have f0 := hR4.frozen 0; have f1 := hR4.frozen 1
  generalize hlo : loF (foundL a) ev = lo at *
  generalize hhi : hiF (foundL a) ev = hi at *
  have hB2 := (hR4.set_ 0 (.int .i64 lo)).set_ 1 (.int .i64 hi)
  simp at hB2
  obtain ⟨z0, z1⟩ := hB2.c2
  have hE5 : Ext w ((w4.setCell ⟨w.heap.size + 1, 0, none⟩ (.int .i64 lo)).setCell ⟨w.heap.size + 1, 1, none⟩ (.int .i64 hi)) := Below.setCell (Below.setCell hE4 (p := ⟨w.heap.size + 1, 0, none⟩) (Nat.le_succ _) _) (p := ⟨w.heap.size + 1, 1, none⟩) (Nat.le_succ _) _
  have Hlo := Lib.hid hlo; have Hhi := Lib.hid hhi
  clear hlo hhi
  go_wp2_with fail
  refine bodyPost_ret (v := .tuple #[.agg #[.int .i64 lo, .int .i64 hi], .int .i64 0]) ?_ rfl ⟨by rw [Hlo.out, Hhi.out], hE5⟩
  simp [results, Try.results12, go_sem, z0, z1]
end Go.Proofs.Pet
