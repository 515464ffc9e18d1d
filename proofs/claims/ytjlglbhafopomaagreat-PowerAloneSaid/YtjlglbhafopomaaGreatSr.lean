/-
  What can be read of a law's bytes and small numbers.
-/
import Derived.Test.YtjlglbhafopomaaGreatB0
import Derived.Test.YtjlglbhafopomaaGreatO0
namespace Go.Proofs.Pet
open Go Go.ChangeShapes Go.WideShapes Go.ChangeAt Go.RowKit

theorem wf_u8 {n : Int} (h : (Lit.int .u8 n).wf = true) : 0 ≤ n ∧ n < 256 := by
  simp only [Lit.wf, Bool.and_eq_true, decide_eq_true_eq] at h
  have h1 : IntKind.u8.min = 0 := by decide
  have h2 : IntKind.u8.max = 255 := by decide
  omega
set_option maxRecDepth 100000 in
theorem bytes_reads {H : Type} {enc : TypeId × Value → H} {w : World} {base : Nat} {spare : Nat → Bool} {held : Bool} {r : Reach} {b0 : Nat} {v : Value} {d : DataW H} {p : List MemPlace} (hv : Value.okWide Tryz.prog w r b0 22 v) (h : DataW.Trod enc Tryz.prog w base spare held 22 v d p) : BytesIn w v := by
  obtain ⟨n, hn⟩ := h
  obtain ⟨a, l, c, rfl⟩ := okWide_slice Tryz.underlying22 hv
  rcases open_ints Tryz.underlying22 Tryz.underlying5 (by kernel_rfl) hn with ⟨h1, _⟩ | ⟨a', len, cap, zs, h1, _, h2, h3, h4, _, h5, _⟩
  · injection h1 with h1 _
    exact ⟨none, 0, 0, h1, Nat.le_refl _, Nat.zero_le _, fun k hk => by omega⟩
  · injection h1 with h1 _
    refine ⟨some a', len, cap, h1, h2, h3, fun k hk => ?_⟩
    have hz : len ≤ zs.length := by rw [h4]; split <;> omega
    have hcell := h5 k (by omega)
    have hs := spot_none (h5 0 (by omega))
    obtain ⟨b, o, s⟩ := a'
    have hs' : s = none := hs
    subst hs'
    rw [addr_add] at hcell
    exact ⟨b, o, _, rfl, hcell⟩
end Go.Proofs.Pet
