/-
  No cell of these rows narrows 'for every input' (looked for: loops, veiled, ifaces, maps, wideKeys, modest, calm, conditions, laid).
  DERIVED. THE GIVEN ROWS OF THIS SEAT. 3 by the template 'for every input the law returns true; each argument reads behind the call as it read before'; 0 by the template 'total and deterministic' (their statements: YtfglamdbnclcaaaGreatTotals.lean).
  GIVEN WITH THE SEED: the statements are not yours to turn. If you find one false, say at which input.
  Laid BY PROGRAM, IN A SANDBOX (cutbox-rows.mjs): the forced cells as the released guide's own fill.sh prints them over the translation 5d3358304dcfbfe2… (all of the seat's roots in one cut). By AI agents, Wed Nov 11 2026. No macro, syntax, notation, axiom, sorry.
-/
import Derived.Test.YtfglamdbnclcaaaGreatChecked
import GoSem.Claim
import GoSem.ClaimJoined
import GoSem.ClaimMapViews
import Derived.JoinedTies
import Derived.KernelRfl
namespace Go.Proofs.YtfglamdbnclcaaaGreat
/- THE CELL 'sum', in the pinned program and in every row, IS THE sha256 OF THE DUMP (.gsa) THAT YtfglamdbnclcaaaGreatProg.lean LOADS. Nothing in Lean hashes anything: it is a label: what it is worth is what the hold of that sum in a sandbox is worth. -/
noncomputable def Tryz.pinned : Pinned := { name := "ytfglamdbnclcaaagreat", sum := "5d3358304dcfbfe2f11c104fd30f9aead5e41f4e61ab9bfeee820c7448e4beed", checked := Tryz.checked }
namespace Rows
def none {H : Type} : Left H := { results := [], args := [] }

/-- 'petershamlaw05.LoomSmall': WHATEVER THE INPUT: true; the input reads as it did. -/
def loomSmallSpec : ChangeSpec := { name := "loomSmall", fn := fun _ => fun
  | [] => { results := [.lit (.bool true)], args := [] }
  | _ => none }
def loomSmallRow : OpenClaim := { program := "ytfglamdbnclcaaagreat", sum := "5d3358304dcfbfe2f11c104fd30f9aead5e41f4e61ab9bfeee820c7448e4beed", func := "petersham/petershamlaw05.LoomSmall", spec := "loomSmall", unfollowed := true, recurses := true, apart := false }
def LoomSmallSaid : Prop := loomSmallRow.holds Tryz.pinned (OpenSpec.ofChange loomSmallSpec)

/-- ITS FALSE NEIGHBOUR: 'it returns false'. Refute it at one input. -/
def loomSmallWrong : ChangeSpec := { name := "loomSmall", fn := fun _ => fun
  | [] => { results := [.lit (.bool false)], args := [] }
  | _ => none }
def LoomSmallWrongFalsely : Prop := loomSmallRow.holds Tryz.pinned (OpenSpec.ofChange loomSmallWrong)

/-- 'petershamlaw05.LoomBounded': WHATEVER THE INPUT: true; the input reads as it did. -/
def loomBoundedSpec : ChangeSpec := { name := "loomBounded", fn := fun _ => fun
  | [d1, d2] => { results := [.lit (.bool true)], args := [d1, d2] }
  | _ => none }
def loomBoundedRow : OpenClaim := { program := "ytfglamdbnclcaaagreat", sum := "5d3358304dcfbfe2f11c104fd30f9aead5e41f4e61ab9bfeee820c7448e4beed", func := "petersham/petershamlaw05.LoomBounded", spec := "loomBounded", inPlace := ["slices.overlaps[int]"], unfollowed := true, recurses := true, apart := false }
def LoomBoundedSaid : Prop := loomBoundedRow.holds Tryz.pinned (OpenSpec.ofChange loomBoundedSpec)

/-- ITS FALSE NEIGHBOUR: 'it returns false'. Refute it at one input. -/
def loomBoundedWrong : ChangeSpec := { name := "loomBounded", fn := fun _ => fun
  | [d1, d2] => { results := [.lit (.bool false)], args := [d1, d2] }
  | _ => none }
def LoomBoundedWrongFalsely : Prop := loomBoundedRow.holds Tryz.pinned (OpenSpec.ofChange loomBoundedWrong)

/-- 'petershamlaw05.LoomWoven': WHATEVER THE INPUT: true; the input reads as it did. -/
def loomWovenSpec : ChangeSpec := { name := "loomWoven", fn := fun _ => fun
  | [d1, d2] => { results := [.lit (.bool true)], args := [d1, d2] }
  | _ => none }
def loomWovenRow : OpenClaim := { program := "ytfglamdbnclcaaagreat", sum := "5d3358304dcfbfe2f11c104fd30f9aead5e41f4e61ab9bfeee820c7448e4beed", func := "petersham/petershamlaw05.LoomWoven", spec := "loomWoven", inPlace := ["slices.overlaps[int]"], unfollowed := true, recurses := true, apart := false }
def LoomWovenSaid : Prop := loomWovenRow.holds Tryz.pinned (OpenSpec.ofChange loomWovenSpec)

/-- ITS FALSE NEIGHBOUR: 'it returns false'. Refute it at one input. -/
def loomWovenWrong : ChangeSpec := { name := "loomWoven", fn := fun _ => fun
  | [d1, d2] => { results := [.lit (.bool false)], args := [d1, d2] }
  | _ => none }
def LoomWovenWrongFalsely : Prop := loomWovenRow.holds Tryz.pinned (OpenSpec.ofChange loomWovenWrong)

/- THE SECOND FORM. 'bulk': how many values and letters a reading holds, each counted each time it is reached (what is shared counts as often as it is met; a slice's spare places count too). A statement '..UptoSaid' is the law's where the arguments, and the package variables that the reading takes, are together of bulk at most 1048576: NARROWER than '..Said'. Prove '..Said' where nothing that the law and all that it calls make is longer than what came in: it says more and counts as full. Else prove '..UptoSaid'. A law counts once. -/
mutual
def uptoBulk {H : Type} : DataW H → Nat
  | .lit (.string bytes) => bytes.length + 1
  | .lit _ => 1
  | .nil => 1
  | .ptr d => uptoBulk d + 1
  | .slice elems spare => uptoBulkAll elems + uptoBulkAll spare + 1
  | .agg parts => uptoBulkAll parts + 1
  | .iface _ d => uptoBulk d + 1
  | .map entries => uptoBulkEntries entries + 1
  | .held _ => 1
def uptoBulkAll {H : Type} : List (DataW H) → Nat
  | [] => 0
  | d :: r => uptoBulk d + uptoBulkAll r
def uptoBulkEntries {H : Type} : List (Lit × DataW H) → Nat
  | [] => 0
  | x :: r => uptoBulkEntry x + uptoBulkEntries r
def uptoBulkEntry {H : Type} : Lit × DataW H → Nat
  | (.string bytes, d) => bytes.length + uptoBulk d + 1
  | (_, d) => uptoBulk d + 1
 end
def uptoSmall : (H : Type) → List (DataW H) → Bool := fun _ ds => decide (uptoBulkAll ds ≤ 1048576)
def OpenSpec.upto (s : _root_.Go.ChangeSpec) : _root_.Go.OpenSpec := { _root_.Go.OpenSpec.ofChange s with cond := some uptoSmall }

/-- 'petershamlaw05.LoomSmall', WHERE WHAT IT READS IS OF BULK AT MOST 1048576: true; the input reads as it did. -/
def loomSmallUptoRow : OpenClaim := { program := "ytfglamdbnclcaaagreat", sum := "5d3358304dcfbfe2f11c104fd30f9aead5e41f4e61ab9bfeee820c7448e4beed", func := "petersham/petershamlaw05.LoomSmall", spec := "loomSmall", unfollowed := true, recurses := true, apart := false, narrowed := true }
def LoomSmallUptoSaid : Prop := loomSmallUptoRow.holds Tryz.pinned (OpenSpec.upto loomSmallSpec)

/-- 'petershamlaw05.LoomBounded', WHERE WHAT IT READS IS OF BULK AT MOST 1048576: true; the input reads as it did. -/
def loomBoundedUptoRow : OpenClaim := { program := "ytfglamdbnclcaaagreat", sum := "5d3358304dcfbfe2f11c104fd30f9aead5e41f4e61ab9bfeee820c7448e4beed", func := "petersham/petershamlaw05.LoomBounded", spec := "loomBounded", inPlace := ["slices.overlaps[int]"], unfollowed := true, recurses := true, apart := false, narrowed := true }
def LoomBoundedUptoSaid : Prop := loomBoundedUptoRow.holds Tryz.pinned (OpenSpec.upto loomBoundedSpec)

/-- 'petershamlaw05.LoomWoven', WHERE WHAT IT READS IS OF BULK AT MOST 1048576: true; the input reads as it did. -/
def loomWovenUptoRow : OpenClaim := { program := "ytfglamdbnclcaaagreat", sum := "5d3358304dcfbfe2f11c104fd30f9aead5e41f4e61ab9bfeee820c7448e4beed", func := "petersham/petershamlaw05.LoomWoven", spec := "loomWoven", inPlace := ["slices.overlaps[int]"], unfollowed := true, recurses := true, apart := false, narrowed := true }
def LoomWovenUptoSaid : Prop := loomWovenUptoRow.holds Tryz.pinned (OpenSpec.upto loomWovenSpec)

end Rows
end Go.Proofs.YtfglamdbnclcaaaGreat
