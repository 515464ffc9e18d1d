/-
  No cell of these rows narrows 'for every input' (looked for: loops, veiled, ifaces, maps, wideKeys, modest, calm, conditions, laid).
  DERIVED. THE GIVEN ROWS OF THIS SEAT. 13 by the template 'for every input the law returns true; each argument reads behind the call as it read before'; 0 by the template 'total and deterministic' (their statements: YtknokjnplbdmeaaTotals.lean).
  GIVEN WITH THE SEED: the statements are not yours to turn. If you find one false, say at which input.
  Laid BY PROGRAM, IN A SANDBOX (cutbox-rows.mjs): the forced cells as the released guide's own fill.sh prints them over the translation 8ba1168b9aa7b185… (all of the seat's roots in one cut). By AI agents, Wed Nov 11 2026. No macro, syntax, notation, axiom, sorry.
-/
import Derived.Test.YtknokjnplbdmeaaChecked
import GoSem.Claim
import GoSem.ClaimJoined
import GoSem.ClaimMapViews
import Derived.JoinedTies
import Derived.KernelRfl
namespace Go.Proofs.Ytknokjnplbdmeaa
/- THE CELL 'sum', in the pinned program and in every row, IS THE sha256 OF THE DUMP (.gsa) THAT YtknokjnplbdmeaaProg.lean LOADS. Nothing in Lean hashes anything: it is a label: what it is worth is what the hold of that sum in a sandbox is worth. -/
noncomputable def Try.pinned : Pinned := { name := "ytknokjnplbdmeaa", sum := "8ba1168b9aa7b18521a8cf601b073ee7cb44c48ca8b4b6cc6fc2d17082e79c5b", checked := Try.checked }
namespace Rows
def none {H : Type} : Left H := { results := [], args := [] }

/-- 'petershamlaw05.LoomFirst': WHATEVER THE INPUT: true; the input reads as it did. -/
def loomFirstSpec : ChangeSpec := { name := "loomFirst", fn := fun _ => fun
  | [d] => { results := [.lit (.bool true)], args := [d] }
  | _ => none }
def loomFirstRow : OpenClaim := { program := "ytknokjnplbdmeaa", sum := "8ba1168b9aa7b18521a8cf601b073ee7cb44c48ca8b4b6cc6fc2d17082e79c5b", func := "petersham/petershamlaw05.LoomFirst", spec := "loomFirst", unfollowed := true, recurses := true, apart := false }
def LoomFirstSaid : Prop := loomFirstRow.holds Try.pinned (OpenSpec.ofChange loomFirstSpec)

/-- ITS FALSE NEIGHBOUR: 'it returns false'. Refute it at one input. -/
def loomFirstWrong : ChangeSpec := { name := "loomFirst", fn := fun _ => fun
  | [d] => { results := [.lit (.bool false)], args := [d] }
  | _ => none }
def LoomFirstWrongFalsely : Prop := loomFirstRow.holds Try.pinned (OpenSpec.ofChange loomFirstWrong)

/-- 'petershamlaw05.LoomCosts': WHATEVER THE INPUT: true; the input reads as it did. -/
def loomCostsSpec : ChangeSpec := { name := "loomCosts", fn := fun _ => fun
  | [d1, d2, d3] => { results := [.lit (.bool true)], args := [d1, d2, d3] }
  | _ => none }
def loomCostsRow : OpenClaim := { program := "ytknokjnplbdmeaa", sum := "8ba1168b9aa7b18521a8cf601b073ee7cb44c48ca8b4b6cc6fc2d17082e79c5b", func := "petersham/petershamlaw05.LoomCosts", spec := "loomCosts", unfollowed := true, recurses := true, apart := false }
def LoomCostsSaid : Prop := loomCostsRow.holds Try.pinned (OpenSpec.ofChange loomCostsSpec)

/-- ITS FALSE NEIGHBOUR: 'it returns false'. Refute it at one input. -/
def loomCostsWrong : ChangeSpec := { name := "loomCosts", fn := fun _ => fun
  | [d1, d2, d3] => { results := [.lit (.bool false)], args := [d1, d2, d3] }
  | _ => none }
def LoomCostsWrongFalsely : Prop := loomCostsRow.holds Try.pinned (OpenSpec.ofChange loomCostsWrong)

/-- 'petershamlaw05.LoomCrowds': WHATEVER THE INPUT: true; the input reads as it did. -/
def loomCrowdsSpec : ChangeSpec := { name := "loomCrowds", fn := fun _ => fun
  | [d1, d2] => { results := [.lit (.bool true)], args := [d1, d2] }
  | _ => none }
def loomCrowdsRow : OpenClaim := { program := "ytknokjnplbdmeaa", sum := "8ba1168b9aa7b18521a8cf601b073ee7cb44c48ca8b4b6cc6fc2d17082e79c5b", func := "petersham/petershamlaw05.LoomCrowds", spec := "loomCrowds", unfollowed := true, recurses := true, apart := false }
def LoomCrowdsSaid : Prop := loomCrowdsRow.holds Try.pinned (OpenSpec.ofChange loomCrowdsSpec)

/-- ITS FALSE NEIGHBOUR: 'it returns false'. Refute it at one input. -/
def loomCrowdsWrong : ChangeSpec := { name := "loomCrowds", fn := fun _ => fun
  | [d1, d2] => { results := [.lit (.bool false)], args := [d1, d2] }
  | _ => none }
def LoomCrowdsWrongFalsely : Prop := loomCrowdsRow.holds Try.pinned (OpenSpec.ofChange loomCrowdsWrong)

/-- 'petershamlaw05.LoomCrowd': WHATEVER THE INPUT: true; the input reads as it did. -/
def loomCrowdSpec : ChangeSpec := { name := "loomCrowd", fn := fun _ => fun
  | [d1, d2, d3] => { results := [.lit (.bool true)], args := [d1, d2, d3] }
  | _ => none }
def loomCrowdRow : OpenClaim := { program := "ytknokjnplbdmeaa", sum := "8ba1168b9aa7b18521a8cf601b073ee7cb44c48ca8b4b6cc6fc2d17082e79c5b", func := "petersham/petershamlaw05.LoomCrowd", spec := "loomCrowd", unfollowed := true, recurses := true, apart := false }
def LoomCrowdSaid : Prop := loomCrowdRow.holds Try.pinned (OpenSpec.ofChange loomCrowdSpec)

/-- ITS FALSE NEIGHBOUR: 'it returns false'. Refute it at one input. -/
def loomCrowdWrong : ChangeSpec := { name := "loomCrowd", fn := fun _ => fun
  | [d1, d2, d3] => { results := [.lit (.bool false)], args := [d1, d2, d3] }
  | _ => none }
def LoomCrowdWrongFalsely : Prop := loomCrowdRow.holds Try.pinned (OpenSpec.ofChange loomCrowdWrong)

/-- 'petershamlaw05.LoomPlans': WHATEVER THE INPUT: true; the input reads as it did. -/
def loomPlansSpec : ChangeSpec := { name := "loomPlans", fn := fun _ => fun
  | [d] => { results := [.lit (.bool true)], args := [d] }
  | _ => none }
def loomPlansRow : OpenClaim := { program := "ytknokjnplbdmeaa", sum := "8ba1168b9aa7b18521a8cf601b073ee7cb44c48ca8b4b6cc6fc2d17082e79c5b", func := "petersham/petershamlaw05.LoomPlans", spec := "loomPlans", unfollowed := true, recurses := true, apart := false }
def LoomPlansSaid : Prop := loomPlansRow.holds Try.pinned (OpenSpec.ofChange loomPlansSpec)

/-- ITS FALSE NEIGHBOUR: 'it returns false'. Refute it at one input. -/
def loomPlansWrong : ChangeSpec := { name := "loomPlans", fn := fun _ => fun
  | [d] => { results := [.lit (.bool false)], args := [d] }
  | _ => none }
def LoomPlansWrongFalsely : Prop := loomPlansRow.holds Try.pinned (OpenSpec.ofChange loomPlansWrong)

/-- 'petershamlaw05.LoomChecks': WHATEVER THE INPUT: true; the input reads as it did. -/
def loomChecksSpec : ChangeSpec := { name := "loomChecks", fn := fun _ => fun
  | [d1, d2, d3] => { results := [.lit (.bool true)], args := [d1, d2, d3] }
  | _ => none }
def loomChecksRow : OpenClaim := { program := "ytknokjnplbdmeaa", sum := "8ba1168b9aa7b18521a8cf601b073ee7cb44c48ca8b4b6cc6fc2d17082e79c5b", func := "petersham/petershamlaw05.LoomChecks", spec := "loomChecks", unfollowed := true, recurses := true, apart := false }
def LoomChecksSaid : Prop := loomChecksRow.holds Try.pinned (OpenSpec.ofChange loomChecksSpec)

/-- ITS FALSE NEIGHBOUR: 'it returns false'. Refute it at one input. -/
def loomChecksWrong : ChangeSpec := { name := "loomChecks", fn := fun _ => fun
  | [d1, d2, d3] => { results := [.lit (.bool false)], args := [d1, d2, d3] }
  | _ => none }
def LoomChecksWrongFalsely : Prop := loomChecksRow.holds Try.pinned (OpenSpec.ofChange loomChecksWrong)

/-- 'petershamlaw05.LoomRuns': WHATEVER THE INPUT: true; the input reads as it did. -/
def loomRunsSpec : ChangeSpec := { name := "loomRuns", fn := fun _ => fun
  | [d1, d2, d3, d4] => { results := [.lit (.bool true)], args := [d1, d2, d3, d4] }
  | _ => none }
def loomRunsRow : OpenClaim := { program := "ytknokjnplbdmeaa", sum := "8ba1168b9aa7b18521a8cf601b073ee7cb44c48ca8b4b6cc6fc2d17082e79c5b", func := "petersham/petershamlaw05.LoomRuns", spec := "loomRuns", unfollowed := true, recurses := true, apart := false }
def LoomRunsSaid : Prop := loomRunsRow.holds Try.pinned (OpenSpec.ofChange loomRunsSpec)

/-- ITS FALSE NEIGHBOUR: 'it returns false'. Refute it at one input. -/
def loomRunsWrong : ChangeSpec := { name := "loomRuns", fn := fun _ => fun
  | [d1, d2, d3, d4] => { results := [.lit (.bool false)], args := [d1, d2, d3, d4] }
  | _ => none }
def LoomRunsWrongFalsely : Prop := loomRunsRow.holds Try.pinned (OpenSpec.ofChange loomRunsWrong)

/-- 'petershamlaw05.LoomCarded': WHATEVER THE INPUT: true; the input reads as it did. -/
def loomCardedSpec : ChangeSpec := { name := "loomCarded", fn := fun _ => fun
  | [d1, d2] => { results := [.lit (.bool true)], args := [d1, d2] }
  | _ => none }
def loomCardedRow : OpenClaim := { program := "ytknokjnplbdmeaa", sum := "8ba1168b9aa7b18521a8cf601b073ee7cb44c48ca8b4b6cc6fc2d17082e79c5b", func := "petersham/petershamlaw05.LoomCarded", spec := "loomCarded", unfollowed := true, recurses := true, apart := false }
def LoomCardedSaid : Prop := loomCardedRow.holds Try.pinned (OpenSpec.ofChange loomCardedSpec)

/-- ITS FALSE NEIGHBOUR: 'it returns false'. Refute it at one input. -/
def loomCardedWrong : ChangeSpec := { name := "loomCarded", fn := fun _ => fun
  | [d1, d2] => { results := [.lit (.bool false)], args := [d1, d2] }
  | _ => none }
def LoomCardedWrongFalsely : Prop := loomCardedRow.holds Try.pinned (OpenSpec.ofChange loomCardedWrong)

/-- 'petershamlaw05.LoomDue': WHATEVER THE INPUT: true; the input reads as it did. -/
def loomDueSpec : ChangeSpec := { name := "loomDue", fn := fun _ => fun
  | [d] => { results := [.lit (.bool true)], args := [d] }
  | _ => none }
def loomDueRow : OpenClaim := { program := "ytknokjnplbdmeaa", sum := "8ba1168b9aa7b18521a8cf601b073ee7cb44c48ca8b4b6cc6fc2d17082e79c5b", func := "petersham/petershamlaw05.LoomDue", spec := "loomDue", unfollowed := true, recurses := true, apart := false }
def LoomDueSaid : Prop := loomDueRow.holds Try.pinned (OpenSpec.ofChange loomDueSpec)

/-- ITS FALSE NEIGHBOUR: 'it returns false'. Refute it at one input. -/
def loomDueWrong : ChangeSpec := { name := "loomDue", fn := fun _ => fun
  | [d] => { results := [.lit (.bool false)], args := [d] }
  | _ => none }
def LoomDueWrongFalsely : Prop := loomDueRow.holds Try.pinned (OpenSpec.ofChange loomDueWrong)

/-- 'petershamlaw05.LoomLater': WHATEVER THE INPUT: true; the input reads as it did. -/
def loomLaterSpec : ChangeSpec := { name := "loomLater", fn := fun _ => fun
  | [d1, d2, d3, d4] => { results := [.lit (.bool true)], args := [d1, d2, d3, d4] }
  | _ => none }
def loomLaterRow : OpenClaim := { program := "ytknokjnplbdmeaa", sum := "8ba1168b9aa7b18521a8cf601b073ee7cb44c48ca8b4b6cc6fc2d17082e79c5b", func := "petersham/petershamlaw05.LoomLater", spec := "loomLater", unfollowed := true, recurses := true, apart := false }
def LoomLaterSaid : Prop := loomLaterRow.holds Try.pinned (OpenSpec.ofChange loomLaterSpec)

/-- ITS FALSE NEIGHBOUR: 'it returns false'. Refute it at one input. -/
def loomLaterWrong : ChangeSpec := { name := "loomLater", fn := fun _ => fun
  | [d1, d2, d3, d4] => { results := [.lit (.bool false)], args := [d1, d2, d3, d4] }
  | _ => none }
def LoomLaterWrongFalsely : Prop := loomLaterRow.holds Try.pinned (OpenSpec.ofChange loomLaterWrong)

/-- 'petershamlaw05.LoomNamed': WHATEVER THE INPUT: true; the input reads as it did. -/
def loomNamedSpec : ChangeSpec := { name := "loomNamed", fn := fun _ => fun
  | [d1, d2] => { results := [.lit (.bool true)], args := [d1, d2] }
  | _ => none }
def loomNamedRow : OpenClaim := { program := "ytknokjnplbdmeaa", sum := "8ba1168b9aa7b18521a8cf601b073ee7cb44c48ca8b4b6cc6fc2d17082e79c5b", func := "petersham/petershamlaw05.LoomNamed", spec := "loomNamed", unfollowed := true, recurses := true, apart := false }
def LoomNamedSaid : Prop := loomNamedRow.holds Try.pinned (OpenSpec.ofChange loomNamedSpec)

/-- ITS FALSE NEIGHBOUR: 'it returns false'. Refute it at one input. -/
def loomNamedWrong : ChangeSpec := { name := "loomNamed", fn := fun _ => fun
  | [d1, d2] => { results := [.lit (.bool false)], args := [d1, d2] }
  | _ => none }
def LoomNamedWrongFalsely : Prop := loomNamedRow.holds Try.pinned (OpenSpec.ofChange loomNamedWrong)

/-- 'petershamlaw05.LoomLate': WHATEVER THE INPUT: true; the input reads as it did. -/
def loomLateSpec : ChangeSpec := { name := "loomLate", fn := fun _ => fun
  | [d1, d2] => { results := [.lit (.bool true)], args := [d1, d2] }
  | _ => none }
def loomLateRow : OpenClaim := { program := "ytknokjnplbdmeaa", sum := "8ba1168b9aa7b18521a8cf601b073ee7cb44c48ca8b4b6cc6fc2d17082e79c5b", func := "petersham/petershamlaw05.LoomLate", spec := "loomLate", unfollowed := true, recurses := true, apart := false }
def LoomLateSaid : Prop := loomLateRow.holds Try.pinned (OpenSpec.ofChange loomLateSpec)

/-- ITS FALSE NEIGHBOUR: 'it returns false'. Refute it at one input. -/
def loomLateWrong : ChangeSpec := { name := "loomLate", fn := fun _ => fun
  | [d1, d2] => { results := [.lit (.bool false)], args := [d1, d2] }
  | _ => none }
def LoomLateWrongFalsely : Prop := loomLateRow.holds Try.pinned (OpenSpec.ofChange loomLateWrong)

/-- 'petershamlaw05.LoomTaken': WHATEVER THE INPUT: true; the input reads as it did. -/
def loomTakenSpec : ChangeSpec := { name := "loomTaken", fn := fun _ => fun
  | [d1, d2] => { results := [.lit (.bool true)], args := [d1, d2] }
  | _ => none }
def loomTakenRow : OpenClaim := { program := "ytknokjnplbdmeaa", sum := "8ba1168b9aa7b18521a8cf601b073ee7cb44c48ca8b4b6cc6fc2d17082e79c5b", func := "petersham/petershamlaw05.LoomTaken", spec := "loomTaken", unfollowed := true, recurses := true, apart := false }
def LoomTakenSaid : Prop := loomTakenRow.holds Try.pinned (OpenSpec.ofChange loomTakenSpec)

/-- ITS FALSE NEIGHBOUR: 'it returns false'. Refute it at one input. -/
def loomTakenWrong : ChangeSpec := { name := "loomTaken", fn := fun _ => fun
  | [d1, d2] => { results := [.lit (.bool false)], args := [d1, d2] }
  | _ => none }
def LoomTakenWrongFalsely : Prop := loomTakenRow.holds Try.pinned (OpenSpec.ofChange loomTakenWrong)

/- THE SECOND FORM. 'bulk': how many values and letters a reading holds, each counted each time it is reached (what is shared counts as often as it is met; a slice's spare places count too). A statement '..UptoSaid' is the law's where the arguments, and the package variables that the reading takes, are together of bulk at most 1048576: NARROWER than '..Said'. Prove '..Said' where nothing that the law and all that it calls make is longer than what came in: it says more and counts as full. Else prove '..UptoSaid'. A law counts once. -/
mutual
def uptoBulk {H : Type} : DataW H → Nat
  | .lit (.string bytes) => bytes.length + 1
  | .lit _ => 1
  | .nil => 1
  | .ptr d => uptoBulk d + 1
  | .slice elems spare => uptoBulkAll elems + uptoBulkAll spare + 1
  | .agg parts => uptoBulkAll parts + 1
  | .iface _ d => uptoBulk d + 1
  | .map entries => uptoBulkEntries entries + 1
  | .held _ => 1
def uptoBulkAll {H : Type} : List (DataW H) → Nat
  | [] => 0
  | d :: r => uptoBulk d + uptoBulkAll r
def uptoBulkEntries {H : Type} : List (Lit × DataW H) → Nat
  | [] => 0
  | x :: r => uptoBulkEntry x + uptoBulkEntries r
def uptoBulkEntry {H : Type} : Lit × DataW H → Nat
  | (.string bytes, d) => bytes.length + uptoBulk d + 1
  | (_, d) => uptoBulk d + 1
 end
def uptoSmall : (H : Type) → List (DataW H) → Bool := fun _ ds => decide (uptoBulkAll ds ≤ 1048576)
def OpenSpec.upto (s : _root_.Go.ChangeSpec) : _root_.Go.OpenSpec := { _root_.Go.OpenSpec.ofChange s with cond := some uptoSmall }

/-- 'petershamlaw05.LoomFirst', WHERE WHAT IT READS IS OF BULK AT MOST 1048576: true; the input reads as it did. -/
def loomFirstUptoRow : OpenClaim := { program := "ytknokjnplbdmeaa", sum := "8ba1168b9aa7b18521a8cf601b073ee7cb44c48ca8b4b6cc6fc2d17082e79c5b", func := "petersham/petershamlaw05.LoomFirst", spec := "loomFirst", unfollowed := true, recurses := true, apart := false, narrowed := true }
def LoomFirstUptoSaid : Prop := loomFirstUptoRow.holds Try.pinned (OpenSpec.upto loomFirstSpec)

/-- 'petershamlaw05.LoomCosts', WHERE WHAT IT READS IS OF BULK AT MOST 1048576: true; the input reads as it did. -/
def loomCostsUptoRow : OpenClaim := { program := "ytknokjnplbdmeaa", sum := "8ba1168b9aa7b18521a8cf601b073ee7cb44c48ca8b4b6cc6fc2d17082e79c5b", func := "petersham/petershamlaw05.LoomCosts", spec := "loomCosts", unfollowed := true, recurses := true, apart := false, narrowed := true }
def LoomCostsUptoSaid : Prop := loomCostsUptoRow.holds Try.pinned (OpenSpec.upto loomCostsSpec)

/-- 'petershamlaw05.LoomCrowds', WHERE WHAT IT READS IS OF BULK AT MOST 1048576: true; the input reads as it did. -/
def loomCrowdsUptoRow : OpenClaim := { program := "ytknokjnplbdmeaa", sum := "8ba1168b9aa7b18521a8cf601b073ee7cb44c48ca8b4b6cc6fc2d17082e79c5b", func := "petersham/petershamlaw05.LoomCrowds", spec := "loomCrowds", unfollowed := true, recurses := true, apart := false, narrowed := true }
def LoomCrowdsUptoSaid : Prop := loomCrowdsUptoRow.holds Try.pinned (OpenSpec.upto loomCrowdsSpec)

/-- 'petershamlaw05.LoomCrowd', WHERE WHAT IT READS IS OF BULK AT MOST 1048576: true; the input reads as it did. -/
def loomCrowdUptoRow : OpenClaim := { program := "ytknokjnplbdmeaa", sum := "8ba1168b9aa7b18521a8cf601b073ee7cb44c48ca8b4b6cc6fc2d17082e79c5b", func := "petersham/petershamlaw05.LoomCrowd", spec := "loomCrowd", unfollowed := true, recurses := true, apart := false, narrowed := true }
def LoomCrowdUptoSaid : Prop := loomCrowdUptoRow.holds Try.pinned (OpenSpec.upto loomCrowdSpec)

/-- 'petershamlaw05.LoomPlans', WHERE WHAT IT READS IS OF BULK AT MOST 1048576: true; the input reads as it did. -/
def loomPlansUptoRow : OpenClaim := { program := "ytknokjnplbdmeaa", sum := "8ba1168b9aa7b18521a8cf601b073ee7cb44c48ca8b4b6cc6fc2d17082e79c5b", func := "petersham/petershamlaw05.LoomPlans", spec := "loomPlans", unfollowed := true, recurses := true, apart := false, narrowed := true }
def LoomPlansUptoSaid : Prop := loomPlansUptoRow.holds Try.pinned (OpenSpec.upto loomPlansSpec)

/-- 'petershamlaw05.LoomChecks', WHERE WHAT IT READS IS OF BULK AT MOST 1048576: true; the input reads as it did. -/
def loomChecksUptoRow : OpenClaim := { program := "ytknokjnplbdmeaa", sum := "8ba1168b9aa7b18521a8cf601b073ee7cb44c48ca8b4b6cc6fc2d17082e79c5b", func := "petersham/petershamlaw05.LoomChecks", spec := "loomChecks", unfollowed := true, recurses := true, apart := false, narrowed := true }
def LoomChecksUptoSaid : Prop := loomChecksUptoRow.holds Try.pinned (OpenSpec.upto loomChecksSpec)

/-- 'petershamlaw05.LoomRuns', WHERE WHAT IT READS IS OF BULK AT MOST 1048576: true; the input reads as it did. -/
def loomRunsUptoRow : OpenClaim := { program := "ytknokjnplbdmeaa", sum := "8ba1168b9aa7b18521a8cf601b073ee7cb44c48ca8b4b6cc6fc2d17082e79c5b", func := "petersham/petershamlaw05.LoomRuns", spec := "loomRuns", unfollowed := true, recurses := true, apart := false, narrowed := true }
def LoomRunsUptoSaid : Prop := loomRunsUptoRow.holds Try.pinned (OpenSpec.upto loomRunsSpec)

/-- 'petershamlaw05.LoomCarded', WHERE WHAT IT READS IS OF BULK AT MOST 1048576: true; the input reads as it did. -/
def loomCardedUptoRow : OpenClaim := { program := "ytknokjnplbdmeaa", sum := "8ba1168b9aa7b18521a8cf601b073ee7cb44c48ca8b4b6cc6fc2d17082e79c5b", func := "petersham/petershamlaw05.LoomCarded", spec := "loomCarded", unfollowed := true, recurses := true, apart := false, narrowed := true }
def LoomCardedUptoSaid : Prop := loomCardedUptoRow.holds Try.pinned (OpenSpec.upto loomCardedSpec)

/-- 'petershamlaw05.LoomDue', WHERE WHAT IT READS IS OF BULK AT MOST 1048576: true; the input reads as it did. -/
def loomDueUptoRow : OpenClaim := { program := "ytknokjnplbdmeaa", sum := "8ba1168b9aa7b18521a8cf601b073ee7cb44c48ca8b4b6cc6fc2d17082e79c5b", func := "petersham/petershamlaw05.LoomDue", spec := "loomDue", unfollowed := true, recurses := true, apart := false, narrowed := true }
def LoomDueUptoSaid : Prop := loomDueUptoRow.holds Try.pinned (OpenSpec.upto loomDueSpec)

/-- 'petershamlaw05.LoomLater', WHERE WHAT IT READS IS OF BULK AT MOST 1048576: true; the input reads as it did. -/
def loomLaterUptoRow : OpenClaim := { program := "ytknokjnplbdmeaa", sum := "8ba1168b9aa7b18521a8cf601b073ee7cb44c48ca8b4b6cc6fc2d17082e79c5b", func := "petersham/petershamlaw05.LoomLater", spec := "loomLater", unfollowed := true, recurses := true, apart := false, narrowed := true }
def LoomLaterUptoSaid : Prop := loomLaterUptoRow.holds Try.pinned (OpenSpec.upto loomLaterSpec)

/-- 'petershamlaw05.LoomNamed', WHERE WHAT IT READS IS OF BULK AT MOST 1048576: true; the input reads as it did. -/
def loomNamedUptoRow : OpenClaim := { program := "ytknokjnplbdmeaa", sum := "8ba1168b9aa7b18521a8cf601b073ee7cb44c48ca8b4b6cc6fc2d17082e79c5b", func := "petersham/petershamlaw05.LoomNamed", spec := "loomNamed", unfollowed := true, recurses := true, apart := false, narrowed := true }
def LoomNamedUptoSaid : Prop := loomNamedUptoRow.holds Try.pinned (OpenSpec.upto loomNamedSpec)

/-- 'petershamlaw05.LoomLate', WHERE WHAT IT READS IS OF BULK AT MOST 1048576: true; the input reads as it did. -/
def loomLateUptoRow : OpenClaim := { program := "ytknokjnplbdmeaa", sum := "8ba1168b9aa7b18521a8cf601b073ee7cb44c48ca8b4b6cc6fc2d17082e79c5b", func := "petersham/petershamlaw05.LoomLate", spec := "loomLate", unfollowed := true, recurses := true, apart := false, narrowed := true }
def LoomLateUptoSaid : Prop := loomLateUptoRow.holds Try.pinned (OpenSpec.upto loomLateSpec)

/-- 'petershamlaw05.LoomTaken', WHERE WHAT IT READS IS OF BULK AT MOST 1048576: true; the input reads as it did. -/
def loomTakenUptoRow : OpenClaim := { program := "ytknokjnplbdmeaa", sum := "8ba1168b9aa7b18521a8cf601b073ee7cb44c48ca8b4b6cc6fc2d17082e79c5b", func := "petersham/petershamlaw05.LoomTaken", spec := "loomTaken", unfollowed := true, recurses := true, apart := false, narrowed := true }
def LoomTakenUptoSaid : Prop := loomTakenUptoRow.holds Try.pinned (OpenSpec.upto loomTakenSpec)

end Rows
end Go.Proofs.Ytknokjnplbdmeaa
