/-
  No cell of these rows narrows 'for every input' (looked for: loops, veiled, ifaces, maps, wideKeys, modest, calm, conditions, laid).
  DERIVED. THE GIVEN ROWS OF THIS SEAT. 14 by the template 'for every input the law returns true; each argument reads behind the call as it read before'; 0 by the template 'total and deterministic' (their statements: YtjlglbhafopomaaGreatTotals.lean).
  GIVEN WITH THE SEED: the statements are not yours to turn. If you find one false, say at which input.
  Laid BY PROGRAM, IN A SANDBOX (cutbox-rows.mjs): the forced cells as the released guide's own fill.sh prints them over the translation 813782a47909ce55… (all of the seat's roots in one cut). By AI agents, Wed Nov 11 2026. No macro, syntax, notation, axiom, sorry.
-/
import Derived.Test.YtjlglbhafopomaaGreatChecked
import GoSem.Claim
import GoSem.ClaimJoined
import GoSem.ClaimMapViews
import Derived.JoinedTies
import Derived.KernelRfl
namespace Go.Proofs.YtjlglbhafopomaaGreat
/- THE CELL 'sum', in the pinned program and in every row, IS THE sha256 OF THE DUMP (.gsa) THAT YtjlglbhafopomaaGreatProg.lean LOADS. Nothing in Lean hashes anything: it is a label: what it is worth is what the hold of that sum in a sandbox is worth. -/
noncomputable def Tryz.pinned : Pinned := { name := "ytjlglbhafopomaagreat", sum := "813782a47909ce55f8ce520095bfa9409ed5d6dad78f1c6dc3dc06680e951909", checked := Tryz.checked }
namespace Rows
def none {H : Type} : Left H := { results := [], args := [] }

/-- 'petershamlaw07.PowerSeen': WHATEVER THE INPUT: true; the input reads as it did. -/
def powerSeenSpec : ChangeSpec := { name := "powerSeen", fn := fun _ => fun
  | [d1, d2, d3] => { results := [.lit (.bool true)], args := [d1, d2, d3] }
  | _ => none }
def powerSeenRow : OpenClaim := { program := "ytjlglbhafopomaagreat", sum := "813782a47909ce55f8ce520095bfa9409ed5d6dad78f1c6dc3dc06680e951909", func := "petersham/petershamlaw07.PowerSeen", spec := "powerSeen", unfollowed := true, recurses := true, plainKeys := false, apart := false }
def PowerSeenSaid : Prop := powerSeenRow.holds Tryz.pinned (OpenSpec.ofChange powerSeenSpec)

/-- ITS FALSE NEIGHBOUR: 'it returns false'. Refute it at one input. -/
def powerSeenWrong : ChangeSpec := { name := "powerSeen", fn := fun _ => fun
  | [d1, d2, d3] => { results := [.lit (.bool false)], args := [d1, d2, d3] }
  | _ => none }
def PowerSeenWrongFalsely : Prop := powerSeenRow.holds Tryz.pinned (OpenSpec.ofChange powerSeenWrong)

/-- 'petershamlaw07.PowerCosts': WHATEVER THE INPUT: true; the input reads as it did. -/
def powerCostsSpec : ChangeSpec := { name := "powerCosts", fn := fun _ => fun
  | [d1, d2, d3, d4, d5] => { results := [.lit (.bool true)], args := [d1, d2, d3, d4, d5] }
  | _ => none }
def powerCostsRow : OpenClaim := { program := "ytjlglbhafopomaagreat", sum := "813782a47909ce55f8ce520095bfa9409ed5d6dad78f1c6dc3dc06680e951909", func := "petersham/petershamlaw07.PowerCosts", spec := "powerCosts", unfollowed := true, recurses := true, plainKeys := false, apart := false }
def PowerCostsSaid : Prop := powerCostsRow.holds Tryz.pinned (OpenSpec.ofChange powerCostsSpec)

/-- ITS FALSE NEIGHBOUR: 'it returns false'. Refute it at one input. -/
def powerCostsWrong : ChangeSpec := { name := "powerCosts", fn := fun _ => fun
  | [d1, d2, d3, d4, d5] => { results := [.lit (.bool false)], args := [d1, d2, d3, d4, d5] }
  | _ => none }
def PowerCostsWrongFalsely : Prop := powerCostsRow.holds Tryz.pinned (OpenSpec.ofChange powerCostsWrong)

/-- 'petershamlaw07.PowerShares': WHATEVER THE INPUT: true; the input reads as it did. -/
def powerSharesSpec : ChangeSpec := { name := "powerShares", fn := fun _ => fun
  | [d1, d2] => { results := [.lit (.bool true)], args := [d1, d2] }
  | _ => none }
def powerSharesRow : OpenClaim := { program := "ytjlglbhafopomaagreat", sum := "813782a47909ce55f8ce520095bfa9409ed5d6dad78f1c6dc3dc06680e951909", func := "petersham/petershamlaw07.PowerShares", spec := "powerShares", unfollowed := true, recurses := true, plainKeys := false, apart := false }
def PowerSharesSaid : Prop := powerSharesRow.holds Tryz.pinned (OpenSpec.ofChange powerSharesSpec)

/-- ITS FALSE NEIGHBOUR: 'it returns false'. Refute it at one input. -/
def powerSharesWrong : ChangeSpec := { name := "powerShares", fn := fun _ => fun
  | [d1, d2] => { results := [.lit (.bool false)], args := [d1, d2] }
  | _ => none }
def PowerSharesWrongFalsely : Prop := powerSharesRow.holds Tryz.pinned (OpenSpec.ofChange powerSharesWrong)

/-- 'petershamlaw07.PowerAlone': WHATEVER THE INPUT: true; the input reads as it did. -/
def powerAloneSpec : ChangeSpec := { name := "powerAlone", fn := fun _ => fun
  | [d1, d2] => { results := [.lit (.bool true)], args := [d1, d2] }
  | _ => none }
def powerAloneRow : OpenClaim := { program := "ytjlglbhafopomaagreat", sum := "813782a47909ce55f8ce520095bfa9409ed5d6dad78f1c6dc3dc06680e951909", func := "petersham/petershamlaw07.PowerAlone", spec := "powerAlone", unfollowed := true, recurses := true, plainKeys := false, apart := false }
def PowerAloneSaid : Prop := powerAloneRow.holds Tryz.pinned (OpenSpec.ofChange powerAloneSpec)

/-- ITS FALSE NEIGHBOUR: 'it returns false'. Refute it at one input. -/
def powerAloneWrong : ChangeSpec := { name := "powerAlone", fn := fun _ => fun
  | [d1, d2] => { results := [.lit (.bool false)], args := [d1, d2] }
  | _ => none }
def PowerAloneWrongFalsely : Prop := powerAloneRow.holds Tryz.pinned (OpenSpec.ofChange powerAloneWrong)

/-- 'petershamlaw07.PowerProofs': WHATEVER THE INPUT: true; the input reads as it did. -/
def powerProofsSpec : ChangeSpec := { name := "powerProofs", fn := fun _ => fun
  | [d1, d2, d3] => { results := [.lit (.bool true)], args := [d1, d2, d3] }
  | _ => none }
def powerProofsRow : OpenClaim := { program := "ytjlglbhafopomaagreat", sum := "813782a47909ce55f8ce520095bfa9409ed5d6dad78f1c6dc3dc06680e951909", func := "petersham/petershamlaw07.PowerProofs", spec := "powerProofs", unfollowed := true, recurses := true, plainKeys := false, apart := false }
def PowerProofsSaid : Prop := powerProofsRow.holds Tryz.pinned (OpenSpec.ofChange powerProofsSpec)

/-- ITS FALSE NEIGHBOUR: 'it returns false'. Refute it at one input. -/
def powerProofsWrong : ChangeSpec := { name := "powerProofs", fn := fun _ => fun
  | [d1, d2, d3] => { results := [.lit (.bool false)], args := [d1, d2, d3] }
  | _ => none }
def PowerProofsWrongFalsely : Prop := powerProofsRow.holds Tryz.pinned (OpenSpec.ofChange powerProofsWrong)

/-- 'petershamlaw07.PowerSlips': WHATEVER THE INPUT: true; the input reads as it did. -/
def powerSlipsSpec : ChangeSpec := { name := "powerSlips", fn := fun _ => fun
  | [d1, d2, d3] => { results := [.lit (.bool true)], args := [d1, d2, d3] }
  | _ => none }
def powerSlipsRow : OpenClaim := { program := "ytjlglbhafopomaagreat", sum := "813782a47909ce55f8ce520095bfa9409ed5d6dad78f1c6dc3dc06680e951909", func := "petersham/petershamlaw07.PowerSlips", spec := "powerSlips", unfollowed := true, recurses := true, plainKeys := false, apart := false }
def PowerSlipsSaid : Prop := powerSlipsRow.holds Tryz.pinned (OpenSpec.ofChange powerSlipsSpec)

/-- ITS FALSE NEIGHBOUR: 'it returns false'. Refute it at one input. -/
def powerSlipsWrong : ChangeSpec := { name := "powerSlips", fn := fun _ => fun
  | [d1, d2, d3] => { results := [.lit (.bool false)], args := [d1, d2, d3] }
  | _ => none }
def PowerSlipsWrongFalsely : Prop := powerSlipsRow.holds Tryz.pinned (OpenSpec.ofChange powerSlipsWrong)

/-- 'petershamlaw07.PowerChecks': WHATEVER THE INPUT: true; the input reads as it did. -/
def powerChecksSpec : ChangeSpec := { name := "powerChecks", fn := fun _ => fun
  | [d1, d2, d3] => { results := [.lit (.bool true)], args := [d1, d2, d3] }
  | _ => none }
def powerChecksRow : OpenClaim := { program := "ytjlglbhafopomaagreat", sum := "813782a47909ce55f8ce520095bfa9409ed5d6dad78f1c6dc3dc06680e951909", func := "petersham/petershamlaw07.PowerChecks", spec := "powerChecks", unfollowed := true, recurses := true, plainKeys := false, apart := false }
def PowerChecksSaid : Prop := powerChecksRow.holds Tryz.pinned (OpenSpec.ofChange powerChecksSpec)

/-- ITS FALSE NEIGHBOUR: 'it returns false'. Refute it at one input. -/
def powerChecksWrong : ChangeSpec := { name := "powerChecks", fn := fun _ => fun
  | [d1, d2, d3] => { results := [.lit (.bool false)], args := [d1, d2, d3] }
  | _ => none }
def PowerChecksWrongFalsely : Prop := powerChecksRow.holds Tryz.pinned (OpenSpec.ofChange powerChecksWrong)

/-- 'petershamlaw07.PowerHours': WHATEVER THE INPUT: true; the input reads as it did. -/
def powerHoursSpec : ChangeSpec := { name := "powerHours", fn := fun _ => fun
  | [d1, d2, d3] => { results := [.lit (.bool true)], args := [d1, d2, d3] }
  | _ => none }
def powerHoursRow : OpenClaim := { program := "ytjlglbhafopomaagreat", sum := "813782a47909ce55f8ce520095bfa9409ed5d6dad78f1c6dc3dc06680e951909", func := "petersham/petershamlaw07.PowerHours", spec := "powerHours", unfollowed := true, recurses := true, plainKeys := false, apart := false }
def PowerHoursSaid : Prop := powerHoursRow.holds Tryz.pinned (OpenSpec.ofChange powerHoursSpec)

/-- ITS FALSE NEIGHBOUR: 'it returns false'. Refute it at one input. -/
def powerHoursWrong : ChangeSpec := { name := "powerHours", fn := fun _ => fun
  | [d1, d2, d3] => { results := [.lit (.bool false)], args := [d1, d2, d3] }
  | _ => none }
def PowerHoursWrongFalsely : Prop := powerHoursRow.holds Tryz.pinned (OpenSpec.ofChange powerHoursWrong)

/-- 'petershamlaw07.PowerFound': WHATEVER THE INPUT: true; the input reads as it did. -/
def powerFoundSpec : ChangeSpec := { name := "powerFound", fn := fun _ => fun
  | [d1, d2] => { results := [.lit (.bool true)], args := [d1, d2] }
  | _ => none }
def powerFoundRow : OpenClaim := { program := "ytjlglbhafopomaagreat", sum := "813782a47909ce55f8ce520095bfa9409ed5d6dad78f1c6dc3dc06680e951909", func := "petersham/petershamlaw07.PowerFound", spec := "powerFound", unfollowed := true, recurses := true, plainKeys := false, apart := false }
def PowerFoundSaid : Prop := powerFoundRow.holds Tryz.pinned (OpenSpec.ofChange powerFoundSpec)

/-- ITS FALSE NEIGHBOUR: 'it returns false'. Refute it at one input. -/
def powerFoundWrong : ChangeSpec := { name := "powerFound", fn := fun _ => fun
  | [d1, d2] => { results := [.lit (.bool false)], args := [d1, d2] }
  | _ => none }
def PowerFoundWrongFalsely : Prop := powerFoundRow.holds Tryz.pinned (OpenSpec.ofChange powerFoundWrong)

/-- 'petershamlaw07.PowerBetter': WHATEVER THE INPUT: true; the input reads as it did. -/
def powerBetterSpec : ChangeSpec := { name := "powerBetter", fn := fun _ => fun
  | [d1, d2] => { results := [.lit (.bool true)], args := [d1, d2] }
  | _ => none }
def powerBetterRow : OpenClaim := { program := "ytjlglbhafopomaagreat", sum := "813782a47909ce55f8ce520095bfa9409ed5d6dad78f1c6dc3dc06680e951909", func := "petersham/petershamlaw07.PowerBetter", spec := "powerBetter", unfollowed := true, recurses := true, plainKeys := false, apart := false }
def PowerBetterSaid : Prop := powerBetterRow.holds Tryz.pinned (OpenSpec.ofChange powerBetterSpec)

/-- ITS FALSE NEIGHBOUR: 'it returns false'. Refute it at one input. -/
def powerBetterWrong : ChangeSpec := { name := "powerBetter", fn := fun _ => fun
  | [d1, d2] => { results := [.lit (.bool false)], args := [d1, d2] }
  | _ => none }
def PowerBetterWrongFalsely : Prop := powerBetterRow.holds Tryz.pinned (OpenSpec.ofChange powerBetterWrong)

/-- 'petershamlaw07.PowerSmall': WHATEVER THE INPUT: true; the input reads as it did. -/
def powerSmallSpec : ChangeSpec := { name := "powerSmall", fn := fun _ => fun
  | [] => { results := [.lit (.bool true)], args := [] }
  | _ => none }
def powerSmallRow : OpenClaim := { program := "ytjlglbhafopomaagreat", sum := "813782a47909ce55f8ce520095bfa9409ed5d6dad78f1c6dc3dc06680e951909", func := "petersham/petershamlaw07.PowerSmall", spec := "powerSmall", unfollowed := true, recurses := true, plainKeys := false, apart := false }
def PowerSmallSaid : Prop := powerSmallRow.holds Tryz.pinned (OpenSpec.ofChange powerSmallSpec)

/-- ITS FALSE NEIGHBOUR: 'it returns false'. Refute it at one input. -/
def powerSmallWrong : ChangeSpec := { name := "powerSmall", fn := fun _ => fun
  | [] => { results := [.lit (.bool false)], args := [] }
  | _ => none }
def PowerSmallWrongFalsely : Prop := powerSmallRow.holds Tryz.pinned (OpenSpec.ofChange powerSmallWrong)

/-- 'petershamlaw07.PowerCame': WHATEVER THE INPUT: true; the input reads as it did. -/
def powerCameSpec : ChangeSpec := { name := "powerCame", fn := fun _ => fun
  | [d1, d2, d3, d4] => { results := [.lit (.bool true)], args := [d1, d2, d3, d4] }
  | _ => none }
def powerCameRow : OpenClaim := { program := "ytjlglbhafopomaagreat", sum := "813782a47909ce55f8ce520095bfa9409ed5d6dad78f1c6dc3dc06680e951909", func := "petersham/petershamlaw07.PowerCame", spec := "powerCame", inPlace := ["slices.overlaps[int]"], unfollowed := true, recurses := true, plainKeys := false, apart := false }
def PowerCameSaid : Prop := powerCameRow.holds Tryz.pinned (OpenSpec.ofChange powerCameSpec)

/-- ITS FALSE NEIGHBOUR: 'it returns false'. Refute it at one input. -/
def powerCameWrong : ChangeSpec := { name := "powerCame", fn := fun _ => fun
  | [d1, d2, d3, d4] => { results := [.lit (.bool false)], args := [d1, d2, d3, d4] }
  | _ => none }
def PowerCameWrongFalsely : Prop := powerCameRow.holds Tryz.pinned (OpenSpec.ofChange powerCameWrong)

/-- 'petershamlaw07.PowerFair': WHATEVER THE INPUT: true; the input reads as it did. -/
def powerFairSpec : ChangeSpec := { name := "powerFair", fn := fun _ => fun
  | [d] => { results := [.lit (.bool true)], args := [d] }
  | _ => none }
def powerFairRow : OpenClaim := { program := "ytjlglbhafopomaagreat", sum := "813782a47909ce55f8ce520095bfa9409ed5d6dad78f1c6dc3dc06680e951909", func := "petersham/petershamlaw07.PowerFair", spec := "powerFair", inPlace := ["slices.overlaps[int]"], unfollowed := true, recurses := true, plainKeys := false, apart := false }
def PowerFairSaid : Prop := powerFairRow.holds Tryz.pinned (OpenSpec.ofChange powerFairSpec)

/-- ITS FALSE NEIGHBOUR: 'it returns false'. Refute it at one input. -/
def powerFairWrong : ChangeSpec := { name := "powerFair", fn := fun _ => fun
  | [d] => { results := [.lit (.bool false)], args := [d] }
  | _ => none }
def PowerFairWrongFalsely : Prop := powerFairRow.holds Tryz.pinned (OpenSpec.ofChange powerFairWrong)

/-- 'petershamlaw07.PowerWoven': WHATEVER THE INPUT: true; the input reads as it did. -/
def powerWovenSpec : ChangeSpec := { name := "powerWoven", fn := fun _ => fun
  | [d1, d2, d3, d4] => { results := [.lit (.bool true)], args := [d1, d2, d3, d4] }
  | _ => none }
def powerWovenRow : OpenClaim := { program := "ytjlglbhafopomaagreat", sum := "813782a47909ce55f8ce520095bfa9409ed5d6dad78f1c6dc3dc06680e951909", func := "petersham/petershamlaw07.PowerWoven", spec := "powerWoven", unfollowed := true, recurses := true, plainKeys := false, apart := false }
def PowerWovenSaid : Prop := powerWovenRow.holds Tryz.pinned (OpenSpec.ofChange powerWovenSpec)

/-- ITS FALSE NEIGHBOUR: 'it returns false'. Refute it at one input. -/
def powerWovenWrong : ChangeSpec := { name := "powerWoven", fn := fun _ => fun
  | [d1, d2, d3, d4] => { results := [.lit (.bool false)], args := [d1, d2, d3, d4] }
  | _ => none }
def PowerWovenWrongFalsely : Prop := powerWovenRow.holds Tryz.pinned (OpenSpec.ofChange powerWovenWrong)

/- THE SECOND FORM. 'bulk': how many values and letters a reading holds, each counted each time it is reached (what is shared counts as often as it is met; a slice's spare places count too). A statement '..UptoSaid' is the law's where the arguments, and the package variables that the reading takes, are together of bulk at most 1048576: NARROWER than '..Said'. Prove '..Said' where nothing that the law and all that it calls make is longer than what came in: it says more and counts as full. Else prove '..UptoSaid'. A law counts once. -/
mutual
def uptoBulk {H : Type} : DataW H → Nat
  | .lit (.string bytes) => bytes.length + 1
  | .lit _ => 1
  | .nil => 1
  | .ptr d => uptoBulk d + 1
  | .slice elems spare => uptoBulkAll elems + uptoBulkAll spare + 1
  | .agg parts => uptoBulkAll parts + 1
  | .iface _ d => uptoBulk d + 1
  | .map entries => uptoBulkEntries entries + 1
  | .held _ => 1
def uptoBulkAll {H : Type} : List (DataW H) → Nat
  | [] => 0
  | d :: r => uptoBulk d + uptoBulkAll r
def uptoBulkEntries {H : Type} : List (Lit × DataW H) → Nat
  | [] => 0
  | x :: r => uptoBulkEntry x + uptoBulkEntries r
def uptoBulkEntry {H : Type} : Lit × DataW H → Nat
  | (.string bytes, d) => bytes.length + uptoBulk d + 1
  | (_, d) => uptoBulk d + 1
 end
def uptoSmall : (H : Type) → List (DataW H) → Bool := fun _ ds => decide (uptoBulkAll ds ≤ 1048576)
def OpenSpec.upto (s : _root_.Go.ChangeSpec) : _root_.Go.OpenSpec := { _root_.Go.OpenSpec.ofChange s with cond := some uptoSmall }

/-- 'petershamlaw07.PowerSeen', WHERE WHAT IT READS IS OF BULK AT MOST 1048576: true; the input reads as it did. -/
def powerSeenUptoRow : OpenClaim := { program := "ytjlglbhafopomaagreat", sum := "813782a47909ce55f8ce520095bfa9409ed5d6dad78f1c6dc3dc06680e951909", func := "petersham/petershamlaw07.PowerSeen", spec := "powerSeen", unfollowed := true, recurses := true, plainKeys := false, apart := false, narrowed := true }
def PowerSeenUptoSaid : Prop := powerSeenUptoRow.holds Tryz.pinned (OpenSpec.upto powerSeenSpec)

/-- 'petershamlaw07.PowerCosts', WHERE WHAT IT READS IS OF BULK AT MOST 1048576: true; the input reads as it did. -/
def powerCostsUptoRow : OpenClaim := { program := "ytjlglbhafopomaagreat", sum := "813782a47909ce55f8ce520095bfa9409ed5d6dad78f1c6dc3dc06680e951909", func := "petersham/petershamlaw07.PowerCosts", spec := "powerCosts", unfollowed := true, recurses := true, plainKeys := false, apart := false, narrowed := true }
def PowerCostsUptoSaid : Prop := powerCostsUptoRow.holds Tryz.pinned (OpenSpec.upto powerCostsSpec)

/-- 'petershamlaw07.PowerShares', WHERE WHAT IT READS IS OF BULK AT MOST 1048576: true; the input reads as it did. -/
def powerSharesUptoRow : OpenClaim := { program := "ytjlglbhafopomaagreat", sum := "813782a47909ce55f8ce520095bfa9409ed5d6dad78f1c6dc3dc06680e951909", func := "petersham/petershamlaw07.PowerShares", spec := "powerShares", unfollowed := true, recurses := true, plainKeys := false, apart := false, narrowed := true }
def PowerSharesUptoSaid : Prop := powerSharesUptoRow.holds Tryz.pinned (OpenSpec.upto powerSharesSpec)

/-- 'petershamlaw07.PowerAlone', WHERE WHAT IT READS IS OF BULK AT MOST 1048576: true; the input reads as it did. -/
def powerAloneUptoRow : OpenClaim := { program := "ytjlglbhafopomaagreat", sum := "813782a47909ce55f8ce520095bfa9409ed5d6dad78f1c6dc3dc06680e951909", func := "petersham/petershamlaw07.PowerAlone", spec := "powerAlone", unfollowed := true, recurses := true, plainKeys := false, apart := false, narrowed := true }
def PowerAloneUptoSaid : Prop := powerAloneUptoRow.holds Tryz.pinned (OpenSpec.upto powerAloneSpec)

/-- 'petershamlaw07.PowerProofs', WHERE WHAT IT READS IS OF BULK AT MOST 1048576: true; the input reads as it did. -/
def powerProofsUptoRow : OpenClaim := { program := "ytjlglbhafopomaagreat", sum := "813782a47909ce55f8ce520095bfa9409ed5d6dad78f1c6dc3dc06680e951909", func := "petersham/petershamlaw07.PowerProofs", spec := "powerProofs", unfollowed := true, recurses := true, plainKeys := false, apart := false, narrowed := true }
def PowerProofsUptoSaid : Prop := powerProofsUptoRow.holds Tryz.pinned (OpenSpec.upto powerProofsSpec)

/-- 'petershamlaw07.PowerSlips', WHERE WHAT IT READS IS OF BULK AT MOST 1048576: true; the input reads as it did. -/
def powerSlipsUptoRow : OpenClaim := { program := "ytjlglbhafopomaagreat", sum := "813782a47909ce55f8ce520095bfa9409ed5d6dad78f1c6dc3dc06680e951909", func := "petersham/petershamlaw07.PowerSlips", spec := "powerSlips", unfollowed := true, recurses := true, plainKeys := false, apart := false, narrowed := true }
def PowerSlipsUptoSaid : Prop := powerSlipsUptoRow.holds Tryz.pinned (OpenSpec.upto powerSlipsSpec)

/-- 'petershamlaw07.PowerChecks', WHERE WHAT IT READS IS OF BULK AT MOST 1048576: true; the input reads as it did. -/
def powerChecksUptoRow : OpenClaim := { program := "ytjlglbhafopomaagreat", sum := "813782a47909ce55f8ce520095bfa9409ed5d6dad78f1c6dc3dc06680e951909", func := "petersham/petershamlaw07.PowerChecks", spec := "powerChecks", unfollowed := true, recurses := true, plainKeys := false, apart := false, narrowed := true }
def PowerChecksUptoSaid : Prop := powerChecksUptoRow.holds Tryz.pinned (OpenSpec.upto powerChecksSpec)

/-- 'petershamlaw07.PowerHours', WHERE WHAT IT READS IS OF BULK AT MOST 1048576: true; the input reads as it did. -/
def powerHoursUptoRow : OpenClaim := { program := "ytjlglbhafopomaagreat", sum := "813782a47909ce55f8ce520095bfa9409ed5d6dad78f1c6dc3dc06680e951909", func := "petersham/petershamlaw07.PowerHours", spec := "powerHours", unfollowed := true, recurses := true, plainKeys := false, apart := false, narrowed := true }
def PowerHoursUptoSaid : Prop := powerHoursUptoRow.holds Tryz.pinned (OpenSpec.upto powerHoursSpec)

/-- 'petershamlaw07.PowerFound', WHERE WHAT IT READS IS OF BULK AT MOST 1048576: true; the input reads as it did. -/
def powerFoundUptoRow : OpenClaim := { program := "ytjlglbhafopomaagreat", sum := "813782a47909ce55f8ce520095bfa9409ed5d6dad78f1c6dc3dc06680e951909", func := "petersham/petershamlaw07.PowerFound", spec := "powerFound", unfollowed := true, recurses := true, plainKeys := false, apart := false, narrowed := true }
def PowerFoundUptoSaid : Prop := powerFoundUptoRow.holds Tryz.pinned (OpenSpec.upto powerFoundSpec)

/-- 'petershamlaw07.PowerBetter', WHERE WHAT IT READS IS OF BULK AT MOST 1048576: true; the input reads as it did. -/
def powerBetterUptoRow : OpenClaim := { program := "ytjlglbhafopomaagreat", sum := "813782a47909ce55f8ce520095bfa9409ed5d6dad78f1c6dc3dc06680e951909", func := "petersham/petershamlaw07.PowerBetter", spec := "powerBetter", unfollowed := true, recurses := true, plainKeys := false, apart := false, narrowed := true }
def PowerBetterUptoSaid : Prop := powerBetterUptoRow.holds Tryz.pinned (OpenSpec.upto powerBetterSpec)

/-- 'petershamlaw07.PowerSmall', WHERE WHAT IT READS IS OF BULK AT MOST 1048576: true; the input reads as it did. -/
def powerSmallUptoRow : OpenClaim := { program := "ytjlglbhafopomaagreat", sum := "813782a47909ce55f8ce520095bfa9409ed5d6dad78f1c6dc3dc06680e951909", func := "petersham/petershamlaw07.PowerSmall", spec := "powerSmall", unfollowed := true, recurses := true, plainKeys := false, apart := false, narrowed := true }
def PowerSmallUptoSaid : Prop := powerSmallUptoRow.holds Tryz.pinned (OpenSpec.upto powerSmallSpec)

/-- 'petershamlaw07.PowerCame', WHERE WHAT IT READS IS OF BULK AT MOST 1048576: true; the input reads as it did. -/
def powerCameUptoRow : OpenClaim := { program := "ytjlglbhafopomaagreat", sum := "813782a47909ce55f8ce520095bfa9409ed5d6dad78f1c6dc3dc06680e951909", func := "petersham/petershamlaw07.PowerCame", spec := "powerCame", inPlace := ["slices.overlaps[int]"], unfollowed := true, recurses := true, plainKeys := false, apart := false, narrowed := true }
def PowerCameUptoSaid : Prop := powerCameUptoRow.holds Tryz.pinned (OpenSpec.upto powerCameSpec)

/-- 'petershamlaw07.PowerFair', WHERE WHAT IT READS IS OF BULK AT MOST 1048576: true; the input reads as it did. -/
def powerFairUptoRow : OpenClaim := { program := "ytjlglbhafopomaagreat", sum := "813782a47909ce55f8ce520095bfa9409ed5d6dad78f1c6dc3dc06680e951909", func := "petersham/petershamlaw07.PowerFair", spec := "powerFair", inPlace := ["slices.overlaps[int]"], unfollowed := true, recurses := true, plainKeys := false, apart := false, narrowed := true }
def PowerFairUptoSaid : Prop := powerFairUptoRow.holds Tryz.pinned (OpenSpec.upto powerFairSpec)

/-- 'petershamlaw07.PowerWoven', WHERE WHAT IT READS IS OF BULK AT MOST 1048576: true; the input reads as it did. -/
def powerWovenUptoRow : OpenClaim := { program := "ytjlglbhafopomaagreat", sum := "813782a47909ce55f8ce520095bfa9409ed5d6dad78f1c6dc3dc06680e951909", func := "petersham/petershamlaw07.PowerWoven", spec := "powerWoven", unfollowed := true, recurses := true, plainKeys := false, apart := false, narrowed := true }
def PowerWovenUptoSaid : Prop := powerWovenUptoRow.holds Tryz.pinned (OpenSpec.upto powerWovenSpec)

end Rows
end Go.Proofs.YtjlglbhafopomaaGreat
