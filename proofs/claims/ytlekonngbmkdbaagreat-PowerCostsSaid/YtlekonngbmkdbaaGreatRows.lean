/-
  No cell of these rows narrows 'for every input' (looked for: loops, veiled, ifaces, maps, wideKeys, modest, calm, conditions, laid).
  DERIVED. THE GIVEN ROWS OF THIS SEAT. 4 by the template 'for every input the law returns true; each argument reads behind the call as it read before'; 0 by the template 'total and deterministic' (their statements: YtlekonngbmkdbaaGreatTotals.lean).
  GIVEN WITH THE SEED: the statements are not yours to turn. If you find one false, say at which input.
  Laid BY PROGRAM, IN A SANDBOX (cutbox-rows.mjs): the forced cells as the released guide's own fill.sh prints them over the translation 6640df8fbbfa0e84… (all of the seat's roots in one cut). By AI agents, Wed Nov 11 2026. No macro, syntax, notation, axiom, sorry.
-/
import Derived.Test.YtlekonngbmkdbaaGreatChecked
import GoSem.Claim
import GoSem.ClaimJoined
import GoSem.ClaimMapViews
import Derived.JoinedTies
import Derived.KernelRfl
namespace Go.Proofs.YtlekonngbmkdbaaGreat
/- THE CELL 'sum', in the pinned program and in every row, IS THE sha256 OF THE DUMP (.gsa) THAT YtlekonngbmkdbaaGreatProg.lean LOADS. Nothing in Lean hashes anything: it is a label: what it is worth is what the hold of that sum in a sandbox is worth. -/
noncomputable def Tryz.pinned : Pinned := { name := "ytlekonngbmkdbaagreat", sum := "6640df8fbbfa0e84f224ec93b9c3dee1516dfe74576048e27037046fd158644a", checked := Tryz.checked }
namespace Rows
def none {H : Type} : Left H := { results := [], args := [] }

/-- 'petershamlaw05.LoomSmall': WHATEVER THE INPUT: true; the input reads as it did. -/
def loomSmallSpec : ChangeSpec := { name := "loomSmall", fn := fun _ => fun
  | [] => { results := [.lit (.bool true)], args := [] }
  | _ => none }
def loomSmallRow : OpenClaim := { program := "ytlekonngbmkdbaagreat", sum := "6640df8fbbfa0e84f224ec93b9c3dee1516dfe74576048e27037046fd158644a", func := "petersham/petershamlaw05.LoomSmall", spec := "loomSmall", unfollowed := true, recurses := true, plainKeys := false, apart := false }
def LoomSmallSaid : Prop := loomSmallRow.holds Tryz.pinned (OpenSpec.ofChange loomSmallSpec)

/-- ITS FALSE NEIGHBOUR: 'it returns false'. Refute it at one input. -/
def loomSmallWrong : ChangeSpec := { name := "loomSmall", fn := fun _ => fun
  | [] => { results := [.lit (.bool false)], args := [] }
  | _ => none }
def LoomSmallWrongFalsely : Prop := loomSmallRow.holds Tryz.pinned (OpenSpec.ofChange loomSmallWrong)

/-- 'petershamlaw07.PowerCosts': WHATEVER THE INPUT: true; the input reads as it did. -/
def powerCostsSpec : ChangeSpec := { name := "powerCosts", fn := fun _ => fun
  | [d1, d2, d3, d4, d5] => { results := [.lit (.bool true)], args := [d1, d2, d3, d4, d5] }
  | _ => none }
def powerCostsRow : OpenClaim := { program := "ytlekonngbmkdbaagreat", sum := "6640df8fbbfa0e84f224ec93b9c3dee1516dfe74576048e27037046fd158644a", func := "petersham/petershamlaw07.PowerCosts", spec := "powerCosts", unfollowed := true, recurses := true, plainKeys := false, apart := false }
def PowerCostsSaid : Prop := powerCostsRow.holds Tryz.pinned (OpenSpec.ofChange powerCostsSpec)

/-- ITS FALSE NEIGHBOUR: 'it returns false'. Refute it at one input. -/
def powerCostsWrong : ChangeSpec := { name := "powerCosts", fn := fun _ => fun
  | [d1, d2, d3, d4, d5] => { results := [.lit (.bool false)], args := [d1, d2, d3, d4, d5] }
  | _ => none }
def PowerCostsWrongFalsely : Prop := powerCostsRow.holds Tryz.pinned (OpenSpec.ofChange powerCostsWrong)

/-- 'petershamlaw07.PowerSmall': WHATEVER THE INPUT: true; the input reads as it did. -/
def powerSmallSpec : ChangeSpec := { name := "powerSmall", fn := fun _ => fun
  | [] => { results := [.lit (.bool true)], args := [] }
  | _ => none }
def powerSmallRow : OpenClaim := { program := "ytlekonngbmkdbaagreat", sum := "6640df8fbbfa0e84f224ec93b9c3dee1516dfe74576048e27037046fd158644a", func := "petersham/petershamlaw07.PowerSmall", spec := "powerSmall", unfollowed := true, recurses := true, plainKeys := false, apart := false }
def PowerSmallSaid : Prop := powerSmallRow.holds Tryz.pinned (OpenSpec.ofChange powerSmallSpec)

/-- ITS FALSE NEIGHBOUR: 'it returns false'. Refute it at one input. -/
def powerSmallWrong : ChangeSpec := { name := "powerSmall", fn := fun _ => fun
  | [] => { results := [.lit (.bool false)], args := [] }
  | _ => none }
def PowerSmallWrongFalsely : Prop := powerSmallRow.holds Tryz.pinned (OpenSpec.ofChange powerSmallWrong)

/-- 'petershamlaw07.PowerWoven': WHATEVER THE INPUT: true; the input reads as it did. -/
def powerWovenSpec : ChangeSpec := { name := "powerWoven", fn := fun _ => fun
  | [d1, d2, d3, d4] => { results := [.lit (.bool true)], args := [d1, d2, d3, d4] }
  | _ => none }
def powerWovenRow : OpenClaim := { program := "ytlekonngbmkdbaagreat", sum := "6640df8fbbfa0e84f224ec93b9c3dee1516dfe74576048e27037046fd158644a", func := "petersham/petershamlaw07.PowerWoven", spec := "powerWoven", unfollowed := true, recurses := true, plainKeys := false, apart := false }
def PowerWovenSaid : Prop := powerWovenRow.holds Tryz.pinned (OpenSpec.ofChange powerWovenSpec)

/-- ITS FALSE NEIGHBOUR: 'it returns false'. Refute it at one input. -/
def powerWovenWrong : ChangeSpec := { name := "powerWoven", fn := fun _ => fun
  | [d1, d2, d3, d4] => { results := [.lit (.bool false)], args := [d1, d2, d3, d4] }
  | _ => none }
def PowerWovenWrongFalsely : Prop := powerWovenRow.holds Tryz.pinned (OpenSpec.ofChange powerWovenWrong)

/- THE SECOND FORM. 'bulk': how many values and letters a reading holds, each counted each time it is reached (what is shared counts as often as it is met; a slice's spare places count too). A statement '..UptoSaid' is the law's where the arguments, and the package variables that the reading takes, are together of bulk at most 1048576: NARROWER than '..Said'. Prove '..Said' where nothing that the law and all that it calls make is longer than what came in: it says more and counts as full. Else prove '..UptoSaid'. A law counts once. -/
mutual
def uptoBulk {H : Type} : DataW H → Nat
  | .lit (.string bytes) => bytes.length + 1
  | .lit _ => 1
  | .nil => 1
  | .ptr d => uptoBulk d + 1
  | .slice elems spare => uptoBulkAll elems + uptoBulkAll spare + 1
  | .agg parts => uptoBulkAll parts + 1
  | .iface _ d => uptoBulk d + 1
  | .map entries => uptoBulkEntries entries + 1
  | .held _ => 1
def uptoBulkAll {H : Type} : List (DataW H) → Nat
  | [] => 0
  | d :: r => uptoBulk d + uptoBulkAll r
def uptoBulkEntries {H : Type} : List (Lit × DataW H) → Nat
  | [] => 0
  | x :: r => uptoBulkEntry x + uptoBulkEntries r
def uptoBulkEntry {H : Type} : Lit × DataW H → Nat
  | (.string bytes, d) => bytes.length + uptoBulk d + 1
  | (_, d) => uptoBulk d + 1
 end
def uptoSmall : (H : Type) → List (DataW H) → Bool := fun _ ds => decide (uptoBulkAll ds ≤ 1048576)
def OpenSpec.upto (s : _root_.Go.ChangeSpec) : _root_.Go.OpenSpec := { _root_.Go.OpenSpec.ofChange s with cond := some uptoSmall }

/-- 'petershamlaw05.LoomSmall', WHERE WHAT IT READS IS OF BULK AT MOST 1048576: true; the input reads as it did. -/
def loomSmallUptoRow : OpenClaim := { program := "ytlekonngbmkdbaagreat", sum := "6640df8fbbfa0e84f224ec93b9c3dee1516dfe74576048e27037046fd158644a", func := "petersham/petershamlaw05.LoomSmall", spec := "loomSmall", unfollowed := true, recurses := true, plainKeys := false, apart := false, narrowed := true }
def LoomSmallUptoSaid : Prop := loomSmallUptoRow.holds Tryz.pinned (OpenSpec.upto loomSmallSpec)

/-- 'petershamlaw07.PowerCosts', WHERE WHAT IT READS IS OF BULK AT MOST 1048576: true; the input reads as it did. -/
def powerCostsUptoRow : OpenClaim := { program := "ytlekonngbmkdbaagreat", sum := "6640df8fbbfa0e84f224ec93b9c3dee1516dfe74576048e27037046fd158644a", func := "petersham/petershamlaw07.PowerCosts", spec := "powerCosts", unfollowed := true, recurses := true, plainKeys := false, apart := false, narrowed := true }
def PowerCostsUptoSaid : Prop := powerCostsUptoRow.holds Tryz.pinned (OpenSpec.upto powerCostsSpec)

/-- 'petershamlaw07.PowerSmall', WHERE WHAT IT READS IS OF BULK AT MOST 1048576: true; the input reads as it did. -/
def powerSmallUptoRow : OpenClaim := { program := "ytlekonngbmkdbaagreat", sum := "6640df8fbbfa0e84f224ec93b9c3dee1516dfe74576048e27037046fd158644a", func := "petersham/petershamlaw07.PowerSmall", spec := "powerSmall", unfollowed := true, recurses := true, plainKeys := false, apart := false, narrowed := true }
def PowerSmallUptoSaid : Prop := powerSmallUptoRow.holds Tryz.pinned (OpenSpec.upto powerSmallSpec)

/-- 'petershamlaw07.PowerWoven', WHERE WHAT IT READS IS OF BULK AT MOST 1048576: true; the input reads as it did. -/
def powerWovenUptoRow : OpenClaim := { program := "ytlekonngbmkdbaagreat", sum := "6640df8fbbfa0e84f224ec93b9c3dee1516dfe74576048e27037046fd158644a", func := "petersham/petershamlaw07.PowerWoven", spec := "powerWoven", unfollowed := true, recurses := true, plainKeys := false, apart := false, narrowed := true }
def PowerWovenUptoSaid : Prop := powerWovenUptoRow.holds Tryz.pinned (OpenSpec.upto powerWovenSpec)

end Rows
end Go.Proofs.YtlekonngbmkdbaaGreat
