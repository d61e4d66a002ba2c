/-
  No cell of these rows narrows 'for every input' (looked for: loops, veiled, ifaces, maps, wideKeys, modest, calm, conditions, laid).
  DERIVED. THE GIVEN ROWS OF THIS SEAT. 5 by the template 'for every input the law returns true; each argument reads behind the call as it read before'; 0 by the template 'total and deterministic' (their statements: YtmfeabfbhaiaeaaTotals.lean).
  GIVEN WITH THE SEED: the statements are not yours to turn. If you find one false, say at which input.
  Laid BY PROGRAM, IN A SANDBOX (cutbox-rows.mjs): the forced cells as the released guide's own fill.sh prints them over the translation 00e86e847436435c… (all of the seat's roots in one cut). By AI agents, Wed Nov 11 2026. No macro, syntax, notation, axiom, sorry.
-/
import Derived.Test.YtmfeabfbhaiaeaaChecked
import GoSem.Claim
import GoSem.ClaimJoined
import GoSem.ClaimMapViews
import Derived.JoinedTies
import Derived.KernelRfl
namespace Go.Proofs.Ytmfeabfbhaiaeaa
/- THE CELL 'sum', in the pinned program and in every row, IS THE sha256 OF THE DUMP (.gsa) THAT YtmfeabfbhaiaeaaProg.lean LOADS. Nothing in Lean hashes anything: it is a label: what it is worth is what the hold of that sum in a sandbox is worth. -/
noncomputable def Try.pinned : Pinned := { name := "ytmfeabfbhaiaeaa", sum := "00e86e847436435c3050884f67c231c9f12e12f5eb475a9b33e4f443e9c4f5b0", checked := Try.checked }
namespace Rows
def none {H : Type} : Left H := { results := [], args := [] }

/-- 'laws.FnExactIsGenericHere': WHATEVER THE INPUT: true; the input reads as it did. -/
def fnExactIsGenericHereSpec : ChangeSpec := { name := "fnExactIsGenericHere", fn := fun _ => fun
  | [d] => { results := [.lit (.bool true)], args := [d] }
  | _ => none }
def fnExactIsGenericHereRow : OpenClaim := { program := "ytmfeabfbhaiaeaa", sum := "00e86e847436435c3050884f67c231c9f12e12f5eb475a9b33e4f443e9c4f5b0", func := "loop.example/g02078/laws.FnExactIsGenericHere", spec := "fnExactIsGenericHere", apart := false }
def FnExactIsGenericHereSaid : Prop := fnExactIsGenericHereRow.holds Try.pinned (OpenSpec.ofChange fnExactIsGenericHereSpec)

/-- ITS FALSE NEIGHBOUR: 'it returns false'. Refute it at one input. -/
def fnExactIsGenericHereWrong : ChangeSpec := { name := "fnExactIsGenericHere", fn := fun _ => fun
  | [d] => { results := [.lit (.bool false)], args := [d] }
  | _ => none }
def FnExactIsGenericHereWrongFalsely : Prop := fnExactIsGenericHereRow.holds Try.pinned (OpenSpec.ofChange fnExactIsGenericHereWrong)

/-- 'laws.FnExactComponentsOf': WHATEVER THE INPUT: true; the input reads as it did. -/
def fnExactComponentsOfSpec : ChangeSpec := { name := "fnExactComponentsOf", fn := fun _ => fun
  | [d] => { results := [.lit (.bool true)], args := [d] }
  | _ => none }
def fnExactComponentsOfRow : OpenClaim := { program := "ytmfeabfbhaiaeaa", sum := "00e86e847436435c3050884f67c231c9f12e12f5eb475a9b33e4f443e9c4f5b0", func := "loop.example/g02078/laws.FnExactComponentsOf", spec := "fnExactComponentsOf", apart := false }
def FnExactComponentsOfSaid : Prop := fnExactComponentsOfRow.holds Try.pinned (OpenSpec.ofChange fnExactComponentsOfSpec)

/-- ITS FALSE NEIGHBOUR: 'it returns false'. Refute it at one input. -/
def fnExactComponentsOfWrong : ChangeSpec := { name := "fnExactComponentsOf", fn := fun _ => fun
  | [d] => { results := [.lit (.bool false)], args := [d] }
  | _ => none }
def FnExactComponentsOfWrongFalsely : Prop := fnExactComponentsOfRow.holds Try.pinned (OpenSpec.ofChange fnExactComponentsOfWrong)

/-- 'laws.FnExactApplyStep': WHATEVER THE INPUT: true; the input reads as it did. -/
def fnExactApplyStepSpec : ChangeSpec := { name := "fnExactApplyStep", fn := fun _ => fun
  | [d1, d2] => { results := [.lit (.bool true)], args := [d1, d2] }
  | _ => none }
def fnExactApplyStepRow : OpenClaim := { program := "ytmfeabfbhaiaeaa", sum := "00e86e847436435c3050884f67c231c9f12e12f5eb475a9b33e4f443e9c4f5b0", func := "loop.example/g02078/laws.FnExactApplyStep", spec := "fnExactApplyStep", unfollowed := true, recurses := true, apart := false }
def FnExactApplyStepSaid : Prop := fnExactApplyStepRow.holds Try.pinned (OpenSpec.ofChange fnExactApplyStepSpec)

/-- ITS FALSE NEIGHBOUR: 'it returns false'. Refute it at one input. -/
def fnExactApplyStepWrong : ChangeSpec := { name := "fnExactApplyStep", fn := fun _ => fun
  | [d1, d2] => { results := [.lit (.bool false)], args := [d1, d2] }
  | _ => none }
def FnExactApplyStepWrongFalsely : Prop := fnExactApplyStepRow.holds Try.pinned (OpenSpec.ofChange fnExactApplyStepWrong)

/-- 'laws.FnExactBuildSteps': WHATEVER THE INPUT: true; the input reads as it did. -/
def fnExactBuildStepsSpec : ChangeSpec := { name := "fnExactBuildSteps", fn := fun _ => fun
  | [d1, d2] => { results := [.lit (.bool true)], args := [d1, d2] }
  | _ => none }
def fnExactBuildStepsRow : OpenClaim := { program := "ytmfeabfbhaiaeaa", sum := "00e86e847436435c3050884f67c231c9f12e12f5eb475a9b33e4f443e9c4f5b0", func := "loop.example/g02078/laws.FnExactBuildSteps", spec := "fnExactBuildSteps", unfollowed := true, recurses := true, apart := false }
def FnExactBuildStepsSaid : Prop := fnExactBuildStepsRow.holds Try.pinned (OpenSpec.ofChange fnExactBuildStepsSpec)

/-- ITS FALSE NEIGHBOUR: 'it returns false'. Refute it at one input. -/
def fnExactBuildStepsWrong : ChangeSpec := { name := "fnExactBuildSteps", fn := fun _ => fun
  | [d1, d2] => { results := [.lit (.bool false)], args := [d1, d2] }
  | _ => none }
def FnExactBuildStepsWrongFalsely : Prop := fnExactBuildStepsRow.holds Try.pinned (OpenSpec.ofChange fnExactBuildStepsWrong)

/-- 'laws.FnExactPackTrees': WHATEVER THE INPUT: true; the input reads as it did. -/
def fnExactPackTreesSpec : ChangeSpec := { name := "fnExactPackTrees", fn := fun _ => fun
  | [d1, d2] => { results := [.lit (.bool true)], args := [d1, d2] }
  | _ => none }
def fnExactPackTreesRow : OpenClaim := { program := "ytmfeabfbhaiaeaa", sum := "00e86e847436435c3050884f67c231c9f12e12f5eb475a9b33e4f443e9c4f5b0", func := "loop.example/g02078/laws.FnExactPackTrees", spec := "fnExactPackTrees", unfollowed := true, recurses := true, apart := false }
def FnExactPackTreesSaid : Prop := fnExactPackTreesRow.holds Try.pinned (OpenSpec.ofChange fnExactPackTreesSpec)

/-- ITS FALSE NEIGHBOUR: 'it returns false'. Refute it at one input. -/
def fnExactPackTreesWrong : ChangeSpec := { name := "fnExactPackTrees", fn := fun _ => fun
  | [d1, d2] => { results := [.lit (.bool false)], args := [d1, d2] }
  | _ => none }
def FnExactPackTreesWrongFalsely : Prop := fnExactPackTreesRow.holds Try.pinned (OpenSpec.ofChange fnExactPackTreesWrong)

/- THE SECOND FORM. 'bulk': how many values and letters a reading holds, each counted each time it is reached (what is shared counts as often as it is met; a slice's spare places count too). A statement '..UptoSaid' is the law's where the arguments, and the package variables that the reading takes, are together of bulk at most 1048576: NARROWER than '..Said'. Prove '..Said' where nothing that the law and all that it calls make is longer than what came in: it says more and counts as full. Else prove '..UptoSaid'. A law counts once. -/
mutual
def uptoBulk {H : Type} : DataW H → Nat
  | .lit (.string bytes) => bytes.length + 1
  | .lit _ => 1
  | .nil => 1
  | .ptr d => uptoBulk d + 1
  | .slice elems spare => uptoBulkAll elems + uptoBulkAll spare + 1
  | .agg parts => uptoBulkAll parts + 1
  | .iface _ d => uptoBulk d + 1
  | .map entries => uptoBulkEntries entries + 1
  | .held _ => 1
def uptoBulkAll {H : Type} : List (DataW H) → Nat
  | [] => 0
  | d :: r => uptoBulk d + uptoBulkAll r
def uptoBulkEntries {H : Type} : List (Lit × DataW H) → Nat
  | [] => 0
  | x :: r => uptoBulkEntry x + uptoBulkEntries r
def uptoBulkEntry {H : Type} : Lit × DataW H → Nat
  | (.string bytes, d) => bytes.length + uptoBulk d + 1
  | (_, d) => uptoBulk d + 1
 end
def uptoSmall : (H : Type) → List (DataW H) → Bool := fun _ ds => decide (uptoBulkAll ds ≤ 1048576)
def OpenSpec.upto (s : _root_.Go.ChangeSpec) : _root_.Go.OpenSpec := { _root_.Go.OpenSpec.ofChange s with cond := some uptoSmall }

/-- 'laws.FnExactIsGenericHere', WHERE WHAT IT READS IS OF BULK AT MOST 1048576: true; the input reads as it did. -/
def fnExactIsGenericHereUptoRow : OpenClaim := { program := "ytmfeabfbhaiaeaa", sum := "00e86e847436435c3050884f67c231c9f12e12f5eb475a9b33e4f443e9c4f5b0", func := "loop.example/g02078/laws.FnExactIsGenericHere", spec := "fnExactIsGenericHere", apart := false, narrowed := true }
def FnExactIsGenericHereUptoSaid : Prop := fnExactIsGenericHereUptoRow.holds Try.pinned (OpenSpec.upto fnExactIsGenericHereSpec)

/-- 'laws.FnExactComponentsOf', WHERE WHAT IT READS IS OF BULK AT MOST 1048576: true; the input reads as it did. -/
def fnExactComponentsOfUptoRow : OpenClaim := { program := "ytmfeabfbhaiaeaa", sum := "00e86e847436435c3050884f67c231c9f12e12f5eb475a9b33e4f443e9c4f5b0", func := "loop.example/g02078/laws.FnExactComponentsOf", spec := "fnExactComponentsOf", apart := false, narrowed := true }
def FnExactComponentsOfUptoSaid : Prop := fnExactComponentsOfUptoRow.holds Try.pinned (OpenSpec.upto fnExactComponentsOfSpec)

/-- 'laws.FnExactApplyStep', WHERE WHAT IT READS IS OF BULK AT MOST 1048576: true; the input reads as it did. -/
def fnExactApplyStepUptoRow : OpenClaim := { program := "ytmfeabfbhaiaeaa", sum := "00e86e847436435c3050884f67c231c9f12e12f5eb475a9b33e4f443e9c4f5b0", func := "loop.example/g02078/laws.FnExactApplyStep", spec := "fnExactApplyStep", unfollowed := true, recurses := true, apart := false, narrowed := true }
def FnExactApplyStepUptoSaid : Prop := fnExactApplyStepUptoRow.holds Try.pinned (OpenSpec.upto fnExactApplyStepSpec)

/-- 'laws.FnExactBuildSteps', WHERE WHAT IT READS IS OF BULK AT MOST 1048576: true; the input reads as it did. -/
def fnExactBuildStepsUptoRow : OpenClaim := { program := "ytmfeabfbhaiaeaa", sum := "00e86e847436435c3050884f67c231c9f12e12f5eb475a9b33e4f443e9c4f5b0", func := "loop.example/g02078/laws.FnExactBuildSteps", spec := "fnExactBuildSteps", unfollowed := true, recurses := true, apart := false, narrowed := true }
def FnExactBuildStepsUptoSaid : Prop := fnExactBuildStepsUptoRow.holds Try.pinned (OpenSpec.upto fnExactBuildStepsSpec)

/-- 'laws.FnExactPackTrees', WHERE WHAT IT READS IS OF BULK AT MOST 1048576: true; the input reads as it did. -/
def fnExactPackTreesUptoRow : OpenClaim := { program := "ytmfeabfbhaiaeaa", sum := "00e86e847436435c3050884f67c231c9f12e12f5eb475a9b33e4f443e9c4f5b0", func := "loop.example/g02078/laws.FnExactPackTrees", spec := "fnExactPackTrees", unfollowed := true, recurses := true, apart := false, narrowed := true }
def FnExactPackTreesUptoSaid : Prop := fnExactPackTreesUptoRow.holds Try.pinned (OpenSpec.upto fnExactPackTreesSpec)

end Rows
end Go.Proofs.Ytmfeabfbhaiaeaa
