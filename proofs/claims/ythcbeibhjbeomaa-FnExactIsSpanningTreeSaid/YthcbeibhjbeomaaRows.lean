/-
  No cell of these rows narrows 'for every input' (looked for: loops, veiled, ifaces, maps, wideKeys, modest, calm, conditions, laid).
  DERIVED. THE GIVEN ROWS OF THIS SEAT. 11 by the template 'for every input the law returns true; each argument reads behind the call as it read before'; 0 by the template 'total and deterministic' (their statements: YthcbeibhjbeomaaTotals.lean).
  GIVEN WITH THE SEED: the statements are not yours to turn. If you find one false, say at which input.
  Laid BY PROGRAM, IN A SANDBOX (cutbox-rows.mjs): the forced cells as the released guide's own fill.sh prints them over the translation ac7ab44f744947be… (all of the seat's roots in one cut). By AI agents, Wed Nov 11 2026. No macro, syntax, notation, axiom, sorry.
-/
import Derived.Test.YthcbeibhjbeomaaChecked
import GoSem.Claim
import GoSem.ClaimJoined
import GoSem.ClaimMapViews
import Derived.JoinedTies
import Derived.KernelRfl
namespace Go.Proofs.Ythcbeibhjbeomaa
/- THE CELL 'sum', in the pinned program and in every row, IS THE sha256 OF THE DUMP (.gsa) THAT YthcbeibhjbeomaaProg.lean LOADS. Nothing in Lean hashes anything: it is a label: what it is worth is what the hold of that sum in a sandbox is worth. -/
noncomputable def Try.pinned : Pinned := { name := "ythcbeibhjbeomaa", sum := "ac7ab44f744947be598c62c33380e5941987e0d2ee71cb98f8b3f9c930a38cc3", checked := Try.checked }
namespace Rows
def none {H : Type} : Left H := { results := [], args := [] }

/-- 'laws.FnExactFormatSteps': WHATEVER THE INPUT: true; the input reads as it did. -/
def fnExactFormatStepsSpec : ChangeSpec := { name := "fnExactFormatSteps", fn := fun _ => fun
  | [d] => { results := [.lit (.bool true)], args := [d] }
  | _ => none }
def fnExactFormatStepsRow : OpenClaim := { program := "ythcbeibhjbeomaa", sum := "ac7ab44f744947be598c62c33380e5941987e0d2ee71cb98f8b3f9c930a38cc3", func := "loop.example/g02078/laws.FnExactFormatSteps", spec := "fnExactFormatSteps", apart := false }
def FnExactFormatStepsSaid : Prop := fnExactFormatStepsRow.holds Try.pinned (OpenSpec.ofChange fnExactFormatStepsSpec)

/-- ITS FALSE NEIGHBOUR: 'it returns false'. Refute it at one input. -/
def fnExactFormatStepsWrong : ChangeSpec := { name := "fnExactFormatSteps", fn := fun _ => fun
  | [d] => { results := [.lit (.bool false)], args := [d] }
  | _ => none }
def FnExactFormatStepsWrongFalsely : Prop := fnExactFormatStepsRow.holds Try.pinned (OpenSpec.ofChange fnExactFormatStepsWrong)

/-- 'laws.FnExactFormatFramework': WHATEVER THE INPUT: true; the input reads as it did. -/
def fnExactFormatFrameworkSpec : ChangeSpec := { name := "fnExactFormatFramework", fn := fun _ => fun
  | [d] => { results := [.lit (.bool true)], args := [d] }
  | _ => none }
def fnExactFormatFrameworkRow : OpenClaim := { program := "ythcbeibhjbeomaa", sum := "ac7ab44f744947be598c62c33380e5941987e0d2ee71cb98f8b3f9c930a38cc3", func := "loop.example/g02078/laws.FnExactFormatFramework", spec := "fnExactFormatFramework", apart := false }
def FnExactFormatFrameworkSaid : Prop := fnExactFormatFrameworkRow.holds Try.pinned (OpenSpec.ofChange fnExactFormatFrameworkSpec)

/-- ITS FALSE NEIGHBOUR: 'it returns false'. Refute it at one input. -/
def fnExactFormatFrameworkWrong : ChangeSpec := { name := "fnExactFormatFramework", fn := fun _ => fun
  | [d] => { results := [.lit (.bool false)], args := [d] }
  | _ => none }
def FnExactFormatFrameworkWrongFalsely : Prop := fnExactFormatFrameworkRow.holds Try.pinned (OpenSpec.ofChange fnExactFormatFrameworkWrong)

/-- 'laws.FnExactParseFramework': WHATEVER THE INPUT: true; the input reads as it did. -/
def fnExactParseFrameworkSpec : ChangeSpec := { name := "fnExactParseFramework", fn := fun _ => fun
  | [d] => { results := [.lit (.bool true)], args := [d] }
  | _ => none }
def fnExactParseFrameworkRow : OpenClaim := { program := "ythcbeibhjbeomaa", sum := "ac7ab44f744947be598c62c33380e5941987e0d2ee71cb98f8b3f9c930a38cc3", func := "loop.example/g02078/laws.FnExactParseFramework", spec := "fnExactParseFramework", apart := false }
def FnExactParseFrameworkSaid : Prop := fnExactParseFrameworkRow.holds Try.pinned (OpenSpec.ofChange fnExactParseFrameworkSpec)

/-- ITS FALSE NEIGHBOUR: 'it returns false'. Refute it at one input. -/
def fnExactParseFrameworkWrong : ChangeSpec := { name := "fnExactParseFramework", fn := fun _ => fun
  | [d] => { results := [.lit (.bool false)], args := [d] }
  | _ => none }
def FnExactParseFrameworkWrongFalsely : Prop := fnExactParseFrameworkRow.holds Try.pinned (OpenSpec.ofChange fnExactParseFrameworkWrong)

/-- 'laws.FnExactIsForest': WHATEVER THE INPUT: true; the input reads as it did. -/
def fnExactIsForestSpec : ChangeSpec := { name := "fnExactIsForest", fn := fun _ => fun
  | [d1, d2] => { results := [.lit (.bool true)], args := [d1, d2] }
  | _ => none }
def fnExactIsForestRow : OpenClaim := { program := "ythcbeibhjbeomaa", sum := "ac7ab44f744947be598c62c33380e5941987e0d2ee71cb98f8b3f9c930a38cc3", func := "loop.example/g02078/laws.FnExactIsForest", spec := "fnExactIsForest", apart := false }
def FnExactIsForestSaid : Prop := fnExactIsForestRow.holds Try.pinned (OpenSpec.ofChange fnExactIsForestSpec)

/-- ITS FALSE NEIGHBOUR: 'it returns false'. Refute it at one input. -/
def fnExactIsForestWrong : ChangeSpec := { name := "fnExactIsForest", fn := fun _ => fun
  | [d1, d2] => { results := [.lit (.bool false)], args := [d1, d2] }
  | _ => none }
def FnExactIsForestWrongFalsely : Prop := fnExactIsForestRow.holds Try.pinned (OpenSpec.ofChange fnExactIsForestWrong)

/-- 'laws.FnExactIsSpanningTree': WHATEVER THE INPUT: true; the input reads as it did. -/
def fnExactIsSpanningTreeSpec : ChangeSpec := { name := "fnExactIsSpanningTree", fn := fun _ => fun
  | [d1, d2] => { results := [.lit (.bool true)], args := [d1, d2] }
  | _ => none }
def fnExactIsSpanningTreeRow : OpenClaim := { program := "ythcbeibhjbeomaa", sum := "ac7ab44f744947be598c62c33380e5941987e0d2ee71cb98f8b3f9c930a38cc3", func := "loop.example/g02078/laws.FnExactIsSpanningTree", spec := "fnExactIsSpanningTree", apart := false }
def FnExactIsSpanningTreeSaid : Prop := fnExactIsSpanningTreeRow.holds Try.pinned (OpenSpec.ofChange fnExactIsSpanningTreeSpec)

/-- ITS FALSE NEIGHBOUR: 'it returns false'. Refute it at one input. -/
def fnExactIsSpanningTreeWrong : ChangeSpec := { name := "fnExactIsSpanningTree", fn := fun _ => fun
  | [d1, d2] => { results := [.lit (.bool false)], args := [d1, d2] }
  | _ => none }
def FnExactIsSpanningTreeWrongFalsely : Prop := fnExactIsSpanningTreeRow.holds Try.pinned (OpenSpec.ofChange fnExactIsSpanningTreeWrong)

/-- 'laws.FnExactCountTrees': WHATEVER THE INPUT: true; the input reads as it did. -/
def fnExactCountTreesSpec : ChangeSpec := { name := "fnExactCountTrees", fn := fun _ => fun
  | [d] => { results := [.lit (.bool true)], args := [d] }
  | _ => none }
def fnExactCountTreesRow : OpenClaim := { program := "ythcbeibhjbeomaa", sum := "ac7ab44f744947be598c62c33380e5941987e0d2ee71cb98f8b3f9c930a38cc3", func := "loop.example/g02078/laws.FnExactCountTrees", spec := "fnExactCountTrees", recurses := true, apart := false }
def FnExactCountTreesSaid : Prop := fnExactCountTreesRow.holds Try.pinned (OpenSpec.ofChange fnExactCountTreesSpec)

/-- ITS FALSE NEIGHBOUR: 'it returns false'. Refute it at one input. -/
def fnExactCountTreesWrong : ChangeSpec := { name := "fnExactCountTrees", fn := fun _ => fun
  | [d] => { results := [.lit (.bool false)], args := [d] }
  | _ => none }
def FnExactCountTreesWrongFalsely : Prop := fnExactCountTreesRow.holds Try.pinned (OpenSpec.ofChange fnExactCountTreesWrong)

/-- 'laws.FnExactPackTrees': WHATEVER THE INPUT: true; the input reads as it did. -/
def fnExactPackTreesSpec : ChangeSpec := { name := "fnExactPackTrees", fn := fun _ => fun
  | [d1, d2] => { results := [.lit (.bool true)], args := [d1, d2] }
  | _ => none }
def fnExactPackTreesRow : OpenClaim := { program := "ythcbeibhjbeomaa", sum := "ac7ab44f744947be598c62c33380e5941987e0d2ee71cb98f8b3f9c930a38cc3", func := "loop.example/g02078/laws.FnExactPackTrees", spec := "fnExactPackTrees", unfollowed := true, recurses := true, apart := false }
def FnExactPackTreesSaid : Prop := fnExactPackTreesRow.holds Try.pinned (OpenSpec.ofChange fnExactPackTreesSpec)

/-- ITS FALSE NEIGHBOUR: 'it returns false'. Refute it at one input. -/
def fnExactPackTreesWrong : ChangeSpec := { name := "fnExactPackTrees", fn := fun _ => fun
  | [d1, d2] => { results := [.lit (.bool false)], args := [d1, d2] }
  | _ => none }
def FnExactPackTreesWrongFalsely : Prop := fnExactPackTreesRow.holds Try.pinned (OpenSpec.ofChange fnExactPackTreesWrong)

/-- 'laws.FnExactArePackedTrees': WHATEVER THE INPUT: true; the input reads as it did. -/
def fnExactArePackedTreesSpec : ChangeSpec := { name := "fnExactArePackedTrees", fn := fun _ => fun
  | [d1, d2, d3] => { results := [.lit (.bool true)], args := [d1, d2, d3] }
  | _ => none }
def fnExactArePackedTreesRow : OpenClaim := { program := "ythcbeibhjbeomaa", sum := "ac7ab44f744947be598c62c33380e5941987e0d2ee71cb98f8b3f9c930a38cc3", func := "loop.example/g02078/laws.FnExactArePackedTrees", spec := "fnExactArePackedTrees", recurses := true, apart := false }
def FnExactArePackedTreesSaid : Prop := fnExactArePackedTreesRow.holds Try.pinned (OpenSpec.ofChange fnExactArePackedTreesSpec)

/-- ITS FALSE NEIGHBOUR: 'it returns false'. Refute it at one input. -/
def fnExactArePackedTreesWrong : ChangeSpec := { name := "fnExactArePackedTrees", fn := fun _ => fun
  | [d1, d2, d3] => { results := [.lit (.bool false)], args := [d1, d2, d3] }
  | _ => none }
def FnExactArePackedTreesWrongFalsely : Prop := fnExactArePackedTreesRow.holds Try.pinned (OpenSpec.ofChange fnExactArePackedTreesWrong)

/-- 'laws.FnExactApplyStep': WHATEVER THE INPUT: true; the input reads as it did. -/
def fnExactApplyStepSpec : ChangeSpec := { name := "fnExactApplyStep", fn := fun _ => fun
  | [d1, d2] => { results := [.lit (.bool true)], args := [d1, d2] }
  | _ => none }
def fnExactApplyStepRow : OpenClaim := { program := "ythcbeibhjbeomaa", sum := "ac7ab44f744947be598c62c33380e5941987e0d2ee71cb98f8b3f9c930a38cc3", func := "loop.example/g02078/laws.FnExactApplyStep", spec := "fnExactApplyStep", unfollowed := true, recurses := true, apart := false }
def FnExactApplyStepSaid : Prop := fnExactApplyStepRow.holds Try.pinned (OpenSpec.ofChange fnExactApplyStepSpec)

/-- ITS FALSE NEIGHBOUR: 'it returns false'. Refute it at one input. -/
def fnExactApplyStepWrong : ChangeSpec := { name := "fnExactApplyStep", fn := fun _ => fun
  | [d1, d2] => { results := [.lit (.bool false)], args := [d1, d2] }
  | _ => none }
def FnExactApplyStepWrongFalsely : Prop := fnExactApplyStepRow.holds Try.pinned (OpenSpec.ofChange fnExactApplyStepWrong)

/-- 'laws.FnExactBuildSteps': WHATEVER THE INPUT: true; the input reads as it did. -/
def fnExactBuildStepsSpec : ChangeSpec := { name := "fnExactBuildSteps", fn := fun _ => fun
  | [d1, d2] => { results := [.lit (.bool true)], args := [d1, d2] }
  | _ => none }
def fnExactBuildStepsRow : OpenClaim := { program := "ythcbeibhjbeomaa", sum := "ac7ab44f744947be598c62c33380e5941987e0d2ee71cb98f8b3f9c930a38cc3", func := "loop.example/g02078/laws.FnExactBuildSteps", spec := "fnExactBuildSteps", unfollowed := true, recurses := true, apart := false }
def FnExactBuildStepsSaid : Prop := fnExactBuildStepsRow.holds Try.pinned (OpenSpec.ofChange fnExactBuildStepsSpec)

/-- ITS FALSE NEIGHBOUR: 'it returns false'. Refute it at one input. -/
def fnExactBuildStepsWrong : ChangeSpec := { name := "fnExactBuildSteps", fn := fun _ => fun
  | [d1, d2] => { results := [.lit (.bool false)], args := [d1, d2] }
  | _ => none }
def FnExactBuildStepsWrongFalsely : Prop := fnExactBuildStepsRow.holds Try.pinned (OpenSpec.ofChange fnExactBuildStepsWrong)

/-- 'laws.FnExactComponentsOf': WHATEVER THE INPUT: true; the input reads as it did. -/
def fnExactComponentsOfSpec : ChangeSpec := { name := "fnExactComponentsOf", fn := fun _ => fun
  | [d] => { results := [.lit (.bool true)], args := [d] }
  | _ => none }
def fnExactComponentsOfRow : OpenClaim := { program := "ythcbeibhjbeomaa", sum := "ac7ab44f744947be598c62c33380e5941987e0d2ee71cb98f8b3f9c930a38cc3", func := "loop.example/g02078/laws.FnExactComponentsOf", spec := "fnExactComponentsOf", apart := false }
def FnExactComponentsOfSaid : Prop := fnExactComponentsOfRow.holds Try.pinned (OpenSpec.ofChange fnExactComponentsOfSpec)

/-- ITS FALSE NEIGHBOUR: 'it returns false'. Refute it at one input. -/
def fnExactComponentsOfWrong : ChangeSpec := { name := "fnExactComponentsOf", fn := fun _ => fun
  | [d] => { results := [.lit (.bool false)], args := [d] }
  | _ => none }
def FnExactComponentsOfWrongFalsely : Prop := fnExactComponentsOfRow.holds Try.pinned (OpenSpec.ofChange fnExactComponentsOfWrong)

/- THE SECOND FORM. 'bulk': how many values and letters a reading holds, each counted each time it is reached (what is shared counts as often as it is met; a slice's spare places count too). A statement '..UptoSaid' is the law's where the arguments, and the package variables that the reading takes, are together of bulk at most 1048576: NARROWER than '..Said'. Prove '..Said' where nothing that the law and all that it calls make is longer than what came in: it says more and counts as full. Else prove '..UptoSaid'. A law counts once. -/
mutual
def uptoBulk {H : Type} : DataW H → Nat
  | .lit (.string bytes) => bytes.length + 1
  | .lit _ => 1
  | .nil => 1
  | .ptr d => uptoBulk d + 1
  | .slice elems spare => uptoBulkAll elems + uptoBulkAll spare + 1
  | .agg parts => uptoBulkAll parts + 1
  | .iface _ d => uptoBulk d + 1
  | .map entries => uptoBulkEntries entries + 1
  | .held _ => 1
def uptoBulkAll {H : Type} : List (DataW H) → Nat
  | [] => 0
  | d :: r => uptoBulk d + uptoBulkAll r
def uptoBulkEntries {H : Type} : List (Lit × DataW H) → Nat
  | [] => 0
  | x :: r => uptoBulkEntry x + uptoBulkEntries r
def uptoBulkEntry {H : Type} : Lit × DataW H → Nat
  | (.string bytes, d) => bytes.length + uptoBulk d + 1
  | (_, d) => uptoBulk d + 1
 end
def uptoSmall : (H : Type) → List (DataW H) → Bool := fun _ ds => decide (uptoBulkAll ds ≤ 1048576)
def OpenSpec.upto (s : _root_.Go.ChangeSpec) : _root_.Go.OpenSpec := { _root_.Go.OpenSpec.ofChange s with cond := some uptoSmall }

/-- 'laws.FnExactFormatSteps', WHERE WHAT IT READS IS OF BULK AT MOST 1048576: true; the input reads as it did. -/
def fnExactFormatStepsUptoRow : OpenClaim := { program := "ythcbeibhjbeomaa", sum := "ac7ab44f744947be598c62c33380e5941987e0d2ee71cb98f8b3f9c930a38cc3", func := "loop.example/g02078/laws.FnExactFormatSteps", spec := "fnExactFormatSteps", apart := false, narrowed := true }
def FnExactFormatStepsUptoSaid : Prop := fnExactFormatStepsUptoRow.holds Try.pinned (OpenSpec.upto fnExactFormatStepsSpec)

/-- 'laws.FnExactFormatFramework', WHERE WHAT IT READS IS OF BULK AT MOST 1048576: true; the input reads as it did. -/
def fnExactFormatFrameworkUptoRow : OpenClaim := { program := "ythcbeibhjbeomaa", sum := "ac7ab44f744947be598c62c33380e5941987e0d2ee71cb98f8b3f9c930a38cc3", func := "loop.example/g02078/laws.FnExactFormatFramework", spec := "fnExactFormatFramework", apart := false, narrowed := true }
def FnExactFormatFrameworkUptoSaid : Prop := fnExactFormatFrameworkUptoRow.holds Try.pinned (OpenSpec.upto fnExactFormatFrameworkSpec)

/-- 'laws.FnExactParseFramework', WHERE WHAT IT READS IS OF BULK AT MOST 1048576: true; the input reads as it did. -/
def fnExactParseFrameworkUptoRow : OpenClaim := { program := "ythcbeibhjbeomaa", sum := "ac7ab44f744947be598c62c33380e5941987e0d2ee71cb98f8b3f9c930a38cc3", func := "loop.example/g02078/laws.FnExactParseFramework", spec := "fnExactParseFramework", apart := false, narrowed := true }
def FnExactParseFrameworkUptoSaid : Prop := fnExactParseFrameworkUptoRow.holds Try.pinned (OpenSpec.upto fnExactParseFrameworkSpec)

/-- 'laws.FnExactIsForest', WHERE WHAT IT READS IS OF BULK AT MOST 1048576: true; the input reads as it did. -/
def fnExactIsForestUptoRow : OpenClaim := { program := "ythcbeibhjbeomaa", sum := "ac7ab44f744947be598c62c33380e5941987e0d2ee71cb98f8b3f9c930a38cc3", func := "loop.example/g02078/laws.FnExactIsForest", spec := "fnExactIsForest", apart := false, narrowed := true }
def FnExactIsForestUptoSaid : Prop := fnExactIsForestUptoRow.holds Try.pinned (OpenSpec.upto fnExactIsForestSpec)

/-- 'laws.FnExactIsSpanningTree', WHERE WHAT IT READS IS OF BULK AT MOST 1048576: true; the input reads as it did. -/
def fnExactIsSpanningTreeUptoRow : OpenClaim := { program := "ythcbeibhjbeomaa", sum := "ac7ab44f744947be598c62c33380e5941987e0d2ee71cb98f8b3f9c930a38cc3", func := "loop.example/g02078/laws.FnExactIsSpanningTree", spec := "fnExactIsSpanningTree", apart := false, narrowed := true }
def FnExactIsSpanningTreeUptoSaid : Prop := fnExactIsSpanningTreeUptoRow.holds Try.pinned (OpenSpec.upto fnExactIsSpanningTreeSpec)

/-- 'laws.FnExactCountTrees', WHERE WHAT IT READS IS OF BULK AT MOST 1048576: true; the input reads as it did. -/
def fnExactCountTreesUptoRow : OpenClaim := { program := "ythcbeibhjbeomaa", sum := "ac7ab44f744947be598c62c33380e5941987e0d2ee71cb98f8b3f9c930a38cc3", func := "loop.example/g02078/laws.FnExactCountTrees", spec := "fnExactCountTrees", recurses := true, apart := false, narrowed := true }
def FnExactCountTreesUptoSaid : Prop := fnExactCountTreesUptoRow.holds Try.pinned (OpenSpec.upto fnExactCountTreesSpec)

/-- 'laws.FnExactPackTrees', WHERE WHAT IT READS IS OF BULK AT MOST 1048576: true; the input reads as it did. -/
def fnExactPackTreesUptoRow : OpenClaim := { program := "ythcbeibhjbeomaa", sum := "ac7ab44f744947be598c62c33380e5941987e0d2ee71cb98f8b3f9c930a38cc3", func := "loop.example/g02078/laws.FnExactPackTrees", spec := "fnExactPackTrees", unfollowed := true, recurses := true, apart := false, narrowed := true }
def FnExactPackTreesUptoSaid : Prop := fnExactPackTreesUptoRow.holds Try.pinned (OpenSpec.upto fnExactPackTreesSpec)

/-- 'laws.FnExactArePackedTrees', WHERE WHAT IT READS IS OF BULK AT MOST 1048576: true; the input reads as it did. -/
def fnExactArePackedTreesUptoRow : OpenClaim := { program := "ythcbeibhjbeomaa", sum := "ac7ab44f744947be598c62c33380e5941987e0d2ee71cb98f8b3f9c930a38cc3", func := "loop.example/g02078/laws.FnExactArePackedTrees", spec := "fnExactArePackedTrees", recurses := true, apart := false, narrowed := true }
def FnExactArePackedTreesUptoSaid : Prop := fnExactArePackedTreesUptoRow.holds Try.pinned (OpenSpec.upto fnExactArePackedTreesSpec)

/-- 'laws.FnExactApplyStep', WHERE WHAT IT READS IS OF BULK AT MOST 1048576: true; the input reads as it did. -/
def fnExactApplyStepUptoRow : OpenClaim := { program := "ythcbeibhjbeomaa", sum := "ac7ab44f744947be598c62c33380e5941987e0d2ee71cb98f8b3f9c930a38cc3", func := "loop.example/g02078/laws.FnExactApplyStep", spec := "fnExactApplyStep", unfollowed := true, recurses := true, apart := false, narrowed := true }
def FnExactApplyStepUptoSaid : Prop := fnExactApplyStepUptoRow.holds Try.pinned (OpenSpec.upto fnExactApplyStepSpec)

/-- 'laws.FnExactBuildSteps', WHERE WHAT IT READS IS OF BULK AT MOST 1048576: true; the input reads as it did. -/
def fnExactBuildStepsUptoRow : OpenClaim := { program := "ythcbeibhjbeomaa", sum := "ac7ab44f744947be598c62c33380e5941987e0d2ee71cb98f8b3f9c930a38cc3", func := "loop.example/g02078/laws.FnExactBuildSteps", spec := "fnExactBuildSteps", unfollowed := true, recurses := true, apart := false, narrowed := true }
def FnExactBuildStepsUptoSaid : Prop := fnExactBuildStepsUptoRow.holds Try.pinned (OpenSpec.upto fnExactBuildStepsSpec)

/-- 'laws.FnExactComponentsOf', WHERE WHAT IT READS IS OF BULK AT MOST 1048576: true; the input reads as it did. -/
def fnExactComponentsOfUptoRow : OpenClaim := { program := "ythcbeibhjbeomaa", sum := "ac7ab44f744947be598c62c33380e5941987e0d2ee71cb98f8b3f9c930a38cc3", func := "loop.example/g02078/laws.FnExactComponentsOf", spec := "fnExactComponentsOf", apart := false, narrowed := true }
def FnExactComponentsOfUptoSaid : Prop := fnExactComponentsOfUptoRow.holds Try.pinned (OpenSpec.upto fnExactComponentsOfSpec)

end Rows
end Go.Proofs.Ythcbeibhjbeomaa
