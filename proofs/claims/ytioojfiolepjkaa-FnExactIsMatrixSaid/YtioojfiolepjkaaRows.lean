/-
  No cell of these rows narrows 'for every input' (looked for: loops, veiled, ifaces, maps, wideKeys, modest, calm, conditions, laid).
  DERIVED. THE GIVEN ROWS OF THIS SEAT. 6 by the template 'for every input the law returns true; each argument reads behind the call as it read before'; 0 by the template 'total and deterministic' (their statements: YtioojfiolepjkaaTotals.lean).
  GIVEN WITH THE SEED: the statements are not yours to turn. If you find one false, say at which input.
  Laid BY PROGRAM, IN A SANDBOX (cutbox-rows.mjs): the forced cells as the released guide's own fill.sh prints them over the translation 528f340042eb7ffe… (all of the seat's roots in one cut). By AI agents, Wed Nov 11 2026. No macro, syntax, notation, axiom, sorry.
-/
import Derived.Test.YtioojfiolepjkaaChecked
import GoSem.Claim
import GoSem.ClaimJoined
import GoSem.ClaimMapViews
import Derived.JoinedTies
import Derived.KernelRfl
namespace Go.Proofs.Ytioojfiolepjkaa
/- THE CELL 'sum', in the pinned program and in every row, IS THE sha256 OF THE DUMP (.gsa) THAT YtioojfiolepjkaaProg.lean LOADS. Nothing in Lean hashes anything: it is a label: what it is worth is what the hold of that sum in a sandbox is worth. -/
noncomputable def Try.pinned : Pinned := { name := "ytioojfiolepjkaa", sum := "528f340042eb7ffea4b6d6c145c94220258d6ab8ac0a240db759889f08091a96", checked := Try.checked }
namespace Rows
def none {H : Type} : Left H := { results := [], args := [] }

/-- 'laws.FnExactAreCollinear': WHATEVER THE INPUT: true; the input reads as it did. -/
def fnExactAreCollinearSpec : ChangeSpec := { name := "fnExactAreCollinear", fn := fun _ => fun
  | [d1, d2, d3] => { results := [.lit (.bool true)], args := [d1, d2, d3] }
  | _ => none }
def fnExactAreCollinearRow : OpenClaim := { program := "ytioojfiolepjkaa", sum := "528f340042eb7ffea4b6d6c145c94220258d6ab8ac0a240db759889f08091a96", func := "loop.example/g02078/laws.FnExactAreCollinear", spec := "fnExactAreCollinear", apart := false }
def FnExactAreCollinearSaid : Prop := fnExactAreCollinearRow.holds Try.pinned (OpenSpec.ofChange fnExactAreCollinearSpec)

/-- ITS FALSE NEIGHBOUR: 'it returns false'. Refute it at one input. -/
def fnExactAreCollinearWrong : ChangeSpec := { name := "fnExactAreCollinear", fn := fun _ => fun
  | [d1, d2, d3] => { results := [.lit (.bool false)], args := [d1, d2, d3] }
  | _ => none }
def FnExactAreCollinearWrongFalsely : Prop := fnExactAreCollinearRow.holds Try.pinned (OpenSpec.ofChange fnExactAreCollinearWrong)

/-- 'laws.FnExactGcdOf': WHATEVER THE INPUT: true; the input reads as it did. -/
def fnExactGcdOfSpec : ChangeSpec := { name := "fnExactGcdOf", fn := fun _ => fun
  | [d1, d2] => { results := [.lit (.bool true)], args := [d1, d2] }
  | _ => none }
def fnExactGcdOfRow : OpenClaim := { program := "ytioojfiolepjkaa", sum := "528f340042eb7ffea4b6d6c145c94220258d6ab8ac0a240db759889f08091a96", func := "loop.example/g02078/laws.FnExactGcdOf", spec := "fnExactGcdOf", apart := false }
def FnExactGcdOfSaid : Prop := fnExactGcdOfRow.holds Try.pinned (OpenSpec.ofChange fnExactGcdOfSpec)

/-- ITS FALSE NEIGHBOUR: 'it returns false'. Refute it at one input. -/
def fnExactGcdOfWrong : ChangeSpec := { name := "fnExactGcdOf", fn := fun _ => fun
  | [d1, d2] => { results := [.lit (.bool false)], args := [d1, d2] }
  | _ => none }
def FnExactGcdOfWrongFalsely : Prop := fnExactGcdOfRow.holds Try.pinned (OpenSpec.ofChange fnExactGcdOfWrong)

/-- 'laws.FnExactStressedBars': WHATEVER THE INPUT: true; the input reads as it did. -/
def fnExactStressedBarsSpec : ChangeSpec := { name := "fnExactStressedBars", fn := fun _ => fun
  | [d] => { results := [.lit (.bool true)], args := [d] }
  | _ => none }
def fnExactStressedBarsRow : OpenClaim := { program := "ytioojfiolepjkaa", sum := "528f340042eb7ffea4b6d6c145c94220258d6ab8ac0a240db759889f08091a96", func := "loop.example/g02078/laws.FnExactStressedBars", spec := "fnExactStressedBars", apart := false }
def FnExactStressedBarsSaid : Prop := fnExactStressedBarsRow.holds Try.pinned (OpenSpec.ofChange fnExactStressedBarsSpec)

/-- ITS FALSE NEIGHBOUR: 'it returns false'. Refute it at one input. -/
def fnExactStressedBarsWrong : ChangeSpec := { name := "fnExactStressedBars", fn := fun _ => fun
  | [d] => { results := [.lit (.bool false)], args := [d] }
  | _ => none }
def FnExactStressedBarsWrongFalsely : Prop := fnExactStressedBarsRow.holds Try.pinned (OpenSpec.ofChange fnExactStressedBarsWrong)

/-- 'laws.FnExactCountThrees': WHATEVER THE INPUT: true; the input reads as it did. -/
def fnExactCountThreesSpec : ChangeSpec := { name := "fnExactCountThrees", fn := fun _ => fun
  | [d] => { results := [.lit (.bool true)], args := [d] }
  | _ => none }
def fnExactCountThreesRow : OpenClaim := { program := "ytioojfiolepjkaa", sum := "528f340042eb7ffea4b6d6c145c94220258d6ab8ac0a240db759889f08091a96", func := "loop.example/g02078/laws.FnExactCountThrees", spec := "fnExactCountThrees", apart := false }
def FnExactCountThreesSaid : Prop := fnExactCountThreesRow.holds Try.pinned (OpenSpec.ofChange fnExactCountThreesSpec)

/-- ITS FALSE NEIGHBOUR: 'it returns false'. Refute it at one input. -/
def fnExactCountThreesWrong : ChangeSpec := { name := "fnExactCountThrees", fn := fun _ => fun
  | [d] => { results := [.lit (.bool false)], args := [d] }
  | _ => none }
def FnExactCountThreesWrongFalsely : Prop := fnExactCountThreesRow.holds Try.pinned (OpenSpec.ofChange fnExactCountThreesWrong)

/-- 'laws.FnExactAreSameSteps': WHATEVER THE INPUT: true; the input reads as it did. -/
def fnExactAreSameStepsSpec : ChangeSpec := { name := "fnExactAreSameSteps", fn := fun _ => fun
  | [d1, d2] => { results := [.lit (.bool true)], args := [d1, d2] }
  | _ => none }
def fnExactAreSameStepsRow : OpenClaim := { program := "ytioojfiolepjkaa", sum := "528f340042eb7ffea4b6d6c145c94220258d6ab8ac0a240db759889f08091a96", func := "loop.example/g02078/laws.FnExactAreSameSteps", spec := "fnExactAreSameSteps", apart := false }
def FnExactAreSameStepsSaid : Prop := fnExactAreSameStepsRow.holds Try.pinned (OpenSpec.ofChange fnExactAreSameStepsSpec)

/-- ITS FALSE NEIGHBOUR: 'it returns false'. Refute it at one input. -/
def fnExactAreSameStepsWrong : ChangeSpec := { name := "fnExactAreSameSteps", fn := fun _ => fun
  | [d1, d2] => { results := [.lit (.bool false)], args := [d1, d2] }
  | _ => none }
def FnExactAreSameStepsWrongFalsely : Prop := fnExactAreSameStepsRow.holds Try.pinned (OpenSpec.ofChange fnExactAreSameStepsWrong)

/-- 'laws.FnExactIsMatrix': WHATEVER THE INPUT: true; the input reads as it did. -/
def fnExactIsMatrixSpec : ChangeSpec := { name := "fnExactIsMatrix", fn := fun _ => fun
  | [d] => { results := [.lit (.bool true)], args := [d] }
  | _ => none }
def fnExactIsMatrixRow : OpenClaim := { program := "ytioojfiolepjkaa", sum := "528f340042eb7ffea4b6d6c145c94220258d6ab8ac0a240db759889f08091a96", func := "loop.example/g02078/laws.FnExactIsMatrix", spec := "fnExactIsMatrix", apart := false }
def FnExactIsMatrixSaid : Prop := fnExactIsMatrixRow.holds Try.pinned (OpenSpec.ofChange fnExactIsMatrixSpec)

/-- ITS FALSE NEIGHBOUR: 'it returns false'. Refute it at one input. -/
def fnExactIsMatrixWrong : ChangeSpec := { name := "fnExactIsMatrix", fn := fun _ => fun
  | [d] => { results := [.lit (.bool false)], args := [d] }
  | _ => none }
def FnExactIsMatrixWrongFalsely : Prop := fnExactIsMatrixRow.holds Try.pinned (OpenSpec.ofChange fnExactIsMatrixWrong)

/- THE SECOND FORM. 'bulk': how many values and letters a reading holds, each counted each time it is reached (what is shared counts as often as it is met; a slice's spare places count too). A statement '..UptoSaid' is the law's where the arguments, and the package variables that the reading takes, are together of bulk at most 1048576: NARROWER than '..Said'. Prove '..Said' where nothing that the law and all that it calls make is longer than what came in: it says more and counts as full. Else prove '..UptoSaid'. A law counts once. -/
mutual
def uptoBulk {H : Type} : DataW H → Nat
  | .lit (.string bytes) => bytes.length + 1
  | .lit _ => 1
  | .nil => 1
  | .ptr d => uptoBulk d + 1
  | .slice elems spare => uptoBulkAll elems + uptoBulkAll spare + 1
  | .agg parts => uptoBulkAll parts + 1
  | .iface _ d => uptoBulk d + 1
  | .map entries => uptoBulkEntries entries + 1
  | .held _ => 1
def uptoBulkAll {H : Type} : List (DataW H) → Nat
  | [] => 0
  | d :: r => uptoBulk d + uptoBulkAll r
def uptoBulkEntries {H : Type} : List (Lit × DataW H) → Nat
  | [] => 0
  | x :: r => uptoBulkEntry x + uptoBulkEntries r
def uptoBulkEntry {H : Type} : Lit × DataW H → Nat
  | (.string bytes, d) => bytes.length + uptoBulk d + 1
  | (_, d) => uptoBulk d + 1
 end
def uptoSmall : (H : Type) → List (DataW H) → Bool := fun _ ds => decide (uptoBulkAll ds ≤ 1048576)
def OpenSpec.upto (s : _root_.Go.ChangeSpec) : _root_.Go.OpenSpec := { _root_.Go.OpenSpec.ofChange s with cond := some uptoSmall }

/-- 'laws.FnExactAreCollinear', WHERE WHAT IT READS IS OF BULK AT MOST 1048576: true; the input reads as it did. -/
def fnExactAreCollinearUptoRow : OpenClaim := { program := "ytioojfiolepjkaa", sum := "528f340042eb7ffea4b6d6c145c94220258d6ab8ac0a240db759889f08091a96", func := "loop.example/g02078/laws.FnExactAreCollinear", spec := "fnExactAreCollinear", apart := false, narrowed := true }
def FnExactAreCollinearUptoSaid : Prop := fnExactAreCollinearUptoRow.holds Try.pinned (OpenSpec.upto fnExactAreCollinearSpec)

/-- 'laws.FnExactGcdOf', WHERE WHAT IT READS IS OF BULK AT MOST 1048576: true; the input reads as it did. -/
def fnExactGcdOfUptoRow : OpenClaim := { program := "ytioojfiolepjkaa", sum := "528f340042eb7ffea4b6d6c145c94220258d6ab8ac0a240db759889f08091a96", func := "loop.example/g02078/laws.FnExactGcdOf", spec := "fnExactGcdOf", apart := false, narrowed := true }
def FnExactGcdOfUptoSaid : Prop := fnExactGcdOfUptoRow.holds Try.pinned (OpenSpec.upto fnExactGcdOfSpec)

/-- 'laws.FnExactStressedBars', WHERE WHAT IT READS IS OF BULK AT MOST 1048576: true; the input reads as it did. -/
def fnExactStressedBarsUptoRow : OpenClaim := { program := "ytioojfiolepjkaa", sum := "528f340042eb7ffea4b6d6c145c94220258d6ab8ac0a240db759889f08091a96", func := "loop.example/g02078/laws.FnExactStressedBars", spec := "fnExactStressedBars", apart := false, narrowed := true }
def FnExactStressedBarsUptoSaid : Prop := fnExactStressedBarsUptoRow.holds Try.pinned (OpenSpec.upto fnExactStressedBarsSpec)

/-- 'laws.FnExactCountThrees', WHERE WHAT IT READS IS OF BULK AT MOST 1048576: true; the input reads as it did. -/
def fnExactCountThreesUptoRow : OpenClaim := { program := "ytioojfiolepjkaa", sum := "528f340042eb7ffea4b6d6c145c94220258d6ab8ac0a240db759889f08091a96", func := "loop.example/g02078/laws.FnExactCountThrees", spec := "fnExactCountThrees", apart := false, narrowed := true }
def FnExactCountThreesUptoSaid : Prop := fnExactCountThreesUptoRow.holds Try.pinned (OpenSpec.upto fnExactCountThreesSpec)

/-- 'laws.FnExactAreSameSteps', WHERE WHAT IT READS IS OF BULK AT MOST 1048576: true; the input reads as it did. -/
def fnExactAreSameStepsUptoRow : OpenClaim := { program := "ytioojfiolepjkaa", sum := "528f340042eb7ffea4b6d6c145c94220258d6ab8ac0a240db759889f08091a96", func := "loop.example/g02078/laws.FnExactAreSameSteps", spec := "fnExactAreSameSteps", apart := false, narrowed := true }
def FnExactAreSameStepsUptoSaid : Prop := fnExactAreSameStepsUptoRow.holds Try.pinned (OpenSpec.upto fnExactAreSameStepsSpec)

/-- 'laws.FnExactIsMatrix', WHERE WHAT IT READS IS OF BULK AT MOST 1048576: true; the input reads as it did. -/
def fnExactIsMatrixUptoRow : OpenClaim := { program := "ytioojfiolepjkaa", sum := "528f340042eb7ffea4b6d6c145c94220258d6ab8ac0a240db759889f08091a96", func := "loop.example/g02078/laws.FnExactIsMatrix", spec := "fnExactIsMatrix", apart := false, narrowed := true }
def FnExactIsMatrixUptoSaid : Prop := fnExactIsMatrixUptoRow.holds Try.pinned (OpenSpec.upto fnExactIsMatrixSpec)

end Rows
end Go.Proofs.Ytioojfiolepjkaa
