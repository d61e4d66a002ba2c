/-
  No cell of these rows narrows 'for every input' (looked for: loops, veiled, ifaces, maps, wideKeys, modest, calm, conditions, laid).
  DERIVED. THE GIVEN ROWS OF THIS SEAT. 12 by the template 'for every input the law returns true; each argument reads behind the call as it read before'; 0 by the template 'total and deterministic' (their statements: YtjaaccdedffbcaaTotals.lean).
  GIVEN WITH THE SEED: the statements are not yours to turn. If you find one false, say at which input.
  Laid BY PROGRAM, IN A SANDBOX (cutbox-rows.mjs): the forced cells as the released guide's own fill.sh prints them over the translation 1e30047bb46f212f… (all of the seat's roots in one cut). By AI agents, Wed Nov 11 2026. No macro, syntax, notation, axiom, sorry.
-/
import Derived.Test.YtjaaccdedffbcaaChecked
import GoSem.Claim
import GoSem.ClaimJoined
import GoSem.ClaimMapViews
import Derived.JoinedTies
import Derived.KernelRfl
namespace Go.Proofs.Ytjaaccdedffbcaa
/- THE CELL 'sum', in the pinned program and in every row, IS THE sha256 OF THE DUMP (.gsa) THAT YtjaaccdedffbcaaProg.lean LOADS. Nothing in Lean hashes anything: it is a label: what it is worth is what the hold of that sum in a sandbox is worth. -/
noncomputable def Try.pinned : Pinned := { name := "ytjaaccdedffbcaa", sum := "1e30047bb46f212f6d0068fbfde87bdfae66d522b9ef124a96124ae8714b96d6", checked := Try.checked }
namespace Rows
def none {H : Type} : Left H := { results := [], args := [] }

/-- 'laws.FnExactPrimitiveVector': WHATEVER THE INPUT: true; the input reads as it did. -/
def fnExactPrimitiveVectorSpec : ChangeSpec := { name := "fnExactPrimitiveVector", fn := fun _ => fun
  | [d] => { results := [.lit (.bool true)], args := [d] }
  | _ => none }
def fnExactPrimitiveVectorRow : OpenClaim := { program := "ytjaaccdedffbcaa", sum := "1e30047bb46f212f6d0068fbfde87bdfae66d522b9ef124a96124ae8714b96d6", func := "loop.example/g02078/laws.FnExactPrimitiveVector", spec := "fnExactPrimitiveVector", apart := false }
def FnExactPrimitiveVectorSaid : Prop := fnExactPrimitiveVectorRow.holds Try.pinned (OpenSpec.ofChange fnExactPrimitiveVectorSpec)

/-- ITS FALSE NEIGHBOUR: 'it returns false'. Refute it at one input. -/
def fnExactPrimitiveVectorWrong : ChangeSpec := { name := "fnExactPrimitiveVector", fn := fun _ => fun
  | [d] => { results := [.lit (.bool false)], args := [d] }
  | _ => none }
def FnExactPrimitiveVectorWrongFalsely : Prop := fnExactPrimitiveVectorRow.holds Try.pinned (OpenSpec.ofChange fnExactPrimitiveVectorWrong)

/-- 'laws.FnExactTimesVector': WHATEVER THE INPUT: true; the input reads as it did. -/
def fnExactTimesVectorSpec : ChangeSpec := { name := "fnExactTimesVector", fn := fun _ => fun
  | [d1, d2] => { results := [.lit (.bool true)], args := [d1, d2] }
  | _ => none }
def fnExactTimesVectorRow : OpenClaim := { program := "ytjaaccdedffbcaa", sum := "1e30047bb46f212f6d0068fbfde87bdfae66d522b9ef124a96124ae8714b96d6", func := "loop.example/g02078/laws.FnExactTimesVector", spec := "fnExactTimesVector", apart := false }
def FnExactTimesVectorSaid : Prop := fnExactTimesVectorRow.holds Try.pinned (OpenSpec.ofChange fnExactTimesVectorSpec)

/-- ITS FALSE NEIGHBOUR: 'it returns false'. Refute it at one input. -/
def fnExactTimesVectorWrong : ChangeSpec := { name := "fnExactTimesVector", fn := fun _ => fun
  | [d1, d2] => { results := [.lit (.bool false)], args := [d1, d2] }
  | _ => none }
def FnExactTimesVectorWrongFalsely : Prop := fnExactTimesVectorRow.holds Try.pinned (OpenSpec.ofChange fnExactTimesVectorWrong)

/-- 'laws.FnExactTransposeMatrix': WHATEVER THE INPUT: true; the input reads as it did. -/
def fnExactTransposeMatrixSpec : ChangeSpec := { name := "fnExactTransposeMatrix", fn := fun _ => fun
  | [d] => { results := [.lit (.bool true)], args := [d] }
  | _ => none }
def fnExactTransposeMatrixRow : OpenClaim := { program := "ytjaaccdedffbcaa", sum := "1e30047bb46f212f6d0068fbfde87bdfae66d522b9ef124a96124ae8714b96d6", func := "loop.example/g02078/laws.FnExactTransposeMatrix", spec := "fnExactTransposeMatrix", apart := false }
def FnExactTransposeMatrixSaid : Prop := fnExactTransposeMatrixRow.holds Try.pinned (OpenSpec.ofChange fnExactTransposeMatrixSpec)

/-- ITS FALSE NEIGHBOUR: 'it returns false'. Refute it at one input. -/
def fnExactTransposeMatrixWrong : ChangeSpec := { name := "fnExactTransposeMatrix", fn := fun _ => fun
  | [d] => { results := [.lit (.bool false)], args := [d] }
  | _ => none }
def FnExactTransposeMatrixWrongFalsely : Prop := fnExactTransposeMatrixRow.holds Try.pinned (OpenSpec.ofChange fnExactTransposeMatrixWrong)

/-- 'laws.FnExactEqualFrameworks': WHATEVER THE INPUT: true; the input reads as it did. -/
def fnExactEqualFrameworksSpec : ChangeSpec := { name := "fnExactEqualFrameworks", fn := fun _ => fun
  | [d1, d2] => { results := [.lit (.bool true)], args := [d1, d2] }
  | _ => none }
def fnExactEqualFrameworksRow : OpenClaim := { program := "ytjaaccdedffbcaa", sum := "1e30047bb46f212f6d0068fbfde87bdfae66d522b9ef124a96124ae8714b96d6", func := "loop.example/g02078/laws.FnExactEqualFrameworks", spec := "fnExactEqualFrameworks", apart := false }
def FnExactEqualFrameworksSaid : Prop := fnExactEqualFrameworksRow.holds Try.pinned (OpenSpec.ofChange fnExactEqualFrameworksSpec)

/-- ITS FALSE NEIGHBOUR: 'it returns false'. Refute it at one input. -/
def fnExactEqualFrameworksWrong : ChangeSpec := { name := "fnExactEqualFrameworks", fn := fun _ => fun
  | [d1, d2] => { results := [.lit (.bool false)], args := [d1, d2] }
  | _ => none }
def FnExactEqualFrameworksWrongFalsely : Prop := fnExactEqualFrameworksRow.holds Try.pinned (OpenSpec.ofChange fnExactEqualFrameworksWrong)

/-- 'laws.FnExactIsFramework': WHATEVER THE INPUT: true; the input reads as it did. -/
def fnExactIsFrameworkSpec : ChangeSpec := { name := "fnExactIsFramework", fn := fun _ => fun
  | [d] => { results := [.lit (.bool true)], args := [d] }
  | _ => none }
def fnExactIsFrameworkRow : OpenClaim := { program := "ytjaaccdedffbcaa", sum := "1e30047bb46f212f6d0068fbfde87bdfae66d522b9ef124a96124ae8714b96d6", func := "loop.example/g02078/laws.FnExactIsFramework", spec := "fnExactIsFramework", apart := false }
def FnExactIsFrameworkSaid : Prop := fnExactIsFrameworkRow.holds Try.pinned (OpenSpec.ofChange fnExactIsFrameworkSpec)

/-- ITS FALSE NEIGHBOUR: 'it returns false'. Refute it at one input. -/
def fnExactIsFrameworkWrong : ChangeSpec := { name := "fnExactIsFramework", fn := fun _ => fun
  | [d] => { results := [.lit (.bool false)], args := [d] }
  | _ => none }
def FnExactIsFrameworkWrongFalsely : Prop := fnExactIsFrameworkRow.holds Try.pinned (OpenSpec.ofChange fnExactIsFrameworkWrong)

/-- 'laws.FnExactChangeOf': WHATEVER THE INPUT: true; the input reads as it did. -/
def fnExactChangeOfSpec : ChangeSpec := { name := "fnExactChangeOf", fn := fun _ => fun
  | [d1, d2, d3, d4] => { results := [.lit (.bool true)], args := [d1, d2, d3, d4] }
  | _ => none }
def fnExactChangeOfRow : OpenClaim := { program := "ytjaaccdedffbcaa", sum := "1e30047bb46f212f6d0068fbfde87bdfae66d522b9ef124a96124ae8714b96d6", func := "loop.example/g02078/laws.FnExactChangeOf", spec := "fnExactChangeOf", apart := false }
def FnExactChangeOfSaid : Prop := fnExactChangeOfRow.holds Try.pinned (OpenSpec.ofChange fnExactChangeOfSpec)

/-- ITS FALSE NEIGHBOUR: 'it returns false'. Refute it at one input. -/
def fnExactChangeOfWrong : ChangeSpec := { name := "fnExactChangeOf", fn := fun _ => fun
  | [d1, d2, d3, d4] => { results := [.lit (.bool false)], args := [d1, d2, d3, d4] }
  | _ => none }
def FnExactChangeOfWrongFalsely : Prop := fnExactChangeOfRow.holds Try.pinned (OpenSpec.ofChange fnExactChangeOfWrong)

/-- 'laws.FnExactAreSameLengths': WHATEVER THE INPUT: true; the input reads as it did. -/
def fnExactAreSameLengthsSpec : ChangeSpec := { name := "fnExactAreSameLengths", fn := fun _ => fun
  | [d1, d2] => { results := [.lit (.bool true)], args := [d1, d2] }
  | _ => none }
def fnExactAreSameLengthsRow : OpenClaim := { program := "ytjaaccdedffbcaa", sum := "1e30047bb46f212f6d0068fbfde87bdfae66d522b9ef124a96124ae8714b96d6", func := "loop.example/g02078/laws.FnExactAreSameLengths", spec := "fnExactAreSameLengths", apart := false }
def FnExactAreSameLengthsSaid : Prop := fnExactAreSameLengthsRow.holds Try.pinned (OpenSpec.ofChange fnExactAreSameLengthsSpec)

/-- ITS FALSE NEIGHBOUR: 'it returns false'. Refute it at one input. -/
def fnExactAreSameLengthsWrong : ChangeSpec := { name := "fnExactAreSameLengths", fn := fun _ => fun
  | [d1, d2] => { results := [.lit (.bool false)], args := [d1, d2] }
  | _ => none }
def FnExactAreSameLengthsWrongFalsely : Prop := fnExactAreSameLengthsRow.holds Try.pinned (OpenSpec.ofChange fnExactAreSameLengthsWrong)

/-- 'laws.FnExactIsMotion': WHATEVER THE INPUT: true; the input reads as it did. -/
def fnExactIsMotionSpec : ChangeSpec := { name := "fnExactIsMotion", fn := fun _ => fun
  | [d1, d2] => { results := [.lit (.bool true)], args := [d1, d2] }
  | _ => none }
def fnExactIsMotionRow : OpenClaim := { program := "ytjaaccdedffbcaa", sum := "1e30047bb46f212f6d0068fbfde87bdfae66d522b9ef124a96124ae8714b96d6", func := "loop.example/g02078/laws.FnExactIsMotion", spec := "fnExactIsMotion", apart := false }
def FnExactIsMotionSaid : Prop := fnExactIsMotionRow.holds Try.pinned (OpenSpec.ofChange fnExactIsMotionSpec)

/-- ITS FALSE NEIGHBOUR: 'it returns false'. Refute it at one input. -/
def fnExactIsMotionWrong : ChangeSpec := { name := "fnExactIsMotion", fn := fun _ => fun
  | [d1, d2] => { results := [.lit (.bool false)], args := [d1, d2] }
  | _ => none }
def FnExactIsMotionWrongFalsely : Prop := fnExactIsMotionRow.holds Try.pinned (OpenSpec.ofChange fnExactIsMotionWrong)

/-- 'laws.FnExactSquareLengths': WHATEVER THE INPUT: true; the input reads as it did. -/
def fnExactSquareLengthsSpec : ChangeSpec := { name := "fnExactSquareLengths", fn := fun _ => fun
  | [d] => { results := [.lit (.bool true)], args := [d] }
  | _ => none }
def fnExactSquareLengthsRow : OpenClaim := { program := "ytjaaccdedffbcaa", sum := "1e30047bb46f212f6d0068fbfde87bdfae66d522b9ef124a96124ae8714b96d6", func := "loop.example/g02078/laws.FnExactSquareLengths", spec := "fnExactSquareLengths", apart := false }
def FnExactSquareLengthsSaid : Prop := fnExactSquareLengthsRow.holds Try.pinned (OpenSpec.ofChange fnExactSquareLengthsSpec)

/-- ITS FALSE NEIGHBOUR: 'it returns false'. Refute it at one input. -/
def fnExactSquareLengthsWrong : ChangeSpec := { name := "fnExactSquareLengths", fn := fun _ => fun
  | [d] => { results := [.lit (.bool false)], args := [d] }
  | _ => none }
def FnExactSquareLengthsWrongFalsely : Prop := fnExactSquareLengthsRow.holds Try.pinned (OpenSpec.ofChange fnExactSquareLengthsWrong)

/-- 'laws.FnExactMirrorFramework': WHATEVER THE INPUT: true; the input reads as it did. -/
def fnExactMirrorFrameworkSpec : ChangeSpec := { name := "fnExactMirrorFramework", fn := fun _ => fun
  | [d] => { results := [.lit (.bool true)], args := [d] }
  | _ => none }
def fnExactMirrorFrameworkRow : OpenClaim := { program := "ytjaaccdedffbcaa", sum := "1e30047bb46f212f6d0068fbfde87bdfae66d522b9ef124a96124ae8714b96d6", func := "loop.example/g02078/laws.FnExactMirrorFramework", spec := "fnExactMirrorFramework", unfollowed := true, recurses := true, apart := false }
def FnExactMirrorFrameworkSaid : Prop := fnExactMirrorFrameworkRow.holds Try.pinned (OpenSpec.ofChange fnExactMirrorFrameworkSpec)

/-- ITS FALSE NEIGHBOUR: 'it returns false'. Refute it at one input. -/
def fnExactMirrorFrameworkWrong : ChangeSpec := { name := "fnExactMirrorFramework", fn := fun _ => fun
  | [d] => { results := [.lit (.bool false)], args := [d] }
  | _ => none }
def FnExactMirrorFrameworkWrongFalsely : Prop := fnExactMirrorFrameworkRow.holds Try.pinned (OpenSpec.ofChange fnExactMirrorFrameworkWrong)

/-- 'laws.FnExactTurnFramework': WHATEVER THE INPUT: true; the input reads as it did. -/
def fnExactTurnFrameworkSpec : ChangeSpec := { name := "fnExactTurnFramework", fn := fun _ => fun
  | [d] => { results := [.lit (.bool true)], args := [d] }
  | _ => none }
def fnExactTurnFrameworkRow : OpenClaim := { program := "ytjaaccdedffbcaa", sum := "1e30047bb46f212f6d0068fbfde87bdfae66d522b9ef124a96124ae8714b96d6", func := "loop.example/g02078/laws.FnExactTurnFramework", spec := "fnExactTurnFramework", unfollowed := true, recurses := true, apart := false }
def FnExactTurnFrameworkSaid : Prop := fnExactTurnFrameworkRow.holds Try.pinned (OpenSpec.ofChange fnExactTurnFrameworkSpec)

/-- ITS FALSE NEIGHBOUR: 'it returns false'. Refute it at one input. -/
def fnExactTurnFrameworkWrong : ChangeSpec := { name := "fnExactTurnFramework", fn := fun _ => fun
  | [d] => { results := [.lit (.bool false)], args := [d] }
  | _ => none }
def FnExactTurnFrameworkWrongFalsely : Prop := fnExactTurnFrameworkRow.holds Try.pinned (OpenSpec.ofChange fnExactTurnFrameworkWrong)

/-- 'laws.FnExactMoveJoint': WHATEVER THE INPUT: true; the input reads as it did. -/
def fnExactMoveJointSpec : ChangeSpec := { name := "fnExactMoveJoint", fn := fun _ => fun
  | [d1, d2, d3] => { results := [.lit (.bool true)], args := [d1, d2, d3] }
  | _ => none }
def fnExactMoveJointRow : OpenClaim := { program := "ytjaaccdedffbcaa", sum := "1e30047bb46f212f6d0068fbfde87bdfae66d522b9ef124a96124ae8714b96d6", func := "loop.example/g02078/laws.FnExactMoveJoint", spec := "fnExactMoveJoint", apart := false }
def FnExactMoveJointSaid : Prop := fnExactMoveJointRow.holds Try.pinned (OpenSpec.ofChange fnExactMoveJointSpec)

/-- ITS FALSE NEIGHBOUR: 'it returns false'. Refute it at one input. -/
def fnExactMoveJointWrong : ChangeSpec := { name := "fnExactMoveJoint", fn := fun _ => fun
  | [d1, d2, d3] => { results := [.lit (.bool false)], args := [d1, d2, d3] }
  | _ => none }
def FnExactMoveJointWrongFalsely : Prop := fnExactMoveJointRow.holds Try.pinned (OpenSpec.ofChange fnExactMoveJointWrong)

/- THE SECOND FORM. 'bulk': how many values and letters a reading holds, each counted each time it is reached (what is shared counts as often as it is met; a slice's spare places count too). A statement '..UptoSaid' is the law's where the arguments, and the package variables that the reading takes, are together of bulk at most 1048576: NARROWER than '..Said'. Prove '..Said' where nothing that the law and all that it calls make is longer than what came in: it says more and counts as full. Else prove '..UptoSaid'. A law counts once. -/
mutual
def uptoBulk {H : Type} : DataW H → Nat
  | .lit (.string bytes) => bytes.length + 1
  | .lit _ => 1
  | .nil => 1
  | .ptr d => uptoBulk d + 1
  | .slice elems spare => uptoBulkAll elems + uptoBulkAll spare + 1
  | .agg parts => uptoBulkAll parts + 1
  | .iface _ d => uptoBulk d + 1
  | .map entries => uptoBulkEntries entries + 1
  | .held _ => 1
def uptoBulkAll {H : Type} : List (DataW H) → Nat
  | [] => 0
  | d :: r => uptoBulk d + uptoBulkAll r
def uptoBulkEntries {H : Type} : List (Lit × DataW H) → Nat
  | [] => 0
  | x :: r => uptoBulkEntry x + uptoBulkEntries r
def uptoBulkEntry {H : Type} : Lit × DataW H → Nat
  | (.string bytes, d) => bytes.length + uptoBulk d + 1
  | (_, d) => uptoBulk d + 1
 end
def uptoSmall : (H : Type) → List (DataW H) → Bool := fun _ ds => decide (uptoBulkAll ds ≤ 1048576)
def OpenSpec.upto (s : _root_.Go.ChangeSpec) : _root_.Go.OpenSpec := { _root_.Go.OpenSpec.ofChange s with cond := some uptoSmall }

/-- 'laws.FnExactPrimitiveVector', WHERE WHAT IT READS IS OF BULK AT MOST 1048576: true; the input reads as it did. -/
def fnExactPrimitiveVectorUptoRow : OpenClaim := { program := "ytjaaccdedffbcaa", sum := "1e30047bb46f212f6d0068fbfde87bdfae66d522b9ef124a96124ae8714b96d6", func := "loop.example/g02078/laws.FnExactPrimitiveVector", spec := "fnExactPrimitiveVector", apart := false, narrowed := true }
def FnExactPrimitiveVectorUptoSaid : Prop := fnExactPrimitiveVectorUptoRow.holds Try.pinned (OpenSpec.upto fnExactPrimitiveVectorSpec)

/-- 'laws.FnExactTimesVector', WHERE WHAT IT READS IS OF BULK AT MOST 1048576: true; the input reads as it did. -/
def fnExactTimesVectorUptoRow : OpenClaim := { program := "ytjaaccdedffbcaa", sum := "1e30047bb46f212f6d0068fbfde87bdfae66d522b9ef124a96124ae8714b96d6", func := "loop.example/g02078/laws.FnExactTimesVector", spec := "fnExactTimesVector", apart := false, narrowed := true }
def FnExactTimesVectorUptoSaid : Prop := fnExactTimesVectorUptoRow.holds Try.pinned (OpenSpec.upto fnExactTimesVectorSpec)

/-- 'laws.FnExactTransposeMatrix', WHERE WHAT IT READS IS OF BULK AT MOST 1048576: true; the input reads as it did. -/
def fnExactTransposeMatrixUptoRow : OpenClaim := { program := "ytjaaccdedffbcaa", sum := "1e30047bb46f212f6d0068fbfde87bdfae66d522b9ef124a96124ae8714b96d6", func := "loop.example/g02078/laws.FnExactTransposeMatrix", spec := "fnExactTransposeMatrix", apart := false, narrowed := true }
def FnExactTransposeMatrixUptoSaid : Prop := fnExactTransposeMatrixUptoRow.holds Try.pinned (OpenSpec.upto fnExactTransposeMatrixSpec)

/-- 'laws.FnExactEqualFrameworks', WHERE WHAT IT READS IS OF BULK AT MOST 1048576: true; the input reads as it did. -/
def fnExactEqualFrameworksUptoRow : OpenClaim := { program := "ytjaaccdedffbcaa", sum := "1e30047bb46f212f6d0068fbfde87bdfae66d522b9ef124a96124ae8714b96d6", func := "loop.example/g02078/laws.FnExactEqualFrameworks", spec := "fnExactEqualFrameworks", apart := false, narrowed := true }
def FnExactEqualFrameworksUptoSaid : Prop := fnExactEqualFrameworksUptoRow.holds Try.pinned (OpenSpec.upto fnExactEqualFrameworksSpec)

/-- 'laws.FnExactIsFramework', WHERE WHAT IT READS IS OF BULK AT MOST 1048576: true; the input reads as it did. -/
def fnExactIsFrameworkUptoRow : OpenClaim := { program := "ytjaaccdedffbcaa", sum := "1e30047bb46f212f6d0068fbfde87bdfae66d522b9ef124a96124ae8714b96d6", func := "loop.example/g02078/laws.FnExactIsFramework", spec := "fnExactIsFramework", apart := false, narrowed := true }
def FnExactIsFrameworkUptoSaid : Prop := fnExactIsFrameworkUptoRow.holds Try.pinned (OpenSpec.upto fnExactIsFrameworkSpec)

/-- 'laws.FnExactChangeOf', WHERE WHAT IT READS IS OF BULK AT MOST 1048576: true; the input reads as it did. -/
def fnExactChangeOfUptoRow : OpenClaim := { program := "ytjaaccdedffbcaa", sum := "1e30047bb46f212f6d0068fbfde87bdfae66d522b9ef124a96124ae8714b96d6", func := "loop.example/g02078/laws.FnExactChangeOf", spec := "fnExactChangeOf", apart := false, narrowed := true }
def FnExactChangeOfUptoSaid : Prop := fnExactChangeOfUptoRow.holds Try.pinned (OpenSpec.upto fnExactChangeOfSpec)

/-- 'laws.FnExactAreSameLengths', WHERE WHAT IT READS IS OF BULK AT MOST 1048576: true; the input reads as it did. -/
def fnExactAreSameLengthsUptoRow : OpenClaim := { program := "ytjaaccdedffbcaa", sum := "1e30047bb46f212f6d0068fbfde87bdfae66d522b9ef124a96124ae8714b96d6", func := "loop.example/g02078/laws.FnExactAreSameLengths", spec := "fnExactAreSameLengths", apart := false, narrowed := true }
def FnExactAreSameLengthsUptoSaid : Prop := fnExactAreSameLengthsUptoRow.holds Try.pinned (OpenSpec.upto fnExactAreSameLengthsSpec)

/-- 'laws.FnExactIsMotion', WHERE WHAT IT READS IS OF BULK AT MOST 1048576: true; the input reads as it did. -/
def fnExactIsMotionUptoRow : OpenClaim := { program := "ytjaaccdedffbcaa", sum := "1e30047bb46f212f6d0068fbfde87bdfae66d522b9ef124a96124ae8714b96d6", func := "loop.example/g02078/laws.FnExactIsMotion", spec := "fnExactIsMotion", apart := false, narrowed := true }
def FnExactIsMotionUptoSaid : Prop := fnExactIsMotionUptoRow.holds Try.pinned (OpenSpec.upto fnExactIsMotionSpec)

/-- 'laws.FnExactSquareLengths', WHERE WHAT IT READS IS OF BULK AT MOST 1048576: true; the input reads as it did. -/
def fnExactSquareLengthsUptoRow : OpenClaim := { program := "ytjaaccdedffbcaa", sum := "1e30047bb46f212f6d0068fbfde87bdfae66d522b9ef124a96124ae8714b96d6", func := "loop.example/g02078/laws.FnExactSquareLengths", spec := "fnExactSquareLengths", apart := false, narrowed := true }
def FnExactSquareLengthsUptoSaid : Prop := fnExactSquareLengthsUptoRow.holds Try.pinned (OpenSpec.upto fnExactSquareLengthsSpec)

/-- 'laws.FnExactMirrorFramework', WHERE WHAT IT READS IS OF BULK AT MOST 1048576: true; the input reads as it did. -/
def fnExactMirrorFrameworkUptoRow : OpenClaim := { program := "ytjaaccdedffbcaa", sum := "1e30047bb46f212f6d0068fbfde87bdfae66d522b9ef124a96124ae8714b96d6", func := "loop.example/g02078/laws.FnExactMirrorFramework", spec := "fnExactMirrorFramework", unfollowed := true, recurses := true, apart := false, narrowed := true }
def FnExactMirrorFrameworkUptoSaid : Prop := fnExactMirrorFrameworkUptoRow.holds Try.pinned (OpenSpec.upto fnExactMirrorFrameworkSpec)

/-- 'laws.FnExactTurnFramework', WHERE WHAT IT READS IS OF BULK AT MOST 1048576: true; the input reads as it did. -/
def fnExactTurnFrameworkUptoRow : OpenClaim := { program := "ytjaaccdedffbcaa", sum := "1e30047bb46f212f6d0068fbfde87bdfae66d522b9ef124a96124ae8714b96d6", func := "loop.example/g02078/laws.FnExactTurnFramework", spec := "fnExactTurnFramework", unfollowed := true, recurses := true, apart := false, narrowed := true }
def FnExactTurnFrameworkUptoSaid : Prop := fnExactTurnFrameworkUptoRow.holds Try.pinned (OpenSpec.upto fnExactTurnFrameworkSpec)

/-- 'laws.FnExactMoveJoint', WHERE WHAT IT READS IS OF BULK AT MOST 1048576: true; the input reads as it did. -/
def fnExactMoveJointUptoRow : OpenClaim := { program := "ytjaaccdedffbcaa", sum := "1e30047bb46f212f6d0068fbfde87bdfae66d522b9ef124a96124ae8714b96d6", func := "loop.example/g02078/laws.FnExactMoveJoint", spec := "fnExactMoveJoint", apart := false, narrowed := true }
def FnExactMoveJointUptoSaid : Prop := fnExactMoveJointUptoRow.holds Try.pinned (OpenSpec.upto fnExactMoveJointSpec)

end Rows
end Go.Proofs.Ytjaaccdedffbcaa
