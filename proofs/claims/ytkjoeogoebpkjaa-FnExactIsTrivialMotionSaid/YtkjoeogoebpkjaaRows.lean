/-
  No cell of these rows narrows 'for every input' (looked for: loops, veiled, ifaces, maps, wideKeys, modest, calm, conditions, laid).
  DERIVED. THE GIVEN ROWS OF THIS SEAT. 12 by the template 'for every input the law returns true; each argument reads behind the call as it read before'; 0 by the template 'total and deterministic' (their statements: YtkjoeogoebpkjaaTotals.lean).
  GIVEN WITH THE SEED: the statements are not yours to turn. If you find one false, say at which input.
  Laid BY PROGRAM, IN A SANDBOX (cutbox-rows.mjs): the forced cells as the released guide's own fill.sh prints them over the translation 575d02fde0780f69… (all of the seat's roots in one cut). By AI agents, Wed Nov 11 2026. No macro, syntax, notation, axiom, sorry.
-/
import Derived.Test.YtkjoeogoebpkjaaChecked
import GoSem.Claim
import GoSem.ClaimJoined
import GoSem.ClaimMapViews
import Derived.JoinedTies
import Derived.KernelRfl
namespace Go.Proofs.Ytkjoeogoebpkjaa
/- THE CELL 'sum', in the pinned program and in every row, IS THE sha256 OF THE DUMP (.gsa) THAT YtkjoeogoebpkjaaProg.lean LOADS. Nothing in Lean hashes anything: it is a label: what it is worth is what the hold of that sum in a sandbox is worth. -/
noncomputable def Try.pinned : Pinned := { name := "ytkjoeogoebpkjaa", sum := "575d02fde0780f69e10f9b6fdf977f42bc0178f501d4c1d8cabbc0a9b652aced", checked := Try.checked }
namespace Rows
def none {H : Type} : Left H := { results := [], args := [] }

/-- 'laws.FnExactTransposeMatrix': WHATEVER THE INPUT: true; the input reads as it did. -/
def fnExactTransposeMatrixSpec : ChangeSpec := { name := "fnExactTransposeMatrix", fn := fun _ => fun
  | [d] => { results := [.lit (.bool true)], args := [d] }
  | _ => none }
def fnExactTransposeMatrixRow : OpenClaim := { program := "ytkjoeogoebpkjaa", sum := "575d02fde0780f69e10f9b6fdf977f42bc0178f501d4c1d8cabbc0a9b652aced", func := "loop.example/g02078/laws.FnExactTransposeMatrix", spec := "fnExactTransposeMatrix", apart := false }
def FnExactTransposeMatrixSaid : Prop := fnExactTransposeMatrixRow.holds Try.pinned (OpenSpec.ofChange fnExactTransposeMatrixSpec)

/-- ITS FALSE NEIGHBOUR: 'it returns false'. Refute it at one input. -/
def fnExactTransposeMatrixWrong : ChangeSpec := { name := "fnExactTransposeMatrix", fn := fun _ => fun
  | [d] => { results := [.lit (.bool false)], args := [d] }
  | _ => none }
def FnExactTransposeMatrixWrongFalsely : Prop := fnExactTransposeMatrixRow.holds Try.pinned (OpenSpec.ofChange fnExactTransposeMatrixWrong)

/-- 'laws.FnExactForceAt': WHATEVER THE INPUT: true; the input reads as it did. -/
def fnExactForceAtSpec : ChangeSpec := { name := "fnExactForceAt", fn := fun _ => fun
  | [d1, d2, d3] => { results := [.lit (.bool true)], args := [d1, d2, d3] }
  | _ => none }
def fnExactForceAtRow : OpenClaim := { program := "ytkjoeogoebpkjaa", sum := "575d02fde0780f69e10f9b6fdf977f42bc0178f501d4c1d8cabbc0a9b652aced", func := "loop.example/g02078/laws.FnExactForceAt", spec := "fnExactForceAt", apart := false }
def FnExactForceAtSaid : Prop := fnExactForceAtRow.holds Try.pinned (OpenSpec.ofChange fnExactForceAtSpec)

/-- ITS FALSE NEIGHBOUR: 'it returns false'. Refute it at one input. -/
def fnExactForceAtWrong : ChangeSpec := { name := "fnExactForceAt", fn := fun _ => fun
  | [d1, d2, d3] => { results := [.lit (.bool false)], args := [d1, d2, d3] }
  | _ => none }
def FnExactForceAtWrongFalsely : Prop := fnExactForceAtRow.holds Try.pinned (OpenSpec.ofChange fnExactForceAtWrong)

/-- 'laws.FnExactIsStress': WHATEVER THE INPUT: true; the input reads as it did. -/
def fnExactIsStressSpec : ChangeSpec := { name := "fnExactIsStress", fn := fun _ => fun
  | [d1, d2] => { results := [.lit (.bool true)], args := [d1, d2] }
  | _ => none }
def fnExactIsStressRow : OpenClaim := { program := "ytkjoeogoebpkjaa", sum := "575d02fde0780f69e10f9b6fdf977f42bc0178f501d4c1d8cabbc0a9b652aced", func := "loop.example/g02078/laws.FnExactIsStress", spec := "fnExactIsStress", apart := false }
def FnExactIsStressSaid : Prop := fnExactIsStressRow.holds Try.pinned (OpenSpec.ofChange fnExactIsStressSpec)

/-- ITS FALSE NEIGHBOUR: 'it returns false'. Refute it at one input. -/
def fnExactIsStressWrong : ChangeSpec := { name := "fnExactIsStress", fn := fun _ => fun
  | [d1, d2] => { results := [.lit (.bool false)], args := [d1, d2] }
  | _ => none }
def FnExactIsStressWrongFalsely : Prop := fnExactIsStressRow.holds Try.pinned (OpenSpec.ofChange fnExactIsStressWrong)

/-- 'laws.FnExactIsTrivialMotion': WHATEVER THE INPUT: true; the input reads as it did. -/
def fnExactIsTrivialMotionSpec : ChangeSpec := { name := "fnExactIsTrivialMotion", fn := fun _ => fun
  | [d1, d2] => { results := [.lit (.bool true)], args := [d1, d2] }
  | _ => none }
def fnExactIsTrivialMotionRow : OpenClaim := { program := "ytkjoeogoebpkjaa", sum := "575d02fde0780f69e10f9b6fdf977f42bc0178f501d4c1d8cabbc0a9b652aced", func := "loop.example/g02078/laws.FnExactIsTrivialMotion", spec := "fnExactIsTrivialMotion", apart := false }
def FnExactIsTrivialMotionSaid : Prop := fnExactIsTrivialMotionRow.holds Try.pinned (OpenSpec.ofChange fnExactIsTrivialMotionSpec)

/-- ITS FALSE NEIGHBOUR: 'it returns false'. Refute it at one input. -/
def fnExactIsTrivialMotionWrong : ChangeSpec := { name := "fnExactIsTrivialMotion", fn := fun _ => fun
  | [d1, d2] => { results := [.lit (.bool false)], args := [d1, d2] }
  | _ => none }
def FnExactIsTrivialMotionWrongFalsely : Prop := fnExactIsTrivialMotionRow.holds Try.pinned (OpenSpec.ofChange fnExactIsTrivialMotionWrong)

/-- 'laws.FnExactIsEquilibriumLoad': WHATEVER THE INPUT: true; the input reads as it did. -/
def fnExactIsEquilibriumLoadSpec : ChangeSpec := { name := "fnExactIsEquilibriumLoad", fn := fun _ => fun
  | [d1, d2] => { results := [.lit (.bool true)], args := [d1, d2] }
  | _ => none }
def fnExactIsEquilibriumLoadRow : OpenClaim := { program := "ytkjoeogoebpkjaa", sum := "575d02fde0780f69e10f9b6fdf977f42bc0178f501d4c1d8cabbc0a9b652aced", func := "loop.example/g02078/laws.FnExactIsEquilibriumLoad", spec := "fnExactIsEquilibriumLoad", apart := false }
def FnExactIsEquilibriumLoadSaid : Prop := fnExactIsEquilibriumLoadRow.holds Try.pinned (OpenSpec.ofChange fnExactIsEquilibriumLoadSpec)

/-- ITS FALSE NEIGHBOUR: 'it returns false'. Refute it at one input. -/
def fnExactIsEquilibriumLoadWrong : ChangeSpec := { name := "fnExactIsEquilibriumLoad", fn := fun _ => fun
  | [d1, d2] => { results := [.lit (.bool false)], args := [d1, d2] }
  | _ => none }
def FnExactIsEquilibriumLoadWrongFalsely : Prop := fnExactIsEquilibriumLoadRow.holds Try.pinned (OpenSpec.ofChange fnExactIsEquilibriumLoadWrong)

/-- 'laws.FnExactMirrorFramework': WHATEVER THE INPUT: true; the input reads as it did. -/
def fnExactMirrorFrameworkSpec : ChangeSpec := { name := "fnExactMirrorFramework", fn := fun _ => fun
  | [d] => { results := [.lit (.bool true)], args := [d] }
  | _ => none }
def fnExactMirrorFrameworkRow : OpenClaim := { program := "ytkjoeogoebpkjaa", sum := "575d02fde0780f69e10f9b6fdf977f42bc0178f501d4c1d8cabbc0a9b652aced", func := "loop.example/g02078/laws.FnExactMirrorFramework", spec := "fnExactMirrorFramework", unfollowed := true, recurses := true, apart := false }
def FnExactMirrorFrameworkSaid : Prop := fnExactMirrorFrameworkRow.holds Try.pinned (OpenSpec.ofChange fnExactMirrorFrameworkSpec)

/-- ITS FALSE NEIGHBOUR: 'it returns false'. Refute it at one input. -/
def fnExactMirrorFrameworkWrong : ChangeSpec := { name := "fnExactMirrorFramework", fn := fun _ => fun
  | [d] => { results := [.lit (.bool false)], args := [d] }
  | _ => none }
def FnExactMirrorFrameworkWrongFalsely : Prop := fnExactMirrorFrameworkRow.holds Try.pinned (OpenSpec.ofChange fnExactMirrorFrameworkWrong)

/-- 'laws.FnExactTurnFramework': WHATEVER THE INPUT: true; the input reads as it did. -/
def fnExactTurnFrameworkSpec : ChangeSpec := { name := "fnExactTurnFramework", fn := fun _ => fun
  | [d] => { results := [.lit (.bool true)], args := [d] }
  | _ => none }
def fnExactTurnFrameworkRow : OpenClaim := { program := "ytkjoeogoebpkjaa", sum := "575d02fde0780f69e10f9b6fdf977f42bc0178f501d4c1d8cabbc0a9b652aced", func := "loop.example/g02078/laws.FnExactTurnFramework", spec := "fnExactTurnFramework", unfollowed := true, recurses := true, apart := false }
def FnExactTurnFrameworkSaid : Prop := fnExactTurnFrameworkRow.holds Try.pinned (OpenSpec.ofChange fnExactTurnFrameworkSpec)

/-- ITS FALSE NEIGHBOUR: 'it returns false'. Refute it at one input. -/
def fnExactTurnFrameworkWrong : ChangeSpec := { name := "fnExactTurnFramework", fn := fun _ => fun
  | [d] => { results := [.lit (.bool false)], args := [d] }
  | _ => none }
def FnExactTurnFrameworkWrongFalsely : Prop := fnExactTurnFrameworkRow.holds Try.pinned (OpenSpec.ofChange fnExactTurnFrameworkWrong)

/-- 'laws.FnExactMoveJoint': WHATEVER THE INPUT: true; the input reads as it did. -/
def fnExactMoveJointSpec : ChangeSpec := { name := "fnExactMoveJoint", fn := fun _ => fun
  | [d1, d2, d3] => { results := [.lit (.bool true)], args := [d1, d2, d3] }
  | _ => none }
def fnExactMoveJointRow : OpenClaim := { program := "ytkjoeogoebpkjaa", sum := "575d02fde0780f69e10f9b6fdf977f42bc0178f501d4c1d8cabbc0a9b652aced", func := "loop.example/g02078/laws.FnExactMoveJoint", spec := "fnExactMoveJoint", apart := false }
def FnExactMoveJointSaid : Prop := fnExactMoveJointRow.holds Try.pinned (OpenSpec.ofChange fnExactMoveJointSpec)

/-- ITS FALSE NEIGHBOUR: 'it returns false'. Refute it at one input. -/
def fnExactMoveJointWrong : ChangeSpec := { name := "fnExactMoveJoint", fn := fun _ => fun
  | [d1, d2, d3] => { results := [.lit (.bool false)], args := [d1, d2, d3] }
  | _ => none }
def FnExactMoveJointWrongFalsely : Prop := fnExactMoveJointRow.holds Try.pinned (OpenSpec.ofChange fnExactMoveJointWrong)

/-- 'laws.FnExactPlaneMotions': WHATEVER THE INPUT: true; the input reads as it did. -/
def fnExactPlaneMotionsSpec : ChangeSpec := { name := "fnExactPlaneMotions", fn := fun _ => fun
  | [d] => { results := [.lit (.bool true)], args := [d] }
  | _ => none }
def fnExactPlaneMotionsRow : OpenClaim := { program := "ytkjoeogoebpkjaa", sum := "575d02fde0780f69e10f9b6fdf977f42bc0178f501d4c1d8cabbc0a9b652aced", func := "loop.example/g02078/laws.FnExactPlaneMotions", spec := "fnExactPlaneMotions", apart := false }
def FnExactPlaneMotionsSaid : Prop := fnExactPlaneMotionsRow.holds Try.pinned (OpenSpec.ofChange fnExactPlaneMotionsSpec)

/-- ITS FALSE NEIGHBOUR: 'it returns false'. Refute it at one input. -/
def fnExactPlaneMotionsWrong : ChangeSpec := { name := "fnExactPlaneMotions", fn := fun _ => fun
  | [d] => { results := [.lit (.bool false)], args := [d] }
  | _ => none }
def FnExactPlaneMotionsWrongFalsely : Prop := fnExactPlaneMotionsRow.holds Try.pinned (OpenSpec.ofChange fnExactPlaneMotionsWrong)

/-- 'laws.FnExactRigidityMatrix': WHATEVER THE INPUT: true; the input reads as it did. -/
def fnExactRigidityMatrixSpec : ChangeSpec := { name := "fnExactRigidityMatrix", fn := fun _ => fun
  | [d] => { results := [.lit (.bool true)], args := [d] }
  | _ => none }
def fnExactRigidityMatrixRow : OpenClaim := { program := "ytkjoeogoebpkjaa", sum := "575d02fde0780f69e10f9b6fdf977f42bc0178f501d4c1d8cabbc0a9b652aced", func := "loop.example/g02078/laws.FnExactRigidityMatrix", spec := "fnExactRigidityMatrix", apart := false }
def FnExactRigidityMatrixSaid : Prop := fnExactRigidityMatrixRow.holds Try.pinned (OpenSpec.ofChange fnExactRigidityMatrixSpec)

/-- ITS FALSE NEIGHBOUR: 'it returns false'. Refute it at one input. -/
def fnExactRigidityMatrixWrong : ChangeSpec := { name := "fnExactRigidityMatrix", fn := fun _ => fun
  | [d] => { results := [.lit (.bool false)], args := [d] }
  | _ => none }
def FnExactRigidityMatrixWrongFalsely : Prop := fnExactRigidityMatrixRow.holds Try.pinned (OpenSpec.ofChange fnExactRigidityMatrixWrong)

/-- 'laws.FnExactFlatSets': WHATEVER THE INPUT: true; the input reads as it did. -/
def fnExactFlatSetsSpec : ChangeSpec := { name := "fnExactFlatSets", fn := fun _ => fun
  | [d] => { results := [.lit (.bool true)], args := [d] }
  | _ => none }
def fnExactFlatSetsRow : OpenClaim := { program := "ytkjoeogoebpkjaa", sum := "575d02fde0780f69e10f9b6fdf977f42bc0178f501d4c1d8cabbc0a9b652aced", func := "loop.example/g02078/laws.FnExactFlatSets", spec := "fnExactFlatSets", apart := false }
def FnExactFlatSetsSaid : Prop := fnExactFlatSetsRow.holds Try.pinned (OpenSpec.ofChange fnExactFlatSetsSpec)

/-- ITS FALSE NEIGHBOUR: 'it returns false'. Refute it at one input. -/
def fnExactFlatSetsWrong : ChangeSpec := { name := "fnExactFlatSets", fn := fun _ => fun
  | [d] => { results := [.lit (.bool false)], args := [d] }
  | _ => none }
def FnExactFlatSetsWrongFalsely : Prop := fnExactFlatSetsRow.holds Try.pinned (OpenSpec.ofChange fnExactFlatSetsWrong)

/-- 'laws.FnExactFixMotion': WHATEVER THE INPUT: true; the input reads as it did. -/
def fnExactFixMotionSpec : ChangeSpec := { name := "fnExactFixMotion", fn := fun _ => fun
  | [d1, d2, d3] => { results := [.lit (.bool true)], args := [d1, d2, d3] }
  | _ => none }
def fnExactFixMotionRow : OpenClaim := { program := "ytkjoeogoebpkjaa", sum := "575d02fde0780f69e10f9b6fdf977f42bc0178f501d4c1d8cabbc0a9b652aced", func := "loop.example/g02078/laws.FnExactFixMotion", spec := "fnExactFixMotion", apart := false }
def FnExactFixMotionSaid : Prop := fnExactFixMotionRow.holds Try.pinned (OpenSpec.ofChange fnExactFixMotionSpec)

/-- ITS FALSE NEIGHBOUR: 'it returns false'. Refute it at one input. -/
def fnExactFixMotionWrong : ChangeSpec := { name := "fnExactFixMotion", fn := fun _ => fun
  | [d1, d2, d3] => { results := [.lit (.bool false)], args := [d1, d2, d3] }
  | _ => none }
def FnExactFixMotionWrongFalsely : Prop := fnExactFixMotionRow.holds Try.pinned (OpenSpec.ofChange fnExactFixMotionWrong)

/- THE SECOND FORM. 'bulk': how many values and letters a reading holds, each counted each time it is reached (what is shared counts as often as it is met; a slice's spare places count too). A statement '..UptoSaid' is the law's where the arguments, and the package variables that the reading takes, are together of bulk at most 1048576: NARROWER than '..Said'. Prove '..Said' where nothing that the law and all that it calls make is longer than what came in: it says more and counts as full. Else prove '..UptoSaid'. A law counts once. -/
mutual
def uptoBulk {H : Type} : DataW H → Nat
  | .lit (.string bytes) => bytes.length + 1
  | .lit _ => 1
  | .nil => 1
  | .ptr d => uptoBulk d + 1
  | .slice elems spare => uptoBulkAll elems + uptoBulkAll spare + 1
  | .agg parts => uptoBulkAll parts + 1
  | .iface _ d => uptoBulk d + 1
  | .map entries => uptoBulkEntries entries + 1
  | .held _ => 1
def uptoBulkAll {H : Type} : List (DataW H) → Nat
  | [] => 0
  | d :: r => uptoBulk d + uptoBulkAll r
def uptoBulkEntries {H : Type} : List (Lit × DataW H) → Nat
  | [] => 0
  | x :: r => uptoBulkEntry x + uptoBulkEntries r
def uptoBulkEntry {H : Type} : Lit × DataW H → Nat
  | (.string bytes, d) => bytes.length + uptoBulk d + 1
  | (_, d) => uptoBulk d + 1
 end
def uptoSmall : (H : Type) → List (DataW H) → Bool := fun _ ds => decide (uptoBulkAll ds ≤ 1048576)
def OpenSpec.upto (s : _root_.Go.ChangeSpec) : _root_.Go.OpenSpec := { _root_.Go.OpenSpec.ofChange s with cond := some uptoSmall }

/-- 'laws.FnExactTransposeMatrix', WHERE WHAT IT READS IS OF BULK AT MOST 1048576: true; the input reads as it did. -/
def fnExactTransposeMatrixUptoRow : OpenClaim := { program := "ytkjoeogoebpkjaa", sum := "575d02fde0780f69e10f9b6fdf977f42bc0178f501d4c1d8cabbc0a9b652aced", func := "loop.example/g02078/laws.FnExactTransposeMatrix", spec := "fnExactTransposeMatrix", apart := false, narrowed := true }
def FnExactTransposeMatrixUptoSaid : Prop := fnExactTransposeMatrixUptoRow.holds Try.pinned (OpenSpec.upto fnExactTransposeMatrixSpec)

/-- 'laws.FnExactForceAt', WHERE WHAT IT READS IS OF BULK AT MOST 1048576: true; the input reads as it did. -/
def fnExactForceAtUptoRow : OpenClaim := { program := "ytkjoeogoebpkjaa", sum := "575d02fde0780f69e10f9b6fdf977f42bc0178f501d4c1d8cabbc0a9b652aced", func := "loop.example/g02078/laws.FnExactForceAt", spec := "fnExactForceAt", apart := false, narrowed := true }
def FnExactForceAtUptoSaid : Prop := fnExactForceAtUptoRow.holds Try.pinned (OpenSpec.upto fnExactForceAtSpec)

/-- 'laws.FnExactIsStress', WHERE WHAT IT READS IS OF BULK AT MOST 1048576: true; the input reads as it did. -/
def fnExactIsStressUptoRow : OpenClaim := { program := "ytkjoeogoebpkjaa", sum := "575d02fde0780f69e10f9b6fdf977f42bc0178f501d4c1d8cabbc0a9b652aced", func := "loop.example/g02078/laws.FnExactIsStress", spec := "fnExactIsStress", apart := false, narrowed := true }
def FnExactIsStressUptoSaid : Prop := fnExactIsStressUptoRow.holds Try.pinned (OpenSpec.upto fnExactIsStressSpec)

/-- 'laws.FnExactIsTrivialMotion', WHERE WHAT IT READS IS OF BULK AT MOST 1048576: true; the input reads as it did. -/
def fnExactIsTrivialMotionUptoRow : OpenClaim := { program := "ytkjoeogoebpkjaa", sum := "575d02fde0780f69e10f9b6fdf977f42bc0178f501d4c1d8cabbc0a9b652aced", func := "loop.example/g02078/laws.FnExactIsTrivialMotion", spec := "fnExactIsTrivialMotion", apart := false, narrowed := true }
def FnExactIsTrivialMotionUptoSaid : Prop := fnExactIsTrivialMotionUptoRow.holds Try.pinned (OpenSpec.upto fnExactIsTrivialMotionSpec)

/-- 'laws.FnExactIsEquilibriumLoad', WHERE WHAT IT READS IS OF BULK AT MOST 1048576: true; the input reads as it did. -/
def fnExactIsEquilibriumLoadUptoRow : OpenClaim := { program := "ytkjoeogoebpkjaa", sum := "575d02fde0780f69e10f9b6fdf977f42bc0178f501d4c1d8cabbc0a9b652aced", func := "loop.example/g02078/laws.FnExactIsEquilibriumLoad", spec := "fnExactIsEquilibriumLoad", apart := false, narrowed := true }
def FnExactIsEquilibriumLoadUptoSaid : Prop := fnExactIsEquilibriumLoadUptoRow.holds Try.pinned (OpenSpec.upto fnExactIsEquilibriumLoadSpec)

/-- 'laws.FnExactMirrorFramework', WHERE WHAT IT READS IS OF BULK AT MOST 1048576: true; the input reads as it did. -/
def fnExactMirrorFrameworkUptoRow : OpenClaim := { program := "ytkjoeogoebpkjaa", sum := "575d02fde0780f69e10f9b6fdf977f42bc0178f501d4c1d8cabbc0a9b652aced", func := "loop.example/g02078/laws.FnExactMirrorFramework", spec := "fnExactMirrorFramework", unfollowed := true, recurses := true, apart := false, narrowed := true }
def FnExactMirrorFrameworkUptoSaid : Prop := fnExactMirrorFrameworkUptoRow.holds Try.pinned (OpenSpec.upto fnExactMirrorFrameworkSpec)

/-- 'laws.FnExactTurnFramework', WHERE WHAT IT READS IS OF BULK AT MOST 1048576: true; the input reads as it did. -/
def fnExactTurnFrameworkUptoRow : OpenClaim := { program := "ytkjoeogoebpkjaa", sum := "575d02fde0780f69e10f9b6fdf977f42bc0178f501d4c1d8cabbc0a9b652aced", func := "loop.example/g02078/laws.FnExactTurnFramework", spec := "fnExactTurnFramework", unfollowed := true, recurses := true, apart := false, narrowed := true }
def FnExactTurnFrameworkUptoSaid : Prop := fnExactTurnFrameworkUptoRow.holds Try.pinned (OpenSpec.upto fnExactTurnFrameworkSpec)

/-- 'laws.FnExactMoveJoint', WHERE WHAT IT READS IS OF BULK AT MOST 1048576: true; the input reads as it did. -/
def fnExactMoveJointUptoRow : OpenClaim := { program := "ytkjoeogoebpkjaa", sum := "575d02fde0780f69e10f9b6fdf977f42bc0178f501d4c1d8cabbc0a9b652aced", func := "loop.example/g02078/laws.FnExactMoveJoint", spec := "fnExactMoveJoint", apart := false, narrowed := true }
def FnExactMoveJointUptoSaid : Prop := fnExactMoveJointUptoRow.holds Try.pinned (OpenSpec.upto fnExactMoveJointSpec)

/-- 'laws.FnExactPlaneMotions', WHERE WHAT IT READS IS OF BULK AT MOST 1048576: true; the input reads as it did. -/
def fnExactPlaneMotionsUptoRow : OpenClaim := { program := "ytkjoeogoebpkjaa", sum := "575d02fde0780f69e10f9b6fdf977f42bc0178f501d4c1d8cabbc0a9b652aced", func := "loop.example/g02078/laws.FnExactPlaneMotions", spec := "fnExactPlaneMotions", apart := false, narrowed := true }
def FnExactPlaneMotionsUptoSaid : Prop := fnExactPlaneMotionsUptoRow.holds Try.pinned (OpenSpec.upto fnExactPlaneMotionsSpec)

/-- 'laws.FnExactRigidityMatrix', WHERE WHAT IT READS IS OF BULK AT MOST 1048576: true; the input reads as it did. -/
def fnExactRigidityMatrixUptoRow : OpenClaim := { program := "ytkjoeogoebpkjaa", sum := "575d02fde0780f69e10f9b6fdf977f42bc0178f501d4c1d8cabbc0a9b652aced", func := "loop.example/g02078/laws.FnExactRigidityMatrix", spec := "fnExactRigidityMatrix", apart := false, narrowed := true }
def FnExactRigidityMatrixUptoSaid : Prop := fnExactRigidityMatrixUptoRow.holds Try.pinned (OpenSpec.upto fnExactRigidityMatrixSpec)

/-- 'laws.FnExactFlatSets', WHERE WHAT IT READS IS OF BULK AT MOST 1048576: true; the input reads as it did. -/
def fnExactFlatSetsUptoRow : OpenClaim := { program := "ytkjoeogoebpkjaa", sum := "575d02fde0780f69e10f9b6fdf977f42bc0178f501d4c1d8cabbc0a9b652aced", func := "loop.example/g02078/laws.FnExactFlatSets", spec := "fnExactFlatSets", apart := false, narrowed := true }
def FnExactFlatSetsUptoSaid : Prop := fnExactFlatSetsUptoRow.holds Try.pinned (OpenSpec.upto fnExactFlatSetsSpec)

/-- 'laws.FnExactFixMotion', WHERE WHAT IT READS IS OF BULK AT MOST 1048576: true; the input reads as it did. -/
def fnExactFixMotionUptoRow : OpenClaim := { program := "ytkjoeogoebpkjaa", sum := "575d02fde0780f69e10f9b6fdf977f42bc0178f501d4c1d8cabbc0a9b652aced", func := "loop.example/g02078/laws.FnExactFixMotion", spec := "fnExactFixMotion", apart := false, narrowed := true }
def FnExactFixMotionUptoSaid : Prop := fnExactFixMotionUptoRow.holds Try.pinned (OpenSpec.upto fnExactFixMotionSpec)

end Rows
end Go.Proofs.Ytkjoeogoebpkjaa
