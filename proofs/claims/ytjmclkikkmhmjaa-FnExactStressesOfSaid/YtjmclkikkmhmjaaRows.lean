/-
  No cell of these rows narrows 'for every input' (looked for: loops, veiled, ifaces, maps, wideKeys, modest, calm, conditions, laid).
  DERIVED. THE GIVEN ROWS OF THIS SEAT. 12 by the template 'for every input the law returns true; each argument reads behind the call as it read before'; 0 by the template 'total and deterministic' (their statements: YtjmclkikkmhmjaaTotals.lean).
  GIVEN WITH THE SEED: the statements are not yours to turn. If you find one false, say at which input.
  Laid BY PROGRAM, IN A SANDBOX (cutbox-rows.mjs): the forced cells as the released guide's own fill.sh prints them over the translation b7d4295c9389307e… (all of the seat's roots in one cut). By AI agents, Wed Nov 11 2026. No macro, syntax, notation, axiom, sorry.
-/
import Derived.Test.YtjmclkikkmhmjaaChecked
import GoSem.Claim
import GoSem.ClaimJoined
import GoSem.ClaimMapViews
import Derived.JoinedTies
import Derived.KernelRfl
namespace Go.Proofs.Ytjmclkikkmhmjaa
/- THE CELL 'sum', in the pinned program and in every row, IS THE sha256 OF THE DUMP (.gsa) THAT YtjmclkikkmhmjaaProg.lean LOADS. Nothing in Lean hashes anything: it is a label: what it is worth is what the hold of that sum in a sandbox is worth. -/
noncomputable def Try.pinned : Pinned := { name := "ytjmclkikkmhmjaa", sum := "b7d4295c9389307e549699c2119f6f317b11b20447d17c7bff1d8471b63307fb", checked := Try.checked }
namespace Rows
def none {H : Type} : Left H := { results := [], args := [] }

/-- 'laws.FnExactRankOfMatrix': WHATEVER THE INPUT: true; the input reads as it did. -/
def fnExactRankOfMatrixSpec : ChangeSpec := { name := "fnExactRankOfMatrix", fn := fun _ => fun
  | [d] => { results := [.lit (.bool true)], args := [d] }
  | _ => none }
def fnExactRankOfMatrixRow : OpenClaim := { program := "ytjmclkikkmhmjaa", sum := "b7d4295c9389307e549699c2119f6f317b11b20447d17c7bff1d8471b63307fb", func := "loop.example/g02078/laws.FnExactRankOfMatrix", spec := "fnExactRankOfMatrix", apart := false }
def FnExactRankOfMatrixSaid : Prop := fnExactRankOfMatrixRow.holds Try.pinned (OpenSpec.ofChange fnExactRankOfMatrixSpec)

/-- ITS FALSE NEIGHBOUR: 'it returns false'. Refute it at one input. -/
def fnExactRankOfMatrixWrong : ChangeSpec := { name := "fnExactRankOfMatrix", fn := fun _ => fun
  | [d] => { results := [.lit (.bool false)], args := [d] }
  | _ => none }
def FnExactRankOfMatrixWrongFalsely : Prop := fnExactRankOfMatrixRow.holds Try.pinned (OpenSpec.ofChange fnExactRankOfMatrixWrong)

/-- 'laws.FnExactNullspaceOf': WHATEVER THE INPUT: true; the input reads as it did. -/
def fnExactNullspaceOfSpec : ChangeSpec := { name := "fnExactNullspaceOf", fn := fun _ => fun
  | [d] => { results := [.lit (.bool true)], args := [d] }
  | _ => none }
def fnExactNullspaceOfRow : OpenClaim := { program := "ytjmclkikkmhmjaa", sum := "b7d4295c9389307e549699c2119f6f317b11b20447d17c7bff1d8471b63307fb", func := "loop.example/g02078/laws.FnExactNullspaceOf", spec := "fnExactNullspaceOf", apart := false }
def FnExactNullspaceOfSaid : Prop := fnExactNullspaceOfRow.holds Try.pinned (OpenSpec.ofChange fnExactNullspaceOfSpec)

/-- ITS FALSE NEIGHBOUR: 'it returns false'. Refute it at one input. -/
def fnExactNullspaceOfWrong : ChangeSpec := { name := "fnExactNullspaceOf", fn := fun _ => fun
  | [d] => { results := [.lit (.bool false)], args := [d] }
  | _ => none }
def FnExactNullspaceOfWrongFalsely : Prop := fnExactNullspaceOfRow.holds Try.pinned (OpenSpec.ofChange fnExactNullspaceOfWrong)

/-- 'laws.FnExactFrameworkRank': WHATEVER THE INPUT: true; the input reads as it did. -/
def fnExactFrameworkRankSpec : ChangeSpec := { name := "fnExactFrameworkRank", fn := fun _ => fun
  | [d] => { results := [.lit (.bool true)], args := [d] }
  | _ => none }
def fnExactFrameworkRankRow : OpenClaim := { program := "ytjmclkikkmhmjaa", sum := "b7d4295c9389307e549699c2119f6f317b11b20447d17c7bff1d8471b63307fb", func := "loop.example/g02078/laws.FnExactFrameworkRank", spec := "fnExactFrameworkRank", apart := false }
def FnExactFrameworkRankSaid : Prop := fnExactFrameworkRankRow.holds Try.pinned (OpenSpec.ofChange fnExactFrameworkRankSpec)

/-- ITS FALSE NEIGHBOUR: 'it returns false'. Refute it at one input. -/
def fnExactFrameworkRankWrong : ChangeSpec := { name := "fnExactFrameworkRank", fn := fun _ => fun
  | [d] => { results := [.lit (.bool false)], args := [d] }
  | _ => none }
def FnExactFrameworkRankWrongFalsely : Prop := fnExactFrameworkRankRow.holds Try.pinned (OpenSpec.ofChange fnExactFrameworkRankWrong)

/-- 'laws.FnExactFrameworkFreedom': WHATEVER THE INPUT: true; the input reads as it did. -/
def fnExactFrameworkFreedomSpec : ChangeSpec := { name := "fnExactFrameworkFreedom", fn := fun _ => fun
  | [d] => { results := [.lit (.bool true)], args := [d] }
  | _ => none }
def fnExactFrameworkFreedomRow : OpenClaim := { program := "ytjmclkikkmhmjaa", sum := "b7d4295c9389307e549699c2119f6f317b11b20447d17c7bff1d8471b63307fb", func := "loop.example/g02078/laws.FnExactFrameworkFreedom", spec := "fnExactFrameworkFreedom", apart := false }
def FnExactFrameworkFreedomSaid : Prop := fnExactFrameworkFreedomRow.holds Try.pinned (OpenSpec.ofChange fnExactFrameworkFreedomSpec)

/-- ITS FALSE NEIGHBOUR: 'it returns false'. Refute it at one input. -/
def fnExactFrameworkFreedomWrong : ChangeSpec := { name := "fnExactFrameworkFreedom", fn := fun _ => fun
  | [d] => { results := [.lit (.bool false)], args := [d] }
  | _ => none }
def FnExactFrameworkFreedomWrongFalsely : Prop := fnExactFrameworkFreedomRow.holds Try.pinned (OpenSpec.ofChange fnExactFrameworkFreedomWrong)

/-- 'laws.FnExactIsStiff': WHATEVER THE INPUT: true; the input reads as it did. -/
def fnExactIsStiffSpec : ChangeSpec := { name := "fnExactIsStiff", fn := fun _ => fun
  | [d] => { results := [.lit (.bool true)], args := [d] }
  | _ => none }
def fnExactIsStiffRow : OpenClaim := { program := "ytjmclkikkmhmjaa", sum := "b7d4295c9389307e549699c2119f6f317b11b20447d17c7bff1d8471b63307fb", func := "loop.example/g02078/laws.FnExactIsStiff", spec := "fnExactIsStiff", apart := false }
def FnExactIsStiffSaid : Prop := fnExactIsStiffRow.holds Try.pinned (OpenSpec.ofChange fnExactIsStiffSpec)

/-- ITS FALSE NEIGHBOUR: 'it returns false'. Refute it at one input. -/
def fnExactIsStiffWrong : ChangeSpec := { name := "fnExactIsStiff", fn := fun _ => fun
  | [d] => { results := [.lit (.bool false)], args := [d] }
  | _ => none }
def FnExactIsStiffWrongFalsely : Prop := fnExactIsStiffRow.holds Try.pinned (OpenSpec.ofChange fnExactIsStiffWrong)

/-- 'laws.FnExactIsIndependentFramework': WHATEVER THE INPUT: true; the input reads as it did. -/
def fnExactIsIndependentFrameworkSpec : ChangeSpec := { name := "fnExactIsIndependentFramework", fn := fun _ => fun
  | [d] => { results := [.lit (.bool true)], args := [d] }
  | _ => none }
def fnExactIsIndependentFrameworkRow : OpenClaim := { program := "ytjmclkikkmhmjaa", sum := "b7d4295c9389307e549699c2119f6f317b11b20447d17c7bff1d8471b63307fb", func := "loop.example/g02078/laws.FnExactIsIndependentFramework", spec := "fnExactIsIndependentFramework", apart := false }
def FnExactIsIndependentFrameworkSaid : Prop := fnExactIsIndependentFrameworkRow.holds Try.pinned (OpenSpec.ofChange fnExactIsIndependentFrameworkSpec)

/-- ITS FALSE NEIGHBOUR: 'it returns false'. Refute it at one input. -/
def fnExactIsIndependentFrameworkWrong : ChangeSpec := { name := "fnExactIsIndependentFramework", fn := fun _ => fun
  | [d] => { results := [.lit (.bool false)], args := [d] }
  | _ => none }
def FnExactIsIndependentFrameworkWrongFalsely : Prop := fnExactIsIndependentFrameworkRow.holds Try.pinned (OpenSpec.ofChange fnExactIsIndependentFrameworkWrong)

/-- 'laws.FnExactCountStresses': WHATEVER THE INPUT: true; the input reads as it did. -/
def fnExactCountStressesSpec : ChangeSpec := { name := "fnExactCountStresses", fn := fun _ => fun
  | [d] => { results := [.lit (.bool true)], args := [d] }
  | _ => none }
def fnExactCountStressesRow : OpenClaim := { program := "ytjmclkikkmhmjaa", sum := "b7d4295c9389307e549699c2119f6f317b11b20447d17c7bff1d8471b63307fb", func := "loop.example/g02078/laws.FnExactCountStresses", spec := "fnExactCountStresses", apart := false }
def FnExactCountStressesSaid : Prop := fnExactCountStressesRow.holds Try.pinned (OpenSpec.ofChange fnExactCountStressesSpec)

/-- ITS FALSE NEIGHBOUR: 'it returns false'. Refute it at one input. -/
def fnExactCountStressesWrong : ChangeSpec := { name := "fnExactCountStresses", fn := fun _ => fun
  | [d] => { results := [.lit (.bool false)], args := [d] }
  | _ => none }
def FnExactCountStressesWrongFalsely : Prop := fnExactCountStressesRow.holds Try.pinned (OpenSpec.ofChange fnExactCountStressesWrong)

/-- 'laws.FnExactMotionsOf': WHATEVER THE INPUT: true; the input reads as it did. -/
def fnExactMotionsOfSpec : ChangeSpec := { name := "fnExactMotionsOf", fn := fun _ => fun
  | [d] => { results := [.lit (.bool true)], args := [d] }
  | _ => none }
def fnExactMotionsOfRow : OpenClaim := { program := "ytjmclkikkmhmjaa", sum := "b7d4295c9389307e549699c2119f6f317b11b20447d17c7bff1d8471b63307fb", func := "loop.example/g02078/laws.FnExactMotionsOf", spec := "fnExactMotionsOf", apart := false }
def FnExactMotionsOfSaid : Prop := fnExactMotionsOfRow.holds Try.pinned (OpenSpec.ofChange fnExactMotionsOfSpec)

/-- ITS FALSE NEIGHBOUR: 'it returns false'. Refute it at one input. -/
def fnExactMotionsOfWrong : ChangeSpec := { name := "fnExactMotionsOf", fn := fun _ => fun
  | [d] => { results := [.lit (.bool false)], args := [d] }
  | _ => none }
def FnExactMotionsOfWrongFalsely : Prop := fnExactMotionsOfRow.holds Try.pinned (OpenSpec.ofChange fnExactMotionsOfWrong)

/-- 'laws.FnExactStressesOf': WHATEVER THE INPUT: true; the input reads as it did. -/
def fnExactStressesOfSpec : ChangeSpec := { name := "fnExactStressesOf", fn := fun _ => fun
  | [d] => { results := [.lit (.bool true)], args := [d] }
  | _ => none }
def fnExactStressesOfRow : OpenClaim := { program := "ytjmclkikkmhmjaa", sum := "b7d4295c9389307e549699c2119f6f317b11b20447d17c7bff1d8471b63307fb", func := "loop.example/g02078/laws.FnExactStressesOf", spec := "fnExactStressesOf", apart := false }
def FnExactStressesOfSaid : Prop := fnExactStressesOfRow.holds Try.pinned (OpenSpec.ofChange fnExactStressesOfSpec)

/-- ITS FALSE NEIGHBOUR: 'it returns false'. Refute it at one input. -/
def fnExactStressesOfWrong : ChangeSpec := { name := "fnExactStressesOf", fn := fun _ => fun
  | [d] => { results := [.lit (.bool false)], args := [d] }
  | _ => none }
def FnExactStressesOfWrongFalsely : Prop := fnExactStressesOfRow.holds Try.pinned (OpenSpec.ofChange fnExactStressesOfWrong)

/-- 'laws.FnExactCanBear': WHATEVER THE INPUT: true; the input reads as it did. -/
def fnExactCanBearSpec : ChangeSpec := { name := "fnExactCanBear", fn := fun _ => fun
  | [d1, d2] => { results := [.lit (.bool true)], args := [d1, d2] }
  | _ => none }
def fnExactCanBearRow : OpenClaim := { program := "ytjmclkikkmhmjaa", sum := "b7d4295c9389307e549699c2119f6f317b11b20447d17c7bff1d8471b63307fb", func := "loop.example/g02078/laws.FnExactCanBear", spec := "fnExactCanBear", apart := false }
def FnExactCanBearSaid : Prop := fnExactCanBearRow.holds Try.pinned (OpenSpec.ofChange fnExactCanBearSpec)

/-- ITS FALSE NEIGHBOUR: 'it returns false'. Refute it at one input. -/
def fnExactCanBearWrong : ChangeSpec := { name := "fnExactCanBear", fn := fun _ => fun
  | [d1, d2] => { results := [.lit (.bool false)], args := [d1, d2] }
  | _ => none }
def FnExactCanBearWrongFalsely : Prop := fnExactCanBearRow.holds Try.pinned (OpenSpec.ofChange fnExactCanBearWrong)

/-- 'laws.FnExactFindMotion': WHATEVER THE INPUT: true; the input reads as it did. -/
def fnExactFindMotionSpec : ChangeSpec := { name := "fnExactFindMotion", fn := fun _ => fun
  | [d] => { results := [.lit (.bool true)], args := [d] }
  | _ => none }
def fnExactFindMotionRow : OpenClaim := { program := "ytjmclkikkmhmjaa", sum := "b7d4295c9389307e549699c2119f6f317b11b20447d17c7bff1d8471b63307fb", func := "loop.example/g02078/laws.FnExactFindMotion", spec := "fnExactFindMotion", apart := false }
def FnExactFindMotionSaid : Prop := fnExactFindMotionRow.holds Try.pinned (OpenSpec.ofChange fnExactFindMotionSpec)

/-- ITS FALSE NEIGHBOUR: 'it returns false'. Refute it at one input. -/
def fnExactFindMotionWrong : ChangeSpec := { name := "fnExactFindMotion", fn := fun _ => fun
  | [d] => { results := [.lit (.bool false)], args := [d] }
  | _ => none }
def FnExactFindMotionWrongFalsely : Prop := fnExactFindMotionRow.holds Try.pinned (OpenSpec.ofChange fnExactFindMotionWrong)

/-- 'laws.FnExactIsGenericHere': WHATEVER THE INPUT: true; the input reads as it did. -/
def fnExactIsGenericHereSpec : ChangeSpec := { name := "fnExactIsGenericHere", fn := fun _ => fun
  | [d] => { results := [.lit (.bool true)], args := [d] }
  | _ => none }
def fnExactIsGenericHereRow : OpenClaim := { program := "ytjmclkikkmhmjaa", sum := "b7d4295c9389307e549699c2119f6f317b11b20447d17c7bff1d8471b63307fb", func := "loop.example/g02078/laws.FnExactIsGenericHere", spec := "fnExactIsGenericHere", apart := false }
def FnExactIsGenericHereSaid : Prop := fnExactIsGenericHereRow.holds Try.pinned (OpenSpec.ofChange fnExactIsGenericHereSpec)

/-- ITS FALSE NEIGHBOUR: 'it returns false'. Refute it at one input. -/
def fnExactIsGenericHereWrong : ChangeSpec := { name := "fnExactIsGenericHere", fn := fun _ => fun
  | [d] => { results := [.lit (.bool false)], args := [d] }
  | _ => none }
def FnExactIsGenericHereWrongFalsely : Prop := fnExactIsGenericHereRow.holds Try.pinned (OpenSpec.ofChange fnExactIsGenericHereWrong)

/- THE SECOND FORM. 'bulk': how many values and letters a reading holds, each counted each time it is reached (what is shared counts as often as it is met; a slice's spare places count too). A statement '..UptoSaid' is the law's where the arguments, and the package variables that the reading takes, are together of bulk at most 1048576: NARROWER than '..Said'. Prove '..Said' where nothing that the law and all that it calls make is longer than what came in: it says more and counts as full. Else prove '..UptoSaid'. A law counts once. -/
mutual
def uptoBulk {H : Type} : DataW H → Nat
  | .lit (.string bytes) => bytes.length + 1
  | .lit _ => 1
  | .nil => 1
  | .ptr d => uptoBulk d + 1
  | .slice elems spare => uptoBulkAll elems + uptoBulkAll spare + 1
  | .agg parts => uptoBulkAll parts + 1
  | .iface _ d => uptoBulk d + 1
  | .map entries => uptoBulkEntries entries + 1
  | .held _ => 1
def uptoBulkAll {H : Type} : List (DataW H) → Nat
  | [] => 0
  | d :: r => uptoBulk d + uptoBulkAll r
def uptoBulkEntries {H : Type} : List (Lit × DataW H) → Nat
  | [] => 0
  | x :: r => uptoBulkEntry x + uptoBulkEntries r
def uptoBulkEntry {H : Type} : Lit × DataW H → Nat
  | (.string bytes, d) => bytes.length + uptoBulk d + 1
  | (_, d) => uptoBulk d + 1
 end
def uptoSmall : (H : Type) → List (DataW H) → Bool := fun _ ds => decide (uptoBulkAll ds ≤ 1048576)
def OpenSpec.upto (s : _root_.Go.ChangeSpec) : _root_.Go.OpenSpec := { _root_.Go.OpenSpec.ofChange s with cond := some uptoSmall }

/-- 'laws.FnExactRankOfMatrix', WHERE WHAT IT READS IS OF BULK AT MOST 1048576: true; the input reads as it did. -/
def fnExactRankOfMatrixUptoRow : OpenClaim := { program := "ytjmclkikkmhmjaa", sum := "b7d4295c9389307e549699c2119f6f317b11b20447d17c7bff1d8471b63307fb", func := "loop.example/g02078/laws.FnExactRankOfMatrix", spec := "fnExactRankOfMatrix", apart := false, narrowed := true }
def FnExactRankOfMatrixUptoSaid : Prop := fnExactRankOfMatrixUptoRow.holds Try.pinned (OpenSpec.upto fnExactRankOfMatrixSpec)

/-- 'laws.FnExactNullspaceOf', WHERE WHAT IT READS IS OF BULK AT MOST 1048576: true; the input reads as it did. -/
def fnExactNullspaceOfUptoRow : OpenClaim := { program := "ytjmclkikkmhmjaa", sum := "b7d4295c9389307e549699c2119f6f317b11b20447d17c7bff1d8471b63307fb", func := "loop.example/g02078/laws.FnExactNullspaceOf", spec := "fnExactNullspaceOf", apart := false, narrowed := true }
def FnExactNullspaceOfUptoSaid : Prop := fnExactNullspaceOfUptoRow.holds Try.pinned (OpenSpec.upto fnExactNullspaceOfSpec)

/-- 'laws.FnExactFrameworkRank', WHERE WHAT IT READS IS OF BULK AT MOST 1048576: true; the input reads as it did. -/
def fnExactFrameworkRankUptoRow : OpenClaim := { program := "ytjmclkikkmhmjaa", sum := "b7d4295c9389307e549699c2119f6f317b11b20447d17c7bff1d8471b63307fb", func := "loop.example/g02078/laws.FnExactFrameworkRank", spec := "fnExactFrameworkRank", apart := false, narrowed := true }
def FnExactFrameworkRankUptoSaid : Prop := fnExactFrameworkRankUptoRow.holds Try.pinned (OpenSpec.upto fnExactFrameworkRankSpec)

/-- 'laws.FnExactFrameworkFreedom', WHERE WHAT IT READS IS OF BULK AT MOST 1048576: true; the input reads as it did. -/
def fnExactFrameworkFreedomUptoRow : OpenClaim := { program := "ytjmclkikkmhmjaa", sum := "b7d4295c9389307e549699c2119f6f317b11b20447d17c7bff1d8471b63307fb", func := "loop.example/g02078/laws.FnExactFrameworkFreedom", spec := "fnExactFrameworkFreedom", apart := false, narrowed := true }
def FnExactFrameworkFreedomUptoSaid : Prop := fnExactFrameworkFreedomUptoRow.holds Try.pinned (OpenSpec.upto fnExactFrameworkFreedomSpec)

/-- 'laws.FnExactIsStiff', WHERE WHAT IT READS IS OF BULK AT MOST 1048576: true; the input reads as it did. -/
def fnExactIsStiffUptoRow : OpenClaim := { program := "ytjmclkikkmhmjaa", sum := "b7d4295c9389307e549699c2119f6f317b11b20447d17c7bff1d8471b63307fb", func := "loop.example/g02078/laws.FnExactIsStiff", spec := "fnExactIsStiff", apart := false, narrowed := true }
def FnExactIsStiffUptoSaid : Prop := fnExactIsStiffUptoRow.holds Try.pinned (OpenSpec.upto fnExactIsStiffSpec)

/-- 'laws.FnExactIsIndependentFramework', WHERE WHAT IT READS IS OF BULK AT MOST 1048576: true; the input reads as it did. -/
def fnExactIsIndependentFrameworkUptoRow : OpenClaim := { program := "ytjmclkikkmhmjaa", sum := "b7d4295c9389307e549699c2119f6f317b11b20447d17c7bff1d8471b63307fb", func := "loop.example/g02078/laws.FnExactIsIndependentFramework", spec := "fnExactIsIndependentFramework", apart := false, narrowed := true }
def FnExactIsIndependentFrameworkUptoSaid : Prop := fnExactIsIndependentFrameworkUptoRow.holds Try.pinned (OpenSpec.upto fnExactIsIndependentFrameworkSpec)

/-- 'laws.FnExactCountStresses', WHERE WHAT IT READS IS OF BULK AT MOST 1048576: true; the input reads as it did. -/
def fnExactCountStressesUptoRow : OpenClaim := { program := "ytjmclkikkmhmjaa", sum := "b7d4295c9389307e549699c2119f6f317b11b20447d17c7bff1d8471b63307fb", func := "loop.example/g02078/laws.FnExactCountStresses", spec := "fnExactCountStresses", apart := false, narrowed := true }
def FnExactCountStressesUptoSaid : Prop := fnExactCountStressesUptoRow.holds Try.pinned (OpenSpec.upto fnExactCountStressesSpec)

/-- 'laws.FnExactMotionsOf', WHERE WHAT IT READS IS OF BULK AT MOST 1048576: true; the input reads as it did. -/
def fnExactMotionsOfUptoRow : OpenClaim := { program := "ytjmclkikkmhmjaa", sum := "b7d4295c9389307e549699c2119f6f317b11b20447d17c7bff1d8471b63307fb", func := "loop.example/g02078/laws.FnExactMotionsOf", spec := "fnExactMotionsOf", apart := false, narrowed := true }
def FnExactMotionsOfUptoSaid : Prop := fnExactMotionsOfUptoRow.holds Try.pinned (OpenSpec.upto fnExactMotionsOfSpec)

/-- 'laws.FnExactStressesOf', WHERE WHAT IT READS IS OF BULK AT MOST 1048576: true; the input reads as it did. -/
def fnExactStressesOfUptoRow : OpenClaim := { program := "ytjmclkikkmhmjaa", sum := "b7d4295c9389307e549699c2119f6f317b11b20447d17c7bff1d8471b63307fb", func := "loop.example/g02078/laws.FnExactStressesOf", spec := "fnExactStressesOf", apart := false, narrowed := true }
def FnExactStressesOfUptoSaid : Prop := fnExactStressesOfUptoRow.holds Try.pinned (OpenSpec.upto fnExactStressesOfSpec)

/-- 'laws.FnExactCanBear', WHERE WHAT IT READS IS OF BULK AT MOST 1048576: true; the input reads as it did. -/
def fnExactCanBearUptoRow : OpenClaim := { program := "ytjmclkikkmhmjaa", sum := "b7d4295c9389307e549699c2119f6f317b11b20447d17c7bff1d8471b63307fb", func := "loop.example/g02078/laws.FnExactCanBear", spec := "fnExactCanBear", apart := false, narrowed := true }
def FnExactCanBearUptoSaid : Prop := fnExactCanBearUptoRow.holds Try.pinned (OpenSpec.upto fnExactCanBearSpec)

/-- 'laws.FnExactFindMotion', WHERE WHAT IT READS IS OF BULK AT MOST 1048576: true; the input reads as it did. -/
def fnExactFindMotionUptoRow : OpenClaim := { program := "ytjmclkikkmhmjaa", sum := "b7d4295c9389307e549699c2119f6f317b11b20447d17c7bff1d8471b63307fb", func := "loop.example/g02078/laws.FnExactFindMotion", spec := "fnExactFindMotion", apart := false, narrowed := true }
def FnExactFindMotionUptoSaid : Prop := fnExactFindMotionUptoRow.holds Try.pinned (OpenSpec.upto fnExactFindMotionSpec)

/-- 'laws.FnExactIsGenericHere', WHERE WHAT IT READS IS OF BULK AT MOST 1048576: true; the input reads as it did. -/
def fnExactIsGenericHereUptoRow : OpenClaim := { program := "ytjmclkikkmhmjaa", sum := "b7d4295c9389307e549699c2119f6f317b11b20447d17c7bff1d8471b63307fb", func := "loop.example/g02078/laws.FnExactIsGenericHere", spec := "fnExactIsGenericHere", apart := false, narrowed := true }
def FnExactIsGenericHereUptoSaid : Prop := fnExactIsGenericHereUptoRow.holds Try.pinned (OpenSpec.upto fnExactIsGenericHereSpec)

end Rows
end Go.Proofs.Ytjmclkikkmhmjaa
