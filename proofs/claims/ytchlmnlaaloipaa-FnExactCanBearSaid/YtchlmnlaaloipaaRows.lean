/-
  No cell of these rows narrows 'for every input' (looked for: loops, veiled, ifaces, maps, wideKeys, modest, calm, conditions, laid).
  DERIVED. THE GIVEN ROWS OF THIS SEAT. 3 by the template 'for every input the law returns true; each argument reads behind the call as it read before'; 0 by the template 'total and deterministic' (their statements: YtchlmnlaaloipaaTotals.lean).
  GIVEN WITH THE SEED: the statements are not yours to turn. If you find one false, say at which input.
  Laid BY PROGRAM, IN A SANDBOX (cutbox-rows.mjs): the forced cells as the released guide's own fill.sh prints them over the translation d7b34cf216ec5a34… (all of the seat's roots in one cut). By AI agents, Wed Nov 11 2026. No macro, syntax, notation, axiom, sorry.
-/
import Derived.Test.YtchlmnlaaloipaaChecked
import GoSem.Claim
import GoSem.ClaimJoined
import GoSem.ClaimMapViews
import Derived.JoinedTies
import Derived.KernelRfl
namespace Go.Proofs.Ytchlmnlaaloipaa
/- THE CELL 'sum', in the pinned program and in every row, IS THE sha256 OF THE DUMP (.gsa) THAT YtchlmnlaaloipaaProg.lean LOADS. Nothing in Lean hashes anything: it is a label: what it is worth is what the hold of that sum in a sandbox is worth. -/
noncomputable def Try.pinned : Pinned := { name := "ytchlmnlaaloipaa", sum := "d7b34cf216ec5a34f68d190fe3b889d599910f6649ebd9b5b91b5aae3cb4a5a7", checked := Try.checked }
namespace Rows
def none {H : Type} : Left H := { results := [], args := [] }

/-- 'laws.FnExactCanBear': WHATEVER THE INPUT: true; the input reads as it did. -/
def fnExactCanBearSpec : ChangeSpec := { name := "fnExactCanBear", fn := fun _ => fun
  | [d1, d2] => { results := [.lit (.bool true)], args := [d1, d2] }
  | _ => none }
def fnExactCanBearRow : OpenClaim := { program := "ytchlmnlaaloipaa", sum := "d7b34cf216ec5a34f68d190fe3b889d599910f6649ebd9b5b91b5aae3cb4a5a7", func := "loop.example/g02078/laws.FnExactCanBear", spec := "fnExactCanBear", apart := false }
def FnExactCanBearSaid : Prop := fnExactCanBearRow.holds Try.pinned (OpenSpec.ofChange fnExactCanBearSpec)

/-- ITS FALSE NEIGHBOUR: 'it returns false'. Refute it at one input. -/
def fnExactCanBearWrong : ChangeSpec := { name := "fnExactCanBear", fn := fun _ => fun
  | [d1, d2] => { results := [.lit (.bool false)], args := [d1, d2] }
  | _ => none }
def FnExactCanBearWrongFalsely : Prop := fnExactCanBearRow.holds Try.pinned (OpenSpec.ofChange fnExactCanBearWrong)

/-- 'laws.FnExactIsGenericHere': WHATEVER THE INPUT: true; the input reads as it did. -/
def fnExactIsGenericHereSpec : ChangeSpec := { name := "fnExactIsGenericHere", fn := fun _ => fun
  | [d] => { results := [.lit (.bool true)], args := [d] }
  | _ => none }
def fnExactIsGenericHereRow : OpenClaim := { program := "ytchlmnlaaloipaa", sum := "d7b34cf216ec5a34f68d190fe3b889d599910f6649ebd9b5b91b5aae3cb4a5a7", func := "loop.example/g02078/laws.FnExactIsGenericHere", spec := "fnExactIsGenericHere", apart := false }
def FnExactIsGenericHereSaid : Prop := fnExactIsGenericHereRow.holds Try.pinned (OpenSpec.ofChange fnExactIsGenericHereSpec)

/-- ITS FALSE NEIGHBOUR: 'it returns false'. Refute it at one input. -/
def fnExactIsGenericHereWrong : ChangeSpec := { name := "fnExactIsGenericHere", fn := fun _ => fun
  | [d] => { results := [.lit (.bool false)], args := [d] }
  | _ => none }
def FnExactIsGenericHereWrongFalsely : Prop := fnExactIsGenericHereRow.holds Try.pinned (OpenSpec.ofChange fnExactIsGenericHereWrong)

/-- 'laws.FnExactFindMotion': WHATEVER THE INPUT: true; the input reads as it did. -/
def fnExactFindMotionSpec : ChangeSpec := { name := "fnExactFindMotion", fn := fun _ => fun
  | [d] => { results := [.lit (.bool true)], args := [d] }
  | _ => none }
def fnExactFindMotionRow : OpenClaim := { program := "ytchlmnlaaloipaa", sum := "d7b34cf216ec5a34f68d190fe3b889d599910f6649ebd9b5b91b5aae3cb4a5a7", func := "loop.example/g02078/laws.FnExactFindMotion", spec := "fnExactFindMotion", apart := false }
def FnExactFindMotionSaid : Prop := fnExactFindMotionRow.holds Try.pinned (OpenSpec.ofChange fnExactFindMotionSpec)

/-- ITS FALSE NEIGHBOUR: 'it returns false'. Refute it at one input. -/
def fnExactFindMotionWrong : ChangeSpec := { name := "fnExactFindMotion", fn := fun _ => fun
  | [d] => { results := [.lit (.bool false)], args := [d] }
  | _ => none }
def FnExactFindMotionWrongFalsely : Prop := fnExactFindMotionRow.holds Try.pinned (OpenSpec.ofChange fnExactFindMotionWrong)

/- THE SECOND FORM. 'bulk': how many values and letters a reading holds, each counted each time it is reached (what is shared counts as often as it is met; a slice's spare places count too). A statement '..UptoSaid' is the law's where the arguments, and the package variables that the reading takes, are together of bulk at most 1048576: NARROWER than '..Said'. Prove '..Said' where nothing that the law and all that it calls make is longer than what came in: it says more and counts as full. Else prove '..UptoSaid'. A law counts once. -/
mutual
def uptoBulk {H : Type} : DataW H → Nat
  | .lit (.string bytes) => bytes.length + 1
  | .lit _ => 1
  | .nil => 1
  | .ptr d => uptoBulk d + 1
  | .slice elems spare => uptoBulkAll elems + uptoBulkAll spare + 1
  | .agg parts => uptoBulkAll parts + 1
  | .iface _ d => uptoBulk d + 1
  | .map entries => uptoBulkEntries entries + 1
  | .held _ => 1
def uptoBulkAll {H : Type} : List (DataW H) → Nat
  | [] => 0
  | d :: r => uptoBulk d + uptoBulkAll r
def uptoBulkEntries {H : Type} : List (Lit × DataW H) → Nat
  | [] => 0
  | x :: r => uptoBulkEntry x + uptoBulkEntries r
def uptoBulkEntry {H : Type} : Lit × DataW H → Nat
  | (.string bytes, d) => bytes.length + uptoBulk d + 1
  | (_, d) => uptoBulk d + 1
 end
def uptoSmall : (H : Type) → List (DataW H) → Bool := fun _ ds => decide (uptoBulkAll ds ≤ 1048576)
def OpenSpec.upto (s : _root_.Go.ChangeSpec) : _root_.Go.OpenSpec := { _root_.Go.OpenSpec.ofChange s with cond := some uptoSmall }

/-- 'laws.FnExactCanBear', WHERE WHAT IT READS IS OF BULK AT MOST 1048576: true; the input reads as it did. -/
def fnExactCanBearUptoRow : OpenClaim := { program := "ytchlmnlaaloipaa", sum := "d7b34cf216ec5a34f68d190fe3b889d599910f6649ebd9b5b91b5aae3cb4a5a7", func := "loop.example/g02078/laws.FnExactCanBear", spec := "fnExactCanBear", apart := false, narrowed := true }
def FnExactCanBearUptoSaid : Prop := fnExactCanBearUptoRow.holds Try.pinned (OpenSpec.upto fnExactCanBearSpec)

/-- 'laws.FnExactIsGenericHere', WHERE WHAT IT READS IS OF BULK AT MOST 1048576: true; the input reads as it did. -/
def fnExactIsGenericHereUptoRow : OpenClaim := { program := "ytchlmnlaaloipaa", sum := "d7b34cf216ec5a34f68d190fe3b889d599910f6649ebd9b5b91b5aae3cb4a5a7", func := "loop.example/g02078/laws.FnExactIsGenericHere", spec := "fnExactIsGenericHere", apart := false, narrowed := true }
def FnExactIsGenericHereUptoSaid : Prop := fnExactIsGenericHereUptoRow.holds Try.pinned (OpenSpec.upto fnExactIsGenericHereSpec)

/-- 'laws.FnExactFindMotion', WHERE WHAT IT READS IS OF BULK AT MOST 1048576: true; the input reads as it did. -/
def fnExactFindMotionUptoRow : OpenClaim := { program := "ytchlmnlaaloipaa", sum := "d7b34cf216ec5a34f68d190fe3b889d599910f6649ebd9b5b91b5aae3cb4a5a7", func := "loop.example/g02078/laws.FnExactFindMotion", spec := "fnExactFindMotion", apart := false, narrowed := true }
def FnExactFindMotionUptoSaid : Prop := fnExactFindMotionUptoRow.holds Try.pinned (OpenSpec.upto fnExactFindMotionSpec)

end Rows
end Go.Proofs.Ytchlmnlaaloipaa
