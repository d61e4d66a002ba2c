/-
  No cell of these rows narrows 'for every input' (looked for: loops, veiled, ifaces, maps, wideKeys, modest, calm, conditions, laid).
  DERIVED. THE GIVEN ROWS OF THIS SEAT. 4 by the template 'for every input the law returns true; each argument reads behind the call as it read before'; 0 by the template 'total and deterministic' (their statements: YtnjecekaenddiaaTotals.lean).
  GIVEN WITH THE SEED: the statements are not yours to turn. If you find one false, say at which input.
  Laid BY PROGRAM, IN A SANDBOX (cutbox-rows.mjs): the forced cells as the released guide's own fill.sh prints them over the translation 3045c6e2f30ad131… (all of the seat's roots in one cut). By AI agents, Wed Nov 11 2026. No macro, syntax, notation, axiom, sorry.
-/
import Derived.Test.YtnjecekaenddiaaChecked
import GoSem.Claim
import GoSem.ClaimJoined
import GoSem.ClaimMapViews
import Derived.JoinedTies
import Derived.KernelRfl
namespace Go.Proofs.Ytnjecekaenddiaa
/- THE CELL 'sum', in the pinned program and in every row, IS THE sha256 OF THE DUMP (.gsa) THAT YtnjecekaenddiaaProg.lean LOADS. Nothing in Lean hashes anything: it is a label: what it is worth is what the hold of that sum in a sandbox is worth. -/
noncomputable def Try.pinned : Pinned := { name := "ytnjecekaenddiaa", sum := "3045c6e2f30ad1314cc1013fea6820f44002e41f23bc6dd4dbca886aebea63fd", checked := Try.checked }
namespace Rows
def none {H : Type} : Left H := { results := [], args := [] }

/-- 'laws.FnExactFormatSteps': WHATEVER THE INPUT: true; the input reads as it did. -/
def fnExactFormatStepsSpec : ChangeSpec := { name := "fnExactFormatSteps", fn := fun _ => fun
  | [d] => { results := [.lit (.bool true)], args := [d] }
  | _ => none }
def fnExactFormatStepsRow : OpenClaim := { program := "ytnjecekaenddiaa", sum := "3045c6e2f30ad1314cc1013fea6820f44002e41f23bc6dd4dbca886aebea63fd", func := "loop.example/g02078/laws.FnExactFormatSteps", spec := "fnExactFormatSteps", apart := false }
def FnExactFormatStepsSaid : Prop := fnExactFormatStepsRow.holds Try.pinned (OpenSpec.ofChange fnExactFormatStepsSpec)

/-- ITS FALSE NEIGHBOUR: 'it returns false'. Refute it at one input. -/
def fnExactFormatStepsWrong : ChangeSpec := { name := "fnExactFormatSteps", fn := fun _ => fun
  | [d] => { results := [.lit (.bool false)], args := [d] }
  | _ => none }
def FnExactFormatStepsWrongFalsely : Prop := fnExactFormatStepsRow.holds Try.pinned (OpenSpec.ofChange fnExactFormatStepsWrong)

/-- 'laws.FnExactFormatFramework': WHATEVER THE INPUT: true; the input reads as it did. -/
def fnExactFormatFrameworkSpec : ChangeSpec := { name := "fnExactFormatFramework", fn := fun _ => fun
  | [d] => { results := [.lit (.bool true)], args := [d] }
  | _ => none }
def fnExactFormatFrameworkRow : OpenClaim := { program := "ytnjecekaenddiaa", sum := "3045c6e2f30ad1314cc1013fea6820f44002e41f23bc6dd4dbca886aebea63fd", func := "loop.example/g02078/laws.FnExactFormatFramework", spec := "fnExactFormatFramework", apart := false }
def FnExactFormatFrameworkSaid : Prop := fnExactFormatFrameworkRow.holds Try.pinned (OpenSpec.ofChange fnExactFormatFrameworkSpec)

/-- ITS FALSE NEIGHBOUR: 'it returns false'. Refute it at one input. -/
def fnExactFormatFrameworkWrong : ChangeSpec := { name := "fnExactFormatFramework", fn := fun _ => fun
  | [d] => { results := [.lit (.bool false)], args := [d] }
  | _ => none }
def FnExactFormatFrameworkWrongFalsely : Prop := fnExactFormatFrameworkRow.holds Try.pinned (OpenSpec.ofChange fnExactFormatFrameworkWrong)

/-- 'laws.FnExactParseFramework': WHATEVER THE INPUT: true; the input reads as it did. -/
def fnExactParseFrameworkSpec : ChangeSpec := { name := "fnExactParseFramework", fn := fun _ => fun
  | [d] => { results := [.lit (.bool true)], args := [d] }
  | _ => none }
def fnExactParseFrameworkRow : OpenClaim := { program := "ytnjecekaenddiaa", sum := "3045c6e2f30ad1314cc1013fea6820f44002e41f23bc6dd4dbca886aebea63fd", func := "loop.example/g02078/laws.FnExactParseFramework", spec := "fnExactParseFramework", apart := false }
def FnExactParseFrameworkSaid : Prop := fnExactParseFrameworkRow.holds Try.pinned (OpenSpec.ofChange fnExactParseFrameworkSpec)

/-- ITS FALSE NEIGHBOUR: 'it returns false'. Refute it at one input. -/
def fnExactParseFrameworkWrong : ChangeSpec := { name := "fnExactParseFramework", fn := fun _ => fun
  | [d] => { results := [.lit (.bool false)], args := [d] }
  | _ => none }
def FnExactParseFrameworkWrongFalsely : Prop := fnExactParseFrameworkRow.holds Try.pinned (OpenSpec.ofChange fnExactParseFrameworkWrong)

/-- 'laws.FnExactCountTrees': WHATEVER THE INPUT: true; the input reads as it did. -/
def fnExactCountTreesSpec : ChangeSpec := { name := "fnExactCountTrees", fn := fun _ => fun
  | [d] => { results := [.lit (.bool true)], args := [d] }
  | _ => none }
def fnExactCountTreesRow : OpenClaim := { program := "ytnjecekaenddiaa", sum := "3045c6e2f30ad1314cc1013fea6820f44002e41f23bc6dd4dbca886aebea63fd", func := "loop.example/g02078/laws.FnExactCountTrees", spec := "fnExactCountTrees", recurses := true, apart := false }
def FnExactCountTreesSaid : Prop := fnExactCountTreesRow.holds Try.pinned (OpenSpec.ofChange fnExactCountTreesSpec)

/-- ITS FALSE NEIGHBOUR: 'it returns false'. Refute it at one input. -/
def fnExactCountTreesWrong : ChangeSpec := { name := "fnExactCountTrees", fn := fun _ => fun
  | [d] => { results := [.lit (.bool false)], args := [d] }
  | _ => none }
def FnExactCountTreesWrongFalsely : Prop := fnExactCountTreesRow.holds Try.pinned (OpenSpec.ofChange fnExactCountTreesWrong)

/- THE SECOND FORM. 'bulk': how many values and letters a reading holds, each counted each time it is reached (what is shared counts as often as it is met; a slice's spare places count too). A statement '..UptoSaid' is the law's where the arguments, and the package variables that the reading takes, are together of bulk at most 1048576: NARROWER than '..Said'. Prove '..Said' where nothing that the law and all that it calls make is longer than what came in: it says more and counts as full. Else prove '..UptoSaid'. A law counts once. -/
mutual
def uptoBulk {H : Type} : DataW H → Nat
  | .lit (.string bytes) => bytes.length + 1
  | .lit _ => 1
  | .nil => 1
  | .ptr d => uptoBulk d + 1
  | .slice elems spare => uptoBulkAll elems + uptoBulkAll spare + 1
  | .agg parts => uptoBulkAll parts + 1
  | .iface _ d => uptoBulk d + 1
  | .map entries => uptoBulkEntries entries + 1
  | .held _ => 1
def uptoBulkAll {H : Type} : List (DataW H) → Nat
  | [] => 0
  | d :: r => uptoBulk d + uptoBulkAll r
def uptoBulkEntries {H : Type} : List (Lit × DataW H) → Nat
  | [] => 0
  | x :: r => uptoBulkEntry x + uptoBulkEntries r
def uptoBulkEntry {H : Type} : Lit × DataW H → Nat
  | (.string bytes, d) => bytes.length + uptoBulk d + 1
  | (_, d) => uptoBulk d + 1
 end
def uptoSmall : (H : Type) → List (DataW H) → Bool := fun _ ds => decide (uptoBulkAll ds ≤ 1048576)
def OpenSpec.upto (s : _root_.Go.ChangeSpec) : _root_.Go.OpenSpec := { _root_.Go.OpenSpec.ofChange s with cond := some uptoSmall }

/-- 'laws.FnExactFormatSteps', WHERE WHAT IT READS IS OF BULK AT MOST 1048576: true; the input reads as it did. -/
def fnExactFormatStepsUptoRow : OpenClaim := { program := "ytnjecekaenddiaa", sum := "3045c6e2f30ad1314cc1013fea6820f44002e41f23bc6dd4dbca886aebea63fd", func := "loop.example/g02078/laws.FnExactFormatSteps", spec := "fnExactFormatSteps", apart := false, narrowed := true }
def FnExactFormatStepsUptoSaid : Prop := fnExactFormatStepsUptoRow.holds Try.pinned (OpenSpec.upto fnExactFormatStepsSpec)

/-- 'laws.FnExactFormatFramework', WHERE WHAT IT READS IS OF BULK AT MOST 1048576: true; the input reads as it did. -/
def fnExactFormatFrameworkUptoRow : OpenClaim := { program := "ytnjecekaenddiaa", sum := "3045c6e2f30ad1314cc1013fea6820f44002e41f23bc6dd4dbca886aebea63fd", func := "loop.example/g02078/laws.FnExactFormatFramework", spec := "fnExactFormatFramework", apart := false, narrowed := true }
def FnExactFormatFrameworkUptoSaid : Prop := fnExactFormatFrameworkUptoRow.holds Try.pinned (OpenSpec.upto fnExactFormatFrameworkSpec)

/-- 'laws.FnExactParseFramework', WHERE WHAT IT READS IS OF BULK AT MOST 1048576: true; the input reads as it did. -/
def fnExactParseFrameworkUptoRow : OpenClaim := { program := "ytnjecekaenddiaa", sum := "3045c6e2f30ad1314cc1013fea6820f44002e41f23bc6dd4dbca886aebea63fd", func := "loop.example/g02078/laws.FnExactParseFramework", spec := "fnExactParseFramework", apart := false, narrowed := true }
def FnExactParseFrameworkUptoSaid : Prop := fnExactParseFrameworkUptoRow.holds Try.pinned (OpenSpec.upto fnExactParseFrameworkSpec)

/-- 'laws.FnExactCountTrees', WHERE WHAT IT READS IS OF BULK AT MOST 1048576: true; the input reads as it did. -/
def fnExactCountTreesUptoRow : OpenClaim := { program := "ytnjecekaenddiaa", sum := "3045c6e2f30ad1314cc1013fea6820f44002e41f23bc6dd4dbca886aebea63fd", func := "loop.example/g02078/laws.FnExactCountTrees", spec := "fnExactCountTrees", recurses := true, apart := false, narrowed := true }
def FnExactCountTreesUptoSaid : Prop := fnExactCountTreesUptoRow.holds Try.pinned (OpenSpec.upto fnExactCountTreesSpec)

end Rows
end Go.Proofs.Ytnjecekaenddiaa
