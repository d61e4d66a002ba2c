/- The box of a step is kept by what is written elsewhere; a graph in its box. No condition. -/
import Derived.Test.YtfdhbbhfilkafaaGreatStp6
import Derived.Test.YtfdhbbhfilkafaaGreatBxg
namespace Go.Proofs.YtfdhbbhfilkafaaGreat
open Go.RowKit
set_option linter.unusedVariables false
theorem BoxSt.kept {S : Nat → Prop} {w w' : World} {g : Nat} {kd pt a b c : Int} (h : BoxSt w g kd pt a b c) (hk : Kept S w w') (hs : ¬ S g) : BoxSt w' g kd pt a b c :=
  ⟨Nat.lt_of_lt_of_le h.1 hk.size, (hk.cell h.1 hs).trans h.2.1, (hk.cell h.1 hs).trans h.2.2.1, (hk.cell h.1 hs).trans h.2.2.2.1, (hk.cell h.1 hs).trans h.2.2.2.2.1, (hk.cell h.1 hs).trans h.2.2.2.2.2⟩
end Go.Proofs.YtfdhbbhfilkafaaGreat
