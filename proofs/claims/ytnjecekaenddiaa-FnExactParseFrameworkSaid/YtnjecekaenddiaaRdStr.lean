/- Reading an argument of type string. -/
import Derived.Test.YtnjecekaenddiaaByt
import Derived.Test.YtnjecekaenddiaaRdInt
import Derived.ProofKit
import Derived.OpenShut
import Derived.ChangeMaps5
namespace Go.Proofs.Ytnjecekaenddiaa
open Go.ChangeShapes Go.WideShapes Go.ChangeAt Go.RowKit
set_option maxRecDepth 100000

def IsStr (_W : World) (v : Value) (x : List UInt8) : Prop := v = .string (bs x)
def OkStr (x : List UInt8) : Prop := x.length ≤ 9223372036854775807
theorem rd_str {H : Type} {enc : TypeId × Value → H} {W : World} {b0 base : Nat} {spare : Nat → Bool} {held : Bool} {r : Reach} {v : Value} {d : DataW H} {p : List MemPlace}
    (hv : Value.okWide Try.prog W r b0 9 v) (h : DataW.Trod enc Try.prog W base spare held 9 v d p) : ∃ x, IsStr W v x ∧ OkStr x := by
  obtain ⟨a, rfl, rfl, rfl, wa⟩ := Go.ChangeMaps.open_string Try.underlying9 hv h
  refine ⟨a.data.toList, congrArg _ (bs_of rfl), ?_⟩
  have e : maxLen = 9223372036854775807 := rfl
  unfold OkStr
  rw [← bs_size, ← bs_of (s := a) rfl]
  omega
end Go.Proofs.Ytnjecekaenddiaa
