/- Reading an argument of type int. -/
import Derived.Test.YtmfeabfbhaiaeaaBase
import Derived.ProofKit
import Derived.OpenShut
namespace Go.Proofs.Ytmfeabfbhaiaeaa
open Go.ChangeShapes Go.WideShapes Go.ChangeAt Go.RowKit
set_option maxRecDepth 100000

def IsInt (_W : World) (v : Value) (x : Int) : Prop := v = .int .i64 x
def OkInt (x : Int) : Prop := -9223372036854775808 ≤ x ∧ x ≤ 9223372036854775807

theorem int_wf {x : Int} (h : (Lit.int .i64 x).wf = true) : -9223372036854775808 ≤ x ∧ x ≤ 9223372036854775807 := by
  exact bounds_i64 h

theorem rd_int {H : Type} {enc : TypeId × Value → H} {W : World} {b0 base : Nat} {spare : Nat → Bool} {held : Bool} {r : Reach} {v : Value} {d : DataW H} {p : List MemPlace}
    (hv : Value.okWide Try.prog W r b0 3 v) (h : DataW.Trod enc Try.prog W base spare held 3 v d p) : ∃ x, IsInt W v x ∧ OkInt x := by
  obtain ⟨a, rfl, rfl, rfl, wa⟩ := open_int Try.underlying3 hv h
  exact ⟨a, rfl, int_wf wa⟩
end Go.Proofs.Ytmfeabfbhaiaeaa
