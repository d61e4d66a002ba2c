/- The reference's elimination: what 'l9Reduced' hands back. Conditions: a matrix of at most 64 rows and columns; small numbers. -/
import Derived.Test.YtjlhmaplfbdpmaaRedS
namespace Go.Proofs.Ytjlhmaplfbdpmaa
open Go.RowKit Gr
set_option maxRecDepth 100000
set_option linter.unusedVariables false
set_option linter.unusedSimpArgs false

def RetRedS (W : World) (m n : Nat) (s : SS) (e : Ending) (w' : World) : Prop :=
  ∃ va vp, e = .returned (.tuple #[va, vp]) ∧ OwnIntss w' W.heap.size va (toLL s.S m n) ∧ OwnInts w' W.heap.size vp (s.P.map Int.ofNat) ∧ Below W.heap.size W w'
theorem redS_len {m n : Nat} (F : Nat → Nat → Int) {c : Nat} (hc : c ≤ n) : (redS m n F c).P.length ≤ m := by
  rw [(red_sim (m := m) F hc).1]; exact redF_len F c
theorem toLL_take_prim {F : Nat → Nat → Int} {m n k : Nat} (hk : k < m) (hF : ∀ i, i < m → ∀ k, k < n → -9000000000000000000 ≤ F i k ∧ F i k ≤ 9000000000000000000) :
    toLL (fun i => primF n (F i)) (k + 1) n = toLL (fun i => primF n (F i)) k n ++ [prim (rowL n (F k))] := by
  rw [prim_rowL (hF k hk)]
  simp [toLL, List.range_succ]

theorem swapF_comm (F : Nat → Nat → Int) (r p : Nat) : swapF F r p = swapF F p r := by
  funext i
  unfold swapF
  by_cases e1 : i = r <;> by_cases e2 : i = p
  · rw [if_pos e1, if_pos e2, ← e1, e2]
  · rw [if_pos e1, if_neg e2, if_pos e1]
  · rw [if_neg e1, if_pos e2, if_pos e2]
  · rw [if_neg e1, if_neg e2, if_neg e2, if_neg e1]
theorem MatO.outKept {W : World} {base g n cap : Nat} {vs : List Value} {ll : List (List Int)} (h : MatO W base g n cap vs ll) {base' : Nat} {v : Value} {l : List Int} (ho : OwnInts W base' v l) {W' : World} (hk : Kept (fun b => some b = Value.ownBlock (.slice (some ⟨g, 0, none⟩) n cap)) W W') : OwnInts W' base' v l := ho.outer h.out hk

end Go.Proofs.Ytjlhmaplfbdpmaa
