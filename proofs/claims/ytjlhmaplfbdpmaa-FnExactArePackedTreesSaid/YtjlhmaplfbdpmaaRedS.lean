/- The reference's elimination: one row freed of a column by another one. Conditions: small numbers. -/
import Derived.Test.YtjlhmaplfbdpmaaRed2
import Derived.Test.YtjlhmaplfbdpmaaPrim
import Derived.Test.YtjlhmaplfbdpmaaApp2
import Derived.Deep.RegionHeld3
namespace Go.Proofs.Ytjlhmaplfbdpmaa
open Go.RowKit Gr
set_option maxRecDepth 100000
set_option linter.unusedVariables false
set_option linter.unusedSimpArgs false

theorem smallB_of {x : Int} (h : -9000000000000000000 ≤ x ∧ x ≤ 9000000000000000000) : smallB x = true := by simp [smallB, inB]; exact h
theorem gcdZ_of {x y : Int} (hx : -9000000000000000000 ≤ x ∧ x ≤ 9000000000000000000) (hy : -9000000000000000000 ≤ y ∧ y ≤ 9000000000000000000) : gcdZ x y = (Nat.gcd x.natAbs y.natAbs : Int) := by
  unfold gcdZ; rw [smallB_of hx, smallB_of hy]; rfl
theorem gcdTo_rowL {n : Nat} {f : Nat → Int} (h : ∀ k, k < n → -9000000000000000000 ≤ f k ∧ f k ≤ 9000000000000000000) {k : Nat} (hk : k ≤ n) : gcdTo (rowL n f) k = (pgF f k : Int) := by
  induction k with
  | zero => rfl
  | succ k ih =>
    have e := ih (by omega)
    have hb := gcdTo_bd (rowL n f) k
    rw [e] at hb
    simp only [gcdTo, pgF]
    rw [e, rowL_get (by omega)]
    show gcdZ (pgF f k : Int) (f k) = _
    rw [gcdZ_of (by omega) (h k (by omega))]; rfl
theorem firstTo_rowL {n : Nat} {f : Nat → Int} {k : Nat} (hk : k ≤ n) : firstTo (rowL n f) k = fsF f k := by
  induction k with
  | zero => rfl
  | succ k ih =>
    simp only [firstTo, fsF]
    rw [ih (by omega), rowL_get (by omega)]; rfl
theorem prim_rowL {n : Nat} {f : Nat → Int} (h : ∀ k, k < n → -9000000000000000000 ≤ f k ∧ f k ≤ 9000000000000000000) : prim (rowL n f) = rowL n (primF n f) := by
  have hall : (rowL n f).all smallB = true := by
    simp only [rowL, List.all_map, List.all_eq_true]
    intro k hk
    exact smallB_of (h k (List.mem_range.1 hk))
  have hg := gcdTo_rowL h (Nat.le_refl n)
  unfold prim primDen
  rw [if_pos hall, rowL_length, hg, firstTo_rowL (Nat.le_refl n)]
  by_cases h0 : pgF f n = 0
  · rw [if_pos (by omega)]
    exact rowL_congr fun k hk => by unfold primF; rw [if_pos h0]
  · rw [if_neg (by omega)]
    simp only [rowL, List.map_map]
    refine List.map_congr_left fun k hk => ?_
    show quot (denF n f) (f k) = primF n f k
    unfold primF quot
    rw [if_neg h0]
    refine IntWalk.wrap64_in _ ?_
    have h1 : ((f k).tdiv (denF n f)).natAbs ≤ (f k).natAbs := by rw [Int.natAbs_tdiv]; exact Nat.div_le_self _ _
    have h2 := h k (List.mem_range.1 hk)
    generalize (f k).tdiv (denF n f) = z at *
    omega
theorem primF_bd {n : Nat} {f : Nat → Int} {b : Nat} (h : ∀ k, k < n → (f k).natAbs ≤ b) {k : Nat} (hk : k < n) : (primF n f k).natAbs ≤ b := by
  unfold primF
  split
  · exact h k hk
  · rw [Int.natAbs_tdiv]; exact Nat.le_trans (Nat.div_le_self _ _) (h k hk)

end Go.Proofs.Ytjlhmaplfbdpmaa
