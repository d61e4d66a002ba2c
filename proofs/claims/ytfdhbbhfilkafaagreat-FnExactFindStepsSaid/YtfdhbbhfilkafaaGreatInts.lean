/- The law's helpers on slices of ints: toIntS, eqIntS, markIntS, heldIntS, szIntS. No condition but sizes below 2^44. -/
import Derived.Test.YtfdhbbhfilkafaaGreatOwn
namespace Go.Proofs.YtfdhbbhfilkafaaGreat
open Go.RowKit
set_option maxRecDepth 100000
set_option linter.unusedVariables false
set_option linter.unusedSimpArgs false

theorem take_rep_set {l : List Int} {n k : Nat} {x : Int} (hl : l.length = n) (hx : l[k]? = some x) :
    ((l.take k).map (Value.int .i64) ++ List.replicate (n - k) (Value.int .i64 0)).set k (Value.int .i64 x) = (l.take (k + 1)).map (Value.int .i64) ++ List.replicate (n - (k + 1)) (Value.int .i64 0) := by
  have hk := lt_of_getElem? hx
  rw [take_succ_of hx, List.set_append_right _ _ (by simp; omega)]
  obtain ⟨m, hm⟩ : ∃ m, n - k = m + 1 := ⟨n - k - 1, by omega⟩
  have h1 : k - min k l.length = 0 := by omega
  have h2 : n - (k + 1) = m := by omega
  simp [hm, h1, h2, List.replicate_succ]

/-- n numbers from k on -/
def marks (n : Nat) (k : Int) : List Int := (List.range n).map fun j : Nat => k + (j : Int)
theorem marks_length (n : Nat) (k : Int) : (marks n k).length = n := by simp [marks]
theorem marks_get {n j : Nat} {k : Int} (h : j < n) : (marks n k)[j]? = some (k + j) := by simp [marks, h]

theorem ownInts_set {W : World} {base g n cap k : Nat} {l : List Int} {x : Int} (h : W.ownsRow base 3 1 (.slice (some ⟨g, 0, none⟩) n cap) n (l.map (Value.int .i64))) :
    (W.setCell ⟨g, k, none⟩ (.int .i64 x)).ownsRow base 3 1 (.slice (some ⟨g, 0, none⟩) n cap) n ((l.set k x).map (Value.int .i64)) := by
  have h2 := (World.ownsRow.stored h k (.int .i64 x)).1
  rwa [List.map_set]

/-- the first j replaced by k, k + 1, .. -/
def markTo (l : List Int) (k : Int) (j : Nat) : List Int := marks j k ++ l.drop j
theorem markTo_length {l : List Int} {k : Int} {j : Nat} (h : j ≤ l.length) : (markTo l k j).length = l.length := by simp [markTo, marks]; omega
theorem markTo_succ {l : List Int} {k : Int} {j : Nat} (h : j < l.length) : (markTo l k j).set j (k + j) = markTo l k (j + 1) := by
  unfold markTo
  obtain ⟨x, r, h1, h2⟩ : ∃ x r, l.drop j = x :: r ∧ l.drop (j + 1) = r := ⟨_, _, List.drop_eq_getElem_cons h, rfl⟩
  rw [List.set_append_right _ _ (by simp [marks]), h1, h2]
  simp [marks, List.range_succ]
theorem markTo_all {l : List Int} {k : Int} : markTo l k l.length = marks l.length k := by simp [markTo]

def mkdInts (k : Int) (l : List Int) : List Int := marks l.length k
def cntInts (l : List Int) : Nat := l.length
theorem cntInts_le (l : List Int) : cntInts l ≤ l.length := Nat.le_refl _

def OkInts (l : List Int) : Prop := l.length ≤ 9223372036854775807 ∧ ∀ x ∈ l, -9223372036854775808 ≤ x ∧ x ≤ 9223372036854775807
end Go.Proofs.YtfdhbbhfilkafaaGreat
