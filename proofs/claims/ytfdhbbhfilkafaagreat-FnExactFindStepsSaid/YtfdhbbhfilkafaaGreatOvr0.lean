/- Overcounted sets: the plain law. -/
import Derived.Test.YtfdhbbhfilkafaaGreatSpb
namespace Go.Proofs.YtfdhbbhfilkafaaGreat
open Go.RowKit
set_option maxRecDepth 100000
set_option linter.unusedVariables false
set_option linter.unusedSimpArgs false
theorem mem_maskL (m : Nat) (x : Int) : ∀ p, x ∈ maskL m p ↔ (0 ≤ x ∧ x < p) ∧ bitB m x.toNat = true
  | 0 => by simp [maskL]; omega
  | v + 1 => by
    unfold maskL
    rw [List.mem_append, mem_maskL m x v]
    by_cases e : x = (v : Int)
    · subst e
      cases hb : bitB m v <;> simp [hb] <;> omega
    · have : x ∉ (if bitB m v = true then [(v : Int)] else []) := by split <;> simp [e]
      constructor
      · rintro (h | h)
        · exact ⟨⟨h.1.1, by omega⟩, h.2⟩
        · exact absurd h this
      · rintro ⟨h1, h2⟩
        exact .inl ⟨⟨h1.1, by omega⟩, h2⟩
/-- both ends of a bar lie in a mask -/
def bothB (m : Nat) (x : BarT) : Bool := bitB m x.1.toNat && bitB m x.2.toNat
/-- how many of the first bars lie in a mask -/
def spanM (l : List BarT) (m k : Nat) : Nat := ((l.take k).filter (bothB m)).length
theorem spanM_le (l : List BarT) (m k : Nat) : spanM l m k ≤ k := Nat.le_trans (List.length_filter_le _ _) (List.length_take_le _ _)
theorem spanM_zero (l : List BarT) (m : Nat) : spanM l m 0 = 0 := rfl
theorem spanM_succ {l : List BarT} {m k : Nat} {x : BarT} (h : l[k]? = some x) : spanM l m (k + 1) = spanM l m k + (if bothB m x = true then 1 else 0) := by
  unfold spanM
  rw [take_succ_of h, List.filter_append, List.length_append]
  cases hb : bothB m x <;> simp [hb]
theorem spanL_lenM {l : List BarT} {m p : Nat} (hr : ∀ x ∈ l, (0 ≤ x.1 ∧ x.1 < p) ∧ (0 ≤ x.2 ∧ x.2 < p)) : ∀ k, k ≤ l.length → (spanL l (maskL m p) k).length = spanM l m k
  | 0, _ => rfl
  | k + 1, hk => by
    have hx : l[k]? = some (l[k]'(by omega)) := List.getElem?_eq_getElem _
    have h1 := hr _ (List.mem_of_getElem? hx)
    have h2 : inS l (maskL m p) k = bothB m (l[k]'(by omega)) := by
      unfold inS bothB
      rw [hx]
      dsimp only
      congr 1
      · rw [Bool.eq_iff_iff, decide_eq_true_eq, mem_maskL]
        exact ⟨fun h => h.2, fun h => ⟨h1.1, h⟩⟩
      · rw [Bool.eq_iff_iff, decide_eq_true_eq, mem_maskL]
        exact ⟨fun h => h.2, fun h => ⟨h1.2, h⟩⟩
    rw [spanM_succ hx, ← spanL_lenM hr k (by omega)]
    cases hb : bothB m (l[k]'(by omega))
    · rw [spanL_no (h2.trans hb)]; simp
    · rw [spanL_yes (h2.trans hb), List.length_append]; simp
def sizeM (m p : Nat) : Nat := (maskL m p).length
theorem sizeM_le (m p : Nat) : sizeM m p ≤ p := maskL_len m p
theorem sizeM_succ (m v : Nat) : sizeM m (v + 1) = sizeM m v + (if bitB m v = true then 1 else 0) := by
  unfold sizeM
  conv => lhs; unfold maskL
  rw [List.length_append]
  cases hb : bitB m v <;> simp [hb]
/-- a mask whose bars are too many -/
def overAt (p : Nat) (l : List BarT) (k r : Int) (m : Nat) : Bool := decide (0 < spanM l m l.length) && decide (k * sizeM m p - r < spanM l m l.length)
theorem overAt_zero (p : Nat) (l : List BarT) (k r : Int) : overAt p l k r 0 = false := by
  have h0 : ∀ v, bitB 0 v = false := fun v => by unfold bitB; simp
  have h1 : ∀ x, bothB 0 x = false := fun x => by unfold bothB; rw [h0]; rfl
  unfold overAt spanM
  rw [List.filter_eq_nil_iff.2 fun x _ => by rw [h1]; simp]
  simp
def overB (p : Nat) (l : List BarT) (k r : Int) : Bool := (List.range (2 ^ p)).any (overAt p l k r)
theorem overB_yes {p : Nat} {l : List BarT} {k r : Int} {m : Nat} (hm : m < 2 ^ p) (h : overAt p l k r m = true) : overB p l k r = true := List.any_eq_true.2 ⟨m, List.mem_range.2 hm, h⟩
theorem overB_no {p : Nat} {l : List BarT} {k r : Int} (h : ∀ m, m < 2 ^ p → overAt p l k r m = false) : overB p l k r = false := by
  rw [Bool.eq_false_iff]
  intro hc
  obtain ⟨m, hm, h1⟩ := List.any_eq_true.1 hc
  rw [h m (List.mem_range.1 hm)] at h1
  exact Bool.noConfusion h1
/-- the answer of OvercountedSet -/
def ovcB (g : GraphT) (k r : Int) : Bool := (isGraphB g && rangeB k r) && overB g.1.toNat g.2 k r
def sparseB (g : GraphT) (k r : Int) : Bool := (isGraphB g && rangeB k r) && !overB g.1.toNat g.2 k r
def tightB (g : GraphT) (k r : Int) : Bool := sparseB g k r && ((g.2.length : Int) == max 0 (k * g.1 - r))
theorem isGraphB_ends {P : Nat} {l : List BarT} (h : isGraphB ((P : Int), l) = true) : ∀ x ∈ l, (0 ≤ x.1 ∧ x.1 < P) ∧ (0 ≤ x.2 ∧ x.2 < P) := by
  intro x hx
  obtain ⟨k, hk⟩ := List.getElem?_of_mem hx
  have := isGraphB_bar h hk
  omega
/-- two bits of a mask, as the program takes them -/
theorem and_bits (m a b : Nat) : bits .and .i64 (bits .and .i64 ((m : Int) / 2 ^ a) ((m : Int) / 2 ^ b)) 1 = (if (bitB m a && bitB m b) = true then 1 else 0) := by
  have e1 : ((m : Int) / 2 ^ a) = ((m / 2 ^ a : Nat) : Int) := by rw [Int.natCast_ediv, Int.natCast_pow]; rfl
  have e2 : ((m : Int) / 2 ^ b) = ((m / 2 ^ b : Nat) : Int) := by rw [Int.natCast_ediv, Int.natCast_pow]; rfl
  rw [and_one, e1, e2]
  have key : ∀ x y : Nat, bits .and .i64 (x : Int) (y : Int) % 2 = ((x % 2 * (y % 2) : Nat) : Int) := fun x y => by
    have k1 : (BitVec.ofInt 64 (x : Int) &&& BitVec.ofInt 64 (y : Int)).toNat % 2 = x % 2 * (y % 2) := by
      rw [BitVec.toNat_and, BitVec.ofInt_natCast, BitVec.ofInt_natCast, BitVec.toNat_ofNat, BitVec.toNat_ofNat]
      have h2 : ∀ u v : Nat, (u &&& v) % 2 = u % 2 * (v % 2) := fun u v => by
        have := Nat.and_mod_two_pow (a := u) (b := v) (n := 1)
        rw [show (2 : Nat) ^ 1 = 2 from rfl] at this
        rw [this]
        rcases Nat.mod_two_eq_zero_or_one u with h | h <;> rcases Nat.mod_two_eq_zero_or_one v with h' | h' <;> rw [h, h'] <;> rfl
      rw [h2]
      have : ∀ z : Nat, z % 2 ^ 64 % 2 = z % 2 := fun z => by omega
      rw [this, this]
    show IntKind.i64.wrap ((BitVec.ofInt 64 (x : Int) &&& BitVec.ofInt 64 (y : Int)).toNat : Nat) % 2 = _
    rw [← k1, IntKind.wrap_i64]
    omega
  rw [key]
  unfold bitB
  rcases Nat.mod_two_eq_zero_or_one (m / 2 ^ a) with h | h <;> rcases Nat.mod_two_eq_zero_or_one (m / 2 ^ b) with h' | h' <;> rw [h, h'] <;> rfl
theorem and_bit (m a : Nat) : bits .and .i64 ((m : Int) / 2 ^ a) 1 = (if bitB m a = true then 1 else 0) := by
  have h1 : ((m : Int) / 2 ^ a) = ((m / 2 ^ a : Nat) : Int) := by rw [Int.natCast_ediv, Int.natCast_pow]; rfl
  rw [h1, and_one]
  unfold bitB
  rcases Nat.mod_two_eq_zero_or_one (m / 2 ^ a) with h | h <;> rw [h] <;> simp <;> omega
end Go.Proofs.YtfdhbbhfilkafaaGreat
