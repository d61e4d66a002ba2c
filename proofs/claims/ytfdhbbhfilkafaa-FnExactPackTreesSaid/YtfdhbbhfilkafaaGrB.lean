/- Sets of bars: slices.Contains on ints, isSet of the program, l5Set of the reference. No condition but sizes. -/
import Derived.Test.YtfdhbbhfilkafaaIsg2
import Derived.Test.YtfdhbbhfilkafaaFw
import Derived.Test.YtfdhbbhfilkafaaElem
import Derived.Deep.QuietTactic
import Derived.BigQuiet
namespace Go.Proofs.Ytfdhbbhfilkafaa
open Go.RowKit
set_option maxRecDepth 100000
set_option linter.unusedVariables false
set_option linter.unusedSimpArgs false

def BoxGr (w : World) (g : Nat) (p : Int) (a : Option Addr) (n cap : Nat) : Prop := g < w.heap.size ∧ w.cell? ⟨g, 0, none⟩ = some (.int .i64 p) ∧ w.cell? ⟨g, 1, none⟩ = some (.slice a n cap)
theorem BoxGr.below {w w' : World} {g : Nat} {p : Int} {a : Option Addr} {n cap : Nat} (h : BoxGr w g p a n cap) (hb : Below w.heap.size w w') : BoxGr w' g p a n cap :=
  ⟨Nat.lt_of_lt_of_le h.1 hb.size, ((bcell hb).1 _ _ h.1).trans h.2.1, ((bcell hb).1 _ _ h.1).trans h.2.2⟩
theorem BoxGr.kept {S : Nat → Prop} {w w' : World} {g : Nat} {p : Int} {a : Option Addr} {n cap : Nat} (h : BoxGr w g p a n cap) (hk : Kept S w w') (hs : ¬ S g) : BoxGr w' g p a n cap := by
  have hb : ∀ o, w'.cell? ⟨g, o, none⟩ = w.cell? ⟨g, o, none⟩ := fun o => by simp only [World.cell?, hk.block g h.1 hs]
  exact ⟨Nat.lt_of_lt_of_le h.1 hk.size, (hb _).trans h.2.1, (hb _).trans h.2.2⟩
theorem BoxGr.at {w : World} {g : Nat} {p : Int} {a : Option Addr} {n cap ty : Nat} (hg : g = w.heap.size) : BoxGr (w.alloc (.cells #[.int .i64 p, .slice a n cap] ty)) g p a n cap := by
  subst hg
  exact ⟨by simp, by simp [World.cell?_alloc_new], by simp [World.cell?_alloc_new]⟩
theorem BoxGr.c0 {w : World} {g : Nat} {p : Int} {a : Option Addr} {n cap : Nat} (h : BoxGr w g p a n cap) : w.cell? ⟨g, 0, none⟩ = some (.int .i64 p) := h.2.1
theorem BoxGr.c1 {w : World} {g : Nat} {p : Int} {a : Option Addr} {n cap : Nat} (h : BoxGr w g p a n cap) : w.cell? ⟨g, 1, none⟩ = some (.slice a n cap) := h.2.2
theorem drewN_below {B : Nat} {a w : World} (h : Below B a w) (n : Nat) : Below B a (w.drewN n) := h.trans ⟨rfl, rfl, rfl, Nat.le_refl _, fun _ _ => rfl⟩

/-- the first place of x in s, or -1 -/
def idxI (s : List Int) (x : Int) : Int := if x ∈ s then (s.idxOf x : Int) else -1
theorem idxI_at {s : List Int} {x : Int} {k : Nat} (h : s[k]? = some x) (hn : x ∉ s.take k) : idxI s x = k := by
  have hm := List.mem_of_getElem? h
  have hk := lt_of_getElem? h
  unfold idxI
  rw [if_pos hm]
  have h1 : s.idxOf x = k := by
    have e : s = s.take k ++ s.drop k := (List.take_append_drop k s).symm
    rw [e, List.idxOf_append, if_neg hn, List.length_take, Nat.min_eq_left (by omega), List.drop_eq_getElem_cons hk, (List.getElem?_eq_some_iff.1 h).2]
    simp
  rw [h1]
theorem notMem_snoc {s : List Int} {x y : Int} {k : Nat} (h : x ∉ s.take k) (hy : s[k]? = some y) (hne : x ≠ y) : x ∉ s.take (k + 1) := by
  rw [take_succ_of hy]
  simp only [List.mem_append, List.mem_singleton]
  rintro (h1 | h1)
  · exact h h1
  · exact hne h1

set_option maxHeartbeats 1000000 in
theorem l2Has_at (W : World) (a : Option Addr) (n cap : Nat) (s : List Int) (h : IntsAt W a n s) (hn : n ≤ 1099511627776) (x : Int) :
    Calls Try.prog 99 #[.slice a n cap, .int .i64 x] W fun e w' => e = .returned (.bool (decide (x ∈ s))) ∧ W = w' := by
  have HL := Lib.hid h.1
  have HC := Lib.hid h.2
  clear h
  go_enter Try.func99, Try.ntmps99
  go_wp2_with fail
  go_loop [5] (fun i => ∃ k : Nat, k ≤ n ∧ i = .int .i64 k ∧ x ∉ s.take k) (fun i => n - (intOf i).toNat)
  case atStart => exact ⟨0, Nat.zero_le _, rfl, by simp⟩
  case round =>
    obtain ⟨k, hk, rfl, hnm⟩ := hrel
    have HN := Lib.hid hnm
    clear hnm
    by_cases hlt : k < n
    · obtain ⟨b, off, y, rfl, hbl, hx, hcell⟩ := HC.out k hlt
      have HX := Lib.hid hx
      clear hx
      by_cases hxy : y = x
      · subst hxy
        have HE := Lib.hid (ret_bool (show decide (y ∈ s) = true from decide_eq_true (List.mem_of_getElem? HX.out)))
        go_wp2_with fail
        go_ret
        exact ⟨HE.out.symm, rfl⟩
      · have hb : (y == x) = false := by rw [beq_eq_false_iff_ne]; exact hxy
        go_wp2_with fail
        go_round
        case rel => exact ⟨k + 1, by omega, by go_num, notMem_snoc HN.out HX.out (Ne.symm hxy)⟩
        case measure => simp [intOf]; omega
    · obtain rfl : k = n := by omega
      have HE := Lib.hid (ret_bool (show decide (x ∈ s) = false by
        have h1 := HN.out
        rw [List.take_of_length_le (by have := HL.out; omega)] at h1
        exact decide_eq_false h1))
      go_wp2_with fail
      go_ret
      exact ⟨HE.out.symm, rfl⟩

/-- the i-th number of a set of bars of m: in range, above the one before -/
def setAt (m : Nat) (s : List Int) (i : Nat) : Bool := inB (s[i]?.getD 0) 0 ((m : Int) - 1) && (i == 0 || decide (s[i - 1]?.getD 0 < s[i]?.getD 0))
def setB (g : GraphT) (s : List Int) : Bool := (List.range s.length).all (setAt g.2.length s) && isGraphB g
theorem setB_not {g : GraphT} {s : List Int} {i : Nat} (hi : i < s.length) (h : setAt g.2.length s i = false) : setB g s = false := by
  have : (List.range s.length).all (setAt g.2.length s) = false := List.all_eq_false.2 ⟨i, List.mem_range.2 hi, by simp [h]⟩
  simp only [setB, this, Bool.false_and]

end Go.Proofs.Ytfdhbbhfilkafaa
