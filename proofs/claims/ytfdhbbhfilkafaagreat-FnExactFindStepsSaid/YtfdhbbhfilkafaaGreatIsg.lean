/- IsGraph of the program and of the reference. -/
import Derived.Test.YtfdhbbhfilkafaaGreatFw
namespace Go.Proofs.YtfdhbbhfilkafaaGreat
open Go.RowKit
set_option maxRecDepth 100000
set_option linter.unusedVariables false
set_option linter.unusedSimpArgs false

def barLe (x y : BarT) : Bool := decide (x.1 < y.1) || (x.1 == y.1 && decide (x.2 ≤ y.2))
def barAt (p : Int) (l : List BarT) (i : Nat) : Bool := match l[i]? with
  | none => true
  | some x => decide (0 ≤ x.1) && (decide (x.1 < x.2) && (decide (x.2 < p) && (i == 0 || match l[i - 1]? with
    | none => true
    | some y => barLe y x)))
def barsOk (p : Int) (l : List BarT) : Bool := (List.range l.length).all (barAt p l)
def isGraphB (g : GraphT) : Bool := inB g.1 1 8 && (decide (g.2.length ≤ 24) && barsOk g.1 g.2)

theorem range_all_succ {p : Nat → Bool} {k : Nat} (h : (List.range k).all p = true) (hk : p k = true) : (List.range (k + 1)).all p = true := by
  rw [List.range_succ, List.all_append, h]; simp [hk]
theorem isGraph_not {p : Int} {l : List BarT} {k : Nat} (hk : k < l.length) (h : barAt p l k = false) : isGraphB (p, l) = false := by
  have : barsOk p l = false := List.all_eq_false.2 ⟨k, List.mem_range.2 hk, by simp [h]⟩
  simp [isGraphB, this]

theorem below2b {w : World} {o1 o2 : Obj} : Below w.heap.size w ((w.alloc o1).alloc o2) := ((Below.refl _ w).alloc (Nat.le_refl _) o1).alloc (by simp) o2
set_option maxHeartbeats 1000000 in
theorem l2After_any (x1 x2 y1 y2 : Int) (w : World) :
    Calls Tryz.prog 117 #[.agg #[.int .i64 x1, .int .i64 x2], .agg #[.int .i64 y1, .int .i64 y2]] w fun e w' => e = .returned (.bool (barLe (x1, x2) (y1, y2))) ∧ Below w.heap.size w w' := by
  by_cases h1 : x1 < y1
  · have HF := Lib.hid (ret_bool (show barLe (x1, x2) (y1, y2) = true by simp [barLe, h1]))
    go_enter Tryz.func117, Tryz.ntmps117
    go_wp2
    go_ret
    exact ⟨HF.out.symm, below2b⟩
  · by_cases h2 : x1 = y1
    · subst h2
      by_cases h3 : x2 ≤ y2
      · have HF := Lib.hid (ret_bool (show barLe (x1, x2) (x1, y2) = true by simp [barLe, h3]))
        go_enter Tryz.func117, Tryz.ntmps117
        go_wp2
        go_ret
        exact ⟨HF.out.symm, below2b⟩
      · have HF := Lib.hid (ret_bool (show barLe (x1, x2) (x1, y2) = false by simp [barLe, h3]))
        go_enter Tryz.func117, Tryz.ntmps117
        go_wp2
        go_ret
        exact ⟨HF.out.symm, below2b⟩
    · have HF := Lib.hid (ret_bool (show barLe (x1, x2) (y1, y2) = false by simp [barLe, h1, h2]))
      have hne : (x1 == y1) = false := by simpa using h2
      go_enter Tryz.func117, Tryz.ntmps117
      go_wp2
      go_ret
      exact ⟨HF.out.symm, below2b⟩

def cmpI (a b : Int) : Int := if a < b then -1 else if b < a then 1 else 0
def cmpB (x y : BarT) : Int := if cmpI x.1 y.1 = 0 then cmpI x.2 y.2 else cmpI x.1 y.1
theorem cmpB_le (x y : BarT) : (cmpB x y > 0 ↔ barLe x y = false) := by
  unfold cmpB cmpI barLe
  simp only [Bool.or_eq_false_iff, Bool.and_eq_false_iff, decide_eq_false_iff_not, beq_eq_false_iff_ne]
  split <;> split <;> (try split) <;> (try split) <;> omega

set_option maxHeartbeats 1000000 in
theorem compareInts_any (a b : Int) (w : World) : Calls Tryz.prog 158 #[.int .i64 a, .int .i64 b] w fun e w' => e = .returned (.int .i64 (cmpI a b)) ∧ w = w' := by
  by_cases h1 : a < b
  · have HF := Lib.hid (ret_int (k := .i64) (show cmpI a b = -1 by simp [cmpI, h1]))
    go_enter Tryz.func158, Tryz.ntmps158
    go_wp2
    go_ret
    exact ⟨HF.out.symm, rfl⟩
  · by_cases h2 : b < a
    · have HF := Lib.hid (ret_int (k := .i64) (show cmpI a b = 1 by simp [cmpI, h1, h2]))
      go_enter Tryz.func158, Tryz.ntmps158
      go_wp2
      go_ret
      exact ⟨HF.out.symm, rfl⟩
    · have HF := Lib.hid (ret_int (k := .i64) (show cmpI a b = 0 by simp [cmpI, h1, h2]))
      go_enter Tryz.func158, Tryz.ntmps158
      go_wp2
      go_ret
      exact ⟨HF.out.symm, rfl⟩
set_option maxHeartbeats 1000000 in
theorem compareBars_any (x1 x2 y1 y2 : Int) (w : World) :
    Calls Tryz.prog 123 #[.agg #[.int .i64 x1, .int .i64 x2], .agg #[.int .i64 y1, .int .i64 y2]] w fun e w' => e = .returned (.int .i64 (cmpB (x1, x2) (y1, y2))) ∧ Below w.heap.size w w' := by
  by_cases h1 : cmpI x1 y1 = 0
  · have HF := Lib.hid (ret_int (k := .i64) (show cmpB (x1, x2) (y1, y2) = cmpI x2 y2 by simp [cmpB, h1]))
    have H1 := Lib.hid h1
    clear h1
    go_enter Tryz.func123, Tryz.ntmps123
    go_wp2_with fail
    refine (compareInts_any _ _ _).mono ?_
    rintro e w1 ⟨rfl, rfl⟩
    rw [H1.out]
    go_wp2_with fail
    refine (compareInts_any _ _ _).mono ?_
    rintro e w1 ⟨rfl, rfl⟩
    go_wp2_with fail
    go_ret
    exact ⟨HF.out.symm, below2b⟩
  · have HF := Lib.hid (ret_int (k := .i64) (show cmpB (x1, x2) (y1, y2) = cmpI x1 y1 by simp [cmpB, h1]))
    have h1' : (cmpI x1 y1 != 0) = true := by simpa using h1
    clear h1
    go_enter Tryz.func123, Tryz.ntmps123
    go_wp2_with fail
    refine (compareInts_any _ _ _).mono ?_
    rintro e w1 ⟨rfl, rfl⟩
    go_wp2_with fail
    go_ret
    exact ⟨HF.out.symm, below2b⟩

end Go.Proofs.YtfdhbbhfilkafaaGreat
