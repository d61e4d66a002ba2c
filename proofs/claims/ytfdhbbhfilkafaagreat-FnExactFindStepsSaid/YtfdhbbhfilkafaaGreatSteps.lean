/- Slices of Step, the second half: marks and sizes (written by structgen.py). No condition but sizes below 2^44. -/
import Derived.Test.YtfdhbbhfilkafaaGreatStepA
namespace Go.Proofs.YtfdhbbhfilkafaaGreat
open Go.RowKit
set_option maxRecDepth 100000
set_option linter.unusedVariables false
set_option linter.unusedSimpArgs false

theorem eqSteps_h (W : World) (v v' : Value) (l : List StepT) (h : IsSteps W v l) (h' : IsSteps W v' l) (hn : l.length ≤ 1099511627776) :
    Calls Tryz.prog 48 #[v, v'] W fun e w' => e = .returned (.bool true) ∧ Below W.heap.size W w' := by
  obtain ⟨a, cap, rfl, i⟩ := h
  obtain ⟨a', cap', rfl, i'⟩ := h'
  exact (eqSteps_any _ _ _ _ _ _ _ _ _ i i' hn).mono fun _ _ ⟨he, hb⟩ => ⟨by rw [he]; simp, hb⟩
def OkSteps (l : List StepT) : Prop := l.length ≤ 9223372036854775807 ∧ ∀ x ∈ l, (-9223372036854775808 ≤ x.1 ∧ x.1 ≤ 9223372036854775807) ∧ (-9223372036854775808 ≤ x.2.1 ∧ x.2.1 ≤ 9223372036854775807) ∧ (-9223372036854775808 ≤ x.2.2.1 ∧ x.2.2.1 ≤ 9223372036854775807) ∧ (-9223372036854775808 ≤ x.2.2.2.1 ∧ x.2.2.2.1 ≤ 9223372036854775807) ∧ (-9223372036854775808 ≤ x.2.2.2.2 ∧ x.2.2.2.2 ≤ 9223372036854775807)
/-- the j-th of the marked elements -/
def markStep (k : Int) (j : Nat) : StepT := (k + 5 * (j : Int), k + 5 * (j : Int) + 1, k + 5 * (j : Int) + 2, k + 5 * (j : Int) + 3, k + 5 * (j : Int) + 4)
def cntSteps (l : List StepT) : Nat := 5 * l.length
theorem cntSteps_le (l : List StepT) : cntSteps l ≤ 5 * l.length := Nat.le_refl _
def mkdSteps (k : Int) (l : List StepT) : List StepT := (List.range l.length).map (markStep k)
theorem mkdSteps_length (k : Int) (l : List StepT) : (mkdSteps k l).length = l.length := by simp [mkdSteps]
theorem mkdSteps_get {k : Int} {l : List StepT} {j : Nat} (h : j < l.length) : (mkdSteps k l)[j]? = some (markStep k j) := by simp [mkdSteps, h]
def mkToSteps (k : Int) (l : List StepT) (j : Nat) : List StepT := (mkdSteps k l).take j ++ l.drop j
theorem mkToSteps_zero (k : Int) (l : List StepT) : mkToSteps k l 0 = l := by simp [mkToSteps]
theorem mkToSteps_all (k : Int) (l : List StepT) : mkToSteps k l l.length = mkdSteps k l := by
  simp [mkToSteps, List.take_of_length_le (Nat.le_of_eq (mkdSteps_length k l))]
theorem mkToSteps_length {k : Int} {l : List StepT} {j : Nat} (h : j ≤ l.length) : (mkToSteps k l j).length = l.length := by simp [mkToSteps, mkdSteps_length]; omega
theorem mkToSteps_succ {k : Int} {l : List StepT} {j : Nat} (hj : j < l.length) : (mkToSteps k l j).set j (markStep k j) = mkToSteps k l (j + 1) := by
  unfold mkToSteps
  rw [take_succ_of (mkdSteps_get hj), List.set_append_right _ _ (by simp [mkdSteps_length]; omega)]
  obtain ⟨x, s, h1, h2⟩ : ∃ x s, l.drop j = x :: s ∧ l.drop (j + 1) = s := ⟨_, _, List.drop_eq_getElem_cons hj, rfl⟩
  rw [h1, h2]
  simp [mkdSteps_length, Nat.min_eq_left (Nat.le_of_lt hj)]

theorem setStep_seg {W : World} {base g n cap : Nat} {l : List StepT} {j : Nat} (h : W.ownsRow base 57 5 (.slice (some ⟨g, 0, none⟩) n cap) n (l.flatMap cellsStep)) (x : StepT) (hj : j < l.length) :
    ((((((W.setCell ⟨g, j * 5, none⟩ (.int .i64 x.1)).setCell ⟨g, j * 5 + 1, none⟩ (.int .i64 x.2.1)).setCell ⟨g, j * 5 + 2, none⟩ (.int .i64 x.2.2.1)).setCell ⟨g, j * 5 + 3, none⟩ (.int .i64 x.2.2.2.1)).setCell ⟨g, j * 5 + 4, none⟩ (.int .i64 x.2.2.2.2))).ownsRow base 57 5 (.slice (some ⟨g, 0, none⟩) n cap) n ((l.set j x).flatMap cellsStep) ∧ W.grownBy ((((((W.setCell ⟨g, j * 5, none⟩ (.int .i64 x.1)).setCell ⟨g, j * 5 + 1, none⟩ (.int .i64 x.2.1)).setCell ⟨g, j * 5 + 2, none⟩ (.int .i64 x.2.2.1)).setCell ⟨g, j * 5 + 3, none⟩ (.int .i64 x.2.2.2.1)).setCell ⟨g, j * 5 + 4, none⟩ (.int .i64 x.2.2.2.2))) (some g) := by
  have s0 := World.ownsRow.stored h (j * 5) (.int .i64 x.1)
  have s1 := World.ownsRow.stored s0.1 (j * 5 + 1) (.int .i64 x.2.1)
  have s2 := World.ownsRow.stored s1.1 (j * 5 + 2) (.int .i64 x.2.2.1)
  have s3 := World.ownsRow.stored s2.1 (j * 5 + 3) (.int .i64 x.2.2.2.1)
  have s4 := World.ownsRow.stored s3.1 (j * 5 + 4) (.int .i64 x.2.2.2.2)
  have hlen := flat_length cellsStep_length l
  have hjl : j * 5 + 5 ≤ l.length * 5 := by rw [← Nat.succ_mul]; exact Nat.mul_le_mul_right _ hj
  have e0 : (l.flatMap cellsStep) = (l.flatMap cellsStep).take (j * 5) ++ [] ++ (l.flatMap cellsStep).drop (j * 5 + 0) := by simp
  have e1 := seg_set (l.flatMap cellsStep) (j * 5) [] (.int .i64 x.1) (by simp only [List.length_cons, List.length_nil, hlen]; omega)
  have e2 := seg_set (l.flatMap cellsStep) (j * 5) [.int .i64 x.1] (.int .i64 x.2.1) (by simp only [List.length_cons, List.length_nil, hlen]; omega)
  have e3 := seg_set (l.flatMap cellsStep) (j * 5) [.int .i64 x.1, .int .i64 x.2.1] (.int .i64 x.2.2.1) (by simp only [List.length_cons, List.length_nil, hlen]; omega)
  have e4 := seg_set (l.flatMap cellsStep) (j * 5) [.int .i64 x.1, .int .i64 x.2.1, .int .i64 x.2.2.1] (.int .i64 x.2.2.2.1) (by simp only [List.length_cons, List.length_nil, hlen]; omega)
  have e5 := seg_set (l.flatMap cellsStep) (j * 5) [.int .i64 x.1, .int .i64 x.2.1, .int .i64 x.2.2.1, .int .i64 x.2.2.2.1] (.int .i64 x.2.2.2.2) (by simp only [List.length_cons, List.length_nil, hlen]; omega)
  refine ⟨?_, ((((s0.2.trans s1.2).trans s2.2).trans s3.2).trans s4.2)⟩
  rw [← flat_set (c := cellsStep) (a := x) cellsStep_length hj]
  have e9 := s4.1
  rw [show (l.flatMap cellsStep).set (j * 5) (.int .i64 x.1) = (l.flatMap cellsStep).take (j * 5) ++ [.int .i64 x.1] ++ (l.flatMap cellsStep).drop (j * 5 + 1) from by have h9 := e1; simp only [List.length_nil] at h9; rwa [← e0] at h9, show ((l.flatMap cellsStep).take (j * 5) ++ [.int .i64 x.1] ++ (l.flatMap cellsStep).drop (j * 5 + 1) : List Value).set (j * 5 + 1) (.int .i64 x.2.1) = (l.flatMap cellsStep).take (j * 5) ++ [.int .i64 x.1, .int .i64 x.2.1] ++ (l.flatMap cellsStep).drop (j * 5 + 2) from e2, show ((l.flatMap cellsStep).take (j * 5) ++ [.int .i64 x.1, .int .i64 x.2.1] ++ (l.flatMap cellsStep).drop (j * 5 + 2) : List Value).set (j * 5 + 2) (.int .i64 x.2.2.1) = (l.flatMap cellsStep).take (j * 5) ++ [.int .i64 x.1, .int .i64 x.2.1, .int .i64 x.2.2.1] ++ (l.flatMap cellsStep).drop (j * 5 + 3) from e3, show ((l.flatMap cellsStep).take (j * 5) ++ [.int .i64 x.1, .int .i64 x.2.1, .int .i64 x.2.2.1] ++ (l.flatMap cellsStep).drop (j * 5 + 3) : List Value).set (j * 5 + 3) (.int .i64 x.2.2.2.1) = (l.flatMap cellsStep).take (j * 5) ++ [.int .i64 x.1, .int .i64 x.2.1, .int .i64 x.2.2.1, .int .i64 x.2.2.2.1] ++ (l.flatMap cellsStep).drop (j * 5 + 4) from e4, show ((l.flatMap cellsStep).take (j * 5) ++ [.int .i64 x.1, .int .i64 x.2.1, .int .i64 x.2.2.1, .int .i64 x.2.2.2.1] ++ (l.flatMap cellsStep).drop (j * 5 + 4) : List Value).set (j * 5 + 4) (.int .i64 x.2.2.2.2) = (l.flatMap cellsStep).take (j * 5) ++ [.int .i64 x.1, .int .i64 x.2.1, .int .i64 x.2.2.1, .int .i64 x.2.2.2.1, .int .i64 x.2.2.2.2] ++ (l.flatMap cellsStep).drop (j * 5 + 5) from e5] at e9
  exact e9

set_option maxHeartbeats 8000000 in
theorem markSteps_any (base : Nat) (v : Value) (l : List StepT) (k : Int) (W : World) (h : OwnSteps W base v l) (hn : l.length ≤ 1099511627776) (hk0 : 0 ≤ k) (hk : k ≤ 1099511627776) :
    Calls Tryz.prog 51 #[v, .int .i64 k] W fun e w' => e = .returned (.int .i64 (k + cntSteps l)) ∧ OwnSteps w' base v (mkdSteps k l) ∧ W.grownBy w' v.ownBlock := by
  rcases h.2 with ⟨rfl, h0⟩ | ⟨g, cap, cur, rfl, hb, hg, hnc, hcm, hcs, htake⟩
  · have h1 : l = [] := List.eq_nil_of_length_eq_zero h0
    subst h1
    go_enter Tryz.func51, Tryz.ntmps51
    go_wp2
    go_loopw [1, 5] (fun c i wr => c = .int .i64 k ∧ i = .int .i64 0 ∧ wr = W) (fun c i _ => 0)
    case atStart => exact ⟨rfl, rfl, rfl⟩
    case round =>
      obtain ⟨rfl, rfl, rfl⟩ := hrel
      go_wp2
      go_ret
      exact ⟨by simp [cntSteps], h, World.grownBy.refl _ _⟩
  · have H := Lib.hid h
    clear hg hcs htake h
    generalize hL : l.length = n at *
    have HL := Lib.hid hL
    clear hL
    go_enter Tryz.func51, Tryz.ntmps51
    go_wp2
    go_loopw [1, 5] (fun c i wr => ∃ j : Nat, j ≤ n ∧ i = .int .i64 j ∧ c = .int .i64 (k + 5 * (j : Int)) ∧ wr.ownsRow base 57 5 (.slice (some ⟨g, 0, none⟩) n cap) n ((mkToSteps k l j).flatMap cellsStep) ∧ W.grownBy wr (some g)) (fun c i _ => n - (intOf i).toNat)
    case atStart =>
      have h2 := H.out
      unfold OwnSteps at h2
      rw [HL.out] at h2
      exact ⟨0, Nat.zero_le _, rfl, by simp, by rw [mkToSteps_zero]; exact h2, World.grownBy.refl _ _⟩
    case round =>
      obtain ⟨j, hj, rfl, rfl, ho, hgr⟩ := hrel
      by_cases hlt : j < n
      · have hln : (mkToSteps k l j).length = n := by rw [mkToSteps_length (by have := HL.out; omega), HL.out]
        obtain ⟨x, hx⟩ : ∃ x, (mkToSteps k l j)[j]? = some x := ⟨_, List.getElem?_eq_getElem (by omega)⟩
        have u0 := ownSteps_cell ho hx hlt 0 (by omega)
        have f0 := World.ownsRow.frozenAt ho (j * 5)
        simp only [cellsStep, List.getElem?_cons_zero, List.getElem?_cons_succ, Nat.add_zero] at u0
        have u1 := ownSteps_cell ho hx hlt 1 (by omega)
        have f1 := World.ownsRow.frozenAt ho (j * 5 + 1)
        simp only [cellsStep, List.getElem?_cons_zero, List.getElem?_cons_succ, Nat.add_zero] at u1
        have u2 := ownSteps_cell ho hx hlt 2 (by omega)
        have f2 := World.ownsRow.frozenAt ho (j * 5 + 2)
        simp only [cellsStep, List.getElem?_cons_zero, List.getElem?_cons_succ, Nat.add_zero] at u2
        have u3 := ownSteps_cell ho hx hlt 3 (by omega)
        have f3 := World.ownsRow.frozenAt ho (j * 5 + 3)
        simp only [cellsStep, List.getElem?_cons_zero, List.getElem?_cons_succ, Nat.add_zero] at u3
        have u4 := ownSteps_cell ho hx hlt 4 (by omega)
        have f4 := World.ownsRow.frozenAt ho (j * 5 + 4)
        simp only [cellsStep, List.getElem?_cons_zero, List.getElem?_cons_succ, Nat.add_zero] at u4
        have HO := Lib.hid ho
        have HLN := Lib.hid hln
        clear ho hx hln
        go_wp2
        go_roundw
        case rel =>
          have h3 := setStep_seg (j := j) HO.out (markStep k j) (by have := HLN.out; omega)
          rw [mkToSteps_succ (k := k) (l := l) (j := j) (by have := HL.out; omega)] at h3
          simp only [markStep] at h3
          rw [show k + 5 * (j : Int) + 2 = k + 5 * (j : Int) + 1 + 1 by omega, show k + 5 * (j : Int) + 3 = k + 5 * (j : Int) + 1 + 1 + 1 by omega, show k + 5 * (j : Int) + 4 = k + 5 * (j : Int) + 1 + 1 + 1 + 1 by omega] at h3
          exact ⟨j + 1, by omega, by go_num, by go_num, h3.1, hgr.trans h3.2⟩
        case measure => simp [intOf]; omega
      · obtain rfl : j = n := by omega
        go_wp2
        go_ret
        refine ⟨ret_int (by unfold cntSteps; rw [HL.out]; omega), ?_, hgr⟩
        have h3 := ho
        rw [← HL.out, mkToSteps_all, HL.out] at h3
        unfold OwnSteps
        rw [mkdSteps_length, HL.out]
        exact h3
theorem markSteps_h (W : World) (lo hi : Nat) (v : Value) (l : List StepT) (k : Int) (h : HSteps W lo hi v l) (hn : l.length ≤ 1099511627776) (hk0 : 0 ≤ k) (hk : k ≤ 1099511627776) :
    Calls Tryz.prog 51 #[v, .int .i64 k] W fun e w' => e = .returned (.int .i64 (k + cntSteps l)) ∧ HSteps w' lo hi v (mkdSteps k l) ∧ Kept (Blk lo hi) W w' :=
  (markSteps_any lo v l k W h.1 hn hk0 hk).mono fun _ _ ⟨he, ho, hg⟩ => ⟨he, ⟨ho, h.2⟩, (Kept.of_grown hg).mono fun j _ hj => ⟨(h.1.lt j hj.symm).1, h.2 j hj.symm⟩⟩

set_option maxHeartbeats 8000000 in
theorem heldSteps_any (a : Option Addr) (n cap : Nat) (l : List StepT) (k : Int) (W : World) (h : StepsAt W a n (mkdSteps k l)) (hl : l.length = n) (hn : n ≤ 1099511627776) (hk0 : 0 ≤ k) (hk : k ≤ 1099511627776) :
    Calls Tryz.prog 52 #[.slice a n cap, .int .i64 k] W fun e w' => e = .returned (.int .i64 (k + cntSteps l)) ∧ W = w' := by
  have HL := Lib.hid hl
  have HC := Lib.hid h.2
  clear h hl
  go_enter Tryz.func52, Tryz.ntmps52
  go_wp2
  go_loop [1, 5] (fun c i => ∃ j : Nat, j ≤ n ∧ i = .int .i64 j ∧ c = .int .i64 (k + 5 * (j : Int))) (fun c i => n - (intOf i).toNat)
  case atStart => exact ⟨0, Nat.zero_le _, rfl, by simp⟩
  case round =>
    obtain ⟨j, hj, rfl, rfl⟩ := hrel
    by_cases hlt : j < n
    · obtain ⟨b, off, x, rfl, hbl, hx, hc0, hc1, hc2, hc3, hc4⟩ := HC.out j hlt
      rw [mkdSteps_get (by have := HL.out; omega)] at hx
      obtain rfl := Option.some.inj hx
      clear hx
      simp only [markStep] at hc0 hc1 hc2 hc3 hc4
      go_wp2
      go_round
      case rel => exact ⟨j + 1, by omega, by go_num, by go_num⟩
      case measure => simp [intOf]; omega
    · obtain rfl : j = n := by omega
      go_wp2
      go_ret
      exact ⟨ret_int (by unfold cntSteps; rw [HL.out]; omega), rfl⟩
theorem heldSteps_h (W : World) (v : Value) (l : List StepT) (k : Int) (h : IsSteps W v (mkdSteps k l)) (hn : l.length ≤ 1099511627776) (hk0 : 0 ≤ k) (hk : k ≤ 1099511627776) :
    Calls Tryz.prog 52 #[v, .int .i64 k] W fun e w' => e = .returned (.int .i64 (k + cntSteps l)) ∧ Below W.heap.size W w' := by
  obtain ⟨a, cap, rfl, i⟩ := h
  rw [mkdSteps_length] at i ⊢
  exact (heldSteps_any _ _ _ _ _ _ i rfl hn hk0 hk).mono fun _ _ ⟨he, hw⟩ => ⟨he, by rw [← hw]; exact Below.refl _ _⟩

end Go.Proofs.YtfdhbbhfilkafaaGreat
