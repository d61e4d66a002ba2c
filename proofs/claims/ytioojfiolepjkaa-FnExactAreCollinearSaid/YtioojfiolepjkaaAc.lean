/- Contracts of the functions that FnExactAreCollinear reaches. No condition. -/
import Derived.Test.YtioojfiolepjkaaBase
namespace Go.Proofs.Ytioojfiolepjkaa
open Go.RowKit
set_option linter.unusedVariables false
set_option linter.unusedSimpArgs false

def onB (x y : Int) : Bool := inB x 0 4 && inB y 0 4
theorem onB_bd {x y : Int} (h : onB x y = true) : 0 ≤ x ∧ x ≤ 4 ∧ 0 ≤ y ∧ y ≤ 4 := by
  simp [onB, inB] at h; omega

set_option maxHeartbeats 400000 in
theorem isPlace_any (x y : Int) (w : World) :
    Calls Try.prog 33 #[.agg #[.int .i64 x, .int .i64 y]] w fun e w' => e = .returned (.bool (onB x y)) ∧ Below w.heap.size w w' := by
  cases h1 : inB x 0 4 <;> cases h2 : inB y 0 4
  all_goals
    go_enter Try.func33, Try.ntmps33
    go_wp2_with (first | (go_at_call 41; refine (within_any _ _ _ _).mono ?_; rintro e w' ⟨rfl, rfl⟩))
    go_ret
    exact ⟨by simp [onB, h1, h2], (Below.refl _ _).alloc (Nat.le_refl _) _⟩

set_option maxHeartbeats 400000 in
theorem l10On_any (x y : Int) (w : World) :
    Calls Try.prog 32 #[.agg #[.int .i64 x, .int .i64 y]] w fun e w' => e = .returned (.bool (onB x y)) ∧ Below w.heap.size w w' := by
  cases h1 : inB x 0 4 <;> cases h2 : inB y 0 4
  all_goals
    go_enter Try.func32, Try.ntmps32
    go_wp2_with (first | (go_at_call 34; refine (l1In_any _ _ _ _).mono ?_; rintro e w' ⟨rfl, rfl⟩))
    go_ret
    exact ⟨by simp [onB, h1, h2], (Below.refl _ _).alloc (Nat.le_refl _) _⟩

set_option maxHeartbeats 400000 in
theorem toPlace_any (x y : Int) (w : World) :
    Calls Try.prog 10 #[.agg #[.int .i64 x, .int .i64 y]] w fun e w' => e = .returned (.agg #[.int .i64 x, .int .i64 y]) ∧ Below w.heap.size w w' := by
  go_enter Try.func10, Try.ntmps10
  go_wp2
  refine bodyPost_ret (v := .agg #[.int .i64 x, .int .i64 y]) (by simp [results, Try.results10, go_sem]) rfl ⟨rfl, ?_⟩
  repeat (first | exact Below.refl _ _ | refine Below.setCell ?_ (by simp) _ | refine Below.alloc ?_ (by simp <;> omega) _)



def colB (ax ay bx cy cx dy : Int) : Bool := wrap64 ((bx - ax) * (cy - ay)) == wrap64 ((cx - ax) * (dy - ay))
def col (ax ay bx dy cx cy : Int) : Bool := onB ax ay && onB bx dy && onB cx cy && colB ax ay bx cy cx dy


theorem below3 {w w1 : World} {o1 o2 o3 : Obj} (h : Below (((w.alloc o1).alloc o2).alloc o3).heap.size (((w.alloc o1).alloc o2).alloc o3) w1) : Below w.heap.size w w1 :=
  ((((Below.refl _ w).alloc (Nat.le_refl _) o1).alloc (by simp) o2).alloc (by simp; omega) o3).trans (h.mono (by simp; omega))

set_option maxHeartbeats 1000000 in
theorem implCol_any (ax ay bx dy cx cy : Int) (w : World) :
    Calls Try.prog 11 #[.agg #[.int .i64 ax, .int .i64 ay], .agg #[.int .i64 bx, .int .i64 dy], .agg #[.int .i64 cx, .int .i64 cy]] w fun e w' => e = .returned (.bool (col ax ay bx dy cx cy)) ∧ Below w.heap.size w w' := by
  cases h1 : onB ax ay
  · go_enter Try.func11, Try.ntmps11
    go_wp2_with fail
    refine (isPlace_any _ _ _).mono ?_
    rintro e w1 ⟨rfl, hb1⟩
    have hb := hb1
    clear hb1
    obtain ⟨hc, hf⟩ := bcell hb
    go_wp2_with fail
    go_ret
    exact ⟨by simp [col, h1], below3 hb⟩
  cases h2 : onB bx dy
  · go_enter Try.func11, Try.ntmps11
    go_wp2_with fail
    refine (isPlace_any _ _ _).mono ?_
    rintro e w1 ⟨rfl, hb1⟩
    have hb := hb1
    clear hb1
    obtain ⟨hc, hf⟩ := bcell hb
    go_wp2_with fail
    refine (isPlace_any _ _ _).mono ?_
    rintro e w2 ⟨rfl, hb2⟩
    have hb := hb.step hb2
    clear hb2
    obtain ⟨hc, hf⟩ := bcell hb
    go_wp2_with fail
    go_ret
    exact ⟨by simp [col, h1, h2], below3 hb⟩
  cases h3 : onB cx cy
  · go_enter Try.func11, Try.ntmps11
    go_wp2_with fail
    refine (isPlace_any _ _ _).mono ?_
    rintro e w1 ⟨rfl, hb1⟩
    have hb := hb1
    clear hb1
    obtain ⟨hc, hf⟩ := bcell hb
    go_wp2_with fail
    refine (isPlace_any _ _ _).mono ?_
    rintro e w2 ⟨rfl, hb2⟩
    have hb := hb.step hb2
    clear hb2
    obtain ⟨hc, hf⟩ := bcell hb
    go_wp2_with fail
    refine (isPlace_any _ _ _).mono ?_
    rintro e w3 ⟨rfl, hb3⟩
    have hb := hb.step hb3
    clear hb3
    obtain ⟨hc, hf⟩ := bcell hb
    go_wp2_with fail
    go_ret
    exact ⟨by simp [col, h1, h2, h3], below3 hb⟩
  have b1 := onB_bd h1
  have b2 := onB_bd h2
  have b3 := onB_bd h3
  · go_enter Try.func11, Try.ntmps11
    go_wp2_with fail
    refine (isPlace_any _ _ _).mono ?_
    rintro e w1 ⟨rfl, hb1⟩
    have hb := hb1
    clear hb1
    obtain ⟨hc, hf⟩ := bcell hb
    go_wp2_with fail
    refine (isPlace_any _ _ _).mono ?_
    rintro e w2 ⟨rfl, hb2⟩
    have hb := hb.step hb2
    clear hb2
    obtain ⟨hc, hf⟩ := bcell hb
    go_wp2_with fail
    refine (isPlace_any _ _ _).mono ?_
    rintro e w3 ⟨rfl, hb3⟩
    have hb := hb.step hb3
    clear hb3
    obtain ⟨hc, hf⟩ := bcell hb
    go_wp2_with fail
    go_ret
    exact ⟨by simp [col, colB, h1, h2, h3], below3 hb⟩
set_option maxHeartbeats 1000000 in
theorem specCol_any (ax ay bx dy cx cy : Int) (w : World) :
    Calls Try.prog 9 #[.agg #[.int .i64 ax, .int .i64 ay], .agg #[.int .i64 bx, .int .i64 dy], .agg #[.int .i64 cx, .int .i64 cy]] w fun e w' => e = .returned (.bool (col ax ay bx dy cx cy)) ∧ Below w.heap.size w w' := by
  cases h1 : onB ax ay
  · go_enter Try.func9, Try.ntmps9
    go_wp2_with fail
    refine (l10On_any _ _ _).mono ?_
    rintro e w1 ⟨rfl, hb1⟩
    have hb := hb1
    clear hb1
    obtain ⟨hc, hf⟩ := bcell hb
    go_wp2_with fail
    go_ret
    exact ⟨by simp [col, h1], below3 hb⟩
  cases h2 : onB bx dy
  · go_enter Try.func9, Try.ntmps9
    go_wp2_with fail
    refine (l10On_any _ _ _).mono ?_
    rintro e w1 ⟨rfl, hb1⟩
    have hb := hb1
    clear hb1
    obtain ⟨hc, hf⟩ := bcell hb
    go_wp2_with fail
    refine (l10On_any _ _ _).mono ?_
    rintro e w2 ⟨rfl, hb2⟩
    have hb := hb.step hb2
    clear hb2
    obtain ⟨hc, hf⟩ := bcell hb
    go_wp2_with fail
    go_ret
    exact ⟨by simp [col, h1, h2], below3 hb⟩
  cases h3 : onB cx cy
  · go_enter Try.func9, Try.ntmps9
    go_wp2_with fail
    refine (l10On_any _ _ _).mono ?_
    rintro e w1 ⟨rfl, hb1⟩
    have hb := hb1
    clear hb1
    obtain ⟨hc, hf⟩ := bcell hb
    go_wp2_with fail
    refine (l10On_any _ _ _).mono ?_
    rintro e w2 ⟨rfl, hb2⟩
    have hb := hb.step hb2
    clear hb2
    obtain ⟨hc, hf⟩ := bcell hb
    go_wp2_with fail
    refine (l10On_any _ _ _).mono ?_
    rintro e w3 ⟨rfl, hb3⟩
    have hb := hb.step hb3
    clear hb3
    obtain ⟨hc, hf⟩ := bcell hb
    go_wp2_with fail
    go_ret
    exact ⟨by simp [col, h1, h2, h3], below3 hb⟩
  have b1 := onB_bd h1
  have b2 := onB_bd h2
  have b3 := onB_bd h3
  · go_enter Try.func9, Try.ntmps9
    go_wp2_with fail
    refine (l10On_any _ _ _).mono ?_
    rintro e w1 ⟨rfl, hb1⟩
    have hb := hb1
    clear hb1
    obtain ⟨hc, hf⟩ := bcell hb
    go_wp2_with fail
    refine (l10On_any _ _ _).mono ?_
    rintro e w2 ⟨rfl, hb2⟩
    have hb := hb.step hb2
    clear hb2
    obtain ⟨hc, hf⟩ := bcell hb
    go_wp2_with fail
    refine (l10On_any _ _ _).mono ?_
    rintro e w3 ⟨rfl, hb3⟩
    have hb := hb.step hb3
    clear hb3
    obtain ⟨hc, hf⟩ := bcell hb
    go_wp2_with fail
    go_ret
    have em := Int.mul_comm (dy - ay) (cx - ax)
    exact ⟨by simp [col, colB, h1, h2, h3, em], below3 hb⟩

end Go.Proofs.Ytioojfiolepjkaa
