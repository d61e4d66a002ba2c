/- Contracts of the functions that FnExactAreCollinear reaches. No condition. -/
import Derived.Test.YtkjoeogoebpkjaaPl
import Derived.Test.YtkjoeogoebpkjaaPlaces
namespace Go.Proofs.Ytkjoeogoebpkjaa
open Go.RowKit
set_option maxRecDepth 100000
set_option linter.unusedVariables false
set_option linter.unusedSimpArgs false

def colB (ax ay bx cy cx dy : Int) : Bool := wrap64 ((bx - ax) * (cy - ay)) == wrap64 ((cx - ax) * (dy - ay))
def col (ax ay bx dy cx cy : Int) : Bool := onB ax ay && onB bx dy && onB cx cy && colB ax ay bx cy cx dy


theorem below3 {w w1 : World} {o1 o2 o3 : Obj} (h : Below (((w.alloc o1).alloc o2).alloc o3).heap.size (((w.alloc o1).alloc o2).alloc o3) w1) : Below w.heap.size w w1 :=
  ((((Below.refl _ w).alloc (Nat.le_refl _) o1).alloc (by simp) o2).alloc (by simp; omega) o3).trans (h.mono (by simp; omega))

set_option maxHeartbeats 1000000 in
theorem implCol_any (ax ay bx dy cx cy : Int) (w : World) :
    Calls Try.prog 88 #[.agg #[.int .i64 ax, .int .i64 ay], .agg #[.int .i64 bx, .int .i64 dy], .agg #[.int .i64 cx, .int .i64 cy]] w fun e w' => e = .returned (.bool (col ax ay bx dy cx cy)) ∧ Below w.heap.size w w' := by
  cases h1 : onB ax ay
  · go_enter Try.func88, Try.ntmps88
    go_wp2_with fail
    refine (isPlace_any _ _ _).mono ?_
    rintro e w1 ⟨rfl, hb1⟩
    have hb := hb1
    clear hb1
    obtain ⟨hc, hf⟩ := bcell hb
    go_wp2_with fail
    go_ret
    exact ⟨by simp [col, h1], below3 hb⟩
  cases h2 : onB bx dy
  · go_enter Try.func88, Try.ntmps88
    go_wp2_with fail
    refine (isPlace_any _ _ _).mono ?_
    rintro e w1 ⟨rfl, hb1⟩
    have hb := hb1
    clear hb1
    obtain ⟨hc, hf⟩ := bcell hb
    go_wp2_with fail
    refine (isPlace_any _ _ _).mono ?_
    rintro e w2 ⟨rfl, hb2⟩
    have hb := hb.step hb2
    clear hb2
    obtain ⟨hc, hf⟩ := bcell hb
    go_wp2_with fail
    go_ret
    exact ⟨by simp [col, h1, h2], below3 hb⟩
  cases h3 : onB cx cy
  · go_enter Try.func88, Try.ntmps88
    go_wp2_with fail
    refine (isPlace_any _ _ _).mono ?_
    rintro e w1 ⟨rfl, hb1⟩
    have hb := hb1
    clear hb1
    obtain ⟨hc, hf⟩ := bcell hb
    go_wp2_with fail
    refine (isPlace_any _ _ _).mono ?_
    rintro e w2 ⟨rfl, hb2⟩
    have hb := hb.step hb2
    clear hb2
    obtain ⟨hc, hf⟩ := bcell hb
    go_wp2_with fail
    refine (isPlace_any _ _ _).mono ?_
    rintro e w3 ⟨rfl, hb3⟩
    have hb := hb.step hb3
    clear hb3
    obtain ⟨hc, hf⟩ := bcell hb
    go_wp2_with fail
    go_ret
    exact ⟨by simp [col, h1, h2, h3], below3 hb⟩
  have b1 := onB_bd h1
  have b2 := onB_bd h2
  have b3 := onB_bd h3
  · go_enter Try.func88, Try.ntmps88
    go_wp2_with fail
    refine (isPlace_any _ _ _).mono ?_
    rintro e w1 ⟨rfl, hb1⟩
    have hb := hb1
    clear hb1
    obtain ⟨hc, hf⟩ := bcell hb
    go_wp2_with fail
    refine (isPlace_any _ _ _).mono ?_
    rintro e w2 ⟨rfl, hb2⟩
    have hb := hb.step hb2
    clear hb2
    obtain ⟨hc, hf⟩ := bcell hb
    go_wp2_with fail
    refine (isPlace_any _ _ _).mono ?_
    rintro e w3 ⟨rfl, hb3⟩
    have hb := hb.step hb3
    clear hb3
    obtain ⟨hc, hf⟩ := bcell hb
    go_wp2_with fail
    go_ret
    exact ⟨by simp [col, colB, h1, h2, h3], below3 hb⟩
set_option maxHeartbeats 1000000 in
theorem specCol_any (ax ay bx dy cx cy : Int) (w : World) :
    Calls Try.prog 87 #[.agg #[.int .i64 ax, .int .i64 ay], .agg #[.int .i64 bx, .int .i64 dy], .agg #[.int .i64 cx, .int .i64 cy]] w fun e w' => e = .returned (.bool (col ax ay bx dy cx cy)) ∧ Below w.heap.size w w' := by
  cases h1 : onB ax ay
  · go_enter Try.func87, Try.ntmps87
    go_wp2_with fail
    refine (l10On_any _ _ _).mono ?_
    rintro e w1 ⟨rfl, hb1⟩
    have hb := hb1
    clear hb1
    obtain ⟨hc, hf⟩ := bcell hb
    go_wp2_with fail
    go_ret
    exact ⟨by simp [col, h1], below3 hb⟩
  cases h2 : onB bx dy
  · go_enter Try.func87, Try.ntmps87
    go_wp2_with fail
    refine (l10On_any _ _ _).mono ?_
    rintro e w1 ⟨rfl, hb1⟩
    have hb := hb1
    clear hb1
    obtain ⟨hc, hf⟩ := bcell hb
    go_wp2_with fail
    refine (l10On_any _ _ _).mono ?_
    rintro e w2 ⟨rfl, hb2⟩
    have hb := hb.step hb2
    clear hb2
    obtain ⟨hc, hf⟩ := bcell hb
    go_wp2_with fail
    go_ret
    exact ⟨by simp [col, h1, h2], below3 hb⟩
  cases h3 : onB cx cy
  · go_enter Try.func87, Try.ntmps87
    go_wp2_with fail
    refine (l10On_any _ _ _).mono ?_
    rintro e w1 ⟨rfl, hb1⟩
    have hb := hb1
    clear hb1
    obtain ⟨hc, hf⟩ := bcell hb
    go_wp2_with fail
    refine (l10On_any _ _ _).mono ?_
    rintro e w2 ⟨rfl, hb2⟩
    have hb := hb.step hb2
    clear hb2
    obtain ⟨hc, hf⟩ := bcell hb
    go_wp2_with fail
    refine (l10On_any _ _ _).mono ?_
    rintro e w3 ⟨rfl, hb3⟩
    have hb := hb.step hb3
    clear hb3
    obtain ⟨hc, hf⟩ := bcell hb
    go_wp2_with fail
    go_ret
    exact ⟨by simp [col, h1, h2, h3], below3 hb⟩
  have b1 := onB_bd h1
  have b2 := onB_bd h2
  have b3 := onB_bd h3
  · go_enter Try.func87, Try.ntmps87
    go_wp2_with fail
    refine (l10On_any _ _ _).mono ?_
    rintro e w1 ⟨rfl, hb1⟩
    have hb := hb1
    clear hb1
    obtain ⟨hc, hf⟩ := bcell hb
    go_wp2_with fail
    refine (l10On_any _ _ _).mono ?_
    rintro e w2 ⟨rfl, hb2⟩
    have hb := hb.step hb2
    clear hb2
    obtain ⟨hc, hf⟩ := bcell hb
    go_wp2_with fail
    refine (l10On_any _ _ _).mono ?_
    rintro e w3 ⟨rfl, hb3⟩
    have hb := hb.step hb3
    clear hb3
    obtain ⟨hc, hf⟩ := bcell hb
    go_wp2_with fail
    go_ret
    have em := Int.mul_comm (dy - ay) (cx - ax)
    exact ⟨by simp [col, colB, h1, h2, h3, em], below3 hb⟩

end Go.Proofs.Ytkjoeogoebpkjaa
