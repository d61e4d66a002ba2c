/- When a velocity is a motion of the plane: two ways to say it, in plain integers. No condition. -/
import Derived.Test.YtchlmnlaaloipaaVec
namespace Gr
set_option linter.unusedVariables false

/-- as the reference says it -/
structure TrS (p : Nat) (dx dy ux uy : Nat → Int) : Prop where
  s1 : ∀ a, a < p → ∀ b, b < a → (dx a - dx b) * (ux a - ux b) + (dy a - dy b) * (uy a - uy b) = 0
  s2 : ∀ a, a < p → ∀ b, b < a → dx a = dx b → dy a = dy b → ux a = ux b ∧ uy a = uy b
  s3 : ∀ a, a < p → ∀ b, b < a → 1 ≤ b → dx a * dy b = dy a * dx b → dx b * ux a + dy b * uy a = dx a * ux b + dy a * uy b ∧ dx b * uy a - dy b * ux a = dx a * uy b - dy a * ux b
/-- as the program says it, num / den told -/
def TrI (p : Nat) (dx dy ux uy : Nat → Int) (num den : Int) : Prop := ∀ i, i < p → ux i * den = -num * dy i ∧ uy i * den = num * dx i

theorem eq_of_mul {d x y : Int} (hd : d ≠ 0) (h : d * x = d * y) : x = y := Int.eq_of_mul_eq_mul_left hd h
theorem trS_of_trI {p : Nat} {dx dy ux uy : Nat → Int} {num den : Int} (hd : den ≠ 0) (h : TrI p dx dy ux uy num den) : TrS p dx dy ux uy := by
  refine ⟨fun a ha b hb => ?_, fun a ha b hb e1 e2 => ?_, fun a ha b hb h1 hc => ?_⟩
  · obtain ⟨a1, a2⟩ := h a ha
    obtain ⟨b1, b2⟩ := h b (by omega)
    refine eq_of_mul hd ?_
    generalize dx a = x at *; generalize dy a = y at *; generalize ux a = u at *; generalize uy a = v at *
    generalize dx b = x' at *; generalize dy b = y' at *; generalize ux b = u' at *; generalize uy b = v' at *
    clear h
    grind
  · obtain ⟨a1, a2⟩ := h a ha
    obtain ⟨b1, b2⟩ := h b (by omega)
    refine ⟨eq_of_mul hd ?_, eq_of_mul hd ?_⟩
    · rw [Int.mul_comm, a1, e2, ← b1, Int.mul_comm]
    · rw [Int.mul_comm, a2, e1, ← b2, Int.mul_comm]
  · obtain ⟨a1, a2⟩ := h a ha
    obtain ⟨b1, b2⟩ := h b (by omega)
    clear h
    generalize dx a = x at *; generalize dy a = y at *; generalize ux a = u at *; generalize uy a = v at *
    generalize dx b = x' at *; generalize dy b = y' at *; generalize ux b = u' at *; generalize uy b = v' at *
    refine ⟨eq_of_mul hd ?_, eq_of_mul hd ?_⟩ <;> grind
theorem trI_none {p : Nat} {dx dy ux uy : Nat → Int} (z1 : ux 0 = 0) (z2 : uy 0 = 0) (z3 : dx 0 = 0) (z4 : dy 0 = 0) (hn : ∀ i, i < p → dx i = 0 ∧ dy i = 0) (h : TrS p dx dy ux uy) : TrI p dx dy ux uy 0 1 := by
  intro i hi
  by_cases e : i = 0
  · subst e; rw [z1, z2]; simp
  · have := h.s2 i hi 0 (by omega) (by rw [z3]; exact (hn i hi).1) (by rw [z4]; exact (hn i hi).2)
    rw [this.1, this.2, z1, z2]; simp
theorem trI_at {p : Nat} {dx dy ux uy : Nat → Int} (z1 : ux 0 = 0) (z2 : uy 0 = 0) (z3 : dx 0 = 0) (z4 : dy 0 = 0) {k : Nat} (hk : k < p) (hne : dx k ≠ 0 ∨ dy k ≠ 0) (h : TrS p dx dy ux uy) :
    TrI p dx dy ux uy (uy k * dx k - ux k * dy k) (dx k * dx k + dy k * dy k) := by
  have hk0 : 0 < k := by
    refine Nat.pos_of_ne_zero fun e => ?_
    subst e; omega
  have ek := h.s1 k hk 0 hk0
  rw [z1, z2, z3, z4] at ek
  simp only [Int.sub_zero] at ek
  have k1 : ux k * (dx k * dx k + dy k * dy k) = -(uy k * dx k - ux k * dy k) * dy k ∧ uy k * (dx k * dx k + dy k * dy k) = (uy k * dx k - ux k * dy k) * dx k := by
    generalize dx k = x at *; generalize dy k = y at *; generalize ux k = u at *; generalize uy k = v at *
    clear h
    constructor <;> grind
  intro i hi
  by_cases e0 : i = 0
  · subst e0; rw [z1, z2, z3, z4]; simp
  by_cases eik : i = k
  · subst eik; exact k1
  have ei := h.s1 i hi 0 (by omega)
  rw [z1, z2, z3, z4] at ei
  simp only [Int.sub_zero] at ei
  by_cases hc : dx i * dy k = dy i * dx k
  · have e3 : dx k * ux i + dy k * uy i = dx i * ux k + dy i * uy k ∧ dx k * uy i - dy k * ux i = dx i * uy k - dy i * ux k := by
      rcases Nat.lt_or_gt_of_ne eik with hlt | hlt
      · have := h.s3 k hk i hlt (by omega) (by grind)
        exact ⟨this.1.symm, this.2.symm⟩
      · exact h.s3 i hi k hlt (by omega) hc
    obtain ⟨e1, e2⟩ := e3
    clear h
    generalize dx k = x at *; generalize dy k = y at *; generalize ux k = u at *; generalize uy k = v at *
    generalize dx i = x' at *; generalize dy i = y' at *; generalize ux i = u' at *; generalize uy i = v' at *
    clear k1 hne ei
    constructor <;> grind
  · have e1 : (dx i - dx k) * (ux i - ux k) + (dy i - dy k) * (uy i - uy k) = 0 := by
      rcases Nat.lt_or_gt_of_ne eik with hlt | hlt
      · have := h.s1 k hk i hlt
        grind
      · exact h.s1 i hi k hlt
    obtain ⟨k1, k2⟩ := k1
    clear h
    have hD : dx i * dy k - dy i * dx k ≠ 0 := by omega
    generalize hden : dx k * dx k + dy k * dy k = den at *
    generalize hnum : uy k * dx k - ux k * dy k = num at *
    have r1 : dx k * ux i + dy k * uy i = -(dx i * ux k + dy i * uy k) := by grind
    have r2 : den * (dx k * ux i + dy k * uy i) = num * (dx i * dy k - dy i * dx k) := by
      rw [r1]
      have t1 : den * ux k = -num * dy k := by rw [Int.mul_comm]; exact k1
      have t2 : den * uy k = num * dx k := by rw [Int.mul_comm]; exact k2
      have : den * -(dx i * ux k + dy i * uy k) = -(dx i * (den * ux k) + dy i * (den * uy k)) := by grind
      rw [this, t1, t2]; grind
    refine ⟨eq_of_mul hD ?_, eq_of_mul hD ?_⟩
    · have : (dx i * dy k - dy i * dx k) * ux i = dy k * (dx i * ux i + dy i * uy i) - dy i * (dx k * ux i + dy k * uy i) := by grind
      have t : (dx i * dy k - dy i * dx k) * (ux i * den) = dy k * (dx i * ux i + dy i * uy i) * den - dy i * (den * (dx k * ux i + dy k * uy i)) := by grind
      rw [t, ei, r2]; grind
    · have t : (dx i * dy k - dy i * dx k) * (uy i * den) = dx i * (den * (dx k * ux i + dy k * uy i)) - dx k * (dx i * ux i + dy i * uy i) * den := by grind
      rw [t, ei, r2]; grind
end Gr
