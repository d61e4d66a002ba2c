/- GcdOf of the program and of the reference: the greatest common divisor of the magnitudes, 0 beyond 9000000000000000000. No condition. -/
import Derived.Test.YtfdhbbhfilkafaaBase
namespace Go.Proofs.Ytfdhbbhfilkafaa
open Go.RowKit
set_option maxRecDepth 100000
set_option linter.unusedVariables false
set_option linter.unusedSimpArgs false

def smallB (x : Int) : Bool := inB x (-9000000000000000000) 9000000000000000000
theorem smallB_bd {x : Int} (h : smallB x = true) : -9000000000000000000 ≤ x ∧ x ≤ 9000000000000000000 := by
  simp [smallB, inB] at h; omega
def gcdZ (a b : Int) : Int := if smallB a && smallB b then (Nat.gcd a.natAbs b.natAbs : Int) else 0

set_option maxHeartbeats 400000 in
theorem isGreat_any (x : Int) (w : World) :
    Calls Try.prog 90 #[.int .i64 x] w fun e w' => e = .returned (.bool (!smallB x)) ∧ w = w' := by
  by_cases h1 : 9000000000000000000 < x
  · go_enter Try.func90, Try.ntmps90
    go_wp2
    go_ret
    exact ⟨by simp [smallB, inB, h1], rfl⟩
  · by_cases h2 : x < -9000000000000000000
    all_goals
      go_enter Try.func90, Try.ntmps90
      go_wp2
      go_ret
      exact ⟨by simp [smallB, inB]; omega, rfl⟩

theorem gcd_step (p q : Nat) : Nat.gcd q (p % q) = Nat.gcd p q := by
  rw [Nat.gcd_comm p q, Nat.gcd_rec q p, Nat.gcd_comm]

/-- What holds of the two numbers at each round's head. -/
def GcdRel (a b : Int) (u v : Value) : Prop := ∃ m n : Nat, u = .int .i64 m ∧ v = .int .i64 n ∧ m ≤ 9000000000000000000 ∧ n ≤ 9000000000000000000 ∧ Nat.gcd m n = Nat.gcd a.natAbs b.natAbs

theorem GcdRel.start {a b x y : Int} (ha : x.natAbs = a.natAbs) (hb : y.natAbs = b.natAbs) (h0 : 0 ≤ x) (h1 : 0 ≤ y) (h2 : x ≤ 9000000000000000000) (h3 : y ≤ 9000000000000000000) : GcdRel a b (.int .i64 x) (.int .i64 y) := by
  obtain ⟨m, rfl⟩ := Int.eq_ofNat_of_zero_le h0
  obtain ⟨n, rfl⟩ := Int.eq_ofNat_of_zero_le h1
  exact ⟨m, n, rfl, rfl, by omega, by omega, by rw [← ha, ← hb]; rfl⟩

theorem GcdRel.next {a b : Int} {m n : Nat} (h2 : m ≤ 9000000000000000000) (h3 : n ≤ 9000000000000000000) (h : Nat.gcd m n = Nat.gcd a.natAbs b.natAbs) (hn : 0 < n) : GcdRel a b (.int .i64 (n : Int)) (.int .i64 ((m : Int) % (n : Int))) :=
  ⟨n, m % n, rfl, by simp, h3, by have := Nat.mod_le m n; omega, by rw [gcd_step, h]⟩

set_option maxHeartbeats 400000 in
theorem specGcd_any (a b : Int) (w : World) :
    Calls Try.prog 56 #[.int .i64 a, .int .i64 b] w fun e w' => e = .returned (.int .i64 (gcdZ a b)) ∧ w = w' := by
  cases h1 : smallB a
  · have h1' : inB a (-9000000000000000000) 9000000000000000000 = false := h1
    go_enter Try.func56, Try.ntmps56
    go_wp2_with (go_at_call 66; refine (l1In_any _ _ _ _).mono ?_; rintro e w' ⟨rfl, rfl⟩)
    go_ret
    exact ⟨by simp [gcdZ, h1], rfl⟩
  · cases h2 : smallB b
    · have h1' : inB a (-9000000000000000000) 9000000000000000000 = true := h1
      have h2' : inB b (-9000000000000000000) 9000000000000000000 = false := h2
      go_enter Try.func56, Try.ntmps56
      go_wp2_with (go_at_call 66; refine (l1In_any _ _ _ _).mono ?_; rintro e w' ⟨rfl, rfl⟩)
      go_ret
      exact ⟨by simp [gcdZ, h1, h2], rfl⟩
    · have h1' : inB a (-9000000000000000000) 9000000000000000000 = true := h1
      have h2' : inB b (-9000000000000000000) 9000000000000000000 = true := h2
      have b1 := smallB_bd h1
      have b2 := smallB_bd h2
      obtain ⟨b1l, b1h⟩ := b1
      obtain ⟨b2l, b2h⟩ := b2
      go_enter Try.func56, Try.ntmps56
      go_wp2_with (go_at_call 66; refine (l1In_any _ _ _ _).mono ?_; rintro e w' ⟨rfl, rfl⟩)
      all_goals
        go_loop [0, 1] (fun u v => GcdRel a b u v) (fun _ v => (intOf v).toNat)
        case atStart => exact GcdRel.start (by omega) (by omega) (by omega) (by omega) (by omega) (by omega)
        case round =>
          obtain ⟨m, n, rfl, rfl, hm, hn, hg⟩ := hrel
          have HG := Lib.hid hg
          clear hg
          by_cases h0 : 0 < n
          · have hml : (m : Int) % (n : Int) < n := Int.emod_lt_of_pos _ (by omega)
            have hmp : 0 ≤ (m : Int) % (n : Int) := Int.emod_nonneg _ (by omega)
            go_wp2
            go_round
            case rel => exact GcdRel.next hm hn HG.out h0
            case measure => simp [intOf]; omega
          · obtain rfl : n = 0 := by omega
            go_wp2
            go_ret
            have := HG.out
            exact ⟨by simp [gcdZ, h1, h2, ← this], rfl⟩
set_option maxHeartbeats 800000 in
theorem implGcd_any (a b : Int) (w : World) :
    Calls Try.prog 55 #[.int .i64 a, .int .i64 b] w fun e w' => e = .returned (.int .i64 (gcdZ a b)) ∧ ∃ n, w' = w.drewN n := by
  cases h1 : smallB a
  · go_enter Try.func55, Try.ntmps55
    go_wp2_with (go_at_call 90; refine (isGreat_any _ _).mono ?_; rintro e w' ⟨rfl, rfl⟩)
    go_ret
    exact ⟨by simp [gcdZ, h1], 0, rfl⟩
  · cases h2 : smallB b
    · go_enter Try.func55, Try.ntmps55
      go_wp2_with (go_at_call 90; refine (isGreat_any _ _).mono ?_; rintro e w' ⟨rfl, rfl⟩)
      go_ret
      exact ⟨by simp [gcdZ, h1, h2], 0, rfl⟩
    · have b1 := smallB_bd h1
      have b2 := smallB_bd h2
      obtain ⟨b1l, b1h⟩ := b1
      obtain ⟨b2l, b2h⟩ := b2
      go_enter Try.func55, Try.ntmps55
      go_wp2_with (go_at_call 90; refine (isGreat_any _ _).mono ?_; rintro e w' ⟨rfl, rfl⟩)
      all_goals
        go_loopw [0, 1] (fun u v wr => GcdRel a b u v ∧ ∃ n, wr = w.drewN n) (fun _ v _ => (intOf v).toNat)
        case atStart => exact ⟨GcdRel.start (by omega) (by omega) (by omega) (by omega) (by omega) (by omega), 0, rfl⟩
        case round =>
          obtain ⟨⟨m, n, rfl, rfl, hm, hn, hg⟩, nd, rfl⟩ := hrel
          have HG := Lib.hid hg
          clear hg
          by_cases h0 : 0 < n
          · have hml : (m : Int) % (n : Int) < n := Int.emod_lt_of_pos _ (by omega)
            have hmp : 0 ≤ (m : Int) % (n : Int) := Int.emod_nonneg _ (by omega)
            go_wp2
            go_quiet (fail)
            go_wp2
            go_roundw
            case rel => exact ⟨GcdRel.next hm hn HG.out h0, nd + nq, by rw [World.drewN_drewN]⟩
            case measure => simp [intOf]; omega
          · obtain rfl : n = 0 := by omega
            go_wp2
            go_ret
            have := HG.out
            exact ⟨by simp [gcdZ, h1, h2, ← this], _, rfl⟩
end Go.Proofs.Ytfdhbbhfilkafaa
