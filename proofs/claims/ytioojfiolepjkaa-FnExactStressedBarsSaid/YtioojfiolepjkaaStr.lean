/- StressedBars of the program and of the reference. -/
import Derived.Test.YtioojfiolepjkaaInts
namespace Go.Proofs.Ytioojfiolepjkaa
open Go.RowKit
set_option linter.unusedVariables false
set_option linter.unusedSimpArgs false

/-- the indices below k at which l is not 0 -/
def stressed (l : List Int) : Nat → List Int
  | 0 => []
  | k + 1 => if l[k]?.getD 0 = 0 then stressed l k else stressed l k ++ [(k : Int)]
theorem stressed_le (l : List Int) (k : Nat) : (stressed l k).length ≤ k := by
  induction k with
  | zero => simp [stressed]
  | succ k ih =>
    simp only [stressed]
    split
    · omega
    · simp; omega

set_option maxHeartbeats 1000000 in
theorem specStr_any (a : Option Addr) (n cap : Nat) (l : List Int) (W : World) (h : IntsAt W a n l) (hn : n ≤ 17592186044416) :
    Calls Try.prog 14 #[.slice a n cap] W (RetInts W (stressed l n)) := by
  obtain ⟨hl, hc⟩ := h
  have HC := Lib.hid hc
  clear hl hc
  go_enter Try.func14, Try.ntmps14
  go_wp2
  go_loopw [3, 4] (fun v i wr => ∃ k : Nat, k ≤ n ∧ i = .int .i64 k ∧ OwnInts wr W.heap.size v (stressed l k) ∧ Below W.heap.size W wr) (fun _ i _ => n - (intOf i).toNat)
  case atStart => exact ⟨0, Nat.zero_le _, rfl, OwnInts.made _ _ (Nat.le_refl _), (Below.refl _ _).alloc (Nat.le_refl _) _⟩
  case round =>
    obtain ⟨k, hk, rfl, ho, hb⟩ := hrel
    have HO := Lib.hid ho
    clear ho
    have hsz := stressed_le l k
    by_cases hlt : k < n
    · obtain ⟨b, off, x, rfl, hbl, hx, hcell⟩ := HC.out k hlt
      have HX := Lib.hid hx
      clear hx
      have hcw : wr.cell? ⟨b, off + k, none⟩ = some (.int .i64 x) := (hb.cell (p := ⟨b, off + k, none⟩) hbl).trans hcell
      clear hcell
      by_cases h0 : x = 0
      · subst h0
        go_wp2
        go_roundw
        case rel => exact ⟨k + 1, by omega, by go_num, by simpa [stressed, HX.out] using HO.out, hb⟩
        case measure => simp [intOf]; omega
      · have hne : (x != 0) = true := by simpa using h0
        go_wp2_with (at_builtin; refine app1 rfl _ _ rfl rfl HO.out _ rfl (by omega) hb.size ?_; intro v' w1 ho1 hk1)
        go_roundw
        case rel => exact ⟨k + 1, by omega, by go_num, by simpa [stressed, HX.out, h0] using ho1, hb.trans (hk1.setOwn HO.out (Nat.le_refl _) hb.size)⟩
        case measure => simp [intOf]; omega
    · obtain rfl : k = n := by omega
      go_wp2
      go_ret
      exact ⟨_, rfl, HO.out, hb⟩
set_option maxHeartbeats 1000000 in
theorem implStr_any (a : Option Addr) (n cap : Nat) (l : List Int) (W : World) (h : IntsAt W a n l) (hn : n ≤ 17592186044416) :
    Calls Try.prog 16 #[.slice a n cap] W (RetInts W (stressed l n)) := by
  obtain ⟨hl, hc⟩ := h
  have HC := Lib.hid hc
  clear hl hc
  go_enter Try.func16, Try.ntmps16
  go_wp2
  go_loopw [3, 9] (fun v i wr => ∃ k : Nat, k ≤ n ∧ i = .int .i64 k ∧ OwnInts wr W.heap.size v (stressed l k) ∧ Below W.heap.size W wr) (fun _ i _ => n - (intOf i).toNat)
  case atStart => exact ⟨0, Nat.zero_le _, rfl, OwnInts.made _ _ (Nat.le_refl _), (Below.refl _ _).alloc (Nat.le_refl _) _⟩
  case round =>
    obtain ⟨k, hk, rfl, ho, hb⟩ := hrel
    have HO := Lib.hid ho
    clear ho
    have hsz := stressed_le l k
    by_cases hlt : k < n
    · obtain ⟨b, off, x, rfl, hbl, hx, hcell⟩ := HC.out k hlt
      have HX := Lib.hid hx
      clear hx
      have hcw : wr.cell? ⟨b, off + k, none⟩ = some (.int .i64 x) := (hb.cell (p := ⟨b, off + k, none⟩) hbl).trans hcell
      clear hcell
      by_cases h0 : x = 0
      · subst h0
        go_wp2
        go_roundw
        case rel => exact ⟨k + 1, by omega, by go_num, by simpa [stressed, HX.out] using HO.out, hb⟩
        case measure => simp [intOf]; omega
      · have hne : (x != 0) = true := by simpa using h0
        go_wp2_with (at_builtin; refine app1 rfl _ _ rfl rfl HO.out _ rfl (by omega) hb.size ?_; intro v' w1 ho1 hk1)
        go_roundw
        case rel => exact ⟨k + 1, by omega, by go_num, by simpa [stressed, HX.out, h0] using ho1, hb.trans (hk1.setOwn HO.out (Nat.le_refl _) hb.size)⟩
        case measure => simp [intOf]; omega
    · obtain rfl : k = n := by omega
      go_wp2
      go_ret
      exact ⟨_, rfl, HO.out, hb⟩

theorem spec_StressedBars (W : World) (v : Value) (l : List Int) (h : IsInts W v l) (hn : l.length ≤ 1048576) : Calls Try.prog 14 #[v] W (RetInts W (stressed l l.length)) := by
  obtain ⟨a, cap, rfl, hi⟩ := h
  exact specStr_any _ _ _ _ _ hi (by omega)
theorem impl_StressedBars (W : World) (v : Value) (l : List Int) (h : IsInts W v l) (hn : l.length ≤ 1048576) : Calls Try.prog 16 #[v] W (RetInts W (stressed l l.length)) := by
  obtain ⟨a, cap, rfl, hi⟩ := h
  exact implStr_any _ _ _ _ _ hi (by omega)
end Go.Proofs.Ytioojfiolepjkaa
