/- The laws' helpers: equal lists, equal lists of lists, sizes. Conditions: both arguments read the same list. -/
import Derived.Test.YtfbmpkdjhhcnpaaMoP38
import Derived.Deep.DeepCutAuto
import Derived.Deep.QuietTactic
import Derived.BigQuiet
namespace Go.Proofs.Ytfbmpkdjhhcnpaa
open Go.RowKit
set_option maxRecDepth 100000
set_option linter.unusedVariables false
set_option linter.unusedSimpArgs false
set_option maxHeartbeats 1000000 in
theorem sameInts_eq (a a' : Option Addr) (n cap cap' : Nat) (l : List Int) (W : World) (h : IntsAt W a n l) (h' : IntsAt W a' n l) (hn : n ≤ 17592186044416) :
    Calls Try.prog 18 #[.slice a n cap, .slice a' n cap'] W fun e w' => e = .returned (.bool true) ∧ ∃ m, w' = W.drewN m := by
  obtain ⟨hl, hc⟩ := h
  obtain ⟨-, hc'⟩ := h'
  have HL := Lib.hid hl
  have HC := Lib.hid hc
  have HC' := Lib.hid hc'
  clear hl hc hc'
  go_enter Try.func18, Try.ntmps18
  go_wp2
  go_loopw [5] (fun i wr => ∃ k : Nat, k ≤ n ∧ i = .int .i64 k ∧ (∃ m, wr = W.drewN m)) (fun i _ => n - (intOf i).toNat)
  case atStart => exact ⟨0, Nat.zero_le _, rfl, ⟨0, rfl⟩⟩
  case round =>
    obtain ⟨k, hk, rfl, ⟨m, rfl⟩⟩ := hrel
    by_cases hlt : k < n
    · obtain ⟨b, off, x, rfl, hbl, hx, hcell⟩ := HC.out k hlt
      obtain ⟨b', off', x', rfl, hbl', hx', hcell'⟩ := HC'.out k hlt
      obtain rfl : x = x' := Option.some.inj (hx.symm.trans hx')
      clear hx hx'
      go_wp2
      go_quiet (fail)
      go_wp2
      go_roundw
      case rel => exact ⟨k + 1, by omega, by go_num, ⟨_, rfl⟩⟩
      case measure => simp [intOf]; omega
    · obtain rfl : k = n := by omega
      go_wp2
      go_ret
      first | exact ⟨_, rfl⟩ | exact ⟨rfl, m, rfl⟩
set_option maxHeartbeats 1000000 in
theorem sameSets_eq (a a' : Option Addr) (n cap cap' : Nat) (ll : List (List Int)) (W : World) (h : IntssAt W a n ll) (h' : IntssAt W a' n ll) (hn : n ≤ 17592186044416) (hs : ∀ r ∈ ll, r.length ≤ 17592186044416) :
    Calls Try.prog 8 #[.slice a n cap, .slice a' n cap'] W fun e w' => e = .returned (.bool true) ∧ Below W.heap.size W w' := by
  have hwd := @Wd.cells
  obtain ⟨hl, hc⟩ := h
  obtain ⟨-, hc'⟩ := h'
  have HL := Lib.hid hl
  have HC := Lib.hid hc
  have HC' := Lib.hid hc'
  clear hl hc hc'
  go_enter Try.func8, Try.ntmps8
  go_wp2
  go_loopw [5] (fun i wr => ∃ k : Nat, k ≤ n ∧ i = .int .i64 k ∧ Below W.heap.size W wr) (fun i _ => n - (intOf i).toNat)
  case atStart => exact ⟨0, Nat.zero_le _, rfl, Below.refl _ _⟩
  case round =>
    obtain ⟨k, hk, rfl, B⟩ := hrel
    by_cases hlt : k < n
    · obtain ⟨b, off, ar, cr, r, rfl, hbl, hx, hcell, hi⟩ := HC.out k hlt
      obtain ⟨b', off', ar', cr', r', rfl, hbl', hx', hcell', hi'⟩ := HC'.out k hlt
      obtain rfl : r = r' := Option.some.inj (hx.symm.trans hx')
      have HS : Hid (∀ w9, Below wr.heap.size wr w9 → Calls Try.prog 18 #[.slice ar r.length cr, .slice ar' r.length cr'] w9 fun e w' => e = .returned (.bool true) ∧ Below w9.heap.size w9 w') := Lib.hid fun w9 hb => (sameInts_eq ar ar' r.length cr cr' r w9 (hi.below (B.step hb)) (hi'.below (B.step hb)) (hs r (List.mem_of_getElem? hx))).mono fun e w' ⟨h1, m, h2⟩ => ⟨h1, by rw [h2]; exact below_drewN (Below.refl _ _) m⟩
      have g1 := (B.cell (p := ⟨b, off + k, none⟩) hbl).trans hcell
      have g2 := (B.cell (p := ⟨b', off' + k, none⟩) hbl').trans hcell'
      have z1 := Nat.lt_of_lt_of_le hbl B.size
      have z2 := Nat.lt_of_lt_of_le hbl' B.size
      have hki : (k : Int) < (n : Int) := by omega
      have hk0 : (0 : Int) ≤ (k : Int) := by omega
      clear hx hx' hi hi' hcell hcell' hbl hbl'
      go_wp2
      refine wp_region_wd (by kernel_rfl) (by kernel_rfl) ?_
      repeat (go_big_quiet_step ((first | (go_at_call 18; exact Calls.wd_of (HS.out _ (Wd.h _))))))
      refine wpQuiet_nil ?_
      intro n1
      have bn := n1.h
      go_wp2
      go_roundw
      case rel => exact ⟨k + 1, by omega, by go_num, B.step bn⟩
      case measure => simp [intOf]; omega
    · obtain rfl : k = n := by omega
      go_wp2
      go_ret
      first | exact ⟨rfl, B⟩ | exact B
set_option maxHeartbeats 1000000 in
theorem big_at (W : World) (a : Option Addr) (n cap : Nat) : Calls Try.prog 4 #[.slice a n cap] W fun e w' => e = .returned (.bool (decide ((1048576 : Int) < n))) ∧ w' = W := by
  go_enter Try.func4, Try.ntmps4
  go_wp2
  go_ret
  exact ⟨rfl, rfl⟩
theorem sz_parts {ll : List (List Int)} (h : szIntss ll ≤ 1048576) : ll.length ≤ 1048576 ∧ ∀ r ∈ ll, r.length ≤ 1048576 := by
  unfold szIntss at h
  refine ⟨by omega, fun r hr => ?_⟩
  obtain ⟨k, hk⟩ := List.getElem?_of_mem hr
  have := sumLen_mem hk
  omega
end Go.Proofs.Ytfbmpkdjhhcnpaa

