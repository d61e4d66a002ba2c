/- slices.Index over texts. No condition but the readings. -/
import Derived.Test.YtnjecekaenddiaaCuw
import Derived.Test.YtnjecekaenddiaaPri
import Derived.OwnWalk
namespace Go.Proofs.Ytnjecekaenddiaa
open Go.RowKit
set_option maxRecDepth 100000
set_option linter.unusedVariables false
set_option linter.unusedSimpArgs false

set_option maxHeartbeats 4000000 in
theorem index_at (W : World) (g cap : Nat) (l : List (List UInt8)) (hc : ∀ (j : Nat) t, l[j]? = some t → W.cell? ⟨g, j, none⟩ = some (.string (bs t))) (K : ByteArray) (m : List UInt8) (hK : K = bs m) (hn : l.length ≤ 1048577) :
    Calls Try.prog 42 #[.slice (some ⟨g, 0, none⟩) l.length cap, .string K] W fun e w' => (∃ r : Int, e = .returned (.int .i64 r) ∧ ((r = -1 ∧ ∀ j : Nat, l[j]? ≠ some m) ∨ ∃ k : Nat, r = k ∧ k < l.length ∧ l[k]? = some m ∧ ∀ j : Nat, j < k → l[j]? ≠ some m)) ∧ W = w' := by
  have HC := Lib.hid hc
  have HK := Lib.hid hK
  clear hc hK
  go_enter Try.func42, Try.ntmps42
  go_wp2_with fail
  go_loop [8] (fun i => ∃ k : Nat, k ≤ l.length ∧ i = .int .i64 (k : Int) ∧ ∀ j : Nat, j < k → l[j]? ≠ some m) (fun i => l.length - (intOf i).toNat)
  case atStart => exact ⟨0, by omega, rfl, fun j hj => by omega⟩
  case round =>
    obtain ⟨k, hk, rfl, hno⟩ := hrel
    have HNO := Lib.hid hno
    clear hno
    have hki0 : (0 : Int) ≤ (k : Int) := by omega
    by_cases hlt : k < l.length
    · have hlti : (k : Int) < (l.length : Int) := by omega
      obtain ⟨t, ht⟩ : ∃ t, l[k]? = some t := ⟨_, List.getElem?_eq_getElem hlt⟩
      have hct := HC.out _ t ht
      have HT := Lib.hid ht
      clear ht
      obtain ⟨TT, hTT⟩ : ∃ TT, TT = bs t := ⟨_, rfl⟩
      rw [← hTT] at hct
      have hq := eqS HK.out hTT
      clear hTT
      by_cases hat : m = t
      · rw [decide_eq_true hat] at hq
        have HR : Hid ((k : Int) = -1 ∧ (∀ j : Nat, l[j]? ≠ some m) ∨ ∃ k' : Nat, (k : Int) = k' ∧ k' < l.length ∧ l[k']? = some m ∧ ∀ j : Nat, j < k' → l[j]? ≠ some m) := Lib.hid (.inr ⟨k, rfl, hlt, by rw [HT.out, hat], HNO.out⟩)
        clear hat
        go_wp2_with fail
        go_ret
        exact ⟨⟨_, rfl, HR.out⟩, rfl⟩
      · rw [decide_eq_false hat] at hq
        have HNO2 : Hid (∀ j : Nat, j < k + 1 → l[j]? ≠ some m) := Lib.hid fun j hj => by
          by_cases h : j = k
          · rw [h, HT.out]; simpa using fun e => hat e.symm
          · exact HNO.out j (by omega)
        clear hat
        go_wp2_with fail
        go_round
        case rel => exact ⟨k + 1, by omega, by go_num, HNO2.out⟩
        case measure => simp [intOf]; omega
    · have hkn : k = l.length := by omega
      have hlti : ¬ ((k : Int) < (l.length : Int)) := by omega
      have HN2 : Hid (∀ j : Nat, l[j]? ≠ some m) := Lib.hid fun j e => HNO.out j (by have := lt_of_getElem? e; omega) e
      clear hkn
      go_wp2_with fail
      go_ret
      exact ⟨⟨_, rfl, .inl ⟨rfl, HN2.out⟩⟩, rfl⟩
end Go.Proofs.Ytnjecekaenddiaa
