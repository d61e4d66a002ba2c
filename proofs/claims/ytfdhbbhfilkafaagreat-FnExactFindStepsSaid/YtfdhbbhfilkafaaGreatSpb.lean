/- The bars within a set of points (SpannedBars of the reference). No condition but sizes. -/
import Derived.Test.YtfdhbbhfilkafaaGreatSpa
import Derived.Test.YtfdhbbhfilkafaaGreatIsf
import Derived.Test.YtfdhbbhfilkafaaGreatFwH
namespace Go.Proofs.YtfdhbbhfilkafaaGreat
open Go.RowKit
set_option maxRecDepth 100000
set_option linter.unusedVariables false
set_option linter.unusedSimpArgs false
/-- a bar lies within a set -/
def inS (l : List BarT) (s : List Int) (k : Nat) : Bool := match l[k]? with
  | some x => decide (x.1 ∈ s) && decide (x.2 ∈ s)
  | none => false
def spanL (l : List BarT) (s : List Int) : Nat → List Int
  | 0 => []
  | k + 1 => spanL l s k ++ (if inS l s k = true then [(k : Int)] else [])
theorem spanL_len (l : List BarT) (s : List Int) : ∀ k, (spanL l s k).length ≤ k
  | 0 => Nat.le_refl _
  | k + 1 => by
    have := spanL_len l s k
    unfold spanL
    rw [List.length_append]
    split <;> simp <;> omega
theorem spanL_no {l : List BarT} {s : List Int} {k : Nat} (h : inS l s k = false) : spanL l s (k + 1) = spanL l s k := by
  conv => lhs; unfold spanL; rw [h]
  simp
theorem spanL_yes {l : List BarT} {s : List Int} {k : Nat} (h : inS l s k = true) : spanL l s (k + 1) = spanL l s k ++ [(k : Int)] := by
  conv => lhs; unfold spanL; rw [h]
  simp
set_option maxHeartbeats 4000000 in
theorem specSpan_at (W : World) (p : Int) (a : Option Addr) (cap : Nat) (l : List BarT) (h : BarsAt W a l.length l) (hs : l.length ≤ 1048576) (va : Option Addr) (n vcap : Nat) (s : List Int) (hv : IntsAt W va n s) (hn : n ≤ 1048576) :
    Calls Tryz.prog 141 #[.agg #[.int .i64 p, .slice a l.length cap], .slice va n vcap] W (RetInts W (spanL l s l.length)) := by
  have hwd := @Wd.cells
  have HGr : Hid (IsGraph W (.agg #[.int .i64 p, .slice a l.length cap]) (p, l)) := Lib.hid ⟨a, cap, rfl, h⟩
  have H1 := Lib.hid h
  clear h
  have hsz : szGraph (p, l) ≤ 1048576 := hs
  have hsz2 : szGraph (p, l) ≤ 1099511627776 := Nat.le_trans hsz (by decide)
  have B : Below W.heap.size W (W.alloc (.cells #[.int .i64 p, .slice a l.length cap] 26)) := (Below.refl _ _).alloc (Nat.le_refl _) _
  have BG : Hid (BoxGr (W.alloc (.cells #[.int .i64 p, .slice a l.length cap] 26)) W.heap.size p a l.length cap) := Lib.hid (BoxGr.at rfl)
  have HV := Lib.hid hv
  clear hv
  have ba := belAl (W.alloc (.cells #[.int .i64 p, .slice a l.length cap] 26)) (.cells #[] 3)
  have HO0 : Hid (OwnInts ((W.alloc (.cells #[.int .i64 p, .slice a l.length cap] 26)).alloc (.cells #[] 3)) (W.heap.size + 1) (.slice (some ⟨W.heap.size + 1, 0, none⟩) 0 0) []) := Lib.hid (by have h9 := made_intsS (W.alloc (.cells #[.int .i64 p, .slice a l.length cap] 26)); simpa using h9)
  have hz : W.heap.size + 2 ≤ ((W.alloc (.cells #[.int .i64 p, .slice a l.length cap] 26)).alloc (.cells #[] 3)).heap.size := by simp
  replace B := B.step ba
  replace BG := Lib.hid (BG.out.below ba)
  clear ba
  go_enter Tryz.func141, Tryz.ntmps141
  go_wp2_with fail
  generalize ((W.alloc (.cells #[.int .i64 p, .slice a l.length cap] 26)).alloc (.cells #[] 3)) = u at *
  go_loopw [5, 6] (fun o i w9 => ∃ k : Nat, k ≤ l.length ∧ i = .int .i64 k ∧ OwnInts w9 (W.heap.size + 1) o (spanL l s k) ∧ Below W.heap.size W w9 ∧ BoxGr w9 W.heap.size p a l.length cap ∧ W.heap.size + 2 ≤ w9.heap.size) (fun _ i _ => l.length - (intOf i).toNat)
  case atStart => exact ⟨0, Nat.zero_le _, rfl, HO0.out, B, BG.out, hz⟩
  case round =>
    clear B BG HO0 hz
    obtain ⟨k, hk, rfl, ho, B, bg, hz⟩ := hrel
    have HO := Lib.hid ho
    have BG := Lib.hid bg
    clear ho bg
    have hlk := spanL_len l s k
    obtain ⟨zBG, fBG0, fBG1⟩ := BG.out
    by_cases hlt : k < l.length
    · obtain ⟨bb, off, ⟨x1, x2⟩, rfl, hbl, hx, hc0, hc1⟩ := (H1.out.below B).2 k hlt
      dsimp only at hc0 hc1
      have hki : (k : Int) < (l.length : Int) := by omega
      have hk0 : (0 : Int) ≤ (k : Int) := by omega
      have C1 := Lib.hid (l2Has_at wr va n vcap s (HV.out.below B) (by omega) x1)
      have C2 := Lib.hid (l2Has_at wr va n vcap s (HV.out.below B) (by omega) x2)
      have HI : Hid (inS l s k = (decide (x1 ∈ s) && decide (x2 ∈ s))) := Lib.hid (by unfold inS; rw [hx])
      clear hx
      cases d1 : decide (x1 ∈ s)
      · have HS := Lib.hid (spanL_no (show inS l s k = false by rw [HI.out, d1]; rfl))
        rw [d1] at C1
        clear d1
        go_wp2_with (go_at_call 81; refine C1.out.mono ?_; rintro e w1 ⟨rfl, rfl⟩)
        go_roundw
        case rel => exact ⟨k + 1, by omega, by go_num, by rw [HS.out]; exact HO.out, B, BG.out, hz⟩
        case measure => simp [intOf]; omega
      · cases d2 : decide (x2 ∈ s)
        · have HS := Lib.hid (spanL_no (show inS l s k = false by rw [HI.out, d1, d2]; rfl))
          rw [d1] at C1
          rw [d2] at C2
          clear d1 d2
          go_wp2_with fail
          refine C1.out.mono ?_
          rintro e w1 ⟨rfl, rfl⟩
          go_wp2_with fail
          refine C2.out.mono ?_
          rintro e w1 ⟨rfl, rfl⟩
          go_wp2_with fail
          go_roundw
          case rel => exact ⟨k + 1, by omega, by go_num, by rw [HS.out]; exact HO.out, B, BG.out, hz⟩
          case measure => simp [intOf]; omega
        · have HS := Lib.hid (spanL_yes (show inS l s k = true by rw [HI.out, d1, d2]; rfl))
          rw [d1] at C1
          rw [d2] at C2
          clear d1 d2
          go_wp2_with fail
          refine C1.out.mono ?_
          rintro e w1 ⟨rfl, rfl⟩
          go_wp2_with fail
          refine C2.out.mono ?_
          rintro e w1 ⟨rfl, rfl⟩
          go_wp2_with (at_builtin; refine app1At rfl (.tmp 33) (.tmp 35) rfl rfl HO.out (k : Int) rfl (by omega) (by omega) ?_; intro v5 w5 h5 k5 a5)
          go_roundw
          case rel => exact ⟨k + 1, by omega, by go_num, by rw [HS.out]; exact h5, B.trans (k5.below (by omega) fun j h1 h2 => by have := (HO.out.lt j h2.symm).1; omega), BG.out.kept k5 (fun e => by have := (HO.out.lt _ e.symm).1; omega), Nat.le_trans hz k5.size⟩
          case measure => simp [intOf]; omega
    · obtain rfl : k = l.length := by omega
      go_wp2_with fail
      go_ret
      exact ⟨_, rfl, ownsRow_base HO.out (by omega), B⟩
end Go.Proofs.YtfdhbbhfilkafaaGreat
