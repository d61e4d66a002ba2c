/- What a step asks of a graph, the program's side: degrees, the place of a bar, different points, bars put in. No condition but sizes. -/
import Derived.Test.YtfdhbbhfilkafaaGreatStp1
import Derived.Test.YtfdhbbhfilkafaaGreatCpy
import Derived.Test.YtfdhbbhfilkafaaGreatOnl
import Derived.Test.YtfdhbbhfilkafaaGreatBox
import Derived.Deep.RegionHeld3
import Derived.Deep.QuietTactic
import Derived.BigQuiet
import Derived.BigRegion
namespace Go.Proofs.YtfdhbbhfilkafaaGreat
open Go.RowKit
set_option maxRecDepth 100000
set_option linter.unusedVariables false
set_option linter.unusedSimpArgs false

set_option maxHeartbeats 1000000 in
theorem hasB_any (W : World) (a b v : Int) :
    Calls Tryz.prog 139 #[.agg #[.int .i64 a, .int .i64 b], .int .i64 v] W fun e w' => e = .returned (.bool (decide (a = v ∨ b = v))) ∧ Below W.heap.size W w' := by
  by_cases h1 : a = v <;> by_cases h2 : b = v
  all_goals
    have h3 : (a == v) = decide (a = v) := rfl
    have h4 : (b == v) = decide (b = v) := rfl
    simp only [h1, h2, decide_true, decide_false] at h3 h4
    go_enter Tryz.func139, Tryz.ntmps139
    go_wp2_with fail
    go_ret
    exact ⟨by simp [h1, h2], (Below.refl _ _).alloc (Nat.le_refl _) _⟩
set_option maxHeartbeats 4000000 in
theorem implDeg_at (W : World) (p : Int) (a : Option Addr) (cap : Nat) (l : List BarT) (h : BarsAt W a l.length l) (hs : l.length ≤ 1048576) (v : Int) : Calls Tryz.prog 102 #[.agg #[.int .i64 p, .slice a l.length cap], .int .i64 v] W fun e w' => e = .returned (.int .i64 (degB l v)) ∧ Below W.heap.size W w' := by
  have hwd := @Wd.cells
  have HGr : Hid (IsGraph W (.agg #[.int .i64 p, .slice a l.length cap]) (p, l)) := Lib.hid ⟨a, cap, rfl, h⟩
  have H1 := Lib.hid h
  clear h
  have hsz : szGraph (p, l) ≤ 1048576 := hs
  have hsz2 : szGraph (p, l) ≤ 1099511627776 := Nat.le_trans hsz (by decide)
  have B : Below W.heap.size W (W.alloc (.cells #[.int .i64 p, .slice a l.length cap] 26)) := (Below.refl _ _).alloc (Nat.le_refl _) _
  have BG : Hid (BoxGr (W.alloc (.cells #[.int .i64 p, .slice a l.length cap] 26)) W.heap.size p a l.length cap) := Lib.hid (BoxGr.at rfl)
  go_enter Tryz.func102, Tryz.ntmps102
  obtain ⟨zBG, fBG0, fBG1⟩ := BG.out
  go_wp2_with fail
  clear zBG fBG0 fBG1
  generalize (W.alloc (.cells #[.int .i64 p, .slice a l.length cap] 26)) = u at *
  go_loopw [5, 11] (fun c i w9 => ∃ k : Nat, k ≤ l.length ∧ i = .int .i64 k ∧ c = .int .i64 (degTo l v k) ∧ Below W.heap.size W w9) (fun _ i _ => l.length - (intOf i).toNat)
  case atStart => exact ⟨0, Nat.zero_le _, rfl, rfl, B⟩
  case round =>
    obtain ⟨k, hk, rfl, rfl, B1⟩ := hrel
    have hbd := degTo_bd l v k
    by_cases hlt : k < l.length
    · obtain ⟨bb, off, ⟨x1, x2⟩, rfl, hbl, hx, hc0, hc1⟩ := (H1.out.below B1).2 k hlt
      dsimp only at hc0 hc1
      have hki : (k : Int) < (l.length : Int) := by omega
      have hk0 : (0 : Int) ≤ (k : Int) := by omega
      have HS : Hid (degTo l v (k + 1) = if x1 = v ∨ x2 = v then degTo l v k + 1 else degTo l v k) := Lib.hid (by simp only [degTo, hx])
      clear hx
      have ba := belAl wr (.cells #[.int .i64 x1, .int .i64 x2] 78)
      by_cases h1 : x1 = v ∨ x2 = v
      · have HT := Lib.hid (HS.out.trans (if_pos h1))
        have HC : Hid (∀ w, Calls Tryz.prog 139 #[.agg #[.int .i64 x1, .int .i64 x2], .int .i64 v] w fun e w' => e = .returned (.bool true) ∧ Below w.heap.size w w') := Lib.hid fun w => by have := hasB_any w x1 x2 v; rwa [decide_eq_true h1] at this
        clear h1
        generalize degTo l v k = D at *
        go_wp2_with (go_at_call 139; refine (HC.out _).mono ?_; rintro e w1 ⟨rfl, b⟩)
        go_roundw
        case rel => exact ⟨k + 1, by omega, by go_num, by rw [HT.out], (B1.step ba).step b⟩
        case measure => simp [intOf]; omega
      · have HT := Lib.hid (HS.out.trans (if_neg h1))
        have HC : Hid (∀ w, Calls Tryz.prog 139 #[.agg #[.int .i64 x1, .int .i64 x2], .int .i64 v] w fun e w' => e = .returned (.bool false) ∧ Below w.heap.size w w') := Lib.hid fun w => by have := hasB_any w x1 x2 v; rwa [decide_eq_false h1] at this
        clear h1
        generalize degTo l v k = D at *
        go_wp2_with (go_at_call 139; refine (HC.out _).mono ?_; rintro e w1 ⟨rfl, b⟩)
        go_roundw
        case rel => exact ⟨k + 1, by omega, by go_num, by rw [HT.out], (B1.step ba).step b⟩
        case measure => simp [intOf]; omega
    · obtain rfl : k = l.length := by omega
      go_wp2_with fail
      go_ret
      exact ⟨rfl, B1⟩
set_option maxHeartbeats 2000000 in
theorem indexB_at (W : World) (a : Option Addr) (n cap : Nat) (l : List BarT) (h : BarsAt W a n l) (hn : n ≤ 1048576) (x1 x2 : Int) :
    Calls Tryz.prog 103 #[.slice a n cap, .agg #[.int .i64 x1, .int .i64 x2]] W fun e w' => e = .returned (.int .i64 (idxB l (x1, x2))) ∧ Below W.heap.size W w' := by
  have HL := Lib.hid h.1
  have HV := Lib.hid h
  clear h
  have hwd := @Wd.cells
  have B := belAl W (.cells #[.int .i64 x1, .int .i64 x2] 78)
  have BP : Hid (BoxPl (W.alloc (.cells #[.int .i64 x1, .int .i64 x2] 78)) W.heap.size x1 x2) := Lib.hid (BoxPl.at rfl)
  go_enter Tryz.func103, Tryz.ntmps103
  go_wp2_with fail
  generalize (W.alloc (.cells #[.int .i64 x1, .int .i64 x2] 78)) = u at *
  go_loopw [8] (fun i w9 => ∃ k : Nat, k ≤ n ∧ i = .int .i64 k ∧ (x1, x2) ∉ l.take k ∧ Below W.heap.size W w9 ∧ BoxPl w9 W.heap.size x1 x2) (fun i _ => n - (intOf i).toNat)
  case atStart => exact ⟨0, Nat.zero_le _, rfl, by simp, B, BP.out⟩
  case round =>
    clear B BP
    obtain ⟨k, hk, rfl, hnm, B, bp⟩ := hrel
    have HN := Lib.hid hnm
    have BP := Lib.hid bp
    clear hnm bp
    by_cases hlt : k < n
    · obtain ⟨b, off, ⟨y1, y2⟩, rfl, hbl, hx, hc0, hc1⟩ := (HV.out.below B).2 k hlt
      dsimp only at hc0 hc1
      have HX := Lib.hid hx
      clear hx
      have hki : (k : Int) < (n : Int) := by omega
      have hk0 : (0 : Int) ≤ (k : Int) := by omega
      obtain ⟨zF, f0, f1⟩ := BP.out
      have hbw : b < wr.heap.size := by have := B.size; omega
      by_cases hxy : ((x1, x2) : BarT) = (y1, y2)
      · have hq := fun w => eqlBar_t hxy w
        have HE := Lib.hid (idxB_at (HX.out.trans (congrArg some hxy.symm)) HN.out)
        clear hxy
        go_wp2_with fail
        refine wp_region_wd (by kernel_rfl) (by kernel_rfl) ?_
        repeat (go_big_quiet_step (fail))
        refine wpQuiet_nil ?_
        intro n1
        have b1 := n1.h
        go_wp2_with fail
        go_ret
        exact ⟨by rw [HE.out]; rfl, B.step b1⟩
      · have hq := fun w => eqlBar_f hxy w
        have HT := Lib.hid (notMemB HN.out HX.out hxy)
        clear hxy
        go_wp2_with fail
        refine wp_region_wd (by kernel_rfl) (by kernel_rfl) ?_
        repeat (go_big_quiet_step (fail))
        refine wpQuiet_nil ?_
        intro n1
        have b1 := n1.h
        go_wp2_with fail
        go_roundw
        case rel => exact ⟨k + 1, by omega, by go_num, HT.out, B.step b1, BP.out.below b1⟩
        case measure => simp [intOf]; omega
    · obtain rfl : k = n := by omega
      have HE := Lib.hid (idxB_none (s := l) (x := (x1, x2)) (by have := HN.out; rwa [← HL.out] at this))
      go_wp2_with fail
      go_ret
      exact ⟨by rw [HE.out]; rfl, B⟩
set_option maxHeartbeats 4000000 in
theorem areDif_at (W : World) (p : Int) (a : Option Addr) (cap : Nat) (l : List BarT) (h : BarsAt W a l.length l) (hs : l.length ≤ 1048576) (va : Option Addr) (n : Nat) (s : List Int) (hv : IntsAt W va n s) (hvn : n ≤ 1048576) (hp : 1 ≤ p ∧ p ≤ 8) : Calls Tryz.prog 99 #[.agg #[.int .i64 p, .slice a l.length cap], .slice va n n] W fun e w' => e = .returned (.bool (difB p s)) ∧ Below W.heap.size W w' := by
  have hwd := @Wd.cells
  have HGr : Hid (IsGraph W (.agg #[.int .i64 p, .slice a l.length cap]) (p, l)) := Lib.hid ⟨a, cap, rfl, h⟩
  have H1 := Lib.hid h
  clear h
  have hsz : szGraph (p, l) ≤ 1048576 := hs
  have hsz2 : szGraph (p, l) ≤ 1099511627776 := Nat.le_trans hsz (by decide)
  have B : Below W.heap.size W (W.alloc (.cells #[.int .i64 p, .slice a l.length cap] 26)) := (Below.refl _ _).alloc (Nat.le_refl _) _
  have BG : Hid (BoxGr (W.alloc (.cells #[.int .i64 p, .slice a l.length cap] 26)) W.heap.size p a l.length cap) := Lib.hid (BoxGr.at rfl)
  have HV := Lib.hid hv
  have HL := Lib.hid hv.1
  clear hv
  go_enter Tryz.func99, Tryz.ntmps99
  go_wp2_with fail
  generalize (W.alloc (.cells #[.int .i64 p, .slice a l.length cap] 26)) = u at *
  go_loopw [9] (fun i w9 => ∃ k : Nat, k ≤ n ∧ i = .int .i64 k ∧ difTo p s k = true ∧ Below W.heap.size W w9 ∧ BoxGr w9 W.heap.size p a l.length cap) (fun i _ => n - (intOf i).toNat)
  case atStart => exact ⟨0, Nat.zero_le _, rfl, rfl, B, BG.out⟩
  case round =>
    clear B BG
    obtain ⟨k, hk, rfl, hd, B, bg⟩ := hrel
    have BG := Lib.hid bg
    have HD := Lib.hid hd
    clear hd bg
    by_cases hlt : k < n
    · obtain ⟨b, off, y, rfl, hbl, hy, hcell⟩ := (HV.out.below B).2 k hlt
      have HY := Lib.hid hy
      have HC : Hid (∀ w, Below W.heap.size W w → ∀ cp, Calls Tryz.prog 125 #[.slice (some ⟨b, off, none⟩) k cp, .int .i64 y] w fun e w' => e = .returned (.bool (decide (y ∈ s.take k))) ∧ w = w') :=
        Lib.hid fun w hw cp => (containsI_at w _ k cp _ ((HV.out.below hw).takeS (by omega)) (by omega) y)
      clear hy
      have hki : (k : Int) < (n : Int) := by omega
      have hk0 : (0 : Int) ≤ (k : Int) := by omega
      have hkn : (k : Int) ≤ (n : Int) := by omega
      have hS : ∀ w, (Instr.slice 35 (.slice (some ⟨b, off, none⟩) n n) none (some (.int .i64 (k : Int))) none).run Tryz.prog w = .ok (.slice (some ⟨b, off, none⟩) k n) w := fun w => by go_simp
      have HH : Hid (∀ w, Calls Tryz.prog 137 #[.agg #[.int .i64 p, .slice a l.length cap], .int .i64 y] w fun e w' => e = .returned (.bool (inB y 0 (p - 1))) ∧ Below w.heap.size w w') := Lib.hid fun w => hasG_any w p a l.length cap y hp.1 hp.2
      obtain ⟨zBG, fBG0, fBG1⟩ := BG.out
      cases e1 : inB y 0 (p - 1)
      · rw [e1] at HH
        have HF := Lib.hid (ret_bool (difB_not (p := p) HY.out (.inl e1)))
        clear e1
        go_wp2_with (go_at_call 137; refine (HH.out _).mono ?_; rintro e w1 ⟨rfl, b⟩)
        go_ret
        exact ⟨HF.out.symm, B.step b⟩
      · rw [e1] at HH
        by_cases e3 : y ∈ s.take k
        · have HF := Lib.hid (ret_bool (difB_not (p := p) HY.out (.inr e3)))
          rw [decide_eq_true e3] at HC
          clear e1 e3
          go_wp2_with (go_at_call 137; refine (HH.out _).mono ?_; rintro e w1 ⟨rfl, b⟩)
          refine (HC.out _ (B.step b) _).mono ?_
          rintro e w2 ⟨rfl, rfl⟩
          go_wp2_with fail
          go_ret
          exact ⟨HF.out.symm, B.step b⟩
        · have HT := Lib.hid (difTo_succ HD.out HY.out e1 e3)
          rw [decide_eq_false e3] at HC
          clear e1 e3
          go_wp2_with (go_at_call 137; refine (HH.out _).mono ?_; rintro e w1 ⟨rfl, b⟩)
          refine (HC.out _ (B.step b) _).mono ?_
          rintro e w2 ⟨rfl, rfl⟩
          go_wp2_with fail
          go_roundw
          case rel => exact ⟨k + 1, by omega, by go_num, HT.out, B.step b, BG.out.below b⟩
          case measure => simp [intOf]; omega
    · obtain rfl : k = n := by omega
      have HE := Lib.hid (show difB p s = true by have h1 := HD.out; unfold difB; rwa [HL.out])
      go_wp2_with fail
      go_ret
      exact ⟨by rw [HE.out]; rfl, B⟩
end Go.Proofs.YtfdhbbhfilkafaaGreat
