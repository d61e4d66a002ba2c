/- ComponentOfBar of the reference (written by gen_cobs.py). -/
import Derived.Test.YtmfeabfbhaiaeaaCob
import Derived.Test.YtmfeabfbhaiaeaaIsm
namespace Go.Proofs.Ytmfeabfbhaiaeaa
open Go.RowKit
set_option maxRecDepth 100000
set_option linter.unusedVariables false
set_option linter.unusedSimpArgs false

set_option maxHeartbeats 16000000 in
theorem specCob_at (W : World) (p : Int) (a : Option Addr) (cap : Nat) (l : List BarT) (h : BarsAt W a l.length l) (hs : l.length ≤ 1048576) (hg : isGraphB (p, l) = true) (k : Nat) (hk : k < l.length) :
    Calls Try.prog 45 #[.agg #[.int .i64 p, .slice a l.length cap], .int .i64 (k : Int)] W (RetInts W (cobL (p, l) k p.toNat)) := by
  have hwd := @Wd.cells
  have HGr : Hid (IsGraph W (.agg #[.int .i64 p, .slice a l.length cap]) (p, l)) := Lib.hid ⟨a, cap, rfl, h⟩
  have H1 := Lib.hid h
  clear h
  have hsz : szGraph (p, l) ≤ 1048576 := hs
  have hsz2 : szGraph (p, l) ≤ 1099511627776 := Nat.le_trans hsz (by decide)
  have B : Below W.heap.size W (W.alloc (.cells #[.int .i64 p, .slice a l.length cap] 32)) := (Below.refl _ _).alloc (Nat.le_refl _) _
  have BG : Hid (BoxGr (W.alloc (.cells #[.int .i64 p, .slice a l.length cap] 32)) W.heap.size p a l.length cap) := Lib.hid (BoxGr.at rfl)
  have hbd := isGraphB_bd hg
  obtain ⟨n, rfl⟩ := Int.eq_ofNat_of_zero_le (show 0 ≤ p by omega)
  have hn8 : 1 ≤ n ∧ n ≤ 8 := by omega
  rw [Int.toNat_natCast]
  have hba := belAl (W.alloc (.cells #[.int .i64 (n : Int), .slice a l.length cap] 32)) (.cells #[] 3)
  have HO0 : Hid (OwnInts ((W.alloc (.cells #[.int .i64 (n : Int), .slice a l.length cap] 32)).alloc (.cells #[] 3)) (W.heap.size + 1) (.slice (some ⟨W.heap.size + 1, 0, none⟩) 0 0) []) := Lib.hid (by have h9 := OwnInts.made (W.alloc (.cells #[.int .i64 (n : Int), .slice a l.length cap] 32)) (W.heap.size + 1) (by simp); simpa using h9)
  have hzu : W.heap.size + 2 ≤ ((W.alloc (.cells #[.int .i64 (n : Int), .slice a l.length cap] 32)).alloc (.cells #[] 3)).heap.size := by simp
  replace B := B.step hba
  replace BG := Lib.hid (BG.out.below hba)
  have HG := Lib.hid hg
  have hin : inB (k : Int) 0 ((l.length : Int) - 1) = true := by simp [inB]; omega
  clear hba hg
  go_enter Try.func45, Try.ntmps45
  go_wp2_with fail
  generalize ((W.alloc (.cells #[.int .i64 (n : Int), .slice a l.length cap] 32)).alloc (.cells #[] 3)) = u at *
  obtain ⟨zBG, fBG0, fBG1⟩ := BG.out
  try go_wp2_with fail
  refine (specIsGraph_at _ _ _ _ _ (H1.out.below B) (by omega)).mono ?_
  rintro e w1 ⟨rfl, b1⟩
  rw [HG.out]
  obtain ⟨zB1, gB0, gB1⟩ := BG.out.below b1
  have B1 := B.step b1
  obtain ⟨bb, off, ⟨c1, c2⟩, rfl, hbl, hxb, d0, d1⟩ := (H1.out.below B1).2 k hk
  dsimp only at d0 d1
  have HGB := Lib.hid (show gB (((n : Int), l) : GraphT).2 k = (c1, c2) by unfold gB; rw [show (((n : Int), l) : GraphT).2 = l from rfl, hxb]; rfl)
  have s1 : (0 : Int) ≤ (k : Int) := by omega
  have s3 : ¬ (k : Int) < 0 := by omega
  have s2 : (k : Int) < (l.length : Int) := by omega
  clear hxb
  have hzw : u.heap.size ≤ w1.heap.size := b1.size
  have HO1 := Lib.hid (HO0.out.below b1)
  go_wp2_with fail
  clear zBG fBG0 fBG1 zB1 gB0 gB1 d0 d1
  have hd1 : decide (l.length ≤ k) = false := by simp; omega
  simp only [hd1, Bool.or_false]
  clear hd1
  go_loopw [5, 8] (fun s i w9 => ∃ v : Nat, v ≤ n ∧ i = .int .i64 v ∧ OwnInts w9 (W.heap.size + 1) s (cobL ((n : Int), l) k v) ∧ Below (W.heap.size + 1) u w9) (fun _ i _ => n - (intOf i).toNat)
  case atStart => exact ⟨0, Nat.zero_le _, rfl, HO1.out, b1.mono (by omega)⟩
  case round =>
    obtain ⟨v, hv, rfl, ho, hbw⟩ := hrel
    have HO := Lib.hid ho
    clear ho
    have hvl := cobL_len ((n : Int), l) k v
    have BW := B.trans (hbw.mono (by omega))
    have BGr := Lib.hid (show BoxGr wr W.heap.size n (some ⟨bb, off, none⟩) l.length cap from ⟨Nat.lt_of_lt_of_le BG.out.1 hbw.size, (hbw.cell (p := ⟨W.heap.size, 0, none⟩) (by simp)).trans BG.out.2.1, (hbw.cell (p := ⟨W.heap.size, 1, none⟩) (by simp)).trans BG.out.2.2⟩)
    obtain ⟨zBG, fBG0, fBG1⟩ := BGr.out
    have hzr := hbw.size
    by_cases hlt : v < n
    · have hlti : (v : Int) < (n : Int) := by omega
      go_wp2_with fail
      refine (specImp_at _ _ _ _ _ (H1.out.below BW) hs _ _).mono ?_
      rintro e w5 ⟨rfl, b5⟩
      have BG5 := Lib.hid (BGr.out.below b5)
      have HO5 := Lib.hid (HO.out.below b5)
      have hb5 := hbw.trans (b5.mono (by omega))
      have BW5 := BW.step b5
      clear zBG fBG0 fBG1
      cases h1 : impB ((n : Int), l) c1 v
      · have HS := Lib.hid (cobL_no1 HGB.out h1)
        go_wp2_with fail
        go_roundw
        case rel => exact ⟨v + 1, hlt, by go_num, by rw [HS.out]; exact HO5.out, hb5⟩
        case measure => simp [intOf]; omega
      obtain ⟨zBG, fBG0, fBG1⟩ := BG5.out
      have H11 := Lib.hid h1
      clear h1
      go_wp2_with fail
      refine (specImp_at _ _ _ _ _ (H1.out.below BW5) hs _ _).mono ?_
      rintro e w6 ⟨rfl, b6⟩
      have HO6 := Lib.hid (HO5.out.below b6)
      have hz5 := hb5.size
      have hb6 := hb5.trans (b6.mono (by omega))
      have hz6 := hb6.size
      clear zBG fBG0 fBG1
      cases h2 : impB ((n : Int), l) c2 v
      · have HS := Lib.hid (cobL_no2 HGB.out h2)
        go_wp2_with fail
        go_roundw
        case rel => exact ⟨v + 1, hlt, by go_num, by rw [HS.out]; exact HO6.out, hb6⟩
        case measure => simp [intOf]; omega
      have HS := Lib.hid (cobL_yes HGB.out H11.out h2)
      clear h2
      have hb6z : W.heap.size + 1 ≤ w6.heap.size := by omega
      have hl6 : (cobL ((n : Int), l) k v).length < 1099511627776 := by omega
      go_wp2_with (at_builtin; refine app1At rfl (.tmp 53) (.tmp 55) rfl rfl HO6.out (v : Int) rfl hl6 hb6z ?_; intro v' w8 h8 k8 a8)
      go_roundw
      case rel =>
        exact ⟨v + 1, hlt, by go_num, by rw [HS.out]; exact h8, hb6.trans (k8.setOwn HO6.out (Nat.le_refl _) hb6z)⟩
      case measure => simp [intOf]; omega
    · obtain rfl : v = n := by omega
      go_wp2_with fail
      go_ret
      exact ⟨_, rfl, by have h9 := HO.out; exact ownsRow_base h9 (by omega), BW⟩
end Go.Proofs.Ytmfeabfbhaiaeaa
