/- BuildSteps of the program. No condition but sizes. -/
import Derived.Test.YtmfeabfbhaiaeaaBld0
import Derived.OwnWalk
namespace Go.Proofs.Ytmfeabfbhaiaeaa
open Go.RowKit
set_option maxRecDepth 100000
set_option linter.unusedVariables false
set_option linter.unusedSimpArgs false

set_option maxHeartbeats 16000000 in
theorem implBld_at (W : World) (n : Int) (va : Option Addr) (m vcap : Nat) (s : List StepT) (hv : StepsAt W va m s) (hm : m ≤ 1048576) :
    Calls Try.prog 29 #[.int .i64 n, .slice va m vcap] W (RetGB W (bldF n s).1 (bldF n s).2) := by
  have HV := Lib.hid hv
  have HL := Lib.hid hv.1
  clear hv
  have HZ : Hid (Zer2 (W.alloc (.cells #[.int .i64 0, .slice none 0 0] 32)) W.heap.size) := Lib.hid (Zer2.at W _)
  have B := belAl W (.cells #[.int .i64 0, .slice none 0 0] 32)
  have hz : W.heap.size + 1 ≤ (W.alloc (.cells #[.int .i64 0, .slice none 0 0] 32)).heap.size := by simp
  have hz' : (W.alloc (.cells #[.int .i64 0, .slice none 0 0] 32)).heap.size ≤ W.heap.size + 1 := by simp
  cases hb : inB n 1 8
  · have HE : Hid (bldF n s = ((0, []), false)) := Lib.hid (by unfold bldF; rw [hb]; rfl)
    have HW : Hid (∀ w, Calls Try.prog 70 #[.int .i64 n, .int .i64 1, .int .i64 8] w fun e w' => e = .returned (.bool false) ∧ w = w') := Lib.hid fun w => by have := within_any n 1 8 w; rwa [hb] at this
    clear hb
    go_enter Try.func29, Try.ntmps29
    go_upto_region 1 with (fail)
    generalize (W.alloc (.cells #[.int .i64 0, .slice none 0 0] 32)) = u at *
    obtain ⟨⟨r0, r1, r2, c0, c1x⟩, ⟨y0, y1⟩, zg⟩ := HZ.out
    go_wp2_with (go_at_call 70; refine (HW.out _).mono ?_; rintro e w1 ⟨rfl, rfl⟩)
    refine bodyPost_ret (v := .tuple #[.agg #[.int .i64 0, .slice none 0 0], .bool false]) (by simp [results, Try.results29, go_sem, zg, c0, c1x]) rfl ?_
    rw [HE.out]
    exact ⟨_, rfl, ⟨.slice none 0 0, ⟨none, 0, rfl, rfl⟩, OwnBars.nil _ _⟩, (B.setCell (p := ⟨W.heap.size, 0, none⟩) (by simp) _).setCell (p := ⟨W.heap.size, 1, none⟩) (by simp) _⟩
  have HW : Hid (∀ w, Calls Try.prog 70 #[.int .i64 n, .int .i64 1, .int .i64 8] w fun e w' => e = .returned (.bool true) ∧ w = w') := Lib.hid fun w => by have := within_any n 1 8 w; rwa [hb] at this
  have HS : Hid (bldF n s = match bldTo n s s.length with | some g => (g, true) | none => ((0, []), false)) := Lib.hid (by unfold bldF; rw [hb]; rfl)
  clear hb
  have bs0 := belAl (W.alloc (.cells #[.int .i64 0, .slice none 0 0] 32)) (.cells #[.int .i64 n, .slice none 0 0] 32)
  have BS : Hid (BldS W ((W.alloc (.cells #[.int .i64 0, .slice none 0 0] 32)).alloc (.cells #[.int .i64 n, .slice none 0 0] 32)) (W.heap.size + 1) (W.heap.size + 2) n none 0 []) := Lib.hid ⟨BoxGr.at (by simp), by simp, by simp, OwnBars.nil _ _, by omega, HZ.out.below bs0, B.step bs0, by simp⟩
  clear B HZ bs0
  go_enter Try.func29, Try.ntmps29
  go_wp2_with (go_at_call 70; refine (HW.out _).mono ?_; rintro e w1 ⟨rfl, rfl⟩)
  generalize ((W.alloc (.cells #[.int .i64 0, .slice none 0 0] 32)).alloc (.cells #[.int .i64 n, .slice none 0 0] 32)) = u at *
  go_loopw [19] (fun i w9 => ∃ (k : Nat) (p : Int) (a : Option Addr) (c : Nat) (l : List BarT), k ≤ m ∧ i = .int .i64 k ∧ bldTo n s k = some (p, l) ∧ BldS W w9 (W.heap.size + 1) (W.heap.size + 2) p a c l) (fun i _ => m - (intOf i).toNat)
  case atStart => exact ⟨0, n, none, 0, [], Nat.zero_le _, rfl, rfl, BS.out⟩
  case round =>
    clear BS
    obtain ⟨k, p, a, c, l, hk, rfl, hto, hbs⟩ := hrel
    have HT := Lib.hid hto
    have BS := Lib.hid hbs
    have h24 : l.length ≤ 24 := bldTo_24 hto
    clear hto hbs
    by_cases hlt : k < m
    · obtain ⟨b, off, ⟨kd, pt, x, y, z⟩, rfl, hbl, hx, d0, d1, d2, d3, d4⟩ := (HV.out.below BS.out.b).2 k hlt
      dsimp only at d0 d1 d2 d3 d4
      have HX := Lib.hid hx
      clear hx
      have hki : (k : Int) < (m : Int) := by omega
      have hk0 : (0 : Int) ≤ (k : Int) := by omega
      have b1 := belAl wr (.cells #[.int .i64 kd, .int .i64 pt, .int .i64 x, .int .i64 y, .int .i64 z] 52)
      have ST : Hid (BoxSt (wr.alloc (.cells #[.int .i64 kd, .int .i64 pt, .int .i64 x, .int .i64 y, .int .i64 z] 52)) wr.heap.size kd pt x y z) := Lib.hid (BoxSt.at rfl)
      have BS1 := Lib.hid (BS.out.below b1)
      have HI : Hid (IsGraph (wr.alloc (.cells #[.int .i64 kd, .int .i64 pt, .int .i64 x, .int .i64 y, .int .i64 z] 52)) (.agg #[.int .i64 p, .slice a l.length c]) (p, l)) := Lib.hid (OwnGraph.form ⟨_, ⟨a, c, rfl, rfl⟩, BS1.out.ob⟩)
      obtain ⟨zST, fS0, fS1, fS2, fS3, fS4⟩ := ST.out
      obtain ⟨zB, fB0, fB1⟩ := BS1.out.bx
      have hzr : (wr.alloc (.cells #[.int .i64 kd, .int .i64 pt, .int .i64 x, .int .i64 y, .int .i64 z] 52)).heap.size = wr.heap.size + 1 := by simp
      go_wp2_with fail
      generalize (wr.alloc (.cells #[.int .i64 kd, .int .i64 pt, .int .i64 x, .int .i64 y, .int .i64 z] 52)) = w1 at *
      clear zST fS0 fS1 fS2 fS3 fS4 zB fB0 fB1 d0 d1 d2 d3 d4
      have HC := Lib.hid (impl_ApplyStep w1 _ (p, l) HI.out (kd, pt, x, y, z) (show l.length ≤ 1048576 by omega))
      obtain ⟨⟨p', l'⟩, hR⟩ : ∃ R, R = (stepF (p, l) (kd, pt, x, y, z)).1 := ⟨_, rfl⟩
      cases ho : (stepF (p, l) (kd, pt, x, y, z)).2
      · have HN := Lib.hid (bldTo_no HT.out HX.out ho)
        have HE : Hid (bldF n s = ((0, []), false)) := Lib.hid (by rw [HS.out, HN.out])
        rw [ho, ← hR] at HC
        clear ho hR
        refine HC.out.mono ?_
        rintro e w2 ⟨v2, rfl, o2, b2⟩
        obtain ⟨vb2, ⟨a2, c2, rfl, rfl⟩, ob2⟩ := o2
        dsimp only at ob2
        have b3 := belAl w2 (.cells #[.int .i64 p', .slice a2 l'.length c2] 32)
        have BS3 := Lib.hid ((BS1.out.below b2).below b3)
        obtain ⟨⟨r0, r1, r2, c0, c1x⟩, ⟨y0, y1⟩, zg⟩ := BS3.out.rz
        go_wp2_with fail
        refine bodyPost_ret (v := .tuple #[.agg #[.int .i64 0, .slice none 0 0], .bool false]) (by simp [results, Try.results29, go_sem, zg, c0, c1x]) rfl ?_
        rw [HE.out]
        exact ⟨_, rfl, ⟨.slice none 0 0, ⟨none, 0, rfl, rfl⟩, OwnBars.nil _ _⟩, (BS3.out.b.setCell (p := ⟨W.heap.size, 0, none⟩) (by simp) _).setCell (p := ⟨W.heap.size, 1, none⟩) (by simp) _⟩
      · have HY := Lib.hid (bldTo_yes HT.out HX.out ho)
        rw [← hR] at HY
        rw [ho, ← hR] at HC
        clear ho hR
        refine HC.out.mono ?_
        rintro e w2 ⟨v2, rfl, o2, b2⟩
        obtain ⟨vb2, ⟨a2, c2, rfl, rfl⟩, ob2⟩ := o2
        dsimp only at ob2
        have hz2 := b2.size
        have b3 := belAl w2 (.cells #[.int .i64 p', .slice a2 l'.length c2] 32)
        have BS3 := Lib.hid ((BS1.out.below b2).below b3)
        have BX : Hid (BoxGr (w2.alloc (.cells #[.int .i64 p', .slice a2 l'.length c2] 32)) w2.heap.size p' a2 l'.length c2) := Lib.hid (BoxGr.at rfl)
        have hsz := BS1.out.sz
        have BS4 := Lib.hid (BS3.out.set (p' := p') (a' := a2) (c' := c2) (l' := l') (lo := w1.heap.size) (by omega) (ob2.below b3) hsz (by omega))
        obtain ⟨zB, fB0, fB1⟩ := BS3.out.bx
        obtain ⟨zX, fX0, fX1⟩ := BX.out
        have g0 := BS3.out.f0
        have g1 := BS3.out.f1
        go_wp2_with fail
        go_roundw
        case rel => exact ⟨k + 1, p', a2, c2, l', by omega, by go_num, HY.out, BS4.out⟩
        case measure => simp [intOf]; omega
    · obtain rfl : k = m := by omega
      have HE : Hid (bldF n s = ((p, l), true)) := Lib.hid (by rw [HS.out, HL.out, HT.out])
      obtain ⟨zB, fB0, fB1⟩ := BS.out.bx
      obtain ⟨⟨r0, r1, r2, c0, c1x⟩, ⟨y0, y1⟩, zg⟩ := BS.out.rz
      have hsz := BS.out.sz
      go_wp2_with fail
      refine bodyPost_ret (v := .tuple #[.agg #[.int .i64 p, .slice a l.length c], .bool true]) (by simp [results, Try.results29, go_sem, zg, c0, c1x]) rfl ?_
      rw [HE.out]
      exact ⟨_, rfl, laid2 BS.out.ob (by omega) (by omega) (by omega) BS.out.b⟩
end Go.Proofs.Ytmfeabfbhaiaeaa
