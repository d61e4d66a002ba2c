/- OvercountedSet, IsSparse and IsTight of the reference. No condition but sizes. -/
import Derived.Test.YtfdhbbhfilkafaaGreatOvr0
import Derived.Lib.MinMax
namespace Go.Proofs.YtfdhbbhfilkafaaGreat
open Go.RowKit
set_option maxRecDepth 100000
set_option linter.unusedVariables false
set_option linter.unusedSimpArgs false
theorem pow8 {P : Nat} (h : P ≤ 8) : 1 ≤ 2 ^ P ∧ 2 ^ P ≤ 256 := ⟨Nat.one_le_two_pow, Nat.pow_le_pow_right (by decide) h⟩
def RetOv (W : World) (b : Bool) (e : Ending) (w' : World) : Prop := (∃ v, e = .returned (.tuple #[v, .bool b])) ∧ Below W.heap.size W w'
set_option maxHeartbeats 4000000 in
theorem specOvc_at (W : World) (p : Int) (a : Option Addr) (cap : Nat) (l : List BarT) (h : BarsAt W a l.length l) (hs : l.length ≤ 1048576) (k r : Int) :
    Calls Tryz.prog 110 #[.agg #[.int .i64 p, .slice a l.length cap], .int .i64 k, .int .i64 r] W (RetOv W (ovcB (p, l) k r)) := by
  have hwd := @Wd.cells
  have HGr : Hid (IsGraph W (.agg #[.int .i64 p, .slice a l.length cap]) (p, l)) := Lib.hid ⟨a, cap, rfl, h⟩
  have H1 := Lib.hid h
  clear h
  have hsz : szGraph (p, l) ≤ 1048576 := hs
  have hsz2 : szGraph (p, l) ≤ 1099511627776 := Nat.le_trans hsz (by decide)
  have B : Below W.heap.size W (W.alloc (.cells #[.int .i64 p, .slice a l.length cap] 26)) := (Below.refl _ _).alloc (Nat.le_refl _) _
  have BG : Hid (BoxGr (W.alloc (.cells #[.int .i64 p, .slice a l.length cap] 26)) W.heap.size p a l.length cap) := Lib.hid (BoxGr.at rfl)
  have HCG : Hid (∀ w1 : World, Below W.heap.size W w1 → Calls Tryz.prog 59 #[.agg #[.int .i64 p, .slice a l.length cap]] w1 fun e w' => e = .returned (.bool (isGraphB (p, l))) ∧ Below w1.heap.size w1 w') := Lib.hid fun w1 b => spec_IsGraph_is w1 _ (p, l) (HGr.out.below b) hsz2
  go_enter Tryz.func110, Tryz.ntmps110
  go_wp2_with fail
  generalize (W.alloc (.cells #[.int .i64 p, .slice a l.length cap] 26)) = u at *
  refine (HCG.out _ B).mono ?_
  rintro e w1 ⟨rfl, b⟩
  have hz1 := b.size
  replace B := B.step b
  replace BG := Lib.hid (BG.out.below b)
  clear b
  cases hg : isGraphB (p, l)
  · have HE := Lib.hid (show ovcB (p, l) k r = false by unfold ovcB; rw [hg]; rfl)
    go_wp2_with fail
    go_ret2
    rw [HE.out]
    exact ⟨⟨_, rfl⟩, B.step (belAl _ _)⟩
  have HCR := Lib.hid (specRange_any k r w1)
  cases hr : rangeB k r
  · have HE := Lib.hid (show ovcB (p, l) k r = false by unfold ovcB; rw [hr, Bool.and_false]; rfl)
    go_wp2_with (go_at_call 79; refine HCR.out.mono ?_; rintro e w2 ⟨rfl, b⟩; rw [hr]; have hz2 := b.size; replace B := B.step b; replace BG := Lib.hid (BG.out.below b); clear b)
    go_ret2
    rw [HE.out]
    exact ⟨⟨_, rfl⟩, B.step (belAl _ _)⟩
  obtain ⟨⟨hg1, hg2⟩, _⟩ := isGraphB_bd hg
  obtain ⟨P, rfl⟩ := Int.eq_ofNat_of_zero_le (show 0 ≤ p by omega)
  have hP : P ≤ 8 := by omega
  have HR := Lib.hid (isGraphB_ends hg)
  have HO : Hid (ovcB ((P : Int), l) k r = overB P l k r) := Lib.hid (by unfold ovcB; rw [hg, hr]; rfl)
  obtain ⟨hQ1, hQ2⟩ := pow8 hP
  have hkr : (1 ≤ k ∧ k ≤ 3) ∧ 0 ≤ r ∧ r ≤ 5 := by
    unfold rangeB inB at hr
    simp only [Bool.and_eq_true, decide_eq_true_eq] at hr
    omega
  obtain ⟨Q, hQ⟩ : ∃ Q, Q = 2 ^ P := ⟨_, rfl⟩
  have hsh : wrap64 ((2 : Int) ^ P) = (Q : Int) := by
    have e : ((2 : Int) ^ P) = ((2 ^ P : Nat) : Int) := by rw [Int.natCast_pow]; rfl
    rw [e, ← hQ]
    exact IntWalk.wrap64_in _ (by omega)
  have HNO : Hid (∀ m, m < Q → overAt P l k r m = true → overB P l k r = true) := Lib.hid fun m hm h => overB_yes (by omega) h
  have HNA : Hid ((∀ m, m < Q → overAt P l k r m = false) → overB P l k r = false) := Lib.hid fun h => overB_no fun m hm => h m (by omega)
  rw [← hQ] at hQ1 hQ2
  clear hQ
  go_wp2_with (go_at_call 79; refine HCR.out.mono ?_; rintro e w2 ⟨rfl, b⟩; rw [hr]; have hz2 := b.size; replace B := B.step b; replace BG := Lib.hid (BG.out.below b); clear b)
  have HN0 : Hid (∀ q, q < 1 → overAt P l k r q = false) := Lib.hid fun q hq => by
    rw [show q = 0 by omega]
    exact overAt_zero P l k r
  go_loopw [8] (fun i w9 => ∃ m : Nat, 1 ≤ m ∧ m ≤ Q ∧ i = .int .i64 m ∧ (∀ q, q < m → overAt P l k r q = false) ∧ Below W.heap.size W w9 ∧ BoxGr w9 W.heap.size P a l.length cap) (fun i _ => Q - (intOf i).toNat)
  case atStart => exact ⟨1, Nat.le_refl _, hQ1, rfl, HN0.out, B, BG.out⟩
  case round =>
    clear B BG
    obtain ⟨m, hm1, hm, rfl, hno, B, bg⟩ := hrel
    have HN := Lib.hid hno
    have BG := Lib.hid bg
    clear hno bg
    by_cases hlt : m < Q
    · have hlti : (m : Int) < (Q : Int) := by omega
      have HC1 := Lib.hid (l3Set_at wr P m hP (by omega))
      have HSZ : Hid ((maskL m P).length = sizeM m P) := Lib.hid rfl
      have HSP : Hid ((spanL l (maskL m P) l.length).length = spanM l m l.length) := Lib.hid (spanL_lenM HR.out _ (Nat.le_refl _))
      have hs1 := sizeM_le m P
      have hs2 := spanM_le l m l.length
      have HOV : Hid (overAt P l k r m = (decide (0 < spanM l m l.length) && decide (k * (sizeM m P : Int) - r < (spanM l m l.length : Int)))) := Lib.hid rfl
      generalize hS : sizeM m P = S at *
      generalize hT : spanM l m l.length = T at *
      clear hS hT
      have hb1 : 0 ≤ k * (S : Int) := Int.mul_nonneg (by omega) (by omega)
      have hb2 : k * (S : Int) ≤ 3 * 8 := Int.mul_le_mul (by omega) (by omega) (by omega) (by omega)
      have hmul := IntWalk.i64_in (k * (S : Int)) (by omega)
      have hsub := IntWalk.i64_in (k * (S : Int) - r) (by omega)
      obtain ⟨zBG, fBG0, fBG1⟩ := BG.out
      go_wp2_with fail
      clear zBG fBG0 fBG1
      refine HC1.out.mono ?_
      rintro e w3 ⟨v3, rfl, o3, b⟩
      obtain ⟨a3, c3, rfl, i3⟩ := o3.form
      rw [HSZ.out] at i3 ⊢
      have HI3 := Lib.hid i3
      clear i3 o3
      have hz3 := b.size
      replace B := B.step b
      replace BG := Lib.hid (BG.out.below b)
      clear b
      have HC2 := Lib.hid (specSpan_at w3 P a cap l (H1.out.below B) hs a3 S c3 (maskL m P) HI3.out (by omega))
      obtain ⟨zBG, fBG0, fBG1⟩ := BG.out
      go_wp2_with fail
      clear zBG fBG0 fBG1
      refine HC2.out.mono ?_
      rintro e w4 ⟨v4, rfl, o4, b⟩
      obtain ⟨a4, c4, rfl, i4⟩ := o4.form
      rw [HSP.out]
      clear i4 o4
      have hz4 := b.size
      replace B := B.step b
      replace BG := Lib.hid (BG.out.below b)
      clear b HC2 HC1
      by_cases h0 : 0 < T
      · have h0i : (0 : Int) < (T : Int) := by omega
        by_cases h1 : k * (S : Int) - r < (T : Int)
        · have HE : Hid (ovcB ((P : Int), l) k r = true) := Lib.hid (by
            rw [HO.out]
            refine HNO.out m hlt ?_
            rw [HOV.out, decide_eq_true h0, decide_eq_true h1]; rfl)
          go_wp2_with fail
          go_ret2
          rw [HE.out]
          exact ⟨⟨_, rfl⟩, B⟩
        · have HF : Hid (overAt P l k r m = false) := Lib.hid (by rw [HOV.out, decide_eq_false h1, Bool.and_false])
          have h1i : (T : Int) ≤ k * (S : Int) - r := by omega
          go_wp2_with fail
          go_roundw
          case rel =>
            refine ⟨m + 1, by omega, by omega, by go_num, fun q hq => ?_, B, BG.out⟩
            by_cases e : q = m
            · rw [e]; exact HF.out
            · exact HN.out q (by omega)
          case measure => simp [intOf]; omega
      · have h0i : ¬ (0 : Int) < (T : Int) := by omega
        obtain rfl : T = 0 := by omega
        have HF : Hid (overAt P l k r m = false) := Lib.hid (by rw [HOV.out, decide_eq_false h0, Bool.false_and])
        go_wp2_with fail
        go_roundw
        case rel =>
          refine ⟨m + 1, by omega, by omega, by go_num, fun q hq => ?_, B, BG.out⟩
          by_cases e : q = m
          · rw [e]; exact HF.out
          · exact HN.out q (by omega)
        case measure => simp [intOf]; omega
    · obtain rfl : m = Q := by omega
      have HE : Hid (ovcB ((P : Int), l) k r = false) := Lib.hid (by rw [HO.out]; exact HNA.out HN.out)
      obtain ⟨zBG, fBG0, fBG1⟩ := BG.out
      go_wp2_with fail
      go_ret2
      rw [HE.out]
      exact ⟨⟨_, rfl⟩, B.step (belAl _ _)⟩
set_option maxHeartbeats 4000000 in
theorem specSparse_at (W : World) (p : Int) (a : Option Addr) (cap : Nat) (l : List BarT) (h : BarsAt W a l.length l) (hs : l.length ≤ 1048576) (k r : Int) : Calls Tryz.prog 44 #[.agg #[.int .i64 p, .slice a l.length cap], .int .i64 k, .int .i64 r] W fun e w' => e = .returned (.bool (sparseB (p, l) k r)) ∧ Below W.heap.size W w' := by
  have hwd := @Wd.cells
  have HGr : Hid (IsGraph W (.agg #[.int .i64 p, .slice a l.length cap]) (p, l)) := Lib.hid ⟨a, cap, rfl, h⟩
  have H1 := Lib.hid h
  clear h
  have hsz : szGraph (p, l) ≤ 1048576 := hs
  have hsz2 : szGraph (p, l) ≤ 1099511627776 := Nat.le_trans hsz (by decide)
  have B : Below W.heap.size W (W.alloc (.cells #[.int .i64 p, .slice a l.length cap] 26)) := (Below.refl _ _).alloc (Nat.le_refl _) _
  have BG : Hid (BoxGr (W.alloc (.cells #[.int .i64 p, .slice a l.length cap] 26)) W.heap.size p a l.length cap) := Lib.hid (BoxGr.at rfl)
  have HCG : Hid (∀ w1 : World, Below W.heap.size W w1 → Calls Tryz.prog 59 #[.agg #[.int .i64 p, .slice a l.length cap]] w1 fun e w' => e = .returned (.bool (isGraphB (p, l))) ∧ Below w1.heap.size w1 w') := Lib.hid fun w1 b => spec_IsGraph_is w1 _ (p, l) (HGr.out.below b) hsz2
  have HCO : Hid (∀ w1 : World, Below W.heap.size W w1 → Calls Tryz.prog 110 #[.agg #[.int .i64 p, .slice a l.length cap], .int .i64 k, .int .i64 r] w1 (RetOv w1 (ovcB (p, l) k r))) := Lib.hid fun w1 b => specOvc_at w1 p a cap l (H1.out.below b) hs k r
  have HB : Hid (sparseB (p, l) k r = ((isGraphB (p, l) && rangeB k r) && !ovcB (p, l) k r)) := Lib.hid (by
    unfold sparseB ovcB
    cases isGraphB (p, l) && rangeB k r <;> simp)
  go_enter Tryz.func44, Tryz.ntmps44
  go_wp2_with fail
  generalize (W.alloc (.cells #[.int .i64 p, .slice a l.length cap] 26)) = u at *
  obtain ⟨zBG, fBG0, fBG1⟩ := BG.out
  go_wp2_with fail
  clear zBG fBG0 fBG1
  refine (HCO.out _ B).mono ?_
  rintro e w1 ⟨⟨vo, rfl⟩, b⟩
  have hz1 := b.size
  replace B := B.step b
  replace BG := Lib.hid (BG.out.below b)
  clear b
  generalize ovcB (p, l) k r = o at *
  obtain ⟨zBG, fBG0, fBG1⟩ := BG.out
  go_wp2_with fail
  clear zBG fBG0 fBG1
  refine (HCG.out _ B).mono ?_
  rintro e w2 ⟨rfl, b⟩
  have hz2 := b.size
  replace B := B.step b
  replace BG := Lib.hid (BG.out.below b)
  clear b
  have HCR := Lib.hid (specRange_any k r w2)
  generalize isGraphB (p, l) = g at *
  generalize rangeB k r = rr at *
  cases g
  · go_wp2_with fail
    go_ret
    rw [HB.out]
    exact ⟨rfl, B⟩
  · cases rr
    · go_wp2_with (go_at_call 79; refine HCR.out.mono ?_; rintro e w3 ⟨rfl, b⟩; have hz3 := b.size; replace B := B.step b; clear b)
      go_ret
      rw [HB.out]
      exact ⟨rfl, B⟩
    · cases o
      · go_wp2_with (go_at_call 79; refine HCR.out.mono ?_; rintro e w3 ⟨rfl, b⟩; have hz3 := b.size; replace B := B.step b; clear b)
        go_ret
        rw [HB.out]
        exact ⟨rfl, B⟩
      · go_wp2_with (go_at_call 79; refine HCR.out.mono ?_; rintro e w3 ⟨rfl, b⟩; have hz3 := b.size; replace B := B.step b; clear b)
        go_ret
        rw [HB.out]
        exact ⟨rfl, B⟩
set_option maxHeartbeats 4000000 in
theorem specTight_at (W : World) (p : Int) (a : Option Addr) (cap : Nat) (l : List BarT) (h : BarsAt W a l.length l) (hs : l.length ≤ 1048576) (k r : Int) : Calls Tryz.prog 12 #[.agg #[.int .i64 p, .slice a l.length cap], .int .i64 k, .int .i64 r] W fun e w' => e = .returned (.bool (tightB (p, l) k r)) ∧ Below W.heap.size W w' := by
  have hwd := @Wd.cells
  have HGr : Hid (IsGraph W (.agg #[.int .i64 p, .slice a l.length cap]) (p, l)) := Lib.hid ⟨a, cap, rfl, h⟩
  have H1 := Lib.hid h
  clear h
  have hsz : szGraph (p, l) ≤ 1048576 := hs
  have hsz2 : szGraph (p, l) ≤ 1099511627776 := Nat.le_trans hsz (by decide)
  have B : Below W.heap.size W (W.alloc (.cells #[.int .i64 p, .slice a l.length cap] 26)) := (Below.refl _ _).alloc (Nat.le_refl _) _
  have BG : Hid (BoxGr (W.alloc (.cells #[.int .i64 p, .slice a l.length cap] 26)) W.heap.size p a l.length cap) := Lib.hid (BoxGr.at rfl)
  have HCS : Hid (∀ w1 : World, Below W.heap.size W w1 → Calls Tryz.prog 44 #[.agg #[.int .i64 p, .slice a l.length cap], .int .i64 k, .int .i64 r] w1 fun e w' => e = .returned (.bool (sparseB (p, l) k r)) ∧ Below w1.heap.size w1 w') := Lib.hid fun w1 b => specSparse_at w1 p a cap l (H1.out.below b) hs k r
  go_enter Tryz.func12, Tryz.ntmps12
  go_wp2_with fail
  generalize (W.alloc (.cells #[.int .i64 p, .slice a l.length cap] 26)) = u at *
  obtain ⟨zBG, fBG0, fBG1⟩ := BG.out
  go_wp2_with fail
  clear zBG fBG0 fBG1
  refine (HCS.out _ B).mono ?_
  rintro e w1 ⟨rfl, b⟩
  have hz1 := b.size
  replace B := B.step b
  replace BG := Lib.hid (BG.out.below b)
  clear b
  cases hsp : sparseB (p, l) k r
  · have HE : Hid (tightB (p, l) k r = false) := Lib.hid (by unfold tightB; rw [hsp]; rfl)
    go_wp2_with fail
    go_ret
    rw [HE.out]
    exact ⟨rfl, B⟩
  · have hgr : isGraphB (p, l) = true ∧ rangeB k r = true := by
      unfold sparseB at hsp
      simp only [Bool.and_eq_true] at hsp
      exact hsp.1
    have HE : Hid (tightB (p, l) k r = ((l.length : Int) == max 0 (k * p - r))) := Lib.hid (by unfold tightB; rw [hsp]; rfl)
    obtain ⟨⟨hg1, hg2⟩, hg3⟩ := isGraphB_bd hgr.1
    have hkr : (1 ≤ k ∧ k ≤ 3) ∧ 0 ≤ r ∧ r ≤ 5 := by
      have hr := hgr.2
      unfold rangeB inB at hr
      simp only [Bool.and_eq_true, decide_eq_true_eq] at hr
      omega
    have hb1 : 0 ≤ k * p := Int.mul_nonneg (by omega) (by omega)
    have hb2 : k * p ≤ 3 * 8 := Int.mul_le_mul (by omega) (by omega) (by omega) (by omega)
    have hmul := IntWalk.i64_in (k * p) (by omega)
    have hsub := IntWalk.i64_in (k * p - r) (by omega)
    clear hsp hgr
    obtain ⟨zBG, fBG0, fBG1⟩ := BG.out
    go_wp2_with fail
    go_ret
    rw [HE.out]
    exact ⟨rfl, B⟩
end Go.Proofs.YtfdhbbhfilkafaaGreat
