/- OvercountedSet, IsSparse and IsTight of the reference. No condition but sizes. -/
import Derived.Test.YtfbmpkdjhhcnpaaGreatSnP18
import Derived.Lib.MinMax
import Derived.Deep.QuietTactic
import Derived.BigQuiet
import Derived.Test.YtfbmpkdjhhcnpaaGreatSnP07
import Derived.Shelf.SlSortCmp.NoneTotal
import Derived.Test.YtfbmpkdjhhcnpaaGreatSnP12
import Derived.Test.YtfbmpkdjhhcnpaaGreatSnP09
import Derived.Sort.Grow
namespace Go.Proofs.YtfbmpkdjhhcnpaaGreat
open Go.RowKit
set_option maxRecDepth 100000
set_option linter.unusedVariables false
set_option linter.unusedSimpArgs false
theorem pow8 {P : Nat} (h : P ≤ 8) : 1 ≤ 2 ^ P ∧ 2 ^ P ≤ 256 := ⟨Nat.one_le_two_pow, Nat.pow_le_pow_right (by decide) h⟩
def RetOv (W : World) (b : Bool) (e : Ending) (w' : World) : Prop := (∃ v, e = .returned (.tuple #[v, .bool b])) ∧ Below W.heap.size W w'
set_option maxHeartbeats 4000000 in
theorem specOvc_at (W : World) (p : Int) (a : Option Addr) (cap : Nat) (l : List BarT) (h : BarsAt W a l.length l) (hs : l.length ≤ 1048576) (k r : Int) :
  Calls Tryz.prog 102 #[.agg #[.int .i64 p, .slice a l.length cap], .int .i64 k, .int .i64 r] W (RetOv W (ovcB (p, l) k r)) := by
 have hwd := @Wd.cells
 have HGr : Hid (IsGraph W (.agg #[.int .i64 p, .slice a l.length cap]) (p, l)) := Lib.hid ⟨a, cap, rfl, h⟩
 have H1 := Lib.hid h
 clear h
 have hsz : szGraph (p, l) ≤ 1048576 := hs
 have hsz2 : szGraph (p, l) ≤ 1099511627776 := Nat.le_trans hsz (by decide)
 have B : Below W.heap.size W (W.alloc (.cells #[.int .i64 p, .slice a l.length cap] 26)) := (Below.refl _ _).alloc (Nat.le_refl _) _
 have BG : Hid (BoxGr (W.alloc (.cells #[.int .i64 p, .slice a l.length cap] 26)) W.heap.size p a l.length cap) := Lib.hid (BoxGr.at rfl)
 have HCG : Hid (∀ w1 : World, Below W.heap.size W w1 → Calls Tryz.prog 51 #[.agg #[.int .i64 p, .slice a l.length cap]] w1 fun e w' => e = .returned (.bool (isGraphB (p, l))) ∧ Below w1.heap.size w1 w') := Lib.hid fun w1 b => spec_IsGraph_is w1 _ (p, l) (HGr.out.below b) hsz2
 go_enter Tryz.func102, Tryz.ntmps102
 go_wp2_with fail
 generalize (W.alloc (.cells #[.int .i64 p, .slice a l.length cap] 26)) = u at *
 refine (HCG.out _ B).mono ?_
 rintro e w1 ⟨rfl, b⟩
 have hz1 := b.size
 replace B := B.step b
 replace BG := Lib.hid (BG.out.below b)
 clear b
 cases hg : isGraphB (p, l)
 ·have HE := Lib.hid (show ovcB (p, l) k r = false by unfold ovcB; rw [hg]; rfl)
  go_wp2_with fail
  go_ret2
  rw [HE.out]
  exact ⟨⟨_, rfl⟩, B.step (belAl _ _)⟩
 have HCR := Lib.hid (specRange_any k r w1)
 cases hr : rangeB k r
 ·have HE := Lib.hid (show ovcB (p, l) k r = false by unfold ovcB; rw [hr, Bool.and_false]; rfl)
  go_wp2_with (go_at_call 71; refine HCR.out.mono ?_; rintro e w2 ⟨rfl, b⟩; rw [hr]; have hz2 := b.size; replace B := B.step b; replace BG := Lib.hid (BG.out.below b); clear b)
  go_ret2
  rw [HE.out]
  exact ⟨⟨_, rfl⟩, B.step (belAl _ _)⟩
 obtain ⟨⟨hg1, hg2⟩, _⟩ := isGraphB_bd hg
 obtain ⟨P, rfl⟩ := Int.eq_ofNat_of_zero_le (show 0 ≤ p by omega)
 have hP : P ≤ 8 := by omega
 have HR := Lib.hid (isGraphB_ends hg)
 have HO : Hid (ovcB ((P : Int), l) k r = overB P l k r) := Lib.hid (by unfold ovcB; rw [hg, hr]; rfl)
 obtain ⟨hQ1, hQ2⟩ := pow8 hP
 have hkr : (1 ≤ k ∧ k ≤ 3) ∧ 0 ≤ r ∧ r ≤ 5 := by
  unfold rangeB inB at hr
  simp only [Bool.and_eq_true, decide_eq_true_eq] at hr
  omega
 obtain ⟨Q, hQ⟩ : ∃ Q, Q = 2 ^ P := ⟨_, rfl⟩
 have hsh : wrap64 ((2 : Int) ^ P) = (Q : Int) := by
  have e : ((2 : Int) ^ P) = ((2 ^ P : Nat) : Int) := by rw [Int.natCast_pow]; rfl
  rw [e, ← hQ]
  exact IntWalk.wrap64_in _ (by omega)
 have HNO : Hid (∀ m, m < Q → overAt P l k r m = true → overB P l k r = true) := Lib.hid fun m hm h => overB_yes (by omega) h
 have HNA : Hid ((∀ m, m < Q → overAt P l k r m = false) → overB P l k r = false) := Lib.hid fun h => overB_no fun m hm => h m (by omega)
 rw [← hQ] at hQ1 hQ2
 clear hQ
 go_wp2_with (go_at_call 71; refine HCR.out.mono ?_; rintro e w2 ⟨rfl, b⟩; rw [hr]; have hz2 := b.size; replace B := B.step b; replace BG := Lib.hid (BG.out.below b); clear b)
 have HN0 : Hid (∀ q, q < 1 → overAt P l k r q = false) := Lib.hid fun q hq => by
  rw [show q = 0 by omega]
  exact overAt_zero P l k r
 go_loopw [8] (fun i w9 => ∃ m : Nat, 1 ≤ m ∧ m ≤ Q ∧ i = .int .i64 m ∧ (∀ q, q < m → overAt P l k r q = false) ∧ Below W.heap.size W w9 ∧ BoxGr w9 W.heap.size P a l.length cap) (fun i _ => Q - (intOf i).toNat)
 case atStart => exact ⟨1, Nat.le_refl _, hQ1, rfl, HN0.out, B, BG.out⟩
 case round =>
  clear B BG
  obtain ⟨m, hm1, hm, rfl, hno, B, bg⟩ := hrel
  have HN := Lib.hid hno
  have BG := Lib.hid bg
  clear hno bg
  by_cases hlt : m < Q
  ·have hlti : (m : Int) < (Q : Int) := by omega
   have HC1 := Lib.hid (l3Set_at wr P m hP (by omega))
   have HSZ : Hid ((maskL m P).length = sizeM m P) := Lib.hid rfl
   have HSP : Hid ((spanL l (maskL m P) l.length).length = spanM l m l.length) := Lib.hid (spanL_lenM HR.out _ (Nat.le_refl _))
   have hs1 := sizeM_le m P
   have hs2 := spanM_le l m l.length
   have HOV : Hid (overAt P l k r m = (decide (0 < spanM l m l.length) && decide (k * (sizeM m P : Int) - r < (spanM l m l.length : Int)))) := Lib.hid rfl
   generalize hS : sizeM m P = S at *
   generalize hT : spanM l m l.length = T at *
   clear hS hT
   have hb1 : 0 ≤ k * (S : Int) := Int.mul_nonneg (by omega) (by omega)
   have hb2 : k * (S : Int) ≤ 3 * 8 := Int.mul_le_mul (by omega) (by omega) (by omega) (by omega)
   have hmul := IntWalk.i64_in (k * (S : Int)) (by omega)
   have hsub := IntWalk.i64_in (k * (S : Int) - r) (by omega)
   obtain ⟨zBG, fBG0, fBG1⟩ := BG.out
   go_wp2_with fail
   clear zBG fBG0 fBG1
   refine HC1.out.mono ?_
   rintro e w3 ⟨v3, rfl, o3, b⟩
   obtain ⟨a3, c3, rfl, i3⟩ := o3.form
   rw [HSZ.out] at i3 ⊢
   have HI3 := Lib.hid i3
   clear i3 o3
   have hz3 := b.size
   replace B := B.step b
   replace BG := Lib.hid (BG.out.below b)
   clear b
   have HC2 := Lib.hid (specSpan_at w3 P a cap l (H1.out.below B) hs a3 S c3 (maskL m P) HI3.out (by omega))
   obtain ⟨zBG, fBG0, fBG1⟩ := BG.out
   go_wp2_with fail
   clear zBG fBG0 fBG1
   refine HC2.out.mono ?_
   rintro e w4 ⟨v4, rfl, o4, b⟩
   obtain ⟨a4, c4, rfl, i4⟩ := o4.form
   rw [HSP.out]
   clear i4 o4
   have hz4 := b.size
   replace B := B.step b
   replace BG := Lib.hid (BG.out.below b)
   clear b HC2 HC1
   by_cases h0 : 0 < T
   ·have h0i : (0 : Int) < (T : Int) := by omega
    by_cases h1 : k * (S : Int) - r < (T : Int)
    ·have HE : Hid (ovcB ((P : Int), l) k r = true) := Lib.hid (by
      rw [HO.out]
      refine HNO.out m hlt ?_
      rw [HOV.out, decide_eq_true h0, decide_eq_true h1]; rfl)
     go_wp2_with fail
     go_ret2
     rw [HE.out]
     exact ⟨⟨_, rfl⟩, B⟩
    ·have HF : Hid (overAt P l k r m = false) := Lib.hid (by rw [HOV.out, decide_eq_false h1, Bool.and_false])
     have h1i : (T : Int) ≤ k * (S : Int) - r := by omega
     go_wp2_with fail
     go_roundw
     case rel =>
      refine ⟨m + 1, by omega, by omega, by go_num, fun q hq => ?_, B, BG.out⟩
      by_cases e : q = m
      ·rw [e]; exact HF.out
      ·exact HN.out q (by omega)
     case measure => simp [intOf]; omega
   ·have h0i : ¬ (0 : Int) < (T : Int) := by omega
    obtain rfl : T = 0 := by omega
    have HF : Hid (overAt P l k r m = false) := Lib.hid (by rw [HOV.out, decide_eq_false h0, Bool.false_and])
    go_wp2_with fail
    go_roundw
    case rel =>
     refine ⟨m + 1, by omega, by omega, by go_num, fun q hq => ?_, B, BG.out⟩
     by_cases e : q = m
     ·rw [e]; exact HF.out
     ·exact HN.out q (by omega)
    case measure => simp [intOf]; omega
  ·obtain rfl : m = Q := by omega
   have HE : Hid (ovcB ((P : Int), l) k r = false) := Lib.hid (by rw [HO.out]; exact HNA.out HN.out)
   obtain ⟨zBG, fBG0, fBG1⟩ := BG.out
   go_wp2_with fail
   go_ret2
   rw [HE.out]
   exact ⟨⟨_, rfl⟩, B.step (belAl _ _)⟩
set_option maxHeartbeats 4000000 in
theorem specSparse_at (W : World) (p : Int) (a : Option Addr) (cap : Nat) (l : List BarT) (h : BarsAt W a l.length l) (hs : l.length ≤ 1048576) (k r : Int) : Calls Tryz.prog 43 #[.agg #[.int .i64 p, .slice a l.length cap], .int .i64 k, .int .i64 r] W fun e w' => e = .returned (.bool (sparseB (p, l) k r)) ∧ Below W.heap.size W w' := by
 have hwd := @Wd.cells
 have HGr : Hid (IsGraph W (.agg #[.int .i64 p, .slice a l.length cap]) (p, l)) := Lib.hid ⟨a, cap, rfl, h⟩
 have H1 := Lib.hid h
 clear h
 have hsz : szGraph (p, l) ≤ 1048576 := hs
 have hsz2 : szGraph (p, l) ≤ 1099511627776 := Nat.le_trans hsz (by decide)
 have B : Below W.heap.size W (W.alloc (.cells #[.int .i64 p, .slice a l.length cap] 26)) := (Below.refl _ _).alloc (Nat.le_refl _) _
 have BG : Hid (BoxGr (W.alloc (.cells #[.int .i64 p, .slice a l.length cap] 26)) W.heap.size p a l.length cap) := Lib.hid (BoxGr.at rfl)
 have HCG : Hid (∀ w1 : World, Below W.heap.size W w1 → Calls Tryz.prog 51 #[.agg #[.int .i64 p, .slice a l.length cap]] w1 fun e w' => e = .returned (.bool (isGraphB (p, l))) ∧ Below w1.heap.size w1 w') := Lib.hid fun w1 b => spec_IsGraph_is w1 _ (p, l) (HGr.out.below b) hsz2
 have HCO : Hid (∀ w1 : World, Below W.heap.size W w1 → Calls Tryz.prog 102 #[.agg #[.int .i64 p, .slice a l.length cap], .int .i64 k, .int .i64 r] w1 (RetOv w1 (ovcB (p, l) k r))) := Lib.hid fun w1 b => specOvc_at w1 p a cap l (H1.out.below b) hs k r
 have HB : Hid (sparseB (p, l) k r = ((isGraphB (p, l) && rangeB k r) && !ovcB (p, l) k r)) := Lib.hid (by
  unfold sparseB ovcB
  cases isGraphB (p, l) && rangeB k r <;> simp)
 go_enter Tryz.func43, Tryz.ntmps43
 go_wp2_with fail
 generalize (W.alloc (.cells #[.int .i64 p, .slice a l.length cap] 26)) = u at *
 obtain ⟨zBG, fBG0, fBG1⟩ := BG.out
 go_wp2_with fail
 clear zBG fBG0 fBG1
 refine (HCO.out _ B).mono ?_
 rintro e w1 ⟨⟨vo, rfl⟩, b⟩
 have hz1 := b.size
 replace B := B.step b
 replace BG := Lib.hid (BG.out.below b)
 clear b
 generalize ovcB (p, l) k r = o at *
 obtain ⟨zBG, fBG0, fBG1⟩ := BG.out
 go_wp2_with fail
 clear zBG fBG0 fBG1
 refine (HCG.out _ B).mono ?_
 rintro e w2 ⟨rfl, b⟩
 have hz2 := b.size
 replace B := B.step b
 replace BG := Lib.hid (BG.out.below b)
 clear b
 have HCR := Lib.hid (specRange_any k r w2)
 generalize isGraphB (p, l) = g at *
 generalize rangeB k r = rr at *
 cases g
 ·go_wp2_with fail
  go_ret
  rw [HB.out]
  exact ⟨rfl, B⟩
 ·cases rr
  ·go_wp2_with (go_at_call 71; refine HCR.out.mono ?_; rintro e w3 ⟨rfl, b⟩; have hz3 := b.size; replace B := B.step b; clear b)
   go_ret
   rw [HB.out]
   exact ⟨rfl, B⟩
  ·cases o
   ·go_wp2_with (go_at_call 71; refine HCR.out.mono ?_; rintro e w3 ⟨rfl, b⟩; have hz3 := b.size; replace B := B.step b; clear b)
    go_ret
    rw [HB.out]
    exact ⟨rfl, B⟩
   ·go_wp2_with (go_at_call 71; refine HCR.out.mono ?_; rintro e w3 ⟨rfl, b⟩; have hz3 := b.size; replace B := B.step b; clear b)
    go_ret
    rw [HB.out]
    exact ⟨rfl, B⟩
set_option maxHeartbeats 2000000 in
theorem setOf_at (W : World) (p m : Nat) (hp : p ≤ 8) (hm : m < 256) :
  Calls Tryz.prog 122 #[.int .i64 (m : Int), .int .i64 (p : Int)] W (RetInts W (maskL m p)) := by
 go_enter Tryz.func122, Tryz.ntmps122
 go_wp2_with fail
 go_loopw [5, 9] (fun o i w9 => ∃ k : Nat, k ≤ p ∧ i = .int .i64 k ∧ OwnInts w9 W.heap.size o (maskL m k) ∧ Below W.heap.size W w9) (fun _ i _ => p - (intOf i).toNat)
 case atStart => exact ⟨0, Nat.zero_le _, rfl, made_intsS W, belAl W _⟩
 case round =>
  obtain ⟨k, hk, rfl, ho, hb⟩ := hrel
  by_cases hlt : k < p
  ·have hki : (k : Int) < (p : Int) := by omega
   have HB := bit_and m k
   have hlk := maskL_len m k
   have HO := Lib.hid ho
   clear ho
   cases hd : bitB m k
   ·have HS := Lib.hid (show maskL m (k + 1) = maskL m k by conv => lhs; unfold maskL; rw [hd]; simp)
    rw [hd] at HB
    clear hd
    go_wp2_with fail
    go_roundw
    case rel => exact ⟨k + 1, by omega, by go_num, by rw [HS.out]; exact HO.out, hb⟩
    case measure => simp [intOf]; omega
   ·have HS := Lib.hid (show maskL m (k + 1) = maskL m k ++ [(k : Int)] by conv => lhs; unfold maskL; rw [hd]; simp)
    rw [hd] at HB
    clear hd
    have hbz := hb.size
    go_wp2_with (at_builtin; refine app1At rfl (.tmp 17) (.tmp 19) rfl rfl HO.out (k : Int) rfl (by omega) (by omega) ?_; intro v5 w5 h5 k5 a5)
    go_roundw
    case rel => exact ⟨k + 1, by omega, by go_num, by rw [HS.out]; exact h5, hb.trans (k5.below (by omega) fun j h1 h2 => by have := (HO.out.lt j h2.symm).1; omega)⟩
    case measure => simp [intOf]; omega
  ·obtain rfl : k = p := by omega
   go_wp2_with fail
   go_ret
   exact ⟨_, rfl, ho, hb⟩
set_option maxHeartbeats 4000000 in
theorem implOvc_at (W : World) (p : Int) (a : Option Addr) (cap : Nat) (l : List BarT) (h : BarsAt W a l.length l) (hs : l.length ≤ 1048576) (k r : Int) :
  Calls Tryz.prog 86 #[.agg #[.int .i64 p, .slice a l.length cap], .int .i64 k, .int .i64 r] W (RetOv W (ovcB (p, l) k r)) := by
 have hwd := @Wd.cells
 have HGr : Hid (IsGraph W (.agg #[.int .i64 p, .slice a l.length cap]) (p, l)) := Lib.hid ⟨a, cap, rfl, h⟩
 have H1 := Lib.hid h
 clear h
 have hsz : szGraph (p, l) ≤ 1048576 := hs
 have hsz2 : szGraph (p, l) ≤ 1099511627776 := Nat.le_trans hsz (by decide)
 have B : Below W.heap.size W (W.alloc (.cells #[.int .i64 p, .slice a l.length cap] 26)) := (Below.refl _ _).alloc (Nat.le_refl _) _
 have BG : Hid (BoxGr (W.alloc (.cells #[.int .i64 p, .slice a l.length cap] 26)) W.heap.size p a l.length cap) := Lib.hid (BoxGr.at rfl)
 have HCG : Hid (∀ w1 : World, Below W.heap.size W w1 → Calls Tryz.prog 61 #[.agg #[.int .i64 p, .slice a l.length cap]] w1 fun e w' => e = .returned (.bool (isGraphB (p, l))) ∧ Below w1.heap.size w1 w') := Lib.hid fun w1 b => impl_IsGraph_is w1 _ (p, l) (HGr.out.below b) hsz2
 go_enter Tryz.func86, Tryz.ntmps86
 go_wp2_with fail
 generalize (W.alloc (.cells #[.int .i64 p, .slice a l.length cap] 26)) = u at *
 refine (HCG.out _ B).mono ?_
 rintro e w1 ⟨rfl, b⟩
 have hz1 := b.size
 replace B := B.step b
 replace BG := Lib.hid (BG.out.below b)
 clear b
 cases hg : isGraphB (p, l)
 ·have HE := Lib.hid (show ovcB (p, l) k r = false by unfold ovcB; rw [hg]; rfl)
  go_wp2_with fail
  go_ret2
  rw [HE.out]
  exact ⟨⟨_, rfl⟩, B.step (belAl _ _)⟩
 have HCR := Lib.hid (implRange_any k r w1)
 cases hr : rangeB k r
 ·have HE := Lib.hid (show ovcB (p, l) k r = false by unfold ovcB; rw [hr, Bool.and_false]; rfl)
  go_wp2_with (go_at_call 87; refine HCR.out.mono ?_; rintro e w2 ⟨rfl, b⟩; rw [hr]; have hz2 := b.size; replace B := B.step b; replace BG := Lib.hid (BG.out.below b); clear b)
  go_ret2
  rw [HE.out]
  exact ⟨⟨_, rfl⟩, B.step (belAl _ _)⟩
 obtain ⟨⟨hg1, hg2⟩, hll⟩ := isGraphB_bd hg
 obtain ⟨P, rfl⟩ := Int.eq_ofNat_of_zero_le (show 0 ≤ p by omega)
 have hP : P ≤ 8 := by omega
 have HR := Lib.hid (isGraphB_ends hg)
 have HO : Hid (ovcB ((P : Int), l) k r = overB P l k r) := Lib.hid (by unfold ovcB; rw [hg, hr]; rfl)
 obtain ⟨hQ1, hQ2⟩ := pow8 hP
 have hkr : (1 ≤ k ∧ k ≤ 3) ∧ 0 ≤ r ∧ r ≤ 5 := by
  unfold rangeB inB at hr
  simp only [Bool.and_eq_true, decide_eq_true_eq] at hr
  omega
 obtain ⟨Q, hQ⟩ : ∃ Q, Q = 2 ^ P := ⟨_, rfl⟩
 have hsh : wrap64 ((2 : Int) ^ P) = (Q : Int) := by
  have e : ((2 : Int) ^ P) = ((2 ^ P : Nat) : Int) := by rw [Int.natCast_pow]; rfl
  rw [e, ← hQ]
  exact IntWalk.wrap64_in _ (by omega)
 have HNO : Hid (∀ m, m < Q → overAt P l k r m = true → overB P l k r = true) := Lib.hid fun m hm h => overB_yes (by omega) h
 have HNA : Hid ((∀ m, m < Q → overAt P l k r m = false) → overB P l k r = false) := Lib.hid fun h => overB_no fun m hm => h m (by omega)
 rw [← hQ] at hQ1 hQ2
 clear hQ
 go_wp2_with (go_at_call 87; refine HCR.out.mono ?_; rintro e w2 ⟨rfl, b⟩; rw [hr]; have hz2 := b.size; replace B := B.step b; replace BG := Lib.hid (BG.out.below b); clear b)
 have HN0 : Hid (∀ q, q < 1 → overAt P l k r q = false) := Lib.hid fun q hq => by
  rw [show q = 0 by omega]
  exact overAt_zero P l k r
 clear hg hr HCR
 go_loopw [8] (fun i w9 => ∃ m : Nat, 1 ≤ m ∧ m ≤ Q ∧ i = .int .i64 m ∧ (∀ q, q < m → overAt P l k r q = false) ∧ Below W.heap.size W w9 ∧ BoxGr w9 W.heap.size P a l.length cap) (fun i _ => Q - (intOf i).toNat)
 case atStart => exact ⟨1, Nat.le_refl _, hQ1, rfl, HN0.out, B, BG.out⟩
 case round =>
  clear B BG
  obtain ⟨m, hm1, hm, rfl, hno, B, bg⟩ := hrel
  have HN := Lib.hid hno
  have BG := Lib.hid bg
  clear hno bg
  by_cases hlt : m < Q
  ·have hlti : (m : Int) < (Q : Int) := by omega
   have HOV : Hid (overAt P l k r m = (decide (0 < spanM l m l.length) && decide (k * (sizeM m P : Int) - r < (spanM l m l.length : Int)))) := Lib.hid rfl
   obtain ⟨zBG, fBG0, fBG1⟩ := BG.out
   go_wp2_with fail
   go_loop [9, 33] (fun z i => ∃ v : Nat, v ≤ P ∧ i = .int .i64 v ∧ z = .int .i64 (sizeM m v)) (fun _ i => P - (intOf i).toNat)
   case atStart => exact ⟨0, Nat.zero_le _, rfl, rfl⟩
   case round =>
    obtain ⟨v, hv, rfl, rfl⟩ := hrel
    have hle := sizeM_le m v
    by_cases hvP : v < P
    ·have hvi : (v : Int) < (P : Int) := by omega
     have HA := and_bit m v
     have HS := Lib.hid (sizeM_succ m v)
     generalize sizeM m v = Z at *
     cases hd : bitB m v
     ·rw [hd] at HA HS
      simp only [Bool.false_eq_true, if_false] at HA
      go_wp2_with fail
      go_round
      case rel => exact ⟨v + 1, by omega, by go_num, by rw [HS.out]; go_num⟩
      case measure => simp [intOf]; omega
     ·rw [hd] at HA HS
      simp only [if_true] at HA
      go_wp2_with fail
      go_round
      case rel => exact ⟨v + 1, by omega, by go_num, by rw [HS.out]; go_num⟩
      case measure => simp [intOf]; omega
    ·obtain rfl : v = P := by omega
     have hmm := HOV.out
     have hs1 := sizeM_le m v
     generalize hS : sizeM m v = S at *
     have hb1 : 0 ≤ k * (S : Int) := Int.mul_nonneg (by omega) (by omega)
     have hb2 : k * (S : Int) ≤ 3 * 8 := Int.mul_le_mul (by omega) (by omega) (by omega) (by omega)
     have hmul := IntWalk.i64_in (k * (S : Int)) (by omega)
     have hsub := IntWalk.i64_in (k * (S : Int) - r) (by omega)
     clear hS hmm
     obtain ⟨P, hP9⟩ : ∃ P, P = v := ⟨_, rfl⟩
     subst hP9
     go_wp2_with fail
     clear fBG0 fBG1 zBG hv hvP hle
     go_loopw [10, 46] (fun z i w9 => ∃ j : Nat, j ≤ l.length ∧ i = .int .i64 j ∧ z = .int .i64 (spanM l m j) ∧ Below W.heap.size W w9 ∧ BoxGr w9 W.heap.size P a l.length cap) (fun _ i _ => l.length - (intOf i).toNat)
     case atStart => exact ⟨0, Nat.zero_le _, rfl, rfl, B, BG.out⟩
     case round =>
      clear B BG
      obtain ⟨j, hj, rfl, rfl, B, bg⟩ := hrel
      have BG := Lib.hid bg
      clear bg
      have hle := spanM_le l m j
      by_cases hjl : j < l.length
      ·obtain ⟨bb, off, ⟨x1, x2⟩, rfl, hbl, hx, hc0, hc1⟩ := (H1.out.below B).2 j hjl
       dsimp only at hc0 hc1
       obtain ⟨⟨m1, m2⟩, m3, m4⟩ := HR.out _ (List.mem_of_getElem? hx)
       dsimp only at m1 m2 m3 m4
       obtain ⟨i1, rfl⟩ := Int.eq_ofNat_of_zero_le m1
       obtain ⟨i2, rfl⟩ := Int.eq_ofNat_of_zero_le m3
       have HS : Hid (spanM l m (j + 1) = spanM l m j + (if (bitB m i1 && bitB m i2) = true then 1 else 0)) := Lib.hid (spanM_succ hx)
       clear hx
       have hji : (j : Int) < (l.length : Int) := by omega
       have HA := and_bits m i1 i2
       generalize hZ : spanM l m j = Z at *
       clear hZ
       have bpl : Below wr.heap.size wr (wr.alloc (.cells #[.int .i64 i1, .int .i64 i2] 70)) := belAl _ _
       have p0 : (wr.alloc (.cells #[.int .i64 i1, .int .i64 i2] 70)).cell? ⟨wr.heap.size, 0, none⟩ = some (.int .i64 i1) := by simp [World.cell?_alloc_new]
       have p1 : (wr.alloc (.cells #[.int .i64 i1, .int .i64 i2] 70)).cell? ⟨wr.heap.size, 1, none⟩ = some (.int .i64 i2) := by simp [World.cell?_alloc_new]
       have pz : wr.heap.size < (wr.alloc (.cells #[.int .i64 i1, .int .i64 i2] 70)).heap.size := by simp
       go_wp2_with fail
       clear hc0 hc1
       replace B := B.step bpl
       replace BG := Lib.hid (BG.out.below bpl)
       generalize (wr.alloc (.cells #[.int .i64 i1, .int .i64 i2] 70)) = w5 at *
       clear bpl
       cases hd : (bitB m i1 && bitB m i2)
       ·rw [hd] at HA HS
        simp only [Bool.false_eq_true, if_false] at HA
        refine wp_region_wd (by kernel_rfl) (by kernel_rfl) ?_
        repeat (go_big_quiet_step (fail))
        refine wpQuiet_nil ?_
        intro n1
        have hn1 := n1.h
        replace B := B.step hn1
        replace BG := Lib.hid (BG.out.below hn1)
        generalize n1.w = w6 at *
        clear p0 p1 pz hn1
        go_wp2_with fail
        go_roundw
        case rel => exact ⟨j + 1, by omega, by go_num, by rw [HS.out]; go_num, B, BG.out⟩
        case measure => simp [intOf]; omega
       ·rw [hd] at HA HS
        simp only [if_true] at HA
        refine wp_region_wd (by kernel_rfl) (by kernel_rfl) ?_
        repeat (go_big_quiet_step (fail))
        refine wpQuiet_nil ?_
        intro n1
        have hn1 := n1.h
        replace B := B.step hn1
        replace BG := Lib.hid (BG.out.below hn1)
        generalize n1.w = w6 at *
        clear p0 p1 pz hn1
        go_wp2_with fail
        go_roundw
        case rel => exact ⟨j + 1, by omega, by go_num, by rw [HS.out]; go_num, B, BG.out⟩
        case measure => simp [intOf]; omega
      ·obtain rfl : j = l.length := by omega
       generalize hT : spanM l m l.length = T at *
       clear hT hj hjl hle hsh hs1 hb1 hb2 hsz hsz2
       by_cases h0 : 0 < T
       ·have h0i : (0 : Int) < (T : Int) := by omega
        by_cases h1 : k * (S : Int) - r < (T : Int)
        ·have HE : Hid (ovcB ((P : Int), l) k r = true) := Lib.hid (by
          rw [HO.out]
          refine HNO.out m hlt ?_
          rw [HOV.out, decide_eq_true h0, decide_eq_true h1]; rfl)
         obtain ⟨zBG, fBG0, fBG1⟩ := BG.out
         go_wp2_with (go_at_call 122; refine (setOf_at _ P m hP (by omega)).mono ?_; rintro e w7 ⟨v7, rfl, o7, b⟩; replace B := B.step b; clear b)
         go_ret2
         rw [HE.out]
         exact ⟨⟨_, rfl⟩, B⟩
        ·have HF : Hid (overAt P l k r m = false) := Lib.hid (by rw [HOV.out, decide_eq_false h1, Bool.and_false])
         have h1i : (T : Int) ≤ k * (S : Int) - r := by omega
         go_wp2_with fail
         go_roundw
         case rel =>
          refine ⟨m + 1, by omega, by omega, by go_num, fun q hq => ?_, B, BG.out⟩
          by_cases e : q = m
          ·rw [e]; exact HF.out
          ·exact HN.out q (by omega)
         case measure => simp [intOf]; omega
       ·have h0i : ¬ (0 : Int) < (T : Int) := by omega
        obtain rfl : T = 0 := by omega
        have HF : Hid (overAt P l k r m = false) := Lib.hid (by rw [HOV.out, decide_eq_false h0, Bool.false_and])
        clear hmul hsub h0 h0i
        go_wp2_with fail
        go_roundw
        case rel =>
         refine ⟨m + 1, by omega, by omega, by go_num, fun q hq => ?_, B, BG.out⟩
         by_cases e : q = m
         ·rw [e]; exact HF.out
         ·exact HN.out q (by omega)
        case measure => simp [intOf]; omega
  ·obtain rfl : m = Q := by omega
   have HE : Hid (ovcB ((P : Int), l) k r = false) := Lib.hid (by rw [HO.out]; exact HNA.out HN.out)
   obtain ⟨zBG, fBG0, fBG1⟩ := BG.out
   go_wp2_with fail
   go_ret2
   rw [HE.out]
   exact ⟨⟨_, rfl⟩, B.step (belAl _ _)⟩
set_option maxHeartbeats 4000000 in
theorem implSparse_at (W : World) (p : Int) (a : Option Addr) (cap : Nat) (l : List BarT) (h : BarsAt W a l.length l) (hs : l.length ≤ 1048576) (k r : Int) : Calls Tryz.prog 38 #[.agg #[.int .i64 p, .slice a l.length cap], .int .i64 k, .int .i64 r] W fun e w' => e = .returned (.bool (sparseB (p, l) k r)) ∧ Below W.heap.size W w' := by
 have hwd := @Wd.cells
 have HGr : Hid (IsGraph W (.agg #[.int .i64 p, .slice a l.length cap]) (p, l)) := Lib.hid ⟨a, cap, rfl, h⟩
 have H1 := Lib.hid h
 clear h
 have hsz : szGraph (p, l) ≤ 1048576 := hs
 have hsz2 : szGraph (p, l) ≤ 1099511627776 := Nat.le_trans hsz (by decide)
 have B : Below W.heap.size W (W.alloc (.cells #[.int .i64 p, .slice a l.length cap] 26)) := (Below.refl _ _).alloc (Nat.le_refl _) _
 have BG : Hid (BoxGr (W.alloc (.cells #[.int .i64 p, .slice a l.length cap] 26)) W.heap.size p a l.length cap) := Lib.hid (BoxGr.at rfl)
 have HCG : Hid (∀ w1 : World, Below W.heap.size W w1 → Calls Tryz.prog 61 #[.agg #[.int .i64 p, .slice a l.length cap]] w1 fun e w' => e = .returned (.bool (isGraphB (p, l))) ∧ Below w1.heap.size w1 w') := Lib.hid fun w1 b => impl_IsGraph_is w1 _ (p, l) (HGr.out.below b) hsz2
 have HCO : Hid (∀ w1 : World, Below W.heap.size W w1 → Calls Tryz.prog 86 #[.agg #[.int .i64 p, .slice a l.length cap], .int .i64 k, .int .i64 r] w1 (RetOv w1 (ovcB (p, l) k r))) := Lib.hid fun w1 b => implOvc_at w1 p a cap l (H1.out.below b) hs k r
 have HB : Hid (sparseB (p, l) k r = ((isGraphB (p, l) && rangeB k r) && !ovcB (p, l) k r)) := Lib.hid (by
  unfold sparseB ovcB
  cases isGraphB (p, l) && rangeB k r <;> simp)
 go_enter Tryz.func38, Tryz.ntmps38
 go_wp2_with fail
 generalize (W.alloc (.cells #[.int .i64 p, .slice a l.length cap] 26)) = u at *
 obtain ⟨zBG, fBG0, fBG1⟩ := BG.out
 go_wp2_with fail
 clear zBG fBG0 fBG1
 refine (HCO.out _ B).mono ?_
 rintro e w1 ⟨⟨vo, rfl⟩, b⟩
 have hz1 := b.size
 replace B := B.step b
 replace BG := Lib.hid (BG.out.below b)
 clear b
 generalize ovcB (p, l) k r = o at *
 obtain ⟨zBG, fBG0, fBG1⟩ := BG.out
 go_wp2_with fail
 clear zBG fBG0 fBG1
 refine (HCG.out _ B).mono ?_
 rintro e w2 ⟨rfl, b⟩
 have hz2 := b.size
 replace B := B.step b
 replace BG := Lib.hid (BG.out.below b)
 clear b
 have HCR := Lib.hid (implRange_any k r w2)
 generalize isGraphB (p, l) = g at *
 generalize rangeB k r = rr at *
 cases g
 ·go_wp2_with fail
  go_ret
  rw [HB.out]
  exact ⟨rfl, B⟩
 ·cases rr
  ·go_wp2_with (go_at_call 87; refine HCR.out.mono ?_; rintro e w3 ⟨rfl, b⟩; have hz3 := b.size; replace B := B.step b; clear b)
   go_ret
   rw [HB.out]
   exact ⟨rfl, B⟩
  ·cases o
   ·go_wp2_with (go_at_call 87; refine HCR.out.mono ?_; rintro e w3 ⟨rfl, b⟩; have hz3 := b.size; replace B := B.step b; clear b)
    go_ret
    rw [HB.out]
    exact ⟨rfl, B⟩
   ·go_wp2_with (go_at_call 87; refine HCR.out.mono ?_; rintro e w3 ⟨rfl, b⟩; have hz3 := b.size; replace B := B.step b; clear b)
    go_ret
    rw [HB.out]
    exact ⟨rfl, B⟩
end Go.Proofs.YtfbmpkdjhhcnpaaGreat

namespace Go.Proofs
open Go.Shelf
def Tryz.sortBars_ren : Go.Shelf.Ren := ⟨fun | 6 => 125 | 15 => 106 | 14 => 150 | 28 => 138 | 29 => 139 | 20 => 161 | 21 => 162 | 22 => 163 | 23 => 164 | 24 => 165 | 25 => 166 | 26 => 167 | 27 => 168 | 46 => 174 | 47 => 152 | 48 => 153 | 49 => 175 | 50 => 176 | 57 => 179 | n => n, fun | 22 => 24 | 24 => 70 | 25 => 120 | 3 => 3 | 39 => 114 | 0 => 0 | 53 => 141 | 55 => 143 | 4 => 4 | 46 => 134 | 45 => 133 | 50 => 138 | 5 => 5 | 9 => 9 | 66 => 153 | 70 => 157 | 76 => 168 | 77 => 169 | n => n, fun | n => n⟩
theorem Tryz.sortBars : Go.Proofs.SlLaysF0.n6 Tryz.prog Tryz.sortBars_ren := {
 mixed := by kernel_rfl
 f6 := ⟨Tryz.f125.name, by decide, Tryz.func125.trans (congrArg some (by kernel_rfl))⟩
 f14 := ⟨Tryz.f150.name, by decide, Tryz.func150.trans (congrArg some (by kernel_rfl))⟩
 f15 := Tryz.func106.trans (congrArg some (by kernel_rfl))
 f20 := ⟨Tryz.f161.name, by decide, Tryz.func161.trans (congrArg some (by kernel_rfl))⟩
 f21 := ⟨Tryz.f162.name, by decide, Tryz.func162.trans (congrArg some (by kernel_rfl))⟩
 f22 := ⟨Tryz.f163.name, by decide, Tryz.func163.trans (congrArg some (by kernel_rfl))⟩
 f23 := ⟨Tryz.f164.name, by decide, Tryz.func164.trans (congrArg some (by kernel_rfl))⟩
 f24 := ⟨Tryz.f165.name, by decide, Tryz.func165.trans (congrArg some (by kernel_rfl))⟩
 f25 := ⟨Tryz.f166.name, by decide, Tryz.func166.trans (congrArg some (by kernel_rfl))⟩
 f26 := ⟨Tryz.f167.name, by decide, Tryz.func167.trans (congrArg some (by kernel_rfl))⟩
 f27 := ⟨Tryz.f168.name, by decide, Tryz.func168.trans (congrArg some (by kernel_rfl))⟩
 f28 := Tryz.func138.trans (congrArg some (by kernel_rfl))
 f29 := Tryz.func139.trans (congrArg some (by kernel_rfl))
 f46 := ⟨Tryz.f174.name, by decide, Tryz.func174.trans (congrArg some (by kernel_rfl))⟩
 f47 := Tryz.func152.trans (congrArg some (by kernel_rfl))
 f48 := Tryz.func153.trans (congrArg some (by kernel_rfl))
 f49 := ⟨Tryz.f175.name, by decide, Tryz.func175.trans (congrArg some (by kernel_rfl))⟩
 f50 := ⟨Tryz.f176.name, by decide, Tryz.func176.trans (congrArg some (by kernel_rfl))⟩
 f57 := ⟨Tryz.f179.name, by decide, Tryz.func179.trans (congrArg some (by kernel_rfl))⟩
 t0 := Tryz.underlying0
 a0 := Tryz.isAgg0
 z0 := Tryz.sizeOf0
 v0 := Tryz.zeroValue0
 t3 := Tryz.underlying3
 a3 := Tryz.isAgg3
 z3 := Tryz.sizeOf3
 v3 := Tryz.zeroValue3
 t4 := Tryz.underlying4
 a4 := Tryz.isAgg4
 z4 := Tryz.sizeOf4
 v4 := Tryz.zeroValue4
 t5 := Tryz.underlying5
 a5 := Tryz.isAgg5
 z5 := Tryz.sizeOf5
 v5 := Tryz.zeroValue5
 t9 := Tryz.underlying9
 a9 := Tryz.isAgg9
 z9 := Tryz.sizeOf9
 v9 := Tryz.zeroValue9
 t22 := Tryz.underlying24
 a22 := Tryz.isAgg24
 z22 := Tryz.sizeOf24
 v22 := Tryz.zeroValue24
 t25 := Tryz.underlying120
 a25 := Tryz.isAgg120
 z25 := Tryz.sizeOf120
 v25 := Tryz.zeroValue120
 t39 := Tryz.underlying114
 a39 := Tryz.isAgg114
 z39 := Tryz.sizeOf114
 v39 := Tryz.zeroValue114
 t45 := Tryz.underlying133
 a45 := Tryz.isAgg133
 z45 := Tryz.sizeOf133
 v45 := Tryz.zeroValue133
 t46 := Tryz.underlying134
 a46 := Tryz.isAgg134
 z46 := Tryz.sizeOf134
 v46 := Tryz.zeroValue134
 t50 := Tryz.underlying138
 a50 := Tryz.isAgg138
 z50 := Tryz.sizeOf138
 v50 := Tryz.zeroValue138
 t53 := Tryz.underlying141
 a53 := Tryz.isAgg141
 z53 := Tryz.sizeOf141
 v53 := Tryz.zeroValue141
 t55 := Tryz.underlying143
 a55 := Tryz.isAgg143
 z55 := Tryz.sizeOf143
 v55 := Tryz.zeroValue143
 t66 := Tryz.underlying153
 a66 := Tryz.isAgg153
 z66 := Tryz.sizeOf153
 v66 := Tryz.zeroValue153
 t70 := Tryz.underlying157
 a70 := Tryz.isAgg157
 z70 := Tryz.sizeOf157
 v70 := Tryz.zeroValue157
 t76 := Tryz.underlying168
 a76 := Tryz.isAgg168
 z76 := Tryz.sizeOf168
 v76 := Tryz.zeroValue168
 t77 := Tryz.underlying169
 a77 := Tryz.isAgg169
 z77 := Tryz.sizeOf169
 v77 := Tryz.zeroValue169 }
end Go.Proofs

namespace Go.Proofs.YtfbmpkdjhhcnpaaGreat
open Go.RowKit
set_option maxRecDepth 100000
set_option linter.unusedVariables false
set_option linter.unusedSimpArgs false

theorem barLe_iff (x y : BarT) : barLe x y = true ↔ (x.1 < y.1 ∨ (x.1 = y.1 ∧ x.2 ≤ y.2)) := by
 simp [barLe]
theorem ltB (x y : BarT) : ltOf cmpB x y = decide (x.1 < y.1 ∨ (x.1 = y.1 ∧ x.2 < y.2)) := by
 unfold ltOf cmpB cmpI
 apply decide_eq_decide.2
 split <;> split <;> (try split) <;> (try split) <;> omega
theorem ltB_le : (fun x y : BarT => !(ltOf cmpB) y x) = barLe := by
 funext x y
 rw [ltB]
 cases h : barLe x y with
 | true => rw [barLe_iff] at h; simp; omega
 | false =>
  have : ¬ barLe x y = true := by simp [h]
  rw [barLe_iff] at this
  simp; omega
theorem swoB : Go.Sort.SWO (ltOf cmpB) where
 irrefl x := by rw [ltB]; simp
 trans x y z h1 h2 := by rw [ltB] at *; simp at *; omega
 ntrans x y z h1 h2 := by rw [ltB] at *; simp at *; omega
theorem totB (x y : BarT) (h1 : ltOf cmpB x y = false) (h2 : ltOf cmpB y x = false) : x = y := by
 rw [ltB] at h1 h2
 simp at h1 h2
 obtain ⟨a, b⟩ := x; obtain ⟨c, d⟩ := y
 dsimp only at h1 h2
 have e1 : a = c := by omega
 have e2 : b = d := by omega
 rw [e1, e2]
def sortB (l : List BarT) : List BarT := l.mergeSort barLe
theorem sortB_perm (l : List BarT) : (sortB l).Perm l := List.mergeSort_perm _ _
theorem sortB_length (l : List BarT) : (sortB l).length = l.length := (sortB_perm l).length_eq
def Ord (l : List BarT) : Prop := l.Pairwise fun x y => barLe x y = true
theorem sortB_ord (l : List BarT) : Ord (sortB l) :=
 List.pairwise_mergeSort (le := barLe) (fun a b c h1 h2 => by rw [barLe_iff] at *; omega) (fun a b => by
  rw [Bool.or_eq_true, barLe_iff, barLe_iff]; omega) l
theorem ord_uniq : ∀ {l m : List BarT}, l.Perm m → Ord l → Ord m → l = m
 | [], m, hp, _, _ => (List.Perm.nil_eq hp)
 | a :: l, [], hp, _, _ => by have := hp.length_eq; simp at this
 | a :: l, b :: m, hp, hl, hm => by
  have hl' := List.pairwise_cons.1 hl
  have hm' := List.pairwise_cons.1 hm
  have hab : a = b := by
   rcases List.mem_cons.1 (hp.mem_iff.1 (List.mem_cons_self (a := a) (l := l))) with h | h
   ·exact h
   ·rcases List.mem_cons.1 (hp.mem_iff.2 (List.mem_cons_self (a := b) (l := m))) with h2 | h2
    ·exact h2.symm
    ·have e1 := hm'.1 a h
     have e2 := hl'.1 b h2
     rw [barLe_iff] at e1 e2
     obtain ⟨a1, a2⟩ := a; obtain ⟨b1, b2⟩ := b
     dsimp only at e1 e2
     have e3 : a1 = b1 := by omega
     have e4 : a2 = b2 := by omega
     rw [e3, e4]
  subst hab
  rw [ord_uniq (List.Perm.cons_inv hp) hl'.2 hm'.2]
theorem putL_perm (l : List BarT) (x : BarT) : (putL l x).Perm (x :: l) := by
 induction l with
 | nil => exact List.Perm.refl _
 | cons y t ih =>
  unfold putL
  split
  ·exact (List.Perm.cons y ih).trans (List.Perm.swap x y t)
  ·exact List.Perm.refl _
theorem putL_ord {l : List BarT} (x : BarT) (h : Ord l) : Ord (putL l x) := by
 induction l with
 | nil => exact List.pairwise_singleton _ _
 | cons y t ih =>
  have h' := List.pairwise_cons.1 h
  unfold putL
  split
  ·rename_i e
   refine List.pairwise_cons.2 ⟨fun z hz => ?_, ih h'.2⟩
   rcases mem_putL.1 hz with rfl | hz
   ·exact e
   ·exact h'.1 z hz
  ·rename_i e
   have e' : barLe x y = true := by
    have : ¬ barLe y x = true := e
    rw [barLe_iff] at this ⊢
    omega
   refine List.pairwise_cons.2 ⟨fun z hz => ?_, h⟩
   rcases List.mem_cons.1 hz with rfl | hz
   ·exact e'
   ·have e2 := h'.1 z hz
    rw [barLe_iff] at *
    omega
def putsL (l : List BarT) (xs : List BarT) : List BarT := xs.foldl putL l
theorem putsL_perm : ∀ (xs l : List BarT), (putsL l xs).Perm (l ++ xs)
 | [], l => by simp [putsL]
 | x :: xs, l => by
  have h := putsL_perm xs (putL l x)
  refine h.trans ((List.Perm.append_right xs (putL_perm l x)).trans ?_)
  exact (List.perm_middle (a := x) (l₁ := l) (l₂ := xs)).symm
theorem putsL_ord : ∀ (xs : List BarT) {l : List BarT}, Ord l → Ord (putsL l xs)
 | [], _, h => h
 | x :: xs, _, h => putsL_ord xs (putL_ord x h)
theorem sortB_puts {l : List BarT} (xs : List BarT) (h : Ord l) : sortB (l ++ xs) = putsL l xs :=
 ord_uniq ((sortB_perm _).trans (putsL_perm xs l).symm) (sortB_ord _) (putsL_ord xs h)
theorem putsL_length (l xs : List BarT) : (putsL l xs).length = l.length + xs.length := by
 rw [(putsL_perm xs l).length_eq, List.length_append]

/-! ### the walk -/
set_option maxHeartbeats 1000000 in
theorem compareBars_lays (x y : BarT) (w : World) :
  Calls Tryz.prog 110 #[.agg #[.int .i64 x.1, .int .i64 x.2], .agg #[.int .i64 y.1, .int .i64 y.2]] w fun e w' => e = .returned (.int .i64 (cmpB x y)) ∧ ∃ q os', w' = Go.Sort.grow (w.drewN q) os' := by
 obtain ⟨x1, x2⟩ := x
 obtain ⟨y1, y2⟩ := y
 dsimp only
 by_cases h1 : cmpI x1 y1 = 0
 ·have HF := Lib.hid (ret_int (k := .i64) (show cmpB (x1, x2) (y1, y2) = cmpI x2 y2 by simp [cmpB, h1]))
  have H1 := Lib.hid h1
  clear h1
  go_enter Tryz.func110, Tryz.ntmps110
  go_wp2_with fail
  refine (compareInts_any _ _ _).mono ?_
  rintro e w1 ⟨rfl, rfl⟩
  rw [H1.out]
  go_wp2_with fail
  refine (compareInts_any _ _ _).mono ?_
  rintro e w1 ⟨rfl, rfl⟩
  go_wp2_with fail
  go_ret
  exact ⟨HF.out.symm, 0, _, by rw [Go.Sort.alloc_eq_grow, Go.Sort.alloc_eq_grow, Go.Sort.grow_grow]; rfl⟩
 ·have HF := Lib.hid (ret_int (k := .i64) (show cmpB (x1, x2) (y1, y2) = cmpI x1 y1 by simp [cmpB, h1]))
  have h1' : (cmpI x1 y1 != 0) = true := by simpa using h1
  clear h1
  go_enter Tryz.func110, Tryz.ntmps110
  go_wp2_with fail
  refine (compareInts_any _ _ _).mono ?_
  rintro e w1 ⟨rfl, rfl⟩
  go_wp2_with fail
  go_ret
  exact ⟨HF.out.symm, 0, _, by rw [Go.Sort.alloc_eq_grow, Go.Sort.alloc_eq_grow, Go.Sort.grow_grow]; rfl⟩

theorem flatK_bars (l : List BarT) : (Go.Sort.flatK cellsBar 2 l.toArray).toList = l.flatMap cellsBar := by
 apply List.ext_getElem?
 intro j
 by_cases hj : j < l.length * 2
 ·have e1 : ∀ (l : List BarT) (j : Nat), j < l.length * 2 → (l.flatMap cellsBar)[j]? = some (cellsBar (l[j / 2]!))[j % 2]! := by
   intro l
   induction l with
   | nil => intro j h; simp at h
   | cons y t ih =>
    intro j h
    rw [List.flatMap_cons]
    by_cases h2 : j < 2
    ·rw [List.getElem?_append_left (by simpa [cellsBar] using h2)]
     obtain rfl | rfl : j = 0 ∨ j = 1 := by omega
     ·rfl
     ·rfl
    ·rw [List.getElem?_append_right (by simp [cellsBar]; omega)]
     have e2 : (cellsBar y).length = 2 := rfl
     have e3 : j / 2 = (j - 2) / 2 + 1 := by omega
     have e4 : j % 2 = (j - 2) % 2 := by omega
     rw [e2, ih (j - 2) (by simp at h; omega), e3, e4]
     rfl
  rw [e1 l j hj, Array.getElem?_toList]
  have e5 := Go.Sort.get_flatK cellsBar 2 l.toArray j (by simpa using hj)
  have e6 : j < (Go.Sort.flatK cellsBar 2 l.toArray).size := by simpa using hj
  rw [getElem!_pos (Go.Sort.flatK cellsBar 2 l.toArray) j e6] at e5
  rw [Array.getElem?_eq_getElem e6, e5]
  simp
 ·rw [List.getElem?_eq_none (by simp; omega), List.getElem?_eq_none (by rw [flat2 cellsBar (fun _ => rfl)]; omega)]
theorem holdsV_of_block {w : World} {g : Nat} {cur : Array Value} {e : TypeId} {F : Array Value} (hb : w.heap[g]? = some (.cells cur e (0, 0))) (ht : cur.toList.take F.size = F.toList) : Go.Sort.Holds id w g 0 F := by
 intro j hj
 refine ⟨?_, by simp [World.frozen?, hb]⟩
 have h1 : (cur.toList.take F.size)[j]? = F.toList[j]? := by rw [ht]
 rw [List.getElem?_take_of_lt hj] at h1
 simp only [World.cell?, hb, Nat.zero_add]
 simp only [Option.isSome_none, Bool.false_eq_true, if_false]
 rw [← Array.getElem?_toList, h1]
 simp [hj]
theorem heapV_sorted {w : World} {g n : Nat} {os : Array Obj} {cur : Array Value} {e : TypeId} {fr : Nat × Nat} (d : Array Value) (hb : w.heap[g]? = some (.cells cur e fr)) :
  (Go.Sort.grow (Go.Sort.putRow id (Go.Sort.ahead w n) g 0 d) os).heap[g]? = some (.cells (Go.Sort.putCells id 0 d cur) e fr) := by
 have hg : g < w.heap.size := (Array.getElem?_eq_some_iff.1 hb).1
 rw [Go.Sort.heap_grow_old _ _ (by simpa using hg)]
 simp [Go.Sort.putRow, Go.Sort.mapBlock, Go.Sort.ahead, Array.getElem?_modify, hb, Go.Sort.onCells]
theorem keptV_sorted {w : World} {g n : Nat} {os : Array Obj} (d : Array Value) : Kept (fun k => k = g) w (Go.Sort.grow (Go.Sort.putRow id (Go.Sort.ahead w n) g 0 d) os) := by
 refine ⟨rfl, rfl, rfl, by simp, fun k hk hne => ?_⟩
 rw [Go.Sort.heap_grow_old _ _ (by simpa using hk)]
 have : g ≠ k := fun e => hne e.symm
 simp [Go.Sort.putRow, Go.Sort.mapBlock, Go.Sort.ahead, Array.getElem?_modify, this]
theorem takeV_putCells (cur : Array Value) (F : Array Value) (h : F.size ≤ cur.size) : (Go.Sort.putCells id 0 F cur).toList.take F.size = F.toList := by
 apply List.ext_getElem?
 intro j
 by_cases hj : j < F.size
 ·rw [List.getElem?_take_of_lt hj, Array.getElem?_toList]
  simp [Go.Sort.putCells, hj, show j < cur.size by omega]
 ·rw [List.getElem?_take_eq_none (by omega), List.getElem?_eq_none (by simp; omega)]
theorem sortFunc_own (W : World) (base : Nat) (v : Value) (l : List BarT) (h : OwnBars W base v l) (hn : l.length ≤ 1099511627776) :
  Calls Tryz.prog 125 #[v, .func (.func 110) #[] #[]] W fun e w' => e = .returned (.tuple #[]) ∧ OwnBars w' base v (sortB l) ∧ Kept (fun k => some k = v.ownBlock) W w' := by
 by_cases h0 : l.length = 0
 ·have hF : l = [] := List.eq_nil_of_length_eq_zero h0
  subst hF
  obtain ⟨a, cap, rfl, _⟩ := h.form
  refine (AnyF.slices_SortFunc_none Tryz.sortBars a cap _ W).mono ?_
  rintro e w' ⟨rfl, rfl⟩
  exact ⟨rfl, by simpa [sortB] using h, Kept.refl _ _⟩
 ·rcases h.2 with ⟨_, e0⟩ | ⟨g, cap, cur, rfl, hb, hg, hnc, hcm, hcs, htake⟩
  ·exact absurd e0 h0
  ·have eg : ∀ args w, (callFunc 110 args).run Tryz.prog w = .ok (.enter 110 args) w := enters_of Tryz.func110 (by kernel_rfl) rfl
   have hsz : (Go.Sort.flatK cellsBar 2 l.toArray).size = l.length * 2 := by simp
   have hH : Go.Sort.HoldsK cellsBar 2 W g 0 l.toArray := holdsV_of_block hg (by rw [hsz, flatK_bars]; simpa using htake)
   have hcon := AnyQ.slices_SortFunc_total Tryz.sortBars 2 Tryz.isAgg70 Tryz.sizeOf70 cellsBar (fun _ => rfl) (fun x v hv => by simp [cellsBar] at hv; rcases hv with rfl | rfl <;> rfl) cmpB swoB 110 #[] g 0 cap l.toArray W eg (fun _ _ _ _ x y => compareBars_lays x y _) hH (Array.getElem?_eq_some_iff.1 hg).1 (by simp; omega) totB
   refine hcon.mono ?_
   rintro e w' ⟨rfl, n, os, rfl⟩
   rw [ltB_le]
   have hs2 : (Go.Sort.flatK cellsBar 2 (sortB l).toArray).size = l.length * 2 := by simp [sortB_length]
   refine ⟨rfl, ?_, (keptV_sorted _).mono fun k _ hk => by subst hk; rfl⟩
   unfold OwnBars
   rw [sortB_length]
   refine ⟨by rw [flat2 cellsBar (fun _ => rfl), sortB_length], .inr ⟨g, cap, _, rfl, hb, heapV_sorted _ hg, hnc, hcm, by simp [Go.Sort.putCells, hcs], ?_⟩⟩
   have h9 := takeV_putCells cur (Go.Sort.flatK cellsBar 2 (sortB l).toArray) (by rw [hs2, hcs]; exact Nat.mul_le_mul_right 2 hnc)
   rw [hs2, flatK_bars] at h9
   exact h9
end Go.Proofs.YtfbmpkdjhhcnpaaGreat

