/- OvercountedSet, IsSparse and IsTight of the program. No condition but sizes. -/
import Derived.Test.YtfdhbbhfilkafaaGreatOvs
import Derived.Deep.QuietTactic
import Derived.BigQuiet
namespace Go.Proofs.YtfdhbbhfilkafaaGreat
open Go.RowKit
set_option maxRecDepth 100000
set_option linter.unusedVariables false
set_option linter.unusedSimpArgs false
set_option maxHeartbeats 2000000 in
theorem setOf_at (W : World) (p m : Nat) (hp : p ≤ 8) (hm : m < 256) :
    Calls Tryz.prog 135 #[.int .i64 (m : Int), .int .i64 (p : Int)] W (RetInts W (maskL m p)) := by
  go_enter Tryz.func135, Tryz.ntmps135
  go_wp2_with fail
  go_loopw [5, 9] (fun o i w9 => ∃ k : Nat, k ≤ p ∧ i = .int .i64 k ∧ OwnInts w9 W.heap.size o (maskL m k) ∧ Below W.heap.size W w9) (fun _ i _ => p - (intOf i).toNat)
  case atStart => exact ⟨0, Nat.zero_le _, rfl, made_intsS W, belAl W _⟩
  case round =>
    obtain ⟨k, hk, rfl, ho, hb⟩ := hrel
    by_cases hlt : k < p
    · have hki : (k : Int) < (p : Int) := by omega
      have HB := bit_and m k
      have hlk := maskL_len m k
      have HO := Lib.hid ho
      clear ho
      cases hd : bitB m k
      · have HS := Lib.hid (show maskL m (k + 1) = maskL m k by conv => lhs; unfold maskL; rw [hd]; simp)
        rw [hd] at HB
        clear hd
        go_wp2_with fail
        go_roundw
        case rel => exact ⟨k + 1, by omega, by go_num, by rw [HS.out]; exact HO.out, hb⟩
        case measure => simp [intOf]; omega
      · have HS := Lib.hid (show maskL m (k + 1) = maskL m k ++ [(k : Int)] by conv => lhs; unfold maskL; rw [hd]; simp)
        rw [hd] at HB
        clear hd
        have hbz := hb.size
        go_wp2_with (at_builtin; refine app1At rfl (.tmp 17) (.tmp 19) rfl rfl HO.out (k : Int) rfl (by omega) (by omega) ?_; intro v5 w5 h5 k5 a5)
        go_roundw
        case rel => exact ⟨k + 1, by omega, by go_num, by rw [HS.out]; exact h5, hb.trans (k5.below (by omega) fun j h1 h2 => by have := (HO.out.lt j h2.symm).1; omega)⟩
        case measure => simp [intOf]; omega
    · obtain rfl : k = p := by omega
      go_wp2_with fail
      go_ret
      exact ⟨_, rfl, ho, hb⟩
set_option maxHeartbeats 4000000 in
theorem implOvc_at (W : World) (p : Int) (a : Option Addr) (cap : Nat) (l : List BarT) (h : BarsAt W a l.length l) (hs : l.length ≤ 1048576) (k r : Int) :
    Calls Tryz.prog 94 #[.agg #[.int .i64 p, .slice a l.length cap], .int .i64 k, .int .i64 r] W (RetOv W (ovcB (p, l) k r)) := by
  have hwd := @Wd.cells
  have HGr : Hid (IsGraph W (.agg #[.int .i64 p, .slice a l.length cap]) (p, l)) := Lib.hid ⟨a, cap, rfl, h⟩
  have H1 := Lib.hid h
  clear h
  have hsz : szGraph (p, l) ≤ 1048576 := hs
  have hsz2 : szGraph (p, l) ≤ 1099511627776 := Nat.le_trans hsz (by decide)
  have B : Below W.heap.size W (W.alloc (.cells #[.int .i64 p, .slice a l.length cap] 26)) := (Below.refl _ _).alloc (Nat.le_refl _) _
  have BG : Hid (BoxGr (W.alloc (.cells #[.int .i64 p, .slice a l.length cap] 26)) W.heap.size p a l.length cap) := Lib.hid (BoxGr.at rfl)
  have HCG : Hid (∀ w1 : World, Below W.heap.size W w1 → Calls Tryz.prog 69 #[.agg #[.int .i64 p, .slice a l.length cap]] w1 fun e w' => e = .returned (.bool (isGraphB (p, l))) ∧ Below w1.heap.size w1 w') := Lib.hid fun w1 b => impl_IsGraph_is w1 _ (p, l) (HGr.out.below b) hsz2
  go_enter Tryz.func94, Tryz.ntmps94
  go_wp2_with fail
  generalize (W.alloc (.cells #[.int .i64 p, .slice a l.length cap] 26)) = u at *
  refine (HCG.out _ B).mono ?_
  rintro e w1 ⟨rfl, b⟩
  have hz1 := b.size
  replace B := B.step b
  replace BG := Lib.hid (BG.out.below b)
  clear b
  cases hg : isGraphB (p, l)
  · have HE := Lib.hid (show ovcB (p, l) k r = false by unfold ovcB; rw [hg]; rfl)
    go_wp2_with fail
    go_ret2
    rw [HE.out]
    exact ⟨⟨_, rfl⟩, B.step (belAl _ _)⟩
  have HCR := Lib.hid (implRange_any k r w1)
  cases hr : rangeB k r
  · have HE := Lib.hid (show ovcB (p, l) k r = false by unfold ovcB; rw [hr, Bool.and_false]; rfl)
    go_wp2_with (go_at_call 95; refine HCR.out.mono ?_; rintro e w2 ⟨rfl, b⟩; rw [hr]; have hz2 := b.size; replace B := B.step b; replace BG := Lib.hid (BG.out.below b); clear b)
    go_ret2
    rw [HE.out]
    exact ⟨⟨_, rfl⟩, B.step (belAl _ _)⟩
  obtain ⟨⟨hg1, hg2⟩, hll⟩ := isGraphB_bd hg
  obtain ⟨P, rfl⟩ := Int.eq_ofNat_of_zero_le (show 0 ≤ p by omega)
  have hP : P ≤ 8 := by omega
  have HR := Lib.hid (isGraphB_ends hg)
  have HO : Hid (ovcB ((P : Int), l) k r = overB P l k r) := Lib.hid (by unfold ovcB; rw [hg, hr]; rfl)
  obtain ⟨hQ1, hQ2⟩ := pow8 hP
  have hkr : (1 ≤ k ∧ k ≤ 3) ∧ 0 ≤ r ∧ r ≤ 5 := by
    unfold rangeB inB at hr
    simp only [Bool.and_eq_true, decide_eq_true_eq] at hr
    omega
  obtain ⟨Q, hQ⟩ : ∃ Q, Q = 2 ^ P := ⟨_, rfl⟩
  have hsh : wrap64 ((2 : Int) ^ P) = (Q : Int) := by
    have e : ((2 : Int) ^ P) = ((2 ^ P : Nat) : Int) := by rw [Int.natCast_pow]; rfl
    rw [e, ← hQ]
    exact IntWalk.wrap64_in _ (by omega)
  have HNO : Hid (∀ m, m < Q → overAt P l k r m = true → overB P l k r = true) := Lib.hid fun m hm h => overB_yes (by omega) h
  have HNA : Hid ((∀ m, m < Q → overAt P l k r m = false) → overB P l k r = false) := Lib.hid fun h => overB_no fun m hm => h m (by omega)
  rw [← hQ] at hQ1 hQ2
  clear hQ
  go_wp2_with (go_at_call 95; refine HCR.out.mono ?_; rintro e w2 ⟨rfl, b⟩; rw [hr]; have hz2 := b.size; replace B := B.step b; replace BG := Lib.hid (BG.out.below b); clear b)
  have HN0 : Hid (∀ q, q < 1 → overAt P l k r q = false) := Lib.hid fun q hq => by
    rw [show q = 0 by omega]
    exact overAt_zero P l k r
  clear hg hr HCR
  go_loopw [8] (fun i w9 => ∃ m : Nat, 1 ≤ m ∧ m ≤ Q ∧ i = .int .i64 m ∧ (∀ q, q < m → overAt P l k r q = false) ∧ Below W.heap.size W w9 ∧ BoxGr w9 W.heap.size P a l.length cap) (fun i _ => Q - (intOf i).toNat)
  case atStart => exact ⟨1, Nat.le_refl _, hQ1, rfl, HN0.out, B, BG.out⟩
  case round =>
    clear B BG
    obtain ⟨m, hm1, hm, rfl, hno, B, bg⟩ := hrel
    have HN := Lib.hid hno
    have BG := Lib.hid bg
    clear hno bg
    by_cases hlt : m < Q
    · have hlti : (m : Int) < (Q : Int) := by omega
      have HOV : Hid (overAt P l k r m = (decide (0 < spanM l m l.length) && decide (k * (sizeM m P : Int) - r < (spanM l m l.length : Int)))) := Lib.hid rfl
      obtain ⟨zBG, fBG0, fBG1⟩ := BG.out
      go_wp2_with fail
      go_loop [9, 33] (fun z i => ∃ v : Nat, v ≤ P ∧ i = .int .i64 v ∧ z = .int .i64 (sizeM m v)) (fun _ i => P - (intOf i).toNat)
      case atStart => exact ⟨0, Nat.zero_le _, rfl, rfl⟩
      case round =>
        obtain ⟨v, hv, rfl, rfl⟩ := hrel
        have hle := sizeM_le m v
        by_cases hvP : v < P
        · have hvi : (v : Int) < (P : Int) := by omega
          have HA := and_bit m v
          have HS := Lib.hid (sizeM_succ m v)
          generalize sizeM m v = Z at *
          cases hd : bitB m v
          · rw [hd] at HA HS
            simp only [Bool.false_eq_true, if_false] at HA
            go_wp2_with fail
            go_round
            case rel => exact ⟨v + 1, by omega, by go_num, by rw [HS.out]; go_num⟩
            case measure => simp [intOf]; omega
          · rw [hd] at HA HS
            simp only [if_true] at HA
            go_wp2_with fail
            go_round
            case rel => exact ⟨v + 1, by omega, by go_num, by rw [HS.out]; go_num⟩
            case measure => simp [intOf]; omega
        · obtain rfl : v = P := by omega
          have hmm := HOV.out
          have hs1 := sizeM_le m v
          generalize hS : sizeM m v = S at *
          have hb1 : 0 ≤ k * (S : Int) := Int.mul_nonneg (by omega) (by omega)
          have hb2 : k * (S : Int) ≤ 3 * 8 := Int.mul_le_mul (by omega) (by omega) (by omega) (by omega)
          have hmul := IntWalk.i64_in (k * (S : Int)) (by omega)
          have hsub := IntWalk.i64_in (k * (S : Int) - r) (by omega)
          clear hS hmm
          obtain ⟨P, hP9⟩ : ∃ P, P = v := ⟨_, rfl⟩
          subst hP9
          go_wp2_with fail
          clear fBG0 fBG1 zBG hv hvP hle
          go_loopw [10, 46] (fun z i w9 => ∃ j : Nat, j ≤ l.length ∧ i = .int .i64 j ∧ z = .int .i64 (spanM l m j) ∧ Below W.heap.size W w9 ∧ BoxGr w9 W.heap.size P a l.length cap) (fun _ i _ => l.length - (intOf i).toNat)
          case atStart => exact ⟨0, Nat.zero_le _, rfl, rfl, B, BG.out⟩
          case round =>
            clear B BG
            obtain ⟨j, hj, rfl, rfl, B, bg⟩ := hrel
            have BG := Lib.hid bg
            clear bg
            have hle := spanM_le l m j
            by_cases hjl : j < l.length
            · obtain ⟨bb, off, ⟨x1, x2⟩, rfl, hbl, hx, hc0, hc1⟩ := (H1.out.below B).2 j hjl
              dsimp only at hc0 hc1
              obtain ⟨⟨m1, m2⟩, m3, m4⟩ := HR.out _ (List.mem_of_getElem? hx)
              dsimp only at m1 m2 m3 m4
              obtain ⟨i1, rfl⟩ := Int.eq_ofNat_of_zero_le m1
              obtain ⟨i2, rfl⟩ := Int.eq_ofNat_of_zero_le m3
              have HS : Hid (spanM l m (j + 1) = spanM l m j + (if (bitB m i1 && bitB m i2) = true then 1 else 0)) := Lib.hid (spanM_succ hx)
              clear hx
              have hji : (j : Int) < (l.length : Int) := by omega
              have HA := and_bits m i1 i2
              generalize hZ : spanM l m j = Z at *
              clear hZ
              have bpl : Below wr.heap.size wr (wr.alloc (.cells #[.int .i64 i1, .int .i64 i2] 78)) := belAl _ _
              have p0 : (wr.alloc (.cells #[.int .i64 i1, .int .i64 i2] 78)).cell? ⟨wr.heap.size, 0, none⟩ = some (.int .i64 i1) := by simp [World.cell?_alloc_new]
              have p1 : (wr.alloc (.cells #[.int .i64 i1, .int .i64 i2] 78)).cell? ⟨wr.heap.size, 1, none⟩ = some (.int .i64 i2) := by simp [World.cell?_alloc_new]
              have pz : wr.heap.size < (wr.alloc (.cells #[.int .i64 i1, .int .i64 i2] 78)).heap.size := by simp
              go_wp2_with fail
              clear hc0 hc1
              replace B := B.step bpl
              replace BG := Lib.hid (BG.out.below bpl)
              generalize (wr.alloc (.cells #[.int .i64 i1, .int .i64 i2] 78)) = w5 at *
              clear bpl
              cases hd : (bitB m i1 && bitB m i2)
              · rw [hd] at HA HS
                simp only [Bool.false_eq_true, if_false] at HA
                refine wp_region_wd (by kernel_rfl) (by kernel_rfl) ?_
                repeat (go_big_quiet_step (fail))
                refine wpQuiet_nil ?_
                intro n1
                have hn1 := n1.h
                replace B := B.step hn1
                replace BG := Lib.hid (BG.out.below hn1)
                generalize n1.w = w6 at *
                clear p0 p1 pz hn1
                go_wp2_with fail
                go_roundw
                case rel => exact ⟨j + 1, by omega, by go_num, by rw [HS.out]; go_num, B, BG.out⟩
                case measure => simp [intOf]; omega
              · rw [hd] at HA HS
                simp only [if_true] at HA
                refine wp_region_wd (by kernel_rfl) (by kernel_rfl) ?_
                repeat (go_big_quiet_step (fail))
                refine wpQuiet_nil ?_
                intro n1
                have hn1 := n1.h
                replace B := B.step hn1
                replace BG := Lib.hid (BG.out.below hn1)
                generalize n1.w = w6 at *
                clear p0 p1 pz hn1
                go_wp2_with fail
                go_roundw
                case rel => exact ⟨j + 1, by omega, by go_num, by rw [HS.out]; go_num, B, BG.out⟩
                case measure => simp [intOf]; omega
            · obtain rfl : j = l.length := by omega
              generalize hT : spanM l m l.length = T at *
              clear hT hj hjl hle hsh hs1 hb1 hb2 hsz hsz2
              by_cases h0 : 0 < T
              · have h0i : (0 : Int) < (T : Int) := by omega
                by_cases h1 : k * (S : Int) - r < (T : Int)
                · have HE : Hid (ovcB ((P : Int), l) k r = true) := Lib.hid (by
                    rw [HO.out]
                    refine HNO.out m hlt ?_
                    rw [HOV.out, decide_eq_true h0, decide_eq_true h1]; rfl)
                  obtain ⟨zBG, fBG0, fBG1⟩ := BG.out
                  go_wp2_with (go_at_call 135; refine (setOf_at _ P m hP (by omega)).mono ?_; rintro e w7 ⟨v7, rfl, o7, b⟩; replace B := B.step b; clear b)
                  go_ret2
                  rw [HE.out]
                  exact ⟨⟨_, rfl⟩, B⟩
                · have HF : Hid (overAt P l k r m = false) := Lib.hid (by rw [HOV.out, decide_eq_false h1, Bool.and_false])
                  have h1i : (T : Int) ≤ k * (S : Int) - r := by omega
                  go_wp2_with fail
                  go_roundw
                  case rel =>
                    refine ⟨m + 1, by omega, by omega, by go_num, fun q hq => ?_, B, BG.out⟩
                    by_cases e : q = m
                    · rw [e]; exact HF.out
                    · exact HN.out q (by omega)
                  case measure => simp [intOf]; omega
              · have h0i : ¬ (0 : Int) < (T : Int) := by omega
                obtain rfl : T = 0 := by omega
                have HF : Hid (overAt P l k r m = false) := Lib.hid (by rw [HOV.out, decide_eq_false h0, Bool.false_and])
                clear hmul hsub h0 h0i
                go_wp2_with fail
                go_roundw
                case rel =>
                  refine ⟨m + 1, by omega, by omega, by go_num, fun q hq => ?_, B, BG.out⟩
                  by_cases e : q = m
                  · rw [e]; exact HF.out
                  · exact HN.out q (by omega)
                case measure => simp [intOf]; omega
    · obtain rfl : m = Q := by omega
      have HE : Hid (ovcB ((P : Int), l) k r = false) := Lib.hid (by rw [HO.out]; exact HNA.out HN.out)
      obtain ⟨zBG, fBG0, fBG1⟩ := BG.out
      go_wp2_with fail
      go_ret2
      rw [HE.out]
      exact ⟨⟨_, rfl⟩, B.step (belAl _ _)⟩
set_option maxHeartbeats 4000000 in
theorem implSparse_at (W : World) (p : Int) (a : Option Addr) (cap : Nat) (l : List BarT) (h : BarsAt W a l.length l) (hs : l.length ≤ 1048576) (k r : Int) : Calls Tryz.prog 39 #[.agg #[.int .i64 p, .slice a l.length cap], .int .i64 k, .int .i64 r] W fun e w' => e = .returned (.bool (sparseB (p, l) k r)) ∧ Below W.heap.size W w' := by
  have hwd := @Wd.cells
  have HGr : Hid (IsGraph W (.agg #[.int .i64 p, .slice a l.length cap]) (p, l)) := Lib.hid ⟨a, cap, rfl, h⟩
  have H1 := Lib.hid h
  clear h
  have hsz : szGraph (p, l) ≤ 1048576 := hs
  have hsz2 : szGraph (p, l) ≤ 1099511627776 := Nat.le_trans hsz (by decide)
  have B : Below W.heap.size W (W.alloc (.cells #[.int .i64 p, .slice a l.length cap] 26)) := (Below.refl _ _).alloc (Nat.le_refl _) _
  have BG : Hid (BoxGr (W.alloc (.cells #[.int .i64 p, .slice a l.length cap] 26)) W.heap.size p a l.length cap) := Lib.hid (BoxGr.at rfl)
  have HCG : Hid (∀ w1 : World, Below W.heap.size W w1 → Calls Tryz.prog 69 #[.agg #[.int .i64 p, .slice a l.length cap]] w1 fun e w' => e = .returned (.bool (isGraphB (p, l))) ∧ Below w1.heap.size w1 w') := Lib.hid fun w1 b => impl_IsGraph_is w1 _ (p, l) (HGr.out.below b) hsz2
  have HCO : Hid (∀ w1 : World, Below W.heap.size W w1 → Calls Tryz.prog 94 #[.agg #[.int .i64 p, .slice a l.length cap], .int .i64 k, .int .i64 r] w1 (RetOv w1 (ovcB (p, l) k r))) := Lib.hid fun w1 b => implOvc_at w1 p a cap l (H1.out.below b) hs k r
  have HB : Hid (sparseB (p, l) k r = ((isGraphB (p, l) && rangeB k r) && !ovcB (p, l) k r)) := Lib.hid (by
    unfold sparseB ovcB
    cases isGraphB (p, l) && rangeB k r <;> simp)
  go_enter Tryz.func39, Tryz.ntmps39
  go_wp2_with fail
  generalize (W.alloc (.cells #[.int .i64 p, .slice a l.length cap] 26)) = u at *
  obtain ⟨zBG, fBG0, fBG1⟩ := BG.out
  go_wp2_with fail
  clear zBG fBG0 fBG1
  refine (HCO.out _ B).mono ?_
  rintro e w1 ⟨⟨vo, rfl⟩, b⟩
  have hz1 := b.size
  replace B := B.step b
  replace BG := Lib.hid (BG.out.below b)
  clear b
  generalize ovcB (p, l) k r = o at *
  obtain ⟨zBG, fBG0, fBG1⟩ := BG.out
  go_wp2_with fail
  clear zBG fBG0 fBG1
  refine (HCG.out _ B).mono ?_
  rintro e w2 ⟨rfl, b⟩
  have hz2 := b.size
  replace B := B.step b
  replace BG := Lib.hid (BG.out.below b)
  clear b
  have HCR := Lib.hid (implRange_any k r w2)
  generalize isGraphB (p, l) = g at *
  generalize rangeB k r = rr at *
  cases g
  · go_wp2_with fail
    go_ret
    rw [HB.out]
    exact ⟨rfl, B⟩
  · cases rr
    · go_wp2_with (go_at_call 95; refine HCR.out.mono ?_; rintro e w3 ⟨rfl, b⟩; have hz3 := b.size; replace B := B.step b; clear b)
      go_ret
      rw [HB.out]
      exact ⟨rfl, B⟩
    · cases o
      · go_wp2_with (go_at_call 95; refine HCR.out.mono ?_; rintro e w3 ⟨rfl, b⟩; have hz3 := b.size; replace B := B.step b; clear b)
        go_ret
        rw [HB.out]
        exact ⟨rfl, B⟩
      · go_wp2_with (go_at_call 95; refine HCR.out.mono ?_; rintro e w3 ⟨rfl, b⟩; have hz3 := b.size; replace B := B.step b; clear b)
        go_ret
        rw [HB.out]
        exact ⟨rfl, B⟩
set_option maxHeartbeats 4000000 in
theorem implTight_at (W : World) (p : Int) (a : Option Addr) (cap : Nat) (l : List BarT) (h : BarsAt W a l.length l) (hs : l.length ≤ 1048576) (k r : Int) : Calls Tryz.prog 56 #[.agg #[.int .i64 p, .slice a l.length cap], .int .i64 k, .int .i64 r] W fun e w' => e = .returned (.bool (tightB (p, l) k r)) ∧ Below W.heap.size W w' := by
  have hwd := @Wd.cells
  have HGr : Hid (IsGraph W (.agg #[.int .i64 p, .slice a l.length cap]) (p, l)) := Lib.hid ⟨a, cap, rfl, h⟩
  have H1 := Lib.hid h
  clear h
  have hsz : szGraph (p, l) ≤ 1048576 := hs
  have hsz2 : szGraph (p, l) ≤ 1099511627776 := Nat.le_trans hsz (by decide)
  have B : Below W.heap.size W (W.alloc (.cells #[.int .i64 p, .slice a l.length cap] 26)) := (Below.refl _ _).alloc (Nat.le_refl _) _
  have BG : Hid (BoxGr (W.alloc (.cells #[.int .i64 p, .slice a l.length cap] 26)) W.heap.size p a l.length cap) := Lib.hid (BoxGr.at rfl)
  have HCS : Hid (∀ w1 : World, Below W.heap.size W w1 → Calls Tryz.prog 39 #[.agg #[.int .i64 p, .slice a l.length cap], .int .i64 k, .int .i64 r] w1 fun e w' => e = .returned (.bool (sparseB (p, l) k r)) ∧ Below w1.heap.size w1 w') := Lib.hid fun w1 b => implSparse_at w1 p a cap l (H1.out.below b) hs k r
  go_enter Tryz.func56, Tryz.ntmps56
  go_wp2_with fail
  generalize (W.alloc (.cells #[.int .i64 p, .slice a l.length cap] 26)) = u at *
  obtain ⟨zBG, fBG0, fBG1⟩ := BG.out
  go_wp2_with fail
  clear zBG fBG0 fBG1
  refine (HCS.out _ B).mono ?_
  rintro e w1 ⟨rfl, b⟩
  have hz1 := b.size
  replace B := B.step b
  replace BG := Lib.hid (BG.out.below b)
  clear b
  cases hsp : sparseB (p, l) k r
  · have HE : Hid (tightB (p, l) k r = false) := Lib.hid (by unfold tightB; rw [hsp]; rfl)
    go_wp2_with fail
    go_ret
    rw [HE.out]
    exact ⟨rfl, B⟩
  · have hgr : isGraphB (p, l) = true ∧ rangeB k r = true := by
      unfold sparseB at hsp
      simp only [Bool.and_eq_true] at hsp
      exact hsp.1
    have HE : Hid (tightB (p, l) k r = ((l.length : Int) == max 0 (k * p - r))) := Lib.hid (by unfold tightB; rw [hsp]; rfl)
    obtain ⟨⟨hg1, hg2⟩, hg3⟩ := isGraphB_bd hgr.1
    have hkr : (1 ≤ k ∧ k ≤ 3) ∧ 0 ≤ r ∧ r ≤ 5 := by
      have hr := hgr.2
      unfold rangeB inB at hr
      simp only [Bool.and_eq_true, decide_eq_true_eq] at hr
      omega
    have hb1 : 0 ≤ k * p := Int.mul_nonneg (by omega) (by omega)
    have hb2 : k * p ≤ 3 * 8 := Int.mul_le_mul (by omega) (by omega) (by omega) (by omega)
    have hmul := IntWalk.i64_in (k * p) (by omega)
    have hsub := IntWalk.i64_in (k * p - r) (by omega)
    clear hsp hgr
    obtain ⟨zBG, fBG0, fBG1⟩ := BG.out
    go_wp2_with fail
    go_ret
    rw [HE.out]
    exact ⟨rfl, B⟩
end Go.Proofs.YtfdhbbhfilkafaaGreat
