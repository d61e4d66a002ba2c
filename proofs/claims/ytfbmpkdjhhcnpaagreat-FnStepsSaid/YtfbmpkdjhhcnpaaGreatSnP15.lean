/- l4Tail and IsPebbles of the reference. Conditions: a right state. -/
import Derived.Test.YtfbmpkdjhhcnpaaGreatSnP11
import Derived.Test.YtfbmpkdjhhcnpaaGreatSnP09
import Derived.Test.YtfbmpkdjhhcnpaaGreatSnP06
import Derived.BigRegion
import Derived.Test.YtfbmpkdjhhcnpaaGreatSnP10
import Derived.Test.YtfbmpkdjhhcnpaaGreatSnP07
import Derived.Deep.RegionHeld3
namespace Go.Proofs.YtfbmpkdjhhcnpaaGreat
open Go.RowKit
set_option maxRecDepth 100000
set_option linter.unusedVariables false
set_option linter.unusedSimpArgs false

theorem bokG_of {n : Nat} {l : List BarT} (h : isGraphB ((n : Int), l) = true) : Bok n l := fun e he => by
 have := isGraphB_bar h (List.getElem?_eq_getElem he)
 unfold gB
 rw [List.getElem?_eq_getElem he]
 exact this

set_option maxHeartbeats 2000000 in
theorem l4Tail_at (W : World) (vF vP : Value) (aT : Option Addr) (cT m : Nat) (T : List Int) (hT : IntsAt W aT m T) (hm : m ≤ 1048576) (hF : ∃ a n c, vF = .slice a n c) (hP : ∃ a n c, vP = .slice a n c) (v : Int) :
  Calls Tryz.prog 170 #[.agg #[vF, .slice aT m cT, vP], .int .i64 v] W fun e w' => e = .returned (.int .i64 ((T.count v : Nat) : Int)) ∧ Below W.heap.size W w' := by
 obtain ⟨aF, nF, cF, rfl⟩ := hF
 obtain ⟨aP, nP, cP, rfl⟩ := hP
 have HT := Lib.hid hT
 have BP : Hid (BoxPb _ W.heap.size (.slice aF nF cF) (.slice aT m cT) (.slice aP nP cP)) := Lib.hid (BoxPb.at W (.slice aF nF cF) (.slice aT m cT) (.slice aP nP cP) 117)
 have hb0 := belAl W (.cells #[.slice aF nF cF, .slice aT m cT, .slice aP nP cP] 117)
 clear hT
 go_enter Tryz.func170, Tryz.ntmps170
 go_wp2_with fail
 generalize W.alloc (.cells #[.slice aF nF cF, .slice aT m cT, .slice aP nP cP] 117) = u at *
 obtain ⟨zp, bp0, bp1, bp2⟩ := BP.out
 go_loop [5, 6] (fun c i => ∃ j : Nat, ∃ d : Nat, j ≤ m ∧ i = .int .i64 j ∧ c = .int .i64 (d : Int) ∧ Hid (d = (T.take j).count v) ∧ d ≤ j) (fun _ i => m - (intOf i).toNat)
 case atStart => exact ⟨0, 0, Nat.zero_le _, rfl, rfl, Lib.hid rfl, Nat.le_refl _⟩
 case round =>
  obtain ⟨j, d, hj, rfl, rfl, hd, hdj⟩ := hrel
  by_cases hlt : j < m
  ·obtain ⟨bt, ot, tv, rfl, hbt, hxt, d1⟩ := (HT.out.below hb0).2 j hlt
   have HX := Lib.hid hxt
   clear hxt
   by_cases hq : tv = v
   ·have hqb : (tv == v) = true := by rw [hq]; simp
    have HD := Lib.hid (show d + 1 = (T.take (j + 1)).count v by rw [take_succ_of HX.out, List.count_append, ← hd.out, hq]; simp)
    clear hq
    go_wp2_with fail
    go_round
    case rel => exact ⟨j + 1, d + 1, by omega, by go_num, by go_num, HD, by omega⟩
    case measure => simp [intOf]; omega
   ·have hqb : (tv == v) = false := by rw [beq_eq_false_iff_ne]; exact hq
    have HD := Lib.hid (show d = (T.take (j + 1)).count v by
     rw [take_succ_of HX.out, List.count_append, ← hd.out, List.count_cons, List.count_nil, hqb]; simp)
    clear hq
    go_wp2_with fail
    go_round
    case rel => exact ⟨j + 1, d, by omega, by go_num, rfl, HD, by omega⟩
    case measure => simp [intOf]; omega
  ·obtain rfl : m = j := by omega
   have HD := Lib.hid (show (d : Int) = ((T.count v : Nat) : Int) by
    have h1 := hd.out
    rw [List.take_of_length_le (by have := HT.out.1; omega)] at h1
    rw [h1])
   clear hd
   go_wp2_with fail
   go_ret
   exact ⟨by rw [← HD.out]; try rfl, hb0⟩

set_option maxHeartbeats 16000000 in
theorem isPeb_at (W : World) (n E : Nat) (k : Int) (hk1 : 1 ≤ k ∧ k ≤ 3) (a : Option Addr) (cap : Nat) (l : List BarT) (h : BarsAt W a l.length l) (hg : isGraphB ((n : Int), l) = true) (hE : E ≤ l.length) (S : PebT) (hI : Inv n k l E S) (vF vT vP : Value) (hS : PebIs W vF vT vP S) :
  Calls Tryz.prog 157 #[.agg #[.int .i64 (n : Int), .slice a l.length cap], .int .i64 k, .agg #[vF, vT, vP]] W fun e w' => e = .returned (.bool true) ∧ Below W.heap.size W w' := by
 obtain ⟨⟨hg1, hg2⟩, hg3⟩ := isGraphB_bd hg
 have hb := bokG_of hg
 obtain ⟨F, T, P⟩ := S
 have hlF : F.length = n := hI.len
 have hlT : T.length = P.length := hI.tl
 have hpl := hI.plen
 dsimp only at hpl
 obtain ⟨aF, cF, rfl, hF⟩ := hS.iF
 obtain ⟨aT, cT, rfl, hT⟩ := hS.iT
 obtain ⟨aP, cP, rfl, hP⟩ := hS.iP
 obtain ⟨m, hm⟩ : ∃ m, P.length = m := ⟨_, rfl⟩
 dsimp only at hF hT hP ⊢
 rw [hlF] at hF ⊢
 rw [hlT, hm] at hT ⊢
 rw [hm] at hP hpl
 have B0 : Below W.heap.size W ((W.alloc (.cells #[.int .i64 (n : Int), .slice a l.length cap] 26)).alloc (.cells #[.slice aF n cF, .slice aT m cT, .slice aP m cP] 117)) := (belAl _ _).step (belAl _ _)
 have BG : Hid (BoxGr ((W.alloc (.cells #[.int .i64 (n : Int), .slice a l.length cap] 26)).alloc (.cells #[.slice aF n cF, .slice aT m cT, .slice aP m cP] 117)) W.heap.size n a l.length cap) := Lib.hid ((BoxGr.at rfl).below (belAl _ _))
 have BP : Hid (BoxPb ((W.alloc (.cells #[.int .i64 (n : Int), .slice a l.length cap] 26)).alloc (.cells #[.slice aF n cF, .slice aT m cT, .slice aP m cP] 117)) (W.heap.size + 1) (.slice aF n cF) (.slice aT m cT) (.slice aP m cP)) := Lib.hid (by
  have := BoxPb.at (W.alloc (.cells #[.int .i64 (n : Int), .slice a l.length cap] 26)) (.slice aF n cF) (.slice aT m cT) (.slice aP m cP) 117
  rwa [World.size_alloc] at this)
 have HG : Hid (∀ w, Below W.heap.size W w → Calls Tryz.prog 51 #[.agg #[.int .i64 (n : Int), .slice a l.length cap]] w fun e w' => e = .returned (.bool true) ∧ Below w.heap.size w w') := Lib.hid fun w b => by
  have := spec_IsGraph_is w _ ((n : Int), l) ⟨a, cap, rfl, h.below b⟩ (by show l.length ≤ _; omega)
  rwa [hg] at this
 have HK : Hid (∀ w, Calls Tryz.prog 52 #[.int .i64 k, .int .i64 1, .int .i64 3] w fun e w' => e = .returned (.bool true) ∧ w = w') := Lib.hid fun w => by
  have := l1In_any k 1 3 w
  rwa [show inB k 1 3 = true by simp [inB]; omega] at this
 have HTL := Lib.hid fun (w : World) (b : Below W.heap.size W w) (v : Int) => l4Tail_at w (.slice aF n cF) (.slice aP m cP) aT cT m T (hT.below b) (by omega) ⟨_, _, _, rfl⟩ ⟨_, _, _, rfl⟩ v
 have H1 := Lib.hid h
 have HB := Lib.hid hb
 have HI := Lib.hid hI
 have HF := Lib.hid hF
 have HT := Lib.hid hT
 have HP := Lib.hid hP
 have HM := Lib.hid hm
 have hnn : ((n : Int) != (n : Int)) = false := by simp
 have hmm : ((m : Int) != (m : Int)) = false := by simp
 clear h hb hI hS hF hT hP hlF hlT hm hg
 go_enter Tryz.func157, Tryz.ntmps157
 go_wp2_with fail
 generalize ((W.alloc (.cells #[.int .i64 (n : Int), .slice a l.length cap] 26)).alloc (.cells #[.slice aF n cF, .slice aT m cT, .slice aP m cP] 117)) = u at *
 refine (HG.out _ B0).mono ?_
 rintro e w1 ⟨rfl, b⟩
 have B1 := B0.step b
 have BG1 := Lib.hid (BG.out.below b)
 have BP1 := Lib.hid (BP.out.below b)
 clear b BG BP HG B0
 go_wp2_with fail
 refine (HK.out _).mono ?_
 rintro e w2 ⟨rfl, rfl⟩
 obtain ⟨zg, bg0, bg1⟩ := BG1.out
 obtain ⟨zp, bp0, bp1, bp2⟩ := BP1.out
 go_wp2_with fail
 clear zg bg0 bg1 zp bp0 bp1 bp2 HK
 go_loopw [7] (fun i wr => ∃ j : Nat, j ≤ m ∧ i = .int .i64 j ∧ Below W.heap.size W wr ∧ BoxGr wr W.heap.size n a l.length cap ∧ BoxPb wr (W.heap.size + 1) (.slice aF n cF) (.slice aT m cT) (.slice aP m cP)) (fun i _ => m - (intOf i).toNat)
 case atStart => exact ⟨0, Nat.zero_le _, rfl, B1, BG1.out, BP1.out⟩
 case round =>
  clear B1 BG1 BP1
  obtain ⟨j, hj, rfl, hB, hbg, hbp⟩ := hrel
  have BG := Lib.hid hbg
  have BP := Lib.hid hbp
  clear hbg hbp
  obtain ⟨zg, bg0, bg1⟩ := BG.out
  obtain ⟨zp, bp0, bp1, bp2⟩ := BP.out
  by_cases hlt : j < m
  ·obtain ⟨bt, ot, tv, rfl, hbt, hxt, d1⟩ := (HT.out.below hB).2 j hlt
   obtain ⟨bq, oq, pv, rfl, hbq, hxp, d2⟩ := (HP.out.below hB).2 j hlt
   obtain ⟨e, he, heE, hor⟩ := HI.out.pl j (by show j < P.length; have := HM.out; omega)
   dsimp only at he hor
   have hel : e < l.length := by omega
   have htv : gI T j = tv := by unfold gI; rw [hxt]; rfl
   have hpv : pv = (e : Int) := by
    have : gI P j = pv := by unfold gI; rw [hxp]; rfl
    omega
   rw [hpv] at d2
   obtain ⟨bb, ob, ⟨b1, b2⟩, rfl, hbb, hxb, d3, d4⟩ := (H1.out.below hB).2 e hel
   have hgb : gB l e = (b1, b2) := by unfold gB; rw [hxb]; rfl
   rw [hgb, htv] at hor
   dsimp only at hor d3 d4
   have s1 : (j : Int) < (m : Int) := by omega
   have s3 : (e : Int) < (l.length : Int) := by omega
   have s4 : (0 : Int) ≤ (j : Int) := by omega
   have s6 : (0 : Int) ≤ (e : Int) := by omega
   have c1 : decide ((e : Int) < 0) = false := decide_eq_false (by omega)
   have c2 : decide ((l.length : Int) ≤ (e : Int)) = false := decide_eq_false (by omega)
   have c2n : decide (l.length ≤ e) = false := decide_eq_false (by omega)
   clear hxt hxp hxb hgb hpv htv
   by_cases hj0 : j = 0
   ·have c3 : decide ((0 : Int) < (j : Int)) = false := decide_eq_false (by omega)
    have c3n : decide (0 < j) = false := decide_eq_false (by omega)
    clear hj0
    by_cases hA : tv = b1
    ·have c4 : (tv != b1) = false := by rw [hA]; simp
     clear hA hor
     go_wp2_with fail
     have hwd := @Wd.cells
     refine wp_region_wd (by kernel_rfl) (by kernel_rfl) ?_
     repeat (go_big_quiet_step (fail))
     refine wpQuiet_nil ?_
     intro n1
     have bd := n1.h
     have BG2 := Lib.hid (BG.out.below bd)
     have BP2 := Lib.hid (BP.out.below bd)
     have hB2 := hB.step bd
     clear zg bg0 bg1 zp bp0 bp1 bp2 d1 d2 d3 d4 bd hwd
     go_wp2_with fail
     go_roundw
     case rel => exact ⟨j + 1, by omega, by go_num, hB2, BG2.out, BP2.out⟩
     case measure => simp [intOf]; omega
    ·have c4 : (tv != b1) = true := by simpa using hA
     have c5 : (tv != b2) = false := by rw [hor.resolve_left hA]; simp
     clear hA hor
     go_wp2_with fail
     have hwd := @Wd.cells
     refine wp_region_wd (by kernel_rfl) (by kernel_rfl) ?_
     repeat (go_big_quiet_step (fail))
     refine wpQuiet_nil ?_
     intro n1
     have bd := n1.h
     have BG2 := Lib.hid (BG.out.below bd)
     have BP2 := Lib.hid (BP.out.below bd)
     have hB2 := hB.step bd
     clear zg bg0 bg1 zp bp0 bp1 bp2 d1 d2 d3 d4 bd hwd
     go_wp2_with fail
     go_roundw
     case rel => exact ⟨j + 1, by omega, by go_num, hB2, BG2.out, BP2.out⟩
     case measure => simp [intOf]; omega
   ·have c3 : decide ((0 : Int) < (j : Int)) = true := decide_eq_true (by omega)
    have c3n : decide (0 < j) = true := decide_eq_true (by omega)
    obtain ⟨bq', oq', pv2, hab', hbq', hxp2, d6⟩ := (HP.out.below hB).2 (j - 1) (by omega)
    simp only [Option.some.injEq, Addr.mk.injEq, and_true] at hab'
    obtain ⟨rfl, rfl⟩ := hab'
    have hinc := HI.out.inc (j - 1) (by show j - 1 + 1 < P.length; have := HM.out; omega)
    dsimp only at hinc
    rw [show j - 1 + 1 = j by omega, he] at hinc
    have hp2 : gI P (j - 1) = pv2 := by unfold gI; rw [hxp2]; rfl
    rw [hp2] at hinc
    have c6 : decide ((e : Int) ≤ pv2) = false := decide_eq_false (by omega)
    have hji : ((j - 1 : Nat) : Int) = (j : Int) - 1 := by omega
    have htn : ((j : Int) - 1).toNat = j - 1 := by omega
    have hw := IntWalk.i64_in ((j : Int) - 1) (by omega)
    have s7 : (0 : Int) ≤ (j : Int) - 1 := by omega
    have s8 : (j : Int) - 1 < (m : Int) := by omega
    clear hxp2 hp2 hinc hj0 hji hbq'
    by_cases hA : tv = b1
    ·have c4 : (tv != b1) = false := by rw [hA]; simp
     clear hA hor
     go_wp2_with fail
     have hwd := @Wd.cells
     refine wp_region_wd (by kernel_rfl) (by kernel_rfl) ?_
     repeat (go_big_quiet_step (fail))
     refine wpQuiet_nil ?_
     intro n1
     have bd := n1.h
     have BG2 := Lib.hid (BG.out.below bd)
     have BP2 := Lib.hid (BP.out.below bd)
     have hB2 := hB.step bd
     clear zg bg0 bg1 zp bp0 bp1 bp2 d1 d2 d3 d4 bd hwd
     go_wp2_with fail
     go_roundw
     case rel => exact ⟨j + 1, by omega, by go_num, hB2, BG2.out, BP2.out⟩
     case measure => simp [intOf]; omega
    ·have c4 : (tv != b1) = true := by simpa using hA
     have c5 : (tv != b2) = false := by rw [hor.resolve_left hA]; simp
     clear hA hor
     go_wp2_with fail
     have hwd := @Wd.cells
     refine wp_region_wd (by kernel_rfl) (by kernel_rfl) ?_
     repeat (go_big_quiet_step (fail))
     refine wpQuiet_nil ?_
     intro n1
     have bd := n1.h
     have BG2 := Lib.hid (BG.out.below bd)
     have BP2 := Lib.hid (BP.out.below bd)
     have hB2 := hB.step bd
     clear zg bg0 bg1 zp bp0 bp1 bp2 d1 d2 d3 d4 bd hwd
     go_wp2_with fail
     go_roundw
     case rel => exact ⟨j + 1, by omega, by go_num, hB2, BG2.out, BP2.out⟩
     case measure => simp [intOf]; omega
  ·obtain rfl : m = j := by omega
   go_wp2_with fail
   clear zg bg0 bg1 zp bp0 bp1 bp2
   go_loopw [9] (fun i wr => ∃ v : Nat, v ≤ n ∧ i = .int .i64 v ∧ Below W.heap.size W wr ∧ BoxGr wr W.heap.size n a l.length cap ∧ BoxPb wr (W.heap.size + 1) (.slice aF n cF) (.slice aT m cT) (.slice aP m cP)) (fun i _ => n - (intOf i).toNat)
   case atStart => exact ⟨0, Nat.zero_le _, rfl, hB, BG.out, BP.out⟩
   case round =>
    clear hB BG BP
    obtain ⟨v, hv, rfl, hB, hbg, hbp⟩ := hrel
    have BG := Lib.hid hbg
    have BP := Lib.hid hbp
    clear hbg hbp
    obtain ⟨zg, bg0, bg1⟩ := BG.out
    obtain ⟨zp, bp0, bp1, bp2⟩ := BP.out
    by_cases hlt : v < n
    ·obtain ⟨bf, of, fv, rfl, hbf, hxf, d5⟩ := (HF.out.below hB).2 v hlt
     have hfv : gI F v = fv := by unfold gI; rw [hxf]; rfl
     have hfr := HI.out.fr v hlt
     dsimp only at hfr
     rw [hfv] at hfr
     have s1 : (v : Int) < (n : Int) := by omega
     have s4 : (0 : Int) ≤ (v : Int) := by omega
     obtain ⟨cv, hcv⟩ : ∃ cv : Nat, cv = T.count (v : Int) := ⟨_, rfl⟩
     rw [← hcv] at hfr
     have HC : Hid (∀ w, Below W.heap.size W w → Calls Tryz.prog 170 #[.agg #[.slice (some ⟨bf, of, none⟩) n cF, .slice aT m cT, .slice aP m cP], .int .i64 (v : Int)] w fun e w' => e = .returned (.int .i64 (cv : Int)) ∧ Below w.heap.size w w') := Lib.hid fun w b => by
      have := HTL.out w b (v : Int)
      rwa [← hcv] at this
     have c1 : decide (fv < 0) = false := decide_eq_false (by omega)
     have hw := IntWalk.i64_in (fv + (cv : Int)) (by omega)
     have c2 : (fv + (cv : Int) != k) = false := by rw [hfr.2]; simp
     clear hxf hfv hcv
     go_wp2_with fail
     have hwd := @Wd.cells
     refine wp_region_wd (by kernel_rfl) (by kernel_rfl) ?_
     repeat (go_big_quiet_step (first | (go_at_call 170; exact Calls.wd_of (HC.out _ (hB.step (Wd.h _))))))
     refine wpQuiet_nil ?_
     intro n1
     have bn := n1.h
     have BG2 := Lib.hid (BG.out.below bn)
     have BP2 := Lib.hid (BP.out.below bn)
     have hB2 := hB.step bn
     clear zg bg0 bg1 zp bp0 bp1 bp2 d5 hbf hwd bn HC
     go_wp2_with fail
     go_roundw
     case rel => exact ⟨v + 1, by omega, by go_num, hB2, BG2.out, BP2.out⟩
     case measure => simp [intOf]; omega
    ·obtain rfl : n = v := by omega
     go_wp2_with fail
     go_ret
     exact ⟨rfl, hB⟩

theorem bok_of {n : Nat} {l : List BarT} (h : isGraphB ((n : Int), l) = true) : Bok n l := fun e he => by
 have := isGraphB_bar h (List.getElem?_eq_getElem he)
 unfold gB
 rw [List.getElem?_eq_getElem he]
 exact this
def runOk (g : GraphT) (k l0 : Int) : Bool := isGraphB g && rangeB k l0
def rankG (g : GraphT) (k l0 : Int) : Int := if runOk g k l0 = true then ((playP g.1.toNat g.2 k l0).2.2.length : Int) else -1
theorem rangeB_bd {k l : Int} (h : rangeB k l = true) : (1 ≤ k ∧ k ≤ 3) ∧ 0 ≤ l ∧ l ≤ 2 * k - 1 := by
 simp [rangeB, inB] at h; omega

set_option maxHeartbeats 4000000 in
theorem implRun_no (W : World) (p : Int) (a : Option Addr) (cap : Nat) (l : List BarT) (h : BarsAt W a l.length l) (hs : l.length ≤ 1048576) (k l0 : Int) (hr : runOk (p, l) k l0 = false) : Calls Tryz.prog 147 #[.agg #[.int .i64 p, .slice a l.length cap], .int .i64 k, .int .i64 l0] W fun e w' => e = .returned (.tuple #[.agg #[.slice none 0 0, .slice none 0 0, .slice none 0 0], .bool false]) ∧ Below W.heap.size W w' := by
 have hwd := @Wd.cells
 have HGr : Hid (IsGraph W (.agg #[.int .i64 p, .slice a l.length cap]) (p, l)) := Lib.hid ⟨a, cap, rfl, h⟩
 have H1 := Lib.hid h
 clear h
 have hsz : szGraph (p, l) ≤ 1048576 := hs
 have hsz2 : szGraph (p, l) ≤ 1099511627776 := Nat.le_trans hsz (by decide)
 have B : Below W.heap.size W (W.alloc (.cells #[.int .i64 p, .slice a l.length cap] 26)) := (Below.refl _ _).alloc (Nat.le_refl _) _
 have BG : Hid (BoxGr (W.alloc (.cells #[.int .i64 p, .slice a l.length cap] 26)) W.heap.size p a l.length cap) := Lib.hid (BoxGr.at rfl)
 have HZ : Hid (ZerP (((W.alloc (.cells #[.int .i64 p, .slice a l.length cap] 26))).alloc (.cells #[.slice none 0 0, .slice none 0 0, .slice none 0 0] 117)) (W.heap.size + 1)) := Lib.hid (by have := ZerP.at ((W.alloc (.cells #[.int .i64 p, .slice a l.length cap] 26))) 117; rwa [World.size_alloc] at this)
 have hba : Below ((W.alloc (.cells #[.int .i64 p, .slice a l.length cap] 26))).heap.size ((W.alloc (.cells #[.int .i64 p, .slice a l.length cap] 26))) (((W.alloc (.cells #[.int .i64 p, .slice a l.length cap] 26))).alloc (.cells #[.slice none 0 0, .slice none 0 0, .slice none 0 0] 117)) := belAl _ _
 have hzu : W.heap.size + 2 ≤ (((W.alloc (.cells #[.int .i64 p, .slice a l.length cap] 26))).alloc (.cells #[.slice none 0 0, .slice none 0 0, .slice none 0 0] 117)).heap.size := by simp
 replace B := B.step hba
 replace BG := Lib.hid (BG.out.below hba)
 clear hba
 cases hg : isGraphB (p, l)
 ·have HG : Hid (∀ w, Below W.heap.size W w → Calls Tryz.prog 61 #[.agg #[.int .i64 p, .slice a l.length cap]] w fun e w' => e = .returned (.bool false) ∧ Below w.heap.size w w') := Lib.hid fun w b => by have := impl_IsGraph_is w _ (p, l) (HGr.out.below b) hsz2; rwa [hg] at this
  go_enter Tryz.func147, Tryz.ntmps147
  go_wp2_with fail
  generalize (((W.alloc (.cells #[.int .i64 p, .slice a l.length cap] 26))).alloc (.cells #[.slice none 0 0, .slice none 0 0, .slice none 0 0] 117)) = u at *
  obtain ⟨zBG, fBG0, fBG1⟩ := BG.out
  go_wp2_with fail
  refine (HG.out _ B).mono ?_
  rintro e w1 ⟨rfl, b⟩
  have B1 := B.step b
  have HZ1 := Lib.hid (HZ.out.below b)
  clear zBG fBG0 fBG1
  obtain ⟨⟨z0, z1, z2, y0, y1, y2⟩, ⟨g0, g1, g2⟩, gz⟩ := HZ1.out
  clear hg hr
  go_wp2_with fail
  refine bodyPost_ret (v := .tuple #[.agg #[.slice none 0 0, .slice none 0 0, .slice none 0 0], .bool false]) (by simp [results, Tryz.results147, go_sem, gz, y0, y1, y2]) rfl ⟨rfl, ?_⟩
  exact ((B1.setCell (by simp) _).setCell (by simp) _).setCell (by simp) _
 ·have hrr : rangeB k l0 = false := by unfold runOk at hr; rwa [hg, Bool.true_and] at hr
  have HG : Hid (∀ w, Below W.heap.size W w → Calls Tryz.prog 61 #[.agg #[.int .i64 p, .slice a l.length cap]] w fun e w' => e = .returned (.bool true) ∧ Below w.heap.size w w') := Lib.hid fun w b => by have := impl_IsGraph_is w _ (p, l) (HGr.out.below b) hsz2; rwa [hg] at this
  have HR : Hid (∀ w, Calls Tryz.prog 87 #[.int .i64 k, .int .i64 l0] w fun e w' => e = .returned (.bool false) ∧ Below w.heap.size w w') := Lib.hid fun w => by have := implRange_any k l0 w; rwa [hrr] at this
  clear hg hr hrr
  go_enter Tryz.func147, Tryz.ntmps147
  go_wp2_with fail
  generalize (((W.alloc (.cells #[.int .i64 p, .slice a l.length cap] 26))).alloc (.cells #[.slice none 0 0, .slice none 0 0, .slice none 0 0] 117)) = u at *
  obtain ⟨zBG, fBG0, fBG1⟩ := BG.out
  go_wp2_with fail
  refine (HG.out _ B).mono ?_
  rintro e w1 ⟨rfl, b⟩
  have B1 := B.step b
  have HZ1 := Lib.hid (HZ.out.below b)
  clear zBG fBG0 fBG1
  clear b
  go_wp2_with fail
  refine (HR.out _).mono ?_
  rintro e w2 ⟨rfl, b⟩
  have B2 := B1.step b
  obtain ⟨⟨z0, z1, z2, y0, y1, y2⟩, ⟨g0, g1, g2⟩, gz⟩ := HZ1.out.below b
  clear b
  go_wp2_with fail
  refine bodyPost_ret (v := .tuple #[.agg #[.slice none 0 0, .slice none 0 0, .slice none 0 0], .bool false]) (by simp [results, Tryz.results147, go_sem, gz, y0, y1, y2]) rfl ⟨rfl, ?_⟩
  exact ((B2.setCell (by simp) _).setCell (by simp) _).setCell (by simp) _

def RetRun (W : World) (S : PebT) (e : Ending) (w' : World) : Prop := ∃ v, e = .returned (.tuple #[v, .bool true]) ∧ OwnPeb W.heap.size w' v S ∧ Below W.heap.size W w'

set_option maxHeartbeats 4000000 in
theorem implRun_yes (W : World) (p : Int) (a : Option Addr) (cap : Nat) (l : List BarT) (h : BarsAt W a l.length l) (hs : l.length ≤ 1048576) (k l0 : Int) (hr : runOk (p, l) k l0 = true) : Calls Tryz.prog 147 #[.agg #[.int .i64 p, .slice a l.length cap], .int .i64 k, .int .i64 l0] W (RetRun W (playP p.toNat l k l0)) := by
 have hwd := @Wd.cells
 have HGr : Hid (IsGraph W (.agg #[.int .i64 p, .slice a l.length cap]) (p, l)) := Lib.hid ⟨a, cap, rfl, h⟩
 have H1 := Lib.hid h
 clear h
 have hsz : szGraph (p, l) ≤ 1048576 := hs
 have hsz2 : szGraph (p, l) ≤ 1099511627776 := Nat.le_trans hsz (by decide)
 have B : Below W.heap.size W (W.alloc (.cells #[.int .i64 p, .slice a l.length cap] 26)) := (Below.refl _ _).alloc (Nat.le_refl _) _
 have BG : Hid (BoxGr (W.alloc (.cells #[.int .i64 p, .slice a l.length cap] 26)) W.heap.size p a l.length cap) := Lib.hid (BoxGr.at rfl)
 have HZ : Hid (ZerP (((W.alloc (.cells #[.int .i64 p, .slice a l.length cap] 26))).alloc (.cells #[.slice none 0 0, .slice none 0 0, .slice none 0 0] 117)) (W.heap.size + 1)) := Lib.hid (by have := ZerP.at ((W.alloc (.cells #[.int .i64 p, .slice a l.length cap] 26))) 117; rwa [World.size_alloc] at this)
 have hba : Below ((W.alloc (.cells #[.int .i64 p, .slice a l.length cap] 26))).heap.size ((W.alloc (.cells #[.int .i64 p, .slice a l.length cap] 26))) (((W.alloc (.cells #[.int .i64 p, .slice a l.length cap] 26))).alloc (.cells #[.slice none 0 0, .slice none 0 0, .slice none 0 0] 117)) := belAl _ _
 have hzu : W.heap.size + 2 ≤ (((W.alloc (.cells #[.int .i64 p, .slice a l.length cap] 26))).alloc (.cells #[.slice none 0 0, .slice none 0 0, .slice none 0 0] 117)).heap.size := by simp
 replace B := B.step hba
 replace BG := Lib.hid (BG.out.below hba)
 clear hba
 unfold runOk at hr
 rw [Bool.and_eq_true] at hr
 obtain ⟨hg, hrr⟩ := hr
 obtain ⟨⟨hk1, hk3⟩, hl1, hl2⟩ := rangeB_bd hrr
 obtain ⟨⟨hg1, hg2⟩, hg3⟩ := isGraphB_bd hg
 obtain ⟨P, rfl⟩ := Int.eq_ofNat_of_zero_le (show 0 ≤ p by omega)
 have HPL := Lib.hid fun (w : World) (b : Below W.heap.size W w) => play_at w P k (by omega) (by omega) (by omega) a cap l (H1.out.below b) (by omega) (bok_of hg) l0 ⟨hl1, by omega⟩
 have HG : Hid (∀ w, Below W.heap.size W w → Calls Tryz.prog 61 #[.agg #[.int .i64 (P : Int), .slice a l.length cap]] w fun e w' => e = .returned (.bool true) ∧ Below w.heap.size w w') := Lib.hid fun w b => by have := impl_IsGraph_is w _ ((P : Int), l) (HGr.out.below b) hsz2; rwa [hg] at this
 have HR : Hid (∀ w, Calls Tryz.prog 87 #[.int .i64 k, .int .i64 l0] w fun e w' => e = .returned (.bool true) ∧ Below w.heap.size w w') := Lib.hid fun w => by have := implRange_any k l0 w; rwa [hrr] at this
 clear hg hrr
 rw [Int.toNat_natCast]
 go_enter Tryz.func147, Tryz.ntmps147
 go_wp2_with fail
 generalize ((W.alloc (.cells #[.int .i64 (P : Int), .slice a l.length cap] 26)).alloc (.cells #[.slice none 0 0, .slice none 0 0, .slice none 0 0] 117)) = u at *
 obtain ⟨zBG, fBG0, fBG1⟩ := BG.out
 go_wp2_with fail
 refine (HG.out _ B).mono ?_
 rintro e w1 ⟨rfl, b⟩
 have B1 := B.step b
 have HZ1 := Lib.hid (HZ.out.below b)
 replace BG := Lib.hid (BG.out.below b)
 clear zBG fBG0 fBG1
 clear b
 go_wp2_with fail
 refine (HR.out _).mono ?_
 rintro e w2 ⟨rfl, b⟩
 have B2 := B1.step b
 have HZ2 := Lib.hid (HZ1.out.below b)
 have BG2 := Lib.hid (BG.out.below b)
 have hz2 : W.heap.size + 2 ≤ w2.heap.size := by have := B2.size; have := HZ2.out.2.2; omega
 clear b BG HZ1
 obtain ⟨zBG, fBG0, fBG1⟩ := BG2.out
 go_wp2_with fail
 refine (HPL.out _ B2).mono ?_
 rintro e w3 ⟨v, rfl, ⟨uF, uT, uP, rfl, P3⟩, b3⟩
 obtain ⟨aF, cF, rfl, -⟩ := P3.oF.form
 obtain ⟨aT, cT, rfl, -⟩ := P3.oT.form
 obtain ⟨aP, cP, rfl, -⟩ := P3.oP.form
 clear zBG fBG0 fBG1
 obtain ⟨⟨z0, z1, z2, y0, y1, y2⟩, ⟨g0, g1, g2⟩, gz⟩ := HZ2.out.below b3
 have HLD := Lib.hid (laidP (W := W) (g := W.heap.size + 1) P3 (by omega) (by omega) (by omega) (B2.step b3))
 clear b3 P3 HPL HZ2
 generalize playP P l k l0 = S at *
 go_wp2_with fail
 exact bodyPost_ret (v := .tuple #[.agg #[.slice aF S.1.length cF, .slice aT S.2.1.length cT, .slice aP S.2.2.length cP], .bool true]) (by simp [results, Tryz.results147, go_sem, gz, y0, y1, y2]) rfl ⟨_, rfl, HLD.out.1, HLD.out.2⟩

set_option maxHeartbeats 4000000 in
theorem implRank_at (W : World) (p : Int) (a : Option Addr) (cap : Nat) (l : List BarT) (h : BarsAt W a l.length l) (hs : l.length ≤ 1048576) (k l0 : Int) : Calls Tryz.prog 117 #[.agg #[.int .i64 p, .slice a l.length cap], .int .i64 k, .int .i64 l0] W fun e w' => e = .returned (.int .i64 (rankG (p, l) k l0)) ∧ Below W.heap.size W w' := by
 have hwd := @Wd.cells
 have HGr : Hid (IsGraph W (.agg #[.int .i64 p, .slice a l.length cap]) (p, l)) := Lib.hid ⟨a, cap, rfl, h⟩
 have H1 := Lib.hid h
 clear h
 have hsz : szGraph (p, l) ≤ 1048576 := hs
 have hsz2 : szGraph (p, l) ≤ 1099511627776 := Nat.le_trans hsz (by decide)
 have B : Below W.heap.size W (W.alloc (.cells #[.int .i64 p, .slice a l.length cap] 26)) := (Below.refl _ _).alloc (Nat.le_refl _) _
 have BG : Hid (BoxGr (W.alloc (.cells #[.int .i64 p, .slice a l.length cap] 26)) W.heap.size p a l.length cap) := Lib.hid (BoxGr.at rfl)
 cases hr : runOk (p, l) k l0
 ·have HE := Lib.hid (show rankG (p, l) k l0 = -1 by unfold rankG; rw [hr]; rfl)
  have HC := Lib.hid fun (w : World) (b : Below W.heap.size W w) => implRun_no w p a cap l (H1.out.below b) hs k l0 hr
  clear hr
  go_enter Tryz.func117, Tryz.ntmps117
  go_wp2_with fail
  generalize (W.alloc (.cells #[.int .i64 p, .slice a l.length cap] 26)) = u at *
  obtain ⟨zBG, fBG0, fBG1⟩ := BG.out
  go_wp2_with fail
  refine (HC.out _ B).mono ?_
  rintro e w1 ⟨rfl, b⟩
  have B1 := B.step b
  have B2 := B1.step (belAl w1 (.cells #[.slice none 0 0, .slice none 0 0, .slice none 0 0] 117))
  clear zBG fBG0 fBG1
  clear b
  go_wp2_with fail
  go_ret
  exact ⟨by rw [HE.out]; try rfl, B2⟩
 ·have HE := Lib.hid (show rankG (p, l) k l0 = ((playP p.toNat l k l0).2.2.length : Int) by unfold rankG; rw [hr]; rfl)
  have HC := Lib.hid fun (w : World) (b : Below W.heap.size W w) => implRun_yes w p a cap l (H1.out.below b) hs k l0 hr
  clear hr
  go_enter Tryz.func117, Tryz.ntmps117
  go_wp2_with fail
  generalize (W.alloc (.cells #[.int .i64 p, .slice a l.length cap] 26)) = u at *
  obtain ⟨zBG, fBG0, fBG1⟩ := BG.out
  go_wp2_with fail
  refine (HC.out _ B).mono ?_
  rintro e w1 ⟨v, rfl, ⟨uF, uT, uP, rfl, P3⟩, b⟩
  obtain ⟨aF, cF, rfl, -⟩ := P3.oF.form
  obtain ⟨aT, cT, rfl, -⟩ := P3.oT.form
  obtain ⟨aP, cP, rfl, -⟩ := P3.oP.form
  clear zBG fBG0 fBG1
  generalize playP p.toNat l k l0 = S at *
  have B2 := (B.step b).step (belAl w1 (.cells #[.slice aF S.1.length cF, .slice aT S.2.1.length cT, .slice aP S.2.2.length cP] 117))
  clear P3 b
  go_wp2_with fail
  go_ret
  exact ⟨by rw [HE.out]; try rfl, B2⟩

theorem own0' (w : World) (base : Nat) (h : base ≤ w.heap.size) : OwnInts (w.alloc (.cells #[] 3)) base (.slice (some ⟨w.heap.size, 0, none⟩) 0 0) [] := OwnInts.made w base h
theorem peb0 (w : World) (base : Nat) (h : base ≤ w.heap.size) : Peb3 base (((w.alloc (.cells #[] 3)).alloc (.cells #[] 3)).alloc (.cells #[] 3)) (.slice (some ⟨w.heap.size, 0, none⟩) 0 0) (.slice (some ⟨w.heap.size + 1, 0, none⟩) 0 0) (.slice (some ⟨w.heap.size + 2, 0, none⟩) 0 0) ([], [], []) := by
 have h1 := own0' w base h
 have h2 := own0' (w.alloc (.cells #[] 3)) base (by simp; omega)
 have h3 := own0' ((w.alloc (.cells #[] 3)).alloc (.cells #[] 3)) base (by simp; omega)
 rw [World.size_alloc] at h2
 rw [World.size_alloc, World.size_alloc] at h3
 refine ⟨(h1.below (belAl _ _)).below (belAl _ _), h2.below (belAl _ _), h3, fun k e e2 => ?_, fun k e e2 => ?_, fun k e e2 => ?_⟩
 ·have : w.heap.size = k := Option.some.inj e; have : w.heap.size + 1 = k := Option.some.inj e2; omega
 ·have : w.heap.size = k := Option.some.inj e; have : w.heap.size + 2 = k := Option.some.inj e2; omega
 ·have : w.heap.size + 1 = k := Option.some.inj e; have : w.heap.size + 2 = k := Option.some.inj e2; omega

set_option maxHeartbeats 8000000 in
theorem newPeb_yes (W : World) (n : Nat) (k : Int) (hk : 1 ≤ k ∧ k ≤ 3) (a : Option Addr) (cap : Nat) (l : List BarT) (h : BarsAt W a l.length l) (hg : isGraphB ((n : Int), l) = true) :
  Calls Tryz.prog 141 #[.agg #[.int .i64 (n : Int), .slice a l.length cap], .int .i64 k] W fun e w' => ∃ v, e = .returned (.tuple #[v, .bool true]) ∧ OwnPeb W.heap.size w' v (List.replicate n k, [], []) ∧ Below W.heap.size W w' := by
 obtain ⟨⟨hg1, hg2⟩, hg3⟩ := isGraphB_bd hg
 have HG : Hid (∀ w, Below W.heap.size W w → Calls Tryz.prog 51 #[.agg #[.int .i64 (n : Int), .slice a l.length cap]] w fun e w' => e = .returned (.bool true) ∧ Below w.heap.size w w') := Lib.hid fun w b => by
  have := spec_IsGraph_is w _ ((n : Int), l) ⟨a, cap, rfl, h.below b⟩ (by show l.length ≤ _; omega)
  rwa [hg] at this
 have HK : Hid (∀ w, Calls Tryz.prog 52 #[.int .i64 k, .int .i64 1, .int .i64 3] w fun e w' => e = .returned (.bool true) ∧ w = w') := Lib.hid fun w => by
  have := l1In_any k 1 3 w
  rwa [show inB k 1 3 = true by simp [inB]; omega] at this
 have B0 : Below W.heap.size W ((W.alloc (.cells #[.int .i64 (n : Int), .slice a l.length cap] 26)).alloc (.cells #[.slice none 0 0, .slice none 0 0, .slice none 0 0] 117)) := (belAl _ _).step (belAl _ _)
 have BG : Hid (BoxGr ((W.alloc (.cells #[.int .i64 (n : Int), .slice a l.length cap] 26)).alloc (.cells #[.slice none 0 0, .slice none 0 0, .slice none 0 0] 117)) W.heap.size n a l.length cap) := Lib.hid ((BoxGr.at rfl).below (belAl _ _))
 have RZ : Hid (ZerP ((W.alloc (.cells #[.int .i64 (n : Int), .slice a l.length cap] 26)).alloc (.cells #[.slice none 0 0, .slice none 0 0, .slice none 0 0] 117)) (W.heap.size + 1)) := Lib.hid (by
  have := ZerP.at (W.alloc (.cells #[.int .i64 (n : Int), .slice a l.length cap] 26)) 117
  rwa [World.size_alloc] at this)
 clear h hg
 go_enter Tryz.func141, Tryz.ntmps141
 go_upto_region 1 with (fail)
 generalize ((W.alloc (.cells #[.int .i64 (n : Int), .slice a l.length cap] 26)).alloc (.cells #[.slice none 0 0, .slice none 0 0, .slice none 0 0] 117)) = u at *
 have HP : Hid (PebC u.heap.size ((((u.alloc (.cells #[] 3)).alloc (.cells #[] 3)).alloc (.cells #[] 3)).alloc (.cells #[.slice (some ⟨u.heap.size, 0, none⟩) 0 0, .slice (some ⟨u.heap.size + 1, 0, none⟩) 0 0, .slice (some ⟨u.heap.size + 2, 0, none⟩) 0 0] 117)) (u.heap.size + 3) (.slice (some ⟨u.heap.size, 0, none⟩) 0 0) (.slice (some ⟨u.heap.size + 1, 0, none⟩) 0 0) (.slice (some ⟨u.heap.size + 2, 0, none⟩) 0 0) ([], [], [])) := Lib.hid (by
  have := PebC.new (base := u.heap.size) (peb0 u u.heap.size (Nat.le_refl _)) (Nat.le_refl _) (by simp; omega)
  simp only [World.size_alloc] at this
  exact this)
 have bu : Below u.heap.size u ((((u.alloc (.cells #[] 3)).alloc (.cells #[] 3)).alloc (.cells #[] 3)).alloc (.cells #[.slice (some ⟨u.heap.size, 0, none⟩) 0 0, .slice (some ⟨u.heap.size + 1, 0, none⟩) 0 0, .slice (some ⟨u.heap.size + 2, 0, none⟩) 0 0] 117)) := (((belAl u _).step (belAl _ _)).step (belAl _ _)).step (belAl _ _)
 have hu2 : W.heap.size + 2 ≤ u.heap.size := by have := RZ.out.2.2; omega
 go_upto_region 2 with (fail)
 generalize ((((u.alloc (.cells #[] 3)).alloc (.cells #[] 3)).alloc (.cells #[] 3)).alloc (.cells #[.slice (some ⟨u.heap.size, 0, none⟩) 0 0, .slice (some ⟨u.heap.size + 1, 0, none⟩) 0 0, .slice (some ⟨u.heap.size + 2, 0, none⟩) 0 0] 117)) = w1 at *
 have B1 := B0.step bu
 have BG1 := Lib.hid (BG.out.below bu)
 have RZ1 := Lib.hid (RZ.out.below bu)
 clear B0 BG RZ bu
 obtain ⟨zg, bg0, bg1⟩ := BG1.out
 go_wp2_with fail
 refine (HG.out _ B1).mono ?_
 rintro e w2 ⟨rfl, b⟩
 clear zg bg0 bg1
 have B2 := B1.step b
 have BG2 := Lib.hid (BG1.out.below b)
 have RZ2 := Lib.hid (RZ1.out.below b)
 have HP2 := Lib.hid (HP.out.below b)
 clear b B1 BG1 RZ1 HP HG
 go_wp2_with fail
 refine (HK.out _).mono ?_
 rintro e w3 ⟨rfl, rfl⟩
 go_wp2_with fail
 go_loopw [7] (fun i wr => ∃ j : Nat, j ≤ n ∧ i = .int .i64 j ∧ (∃ vF, PebC u.heap.size wr (u.heap.size + 3) vF (.slice (some ⟨u.heap.size + 1, 0, none⟩) 0 0) (.slice (some ⟨u.heap.size + 2, 0, none⟩) 0 0) (List.replicate j k, [], [])) ∧ ZerP wr (W.heap.size + 1) ∧ BoxGr wr W.heap.size n a l.length cap ∧ Below W.heap.size W wr) (fun i _ => n - (intOf i).toNat)
 case atStart => exact ⟨0, Nat.zero_le _, rfl, ⟨_, HP2.out⟩, RZ2.out, BG2.out, B2⟩
 case round =>
  clear HP2 RZ2 BG2 B2
  obtain ⟨j, hj, rfl, ⟨vF, hP⟩, hZ, hG, hbw⟩ := hrel
  obtain ⟨aF, cF, hvF, -⟩ := hP.oF.form
  have hvF2 : vF = .slice aF j cF := by rw [hvF]; simp
  clear hvF
  subst hvF2
  have HP := Lib.hid hP
  have HZ := Lib.hid hZ
  have BG := Lib.hid hG
  have hWz : u.heap.size ≤ wr.heap.size := by have := hP.hi; omega
  obtain ⟨zg, bg0, bg1⟩ := hG
  clear hP hZ
  by_cases hlt : j < n
  ·have c0 := HP.out.c0
   have f0 := HP.out.f0
   have hsb := HP.out.hi
   have lt1 : (List.replicate j k).length < 1099511627776 := by rw [List.length_replicate]; omega
   go_wp2_with (at_builtin; refine app1At rfl (.tmp 28) (.tmp 30) rfl rfl HP.out.oF k rfl lt1 hWz ?_; intro v5 w5 h5 k5 a5; obtain ⟨av, cv, rfl, hiv⟩ := h5.form; clear hiv; rw [show (List.replicate j k ++ [k]).length = j + 1 from by simp] at h5 a5 ⊢; have PT := HP.out.appF hWz h5 k5 a5; have hn9 : ∀ g, g < u.heap.size → ¬ some g = Value.ownBlock (.slice aF j cF) := (fun g hg e => by have := (HP.out.oF.lt _ e.symm).1; omega); have hW5 := (hbw.trans (k5.below hbw.size fun g hg e => hn9 g (by omega) e)).setCell (p := ⟨u.heap.size + 3, 0, none⟩) (by simp; omega) (.slice av (j + 1) cv); have q1 := (k5.cell HP.out.hi (o := 0) (fun e => HP.out.dF e.symm)).trans c0; have q2 := (k5.frozen HP.out.hi (o := 0) (fun e => HP.out.dF e.symm)).trans f0; have q3 := Nat.lt_of_lt_of_le hsb k5.size; have HZ5 := Lib.hid ((HZ.out.kept k5 (hn9 _ (by omega))).kept (setKept (b := u.heap.size + 3) (j := 0) (x := .slice av (j + 1) cv)) (by omega)); have BG5 := Lib.hid ((BG.out.kept k5 (hn9 _ (by omega))).kept (setKept (b := u.heap.size + 3) (j := 0) (x := .slice av (j + 1) cv)) (by omega)); have bg01 := (k5.cell zg (o := 0) (hn9 _ (by omega))).trans bg0; clear c0 f0 hsb)
   go_roundw
   case rel => exact ⟨j + 1, by omega, by go_num, ⟨_, by rw [List.replicate_succ']; exact PT⟩, HZ5.out, BG5.out, hW5⟩
   case measure => simp [intOf]; omega
  ·obtain rfl : n = j := by omega
   have c0 := HP.out.c0
   have c1 := HP.out.c1
   have c2 := HP.out.c2
   have hsb := HP.out.hi
   obtain ⟨⟨z0, z1, z2, y0, y1, y2⟩, ⟨g0, g1, g2⟩, gz⟩ := HZ.out
   have HLD := Lib.hid (laidP (W := W) (g := W.heap.size + 1) HP.out.own (by omega) (by omega) (by omega) hbw)
   go_wp2_with fail
   exact bodyPost_ret (v := .tuple #[.agg #[.slice aF n cF, .slice (some ⟨u.heap.size + 1, 0, none⟩) 0 0, .slice (some ⟨u.heap.size + 2, 0, none⟩) 0 0], .bool true]) (by simp [results, Tryz.results141, go_sem, gz, y0, y1, y2]) rfl ⟨_, rfl, HLD.out.1, HLD.out.2⟩

set_option maxHeartbeats 8000000 in
theorem newPeb_no (W : World) (p : Int) (k : Int) (a : Option Addr) (cap : Nat) (l : List BarT) (h : BarsAt W a l.length l) (hs : l.length ≤ 1048576) (hn : (isGraphB (p, l) && inB k 1 3) = false) :
  Calls Tryz.prog 141 #[.agg #[.int .i64 p, .slice a l.length cap], .int .i64 k] W fun e w' => e = .returned (.tuple #[.agg #[.slice none 0 0, .slice none 0 0, .slice none 0 0], .bool false]) ∧ Below W.heap.size W w' := by
 have B0 : Below W.heap.size W ((W.alloc (.cells #[.int .i64 p, .slice a l.length cap] 26)).alloc (.cells #[.slice none 0 0, .slice none 0 0, .slice none 0 0] 117)) := (belAl _ _).step (belAl _ _)
 have BG : Hid (BoxGr ((W.alloc (.cells #[.int .i64 p, .slice a l.length cap] 26)).alloc (.cells #[.slice none 0 0, .slice none 0 0, .slice none 0 0] 117)) W.heap.size p a l.length cap) := Lib.hid ((BoxGr.at rfl).below (belAl _ _))
 have RZ : Hid (ZerP ((W.alloc (.cells #[.int .i64 p, .slice a l.length cap] 26)).alloc (.cells #[.slice none 0 0, .slice none 0 0, .slice none 0 0] 117)) (W.heap.size + 1)) := Lib.hid (by
  have := ZerP.at (W.alloc (.cells #[.int .i64 p, .slice a l.length cap] 26)) 117
  rwa [World.size_alloc] at this)
 cases hg : isGraphB (p, l)
 ·have HG : Hid (∀ w, Below W.heap.size W w → Calls Tryz.prog 51 #[.agg #[.int .i64 p, .slice a l.length cap]] w fun e w' => e = .returned (.bool false) ∧ Below w.heap.size w w') := Lib.hid fun w b => by
   have := spec_IsGraph_is w _ (p, l) ⟨a, cap, rfl, h.below b⟩ (by show l.length ≤ _; omega)
   rwa [hg] at this
  clear h hg hn
  go_enter Tryz.func141, Tryz.ntmps141
  go_upto_region 1 with (fail)
  generalize ((W.alloc (.cells #[.int .i64 p, .slice a l.length cap] 26)).alloc (.cells #[.slice none 0 0, .slice none 0 0, .slice none 0 0] 117)) = u at *
  have bu : Below u.heap.size u ((((u.alloc (.cells #[] 3)).alloc (.cells #[] 3)).alloc (.cells #[] 3)).alloc (.cells #[.slice (some ⟨u.heap.size, 0, none⟩) 0 0, .slice (some ⟨u.heap.size + 1, 0, none⟩) 0 0, .slice (some ⟨u.heap.size + 2, 0, none⟩) 0 0] 117)) := (((belAl u _).step (belAl _ _)).step (belAl _ _)).step (belAl _ _)
  have hu2 : W.heap.size + 2 ≤ u.heap.size := by have := RZ.out.2.2; omega
  go_upto_region 2 with (fail)
  generalize ((((u.alloc (.cells #[] 3)).alloc (.cells #[] 3)).alloc (.cells #[] 3)).alloc (.cells #[.slice (some ⟨u.heap.size, 0, none⟩) 0 0, .slice (some ⟨u.heap.size + 1, 0, none⟩) 0 0, .slice (some ⟨u.heap.size + 2, 0, none⟩) 0 0] 117)) = w1 at *
  have B1 := B0.step bu
  have BG1 := Lib.hid (BG.out.below bu)
  have RZ1 := Lib.hid (RZ.out.below bu)
  clear B0 BG RZ bu
  obtain ⟨zg, bg0, bg1⟩ := BG1.out
  go_wp2_with fail
  refine (HG.out _ B1).mono ?_
  rintro e w2 ⟨rfl, b⟩
  clear zg bg0 bg1
  have B2 := B1.step b
  obtain ⟨⟨z0, z1, z2, y0, y1, y2⟩, ⟨g0, g1, g2⟩, gz⟩ := RZ1.out.below b
  clear b B1 BG1 RZ1 HG
  go_wp2_with fail
  refine bodyPost_ret (v := .tuple #[.agg #[.slice none 0 0, .slice none 0 0, .slice none 0 0], .bool false]) (by simp [results, Tryz.results141, go_sem, gz, y0, y1, y2]) rfl ⟨rfl, ?_⟩
  exact ((B2.setCell (p := ⟨W.heap.size + 1, 0, none⟩) (by simp) _).setCell (p := ⟨W.heap.size + 1, 1, none⟩) (by simp) _).setCell (p := ⟨W.heap.size + 1, 2, none⟩) (by simp) _
 ·rw [hg, Bool.true_and] at hn
  have HG : Hid (∀ w, Below W.heap.size W w → Calls Tryz.prog 51 #[.agg #[.int .i64 p, .slice a l.length cap]] w fun e w' => e = .returned (.bool true) ∧ Below w.heap.size w w') := Lib.hid fun w b => by
   have := spec_IsGraph_is w _ (p, l) ⟨a, cap, rfl, h.below b⟩ (by show l.length ≤ _; omega)
   rwa [hg] at this
  have HK : Hid (∀ w, Calls Tryz.prog 52 #[.int .i64 k, .int .i64 1, .int .i64 3] w fun e w' => e = .returned (.bool false) ∧ w = w') := Lib.hid fun w => by
   have := l1In_any k 1 3 w
   rwa [hn] at this
  clear h hg hn
  go_enter Tryz.func141, Tryz.ntmps141
  go_upto_region 1 with (fail)
  generalize ((W.alloc (.cells #[.int .i64 p, .slice a l.length cap] 26)).alloc (.cells #[.slice none 0 0, .slice none 0 0, .slice none 0 0] 117)) = u at *
  have bu : Below u.heap.size u ((((u.alloc (.cells #[] 3)).alloc (.cells #[] 3)).alloc (.cells #[] 3)).alloc (.cells #[.slice (some ⟨u.heap.size, 0, none⟩) 0 0, .slice (some ⟨u.heap.size + 1, 0, none⟩) 0 0, .slice (some ⟨u.heap.size + 2, 0, none⟩) 0 0] 117)) := (((belAl u _).step (belAl _ _)).step (belAl _ _)).step (belAl _ _)
  have hu2 : W.heap.size + 2 ≤ u.heap.size := by have := RZ.out.2.2; omega
  go_upto_region 2 with (fail)
  generalize ((((u.alloc (.cells #[] 3)).alloc (.cells #[] 3)).alloc (.cells #[] 3)).alloc (.cells #[.slice (some ⟨u.heap.size, 0, none⟩) 0 0, .slice (some ⟨u.heap.size + 1, 0, none⟩) 0 0, .slice (some ⟨u.heap.size + 2, 0, none⟩) 0 0] 117)) = w1 at *
  have B1 := B0.step bu
  have BG1 := Lib.hid (BG.out.below bu)
  have RZ1 := Lib.hid (RZ.out.below bu)
  clear B0 BG RZ bu
  obtain ⟨zg, bg0, bg1⟩ := BG1.out
  go_wp2_with fail
  refine (HG.out _ B1).mono ?_
  rintro e w2 ⟨rfl, b⟩
  clear zg bg0 bg1
  have B2 := B1.step b
  obtain ⟨⟨z0, z1, z2, y0, y1, y2⟩, ⟨g0, g1, g2⟩, gz⟩ := RZ1.out.below b
  clear b B1 BG1 RZ1 HG
  go_wp2_with fail
  refine (HK.out _).mono ?_
  rintro e w3 ⟨rfl, rfl⟩
  go_wp2_with fail
  refine bodyPost_ret (v := .tuple #[.agg #[.slice none 0 0, .slice none 0 0, .slice none 0 0], .bool false]) (by simp [results, Tryz.results141, go_sem, gz, y0, y1, y2]) rfl ⟨rfl, ?_⟩
  exact ((B2.setCell (p := ⟨W.heap.size + 1, 0, none⟩) (by simp) _).setCell (p := ⟨W.heap.size + 1, 1, none⟩) (by simp) _).setCell (p := ⟨W.heap.size + 1, 2, none⟩) (by simp) _

def RetPl (W : World) (S : PebT) (e : Ending) (w' : World) : Prop := ∃ v b, e = .returned (.tuple #[v, .bool b]) ∧ OwnPeb W.heap.size w' v S ∧ Below W.heap.size W w'

set_option maxHeartbeats 16000000 in
theorem placeBar_at (W : World) (n : Nat) (k l0 : Int) (hr : rangeB k l0 = true) (a : Option Addr) (cap : Nat) (l : List BarT) (h : BarsAt W a l.length l) (hg : isGraphB ((n : Int), l) = true) (e : Nat) (he : e < l.length) (S : PebT) (hI : Inv n k l e S) (vF vT vP : Value) (hS : PebIs W vF vT vP S) :
  Calls Tryz.prog 142 #[.agg #[.int .i64 (n : Int), .slice a l.length cap], .int .i64 k, .int .i64 l0, .agg #[vF, vT, vP], .int .i64 e] W (RetPl W ((placeP l l0 S e).getD S)) := by
 obtain ⟨⟨hg1, hg2⟩, hg3⟩ := isGraphB_bd hg
 obtain ⟨⟨hk1, hk3⟩, hl1, hl2⟩ := rangeB_bd hr
 have hb := bokG_of hg
 have hln : S.1.length ≤ 1048576 ∧ S.2.1.length ≤ 1048576 ∧ S.2.2.length ≤ 1048576 := by
  have h1 := hI.len
  have h2 := hI.tl
  have h3 := hI.plen
  omega
 have PR : Hid (Pre3 W _ n a l.length cap vF vT vP) := Lib.hid (Pre3.start W n a l.length cap vF vT vP)
 unfold W3 at PR
 have HCP := Lib.hid fun (w : World) (b : Below W.heap.size W w) => specCpP_at w vF vT vP S (hS.below b) hln
 have HPB := Lib.hid fun (w : World) (b : Below W.heap.size W w) => isPeb_at w n e k ⟨hk1, hk3⟩ a cap l (h.below b) hg (Nat.le_of_lt he) S hI vF vT vP (hS.below b)
 have HRG : Hid (∀ w, Calls Tryz.prog 71 #[.int .i64 k, .int .i64 l0] w fun e w' => e = .returned (.bool true) ∧ Below w.heap.size w w') := Lib.hid fun w => by have := specRange_any k l0 w; rwa [hr] at this
 have hbe := hb e he
 obtain ⟨bar, hbar⟩ : ∃ bar, bar = gB l e := ⟨_, rfl⟩
 obtain ⟨b1, b2⟩ := bar
 rw [← hbar] at hbe
 dsimp only at hbe
 obtain ⟨xN, rfl⟩ := Int.eq_ofNat_of_zero_le hbe.1
 obtain ⟨yN, rfl⟩ := Int.eq_ofNat_of_zero_le (show 0 ≤ b2 by omega)
 have HGA := Lib.hid fun (w : World) (b : Below W.heap.size W w) => l4Gather_at w n e k (by omega) (by omega) a cap l (h.below b) (by omega) hb (Nat.le_of_lt he) S hI vF vT vP (hS.below b) (xN : Int) (yN : Int) ⟨hbe.1, by omega⟩ ⟨by omega, hbe.2.2⟩ (by omega) (l0 + 1) (by omega)
 have HOK := Lib.hid (gatherP_ok (want := l0 + 1) hb (Nat.le_of_lt he) (show n ≤ 8 by omega) (a := (xN : Int)) (b := (yN : Int)) ⟨hbe.1, by omega⟩ ⟨by omega, hbe.2.2⟩ (by omega) 7 S hI)
 have hw7 : l0 + 1 ≤ gI S.1 (xN : Int).toNat + gI S.1 (yN : Int).toNat + (7 : Nat) := by
  have f0 := hI.fr xN (by omega)
  have f1 := hI.fr yN (by omega)
  rw [Int.toNat_natCast, Int.toNat_natCast]
  push_cast
  omega
 have HW7 := Lib.hid hw7
 have HGB := Lib.hid hbar
 have H1 := Lib.hid h
 have hIP := hS.iP
 obtain ⟨aF, cF, rfl, -⟩ := hS.iF
 obtain ⟨aT, cT, rfl, -⟩ := hS.iT
 obtain ⟨aP, cP, rfl, hP⟩ := hIP
 have HLS : Hid (∀ j : Nat, j < S.2.2.length → ∃ x : Nat, gI S.2.2 j = x ∧ x < e) := Lib.hid fun j hj => by
  obtain ⟨x, h1, h2, _⟩ := hI.pl j hj
  exact ⟨x, h1, h2⟩
 have HP := Lib.hid hP
 clear h hb hI hS hP hg hr hw7 hbar
 have e1 : decide ((e : Int) < 0) = false := decide_eq_false (by omega)
 have e2 : decide ((l.length : Int) ≤ (e : Int)) = false := decide_eq_false (by omega)
 have e2n : decide (l.length ≤ e) = false := decide_eq_false (by omega)
 have s3 : (e : Int) < (l.length : Int) := by omega
 have s6 : (0 : Int) ≤ (e : Int) := by omega
 by_cases hm0 : S.2.2.length = 0
 ·have c3 : decide ((0 : Int) < (S.2.2.length : Int)) = false := decide_eq_false (by omega)
  have c3n : decide (0 < S.2.2.length) = false := decide_eq_false (by omega)
  clear hm0
  go_enter Tryz.func142, Tryz.ntmps142
  go_wp2_with fail
  generalize ((W.alloc (.cells #[.int .i64 (n : Int), .slice a l.length cap] 26)).alloc (.cells #[.slice aF S.1.length cF, .slice aT S.2.1.length cT, .slice aP S.2.2.length cP] 117)).alloc (.cells #[.slice none 0 0, .slice none 0 0, .slice none 0 0] 117) = u0 at *
  refine (HPB.out _ PR.out.b).mono ?_
  rintro r w1 ⟨rfl, b⟩
  have PR1 := Lib.hid (PR.out.below b)
  clear b HPB PR
  go_wp2_with fail
  refine (HRG.out _).mono ?_
  rintro r w2 ⟨rfl, b⟩
  have PR2 := Lib.hid (PR1.out.below b)
  clear b HRG PR1
  obtain ⟨zg, bg0, bg1⟩ := PR2.out.bg
  obtain ⟨zp, bp0, bp1, bp2⟩ := PR2.out.bp
  obtain ⟨bb, ob, ⟨c1, c2⟩, rfl, hbb, hxb, d3, d4⟩ := (H1.out.below PR2.out.b).2 e he
  have hgb : gB l e = (c1, c2) := by unfold gB; rw [hxb]; rfl
  have hcc := HGB.out.trans hgb
  simp only [Prod.mk.injEq] at hcc
  obtain ⟨rfl, rfl⟩ := hcc
  dsimp only at d3 d4
  have hw3 := PR2.out.sz
  have bal := belAl w2 (.cells #[.int .i64 (xN : Int), .int .i64 (yN : Int)] 70)
  have PR3 := Lib.hid (PR2.out.below bal)
  have p0 : (w2.alloc (.cells #[.int .i64 (xN : Int), .int .i64 (yN : Int)] 70)).cell? ⟨w2.heap.size, 0, none⟩ = some (.int .i64 (xN : Int)) := by simp [World.cell?_alloc_new]
  have p1 : (w2.alloc (.cells #[.int .i64 (xN : Int), .int .i64 (yN : Int)] 70)).cell? ⟨w2.heap.size, 1, none⟩ = some (.int .i64 (yN : Int)) := by simp [World.cell?_alloc_new]
  have pz : w2.heap.size < (w2.alloc (.cells #[.int .i64 (xN : Int), .int .i64 (yN : Int)] 70)).heap.size := by simp
  clear hxb hgb PR2
  go_upto_region 4 with (fail)
  clear d3 d4 zg bg0 bg1 zp bp0 bp1 bp2 bal
  generalize (w2.alloc (.cells #[.int .i64 (xN : Int), .int .i64 (yN : Int)] 70)) = w3 at *
  obtain ⟨zg, bg0, bg1⟩ := PR3.out.bg
  obtain ⟨zp, bp0, bp1, bp2⟩ := PR3.out.bp
  go_wp2_with fail
  have HG3 := Lib.hid (HGA.out w3 PR3.out.b)
  have hw34 := PR3.out.sz
  cases hG : gatherP l (xN : Int) (yN : Int) (l0 + 1) 7 S with
  | mk S' ok =>
  rw [hG] at HG3
  cases ok
  ·have HN := Lib.hid (show placeP l l0 S e = none by unfold placeP; rw [← HGB.out]; dsimp only; rw [hG])
   clear hG HOK
   refine HG3.out.mono ?_
   rintro r w4 ⟨v, rfl, ⟨uF, uT, uP, rfl, P3⟩, b4⟩
   obtain ⟨aF', cF', rfl, -⟩ := P3.oF.form
   obtain ⟨aT', cT', rfl, -⟩ := P3.oT.form
   obtain ⟨aP', cP', rfl, -⟩ := P3.oP.form
   have PR5 := Lib.hid ((PR3.out.below b4).below (belAl w4 (.cells #[.slice aF' S'.1.length cF', .slice aT' S'.2.1.length cT', .slice aP' S'.2.2.length cP'] 117)))
   clear zg bg0 bg1 zp bp0 bp1 bp2 P3 b4 p0 p1 pz HG3 PR3
   go_upto_region 5 with (fail)
   generalize w4.alloc (.cells #[.slice aF' S'.1.length cF', .slice aT' S'.2.1.length cT', .slice aP' S'.2.2.length cP'] 117) = w5 at *
   obtain ⟨zp, bp0, bp1, bp2⟩ := PR5.out.bp
   go_wp2_with fail
   refine (HCP.out w5 PR5.out.b).mono ?_
   rintro r w6 ⟨v, rfl, ⟨vF, vT, vP, rfl, P6⟩, b6⟩
   obtain ⟨aF9, cF9, rfl, -⟩ := P6.oF.form
   obtain ⟨aT9, cT9, rfl, -⟩ := P6.oT.form
   obtain ⟨aP9, cP9, rfl, -⟩ := P6.oP.form
   have PR6 := PR5.out.below b6
   have hw5 := PR5.out.sz
   obtain ⟨⟨z0, z1, z2, y0, y1, y2⟩, ⟨g0, g1, g2⟩, gz⟩ := PR6.rz
   have HLD := Lib.hid (laidP (W := W) (g := W.heap.size + 2) P6 (by omega) (by omega) (by omega) PR6.b)
   clear zp bp0 bp1 bp2 P6 b6 PR6 HCP
   go_wp2_with fail
   refine bodyPost_ret (v := .tuple #[.agg #[.slice aF9 S.1.length cF9, .slice aT9 S.2.1.length cT9, .slice aP9 S.2.2.length cP9], .bool false]) (by simp [results, Tryz.results142, go_sem, gz, y0, y1, y2]) rfl ⟨_, _, rfl, ?_, HLD.out.2⟩
   rw [HN.out]
   exact HLD.out.1
  ·obtain ⟨i1, i2, i3⟩ := HOK.out
   rw [hG] at i1 i2 i3
   have i4 := i3 rfl HW7.out
   dsimp only at i1 i2 i4
   rw [Int.toNat_natCast, Int.toNat_natCast] at i4
   have f0 := i1.fr xN (by omega)
   have f1 := i1.fr yN (by omega)
   have HN := Lib.hid (show placeP l l0 S e = some (layP S' (if gI S'.1 xN = 0 then (yN : Int) else (xN : Int)) e) by
    unfold placeP; rw [← HGB.out]; dsimp only; rw [hG]; rfl)
   have hfx : 0 ≤ gI S'.1 xN ∧ gI S'.1 xN ≤ 64 := by omega
   have hfy : 0 ≤ gI S'.1 yN ∧ gI S'.1 yN ≤ 64 := by omega
   have hm1 := i1.plen
   have hm2 : S'.2.1.length ≤ l.length := by have := i1.tl; have := i1.plen; omega
   have HFL := Lib.hid i1.len
   have HSUM := Lib.hid (show gI S'.1 xN = 0 → 1 ≤ gI S'.1 yN from fun h0 => by omega)
   clear hG HOK i1 i2 i3 i4 f0 f1
   refine HG3.out.mono ?_
   rintro r w4 ⟨v, rfl, ⟨uF, uT, uP, rfl, P3⟩, b4⟩
   obtain ⟨gF, cG, rfl, hgF, -⟩ := ownForm P3.oF (by show 0 < S'.1.length; have := HFL.out; omega)
   obtain ⟨aT', cT', rfl, -⟩ := P3.oT.form
   obtain ⟨aP', cP', rfl, -⟩ := P3.oP.form
   rw [HFL.out] at P3 ⊢
   have hw44 := b4.size
   have HQ := Lib.hid (PebC.new P3 (Nat.le_refl _) b4.size)
   have b5 := b4.step (belAl w4 (.cells #[.slice (some ⟨gF, 0, none⟩) n cG, .slice aT' S'.2.1.length cT', .slice aP' S'.2.2.length cP'] 117))
   have PR5 := Lib.hid (PR3.out.below b5)
   replace p0 := ((bcell b5).1 _ _ pz).trans p0
   replace p1 := ((bcell b5).1 _ _ pz).trans p1
   replace pz := Nat.lt_of_lt_of_le pz b5.size
   clear zg bg0 bg1 zp bp0 bp1 bp2 P3 b4 b5 HG3 PR3 HCP
   go_upto_region 5 with (fail)
   generalize w4.alloc (.cells #[.slice (some ⟨gF, 0, none⟩) n cG, .slice aT' S'.2.1.length cT', .slice aP' S'.2.2.length cP'] 117) = w5 at *
   have c0 := HQ.out.c0
   have hsb := HQ.out.hi
   have t0 := HQ.out.oF.gcell (k := xN) (by have := HFL.out; omega)
   have hsF : gF < w5.heap.size := (HQ.out.oF.lt _ rfl).2
   obtain ⟨fx, hfx1⟩ : ∃ fx, fx = gI S'.1 xN := ⟨_, rfl⟩
   rw [← hfx1] at t0 hfx
   have HFX := Lib.hid hfx1
   have e4 : (xN : Int) < (n : Int) := by omega
   have e5 : (yN : Int) < (n : Int) := by omega
   clear hfx1
   by_cases h0 : fx = 0
   ·have hz : (fx == 0) = true := by rw [h0]; rfl
    have HN2 := Lib.hid (show placeP l l0 S e = some (layP S' (yN : Int) e) by rw [HN.out, if_pos (by rw [← HFX.out]; exact h0)])
    obtain ⟨fy, hfy1⟩ : ∃ fy, fy = gI S'.1 yN := ⟨_, rfl⟩
    have hfy2 : 1 ≤ fy := by rw [hfy1]; exact HSUM.out (by rw [← HFX.out]; exact h0)
    rw [← hfy1] at hfy
    have HFY := Lib.hid hfy1
    clear hfy1
    clear h0
    go_wp2_with fail
    clear t0 c0 hsF hsb p0 p1 pz
    have c0 := HQ.out.c0
    have hsb := HQ.out.hi
    have t0 := HQ.out.oF.gcell (k := yN) (by have := HFL.out; omega)
    have tz := HQ.out.oF.gfroz yN
    have hsF : gF < w5.heap.size := (HQ.out.oF.lt _ rfl).2
    rw [← HFY.out] at t0
    have hwr := IntWalk.i64_in (fy - 1) (by omega)
    have HQ4 := Lib.hid ((HQ.out.setF yN (fy - 1)).below (Below.refl _ _).drew)
    have PR6 := Lib.hid ((PR5.out.set (g := gF) (i := yN) (x := .int .i64 (fy - 1)) (by omega)).below (Below.refl _ _).drew)
    have hZ6 : w3.heap.size ≤ (w5.setCell ⟨gF, yN, none⟩ (.int .i64 (fy - 1))).drew.heap.size := by have := HQ4.out.hi; have := HQ4.out.lo; omega
    go_region
    clear c0 hsb t0 tz hsF hwr HQ PR5
    generalize (w5.setCell ⟨gF, yN, none⟩ (.int .i64 (fy - 1))).drew = w6 at *
    have c1 := HQ4.out.c1
    have f1 := HQ4.out.f1
    have hsb := HQ4.out.hi
    have lt1 : S'.2.1.length < 1099511627776 := by omega
    go_upto_region 12 with (at_builtin; refine app1At rfl (.tmp 101) (.tmp 103) rfl rfl HQ4.out.oT (yN : Int) rfl lt1 hZ6 ?_; intro v5 w7 h5 k5 a5; obtain ⟨av, cv, rfl, hiv⟩ := h5.form; clear hiv; rw [show (S'.2.1 ++ [(yN : Int)]).length = S'.2.1.length + 1 from by simp] at h5 a5 ⊢; have PT := HQ4.out.appT hZ6 h5 k5 a5; have q1 := (k5.cell HQ4.out.hi (o := 1) (fun e => HQ4.out.dT e.symm)).trans c1; have q2 := (k5.frozen HQ4.out.hi (o := 1) (fun e => HQ4.out.dT e.symm)).trans f1; have q3 := Nat.lt_of_lt_of_le hsb k5.size; have PR7 := Lib.hid ((PR6.out.kept k5 (fun g hg e => by have := (HQ4.out.oT.lt g e.symm).1; omega)).set (g := w4.heap.size) (i := 1) (x := .slice av (S'.2.1.length + 1) cv) (by omega)); have hZ7 := Nat.le_trans hZ6 k5.size; clear c1 f1 hsb)
    try dsimp only at PT
    have HQ5 := Lib.hid PT
    clear PT h5 k5 a5 q1 q2 q3 HQ4 PR6
    have hZ8 : w3.heap.size ≤ (w7.setCell ⟨w4.heap.size, 1, none⟩ (.slice av (S'.2.1.length + 1) cv)).heap.size := by simp; exact hZ7
    clear hZ7
    generalize w7.setCell ⟨w4.heap.size, 1, none⟩ (.slice av (S'.2.1.length + 1) cv) = w8 at *
    have c1 := HQ5.out.c2
    have f1 := HQ5.out.f2
    have hsb := HQ5.out.hi
    have lt2 : S'.2.2.length < 1099511627776 := by omega
    go_upto_region 13 with (at_builtin; refine app1At rfl (.tmp 107) (.tmp 109) rfl rfl HQ5.out.oP (e : Int) rfl lt2 hZ8 ?_; intro v7 w9 h7 k7 a7; obtain ⟨av7, cv7, rfl, hiv⟩ := h7.form; clear hiv; rw [show (S'.2.2 ++ [(e : Int)]).length = S'.2.2.length + 1 from by simp] at h7 a7 ⊢; have PT := HQ5.out.appP hZ8 h7 k7 a7; have q1 := (k7.cell HQ5.out.hi (o := 2) (fun e => HQ5.out.dP e.symm)).trans c1; have q2 := (k7.frozen HQ5.out.hi (o := 2) (fun e => HQ5.out.dP e.symm)).trans f1; have q3 := Nat.lt_of_lt_of_le hsb k7.size; have PR9 := Lib.hid ((PR7.out.kept k7 (fun g hg e => by have := (HQ5.out.oP.lt g e.symm).1; omega)).set (g := w4.heap.size) (i := 2) (x := .slice av7 (S'.2.2.length + 1) cv7) (by omega)); clear c1 f1 hsb)
    have HQ7 := Lib.hid PT
    clear PT h7 k7 a7 q1 q2 q3 HQ5 PR7
    generalize w9.setCell ⟨w4.heap.size, 2, none⟩ (.slice av7 (S'.2.2.length + 1) cv7) = w10 at *
    have c0 := HQ7.out.c0
    have c1 := HQ7.out.c1
    have c2 := HQ7.out.c2
    have hsb := HQ7.out.hi
    obtain ⟨⟨z0, z1, z2, y0, y1, y2⟩, ⟨g0, g1, g2⟩, gz⟩ := PR9.out.rz
    have HLD := Lib.hid (laidP (W := W) (g := W.heap.size + 2) HQ7.out.own (by omega) (by omega) (by omega) PR9.out.b)
    go_wp2_with fail
    refine bodyPost_ret (v := .tuple #[.agg #[.slice (some ⟨gF, 0, none⟩) n cG, .slice av (S'.2.1.length + 1) cv, .slice av7 (S'.2.2.length + 1) cv7], .bool true]) (by simp [results, Tryz.results142, go_sem, gz, y0, y1, y2]) rfl ⟨_, _, rfl, ?_, HLD.out.2⟩
    have h9 := HLD.out.1
    rw [HN2.out]
    show OwnPeb _ _ _ (layP S' (yN : Int) e)
    rw [show layP S' (yN : Int) e = (S'.1.set yN (fy - 1), S'.2.1 ++ [(yN : Int)], S'.2.2 ++ [(e : Int)]) from by unfold layP; rw [Int.toNat_natCast, ← HFY.out]]
    exact h9
   ·have hz : (fx == 0) = false := by rw [beq_eq_false_iff_ne]; exact h0
    have HN2 := Lib.hid (show placeP l l0 S e = some (layP S' (xN : Int) e) by rw [HN.out, if_neg (by rw [← HFX.out]; exact h0)])
    have h01 : 1 ≤ fx := by omega
    clear h0
    go_wp2_with fail
    clear t0 c0 hsF hsb p0 p1 pz
    have c0 := HQ.out.c0
    have hsb := HQ.out.hi
    have t0 := HQ.out.oF.gcell (k := xN) (by have := HFL.out; omega)
    have tz := HQ.out.oF.gfroz xN
    have hsF : gF < w5.heap.size := (HQ.out.oF.lt _ rfl).2
    rw [← HFX.out] at t0
    have hwr := IntWalk.i64_in (fx - 1) (by omega)
    have HQ4 := Lib.hid ((HQ.out.setF xN (fx - 1)).below (Below.refl _ _).drew)
    have PR6 := Lib.hid ((PR5.out.set (g := gF) (i := xN) (x := .int .i64 (fx - 1)) (by omega)).below (Below.refl _ _).drew)
    have hZ6 : w3.heap.size ≤ (w5.setCell ⟨gF, xN, none⟩ (.int .i64 (fx - 1))).drew.heap.size := by have := HQ4.out.hi; have := HQ4.out.lo; omega
    go_region
    clear c0 hsb t0 tz hsF hwr HQ PR5
    generalize (w5.setCell ⟨gF, xN, none⟩ (.int .i64 (fx - 1))).drew = w6 at *
    have c1 := HQ4.out.c1
    have f1 := HQ4.out.f1
    have hsb := HQ4.out.hi
    have lt1 : S'.2.1.length < 1099511627776 := by omega
    go_upto_region 12 with (at_builtin; refine app1At rfl (.tmp 101) (.tmp 103) rfl rfl HQ4.out.oT (xN : Int) rfl lt1 hZ6 ?_; intro v5 w7 h5 k5 a5; obtain ⟨av, cv, rfl, hiv⟩ := h5.form; clear hiv; rw [show (S'.2.1 ++ [(xN : Int)]).length = S'.2.1.length + 1 from by simp] at h5 a5 ⊢; have PT := HQ4.out.appT hZ6 h5 k5 a5; have q1 := (k5.cell HQ4.out.hi (o := 1) (fun e => HQ4.out.dT e.symm)).trans c1; have q2 := (k5.frozen HQ4.out.hi (o := 1) (fun e => HQ4.out.dT e.symm)).trans f1; have q3 := Nat.lt_of_lt_of_le hsb k5.size; have PR7 := Lib.hid ((PR6.out.kept k5 (fun g hg e => by have := (HQ4.out.oT.lt g e.symm).1; omega)).set (g := w4.heap.size) (i := 1) (x := .slice av (S'.2.1.length + 1) cv) (by omega)); have hZ7 := Nat.le_trans hZ6 k5.size; clear c1 f1 hsb)
    try dsimp only at PT
    have HQ5 := Lib.hid PT
    clear PT h5 k5 a5 q1 q2 q3 HQ4 PR6
    have hZ8 : w3.heap.size ≤ (w7.setCell ⟨w4.heap.size, 1, none⟩ (.slice av (S'.2.1.length + 1) cv)).heap.size := by simp; exact hZ7
    clear hZ7
    generalize w7.setCell ⟨w4.heap.size, 1, none⟩ (.slice av (S'.2.1.length + 1) cv) = w8 at *
    have c1 := HQ5.out.c2
    have f1 := HQ5.out.f2
    have hsb := HQ5.out.hi
    have lt2 : S'.2.2.length < 1099511627776 := by omega
    go_upto_region 13 with (at_builtin; refine app1At rfl (.tmp 107) (.tmp 109) rfl rfl HQ5.out.oP (e : Int) rfl lt2 hZ8 ?_; intro v7 w9 h7 k7 a7; obtain ⟨av7, cv7, rfl, hiv⟩ := h7.form; clear hiv; rw [show (S'.2.2 ++ [(e : Int)]).length = S'.2.2.length + 1 from by simp] at h7 a7 ⊢; have PT := HQ5.out.appP hZ8 h7 k7 a7; have q1 := (k7.cell HQ5.out.hi (o := 2) (fun e => HQ5.out.dP e.symm)).trans c1; have q2 := (k7.frozen HQ5.out.hi (o := 2) (fun e => HQ5.out.dP e.symm)).trans f1; have q3 := Nat.lt_of_lt_of_le hsb k7.size; have PR9 := Lib.hid ((PR7.out.kept k7 (fun g hg e => by have := (HQ5.out.oP.lt g e.symm).1; omega)).set (g := w4.heap.size) (i := 2) (x := .slice av7 (S'.2.2.length + 1) cv7) (by omega)); clear c1 f1 hsb)
    have HQ7 := Lib.hid PT
    clear PT h7 k7 a7 q1 q2 q3 HQ5 PR7
    generalize w9.setCell ⟨w4.heap.size, 2, none⟩ (.slice av7 (S'.2.2.length + 1) cv7) = w10 at *
    have c0 := HQ7.out.c0
    have c1 := HQ7.out.c1
    have c2 := HQ7.out.c2
    have hsb := HQ7.out.hi
    obtain ⟨⟨z0, z1, z2, y0, y1, y2⟩, ⟨g0, g1, g2⟩, gz⟩ := PR9.out.rz
    have HLD := Lib.hid (laidP (W := W) (g := W.heap.size + 2) HQ7.out.own (by omega) (by omega) (by omega) PR9.out.b)
    go_wp2_with fail
    refine bodyPost_ret (v := .tuple #[.agg #[.slice (some ⟨gF, 0, none⟩) n cG, .slice av (S'.2.1.length + 1) cv, .slice av7 (S'.2.2.length + 1) cv7], .bool true]) (by simp [results, Tryz.results142, go_sem, gz, y0, y1, y2]) rfl ⟨_, _, rfl, ?_, HLD.out.2⟩
    have h9 := HLD.out.1
    rw [HN2.out]
    show OwnPeb _ _ _ (layP S' (xN : Int) e)
    rw [show layP S' (xN : Int) e = (S'.1.set xN (fx - 1), S'.2.1 ++ [(xN : Int)], S'.2.2 ++ [(e : Int)]) from by unfold layP; rw [Int.toNat_natCast, ← HFX.out]]
    exact h9
 ·have c3 : decide ((0 : Int) < (S.2.2.length : Int)) = true := decide_eq_true (by omega)
  have c3n : decide (0 < S.2.2.length) = true := decide_eq_true (by omega)
  go_enter Tryz.func142, Tryz.ntmps142
  go_wp2_with fail
  generalize ((W.alloc (.cells #[.int .i64 (n : Int), .slice a l.length cap] 26)).alloc (.cells #[.slice aF S.1.length cF, .slice aT S.2.1.length cT, .slice aP S.2.2.length cP] 117)).alloc (.cells #[.slice none 0 0, .slice none 0 0, .slice none 0 0] 117) = u0 at *
  refine (HPB.out _ PR.out.b).mono ?_
  rintro r w1 ⟨rfl, b⟩
  have PR1 := Lib.hid (PR.out.below b)
  clear b HPB PR
  go_wp2_with fail
  refine (HRG.out _).mono ?_
  rintro r w2 ⟨rfl, b⟩
  have PR2 := Lib.hid (PR1.out.below b)
  clear b HRG PR1
  obtain ⟨zg, bg0, bg1⟩ := PR2.out.bg
  obtain ⟨zp, bp0, bp1, bp2⟩ := PR2.out.bp
  obtain ⟨bq, oq, pv, rfl, hbq, hxp, d2⟩ := (HP.out.below PR2.out.b).2 (S.2.2.length - 1) (by omega)
  obtain ⟨x9, hx9, hx9e⟩ := HLS.out (S.2.2.length - 1) (by omega)
  have hpv : gI S.2.2 (S.2.2.length - 1) = pv := by unfold gI; rw [hxp]; rfl
  have c6 : decide ((e : Int) ≤ pv) = false := decide_eq_false (by omega)
  have hji : ((S.2.2.length : Int) - 1).toNat = S.2.2.length - 1 := by omega
  have hwr := IntWalk.i64_in ((S.2.2.length : Int) - 1) (by omega)
  have s7 : (0 : Int) ≤ (S.2.2.length : Int) - 1 := by omega
  have s8 : (S.2.2.length : Int) - 1 < (S.2.2.length : Int) := by omega
  clear hxp hpv hx9 hx9e
  obtain ⟨bb, ob, ⟨c1, c2⟩, rfl, hbb, hxb, d3, d4⟩ := (H1.out.below PR2.out.b).2 e he
  have hgb : gB l e = (c1, c2) := by unfold gB; rw [hxb]; rfl
  have hcc := HGB.out.trans hgb
  simp only [Prod.mk.injEq] at hcc
  obtain ⟨rfl, rfl⟩ := hcc
  dsimp only at d3 d4
  have hw3 := PR2.out.sz
  have bal := belAl w2 (.cells #[.int .i64 (xN : Int), .int .i64 (yN : Int)] 70)
  have PR3 := Lib.hid (PR2.out.below bal)
  have p0 : (w2.alloc (.cells #[.int .i64 (xN : Int), .int .i64 (yN : Int)] 70)).cell? ⟨w2.heap.size, 0, none⟩ = some (.int .i64 (xN : Int)) := by simp [World.cell?_alloc_new]
  have p1 : (w2.alloc (.cells #[.int .i64 (xN : Int), .int .i64 (yN : Int)] 70)).cell? ⟨w2.heap.size, 1, none⟩ = some (.int .i64 (yN : Int)) := by simp [World.cell?_alloc_new]
  have pz : w2.heap.size < (w2.alloc (.cells #[.int .i64 (xN : Int), .int .i64 (yN : Int)] 70)).heap.size := by simp
  clear hxb hgb PR2
  go_upto_region 4 with (fail)
  clear d3 d4 zg bg0 bg1 zp bp0 bp1 bp2 bal
  generalize (w2.alloc (.cells #[.int .i64 (xN : Int), .int .i64 (yN : Int)] 70)) = w3 at *
  obtain ⟨zg, bg0, bg1⟩ := PR3.out.bg
  obtain ⟨zp, bp0, bp1, bp2⟩ := PR3.out.bp
  go_wp2_with fail
  have HG3 := Lib.hid (HGA.out w3 PR3.out.b)
  have hw34 := PR3.out.sz
  cases hG : gatherP l (xN : Int) (yN : Int) (l0 + 1) 7 S with
  | mk S' ok =>
  rw [hG] at HG3
  cases ok
  ·have HN := Lib.hid (show placeP l l0 S e = none by unfold placeP; rw [← HGB.out]; dsimp only; rw [hG])
   clear hG HOK
   refine HG3.out.mono ?_
   rintro r w4 ⟨v, rfl, ⟨uF, uT, uP, rfl, P3⟩, b4⟩
   obtain ⟨aF', cF', rfl, -⟩ := P3.oF.form
   obtain ⟨aT', cT', rfl, -⟩ := P3.oT.form
   obtain ⟨aP', cP', rfl, -⟩ := P3.oP.form
   have PR5 := Lib.hid ((PR3.out.below b4).below (belAl w4 (.cells #[.slice aF' S'.1.length cF', .slice aT' S'.2.1.length cT', .slice aP' S'.2.2.length cP'] 117)))
   clear zg bg0 bg1 zp bp0 bp1 bp2 P3 b4 p0 p1 pz HG3 PR3
   go_upto_region 5 with (fail)
   generalize w4.alloc (.cells #[.slice aF' S'.1.length cF', .slice aT' S'.2.1.length cT', .slice aP' S'.2.2.length cP'] 117) = w5 at *
   obtain ⟨zp, bp0, bp1, bp2⟩ := PR5.out.bp
   go_wp2_with fail
   refine (HCP.out w5 PR5.out.b).mono ?_
   rintro r w6 ⟨v, rfl, ⟨vF, vT, vP, rfl, P6⟩, b6⟩
   obtain ⟨aF9, cF9, rfl, -⟩ := P6.oF.form
   obtain ⟨aT9, cT9, rfl, -⟩ := P6.oT.form
   obtain ⟨aP9, cP9, rfl, -⟩ := P6.oP.form
   have PR6 := PR5.out.below b6
   have hw5 := PR5.out.sz
   obtain ⟨⟨z0, z1, z2, y0, y1, y2⟩, ⟨g0, g1, g2⟩, gz⟩ := PR6.rz
   have HLD := Lib.hid (laidP (W := W) (g := W.heap.size + 2) P6 (by omega) (by omega) (by omega) PR6.b)
   clear zp bp0 bp1 bp2 P6 b6 PR6 HCP
   go_wp2_with fail
   refine bodyPost_ret (v := .tuple #[.agg #[.slice aF9 S.1.length cF9, .slice aT9 S.2.1.length cT9, .slice aP9 S.2.2.length cP9], .bool false]) (by simp [results, Tryz.results142, go_sem, gz, y0, y1, y2]) rfl ⟨_, _, rfl, ?_, HLD.out.2⟩
   rw [HN.out]
   exact HLD.out.1
  ·obtain ⟨i1, i2, i3⟩ := HOK.out
   rw [hG] at i1 i2 i3
   have i4 := i3 rfl HW7.out
   dsimp only at i1 i2 i4
   rw [Int.toNat_natCast, Int.toNat_natCast] at i4
   have f0 := i1.fr xN (by omega)
   have f1 := i1.fr yN (by omega)
   have HN := Lib.hid (show placeP l l0 S e = some (layP S' (if gI S'.1 xN = 0 then (yN : Int) else (xN : Int)) e) by
    unfold placeP; rw [← HGB.out]; dsimp only; rw [hG]; rfl)
   have hfx : 0 ≤ gI S'.1 xN ∧ gI S'.1 xN ≤ 64 := by omega
   have hfy : 0 ≤ gI S'.1 yN ∧ gI S'.1 yN ≤ 64 := by omega
   have hm1 := i1.plen
   have hm2 : S'.2.1.length ≤ l.length := by have := i1.tl; have := i1.plen; omega
   have HFL := Lib.hid i1.len
   have HSUM := Lib.hid (show gI S'.1 xN = 0 → 1 ≤ gI S'.1 yN from fun h0 => by omega)
   clear hG HOK i1 i2 i3 i4 f0 f1
   refine HG3.out.mono ?_
   rintro r w4 ⟨v, rfl, ⟨uF, uT, uP, rfl, P3⟩, b4⟩
   obtain ⟨gF, cG, rfl, hgF, -⟩ := ownForm P3.oF (by show 0 < S'.1.length; have := HFL.out; omega)
   obtain ⟨aT', cT', rfl, -⟩ := P3.oT.form
   obtain ⟨aP', cP', rfl, -⟩ := P3.oP.form
   rw [HFL.out] at P3 ⊢
   have hw44 := b4.size
   have HQ := Lib.hid (PebC.new P3 (Nat.le_refl _) b4.size)
   have b5 := b4.step (belAl w4 (.cells #[.slice (some ⟨gF, 0, none⟩) n cG, .slice aT' S'.2.1.length cT', .slice aP' S'.2.2.length cP'] 117))
   have PR5 := Lib.hid (PR3.out.below b5)
   replace p0 := ((bcell b5).1 _ _ pz).trans p0
   replace p1 := ((bcell b5).1 _ _ pz).trans p1
   replace pz := Nat.lt_of_lt_of_le pz b5.size
   clear zg bg0 bg1 zp bp0 bp1 bp2 P3 b4 b5 HG3 PR3 HCP
   go_upto_region 5 with (fail)
   generalize w4.alloc (.cells #[.slice (some ⟨gF, 0, none⟩) n cG, .slice aT' S'.2.1.length cT', .slice aP' S'.2.2.length cP'] 117) = w5 at *
   have c0 := HQ.out.c0
   have hsb := HQ.out.hi
   have t0 := HQ.out.oF.gcell (k := xN) (by have := HFL.out; omega)
   have hsF : gF < w5.heap.size := (HQ.out.oF.lt _ rfl).2
   obtain ⟨fx, hfx1⟩ : ∃ fx, fx = gI S'.1 xN := ⟨_, rfl⟩
   rw [← hfx1] at t0 hfx
   have HFX := Lib.hid hfx1
   have e4 : (xN : Int) < (n : Int) := by omega
   have e5 : (yN : Int) < (n : Int) := by omega
   clear hfx1
   by_cases h0 : fx = 0
   ·have hz : (fx == 0) = true := by rw [h0]; rfl
    have HN2 := Lib.hid (show placeP l l0 S e = some (layP S' (yN : Int) e) by rw [HN.out, if_pos (by rw [← HFX.out]; exact h0)])
    obtain ⟨fy, hfy1⟩ : ∃ fy, fy = gI S'.1 yN := ⟨_, rfl⟩
    have hfy2 : 1 ≤ fy := by rw [hfy1]; exact HSUM.out (by rw [← HFX.out]; exact h0)
    rw [← hfy1] at hfy
    have HFY := Lib.hid hfy1
    clear hfy1
    clear h0
    go_wp2_with fail
    clear t0 c0 hsF hsb p0 p1 pz
    have c0 := HQ.out.c0
    have hsb := HQ.out.hi
    have t0 := HQ.out.oF.gcell (k := yN) (by have := HFL.out; omega)
    have tz := HQ.out.oF.gfroz yN
    have hsF : gF < w5.heap.size := (HQ.out.oF.lt _ rfl).2
    rw [← HFY.out] at t0
    have hwr := IntWalk.i64_in (fy - 1) (by omega)
    have HQ4 := Lib.hid ((HQ.out.setF yN (fy - 1)).below (Below.refl _ _).drew)
    have PR6 := Lib.hid ((PR5.out.set (g := gF) (i := yN) (x := .int .i64 (fy - 1)) (by omega)).below (Below.refl _ _).drew)
    have hZ6 : w3.heap.size ≤ (w5.setCell ⟨gF, yN, none⟩ (.int .i64 (fy - 1))).drew.heap.size := by have := HQ4.out.hi; have := HQ4.out.lo; omega
    go_region
    clear c0 hsb t0 tz hsF hwr HQ PR5
    generalize (w5.setCell ⟨gF, yN, none⟩ (.int .i64 (fy - 1))).drew = w6 at *
    have c1 := HQ4.out.c1
    have f1 := HQ4.out.f1
    have hsb := HQ4.out.hi
    have lt1 : S'.2.1.length < 1099511627776 := by omega
    go_upto_region 12 with (at_builtin; refine app1At rfl (.tmp 101) (.tmp 103) rfl rfl HQ4.out.oT (yN : Int) rfl lt1 hZ6 ?_; intro v5 w7 h5 k5 a5; obtain ⟨av, cv, rfl, hiv⟩ := h5.form; clear hiv; rw [show (S'.2.1 ++ [(yN : Int)]).length = S'.2.1.length + 1 from by simp] at h5 a5 ⊢; have PT := HQ4.out.appT hZ6 h5 k5 a5; have q1 := (k5.cell HQ4.out.hi (o := 1) (fun e => HQ4.out.dT e.symm)).trans c1; have q2 := (k5.frozen HQ4.out.hi (o := 1) (fun e => HQ4.out.dT e.symm)).trans f1; have q3 := Nat.lt_of_lt_of_le hsb k5.size; have PR7 := Lib.hid ((PR6.out.kept k5 (fun g hg e => by have := (HQ4.out.oT.lt g e.symm).1; omega)).set (g := w4.heap.size) (i := 1) (x := .slice av (S'.2.1.length + 1) cv) (by omega)); have hZ7 := Nat.le_trans hZ6 k5.size; clear c1 f1 hsb)
    try dsimp only at PT
    have HQ5 := Lib.hid PT
    clear PT h5 k5 a5 q1 q2 q3 HQ4 PR6
    have hZ8 : w3.heap.size ≤ (w7.setCell ⟨w4.heap.size, 1, none⟩ (.slice av (S'.2.1.length + 1) cv)).heap.size := by simp; exact hZ7
    clear hZ7
    generalize w7.setCell ⟨w4.heap.size, 1, none⟩ (.slice av (S'.2.1.length + 1) cv) = w8 at *
    have c1 := HQ5.out.c2
    have f1 := HQ5.out.f2
    have hsb := HQ5.out.hi
    have lt2 : S'.2.2.length < 1099511627776 := by omega
    go_upto_region 13 with (at_builtin; refine app1At rfl (.tmp 107) (.tmp 109) rfl rfl HQ5.out.oP (e : Int) rfl lt2 hZ8 ?_; intro v7 w9 h7 k7 a7; obtain ⟨av7, cv7, rfl, hiv⟩ := h7.form; clear hiv; rw [show (S'.2.2 ++ [(e : Int)]).length = S'.2.2.length + 1 from by simp] at h7 a7 ⊢; have PT := HQ5.out.appP hZ8 h7 k7 a7; have q1 := (k7.cell HQ5.out.hi (o := 2) (fun e => HQ5.out.dP e.symm)).trans c1; have q2 := (k7.frozen HQ5.out.hi (o := 2) (fun e => HQ5.out.dP e.symm)).trans f1; have q3 := Nat.lt_of_lt_of_le hsb k7.size; have PR9 := Lib.hid ((PR7.out.kept k7 (fun g hg e => by have := (HQ5.out.oP.lt g e.symm).1; omega)).set (g := w4.heap.size) (i := 2) (x := .slice av7 (S'.2.2.length + 1) cv7) (by omega)); clear c1 f1 hsb)
    have HQ7 := Lib.hid PT
    clear PT h7 k7 a7 q1 q2 q3 HQ5 PR7
    generalize w9.setCell ⟨w4.heap.size, 2, none⟩ (.slice av7 (S'.2.2.length + 1) cv7) = w10 at *
    have c0 := HQ7.out.c0
    have c1 := HQ7.out.c1
    have c2 := HQ7.out.c2
    have hsb := HQ7.out.hi
    obtain ⟨⟨z0, z1, z2, y0, y1, y2⟩, ⟨g0, g1, g2⟩, gz⟩ := PR9.out.rz
    have HLD := Lib.hid (laidP (W := W) (g := W.heap.size + 2) HQ7.out.own (by omega) (by omega) (by omega) PR9.out.b)
    go_wp2_with fail
    refine bodyPost_ret (v := .tuple #[.agg #[.slice (some ⟨gF, 0, none⟩) n cG, .slice av (S'.2.1.length + 1) cv, .slice av7 (S'.2.2.length + 1) cv7], .bool true]) (by simp [results, Tryz.results142, go_sem, gz, y0, y1, y2]) rfl ⟨_, _, rfl, ?_, HLD.out.2⟩
    have h9 := HLD.out.1
    rw [HN2.out]
    show OwnPeb _ _ _ (layP S' (yN : Int) e)
    rw [show layP S' (yN : Int) e = (S'.1.set yN (fy - 1), S'.2.1 ++ [(yN : Int)], S'.2.2 ++ [(e : Int)]) from by unfold layP; rw [Int.toNat_natCast, ← HFY.out]]
    exact h9
   ·have hz : (fx == 0) = false := by rw [beq_eq_false_iff_ne]; exact h0
    have HN2 := Lib.hid (show placeP l l0 S e = some (layP S' (xN : Int) e) by rw [HN.out, if_neg (by rw [← HFX.out]; exact h0)])
    have h01 : 1 ≤ fx := by omega
    clear h0
    go_wp2_with fail
    clear t0 c0 hsF hsb p0 p1 pz
    have c0 := HQ.out.c0
    have hsb := HQ.out.hi
    have t0 := HQ.out.oF.gcell (k := xN) (by have := HFL.out; omega)
    have tz := HQ.out.oF.gfroz xN
    have hsF : gF < w5.heap.size := (HQ.out.oF.lt _ rfl).2
    rw [← HFX.out] at t0
    have hwr := IntWalk.i64_in (fx - 1) (by omega)
    have HQ4 := Lib.hid ((HQ.out.setF xN (fx - 1)).below (Below.refl _ _).drew)
    have PR6 := Lib.hid ((PR5.out.set (g := gF) (i := xN) (x := .int .i64 (fx - 1)) (by omega)).below (Below.refl _ _).drew)
    have hZ6 : w3.heap.size ≤ (w5.setCell ⟨gF, xN, none⟩ (.int .i64 (fx - 1))).drew.heap.size := by have := HQ4.out.hi; have := HQ4.out.lo; omega
    go_region
    clear c0 hsb t0 tz hsF hwr HQ PR5
    generalize (w5.setCell ⟨gF, xN, none⟩ (.int .i64 (fx - 1))).drew = w6 at *
    have c1 := HQ4.out.c1
    have f1 := HQ4.out.f1
    have hsb := HQ4.out.hi
    have lt1 : S'.2.1.length < 1099511627776 := by omega
    go_upto_region 12 with (at_builtin; refine app1At rfl (.tmp 101) (.tmp 103) rfl rfl HQ4.out.oT (xN : Int) rfl lt1 hZ6 ?_; intro v5 w7 h5 k5 a5; obtain ⟨av, cv, rfl, hiv⟩ := h5.form; clear hiv; rw [show (S'.2.1 ++ [(xN : Int)]).length = S'.2.1.length + 1 from by simp] at h5 a5 ⊢; have PT := HQ4.out.appT hZ6 h5 k5 a5; have q1 := (k5.cell HQ4.out.hi (o := 1) (fun e => HQ4.out.dT e.symm)).trans c1; have q2 := (k5.frozen HQ4.out.hi (o := 1) (fun e => HQ4.out.dT e.symm)).trans f1; have q3 := Nat.lt_of_lt_of_le hsb k5.size; have PR7 := Lib.hid ((PR6.out.kept k5 (fun g hg e => by have := (HQ4.out.oT.lt g e.symm).1; omega)).set (g := w4.heap.size) (i := 1) (x := .slice av (S'.2.1.length + 1) cv) (by omega)); have hZ7 := Nat.le_trans hZ6 k5.size; clear c1 f1 hsb)
    try dsimp only at PT
    have HQ5 := Lib.hid PT
    clear PT h5 k5 a5 q1 q2 q3 HQ4 PR6
    have hZ8 : w3.heap.size ≤ (w7.setCell ⟨w4.heap.size, 1, none⟩ (.slice av (S'.2.1.length + 1) cv)).heap.size := by simp; exact hZ7
    clear hZ7
    generalize w7.setCell ⟨w4.heap.size, 1, none⟩ (.slice av (S'.2.1.length + 1) cv) = w8 at *
    have c1 := HQ5.out.c2
    have f1 := HQ5.out.f2
    have hsb := HQ5.out.hi
    have lt2 : S'.2.2.length < 1099511627776 := by omega
    go_upto_region 13 with (at_builtin; refine app1At rfl (.tmp 107) (.tmp 109) rfl rfl HQ5.out.oP (e : Int) rfl lt2 hZ8 ?_; intro v7 w9 h7 k7 a7; obtain ⟨av7, cv7, rfl, hiv⟩ := h7.form; clear hiv; rw [show (S'.2.2 ++ [(e : Int)]).length = S'.2.2.length + 1 from by simp] at h7 a7 ⊢; have PT := HQ5.out.appP hZ8 h7 k7 a7; have q1 := (k7.cell HQ5.out.hi (o := 2) (fun e => HQ5.out.dP e.symm)).trans c1; have q2 := (k7.frozen HQ5.out.hi (o := 2) (fun e => HQ5.out.dP e.symm)).trans f1; have q3 := Nat.lt_of_lt_of_le hsb k7.size; have PR9 := Lib.hid ((PR7.out.kept k7 (fun g hg e => by have := (HQ5.out.oP.lt g e.symm).1; omega)).set (g := w4.heap.size) (i := 2) (x := .slice av7 (S'.2.2.length + 1) cv7) (by omega)); clear c1 f1 hsb)
    have HQ7 := Lib.hid PT
    clear PT h7 k7 a7 q1 q2 q3 HQ5 PR7
    generalize w9.setCell ⟨w4.heap.size, 2, none⟩ (.slice av7 (S'.2.2.length + 1) cv7) = w10 at *
    have c0 := HQ7.out.c0
    have c1 := HQ7.out.c1
    have c2 := HQ7.out.c2
    have hsb := HQ7.out.hi
    obtain ⟨⟨z0, z1, z2, y0, y1, y2⟩, ⟨g0, g1, g2⟩, gz⟩ := PR9.out.rz
    have HLD := Lib.hid (laidP (W := W) (g := W.heap.size + 2) HQ7.out.own (by omega) (by omega) (by omega) PR9.out.b)
    go_wp2_with fail
    refine bodyPost_ret (v := .tuple #[.agg #[.slice (some ⟨gF, 0, none⟩) n cG, .slice av (S'.2.1.length + 1) cv, .slice av7 (S'.2.2.length + 1) cv7], .bool true]) (by simp [results, Tryz.results142, go_sem, gz, y0, y1, y2]) rfl ⟨_, _, rfl, ?_, HLD.out.2⟩
    have h9 := HLD.out.1
    rw [HN2.out]
    show OwnPeb _ _ _ (layP S' (xN : Int) e)
    rw [show layP S' (xN : Int) e = (S'.1.set xN (fx - 1), S'.2.1 ++ [(xN : Int)], S'.2.2 ++ [(e : Int)]) from by unfold layP; rw [Int.toNat_natCast, ← HFX.out]]
    exact h9

def AggP (v : Value) (n : Nat) : Prop := ∃ aF nF cF aT nT cT aP cP, v = .agg #[.slice aF nF cF, .slice aT nT cT, .slice aP n cP]
def RetRs (W : World) (n : Nat) (ok : Bool) (e : Ending) (w' : World) : Prop := ∃ v, e = .returned (.tuple #[v, .bool ok]) ∧ AggP v n ∧ Below W.heap.size W w'
theorem runOk_split {p k l0 : Int} {l : List BarT} : runOk (p, l) k l0 = ((isGraphB (p, l) && inB k 1 3) && rangeB k l0) := by
 unfold runOk rangeB
 cases isGraphB (p, l) <;> cases inB k 1 3 <;> simp

set_option maxHeartbeats 8000000 in
theorem specRun_no (W : World) (p : Int) (a : Option Addr) (cap : Nat) (l : List BarT) (h : BarsAt W a l.length l) (hs : l.length ≤ 1048576) (k l0 : Int) (hr : runOk (p, l) k l0 = false) : Calls Tryz.prog 109 #[.agg #[.int .i64 p, .slice a l.length cap], .int .i64 k, .int .i64 l0] W (RetRs W 0 false) := by
 have hwd := @Wd.cells
 have HGr : Hid (IsGraph W (.agg #[.int .i64 p, .slice a l.length cap]) (p, l)) := Lib.hid ⟨a, cap, rfl, h⟩
 have H1 := Lib.hid h
 clear h
 have hsz : szGraph (p, l) ≤ 1048576 := hs
 have hsz2 : szGraph (p, l) ≤ 1099511627776 := Nat.le_trans hsz (by decide)
 have B : Below W.heap.size W (W.alloc (.cells #[.int .i64 p, .slice a l.length cap] 26)) := (Below.refl _ _).alloc (Nat.le_refl _) _
 have BG : Hid (BoxGr (W.alloc (.cells #[.int .i64 p, .slice a l.length cap] 26)) W.heap.size p a l.length cap) := Lib.hid (BoxGr.at rfl)
 have HZ : Hid (ZerP (((W.alloc (.cells #[.int .i64 p, .slice a l.length cap] 26))).alloc (.cells #[.slice none 0 0, .slice none 0 0, .slice none 0 0] 117)) (W.heap.size + 1)) := Lib.hid (by have := ZerP.at ((W.alloc (.cells #[.int .i64 p, .slice a l.length cap] 26))) 117; rwa [World.size_alloc] at this)
 have hba : Below ((W.alloc (.cells #[.int .i64 p, .slice a l.length cap] 26))).heap.size ((W.alloc (.cells #[.int .i64 p, .slice a l.length cap] 26))) (((W.alloc (.cells #[.int .i64 p, .slice a l.length cap] 26))).alloc (.cells #[.slice none 0 0, .slice none 0 0, .slice none 0 0] 117)) := belAl _ _
 have hzu : W.heap.size + 2 ≤ (((W.alloc (.cells #[.int .i64 p, .slice a l.length cap] 26))).alloc (.cells #[.slice none 0 0, .slice none 0 0, .slice none 0 0] 117)).heap.size := by simp
 replace B := B.step hba
 replace BG := Lib.hid (BG.out.below hba)
 clear hba
 rw [runOk_split] at hr
 cases hn : (isGraphB (p, l) && inB k 1 3)
 ·have HN := Lib.hid fun (w : World) (b : Below W.heap.size W w) => newPeb_no w p k a cap l (H1.out.below b) hs hn
  clear hn hr
  go_enter Tryz.func109, Tryz.ntmps109
  go_wp2_with fail
  generalize (((W.alloc (.cells #[.int .i64 p, .slice a l.length cap] 26))).alloc (.cells #[.slice none 0 0, .slice none 0 0, .slice none 0 0] 117)) = u at *
  obtain ⟨zBG, fBG0, fBG1⟩ := BG.out
  go_wp2_with fail
  refine (HN.out _ B).mono ?_
  rintro e w1 ⟨rfl, b⟩
  have bal := belAl w1 (.cells #[.slice none 0 0, .slice none 0 0, .slice none 0 0] 117)
  have B2 := (B.step b).step bal
  have HZ2 := Lib.hid ((HZ.out.below b).below bal)
  clear zBG fBG0 fBG1
  clear b
  go_upto_region 2 with (fail)
  generalize w1.alloc (.cells #[.slice none 0 0, .slice none 0 0, .slice none 0 0] 117) = w2 at *
  obtain ⟨⟨z0, z1, z2, y0, y1, y2⟩, ⟨g0, g1, g2⟩, gz⟩ := HZ2.out
  go_wp2_with fail
  refine bodyPost_ret (v := .tuple #[.agg #[.slice none 0 0, .slice none 0 0, .slice none 0 0], .bool false]) (by simp [results, Tryz.results109, go_sem, gz, y0, y1, y2]) rfl ⟨_, rfl, ⟨_, _, _, _, _, _, _, _, rfl⟩, ?_⟩
  exact ((B2.setCell (by simp) _).setCell (by simp) _).setCell (by simp) _
 ·rw [hn, Bool.true_and] at hr
  rw [Bool.and_eq_true] at hn
  obtain ⟨⟨hg1, hg2⟩, hg3⟩ := isGraphB_bd hn.1
  have hk : 1 ≤ k ∧ k ≤ 3 := by have := hn.2; simpa [inB] using this
  obtain ⟨P, rfl⟩ := Int.eq_ofNat_of_zero_le (show 0 ≤ p by omega)
  have HN := Lib.hid fun (w : World) (b : Below W.heap.size W w) => newPeb_yes w P k hk a cap l (H1.out.below b) hn.1
  have HR : Hid (∀ w, Calls Tryz.prog 71 #[.int .i64 k, .int .i64 l0] w fun e w' => e = .returned (.bool false) ∧ Below w.heap.size w w') := Lib.hid fun w => by have := specRange_any k l0 w; rwa [hr] at this
  clear hn hr
  go_enter Tryz.func109, Tryz.ntmps109
  go_wp2_with fail
  generalize ((W.alloc (.cells #[.int .i64 (P : Int), .slice a l.length cap] 26)).alloc (.cells #[.slice none 0 0, .slice none 0 0, .slice none 0 0] 117)) = u at *
  obtain ⟨zBG, fBG0, fBG1⟩ := BG.out
  go_wp2_with fail
  refine (HN.out _ B).mono ?_
  rintro e w1 ⟨v, rfl, ⟨uF, uT, uP, rfl, P3⟩, b⟩
  obtain ⟨aF, cF, rfl, -⟩ := P3.oF.form
  obtain ⟨aT, cT, rfl, -⟩ := P3.oT.form
  obtain ⟨aP, cP, rfl, -⟩ := P3.oP.form
  have bal := belAl w1 (.cells #[.slice aF (List.replicate P k).length cF, .slice aT ([] : List Int).length cT, .slice aP ([] : List Int).length cP] 117)
  have B2 := (B.step b).step bal
  have HZ2 := Lib.hid ((HZ.out.below b).below bal)
  rw [List.length_replicate] at bal B2 HZ2
  simp only [List.length_nil] at bal B2 HZ2
  clear zBG fBG0 fBG1
  clear b P3
  go_upto_region 2 with (fail)
  generalize w1.alloc (.cells #[.slice aF P cF, .slice aT 0 cT, .slice aP 0 cP] 117) = w2 at *
  go_wp2_with fail
  refine (HR.out _).mono ?_
  rintro e w3 ⟨rfl, b⟩
  have B3 := B2.step b
  obtain ⟨⟨z0, z1, z2, y0, y1, y2⟩, ⟨g0, g1, g2⟩, gz⟩ := HZ2.out.below b
  clear b
  go_wp2_with fail
  refine bodyPost_ret (v := .tuple #[.agg #[.slice none 0 0, .slice none 0 0, .slice none 0 0], .bool false]) (by simp [results, Tryz.results109, go_sem, gz, y0, y1, y2]) rfl ⟨_, rfl, ⟨_, _, _, _, _, _, _, _, rfl⟩, ?_⟩
  exact ((B3.setCell (by simp) _).setCell (by simp) _).setCell (by simp) _

set_option maxHeartbeats 8000000 in
theorem specRun_yes (W : World) (p : Int) (a : Option Addr) (cap : Nat) (l : List BarT) (h : BarsAt W a l.length l) (hs : l.length ≤ 1048576) (k l0 : Int) (hr : runOk (p, l) k l0 = true) : Calls Tryz.prog 109 #[.agg #[.int .i64 p, .slice a l.length cap], .int .i64 k, .int .i64 l0] W (RetRs W (playP p.toNat l k l0).2.2.length true) := by
 have hwd := @Wd.cells
 have HGr : Hid (IsGraph W (.agg #[.int .i64 p, .slice a l.length cap]) (p, l)) := Lib.hid ⟨a, cap, rfl, h⟩
 have H1 := Lib.hid h
 clear h
 have hsz : szGraph (p, l) ≤ 1048576 := hs
 have hsz2 : szGraph (p, l) ≤ 1099511627776 := Nat.le_trans hsz (by decide)
 have B : Below W.heap.size W (W.alloc (.cells #[.int .i64 p, .slice a l.length cap] 26)) := (Below.refl _ _).alloc (Nat.le_refl _) _
 have BG : Hid (BoxGr (W.alloc (.cells #[.int .i64 p, .slice a l.length cap] 26)) W.heap.size p a l.length cap) := Lib.hid (BoxGr.at rfl)
 have HZ : Hid (ZerP (((W.alloc (.cells #[.int .i64 p, .slice a l.length cap] 26))).alloc (.cells #[.slice none 0 0, .slice none 0 0, .slice none 0 0] 117)) (W.heap.size + 1)) := Lib.hid (by have := ZerP.at ((W.alloc (.cells #[.int .i64 p, .slice a l.length cap] 26))) 117; rwa [World.size_alloc] at this)
 have hba : Below ((W.alloc (.cells #[.int .i64 p, .slice a l.length cap] 26))).heap.size ((W.alloc (.cells #[.int .i64 p, .slice a l.length cap] 26))) (((W.alloc (.cells #[.int .i64 p, .slice a l.length cap] 26))).alloc (.cells #[.slice none 0 0, .slice none 0 0, .slice none 0 0] 117)) := belAl _ _
 have hzu : W.heap.size + 2 ≤ (((W.alloc (.cells #[.int .i64 p, .slice a l.length cap] 26))).alloc (.cells #[.slice none 0 0, .slice none 0 0, .slice none 0 0] 117)).heap.size := by simp
 replace B := B.step hba
 replace BG := Lib.hid (BG.out.below hba)
 clear hba
 unfold runOk at hr
 rw [Bool.and_eq_true] at hr
 obtain ⟨hg, hrr⟩ := hr
 obtain ⟨⟨hk1, hk3⟩, hl1, hl2⟩ := rangeB_bd hrr
 obtain ⟨⟨hg1, hg2⟩, hg3⟩ := isGraphB_bd hg
 obtain ⟨P, rfl⟩ := Int.eq_ofNat_of_zero_le (show 0 ≤ p by omega)
 rw [Int.toNat_natCast]
 have HN := Lib.hid fun (w : World) (b : Below W.heap.size W w) => newPeb_yes w P k ⟨hk1, hk3⟩ a cap l (H1.out.below b) hg
 have HR : Hid (∀ w, Calls Tryz.prog 71 #[.int .i64 k, .int .i64 l0] w fun e w' => e = .returned (.bool true) ∧ Below w.heap.size w w') := Lib.hid fun w => by have := specRange_any k l0 w; rwa [hrr] at this
 have HPB := Lib.hid fun (w : World) (b : Below W.heap.size W w) (e : Nat) (he : e < l.length) (S : PebT) (hI : Inv P k l e S) (vF vT vP : Value) (hS : PebIs w vF vT vP S) => placeBar_at w P k l0 hrr a cap l (H1.out.below b) hg e he S hI vF vT vP hS
 have HPT := Lib.hid fun (e : Nat) (he : e ≤ l.length) => playTo_ok (l := l0) (show 0 ≤ k by omega) (bokG_of hg) (show P ≤ 8 by omega) ⟨hl1, by omega⟩ e he
 clear hg hrr
 go_enter Tryz.func109, Tryz.ntmps109
 go_wp2_with fail
 generalize ((W.alloc (.cells #[.int .i64 (P : Int), .slice a l.length cap] 26)).alloc (.cells #[.slice none 0 0, .slice none 0 0, .slice none 0 0] 117)) = u at *
 obtain ⟨zBG, fBG0, fBG1⟩ := BG.out
 go_wp2_with fail
 refine (HN.out _ B).mono ?_
 rintro e w1 ⟨v, rfl, ⟨uF, uT, uP, rfl, P3⟩, b⟩
 obtain ⟨aF, cF, rfl, -⟩ := P3.oF.form
 obtain ⟨aT, cT, rfl, -⟩ := P3.oT.form
 obtain ⟨aP, cP, rfl, -⟩ := P3.oP.form
 have hw1 : W.heap.size + 2 ≤ w1.heap.size := by have := b.size; have := B.size; omega
 have bal := belAl w1 (.cells #[.slice aF (List.replicate P k).length cF, .slice aT ([] : List Int).length cT, .slice aP ([] : List Int).length cP] 117)
 have B2 := (B.step b).step bal
 have HZ2 := Lib.hid ((HZ.out.below b).below bal)
 have BG2 := Lib.hid ((BG.out.below b).below bal)
 have ZP2 : Hid (ZerP (w1.alloc (.cells #[.slice aF (List.replicate P k).length cF, .slice aT ([] : List Int).length cT, .slice aP ([] : List Int).length cP] 117)) w1.heap.size) := Lib.hid (ZerP.at3 w1 _ _ _ _)
 have BP2 : Hid (BoxPb (w1.alloc (.cells #[.slice aF (List.replicate P k).length cF, .slice aT ([] : List Int).length cT, .slice aP ([] : List Int).length cP] 117)) w1.heap.size (.slice aF (List.replicate P k).length cF) (.slice aT ([] : List Int).length cT) (.slice aP ([] : List Int).length cP)) := Lib.hid (BoxPb.at w1 _ _ _ _)
 have IS2 : Hid (PebIs (w1.alloc (.cells #[.slice aF (List.replicate P k).length cF, .slice aT ([] : List Int).length cT, .slice aP ([] : List Int).length cP] 117)) (.slice aF (List.replicate P k).length cF) (.slice aT ([] : List Int).length cT) (.slice aP ([] : List Int).length cP) (List.replicate P k, [], [])) := Lib.hid (P3.is.below bal)
 rw [List.length_replicate] at bal B2 HZ2 BG2 ZP2 BP2 IS2
 simp only [List.length_nil] at bal B2 HZ2 BG2 ZP2 BP2 IS2
 clear zBG fBG0 fBG1
 clear b P3
 go_upto_region 2 with (fail)
 generalize w1.alloc (.cells #[.slice aF P cF, .slice aT 0 cT, .slice aP 0 cP] 117) = w2 at *
 go_wp2_with fail
 refine (HR.out _).mono ?_
 rintro e w3 ⟨rfl, b⟩
 have B3 := B2.step b
 have HZ3 := Lib.hid (HZ2.out.below b)
 have BG3 := Lib.hid (BG2.out.below b)
 have ZP3 := Lib.hid (ZP2.out.below b)
 have BP3 := Lib.hid (BP2.out.below b)
 have IS3 := Lib.hid (IS2.out.below b)
 clear b B2 HZ2 BG2 ZP2 BP2 IS2 bal
 go_wp2_with fail
 go_loopw [10] (fun i wr => ∃ e : Nat, e ≤ l.length ∧ i = .int .i64 e ∧ (∃ vF vT vP, BoxPb wr w1.heap.size vF vT vP ∧ PebIs wr vF vT vP (playTo l l0 (List.replicate P k, [], []) e)) ∧ ZerP wr w1.heap.size ∧ ZerP wr (W.heap.size + 1) ∧ BoxGr wr W.heap.size P a l.length cap ∧ Below W.heap.size W wr) (fun i _ => l.length - (intOf i).toNat)
 case atStart => exact ⟨0, Nat.zero_le _, rfl, ⟨_, _, _, BP3.out, IS3.out⟩, ZP3.out, HZ3.out, BG3.out, B3⟩
 case round =>
  clear B3 HZ3 BG3 ZP3 BP3 IS3
  obtain ⟨e, he, rfl, ⟨vF, vT, vP, hbp, his⟩, hzp, hz, hbg, hbw⟩ := hrel
  have hI := HPT.out e he
  have HS := Lib.hid (@playTo_succ l l0 (List.replicate P k, [], []) e)
  have HEQ : Hid (e = l.length → playTo l l0 (List.replicate P k, [], []) e = playP P l k l0) := Lib.hid fun h => by unfold playP; rw [h]
  generalize playTo l l0 (List.replicate P k, [], []) e = S at *
  obtain ⟨aF, cF, rfl, -⟩ := his.iF
  obtain ⟨aT, cT, rfl, -⟩ := his.iT
  obtain ⟨aP, cP, rfl, -⟩ := his.iP
  have HI := Lib.hid hI
  have HIS := Lib.hid his
  have HZP := Lib.hid hzp
  have HZ := Lib.hid hz
  have BG := Lib.hid hbg
  obtain ⟨zp, bp0, bp1, bp2⟩ := hbp
  obtain ⟨zBG, fBG0, fBG1⟩ := hbg
  clear hI his hzp hz
  by_cases hlt : e < l.length
  ·have HC := Lib.hid (HPB.out wr hbw e hlt S HI.out _ _ _ HIS.out)
   rw [← HS.out] at HC
   go_wp2_with fail
   refine HC.out.mono ?_
   rintro r w4 ⟨v, ok, rfl, ⟨xF, xT, xP, rfl, P4⟩, b4⟩
   obtain ⟨S', hS'⟩ : ∃ S', S' = playTo l l0 (List.replicate P k, [], []) (e + 1) := ⟨_, rfl⟩
   rw [← hS'] at P4
   have HS' := Lib.hid hS'
   clear hS'
   obtain ⟨bF, dF, rfl, -⟩ := P4.oF.form
   obtain ⟨bT, dT, rfl, -⟩ := P4.oT.form
   obtain ⟨bP, dP, rfl, -⟩ := P4.oP.form
   have hZ4 := HZP.out.below b4
   have hL := PebC.lay (base := 0) P4 hZ4 (Nat.zero_le _) zp
   have BP5 : Hid (BoxPb _ w1.heap.size _ _ _) := Lib.hid ⟨hL.hi, hL.c0, hL.c1, hL.c2⟩
   have IS5 := Lib.hid hL.own.is
   have ZP5 := Lib.hid (ZerP.of hL)
   have hne : W.heap.size + 1 ≠ w1.heap.size := by omega
   have HZ5 := Lib.hid ((((HZ.out.below b4).kept (setKept (b := w1.heap.size) (j := 0) (x := .slice bF S'.1.length dF)) hne).kept (setKept (b := w1.heap.size) (j := 1) (x := .slice bT S'.2.1.length dT)) hne).kept (setKept (b := w1.heap.size) (j := 2) (x := .slice bP S'.2.2.length dP)) hne)
   have BG5 := Lib.hid ((((BG.out.below b4).kept (setKept (b := w1.heap.size) (j := 0) (x := .slice bF S'.1.length dF)) (by omega)).kept (setKept (b := w1.heap.size) (j := 1) (x := .slice bT S'.2.1.length dT)) (by omega)).kept (setKept (b := w1.heap.size) (j := 2) (x := .slice bP S'.2.2.length dP)) (by omega))
   have B5 := Lib.hid ((((hbw.step b4).setCell (p := ⟨w1.heap.size, 0, none⟩) (by simp <;> omega) (.slice bF S'.1.length dF)).setCell (p := ⟨w1.heap.size, 1, none⟩) (by simp <;> omega) (.slice bT S'.2.1.length dT)).setCell (p := ⟨w1.heap.size, 2, none⟩) (by simp <;> omega) (.slice bP S'.2.2.length dP))
   obtain ⟨⟨z0, z1, z2, y0, y1, y2⟩, ⟨g0, g1, g2⟩, gz⟩ := hZ4
   clear zp bp0 bp1 bp2 zBG fBG0 fBG1 hL P4 HC HIS HZP HZ BG
   go_wp2_with fail
   go_roundw
   case rel => exact ⟨e + 1, by omega, by go_num, ⟨_, _, _, BP5.out, by rw [← HS'.out]; exact IS5.out⟩, ZP5.out, HZ5.out, BG5.out, B5.out⟩
   case measure => simp [intOf]; omega
  ·have HSF := Lib.hid (HEQ.out (by omega))
   obtain ⟨⟨z0, z1, z2, y0, y1, y2⟩, ⟨g0, g1, g2⟩, gz⟩ := HZ.out
   have B5 := Lib.hid (((hbw.setCell (p := ⟨W.heap.size + 1, 0, none⟩) (by simp) (.slice aF S.1.length cF)).setCell (p := ⟨W.heap.size + 1, 1, none⟩) (by simp) (.slice aT S.2.1.length cT)).setCell (p := ⟨W.heap.size + 1, 2, none⟩) (by simp) (.slice aP S.2.2.length cP))
   go_wp2_with fail
   exact bodyPost_ret (v := .tuple #[.agg #[.slice aF S.1.length cF, .slice aT S.2.1.length cT, .slice aP S.2.2.length cP], .bool true]) (by simp [results, Tryz.results109, go_sem, gz, y0, y1, y2]) rfl ⟨_, rfl, (congrArg (fun s : PebT => AggP (.agg #[.slice aF S.1.length cF, .slice aT S.2.1.length cT, .slice aP S.2.2.length cP]) s.2.2.length) HSF.out).mp ⟨_, _, _, _, _, _, _, _, rfl⟩, B5.out⟩

set_option maxHeartbeats 4000000 in
theorem specRank_at (W : World) (p : Int) (a : Option Addr) (cap : Nat) (l : List BarT) (h : BarsAt W a l.length l) (hs : l.length ≤ 1048576) (k l0 : Int) : Calls Tryz.prog 81 #[.agg #[.int .i64 p, .slice a l.length cap], .int .i64 k, .int .i64 l0] W fun e w' => e = .returned (.int .i64 (rankG (p, l) k l0)) ∧ Below W.heap.size W w' := by
 have hwd := @Wd.cells
 have HGr : Hid (IsGraph W (.agg #[.int .i64 p, .slice a l.length cap]) (p, l)) := Lib.hid ⟨a, cap, rfl, h⟩
 have H1 := Lib.hid h
 clear h
 have hsz : szGraph (p, l) ≤ 1048576 := hs
 have hsz2 : szGraph (p, l) ≤ 1099511627776 := Nat.le_trans hsz (by decide)
 have B : Below W.heap.size W (W.alloc (.cells #[.int .i64 p, .slice a l.length cap] 26)) := (Below.refl _ _).alloc (Nat.le_refl _) _
 have BG : Hid (BoxGr (W.alloc (.cells #[.int .i64 p, .slice a l.length cap] 26)) W.heap.size p a l.length cap) := Lib.hid (BoxGr.at rfl)
 have key : ∃ (ok : Bool) (m : Nat), (∀ w, Below W.heap.size W w → Calls Tryz.prog 109 #[.agg #[.int .i64 p, .slice a l.length cap], .int .i64 k, .int .i64 l0] w (RetRs w m ok)) ∧ rankG (p, l) k l0 = if ok = true then (m : Int) else -1 := by
  cases hr : runOk (p, l) k l0
  ·exact ⟨false, 0, fun w b => specRun_no w p a cap l (H1.out.below b) hs k l0 hr, by unfold rankG; rw [hr]; rfl⟩
  ·exact ⟨true, _, fun w b => specRun_yes w p a cap l (H1.out.below b) hs k l0 hr, by unfold rankG; rw [if_pos hr, if_pos rfl]⟩
 obtain ⟨ok, m, hC, hE⟩ := key
 have HC := Lib.hid hC
 cases ok
 ·have HE := Lib.hid (show rankG (p, l) k l0 = -1 from hE)
  clear hC hE
  go_enter Tryz.func81, Tryz.ntmps81
  go_wp2_with fail
  generalize (W.alloc (.cells #[.int .i64 p, .slice a l.length cap] 26)) = u at *
  obtain ⟨zBG, fBG0, fBG1⟩ := BG.out
  go_wp2_with fail
  refine (HC.out _ B).mono ?_
  rintro e w1 ⟨v, rfl, ⟨aF, nF, cF, aT, nT, cT, aP, cP, rfl⟩, b⟩
  have B2 := (B.step b).step (belAl w1 (.cells #[.slice aF nF cF, .slice aT nT cT, .slice aP m cP] 117))
  clear zBG fBG0 fBG1
  clear b
  go_wp2_with fail
  go_ret
  exact ⟨by rw [HE.out]; try rfl, B2⟩
 ·have HE := Lib.hid (show rankG (p, l) k l0 = (m : Int) from hE)
  clear hC hE
  go_enter Tryz.func81, Tryz.ntmps81
  go_wp2_with fail
  generalize (W.alloc (.cells #[.int .i64 p, .slice a l.length cap] 26)) = u at *
  obtain ⟨zBG, fBG0, fBG1⟩ := BG.out
  go_wp2_with fail
  refine (HC.out _ B).mono ?_
  rintro e w1 ⟨v, rfl, ⟨aF, nF, cF, aT, nT, cT, aP, cP, rfl⟩, b⟩
  have B2 := (B.step b).step (belAl w1 (.cells #[.slice aF nF cF, .slice aT nT cT, .slice aP m cP] 117))
  clear zBG fBG0 fBG1
  clear b
  go_wp2_with fail
  go_ret
  exact ⟨by rw [HE.out]; try rfl, B2⟩
end Go.Proofs.YtfbmpkdjhhcnpaaGreat


