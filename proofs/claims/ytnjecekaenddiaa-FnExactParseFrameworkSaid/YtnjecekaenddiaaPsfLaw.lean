/- The law FnExactParseFramework returns true: the walk. Condition: none. -/
import Derived.Test.YtnjecekaenddiaaPfs
import Derived.Test.YtnjecekaenddiaaPfi
import Derived.Test.YtnjecekaenddiaaFwH
import Derived.Test.YtnjecekaenddiaaFwM
import Derived.Test.YtnjecekaenddiaaBox
import Derived.Test.YtnjecekaenddiaaRdStr
import Derived.Deep.RegionHeld3
namespace Go.Proofs.Ytnjecekaenddiaa
open Go.RowKit
set_option maxRecDepth 100000
set_option linter.unusedVariables false
set_option linter.unusedSimpArgs false

set_option maxHeartbeats 8000000 in
theorem walkFnExactParseFramework (W : World) (v0 : Value) (x0 : List UInt8) (r0 : IsStr W v0 x0) (ok0 : OkStr x0) :
    Calls Try.prog 5 #[v0] W fun e w' => e = .returned (.bool true) ∧ Below W.heap.size W w' := by
  obtain rfl := r0
  obtain ⟨S, hS⟩ : ∃ S, S = bs x0 := ⟨_, rfl⟩
  rw [← hS]
  have hss : S.size = x0.length := by rw [hS, bs_size]
  have HS := Lib.hid hS
  clear hS
  have B : Below W.heap.size W W := Below.refl _ _
  by_cases hbig : 1048576 < x0.length
  · have hbi : (1048576 : Int) < (x0.length : Int) := by omega
    go_enter Try.func5, Try.ntmps5
    go_wp2_with fail
    go_ret
    exact ⟨rfl, B⟩
  have hbi : ¬ (1048576 : Int) < (x0.length : Int) := by omega
  have HSP : Hid (∀ w, Calls Try.prog 17 #[.string S] w (RetPF w x0)) := Lib.hid fun w => spec_ParseFramework w S x0 HS.out (by omega)
  have HIM : Hid (∀ w, Calls Try.prog 18 #[.string S] w (RetPF w x0)) := Lib.hid fun w => impl_ParseFramework w S x0 HS.out (by omega)
  go_enter Try.func5, Try.ntmps5
  go_wp2_with fail
  refine (HSP.out _).mono ?_
  rintro e w1 ⟨v1, ⟨pr, lr, qr⟩, okr, rfl, o0, hokp, b⟩
  have hres := hokp.sz
  have hcntr := cntFw_le (pr, lr, qr)
  have HOKP := Lib.hid hokp
  have hok2 : (okr != okr) = false := by cases okr <;> rfl
  have hok3 : (okr == okr) = true := by cases okr <;> rfl
  clear hokp
  obtain ⟨vb, vp, ⟨abw, cbw, apw, cpw, rfl, rfl, rfl⟩, ob, op⟩ := o0.h
  clear o0
  have hzw1 := b.size
  replace B := B.step b
  clear b
  have ow0 : HFw w1 W.heap.size w1.heap.size (.agg #[.int .i64 pr, .slice abw lr.length cbw, .slice apw qr.length cpw]) (pr, lr, qr) := ⟨_, _, ⟨abw, cbw, apw, cpw, rfl, rfl, rfl⟩, ob, op⟩
  clear ob op
  dsimp only
  go_wp2_with fail
  have ba : Below w1.heap.size w1 (w1.alloc (.cells #[.int .i64 pr, .slice abw lr.length cbw, .slice apw qr.length cpw] 42)) := (Below.refl _ _).alloc (Nat.le_refl _) _
  have hzu1 : (w1.alloc (.cells #[.int .i64 pr, .slice abw lr.length cbw, .slice apw qr.length cpw] 42)).heap.size = w1.heap.size + 1 := by simp
  replace B := B.step ba
  replace ow0 := ow0.below ba
  clear ba
  have BW : Hid (BoxFw (w1.alloc (.cells #[.int .i64 pr, .slice abw lr.length cbw, .slice apw qr.length cpw] 42)) (w1.heap.size) pr abw lr.length cbw apw qr.length cpw) := Lib.hid (BoxFw.at rfl)
  generalize (w1.alloc (.cells #[.int .i64 pr, .slice abw lr.length cbw, .slice apw qr.length cpw] 42)) = u1 at *
  obtain ⟨zBW, fBW0, fBW1, fBW2⟩ := BW.out
  refine (HIM.out _).mono ?_
  rintro e w2 ⟨v2, ⟨p2, l2, q2⟩, ok2, rfl, o0, hokp, b⟩
  obtain ⟨he, he2⟩ := HOKP.out.uniq hokp
  subst he2
  clear hokp
  simp only [Prod.mk.injEq] at he
  obtain ⟨rfl, rfl, rfl⟩ := he
  obtain ⟨vb, vp, ⟨abg, cbg, apg, cpg, rfl, rfl, rfl⟩, ob, op⟩ := o0.h
  clear o0
  have hzw2 := b.size
  clear zBW fBW0 fBW1 fBW2
  replace B := B.step b
  replace BW := Lib.hid (BW.out.below b)
  replace ow0 := ow0.below b
  clear b
  have og0 : HFw w2 u1.heap.size w2.heap.size (.agg #[.int .i64 pr, .slice abg lr.length cbg, .slice apg qr.length cpg]) (pr, lr, qr) := ⟨_, _, ⟨abg, cbg, apg, cpg, rfl, rfl, rfl⟩, ob, op⟩
  clear ob op
  dsimp only
  obtain ⟨zBW, fBW0, fBW1, fBW2⟩ := BW.out
  go_wp2_with fail
  clear zBW fBW0 fBW1 fBW2
  have ba : Below w2.heap.size w2 (w2.alloc (.cells #[.int .i64 pr, .slice abg lr.length cbg, .slice apg qr.length cpg] 42)) := (Below.refl _ _).alloc (Nat.le_refl _) _
  have hzu2 : (w2.alloc (.cells #[.int .i64 pr, .slice abg lr.length cbg, .slice apg qr.length cpg] 42)).heap.size = w2.heap.size + 1 := by simp
  replace B := B.step ba
  replace BW := Lib.hid (BW.out.below ba)
  replace ow0 := ow0.below ba
  replace og0 := og0.below ba
  clear ba
  have BG : Hid (BoxFw (w2.alloc (.cells #[.int .i64 pr, .slice abg lr.length cbg, .slice apg qr.length cpg] 42)) (w2.heap.size) pr abg lr.length cbg apg qr.length cpg) := Lib.hid (BoxFw.at rfl)
  generalize (w2.alloc (.cells #[.int .i64 pr, .slice abg lr.length cbg, .slice apg qr.length cpg] 42)) = u2 at *
  obtain ⟨zBW, fBW0, fBW1, fBW2⟩ := BW.out
  obtain ⟨zBG, fBG0, fBG1, fBG2⟩ := BG.out
  refine (eqFw_h _ _ _ _ og0.is ow0.is (by omega)).mono ?_
  rintro e w3 ⟨rfl, b⟩
  have hzw3 := b.size
  clear zBW fBW0 fBW1 fBW2 zBG fBG0 fBG1 fBG2
  replace B := B.step b
  replace BW := Lib.hid (BW.out.below b)
  replace BG := Lib.hid (BG.out.below b)
  replace ow0 := ow0.below b
  replace og0 := og0.below b
  clear b
  obtain ⟨zBW, fBW0, fBW1, fBW2⟩ := BW.out
  obtain ⟨zBG, fBG0, fBG1, fBG2⟩ := BG.out
  go_wp2_with fail
  refine (markFw_h _ _ _ _ _ _ og0 (by omega) (by omega) (by omega)).mono ?_
  rintro e w4 ⟨rfl, o0, b⟩
  have hzw4 := b.size
  clear zBW fBW0 fBW1 fBW2 zBG fBG0 fBG1 fBG2
  replace B := B.trans (b.blk (by omega) (by omega))
  replace BW := Lib.hid (BW.out.kept b fun h3 => by have h4 := h3.1; have h5 := h3.2; omega)
  replace BG := Lib.hid (BG.out.kept b fun h3 => by have h4 := h3.1; have h5 := h3.2; omega)
  replace ow0 := ow0.kept b fun k h1 h2 h3 => by have h4 := h3.1; have h5 := h3.2; omega
  clear b og0
  have og0 := o0
  clear o0
  obtain ⟨zBW, fBW0, fBW1, fBW2⟩ := BW.out
  obtain ⟨zBG, fBG0, fBG1, fBG2⟩ := BG.out
  go_wp2_with fail
  refine (heldFw_h _ _ _ _ og0.is (by omega) (by omega) (by omega)).mono ?_
  rintro e w5 ⟨rfl, b⟩
  have hzw5 := b.size
  clear zBW fBW0 fBW1 fBW2 zBG fBG0 fBG1 fBG2
  replace B := B.step b
  replace BW := Lib.hid (BW.out.below b)
  replace BG := Lib.hid (BG.out.below b)
  replace ow0 := ow0.below b
  replace og0 := og0.below b
  clear b
  obtain ⟨zBW, fBW0, fBW1, fBW2⟩ := BW.out
  obtain ⟨zBG, fBG0, fBG1, fBG2⟩ := BG.out
  go_wp2_with fail
  refine (HIM.out _).mono ?_
  rintro e w6 ⟨v2, ⟨p2, l2, q2⟩, ok2, rfl, o0, hokp, b⟩
  obtain ⟨he, he2⟩ := HOKP.out.uniq hokp
  subst he2
  clear hokp
  simp only [Prod.mk.injEq] at he
  obtain ⟨rfl, rfl, rfl⟩ := he
  obtain ⟨vb, vp, ⟨abh, cbh, aph, cph, rfl, rfl, rfl⟩, ob, op⟩ := o0.h
  clear o0
  have hzw6 := b.size
  clear zBW fBW0 fBW1 fBW2 zBG fBG0 fBG1 fBG2
  replace B := B.step b
  replace BW := Lib.hid (BW.out.below b)
  replace BG := Lib.hid (BG.out.below b)
  replace ow0 := ow0.below b
  replace og0 := og0.below b
  clear b
  have oh0 : HFw w6 w5.heap.size w6.heap.size (.agg #[.int .i64 pr, .slice abh lr.length cbh, .slice aph qr.length cph]) (pr, lr, qr) := ⟨_, _, ⟨abh, cbh, aph, cph, rfl, rfl, rfl⟩, ob, op⟩
  clear ob op
  dsimp only
  obtain ⟨zBW, fBW0, fBW1, fBW2⟩ := BW.out
  obtain ⟨zBG, fBG0, fBG1, fBG2⟩ := BG.out
  go_wp2_with fail
  clear zBW fBW0 fBW1 fBW2 zBG fBG0 fBG1 fBG2
  have ba : Below w6.heap.size w6 (w6.alloc (.cells #[.int .i64 pr, .slice abh lr.length cbh, .slice aph qr.length cph] 42)) := (Below.refl _ _).alloc (Nat.le_refl _) _
  have hzu6 : (w6.alloc (.cells #[.int .i64 pr, .slice abh lr.length cbh, .slice aph qr.length cph] 42)).heap.size = w6.heap.size + 1 := by simp
  replace B := B.step ba
  replace BW := Lib.hid (BW.out.below ba)
  replace BG := Lib.hid (BG.out.below ba)
  replace ow0 := ow0.below ba
  replace og0 := og0.below ba
  replace oh0 := oh0.below ba
  clear ba
  have BH : Hid (BoxFw (w6.alloc (.cells #[.int .i64 pr, .slice abh lr.length cbh, .slice aph qr.length cph] 42)) (w6.heap.size) pr abh lr.length cbh aph qr.length cph) := Lib.hid (BoxFw.at rfl)
  generalize (w6.alloc (.cells #[.int .i64 pr, .slice abh lr.length cbh, .slice aph qr.length cph] 42)) = u6 at *
  obtain ⟨zBW, fBW0, fBW1, fBW2⟩ := BW.out
  obtain ⟨zBG, fBG0, fBG1, fBG2⟩ := BG.out
  obtain ⟨zBH, fBH0, fBH1, fBH2⟩ := BH.out
  refine (eqFw_h _ _ _ _ oh0.is ow0.is (by omega)).mono ?_
  rintro e w7 ⟨rfl, b⟩
  have hzw7 := b.size
  clear zBW fBW0 fBW1 fBW2 zBG fBG0 fBG1 fBG2 zBH fBH0 fBH1 fBH2
  replace B := B.step b
  replace BW := Lib.hid (BW.out.below b)
  replace BG := Lib.hid (BG.out.below b)
  replace BH := Lib.hid (BH.out.below b)
  replace ow0 := ow0.below b
  replace og0 := og0.below b
  replace oh0 := oh0.below b
  clear b
  obtain ⟨zBW, fBW0, fBW1, fBW2⟩ := BW.out
  obtain ⟨zBG, fBG0, fBG1, fBG2⟩ := BG.out
  obtain ⟨zBH, fBH0, fBH1, fBH2⟩ := BH.out
  go_wp2_with fail
  refine (heldFw_h _ _ _ _ og0.is (by omega) (by omega) (by omega)).mono ?_
  rintro e w8 ⟨rfl, b⟩
  have hzw8 := b.size
  clear zBW fBW0 fBW1 fBW2 zBG fBG0 fBG1 fBG2 zBH fBH0 fBH1 fBH2
  replace B := B.step b
  replace BW := Lib.hid (BW.out.below b)
  replace BG := Lib.hid (BG.out.below b)
  replace BH := Lib.hid (BH.out.below b)
  replace ow0 := ow0.below b
  replace og0 := og0.below b
  replace oh0 := oh0.below b
  clear b
  obtain ⟨zBW, fBW0, fBW1, fBW2⟩ := BW.out
  obtain ⟨zBG, fBG0, fBG1, fBG2⟩ := BG.out
  obtain ⟨zBH, fBH0, fBH1, fBH2⟩ := BH.out
  go_wp2_with fail
  go_ret
  exact ⟨rfl, B⟩
end Go.Proofs.Ytnjecekaenddiaa
