/- The law FnExactMoveJoint returns true: the walk, written by lawwalk2.py. No condition. -/
import Derived.Test.YtkjoeogoebpkjaaMvj
import Derived.Test.YtkjoeogoebpkjaaBxd
import Derived.Test.YtkjoeogoebpkjaaRdFw
import Derived.Test.YtkjoeogoebpkjaaRdPlace
import Derived.Test.YtkjoeogoebpkjaaRdInt
import Derived.Deep.RegionHeld3
namespace Go.Proofs.Ytkjoeogoebpkjaa
open Go.RowKit
set_option maxRecDepth 100000
set_option linter.unusedVariables false
set_option linter.unusedSimpArgs false

set_option maxHeartbeats 8000000 in
theorem walkFnExactMoveJoint (W : World) (v0 : Value) (x0 : FwT) (r0 : IsFw W v0 x0) (ok0 : OkFw x0) (v1 : Value) (x1 : Int) (r1 : IsInt W v1 x1) (ok1 : OkInt x1) (v2 : Value) (x2 : Int × Int) (r2 : IsPlace W v2 x2) (ok2 : OkPlace x2) :
    Calls Try.prog 10 #[v0, v1, v2] W fun e w' => e = .returned (.bool true) ∧ Below W.heap.size W w' := by
  obtain ⟨p0, l0, q0⟩ := x0
  obtain ⟨a0, cap0, c0, capc0, rfl, hi0, hj0⟩ := r0
  dsimp only at hi0 hj0
  have R0 : Hid (IsFw W (.agg #[.int .i64 p0, .slice a0 l0.length cap0, .slice c0 q0.length capc0]) (p0, l0, q0)) := Lib.hid ⟨a0, cap0, c0, capc0, rfl, hi0, hj0⟩
  clear hi0 hj0
  obtain rfl := r1
  obtain ⟨x2a, x2b⟩ := x2
  obtain rfl := r2
  dsimp only
  have BP0 : Hid (BoxFw ((W.alloc (.cells #[.int .i64 p0, .slice a0 l0.length cap0, .slice c0 q0.length capc0] 32)).alloc (.cells #[.int .i64 x2a, .int .i64 x2b] 54)) (W.heap.size) p0 a0 l0.length cap0 c0 q0.length capc0) := Lib.hid ((BoxFw.at (by simp)).below ((Below.refl _ _).alloc (Nat.le_refl _) _))
  have BP2 : Hid (BoxPl ((W.alloc (.cells #[.int .i64 p0, .slice a0 l0.length cap0, .slice c0 q0.length capc0] 32)).alloc (.cells #[.int .i64 x2a, .int .i64 x2b] 54)) (W.heap.size + 1) x2a x2b) := Lib.hid (BoxPl.at (by simp))
  have BB : Below W.heap.size W ((W.alloc (.cells #[.int .i64 p0, .slice a0 l0.length cap0, .slice c0 q0.length capc0] 32)).alloc (.cells #[.int .i64 x2a, .int .i64 x2b] 54)) := ((Below.refl W.heap.size W).alloc (by simp <;> omega) _).alloc (by simp <;> omega) _
  have hzu : ((W.alloc (.cells #[.int .i64 p0, .slice a0 l0.length cap0, .slice c0 q0.length capc0] 32)).alloc (.cells #[.int .i64 x2a, .int .i64 x2b] 54)).heap.size = W.heap.size + 2 := by simp
  by_cases hbig0 : 1048576 < szFw (p0, l0, q0)
  · go_enter Try.func10, Try.ntmps10
    have B := BB
    go_wp2_with fail
    generalize ((W.alloc (.cells #[.int .i64 p0, .slice a0 l0.length cap0, .slice c0 q0.length capc0] 32)).alloc (.cells #[.int .i64 x2a, .int .i64 x2b] 54)) = u0 at *
    obtain ⟨zBP0, fBP00, fBP01, fBP02⟩ := BP0.out
    obtain ⟨zBP2, fBP20, fBP21⟩ := BP2.out
    refine (szFw_h _ _ (p0, l0, q0) (1048576) (R0.out.below B) ok0 (by omega) (by omega)).mono ?_
    rintro e w1 ⟨rfl, b⟩
    have hzw1 := b.size
    clear zBP0 fBP00 fBP01 fBP02 zBP2 fBP20 fBP21
    replace B := B.step b
    replace BP0 := Lib.hid (BP0.out.below b)
    replace BP2 := Lib.hid (BP2.out.below b)
    clear b
    obtain ⟨zBP0, fBP00, fBP01, fBP02⟩ := BP0.out
    obtain ⟨zBP2, fBP20, fBP21⟩ := BP2.out
    rw [szRes_pos (by omega)]
    go_wp2_with fail
    go_ret
    exact ⟨rfl, B⟩
  have hsm0 : szFw (p0, l0, q0) ≤ 1048576 := by omega
  have hcnt0 := cntFw_le (p0, l0, q0)
  obtain ⟨⟨pr, lr, qr⟩, hR⟩ : ∃ R, R = mvjF (p0, l0, q0) x1 (x2a, x2b) := ⟨_, rfl⟩
  obtain ⟨okr, hO⟩ : ∃ o, o = mvjOk (p0, l0, q0) x1 (x2a, x2b) := ⟨_, rfl⟩
  have hres : szFw (pr, lr, qr) ≤ 1048576 := Nat.le_trans (Nat.le_of_eq (by rw [hR, mvjF_sz])) hsm0
  have hcntr := cntFw_le (pr, lr, qr)
  have HRES := Lib.hid hR
  have HOKR := Lib.hid hO
  clear hR hO
  go_enter Try.func10, Try.ntmps10
  have B := BB
  go_wp2_with fail
  generalize ((W.alloc (.cells #[.int .i64 p0, .slice a0 l0.length cap0, .slice c0 q0.length capc0] 32)).alloc (.cells #[.int .i64 x2a, .int .i64 x2b] 54)) = u0 at *
  obtain ⟨zBP0, fBP00, fBP01, fBP02⟩ := BP0.out
  obtain ⟨zBP2, fBP20, fBP21⟩ := BP2.out
  refine (szFw_h _ _ (p0, l0, q0) (1048576) (R0.out.below B) ok0 (by omega) (by omega)).mono ?_
  rintro e w1 ⟨rfl, b⟩
  have hzw1 := b.size
  clear zBP0 fBP00 fBP01 fBP02 zBP2 fBP20 fBP21
  replace B := B.step b
  replace BP0 := Lib.hid (BP0.out.below b)
  replace BP2 := Lib.hid (BP2.out.below b)
  clear b
  obtain ⟨zBP0, fBP00, fBP01, fBP02⟩ := BP0.out
  obtain ⟨zBP2, fBP20, fBP21⟩ := BP2.out
  rw [szRes_neg (by omega)]
  go_wp2_with fail
  clear zBP0 fBP00 fBP01 fBP02 zBP2 fBP20 fBP21
  have KEEP := Lib.hid (show ∀ w', Below w1.heap.size w1 w' → w'.cell? ⟨W.heap.size, 0, none⟩ = some (.int .i64 p0) ∧ w'.cell? ⟨W.heap.size, 1, none⟩ = some (.slice a0 l0.length cap0) ∧ w'.cell? ⟨W.heap.size, 2, none⟩ = some (.slice c0 q0.length capc0) ∧ w'.cell? ⟨W.heap.size + 1, 0, none⟩ = some (.int .i64 x2a) ∧ w'.cell? ⟨W.heap.size + 1, 1, none⟩ = some (.int .i64 x2b) from fun w' hb => ⟨(BP0.out.below hb).c0, (BP0.out.below hb).c1, (BP0.out.below hb).c2, (BP2.out.below hb).c0, (BP2.out.below hb).c1⟩)
  have bd0 : Below w1.heap.size w1 w1 := Below.refl _ _
  have hbz : W.heap.size ≤ w1.heap.size := B.size
  go_cut [8, 9] (fun s8 s9 wx => s9 = .bool okr ∧ CutFw w1 pr lr qr s8 wx)
  case first =>
    have tk1 := True.intro
    have tk2 := True.intro
    have tk3 := True.intro
    go_region_held3 (fun w' => w'.cell? ⟨W.heap.size, 0, none⟩ = some (.int .i64 p0) ∧ w'.cell? ⟨W.heap.size, 1, none⟩ = some (.slice a0 l0.length cap0) ∧ w'.cell? ⟨W.heap.size, 2, none⟩ = some (.slice c0 q0.length capc0) ∧ w'.cell? ⟨W.heap.size + 1, 0, none⟩ = some (.int .i64 x2a) ∧ w'.cell? ⟨W.heap.size + 1, 1, none⟩ = some (.int .i64 x2b))
      (first | (exact KEEP.out _ (by repeat' (first | (with_reducible assumption) | (with_reducible exact Below.refl _ _) | (with_reducible refine Below.drew ?_) | (with_reducible refine Below.alloc ?_ (by first | omega | (simp; done) | (simp; omega)) _) | (with_reducible refine Below.setCell ?_ (by first | omega | (simp; done) | (simp; omega)) _)))) | (go_keep))
      (first
        | (clear tk1; go_at_call 24; refine (toFw_h _ _ (p0, l0, q0) (R0.out.below (B.step (by repeat' (first | (with_reducible assumption) | (with_reducible exact Below.refl _ _) | (with_reducible refine Below.drew ?_) | (with_reducible refine Below.alloc ?_ (by first | omega | (simp; done) | (simp; omega)) _) | (with_reducible refine Below.setCell ?_ (by first | omega | (simp; done) | (simp; omega)) _))))) hsm0).mono ?_; rintro e wA0 ⟨yA0, rfl, o0, b⟩; have hzwA0 := b.size; have bn0 : Below w1.heap.size w1 wA0 := Below.step (by repeat' (first | (with_reducible assumption) | (with_reducible exact Below.refl _ _) | (with_reducible refine Below.drew ?_) | (with_reducible refine Below.alloc ?_ (by first | omega | (simp; done) | (simp; omega)) _) | (with_reducible refine Below.setCell ?_ (by first | omega | (simp; done) | (simp; omega)) _))) b; have hn0 := bn0.size; have HF0 := Lib.hid o0.h; clear o0; have bs0 : Below wA0.heap.size wA0 wA0 := Below.refl _ _; (try (first | (replace HZZ := Lib.hid (HZZ.out.below b)) | (have HZZ := Lib.hid ((Zer3.at _ _).below b)) | (have HZZ := Lib.hid ((Zer3.drew (Zer3.at _ _)).below b)))); (try clear zc0 zc1 zc2 zf0 zf1 zf2 zg zq0 zq1 zq2 zc3); (try obtain ⟨⟨zq0, zq1, zq2, zc0, zc1, zc2⟩, ⟨zf0, zf1, zf2⟩, zg⟩ := HZZ.out); clear b)
        | (clear tk2; go_at_call 42; refine (toPlace_any _ _ _).mono ?_; rintro e wA1 ⟨rfl, b⟩; have hzwA1 := b.size; have bn1 : Below w1.heap.size w1 wA1 := Below.step (by repeat' (first | (with_reducible assumption) | (with_reducible exact Below.refl _ _) | (with_reducible refine Below.drew ?_) | (with_reducible refine Below.alloc ?_ (by first | omega | (simp; done) | (simp; omega)) _) | (with_reducible refine Below.setCell ?_ (by first | omega | (simp; done) | (simp; omega)) _))) b; have hn1 := bn1.size; (try have bf01 : Below wA0.heap.size wA0 wA1 := Below.step (by repeat' (first | (with_reducible assumption) | (with_reducible exact Below.refl _ _) | (with_reducible refine Below.drew ?_) | (with_reducible refine Below.alloc ?_ (by first | omega | (simp; done) | (simp; omega)) _) | (with_reducible refine Below.setCell ?_ (by first | omega | (simp; done) | (simp; omega)) _))) b); (try (first | (replace HZZ := Lib.hid (HZZ.out.below b)) | (have HZZ := Lib.hid ((Zer3.at _ _).below b)) | (have HZZ := Lib.hid ((Zer3.drew (Zer3.at _ _)).below b)))); (try clear zc0 zc1 zc2 zf0 zf1 zf2 zg zq0 zq1 zq2 zc3); (try obtain ⟨⟨zq0, zq1, zq2, zc0, zc1, zc2⟩, ⟨zf0, zf1, zf2⟩, zg⟩ := HZZ.out); clear b)
        | (clear tk3; go_at_call 41; refine (spec_MoveJoint _ _ (p0, l0, q0) (HF0.out.below (by repeat' (first | (with_reducible assumption) | (with_reducible exact Below.refl _ _) | (with_reducible refine Below.drew ?_) | (with_reducible refine Below.alloc ?_ (by first | omega | (simp; done) | (simp; omega)) _) | (with_reducible refine Below.setCell ?_ (by first | omega | (simp; done) | (simp; omega)) _)))).is x1 (x2a, x2b) hsm0).mono ?_; rintro e wM ⟨vf, rfl, oM, b⟩; rw [← HOKR.out]; rw [← HRES.out] at oM; obtain ⟨vb, vp, ⟨abw, cbw, apw, cpw, rfl, rfl, rfl⟩, ob, op⟩ := oM.h; clear oM; have HM := Lib.hid (show HFw wM _ wM.heap.size (.agg #[.int .i64 pr, .slice abw lr.length cbw, .slice apw qr.length cpw]) (pr, lr, qr) from ⟨_, _, ⟨abw, cbw, apw, cpw, rfl, rfl, rfl⟩, ob, op⟩); clear ob op; have hzM := b.size; have bM : Below w1.heap.size w1 wM := Below.step (by repeat' (first | (with_reducible assumption) | (with_reducible exact Below.refl _ _) | (with_reducible refine Below.drew ?_) | (with_reducible refine Below.alloc ?_ (by first | omega | (simp; done) | (simp; omega)) _) | (with_reducible refine Below.setCell ?_ (by first | omega | (simp; done) | (simp; omega)) _))) b; have hnM := bM.size; have hlM := (show Below w1.heap.size w1 _ from (by repeat' (first | (with_reducible assumption) | (with_reducible exact Below.refl _ _) | (with_reducible refine Below.drew ?_) | (with_reducible refine Below.alloc ?_ (by first | omega | (simp; done) | (simp; omega)) _) | (with_reducible refine Below.setCell ?_ (by first | omega | (simp; done) | (simp; omega)) _)))).size; (try (first | (replace HZZ := Lib.hid (HZZ.out.below b)) | (have HZZ := Lib.hid ((Zer3.at _ _).below b)) | (have HZZ := Lib.hid ((Zer3.drew (Zer3.at _ _)).below b)))); (try clear zc0 zc1 zc2 zf0 zf1 zf2 zg zq0 zq1 zq2 zc3); (try obtain ⟨⟨zq0, zq1, zq2, zc0, zc1, zc2⟩, ⟨zf0, zf1, zf2⟩, zg⟩ := HZZ.out); clear b; dsimp only)
        | fail)
    all_goals
      go_wp2_with fail
      go_meet
      refine ⟨rfl, ?_⟩
      first
        | with_reducible exact cutA HZZ.out HM.out (by first | omega | (simp; done) | (simp; omega)) (by first | omega | (simp; done) | (simp; omega)) (by first | omega | (simp; done) | (simp; omega)) (by first | omega | (simp; done) | (simp; omega)) (by first | omega | (simp; done) | (simp; omega)) bM
        | with_reducible exact cutB _ HM.out (by first | omega | (simp; done) | (simp; omega)) (by first | omega | (simp; done) | (simp; omega)) (by first | omega | (simp; done) | (simp; omega)) bM
        | with_reducible exact cutC _ HM.out (by first | omega | (simp; done) | (simp; omega)) (by first | omega | (simp; done) | (simp; omega)) (by first | omega | (simp; done) | (simp; omega)) bM
  case rest =>
    obtain ⟨rfl, gw, abw, cbw, apw, cpw, low, hiw, rfl, HBX, hob, hsepw, hlow, hlhw, hhzw, hgw, b⟩ := hcut
    obtain ⟨w2, hwE⟩ : ∃ wE, wE = wc := ⟨_, rfl⟩
    subst hwE
    have hzw2 := b.size
    clear KEEP bd0
    replace B := B.step b
    replace BP0 := Lib.hid (BP0.out.below b)
    replace BP2 := Lib.hid (BP2.out.below b)
    clear b
    have ow0 := hob
    clear hob
    have hgzw := HBX.1
    have BW0 := Lib.hid HBX
    clear HBX
    obtain ⟨zBP0, fBP00, fBP01, fBP02⟩ := BP0.out
    obtain ⟨zBP2, fBP20, fBP21⟩ := BP2.out
    obtain ⟨zBW0, fBW00, fBW01, fBW02⟩ := BW0.out
    go_wp2_with fail
    refine (toFw_h _ _ (p0, l0, q0) (R0.out.below B) hsm0).mono ?_
    rintro e w3 ⟨yx, rfl, o0, b⟩
    obtain ⟨vb, vp, ⟨ab0, cb0, ap0, cp0, rfl, rfl, rfl⟩, ob, op⟩ := o0.h
    clear o0
    have hzw3 := b.size
    clear zBP0 fBP00 fBP01 fBP02 zBP2 fBP20 fBP21 zBW0 fBW00 fBW01 fBW02
    replace B := B.step b
    replace BP0 := Lib.hid (BP0.out.below b)
    replace BP2 := Lib.hid (BP2.out.below b)
    replace BW0 := Lib.hid (BW0.out.below b)
    replace ow0 := ow0.below b
    clear b
    have ox0 : HFw w3 w2.heap.size w3.heap.size (.agg #[.int .i64 p0, .slice ab0 l0.length cb0, .slice ap0 q0.length cp0]) (p0, l0, q0) := ⟨_, _, ⟨ab0, cb0, ap0, cp0, rfl, rfl, rfl⟩, ob, op⟩
    clear ob op
    dsimp only
    obtain ⟨zBP0, fBP00, fBP01, fBP02⟩ := BP0.out
    obtain ⟨zBP2, fBP20, fBP21⟩ := BP2.out
    obtain ⟨zBW0, fBW00, fBW01, fBW02⟩ := BW0.out
    go_wp2_with fail
    clear zBP0 fBP00 fBP01 fBP02 zBP2 fBP20 fBP21 zBW0 fBW00 fBW01 fBW02
    have ba : Below w3.heap.size w3 (w3.alloc (.cells #[.int .i64 p0, .slice ab0 l0.length cb0, .slice ap0 q0.length cp0] 42)) := (Below.refl _ _).alloc (Nat.le_refl _) _
    have hzu3 : (w3.alloc (.cells #[.int .i64 p0, .slice ab0 l0.length cb0, .slice ap0 q0.length cp0] 42)).heap.size ≤ w3.heap.size + 1 := by simp
    have hyu3 : w3.heap.size + 1 ≤ (w3.alloc (.cells #[.int .i64 p0, .slice ab0 l0.length cb0, .slice ap0 q0.length cp0] 42)).heap.size := by simp
    replace B := B.step ba
    replace BP0 := Lib.hid (BP0.out.below ba)
    replace BP2 := Lib.hid (BP2.out.below ba)
    replace BW0 := Lib.hid (BW0.out.below ba)
    replace ow0 := ow0.below ba
    replace ox0 := ox0.below ba
    clear ba
    have BX0 : Hid (BoxFw (w3.alloc (.cells #[.int .i64 p0, .slice ab0 l0.length cb0, .slice ap0 q0.length cp0] 42)) (w3.heap.size) p0 ab0 l0.length cb0 ap0 q0.length cp0) := Lib.hid (BoxFw.at rfl)
    generalize (w3.alloc (.cells #[.int .i64 p0, .slice ab0 l0.length cb0, .slice ap0 q0.length cp0] 42)) = u3 at *
    obtain ⟨zBP0, fBP00, fBP01, fBP02⟩ := BP0.out
    obtain ⟨zBP2, fBP20, fBP21⟩ := BP2.out
    obtain ⟨zBW0, fBW00, fBW01, fBW02⟩ := BW0.out
    obtain ⟨zBX0, fBX00, fBX01, fBX02⟩ := BX0.out
    clear zBP0 fBP00 fBP01 fBP02 zBP2 fBP20 fBP21 zBW0 fBW00 fBW01 fBW02 zBX0 fBX00 fBX01 fBX02
    have KEEP := Lib.hid (show ∀ w', Below u3.heap.size u3 w' → w'.cell? ⟨W.heap.size + 1, 0, none⟩ = some (.int .i64 x2a) ∧ w'.cell? ⟨W.heap.size + 1, 1, none⟩ = some (.int .i64 x2b) ∧ w'.cell? ⟨w3.heap.size, 0, none⟩ = some (.int .i64 p0) ∧ w'.cell? ⟨w3.heap.size, 1, none⟩ = some (.slice ab0 l0.length cb0) ∧ w'.cell? ⟨w3.heap.size, 2, none⟩ = some (.slice ap0 q0.length cp0) from fun w' hb => ⟨(BP2.out.below hb).c0, (BP2.out.below hb).c1, (BX0.out.below hb).c0, (BX0.out.below hb).c1, (BX0.out.below hb).c2⟩)
    have bd0 : Below u3.heap.size u3 u3 := Below.refl _ _
    have hbz : W.heap.size ≤ u3.heap.size := B.size
    go_cut [11, 12] (fun s8 s9 wx => s9 = .bool okr ∧ CutFw u3 pr lr qr s8 wx)
    case first =>
      have tk1 := True.intro
      have tk2 := True.intro
      go_region_held3 (fun w' => w'.cell? ⟨W.heap.size + 1, 0, none⟩ = some (.int .i64 x2a) ∧ w'.cell? ⟨W.heap.size + 1, 1, none⟩ = some (.int .i64 x2b) ∧ w'.cell? ⟨w3.heap.size, 0, none⟩ = some (.int .i64 p0) ∧ w'.cell? ⟨w3.heap.size, 1, none⟩ = some (.slice ab0 l0.length cb0) ∧ w'.cell? ⟨w3.heap.size, 2, none⟩ = some (.slice ap0 q0.length cp0))
        (first | (exact KEEP.out _ (by repeat' (first | (with_reducible assumption) | (with_reducible exact Below.refl _ _) | (with_reducible refine Below.drew ?_) | (with_reducible refine Below.alloc ?_ (by first | omega | (simp; done) | (simp; omega)) _) | (with_reducible refine Below.setCell ?_ (by first | omega | (simp; done) | (simp; omega)) _)))) | (go_keep))
        (first
          | (clear tk1; go_at_call 42; refine (toPlace_any _ _ _).mono ?_; rintro e wA0 ⟨rfl, b⟩; have hzwA0 := b.size; have bn0 : Below u3.heap.size u3 wA0 := Below.step (by repeat' (first | (with_reducible assumption) | (with_reducible exact Below.refl _ _) | (with_reducible refine Below.drew ?_) | (with_reducible refine Below.alloc ?_ (by first | omega | (simp; done) | (simp; omega)) _) | (with_reducible refine Below.setCell ?_ (by first | omega | (simp; done) | (simp; omega)) _))) b; have hn0 := bn0.size; (try (first | (replace HZZ := Lib.hid (HZZ.out.below b)) | (have HZZ := Lib.hid ((Zer3.at _ _).below b)) | (have HZZ := Lib.hid ((Zer3.drew (Zer3.at _ _)).below b)))); (try clear zc0 zc1 zc2 zf0 zf1 zf2 zg zq0 zq1 zq2 zc3); (try obtain ⟨⟨zq0, zq1, zq2, zc0, zc1, zc2⟩, ⟨zf0, zf1, zf2⟩, zg⟩ := HZZ.out); clear b)
          | (clear tk2; go_at_call 43; refine (impl_MoveJoint _ _ (p0, l0, q0) (ox0.below (by repeat' (first | (with_reducible assumption) | (with_reducible exact Below.refl _ _) | (with_reducible refine Below.drew ?_) | (with_reducible refine Below.alloc ?_ (by first | omega | (simp; done) | (simp; omega)) _) | (with_reducible refine Below.setCell ?_ (by first | omega | (simp; done) | (simp; omega)) _)))).is x1 (x2a, x2b) hsm0).mono ?_; rintro e wM ⟨vf, rfl, oM, b⟩; rw [← HOKR.out]; rw [← HRES.out] at oM; obtain ⟨vb, vp, ⟨abw, cbw, apw, cpw, rfl, rfl, rfl⟩, ob, op⟩ := oM.h; clear oM; have HM := Lib.hid (show HFw wM _ wM.heap.size (.agg #[.int .i64 pr, .slice abw lr.length cbw, .slice apw qr.length cpw]) (pr, lr, qr) from ⟨_, _, ⟨abw, cbw, apw, cpw, rfl, rfl, rfl⟩, ob, op⟩); clear ob op; have hzM := b.size; have bM : Below u3.heap.size u3 wM := Below.step (by repeat' (first | (with_reducible assumption) | (with_reducible exact Below.refl _ _) | (with_reducible refine Below.drew ?_) | (with_reducible refine Below.alloc ?_ (by first | omega | (simp; done) | (simp; omega)) _) | (with_reducible refine Below.setCell ?_ (by first | omega | (simp; done) | (simp; omega)) _))) b; have hnM := bM.size; have hlM := (show Below u3.heap.size u3 _ from (by repeat' (first | (with_reducible assumption) | (with_reducible exact Below.refl _ _) | (with_reducible refine Below.drew ?_) | (with_reducible refine Below.alloc ?_ (by first | omega | (simp; done) | (simp; omega)) _) | (with_reducible refine Below.setCell ?_ (by first | omega | (simp; done) | (simp; omega)) _)))).size; (try (first | (replace HZZ := Lib.hid (HZZ.out.below b)) | (have HZZ := Lib.hid ((Zer3.at _ _).below b)) | (have HZZ := Lib.hid ((Zer3.drew (Zer3.at _ _)).below b)))); (try clear zc0 zc1 zc2 zf0 zf1 zf2 zg zq0 zq1 zq2 zc3); (try obtain ⟨⟨zq0, zq1, zq2, zc0, zc1, zc2⟩, ⟨zf0, zf1, zf2⟩, zg⟩ := HZZ.out); clear b; dsimp only)
          | fail)
      all_goals
        go_wp2_with fail
        go_meet
        refine ⟨rfl, ?_⟩
        first
          | with_reducible exact cutA HZZ.out HM.out (by first | omega | (simp; done) | (simp; omega)) (by first | omega | (simp; done) | (simp; omega)) (by first | omega | (simp; done) | (simp; omega)) (by first | omega | (simp; done) | (simp; omega)) (by first | omega | (simp; done) | (simp; omega)) bM
          | with_reducible exact cutB _ HM.out (by first | omega | (simp; done) | (simp; omega)) (by first | omega | (simp; done) | (simp; omega)) (by first | omega | (simp; done) | (simp; omega)) bM
          | with_reducible exact cutC _ HM.out (by first | omega | (simp; done) | (simp; omega)) (by first | omega | (simp; done) | (simp; omega)) (by first | omega | (simp; done) | (simp; omega)) bM
    case rest =>
      obtain ⟨rfl, gg, abg, cbg, apg, cpg, log, hig, rfl, HBX, hob, hsepg, hlog, hlhg, hhzg, hgg, b⟩ := hcut
      obtain ⟨w4, hwE⟩ : ∃ wE, wE = wc := ⟨_, rfl⟩
      subst hwE
      have hzw4 := b.size
      clear KEEP bd0
      replace B := B.step b
      replace BP0 := Lib.hid (BP0.out.below b)
      replace BP2 := Lib.hid (BP2.out.below b)
      replace BW0 := Lib.hid (BW0.out.below b)
      replace BX0 := Lib.hid (BX0.out.below b)
      replace ow0 := ow0.below b
      replace ox0 := ox0.below b
      clear b
      have og0 := hob
      clear hob
      have hgzg := HBX.1
      have BG0 := Lib.hid HBX
      clear HBX
      obtain ⟨zBP0, fBP00, fBP01, fBP02⟩ := BP0.out
      obtain ⟨zBP2, fBP20, fBP21⟩ := BP2.out
      obtain ⟨zBW0, fBW00, fBW01, fBW02⟩ := BW0.out
      obtain ⟨zBX0, fBX00, fBX01, fBX02⟩ := BX0.out
      obtain ⟨zBG0, fBG00, fBG01, fBG02⟩ := BG0.out
      go_wp2_with fail
      refine (eqFw_h _ _ _ _ og0.is ow0.is (by omega)).mono ?_
      rintro e w5 ⟨rfl, b⟩
      have hzw5 := b.size
      clear zBP0 fBP00 fBP01 fBP02 zBP2 fBP20 fBP21 zBW0 fBW00 fBW01 fBW02 zBX0 fBX00 fBX01 fBX02 zBG0 fBG00 fBG01 fBG02
      replace B := B.step b
      replace BP0 := Lib.hid (BP0.out.below b)
      replace BP2 := Lib.hid (BP2.out.below b)
      replace BW0 := Lib.hid (BW0.out.below b)
      replace BX0 := Lib.hid (BX0.out.below b)
      replace BG0 := Lib.hid (BG0.out.below b)
      replace ow0 := ow0.below b
      replace ox0 := ox0.below b
      replace og0 := og0.below b
      clear b
      obtain ⟨zBP0, fBP00, fBP01, fBP02⟩ := BP0.out
      obtain ⟨zBP2, fBP20, fBP21⟩ := BP2.out
      obtain ⟨zBW0, fBW00, fBW01, fBW02⟩ := BW0.out
      obtain ⟨zBX0, fBX00, fBX01, fBX02⟩ := BX0.out
      obtain ⟨zBG0, fBG00, fBG01, fBG02⟩ := BG0.out
      go_wp2_with fail
      have bd : Below w5.heap.size w5 w5.drew := (Below.refl _ _).drew
      have hzd5 := bd.size
      clear zBP0 fBP00 fBP01 fBP02 zBP2 fBP20 fBP21 zBW0 fBW00 fBW01 fBW02 zBX0 fBX00 fBX01 fBX02 zBG0 fBG00 fBG01 fBG02
      replace B := B.step bd
      replace BP0 := Lib.hid (BP0.out.below bd)
      replace BP2 := Lib.hid (BP2.out.below bd)
      replace BW0 := Lib.hid (BW0.out.below bd)
      replace BX0 := Lib.hid (BX0.out.below bd)
      replace BG0 := Lib.hid (BG0.out.below bd)
      replace ow0 := ow0.below bd
      replace ox0 := ox0.below bd
      replace og0 := og0.below bd
      clear bd
      have tk1 := True.intro
      have tk2 := True.intro
      go_region_held3 (fun w' => w'.cell? ⟨W.heap.size, 0, none⟩ = some (.int .i64 p0) ∧ w'.cell? ⟨W.heap.size, 1, none⟩ = some (.slice a0 l0.length cap0) ∧ w'.cell? ⟨W.heap.size, 2, none⟩ = some (.slice c0 q0.length capc0) ∧ w'.cell? ⟨w3.heap.size, 0, none⟩ = some (.int .i64 p0) ∧ w'.cell? ⟨w3.heap.size, 1, none⟩ = some (.slice ab0 l0.length cb0) ∧ w'.cell? ⟨w3.heap.size, 2, none⟩ = some (.slice ap0 q0.length cp0))
        (with_reducible exact ⟨BP0.out.c0, BP0.out.c1, BP0.out.c2, BX0.out.c0, BX0.out.c1, BX0.out.c2⟩)
        (first
          | (clear tk1; go_at_call 24; refine (toFw_h _ _ (p0, l0, q0) (R0.out.below B) hsm0).mono ?_; rintro e w6 ⟨yz0, rfl, o0, b⟩; have hzw6 := b.size; replace B := B.step b; replace BP0 := Lib.hid (BP0.out.below b); replace BP2 := Lib.hid (BP2.out.below b); replace BW0 := Lib.hid (BW0.out.below b); replace BX0 := Lib.hid (BX0.out.below b); replace BG0 := Lib.hid (BG0.out.below b); replace ow0 := ow0.below b; replace ox0 := ox0.below b; replace og0 := og0.below b; clear b; have oz0 := o0.h; clear o0)
          | (clear tk2; go_at_call 27; refine (eqFw_h _ _ _ _ ox0.is oz0.is (by omega)).mono ?_; rintro e w7 ⟨rfl, b⟩; have hzw7 := b.size; replace B := B.step b; replace BP0 := Lib.hid (BP0.out.below b); replace BP2 := Lib.hid (BP2.out.below b); replace BW0 := Lib.hid (BW0.out.below b); replace BX0 := Lib.hid (BX0.out.below b); replace BG0 := Lib.hid (BG0.out.below b); replace ow0 := ow0.below b; replace ox0 := ox0.below b; replace og0 := og0.below b; replace oz0 := oz0.below b; clear b))
      obtain ⟨zBP0, fBP00, fBP01, fBP02⟩ := BP0.out
      obtain ⟨zBP2, fBP20, fBP21⟩ := BP2.out
      obtain ⟨zBW0, fBW00, fBW01, fBW02⟩ := BW0.out
      obtain ⟨zBX0, fBX00, fBX01, fBX02⟩ := BX0.out
      obtain ⟨zBG0, fBG00, fBG01, fBG02⟩ := BG0.out
      clear oz0
      go_wp2_with fail
      refine (markFw_h _ _ _ _ _ _ ox0 (by omega) (by omega) (by omega)).mono ?_
      rintro e w8 ⟨rfl, o0, kk⟩
      have hzw8 := kk.size
      clear zBP0 fBP00 fBP01 fBP02 zBP2 fBP20 fBP21 zBW0 fBW00 fBW01 fBW02 zBX0 fBX00 fBX01 fBX02 zBG0 fBG00 fBG01 fBG02
      replace B := B.trans (kk.blk (by omega) (by omega))
      replace BP0 := Lib.hid (BP0.out.kept kk fun h3 => by have h4 := h3.1; have h5 := h3.2; omega)
      replace BP2 := Lib.hid (BP2.out.kept kk fun h3 => by have h4 := h3.1; have h5 := h3.2; omega)
      replace BW0 := Lib.hid (BW0.out.kept kk fun h3 => by have h4 := h3.1; have h5 := h3.2; omega)
      replace BX0 := Lib.hid (BX0.out.kept kk fun h3 => by have h4 := h3.1; have h5 := h3.2; omega)
      replace BG0 := Lib.hid (BG0.out.kept kk fun h3 => by have h4 := h3.1; have h5 := h3.2; omega)
      replace ow0 := ow0.kept kk fun k h1 h2 h3 => by have h4 := h3.1; have h5 := h3.2; omega
      replace og0 := og0.kept kk fun k h1 h2 h3 => by have h4 := h3.1; have h5 := h3.2; omega
      clear kk ox0
      have ox0 := o0
      clear o0
      obtain ⟨zBP0, fBP00, fBP01, fBP02⟩ := BP0.out
      obtain ⟨zBP2, fBP20, fBP21⟩ := BP2.out
      obtain ⟨zBW0, fBW00, fBW01, fBW02⟩ := BW0.out
      obtain ⟨zBX0, fBX00, fBX01, fBX02⟩ := BX0.out
      obtain ⟨zBG0, fBG00, fBG01, fBG02⟩ := BG0.out
      go_wp2_with fail
      refine (eqFw_h _ _ _ _ og0.is ow0.is (by omega)).mono ?_
      rintro e w9 ⟨rfl, b⟩
      have hzw9 := b.size
      clear zBP0 fBP00 fBP01 fBP02 zBP2 fBP20 fBP21 zBW0 fBW00 fBW01 fBW02 zBX0 fBX00 fBX01 fBX02 zBG0 fBG00 fBG01 fBG02
      replace B := B.step b
      replace BP0 := Lib.hid (BP0.out.below b)
      replace BP2 := Lib.hid (BP2.out.below b)
      replace BW0 := Lib.hid (BW0.out.below b)
      replace BX0 := Lib.hid (BX0.out.below b)
      replace BG0 := Lib.hid (BG0.out.below b)
      replace ow0 := ow0.below b
      replace ox0 := ox0.below b
      replace og0 := og0.below b
      clear b
      obtain ⟨zBP0, fBP00, fBP01, fBP02⟩ := BP0.out
      obtain ⟨zBP2, fBP20, fBP21⟩ := BP2.out
      obtain ⟨zBW0, fBW00, fBW01, fBW02⟩ := BW0.out
      obtain ⟨zBX0, fBX00, fBX01, fBX02⟩ := BX0.out
      obtain ⟨zBG0, fBG00, fBG01, fBG02⟩ := BG0.out
      go_wp2_with fail
      refine (markFw_h _ _ _ _ _ _ og0 (by omega) (by omega) (by omega)).mono ?_
      rintro e w10 ⟨rfl, o0, kk⟩
      have hzw10 := kk.size
      clear zBP0 fBP00 fBP01 fBP02 zBP2 fBP20 fBP21 zBW0 fBW00 fBW01 fBW02 zBX0 fBX00 fBX01 fBX02 zBG0 fBG00 fBG01 fBG02
      replace B := B.trans (kk.blk (by omega) (by omega))
      replace BP0 := Lib.hid (BP0.out.kept kk fun h3 => by have h4 := h3.1; have h5 := h3.2; omega)
      replace BP2 := Lib.hid (BP2.out.kept kk fun h3 => by have h4 := h3.1; have h5 := h3.2; omega)
      replace BW0 := Lib.hid (BW0.out.kept kk fun h3 => by have h4 := h3.1; have h5 := h3.2; omega)
      replace BX0 := Lib.hid (BX0.out.kept kk fun h3 => by have h4 := h3.1; have h5 := h3.2; omega)
      replace BG0 := Lib.hid (BG0.out.kept kk fun h3 => by have h4 := h3.1; have h5 := h3.2; omega)
      replace ow0 := ow0.kept kk fun k h1 h2 h3 => by have h4 := h3.1; have h5 := h3.2; omega
      replace ox0 := ox0.kept kk fun k h1 h2 h3 => by have h4 := h3.1; have h5 := h3.2; omega
      clear kk og0
      have og0 := o0
      clear o0
      obtain ⟨zBP0, fBP00, fBP01, fBP02⟩ := BP0.out
      obtain ⟨zBP2, fBP20, fBP21⟩ := BP2.out
      obtain ⟨zBW0, fBW00, fBW01, fBW02⟩ := BW0.out
      obtain ⟨zBX0, fBX00, fBX01, fBX02⟩ := BX0.out
      obtain ⟨zBG0, fBG00, fBG01, fBG02⟩ := BG0.out
      go_wp2_with fail
      refine (heldFw_h _ _ _ _ og0.is (by omega) (by omega) (by omega)).mono ?_
      rintro e w11 ⟨rfl, b⟩
      have hzw11 := b.size
      clear zBP0 fBP00 fBP01 fBP02 zBP2 fBP20 fBP21 zBW0 fBW00 fBW01 fBW02 zBX0 fBX00 fBX01 fBX02 zBG0 fBG00 fBG01 fBG02
      replace B := B.step b
      replace BP0 := Lib.hid (BP0.out.below b)
      replace BP2 := Lib.hid (BP2.out.below b)
      replace BW0 := Lib.hid (BW0.out.below b)
      replace BX0 := Lib.hid (BX0.out.below b)
      replace BG0 := Lib.hid (BG0.out.below b)
      replace ow0 := ow0.below b
      replace ox0 := ox0.below b
      replace og0 := og0.below b
      clear b
      obtain ⟨zBP0, fBP00, fBP01, fBP02⟩ := BP0.out
      obtain ⟨zBP2, fBP20, fBP21⟩ := BP2.out
      obtain ⟨zBW0, fBW00, fBW01, fBW02⟩ := BW0.out
      obtain ⟨zBX0, fBX00, fBX01, fBX02⟩ := BX0.out
      obtain ⟨zBG0, fBG00, fBG01, fBG02⟩ := BG0.out
      go_wp2_with fail
      clear zBP0 fBP00 fBP01 fBP02 zBP2 fBP20 fBP21 zBW0 fBW00 fBW01 fBW02 zBX0 fBX00 fBX01 fBX02 zBG0 fBG00 fBG01 fBG02
      have KEEP := Lib.hid (show ∀ w', Below w11.heap.size w11 w' → w'.cell? ⟨W.heap.size, 0, none⟩ = some (.int .i64 p0) ∧ w'.cell? ⟨W.heap.size, 1, none⟩ = some (.slice a0 l0.length cap0) ∧ w'.cell? ⟨W.heap.size, 2, none⟩ = some (.slice c0 q0.length capc0) ∧ w'.cell? ⟨W.heap.size + 1, 0, none⟩ = some (.int .i64 x2a) ∧ w'.cell? ⟨W.heap.size + 1, 1, none⟩ = some (.int .i64 x2b) from fun w' hb => ⟨(BP0.out.below hb).c0, (BP0.out.below hb).c1, (BP0.out.below hb).c2, (BP2.out.below hb).c0, (BP2.out.below hb).c1⟩)
      have bd0 : Below w11.heap.size w11 w11 := Below.refl _ _
      have hbz : W.heap.size ≤ w11.heap.size := B.size
      go_cut [16, 17] (fun s8 s9 wx => s9 = .bool okr ∧ CutFw w11 pr lr qr s8 wx)
      case first =>
        have tk1 := True.intro
        have tk2 := True.intro
        have tk3 := True.intro
        go_region_held3 (fun w' => w'.cell? ⟨W.heap.size, 0, none⟩ = some (.int .i64 p0) ∧ w'.cell? ⟨W.heap.size, 1, none⟩ = some (.slice a0 l0.length cap0) ∧ w'.cell? ⟨W.heap.size, 2, none⟩ = some (.slice c0 q0.length capc0) ∧ w'.cell? ⟨W.heap.size + 1, 0, none⟩ = some (.int .i64 x2a) ∧ w'.cell? ⟨W.heap.size + 1, 1, none⟩ = some (.int .i64 x2b))
          (first | (exact KEEP.out _ (by repeat' (first | (with_reducible assumption) | (with_reducible exact Below.refl _ _) | (with_reducible refine Below.drew ?_) | (with_reducible refine Below.alloc ?_ (by first | omega | (simp; done) | (simp; omega)) _) | (with_reducible refine Below.setCell ?_ (by first | omega | (simp; done) | (simp; omega)) _)))) | (go_keep))
          (first
            | (clear tk1; go_at_call 24; refine (toFw_h _ _ (p0, l0, q0) (R0.out.below (B.step (by repeat' (first | (with_reducible assumption) | (with_reducible exact Below.refl _ _) | (with_reducible refine Below.drew ?_) | (with_reducible refine Below.alloc ?_ (by first | omega | (simp; done) | (simp; omega)) _) | (with_reducible refine Below.setCell ?_ (by first | omega | (simp; done) | (simp; omega)) _))))) hsm0).mono ?_; rintro e wA0 ⟨yA0, rfl, o0, b⟩; have hzwA0 := b.size; have bn0 : Below w11.heap.size w11 wA0 := Below.step (by repeat' (first | (with_reducible assumption) | (with_reducible exact Below.refl _ _) | (with_reducible refine Below.drew ?_) | (with_reducible refine Below.alloc ?_ (by first | omega | (simp; done) | (simp; omega)) _) | (with_reducible refine Below.setCell ?_ (by first | omega | (simp; done) | (simp; omega)) _))) b; have hn0 := bn0.size; have HF0 := Lib.hid o0.h; clear o0; have bs0 : Below wA0.heap.size wA0 wA0 := Below.refl _ _; (try (first | (replace HZZ := Lib.hid (HZZ.out.below b)) | (have HZZ := Lib.hid ((Zer3.at _ _).below b)) | (have HZZ := Lib.hid ((Zer3.drew (Zer3.at _ _)).below b)))); (try clear zc0 zc1 zc2 zf0 zf1 zf2 zg zq0 zq1 zq2 zc3); (try obtain ⟨⟨zq0, zq1, zq2, zc0, zc1, zc2⟩, ⟨zf0, zf1, zf2⟩, zg⟩ := HZZ.out); clear b)
            | (clear tk2; go_at_call 42; refine (toPlace_any _ _ _).mono ?_; rintro e wA1 ⟨rfl, b⟩; have hzwA1 := b.size; have bn1 : Below w11.heap.size w11 wA1 := Below.step (by repeat' (first | (with_reducible assumption) | (with_reducible exact Below.refl _ _) | (with_reducible refine Below.drew ?_) | (with_reducible refine Below.alloc ?_ (by first | omega | (simp; done) | (simp; omega)) _) | (with_reducible refine Below.setCell ?_ (by first | omega | (simp; done) | (simp; omega)) _))) b; have hn1 := bn1.size; (try have bf01 : Below wA0.heap.size wA0 wA1 := Below.step (by repeat' (first | (with_reducible assumption) | (with_reducible exact Below.refl _ _) | (with_reducible refine Below.drew ?_) | (with_reducible refine Below.alloc ?_ (by first | omega | (simp; done) | (simp; omega)) _) | (with_reducible refine Below.setCell ?_ (by first | omega | (simp; done) | (simp; omega)) _))) b); (try (first | (replace HZZ := Lib.hid (HZZ.out.below b)) | (have HZZ := Lib.hid ((Zer3.at _ _).below b)) | (have HZZ := Lib.hid ((Zer3.drew (Zer3.at _ _)).below b)))); (try clear zc0 zc1 zc2 zf0 zf1 zf2 zg zq0 zq1 zq2 zc3); (try obtain ⟨⟨zq0, zq1, zq2, zc0, zc1, zc2⟩, ⟨zf0, zf1, zf2⟩, zg⟩ := HZZ.out); clear b)
            | (clear tk3; go_at_call 43; refine (impl_MoveJoint _ _ (p0, l0, q0) (HF0.out.below (by repeat' (first | (with_reducible assumption) | (with_reducible exact Below.refl _ _) | (with_reducible refine Below.drew ?_) | (with_reducible refine Below.alloc ?_ (by first | omega | (simp; done) | (simp; omega)) _) | (with_reducible refine Below.setCell ?_ (by first | omega | (simp; done) | (simp; omega)) _)))).is x1 (x2a, x2b) hsm0).mono ?_; rintro e wM ⟨vf, rfl, oM, b⟩; rw [← HOKR.out]; rw [← HRES.out] at oM; obtain ⟨vb, vp, ⟨abw, cbw, apw, cpw, rfl, rfl, rfl⟩, ob, op⟩ := oM.h; clear oM; have HM := Lib.hid (show HFw wM _ wM.heap.size (.agg #[.int .i64 pr, .slice abw lr.length cbw, .slice apw qr.length cpw]) (pr, lr, qr) from ⟨_, _, ⟨abw, cbw, apw, cpw, rfl, rfl, rfl⟩, ob, op⟩); clear ob op; have hzM := b.size; have bM : Below w11.heap.size w11 wM := Below.step (by repeat' (first | (with_reducible assumption) | (with_reducible exact Below.refl _ _) | (with_reducible refine Below.drew ?_) | (with_reducible refine Below.alloc ?_ (by first | omega | (simp; done) | (simp; omega)) _) | (with_reducible refine Below.setCell ?_ (by first | omega | (simp; done) | (simp; omega)) _))) b; have hnM := bM.size; have hlM := (show Below w11.heap.size w11 _ from (by repeat' (first | (with_reducible assumption) | (with_reducible exact Below.refl _ _) | (with_reducible refine Below.drew ?_) | (with_reducible refine Below.alloc ?_ (by first | omega | (simp; done) | (simp; omega)) _) | (with_reducible refine Below.setCell ?_ (by first | omega | (simp; done) | (simp; omega)) _)))).size; (try (first | (replace HZZ := Lib.hid (HZZ.out.below b)) | (have HZZ := Lib.hid ((Zer3.at _ _).below b)) | (have HZZ := Lib.hid ((Zer3.drew (Zer3.at _ _)).below b)))); (try clear zc0 zc1 zc2 zf0 zf1 zf2 zg zq0 zq1 zq2 zc3); (try obtain ⟨⟨zq0, zq1, zq2, zc0, zc1, zc2⟩, ⟨zf0, zf1, zf2⟩, zg⟩ := HZZ.out); clear b; dsimp only)
            | fail)
        all_goals
          go_wp2_with fail
          go_meet
          refine ⟨rfl, ?_⟩
          first
            | with_reducible exact cutA HZZ.out HM.out (by first | omega | (simp; done) | (simp; omega)) (by first | omega | (simp; done) | (simp; omega)) (by first | omega | (simp; done) | (simp; omega)) (by first | omega | (simp; done) | (simp; omega)) (by first | omega | (simp; done) | (simp; omega)) bM
            | with_reducible exact cutB _ HM.out (by first | omega | (simp; done) | (simp; omega)) (by first | omega | (simp; done) | (simp; omega)) (by first | omega | (simp; done) | (simp; omega)) bM
            | with_reducible exact cutC _ HM.out (by first | omega | (simp; done) | (simp; omega)) (by first | omega | (simp; done) | (simp; omega)) (by first | omega | (simp; done) | (simp; omega)) bM
      case rest =>
        obtain ⟨rfl, gh, abh, cbh, aph, cph, loh, hih, rfl, HBX, hob, hseph, hloh, hlhh, hhzh, hgh, b⟩ := hcut
        obtain ⟨w12, hwE⟩ : ∃ wE, wE = wc := ⟨_, rfl⟩
        subst hwE
        have hzw12 := b.size
        clear KEEP bd0
        replace B := B.step b
        replace BP0 := Lib.hid (BP0.out.below b)
        replace BP2 := Lib.hid (BP2.out.below b)
        replace BW0 := Lib.hid (BW0.out.below b)
        replace BX0 := Lib.hid (BX0.out.below b)
        replace BG0 := Lib.hid (BG0.out.below b)
        replace ow0 := ow0.below b
        replace ox0 := ox0.below b
        replace og0 := og0.below b
        clear b
        have oh0 := hob
        clear hob
        have hgzh := HBX.1
        have BH0 := Lib.hid HBX
        clear HBX
        obtain ⟨zBP0, fBP00, fBP01, fBP02⟩ := BP0.out
        obtain ⟨zBP2, fBP20, fBP21⟩ := BP2.out
        obtain ⟨zBW0, fBW00, fBW01, fBW02⟩ := BW0.out
        obtain ⟨zBX0, fBX00, fBX01, fBX02⟩ := BX0.out
        obtain ⟨zBG0, fBG00, fBG01, fBG02⟩ := BG0.out
        obtain ⟨zBH0, fBH00, fBH01, fBH02⟩ := BH0.out
        go_wp2_with fail
        refine (eqFw_h _ _ _ _ oh0.is ow0.is (by omega)).mono ?_
        rintro e w13 ⟨rfl, b⟩
        have hzw13 := b.size
        clear zBP0 fBP00 fBP01 fBP02 zBP2 fBP20 fBP21 zBW0 fBW00 fBW01 fBW02 zBX0 fBX00 fBX01 fBX02 zBG0 fBG00 fBG01 fBG02 zBH0 fBH00 fBH01 fBH02
        replace B := B.step b
        replace BP0 := Lib.hid (BP0.out.below b)
        replace BP2 := Lib.hid (BP2.out.below b)
        replace BW0 := Lib.hid (BW0.out.below b)
        replace BX0 := Lib.hid (BX0.out.below b)
        replace BG0 := Lib.hid (BG0.out.below b)
        replace BH0 := Lib.hid (BH0.out.below b)
        replace ow0 := ow0.below b
        replace ox0 := ox0.below b
        replace og0 := og0.below b
        replace oh0 := oh0.below b
        clear b
        obtain ⟨zBP0, fBP00, fBP01, fBP02⟩ := BP0.out
        obtain ⟨zBP2, fBP20, fBP21⟩ := BP2.out
        obtain ⟨zBW0, fBW00, fBW01, fBW02⟩ := BW0.out
        obtain ⟨zBX0, fBX00, fBX01, fBX02⟩ := BX0.out
        obtain ⟨zBG0, fBG00, fBG01, fBG02⟩ := BG0.out
        obtain ⟨zBH0, fBH00, fBH01, fBH02⟩ := BH0.out
        go_wp2_with fail
        refine (heldFw_h _ _ _ _ og0.is (by omega) (by omega) (by omega)).mono ?_
        rintro e w14 ⟨rfl, b⟩
        have hzw14 := b.size
        clear zBP0 fBP00 fBP01 fBP02 zBP2 fBP20 fBP21 zBW0 fBW00 fBW01 fBW02 zBX0 fBX00 fBX01 fBX02 zBG0 fBG00 fBG01 fBG02 zBH0 fBH00 fBH01 fBH02
        replace B := B.step b
        replace BP0 := Lib.hid (BP0.out.below b)
        replace BP2 := Lib.hid (BP2.out.below b)
        replace BW0 := Lib.hid (BW0.out.below b)
        replace BX0 := Lib.hid (BX0.out.below b)
        replace BG0 := Lib.hid (BG0.out.below b)
        replace BH0 := Lib.hid (BH0.out.below b)
        replace ow0 := ow0.below b
        replace ox0 := ox0.below b
        replace og0 := og0.below b
        replace oh0 := oh0.below b
        clear b
        obtain ⟨zBP0, fBP00, fBP01, fBP02⟩ := BP0.out
        obtain ⟨zBP2, fBP20, fBP21⟩ := BP2.out
        obtain ⟨zBW0, fBW00, fBW01, fBW02⟩ := BW0.out
        obtain ⟨zBX0, fBX00, fBX01, fBX02⟩ := BX0.out
        obtain ⟨zBG0, fBG00, fBG01, fBG02⟩ := BG0.out
        obtain ⟨zBH0, fBH00, fBH01, fBH02⟩ := BH0.out
        go_wp2_with fail
        go_ret
        exact ⟨rfl, B⟩
end Go.Proofs.Ytkjoeogoebpkjaa
