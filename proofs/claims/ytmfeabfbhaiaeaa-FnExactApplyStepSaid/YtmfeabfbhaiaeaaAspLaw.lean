/- The law FnExactApplyStep returns true: the walk, written by lawwalk2.py. No condition. -/
import Derived.Test.YtmfeabfbhaiaeaaStb
import Derived.Test.YtmfeabfbhaiaeaaBxg
import Derived.Test.YtmfeabfbhaiaeaaRdStep
import Derived.Test.YtmfeabfbhaiaeaaRdFw
import Derived.Test.YtmfeabfbhaiaeaaBox
import Derived.Test.YtmfeabfbhaiaeaaFwH
import Derived.Test.YtmfeabfbhaiaeaaFwM
import Derived.Deep.RegionHeld3
namespace Go.Proofs.Ytmfeabfbhaiaeaa
open Go.RowKit
set_option maxRecDepth 100000
set_option linter.unusedVariables false
set_option linter.unusedSimpArgs false

set_option maxHeartbeats 8000000 in
theorem walkFnExactApplyStep (W : World) (v0 : Value) (x0 : GraphT) (r0 : IsGraph W v0 x0) (ok0 : OkGraph x0) (v1 : Value) (x1 : StepT) (r1 : IsStep W v1 x1) (ok1 : OkStep x1) :
    Calls Try.prog 5 #[v0, v1] W fun e w' => e = .returned (.bool true) ∧ Below W.heap.size W w' := by
  obtain ⟨p0, l0⟩ := x0
  obtain ⟨a0, cap0, rfl, hi0⟩ := r0
  dsimp only at hi0
  have R0 : Hid (IsGraph W (.agg #[.int .i64 p0, .slice a0 l0.length cap0]) (p0, l0)) := Lib.hid ⟨a0, cap0, rfl, hi0⟩
  clear hi0
  obtain ⟨x1a, x1b, x1c, x1d, x1e⟩ := x1
  obtain rfl := r1
  dsimp only
  have BP0 : Hid (BoxGr ((W.alloc (.cells #[.int .i64 p0, .slice a0 l0.length cap0] 24)).alloc (.cells #[.int .i64 x1a, .int .i64 x1b, .int .i64 x1c, .int .i64 x1d, .int .i64 x1e] 49)) (W.heap.size) p0 a0 l0.length cap0) := Lib.hid ((BoxGr.at (by simp)).below ((Below.refl _ _).alloc (Nat.le_refl _) _))
  have BP1 : Hid (BoxSt ((W.alloc (.cells #[.int .i64 p0, .slice a0 l0.length cap0] 24)).alloc (.cells #[.int .i64 x1a, .int .i64 x1b, .int .i64 x1c, .int .i64 x1d, .int .i64 x1e] 49)) (W.heap.size + 1) x1a x1b x1c x1d x1e) := Lib.hid (BoxSt.at (by simp))
  have BB : Below W.heap.size W ((W.alloc (.cells #[.int .i64 p0, .slice a0 l0.length cap0] 24)).alloc (.cells #[.int .i64 x1a, .int .i64 x1b, .int .i64 x1c, .int .i64 x1d, .int .i64 x1e] 49)) := ((Below.refl W.heap.size W).alloc (by simp <;> omega) _).alloc (by simp <;> omega) _
  have hzu : ((W.alloc (.cells #[.int .i64 p0, .slice a0 l0.length cap0] 24)).alloc (.cells #[.int .i64 x1a, .int .i64 x1b, .int .i64 x1c, .int .i64 x1d, .int .i64 x1e] 49)).heap.size = W.heap.size + 2 := by simp
  by_cases hbig0 : 1048576 < szGraph (p0, l0)
  · go_enter Try.func5, Try.ntmps5
    have B := BB
    go_wp2_with fail
    generalize ((W.alloc (.cells #[.int .i64 p0, .slice a0 l0.length cap0] 24)).alloc (.cells #[.int .i64 x1a, .int .i64 x1b, .int .i64 x1c, .int .i64 x1d, .int .i64 x1e] 49)) = u0 at *
    obtain ⟨zBP0, fBP00, fBP01⟩ := BP0.out
    obtain ⟨zBP1, fBP10, fBP11, fBP12, fBP13, fBP14⟩ := BP1.out
    refine (szGraph_h _ _ (p0, l0) (1048576) (R0.out.below B) ok0 (by omega) (by omega)).mono ?_
    rintro e w1 ⟨rfl, b⟩
    have hzw1 := b.size
    clear zBP0 fBP00 fBP01 zBP1 fBP10 fBP11 fBP12 fBP13 fBP14
    replace B := B.step b
    replace BP0 := Lib.hid (BP0.out.below b)
    replace BP1 := Lib.hid (BP1.out.below b)
    clear b
    obtain ⟨zBP0, fBP00, fBP01⟩ := BP0.out
    obtain ⟨zBP1, fBP10, fBP11, fBP12, fBP13, fBP14⟩ := BP1.out
    rw [szRes_pos (by omega)]
    go_wp2_with fail
    go_ret
    exact ⟨rfl, B⟩
  have hsm0 : szGraph (p0, l0) ≤ 1048576 := by omega
  have hcnt0 := cntGraph_le (p0, l0)
  obtain ⟨⟨pr, lr⟩, hR⟩ : ∃ R, R = (stepF (p0, l0) (x1a, x1b, x1c, x1d, x1e)).1 := ⟨_, rfl⟩
  obtain ⟨okr, hO⟩ : ∃ o, o = (stepF (p0, l0) (x1a, x1b, x1c, x1d, x1e)).2 := ⟨_, rfl⟩
  have hres : szGraph (pr, lr) ≤ 1048576 := hR ▸ stepF_sz _ _ hsm0
  have hcntr := cntGraph_le (pr, lr)
  have HRES := Lib.hid hR
  have HOKR := Lib.hid hO
  clear hR hO
  go_enter Try.func5, Try.ntmps5
  have B := BB
  go_wp2_with fail
  generalize ((W.alloc (.cells #[.int .i64 p0, .slice a0 l0.length cap0] 24)).alloc (.cells #[.int .i64 x1a, .int .i64 x1b, .int .i64 x1c, .int .i64 x1d, .int .i64 x1e] 49)) = u0 at *
  obtain ⟨zBP0, fBP00, fBP01⟩ := BP0.out
  obtain ⟨zBP1, fBP10, fBP11, fBP12, fBP13, fBP14⟩ := BP1.out
  refine (szGraph_h _ _ (p0, l0) (1048576) (R0.out.below B) ok0 (by omega) (by omega)).mono ?_
  rintro e w1 ⟨rfl, b⟩
  have hzw1 := b.size
  clear zBP0 fBP00 fBP01 zBP1 fBP10 fBP11 fBP12 fBP13 fBP14
  replace B := B.step b
  replace BP0 := Lib.hid (BP0.out.below b)
  replace BP1 := Lib.hid (BP1.out.below b)
  clear b
  obtain ⟨zBP0, fBP00, fBP01⟩ := BP0.out
  obtain ⟨zBP1, fBP10, fBP11, fBP12, fBP13, fBP14⟩ := BP1.out
  rw [szRes_neg (by omega)]
  go_wp2_with fail
  clear zBP0 fBP00 fBP01 zBP1 fBP10 fBP11 fBP12 fBP13 fBP14
  have KEEP := Lib.hid (show ∀ w', Below w1.heap.size w1 w' → w'.cell? ⟨W.heap.size, 0, none⟩ = some (.int .i64 p0) ∧ w'.cell? ⟨W.heap.size, 1, none⟩ = some (.slice a0 l0.length cap0) ∧ w'.cell? ⟨W.heap.size + 1, 0, none⟩ = some (.int .i64 x1a) ∧ w'.cell? ⟨W.heap.size + 1, 1, none⟩ = some (.int .i64 x1b) ∧ w'.cell? ⟨W.heap.size + 1, 2, none⟩ = some (.int .i64 x1c) ∧ w'.cell? ⟨W.heap.size + 1, 3, none⟩ = some (.int .i64 x1d) ∧ w'.cell? ⟨W.heap.size + 1, 4, none⟩ = some (.int .i64 x1e) from fun w' hb => ⟨(BP0.out.below hb).c0, (BP0.out.below hb).c1, (BP1.out.below hb).c0, (BP1.out.below hb).c1, (BP1.out.below hb).c2, (BP1.out.below hb).c3, (BP1.out.below hb).c4⟩)
  have bd0 : Below w1.heap.size w1 w1 := Below.refl _ _
  have hbz : W.heap.size ≤ w1.heap.size := B.size
  go_cut [6, 7] (fun s8 s9 wx => s9 = .bool okr ∧ CutGr w1 pr lr s8 wx)
  case first =>
    have tk1 := True.intro
    have tk2 := True.intro
    have tk3 := True.intro
    go_region_held3 (fun w' => w'.cell? ⟨W.heap.size, 0, none⟩ = some (.int .i64 p0) ∧ w'.cell? ⟨W.heap.size, 1, none⟩ = some (.slice a0 l0.length cap0) ∧ w'.cell? ⟨W.heap.size + 1, 0, none⟩ = some (.int .i64 x1a) ∧ w'.cell? ⟨W.heap.size + 1, 1, none⟩ = some (.int .i64 x1b) ∧ w'.cell? ⟨W.heap.size + 1, 2, none⟩ = some (.int .i64 x1c) ∧ w'.cell? ⟨W.heap.size + 1, 3, none⟩ = some (.int .i64 x1d) ∧ w'.cell? ⟨W.heap.size + 1, 4, none⟩ = some (.int .i64 x1e))
      (first | (exact KEEP.out _ (by repeat' (first | (with_reducible assumption) | (with_reducible exact Below.refl _ _) | (with_reducible refine Below.drew ?_) | (with_reducible refine Below.alloc ?_ (by first | omega | (simp; done) | (simp; omega)) _) | (with_reducible refine Below.setCell ?_ (by first | omega | (simp; done) | (simp; omega)) _)))) | (go_keep))
      (first
        | (clear tk1; go_at_call 15; refine (toGraph_h _ _ (p0, l0) (R0.out.below (B.step (by repeat' (first | (with_reducible assumption) | (with_reducible exact Below.refl _ _) | (with_reducible refine Below.drew ?_) | (with_reducible refine Below.alloc ?_ (by first | omega | (simp; done) | (simp; omega)) _) | (with_reducible refine Below.setCell ?_ (by first | omega | (simp; done) | (simp; omega)) _))))) hsm0).mono ?_; rintro e wA0 ⟨yA0, rfl, o0, b⟩; have hzwA0 := b.size; have bn0 : Below w1.heap.size w1 wA0 := Below.step (by repeat' (first | (with_reducible assumption) | (with_reducible exact Below.refl _ _) | (with_reducible refine Below.drew ?_) | (with_reducible refine Below.alloc ?_ (by first | omega | (simp; done) | (simp; omega)) _) | (with_reducible refine Below.setCell ?_ (by first | omega | (simp; done) | (simp; omega)) _))) b; have hn0 := bn0.size; have HF0 := Lib.hid o0.h; clear o0; have bs0 : Below wA0.heap.size wA0 wA0 := Below.refl _ _; (try (first | (replace HZZ := Lib.hid (HZZ.out.below b)) | (have HZZ := Lib.hid ((Zer2.at _ _).below b)) | (have HZZ := Lib.hid ((Zer2.drew (Zer2.at _ _)).below b)))); (try clear zc0 zc1 zf0 zf1 zg zq0 zq1 zq2); (try obtain ⟨⟨zq0, zq1, zq2, zc0, zc1⟩, ⟨zf0, zf1⟩, zg⟩ := HZZ.out); (try have hzg0 := zg); clear b)
        | (clear tk2; go_at_call 23; refine (toStep_any _ _ _ _ _ _).mono ?_; rintro e wA1 ⟨rfl, b⟩; have hzwA1 := b.size; have bn1 : Below w1.heap.size w1 wA1 := Below.step (by repeat' (first | (with_reducible assumption) | (with_reducible exact Below.refl _ _) | (with_reducible refine Below.drew ?_) | (with_reducible refine Below.alloc ?_ (by first | omega | (simp; done) | (simp; omega)) _) | (with_reducible refine Below.setCell ?_ (by first | omega | (simp; done) | (simp; omega)) _))) b; have hn1 := bn1.size; (try have bf01 : Below wA0.heap.size wA0 wA1 := Below.step (by repeat' (first | (with_reducible assumption) | (with_reducible exact Below.refl _ _) | (with_reducible refine Below.drew ?_) | (with_reducible refine Below.alloc ?_ (by first | omega | (simp; done) | (simp; omega)) _) | (with_reducible refine Below.setCell ?_ (by first | omega | (simp; done) | (simp; omega)) _))) b); (try (first | (replace HZZ := Lib.hid (HZZ.out.below b)) | (have HZZ := Lib.hid ((Zer2.at _ _).below b)) | (have HZZ := Lib.hid ((Zer2.drew (Zer2.at _ _)).below b)))); (try clear zc0 zc1 zf0 zf1 zg zq0 zq1 zq2); (try obtain ⟨⟨zq0, zq1, zq2, zc0, zc1⟩, ⟨zf0, zf1⟩, zg⟩ := HZZ.out); (try have hzg1 := zg); clear b)
        | (clear tk3; go_at_call 22; refine (spec_ApplyStep _ _ (p0, l0) ⟨_, _, HF0.out.below (by repeat' (first | (with_reducible assumption) | (with_reducible exact Below.refl _ _) | (with_reducible refine Below.drew ?_) | (with_reducible refine Below.alloc ?_ (by first | omega | (simp; done) | (simp; omega)) _) | (with_reducible refine Below.setCell ?_ (by first | omega | (simp; done) | (simp; omega)) _)))⟩ (x1a, x1b, x1c, x1d, x1e) hsm0).mono ?_; rintro e wM ⟨vf, rfl, oM, b⟩; rw [← HOKR.out]; rw [← HRES.out] at oM; obtain ⟨vb, ⟨abw, cbw, rfl, rfl⟩, ob⟩ := oM; dsimp only at ob; have HM := Lib.hid (show HGraph wM _ wM.heap.size (.agg #[.int .i64 pr, .slice abw lr.length cbw]) (pr, lr) from OwnGraph.h ⟨_, ⟨abw, cbw, rfl, rfl⟩, ob⟩); clear ob; have hzM := b.size; have bM : Below w1.heap.size w1 wM := Below.step (by repeat' (first | (with_reducible assumption) | (with_reducible exact Below.refl _ _) | (with_reducible refine Below.drew ?_) | (with_reducible refine Below.alloc ?_ (by first | omega | (simp; done) | (simp; omega)) _) | (with_reducible refine Below.setCell ?_ (by first | omega | (simp; done) | (simp; omega)) _))) b; have hnM := bM.size; have hlM := (show Below w1.heap.size w1 _ from (by repeat' (first | (with_reducible assumption) | (with_reducible exact Below.refl _ _) | (with_reducible refine Below.drew ?_) | (with_reducible refine Below.alloc ?_ (by first | omega | (simp; done) | (simp; omega)) _) | (with_reducible refine Below.setCell ?_ (by first | omega | (simp; done) | (simp; omega)) _)))).size; (try (first | (replace HZZ := Lib.hid (HZZ.out.below b)) | (have HZZ := Lib.hid ((Zer2.at _ _).below b)) | (have HZZ := Lib.hid ((Zer2.drew (Zer2.at _ _)).below b)))); (try clear zc0 zc1 zf0 zf1 zg zq0 zq1 zq2); (try obtain ⟨⟨zq0, zq1, zq2, zc0, zc1⟩, ⟨zf0, zf1⟩, zg⟩ := HZZ.out); clear b; dsimp only)
        | fail)
    all_goals
      go_wp2_with fail
      go_meet
      refine ⟨rfl, ?_⟩
      first
        | with_reducible exact cutA2 HZZ.out HM.out (by first | omega | (simp; done) | (simp; omega)) (by first | omega | (simp; done) | (simp; omega)) (by first | omega | (simp; done) | (simp; omega)) (by first | omega | (simp; done) | (simp; omega)) (by first | omega | (simp; done) | (simp; omega)) bM
        | with_reducible exact cutB2 _ HM.out (by first | omega | (simp; done) | (simp; omega)) (by first | omega | (simp; done) | (simp; omega)) (by first | omega | (simp; done) | (simp; omega)) bM
        | with_reducible exact cutC2 _ HM.out (by first | omega | (simp; done) | (simp; omega)) (by first | omega | (simp; done) | (simp; omega)) (by first | omega | (simp; done) | (simp; omega)) bM
  case rest =>
    obtain ⟨rfl, gw, abw, cbw, low, hiw, rfl, HBX, hob, hsepw, hlow, hlhw, hhzw, hgw, -, b⟩ := hcut
    obtain ⟨w2, hwE⟩ : ∃ wE, wE = wc := ⟨_, rfl⟩
    subst hwE
    have hzw2 := b.size
    clear KEEP bd0
    replace B := B.step b
    replace BP0 := Lib.hid (BP0.out.below b)
    replace BP1 := Lib.hid (BP1.out.below b)
    clear b
    have ow0 := hob
    clear hob
    have hgzw := HBX.1
    have BW0 := Lib.hid HBX
    clear HBX
    obtain ⟨zBP0, fBP00, fBP01⟩ := BP0.out
    obtain ⟨zBP1, fBP10, fBP11, fBP12, fBP13, fBP14⟩ := BP1.out
    obtain ⟨zBW0, fBW00, fBW01⟩ := BW0.out
    go_wp2_with fail
    refine (toGraph_h _ _ (p0, l0) (R0.out.below B) hsm0).mono ?_
    rintro e w3 ⟨yx, rfl, o0, b⟩
    obtain ⟨vb, ⟨ab0, cb0, rfl, rfl⟩, ob⟩ := o0.h
    clear o0
    have hzw3 := b.size
    clear zBP0 fBP00 fBP01 zBP1 fBP10 fBP11 fBP12 fBP13 fBP14 zBW0 fBW00 fBW01
    replace B := B.step b
    replace BP0 := Lib.hid (BP0.out.below b)
    replace BP1 := Lib.hid (BP1.out.below b)
    replace BW0 := Lib.hid (BW0.out.below b)
    replace ow0 := ow0.below b
    clear b
    have ox0 : HGraph w3 w2.heap.size w3.heap.size (.agg #[.int .i64 p0, .slice ab0 l0.length cb0]) (p0, l0) := ⟨_, ⟨ab0, cb0, rfl, rfl⟩, ob⟩
    clear ob
    dsimp only
    obtain ⟨zBP0, fBP00, fBP01⟩ := BP0.out
    obtain ⟨zBP1, fBP10, fBP11, fBP12, fBP13, fBP14⟩ := BP1.out
    obtain ⟨zBW0, fBW00, fBW01⟩ := BW0.out
    go_wp2_with fail
    clear zBP0 fBP00 fBP01 zBP1 fBP10 fBP11 fBP12 fBP13 fBP14 zBW0 fBW00 fBW01
    have ba : Below w3.heap.size w3 (w3.alloc (.cells #[.int .i64 p0, .slice ab0 l0.length cb0] 32)) := (Below.refl _ _).alloc (Nat.le_refl _) _
    have hzu3 : (w3.alloc (.cells #[.int .i64 p0, .slice ab0 l0.length cb0] 32)).heap.size ≤ w3.heap.size + 1 := by simp
    have hyu3 : w3.heap.size + 1 ≤ (w3.alloc (.cells #[.int .i64 p0, .slice ab0 l0.length cb0] 32)).heap.size := by simp
    replace B := B.step ba
    replace BP0 := Lib.hid (BP0.out.below ba)
    replace BP1 := Lib.hid (BP1.out.below ba)
    replace BW0 := Lib.hid (BW0.out.below ba)
    replace ow0 := ow0.below ba
    replace ox0 := ox0.below ba
    clear ba
    have BX0 : Hid (BoxGr (w3.alloc (.cells #[.int .i64 p0, .slice ab0 l0.length cb0] 32)) (w3.heap.size) p0 ab0 l0.length cb0) := Lib.hid (BoxGr.at rfl)
    generalize (w3.alloc (.cells #[.int .i64 p0, .slice ab0 l0.length cb0] 32)) = u3 at *
    obtain ⟨zBP0, fBP00, fBP01⟩ := BP0.out
    obtain ⟨zBP1, fBP10, fBP11, fBP12, fBP13, fBP14⟩ := BP1.out
    obtain ⟨zBW0, fBW00, fBW01⟩ := BW0.out
    obtain ⟨zBX0, fBX00, fBX01⟩ := BX0.out
    clear zBP0 fBP00 fBP01 zBP1 fBP10 fBP11 fBP12 fBP13 fBP14 zBW0 fBW00 fBW01 zBX0 fBX00 fBX01
    have KEEP := Lib.hid (show ∀ w', Below u3.heap.size u3 w' → w'.cell? ⟨W.heap.size + 1, 0, none⟩ = some (.int .i64 x1a) ∧ w'.cell? ⟨W.heap.size + 1, 1, none⟩ = some (.int .i64 x1b) ∧ w'.cell? ⟨W.heap.size + 1, 2, none⟩ = some (.int .i64 x1c) ∧ w'.cell? ⟨W.heap.size + 1, 3, none⟩ = some (.int .i64 x1d) ∧ w'.cell? ⟨W.heap.size + 1, 4, none⟩ = some (.int .i64 x1e) ∧ w'.cell? ⟨w3.heap.size, 0, none⟩ = some (.int .i64 p0) ∧ w'.cell? ⟨w3.heap.size, 1, none⟩ = some (.slice ab0 l0.length cb0) from fun w' hb => ⟨(BP1.out.below hb).c0, (BP1.out.below hb).c1, (BP1.out.below hb).c2, (BP1.out.below hb).c3, (BP1.out.below hb).c4, (BX0.out.below hb).c0, (BX0.out.below hb).c1⟩)
    have bd0 : Below u3.heap.size u3 u3 := Below.refl _ _
    have hbz : W.heap.size ≤ u3.heap.size := B.size
    go_cut [9, 10] (fun s8 s9 wx => s9 = .bool okr ∧ CutGr u3 pr lr s8 wx)
    case first =>
      have tk1 := True.intro
      have tk2 := True.intro
      go_region_held3 (fun w' => w'.cell? ⟨W.heap.size + 1, 0, none⟩ = some (.int .i64 x1a) ∧ w'.cell? ⟨W.heap.size + 1, 1, none⟩ = some (.int .i64 x1b) ∧ w'.cell? ⟨W.heap.size + 1, 2, none⟩ = some (.int .i64 x1c) ∧ w'.cell? ⟨W.heap.size + 1, 3, none⟩ = some (.int .i64 x1d) ∧ w'.cell? ⟨W.heap.size + 1, 4, none⟩ = some (.int .i64 x1e) ∧ w'.cell? ⟨w3.heap.size, 0, none⟩ = some (.int .i64 p0) ∧ w'.cell? ⟨w3.heap.size, 1, none⟩ = some (.slice ab0 l0.length cb0))
        (first | (exact KEEP.out _ (by repeat' (first | (with_reducible assumption) | (with_reducible exact Below.refl _ _) | (with_reducible refine Below.drew ?_) | (with_reducible refine Below.alloc ?_ (by first | omega | (simp; done) | (simp; omega)) _) | (with_reducible refine Below.setCell ?_ (by first | omega | (simp; done) | (simp; omega)) _)))) | (go_keep))
        (first
          | (clear tk1; go_at_call 23; refine (toStep_any _ _ _ _ _ _).mono ?_; rintro e wA0 ⟨rfl, b⟩; have hzwA0 := b.size; have bn0 : Below u3.heap.size u3 wA0 := Below.step (by repeat' (first | (with_reducible assumption) | (with_reducible exact Below.refl _ _) | (with_reducible refine Below.drew ?_) | (with_reducible refine Below.alloc ?_ (by first | omega | (simp; done) | (simp; omega)) _) | (with_reducible refine Below.setCell ?_ (by first | omega | (simp; done) | (simp; omega)) _))) b; have hn0 := bn0.size; (try (first | (replace HZZ := Lib.hid (HZZ.out.below b)) | (have HZZ := Lib.hid ((Zer2.at _ _).below b)) | (have HZZ := Lib.hid ((Zer2.drew (Zer2.at _ _)).below b)))); (try clear zc0 zc1 zf0 zf1 zg zq0 zq1 zq2); (try obtain ⟨⟨zq0, zq1, zq2, zc0, zc1⟩, ⟨zf0, zf1⟩, zg⟩ := HZZ.out); (try have hzg0 := zg); clear b)
          | (clear tk2; go_at_call 24; refine (impl_ApplyStep _ _ (p0, l0) (ox0.below (by repeat' (first | (with_reducible assumption) | (with_reducible exact Below.refl _ _) | (with_reducible refine Below.drew ?_) | (with_reducible refine Below.alloc ?_ (by first | omega | (simp; done) | (simp; omega)) _) | (with_reducible refine Below.setCell ?_ (by first | omega | (simp; done) | (simp; omega)) _)))).is (x1a, x1b, x1c, x1d, x1e) hsm0).mono ?_; rintro e wM ⟨vf, rfl, oM, b⟩; rw [← HOKR.out]; rw [← HRES.out] at oM; obtain ⟨vb, ⟨abw, cbw, rfl, rfl⟩, ob⟩ := oM; dsimp only at ob; have HM := Lib.hid (show HGraph wM _ wM.heap.size (.agg #[.int .i64 pr, .slice abw lr.length cbw]) (pr, lr) from OwnGraph.h ⟨_, ⟨abw, cbw, rfl, rfl⟩, ob⟩); clear ob; have hzM := b.size; have bM : Below u3.heap.size u3 wM := Below.step (by repeat' (first | (with_reducible assumption) | (with_reducible exact Below.refl _ _) | (with_reducible refine Below.drew ?_) | (with_reducible refine Below.alloc ?_ (by first | omega | (simp; done) | (simp; omega)) _) | (with_reducible refine Below.setCell ?_ (by first | omega | (simp; done) | (simp; omega)) _))) b; have hnM := bM.size; have hlM := (show Below u3.heap.size u3 _ from (by repeat' (first | (with_reducible assumption) | (with_reducible exact Below.refl _ _) | (with_reducible refine Below.drew ?_) | (with_reducible refine Below.alloc ?_ (by first | omega | (simp; done) | (simp; omega)) _) | (with_reducible refine Below.setCell ?_ (by first | omega | (simp; done) | (simp; omega)) _)))).size; (try (first | (replace HZZ := Lib.hid (HZZ.out.below b)) | (have HZZ := Lib.hid ((Zer2.at _ _).below b)) | (have HZZ := Lib.hid ((Zer2.drew (Zer2.at _ _)).below b)))); (try clear zc0 zc1 zf0 zf1 zg zq0 zq1 zq2); (try obtain ⟨⟨zq0, zq1, zq2, zc0, zc1⟩, ⟨zf0, zf1⟩, zg⟩ := HZZ.out); clear b; dsimp only)
          | fail)
      all_goals
        go_wp2_with fail
        go_meet
        refine ⟨rfl, ?_⟩
        first
          | with_reducible exact cutA2 HZZ.out HM.out (by first | omega | (simp; done) | (simp; omega)) (by first | omega | (simp; done) | (simp; omega)) (by first | omega | (simp; done) | (simp; omega)) (by first | omega | (simp; done) | (simp; omega)) (by first | omega | (simp; done) | (simp; omega)) bM
          | with_reducible exact cutB2 _ HM.out (by first | omega | (simp; done) | (simp; omega)) (by first | omega | (simp; done) | (simp; omega)) (by first | omega | (simp; done) | (simp; omega)) bM
          | with_reducible exact cutC2 _ HM.out (by first | omega | (simp; done) | (simp; omega)) (by first | omega | (simp; done) | (simp; omega)) (by first | omega | (simp; done) | (simp; omega)) bM
    case rest =>
      obtain ⟨rfl, gg, abg, cbg, log, hig, rfl, HBX, hob, hsepg, hlog, hlhg, hhzg, hgg, -, b⟩ := hcut
      obtain ⟨w4, hwE⟩ : ∃ wE, wE = wc := ⟨_, rfl⟩
      subst hwE
      have hzw4 := b.size
      clear KEEP bd0
      replace B := B.step b
      replace BP0 := Lib.hid (BP0.out.below b)
      replace BP1 := Lib.hid (BP1.out.below b)
      replace BW0 := Lib.hid (BW0.out.below b)
      replace BX0 := Lib.hid (BX0.out.below b)
      replace ow0 := ow0.below b
      replace ox0 := ox0.below b
      clear b
      have og0 := hob
      clear hob
      have hgzg := HBX.1
      have BG0 := Lib.hid HBX
      clear HBX
      obtain ⟨zBP0, fBP00, fBP01⟩ := BP0.out
      obtain ⟨zBP1, fBP10, fBP11, fBP12, fBP13, fBP14⟩ := BP1.out
      obtain ⟨zBW0, fBW00, fBW01⟩ := BW0.out
      obtain ⟨zBX0, fBX00, fBX01⟩ := BX0.out
      obtain ⟨zBG0, fBG00, fBG01⟩ := BG0.out
      go_wp2_with fail
      refine (eqGraph_h _ _ _ _ og0.is ow0.is (by omega)).mono ?_
      rintro e w5 ⟨rfl, b⟩
      have hzw5 := b.size
      clear zBP0 fBP00 fBP01 zBP1 fBP10 fBP11 fBP12 fBP13 fBP14 zBW0 fBW00 fBW01 zBX0 fBX00 fBX01 zBG0 fBG00 fBG01
      replace B := B.step b
      replace BP0 := Lib.hid (BP0.out.below b)
      replace BP1 := Lib.hid (BP1.out.below b)
      replace BW0 := Lib.hid (BW0.out.below b)
      replace BX0 := Lib.hid (BX0.out.below b)
      replace BG0 := Lib.hid (BG0.out.below b)
      replace ow0 := ow0.below b
      replace ox0 := ox0.below b
      replace og0 := og0.below b
      clear b
      obtain ⟨zBP0, fBP00, fBP01⟩ := BP0.out
      obtain ⟨zBP1, fBP10, fBP11, fBP12, fBP13, fBP14⟩ := BP1.out
      obtain ⟨zBW0, fBW00, fBW01⟩ := BW0.out
      obtain ⟨zBX0, fBX00, fBX01⟩ := BX0.out
      obtain ⟨zBG0, fBG00, fBG01⟩ := BG0.out
      go_wp2_with fail
      have bd : Below w5.heap.size w5 w5.drew := (Below.refl _ _).drew
      have hzd5 := bd.size
      clear zBP0 fBP00 fBP01 zBP1 fBP10 fBP11 fBP12 fBP13 fBP14 zBW0 fBW00 fBW01 zBX0 fBX00 fBX01 zBG0 fBG00 fBG01
      replace B := B.step bd
      replace BP0 := Lib.hid (BP0.out.below bd)
      replace BP1 := Lib.hid (BP1.out.below bd)
      replace BW0 := Lib.hid (BW0.out.below bd)
      replace BX0 := Lib.hid (BX0.out.below bd)
      replace BG0 := Lib.hid (BG0.out.below bd)
      replace ow0 := ow0.below bd
      replace ox0 := ox0.below bd
      replace og0 := og0.below bd
      clear bd
      have tk1 := True.intro
      have tk2 := True.intro
      go_region_held3 (fun w' => w'.cell? ⟨W.heap.size, 0, none⟩ = some (.int .i64 p0) ∧ w'.cell? ⟨W.heap.size, 1, none⟩ = some (.slice a0 l0.length cap0) ∧ w'.cell? ⟨w3.heap.size, 0, none⟩ = some (.int .i64 p0) ∧ w'.cell? ⟨w3.heap.size, 1, none⟩ = some (.slice ab0 l0.length cb0))
        (with_reducible exact ⟨BP0.out.c0, BP0.out.c1, BX0.out.c0, BX0.out.c1⟩)
        (first
          | (clear tk1; go_at_call 15; refine (toGraph_h _ _ (p0, l0) (R0.out.below B) hsm0).mono ?_; rintro e w6 ⟨yz0, rfl, o0, b⟩; have hzw6 := b.size; replace B := B.step b; replace BP0 := Lib.hid (BP0.out.below b); replace BP1 := Lib.hid (BP1.out.below b); replace BW0 := Lib.hid (BW0.out.below b); replace BX0 := Lib.hid (BX0.out.below b); replace BG0 := Lib.hid (BG0.out.below b); replace ow0 := ow0.below b; replace ox0 := ox0.below b; replace og0 := og0.below b; clear b; have oz0 := o0.h; clear o0)
          | (clear tk2; go_at_call 18; refine (eqGraph_h _ _ _ _ ox0.is oz0.is (by omega)).mono ?_; rintro e w7 ⟨rfl, b⟩; have hzw7 := b.size; replace B := B.step b; replace BP0 := Lib.hid (BP0.out.below b); replace BP1 := Lib.hid (BP1.out.below b); replace BW0 := Lib.hid (BW0.out.below b); replace BX0 := Lib.hid (BX0.out.below b); replace BG0 := Lib.hid (BG0.out.below b); replace ow0 := ow0.below b; replace ox0 := ox0.below b; replace og0 := og0.below b; replace oz0 := oz0.below b; clear b))
      obtain ⟨zBP0, fBP00, fBP01⟩ := BP0.out
      obtain ⟨zBP1, fBP10, fBP11, fBP12, fBP13, fBP14⟩ := BP1.out
      obtain ⟨zBW0, fBW00, fBW01⟩ := BW0.out
      obtain ⟨zBX0, fBX00, fBX01⟩ := BX0.out
      obtain ⟨zBG0, fBG00, fBG01⟩ := BG0.out
      clear oz0
      go_wp2_with fail
      refine (markGraph_h _ _ _ _ _ _ ox0 (by omega) (by omega) (by omega)).mono ?_
      rintro e w8 ⟨rfl, o0, kk⟩
      have hzw8 := kk.size
      clear zBP0 fBP00 fBP01 zBP1 fBP10 fBP11 fBP12 fBP13 fBP14 zBW0 fBW00 fBW01 zBX0 fBX00 fBX01 zBG0 fBG00 fBG01
      replace B := B.trans (kk.blk (by omega) (by omega))
      replace BP0 := Lib.hid (BP0.out.kept kk fun h3 => by have h4 := h3.1; have h5 := h3.2; omega)
      replace BP1 := Lib.hid (BP1.out.kept kk fun h3 => by have h4 := h3.1; have h5 := h3.2; omega)
      replace BW0 := Lib.hid (BW0.out.kept kk fun h3 => by have h4 := h3.1; have h5 := h3.2; omega)
      replace BX0 := Lib.hid (BX0.out.kept kk fun h3 => by have h4 := h3.1; have h5 := h3.2; omega)
      replace BG0 := Lib.hid (BG0.out.kept kk fun h3 => by have h4 := h3.1; have h5 := h3.2; omega)
      replace ow0 := ow0.kept kk fun k h1 h2 h3 => by have h4 := h3.1; have h5 := h3.2; omega
      replace og0 := og0.kept kk fun k h1 h2 h3 => by have h4 := h3.1; have h5 := h3.2; omega
      clear kk ox0
      have ox0 := o0
      clear o0
      obtain ⟨zBP0, fBP00, fBP01⟩ := BP0.out
      obtain ⟨zBP1, fBP10, fBP11, fBP12, fBP13, fBP14⟩ := BP1.out
      obtain ⟨zBW0, fBW00, fBW01⟩ := BW0.out
      obtain ⟨zBX0, fBX00, fBX01⟩ := BX0.out
      obtain ⟨zBG0, fBG00, fBG01⟩ := BG0.out
      go_wp2_with fail
      refine (eqGraph_h _ _ _ _ og0.is ow0.is (by omega)).mono ?_
      rintro e w9 ⟨rfl, b⟩
      have hzw9 := b.size
      clear zBP0 fBP00 fBP01 zBP1 fBP10 fBP11 fBP12 fBP13 fBP14 zBW0 fBW00 fBW01 zBX0 fBX00 fBX01 zBG0 fBG00 fBG01
      replace B := B.step b
      replace BP0 := Lib.hid (BP0.out.below b)
      replace BP1 := Lib.hid (BP1.out.below b)
      replace BW0 := Lib.hid (BW0.out.below b)
      replace BX0 := Lib.hid (BX0.out.below b)
      replace BG0 := Lib.hid (BG0.out.below b)
      replace ow0 := ow0.below b
      replace ox0 := ox0.below b
      replace og0 := og0.below b
      clear b
      obtain ⟨zBP0, fBP00, fBP01⟩ := BP0.out
      obtain ⟨zBP1, fBP10, fBP11, fBP12, fBP13, fBP14⟩ := BP1.out
      obtain ⟨zBW0, fBW00, fBW01⟩ := BW0.out
      obtain ⟨zBX0, fBX00, fBX01⟩ := BX0.out
      obtain ⟨zBG0, fBG00, fBG01⟩ := BG0.out
      go_wp2_with fail
      refine (markGraph_h _ _ _ _ _ _ og0 (by omega) (by omega) (by omega)).mono ?_
      rintro e w10 ⟨rfl, o0, kk⟩
      have hzw10 := kk.size
      clear zBP0 fBP00 fBP01 zBP1 fBP10 fBP11 fBP12 fBP13 fBP14 zBW0 fBW00 fBW01 zBX0 fBX00 fBX01 zBG0 fBG00 fBG01
      replace B := B.trans (kk.blk (by omega) (by omega))
      replace BP0 := Lib.hid (BP0.out.kept kk fun h3 => by have h4 := h3.1; have h5 := h3.2; omega)
      replace BP1 := Lib.hid (BP1.out.kept kk fun h3 => by have h4 := h3.1; have h5 := h3.2; omega)
      replace BW0 := Lib.hid (BW0.out.kept kk fun h3 => by have h4 := h3.1; have h5 := h3.2; omega)
      replace BX0 := Lib.hid (BX0.out.kept kk fun h3 => by have h4 := h3.1; have h5 := h3.2; omega)
      replace BG0 := Lib.hid (BG0.out.kept kk fun h3 => by have h4 := h3.1; have h5 := h3.2; omega)
      replace ow0 := ow0.kept kk fun k h1 h2 h3 => by have h4 := h3.1; have h5 := h3.2; omega
      replace ox0 := ox0.kept kk fun k h1 h2 h3 => by have h4 := h3.1; have h5 := h3.2; omega
      clear kk og0
      have og0 := o0
      clear o0
      obtain ⟨zBP0, fBP00, fBP01⟩ := BP0.out
      obtain ⟨zBP1, fBP10, fBP11, fBP12, fBP13, fBP14⟩ := BP1.out
      obtain ⟨zBW0, fBW00, fBW01⟩ := BW0.out
      obtain ⟨zBX0, fBX00, fBX01⟩ := BX0.out
      obtain ⟨zBG0, fBG00, fBG01⟩ := BG0.out
      go_wp2_with fail
      refine (heldGraph_h _ _ _ _ og0.is (by omega) (by omega) (by omega)).mono ?_
      rintro e w11 ⟨rfl, b⟩
      have hzw11 := b.size
      clear zBP0 fBP00 fBP01 zBP1 fBP10 fBP11 fBP12 fBP13 fBP14 zBW0 fBW00 fBW01 zBX0 fBX00 fBX01 zBG0 fBG00 fBG01
      replace B := B.step b
      replace BP0 := Lib.hid (BP0.out.below b)
      replace BP1 := Lib.hid (BP1.out.below b)
      replace BW0 := Lib.hid (BW0.out.below b)
      replace BX0 := Lib.hid (BX0.out.below b)
      replace BG0 := Lib.hid (BG0.out.below b)
      replace ow0 := ow0.below b
      replace ox0 := ox0.below b
      replace og0 := og0.below b
      clear b
      obtain ⟨zBP0, fBP00, fBP01⟩ := BP0.out
      obtain ⟨zBP1, fBP10, fBP11, fBP12, fBP13, fBP14⟩ := BP1.out
      obtain ⟨zBW0, fBW00, fBW01⟩ := BW0.out
      obtain ⟨zBX0, fBX00, fBX01⟩ := BX0.out
      obtain ⟨zBG0, fBG00, fBG01⟩ := BG0.out
      go_wp2_with fail
      clear zBP0 fBP00 fBP01 zBP1 fBP10 fBP11 fBP12 fBP13 fBP14 zBW0 fBW00 fBW01 zBX0 fBX00 fBX01 zBG0 fBG00 fBG01
      have KEEP := Lib.hid (show ∀ w', Below w11.heap.size w11 w' → w'.cell? ⟨W.heap.size, 0, none⟩ = some (.int .i64 p0) ∧ w'.cell? ⟨W.heap.size, 1, none⟩ = some (.slice a0 l0.length cap0) ∧ w'.cell? ⟨W.heap.size + 1, 0, none⟩ = some (.int .i64 x1a) ∧ w'.cell? ⟨W.heap.size + 1, 1, none⟩ = some (.int .i64 x1b) ∧ w'.cell? ⟨W.heap.size + 1, 2, none⟩ = some (.int .i64 x1c) ∧ w'.cell? ⟨W.heap.size + 1, 3, none⟩ = some (.int .i64 x1d) ∧ w'.cell? ⟨W.heap.size + 1, 4, none⟩ = some (.int .i64 x1e) from fun w' hb => ⟨(BP0.out.below hb).c0, (BP0.out.below hb).c1, (BP1.out.below hb).c0, (BP1.out.below hb).c1, (BP1.out.below hb).c2, (BP1.out.below hb).c3, (BP1.out.below hb).c4⟩)
      have bd0 : Below w11.heap.size w11 w11 := Below.refl _ _
      have hbz : W.heap.size ≤ w11.heap.size := B.size
      go_cut [14, 15] (fun s8 s9 wx => s9 = .bool okr ∧ CutGr w11 pr lr s8 wx)
      case first =>
        have tk1 := True.intro
        have tk2 := True.intro
        have tk3 := True.intro
        go_region_held3 (fun w' => w'.cell? ⟨W.heap.size, 0, none⟩ = some (.int .i64 p0) ∧ w'.cell? ⟨W.heap.size, 1, none⟩ = some (.slice a0 l0.length cap0) ∧ w'.cell? ⟨W.heap.size + 1, 0, none⟩ = some (.int .i64 x1a) ∧ w'.cell? ⟨W.heap.size + 1, 1, none⟩ = some (.int .i64 x1b) ∧ w'.cell? ⟨W.heap.size + 1, 2, none⟩ = some (.int .i64 x1c) ∧ w'.cell? ⟨W.heap.size + 1, 3, none⟩ = some (.int .i64 x1d) ∧ w'.cell? ⟨W.heap.size + 1, 4, none⟩ = some (.int .i64 x1e))
          (first | (exact KEEP.out _ (by repeat' (first | (with_reducible assumption) | (with_reducible exact Below.refl _ _) | (with_reducible refine Below.drew ?_) | (with_reducible refine Below.alloc ?_ (by first | omega | (simp; done) | (simp; omega)) _) | (with_reducible refine Below.setCell ?_ (by first | omega | (simp; done) | (simp; omega)) _)))) | (go_keep))
          (first
            | (clear tk1; go_at_call 15; refine (toGraph_h _ _ (p0, l0) (R0.out.below (B.step (by repeat' (first | (with_reducible assumption) | (with_reducible exact Below.refl _ _) | (with_reducible refine Below.drew ?_) | (with_reducible refine Below.alloc ?_ (by first | omega | (simp; done) | (simp; omega)) _) | (with_reducible refine Below.setCell ?_ (by first | omega | (simp; done) | (simp; omega)) _))))) hsm0).mono ?_; rintro e wA0 ⟨yA0, rfl, o0, b⟩; have hzwA0 := b.size; have bn0 : Below w11.heap.size w11 wA0 := Below.step (by repeat' (first | (with_reducible assumption) | (with_reducible exact Below.refl _ _) | (with_reducible refine Below.drew ?_) | (with_reducible refine Below.alloc ?_ (by first | omega | (simp; done) | (simp; omega)) _) | (with_reducible refine Below.setCell ?_ (by first | omega | (simp; done) | (simp; omega)) _))) b; have hn0 := bn0.size; have HF0 := Lib.hid o0.h; clear o0; have bs0 : Below wA0.heap.size wA0 wA0 := Below.refl _ _; (try (first | (replace HZZ := Lib.hid (HZZ.out.below b)) | (have HZZ := Lib.hid ((Zer2.at _ _).below b)) | (have HZZ := Lib.hid ((Zer2.drew (Zer2.at _ _)).below b)))); (try clear zc0 zc1 zf0 zf1 zg zq0 zq1 zq2); (try obtain ⟨⟨zq0, zq1, zq2, zc0, zc1⟩, ⟨zf0, zf1⟩, zg⟩ := HZZ.out); (try have hzg0 := zg); clear b)
            | (clear tk2; go_at_call 23; refine (toStep_any _ _ _ _ _ _).mono ?_; rintro e wA1 ⟨rfl, b⟩; have hzwA1 := b.size; have bn1 : Below w11.heap.size w11 wA1 := Below.step (by repeat' (first | (with_reducible assumption) | (with_reducible exact Below.refl _ _) | (with_reducible refine Below.drew ?_) | (with_reducible refine Below.alloc ?_ (by first | omega | (simp; done) | (simp; omega)) _) | (with_reducible refine Below.setCell ?_ (by first | omega | (simp; done) | (simp; omega)) _))) b; have hn1 := bn1.size; (try have bf01 : Below wA0.heap.size wA0 wA1 := Below.step (by repeat' (first | (with_reducible assumption) | (with_reducible exact Below.refl _ _) | (with_reducible refine Below.drew ?_) | (with_reducible refine Below.alloc ?_ (by first | omega | (simp; done) | (simp; omega)) _) | (with_reducible refine Below.setCell ?_ (by first | omega | (simp; done) | (simp; omega)) _))) b); (try (first | (replace HZZ := Lib.hid (HZZ.out.below b)) | (have HZZ := Lib.hid ((Zer2.at _ _).below b)) | (have HZZ := Lib.hid ((Zer2.drew (Zer2.at _ _)).below b)))); (try clear zc0 zc1 zf0 zf1 zg zq0 zq1 zq2); (try obtain ⟨⟨zq0, zq1, zq2, zc0, zc1⟩, ⟨zf0, zf1⟩, zg⟩ := HZZ.out); (try have hzg1 := zg); clear b)
            | (clear tk3; go_at_call 24; refine (impl_ApplyStep _ _ (p0, l0) (HF0.out.below (by repeat' (first | (with_reducible assumption) | (with_reducible exact Below.refl _ _) | (with_reducible refine Below.drew ?_) | (with_reducible refine Below.alloc ?_ (by first | omega | (simp; done) | (simp; omega)) _) | (with_reducible refine Below.setCell ?_ (by first | omega | (simp; done) | (simp; omega)) _)))).is (x1a, x1b, x1c, x1d, x1e) hsm0).mono ?_; rintro e wM ⟨vf, rfl, oM, b⟩; rw [← HOKR.out]; rw [← HRES.out] at oM; obtain ⟨vb, ⟨abw, cbw, rfl, rfl⟩, ob⟩ := oM; dsimp only at ob; have HM := Lib.hid (show HGraph wM _ wM.heap.size (.agg #[.int .i64 pr, .slice abw lr.length cbw]) (pr, lr) from OwnGraph.h ⟨_, ⟨abw, cbw, rfl, rfl⟩, ob⟩); clear ob; have hzM := b.size; have bM : Below w11.heap.size w11 wM := Below.step (by repeat' (first | (with_reducible assumption) | (with_reducible exact Below.refl _ _) | (with_reducible refine Below.drew ?_) | (with_reducible refine Below.alloc ?_ (by first | omega | (simp; done) | (simp; omega)) _) | (with_reducible refine Below.setCell ?_ (by first | omega | (simp; done) | (simp; omega)) _))) b; have hnM := bM.size; have hlM := (show Below w11.heap.size w11 _ from (by repeat' (first | (with_reducible assumption) | (with_reducible exact Below.refl _ _) | (with_reducible refine Below.drew ?_) | (with_reducible refine Below.alloc ?_ (by first | omega | (simp; done) | (simp; omega)) _) | (with_reducible refine Below.setCell ?_ (by first | omega | (simp; done) | (simp; omega)) _)))).size; (try (first | (replace HZZ := Lib.hid (HZZ.out.below b)) | (have HZZ := Lib.hid ((Zer2.at _ _).below b)) | (have HZZ := Lib.hid ((Zer2.drew (Zer2.at _ _)).below b)))); (try clear zc0 zc1 zf0 zf1 zg zq0 zq1 zq2); (try obtain ⟨⟨zq0, zq1, zq2, zc0, zc1⟩, ⟨zf0, zf1⟩, zg⟩ := HZZ.out); clear b; dsimp only)
            | fail)
        all_goals
          go_wp2_with fail
          go_meet
          refine ⟨rfl, ?_⟩
          first
            | with_reducible exact cutA2 HZZ.out HM.out (by first | omega | (simp; done) | (simp; omega)) (by first | omega | (simp; done) | (simp; omega)) (by first | omega | (simp; done) | (simp; omega)) (by first | omega | (simp; done) | (simp; omega)) (by first | omega | (simp; done) | (simp; omega)) bM
            | with_reducible exact cutB2 _ HM.out (by first | omega | (simp; done) | (simp; omega)) (by first | omega | (simp; done) | (simp; omega)) (by first | omega | (simp; done) | (simp; omega)) bM
            | with_reducible exact cutC2 _ HM.out (by first | omega | (simp; done) | (simp; omega)) (by first | omega | (simp; done) | (simp; omega)) (by first | omega | (simp; done) | (simp; omega)) bM
      case rest =>
        obtain ⟨rfl, gh, abh, cbh, loh, hih, rfl, HBX, hob, hseph, hloh, hlhh, hhzh, hgh, -, b⟩ := hcut
        obtain ⟨w12, hwE⟩ : ∃ wE, wE = wc := ⟨_, rfl⟩
        subst hwE
        have hzw12 := b.size
        clear KEEP bd0
        replace B := B.step b
        replace BP0 := Lib.hid (BP0.out.below b)
        replace BP1 := Lib.hid (BP1.out.below b)
        replace BW0 := Lib.hid (BW0.out.below b)
        replace BX0 := Lib.hid (BX0.out.below b)
        replace BG0 := Lib.hid (BG0.out.below b)
        replace ow0 := ow0.below b
        replace ox0 := ox0.below b
        replace og0 := og0.below b
        clear b
        have oh0 := hob
        clear hob
        have hgzh := HBX.1
        have BH0 := Lib.hid HBX
        clear HBX
        obtain ⟨zBP0, fBP00, fBP01⟩ := BP0.out
        obtain ⟨zBP1, fBP10, fBP11, fBP12, fBP13, fBP14⟩ := BP1.out
        obtain ⟨zBW0, fBW00, fBW01⟩ := BW0.out
        obtain ⟨zBX0, fBX00, fBX01⟩ := BX0.out
        obtain ⟨zBG0, fBG00, fBG01⟩ := BG0.out
        obtain ⟨zBH0, fBH00, fBH01⟩ := BH0.out
        go_wp2_with fail
        refine (eqGraph_h _ _ _ _ oh0.is ow0.is (by omega)).mono ?_
        rintro e w13 ⟨rfl, b⟩
        have hzw13 := b.size
        clear zBP0 fBP00 fBP01 zBP1 fBP10 fBP11 fBP12 fBP13 fBP14 zBW0 fBW00 fBW01 zBX0 fBX00 fBX01 zBG0 fBG00 fBG01 zBH0 fBH00 fBH01
        replace B := B.step b
        replace BP0 := Lib.hid (BP0.out.below b)
        replace BP1 := Lib.hid (BP1.out.below b)
        replace BW0 := Lib.hid (BW0.out.below b)
        replace BX0 := Lib.hid (BX0.out.below b)
        replace BG0 := Lib.hid (BG0.out.below b)
        replace BH0 := Lib.hid (BH0.out.below b)
        replace ow0 := ow0.below b
        replace ox0 := ox0.below b
        replace og0 := og0.below b
        replace oh0 := oh0.below b
        clear b
        obtain ⟨zBP0, fBP00, fBP01⟩ := BP0.out
        obtain ⟨zBP1, fBP10, fBP11, fBP12, fBP13, fBP14⟩ := BP1.out
        obtain ⟨zBW0, fBW00, fBW01⟩ := BW0.out
        obtain ⟨zBX0, fBX00, fBX01⟩ := BX0.out
        obtain ⟨zBG0, fBG00, fBG01⟩ := BG0.out
        obtain ⟨zBH0, fBH00, fBH01⟩ := BH0.out
        go_wp2_with fail
        refine (heldGraph_h _ _ _ _ og0.is (by omega) (by omega) (by omega)).mono ?_
        rintro e w14 ⟨rfl, b⟩
        have hzw14 := b.size
        clear zBP0 fBP00 fBP01 zBP1 fBP10 fBP11 fBP12 fBP13 fBP14 zBW0 fBW00 fBW01 zBX0 fBX00 fBX01 zBG0 fBG00 fBG01 zBH0 fBH00 fBH01
        replace B := B.step b
        replace BP0 := Lib.hid (BP0.out.below b)
        replace BP1 := Lib.hid (BP1.out.below b)
        replace BW0 := Lib.hid (BW0.out.below b)
        replace BX0 := Lib.hid (BX0.out.below b)
        replace BG0 := Lib.hid (BG0.out.below b)
        replace BH0 := Lib.hid (BH0.out.below b)
        replace ow0 := ow0.below b
        replace ox0 := ox0.below b
        replace og0 := og0.below b
        replace oh0 := oh0.below b
        clear b
        obtain ⟨zBP0, fBP00, fBP01⟩ := BP0.out
        obtain ⟨zBP1, fBP10, fBP11, fBP12, fBP13, fBP14⟩ := BP1.out
        obtain ⟨zBW0, fBW00, fBW01⟩ := BW0.out
        obtain ⟨zBX0, fBX00, fBX01⟩ := BX0.out
        obtain ⟨zBG0, fBG00, fBG01⟩ := BG0.out
        obtain ⟨zBH0, fBH00, fBH01⟩ := BH0.out
        go_wp2_with fail
        go_ret
        exact ⟨rfl, B⟩
end Go.Proofs.Ytmfeabfbhaiaeaa
