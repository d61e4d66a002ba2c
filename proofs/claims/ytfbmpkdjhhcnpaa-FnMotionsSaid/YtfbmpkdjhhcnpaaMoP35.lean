/- IsTrivialMotion of the reference. No condition but sizes. -/
import Derived.Test.YtfbmpkdjhhcnpaaMoP33
import Derived.Deep.RegionHeld3
import Derived.Test.YtfbmpkdjhhcnpaaMoP32
import Derived.Test.YtfbmpkdjhhcnpaaMoP34
import Derived.Test.YtfbmpkdjhhcnpaaMoP02
namespace Go.Proofs.Ytfbmpkdjhhcnpaa
open Go.RowKit Gr
set_option maxRecDepth 100000
set_option linter.unusedVariables false
set_option linter.unusedSimpArgs false

theorem changeF_pair {p : Int} {l : List BarT} {q : List PlaceT} {v : List Int} (h : velB (p, l, q) v = true) {a b : Nat} (ha : a < q.length) (hb : b < q.length) :
    changeF (p, l, q) v (a : Int) (b : Int) = (dX q a - dX q b) * (uX v a - uX v b) + (dY q a - dY q b) * (uY v a - uY v b) := by
  obtain ⟨⟨hg1, hg2⟩, hqp, hvl, hf, hpq, hvv⟩ := velB_facts h
  obtain ⟨⟨x1, x2⟩, x3, x4⟩ := hpq a ha
  obtain ⟨⟨x5, x6⟩, x7, x8⟩ := hpq b hb
  have v1 := hvv (2 * a) (by omega)
  have v2 := hvv (2 * a + 1) (by omega)
  have v3 := hvv (2 * b) (by omega)
  have v4 := hvv (2 * b + 1) (by omega)
  have e1 : changeF (p, l, q) v (a : Int) (b : Int) = chg (pX q a) (pY q a) (pX q b) (pY q b) (vN v (2 * a)) (vN v (2 * a + 1)) (vN v (2 * b)) (vN v (2 * b + 1)) := by
    have ha' : decide ((0 : Int) ≤ (a : Int)) = true := decide_eq_true (by omega)
    have hb' : decide ((0 : Int) ≤ (b : Int)) = true := decide_eq_true (by omega)
    have hc' : decide ((a : Int) < p) = true := decide_eq_true (by omega)
    have hd' : decide ((b : Int) < p) = true := decide_eq_true (by omega)
    simp only [changeF, h, ha', hb', hc', hd', Bool.and_self, if_true, Int.toNat_natCast]
    rfl
  have e2 : dX q a - dX q b = pX q a - pX q b := by unfold dX; omega
  have e3 : dY q a - dY q b = pY q a - pY q b := by unfold dY; omega
  have e4 : uX v a - uX v b = vN v (2 * a) - vN v (2 * b) := by unfold uX; omega
  have e5 : uY v a - uY v b = vN v (2 * a + 1) - vN v (2 * b + 1) := by unfold uY; omega
  rw [e1, e2, e3, e4, e5]
  have m1 := mul4 (x := pX q a - pX q b) (y := vN v (2 * a) - vN v (2 * b)) (M := 20000000000) (by omega) (by omega) (by omega) (by omega)
  have m2 := mul4 (x := pY q a - pY q b) (y := vN v (2 * a + 1) - vN v (2 * b + 1)) (M := 20000000000) (by omega) (by omega) (by omega) (by omega)
  have w : ∀ z : Int, -9000000000000000000 ≤ z → z ≤ 9000000000000000000 → wrap64 z = z := fun z h1 h2 => IntWalk.wrap64_in z (by omega)
  unfold chg
  rw [w (pX q a - pX q b) (by omega) (by omega), w (pY q a - pY q b) (by omega) (by omega), w (vN v (2 * a) - vN v (2 * b)) (by omega) (by omega), w (vN v (2 * a + 1) - vN v (2 * b + 1)) (by omega) (by omega)]
  rw [w ((pX q a - pX q b) * (vN v (2 * a) - vN v (2 * b))) (by omega) (by omega), w ((pY q a - pY q b) * (vN v (2 * a + 1) - vN v (2 * b + 1))) (by omega) (by omega)]
  exact w _ (by omega) (by omega)

set_option maxHeartbeats 8000000 in
theorem specTrv_at (W : World) (p : Int) (a : Option Addr) (cap : Nat) (l : List BarT) (c : Option Addr) (capc : Nat) (q : List PlaceT) (h : BarsAt W a l.length l) (hq : PlacesAt W c q.length q) (hs : l.length + q.length ≤ 1048576) (va : Option Addr) (n vcap : Nat) (v : List Int) (hv : IntsAt W va n v) (hvn : n ≤ 1048576) :
    Calls Try.prog 27 #[.agg #[.int .i64 p, .slice a l.length cap, .slice c q.length capc], .slice va n vcap] W fun e w' => e = .returned (.bool (trivB (p, l, q) v)) ∧ Below W.heap.size W w' := by
  have hwd := @Wd.cells
  have HFw : Hid (IsFw W (.agg #[.int .i64 p, .slice a l.length cap, .slice c q.length capc]) (p, l, q)) := Lib.hid ⟨a, cap, c, capc, rfl, h, hq⟩
  have H1 := Lib.hid h
  have H2 := Lib.hid hq
  clear h hq
  have hsz : szFw (p, l, q) ≤ 1048576 := hs
  have hs1 : l.length ≤ 1048576 := by omega
  have hs2 : q.length ≤ 1048576 := by omega
  have B : Below W.heap.size W (W.alloc (.cells #[.int .i64 p, .slice a l.length cap, .slice c q.length capc] 29)) := (Below.refl _ _).alloc (Nat.le_refl _) _
  have BX : Hid (BoxFw (W.alloc (.cells #[.int .i64 p, .slice a l.length cap, .slice c q.length capc] 29)) W.heap.size p a l.length cap c q.length capc) := Lib.hid (BoxFw.at rfl)
  obtain rfl := hv.1
  have HV := Lib.hid hv
  clear hv
  have hvn2 : v.length ≤ 1099511627776 := by omega
  have HC := Lib.hid (fun (w1 : World) (b : Below W.heap.size W w1) => l12Vector_at w1 p a cap l c capc q (H1.out.below b) (H2.out.below b) hs1 hs2 hs va v.length vcap v (HV.out.below b) hvn2)
  cases hvel : velB (p, l, q) v
  · have HE := Lib.hid (ret_bool (show trivB (p, l, q) v = false by simp only [trivB, hvel, Bool.false_and]))
    rw [hvel] at HC
    go_enter Try.func27, Try.ntmps27
    go_wp2_with fail
    generalize (W.alloc (.cells #[.int .i64 p, .slice a l.length cap, .slice c q.length capc] 29)) = u at *
    go_loopw [5] (fun i w9 => i = .int .i64 0 ∧ u = w9) (fun _ _ => 0)
    case atStart => exact ⟨rfl, rfl⟩
    case round =>
      obtain ⟨rfl, rfl⟩ := hrel
      obtain ⟨zBX, fBX0, fBX1, fBX2⟩ := BX.out
      by_cases h0 : 0 < p
      · go_wp2_with fail
        refine (HC.out _ B).mono ?_
        rintro e w1 ⟨rfl, b⟩
        replace B := B.step b
        clear zBX fBX0 fBX1 fBX2
        replace BX := Lib.hid (BX.out.below b)
        clear b
        obtain ⟨zBX, fBX0, fBX1, fBX2⟩ := BX.out
        go_wp2_with fail
        refine (HC.out _ B).mono ?_
        rintro e w2 ⟨rfl, b⟩
        replace B := B.step b
        clear b
        go_wp2_with fail
        go_ret
        exact ⟨HE.out.symm, B⟩
      · go_wp2_with fail
        refine (HC.out _ B).mono ?_
        rintro e w2 ⟨rfl, b⟩
        replace B := B.step b
        clear b
        go_wp2_with fail
        go_ret
        exact ⟨HE.out.symm, B⟩
  rw [hvel] at HC
  have HT := Lib.hid (show trivB (p, l, q) v = (pairB q v && flatB q v) by simp only [trivB, hvel, Bool.true_and])
  have HPR := Lib.hid (fun (a b : Nat) (ha : a < q.length) (hb : b < q.length) => changeF_pair hvel ha hb)
  have HCH := Lib.hid (fun (w1 : World) (b : Below W.heap.size W w1) (i j : Int) => specChange_at w1 p a cap l c capc q (H1.out.below b) (H2.out.below b) hs va v.length vcap v (HV.out.below b) hvn2 i j)
  have HFL := Lib.hid (fun (w1 : World) (b : Below W.heap.size W w1) => specFlat_at w1 p a cap l c capc q (H1.out.below b) (H2.out.below b) hs va v.length vcap v (HV.out.below b) hvn hvel)
  obtain ⟨⟨hg1, hg2⟩, hqp, hvl, hf, hpq, hvv⟩ := velB_facts hvel
  have HQP := Lib.hid hqp
  have hq0 : 0 < q.length := by omega
  have HVL := Lib.hid hvl
  clear hf hpq hvv hvl hvel hqp
  obtain ⟨aa, haa⟩ : ∃ x, x = a := ⟨_, rfl⟩
  subst haa
  go_enter Try.func27, Try.ntmps27
  go_wp2_with fail
  generalize (W.alloc (.cells #[.int .i64 p, .slice aa l.length cap, .slice c q.length capc] 29)) = u at *
  go_loopw [5] (fun i w9 => ∃ a : Nat, a ≤ q.length ∧ i = .int .i64 a ∧ (∀ a', a' < a → ∀ b, b < a' → PairAt q v a' b) ∧ Below u.heap.size u w9) (fun i _ => q.length - (intOf i).toNat)
  case atStart => exact ⟨0, Nat.zero_le _, rfl, fun a' h1 b h2 => by omega, Below.refl _ _⟩
  case round =>
    obtain ⟨a, han, rfl, hall, hb⟩ := hrel
    have HA := Lib.hid hall
    clear hall
    have B1 := B.step hb
    have BX1 := Lib.hid (BX.out.below hb)
    obtain ⟨zBX, fBX0, fBX1, fBX2⟩ := BX1.out
    by_cases hlt : a < q.length
    · have hlti : (a : Int) < p := by have := HQP.out; omega
      go_wp2_with fail
      refine (HC.out _ B1).mono ?_
      rintro e w1 ⟨rfl, b⟩
      replace B1 := B1.step b
      clear zBX fBX0 fBX1 fBX2
      replace BX1 := Lib.hid (BX1.out.below b)
      have HBU := Lib.hid (hb.step b)
      clear b hb
      go_wp2_with fail
      obtain ⟨wo, hwo⟩ : ∃ wo, wo = w1 := ⟨_, rfl⟩
      subst hwo
      go_loopw [6] (fun i w9 => ∃ b : Nat, b ≤ a ∧ i = .int .i64 b ∧ (∀ b', b' < b → PairAt q v a b') ∧ Below wo.heap.size wo w9) (fun i _ => a - (intOf i).toNat)
      case atStart => exact ⟨0, Nat.zero_le _, rfl, fun b' h1 => by omega, Below.refl _ _⟩
      case round =>
        obtain ⟨b, hba, rfl, hall, hb⟩ := hrel
        have HB := Lib.hid hall
        clear hall
        have B2 := B1.step hb
        have hbo := hb
        have BX2 := Lib.hid (BX1.out.below hb)
        clear hb
        by_cases hlb : b < a
        · have hlbi : (b : Int) < (a : Int) := by omega
          obtain ⟨bq, oq, rfl, hbq, hcq⟩ := placesAll (H2.out.below B2) (by omega)
          obtain ⟨bv, ov, rfl, hbv, hcv⟩ := intsAll (HV.out.below B2) (by have := HVL.out; omega)
          obtain ⟨qax, qay⟩ := hcq a hlt
          obtain ⟨qbx, qby⟩ := hcq b (by omega)
          have va0 := hcv (2 * a) (by have := HVL.out; omega)
          have va1 := hcv (2 * a + 1) (by have := HVL.out; omega)
          have vb0 := hcv (2 * b) (by have := HVL.out; omega)
          have vb1 := hcv (2 * b + 1) (by have := HVL.out; omega)
          clear hcq hcv
          obtain ⟨cc, ecc⟩ : ∃ x, x = changeF (p, l, q) v (a : Int) (b : Int) := ⟨_, rfl⟩
          have HCC := Lib.hid ecc
          have HPA : Hid (PairAt q v a b ↔ (cc = 0 ∧ (pX q a = pX q b → pY q a = pY q b → vN v (2 * a) = vN v (2 * b) ∧ vN v (2 * a + 1) = vN v (2 * b + 1)))) := Lib.hid (by
            rw [ecc, HPR.out a b hlt (by omega)]
            unfold PairAt
            have e2 : (dX q a = dX q b) = (pX q a = pX q b) := propext (by unfold dX; omega)
            have e3 : (dY q a = dY q b) = (pY q a = pY q b) := propext (by unfold dY; omega)
            have e4 : (uX v a = uX v b) = (vN v (2 * a) = vN v (2 * b)) := propext (by unfold uX; omega)
            have e5 : (uY v a = uY v b) = (vN v (2 * a + 1) = vN v (2 * b + 1)) := propext (by unfold uY; omega)
            rw [e2, e3, e4, e5])
          clear ecc
          generalize pX q a = x1 at *
          generalize pY q a = y1 at *
          generalize pX q b = x2 at *
          generalize pY q b = y2 at *
          generalize vN v (2 * a) = u1 at *
          generalize vN v (2 * a + 1) = t1 at *
          generalize vN v (2 * b) = u2 at *
          generalize vN v (2 * b + 1) = t2 at *
          have hj1 : (2 * (a : Int)).toNat = 2 * a := by omega
          have hj2 : (2 * (a : Int) + 1).toNat = 2 * a + 1 := by omega
          have hj3 : (2 * (b : Int)).toNat = 2 * b := by omega
          have hj4 : (2 * (b : Int) + 1).toNat = 2 * b + 1 := by omega
          have hvl := HVL.out
          have hm1 : (2 * (a : Int)) < (v.length : Int) := by omega
          have hm2 : (2 * (a : Int) + 1) < (v.length : Int) := by omega
          have hm3 : (2 * (b : Int)) < (v.length : Int) := by omega
          have hm4 : (2 * (b : Int) + 1) < (v.length : Int) := by omega
          have hm5 : 0 ≤ (2 * (a : Int)) := by omega
          have hm6 : 0 ≤ (2 * (a : Int) + 1) := by omega
          have hm7 : 0 ≤ (2 * (b : Int)) := by omega
          have hm8 : 0 ≤ (2 * (b : Int) + 1) := by omega
          have hk1 : (a : Int) < (q.length : Int) := by omega
          have hk2 : (b : Int) < (q.length : Int) := by omega
          have hk4 : (0 : Int) ≤ (a : Int) := by omega
          have hk5 : (0 : Int) ≤ (b : Int) := by omega
          have hw1 := IntWalk.i64_in (2 * (a : Int)) (by omega)
          have hw2 := IntWalk.i64_in (2 * (a : Int) + 1) (by omega)
          have hw3 := IntWalk.i64_in (2 * (b : Int)) (by omega)
          have hw4 := IntWalk.i64_in (2 * (b : Int) + 1) (by omega)
          clear hvl
          obtain ⟨zBX, fBX0, fBX1, fBX2⟩ := BX2.out
          go_wp2_with fail
          by_cases hcc : cc = 0
          · obtain ⟨hc0⟩ : Nonempty (0 = changeF (p, l, q) v (a : Int) (b : Int)) := ⟨hcc ▸ HCC.out⟩
            have HC0 := Lib.hid hc0
            clear hc0
            by_cases hpl : ((x1, y1) : PlaceT) = (x2, y2)
            · have hqe := eqlPlace_t hpl
              obtain ⟨e1, e2⟩ := Prod.mk.inj hpl
              have HE1 := Lib.hid e1
              have HE2 := Lib.hid e2
              clear e1 e2 hpl
              by_cases hu : u1 = u2
              · by_cases ht : t1 = t2
                · have HF1 := Lib.hid (HPA.out.2 ⟨hcc, fun _ _ => ⟨hu, ht⟩⟩)
                  clear HPA hcc
                  subst hu
                  subst ht
                  have HCD := Lib.hid (show ∀ m : Wd wr, Calls Try.prog 25 #[.agg #[.int .i64 p, .slice aa l.length cap, .slice (some ⟨bq, oq, none⟩) q.length capc], .slice (some ⟨bv, ov, none⟩) v.length vcap, .int .i64 (a : Int), .int .i64 (b : Int)] m.w fun e w' => e = .returned (.int .i64 0) ∧ Below m.w.heap.size m.w w' from fun m => by have h9 := HCH.out m.w (B2.step m.h) (a : Int) (b : Int); rwa [← HC0.out] at h9)
                  refine wp_region_wd (by kernel_rfl) (by kernel_rfl) ?_
                  repeat (go_big_quiet_step (first | (go_at_call 25; exact Calls.wd_of (HCD.out _))))
                  refine wpQuiet_nil ?_
                  intro n1
                  have b7 := n1.h
                  all_goals
                    go_wp2_with fail
                    go_roundw
                    case rel => exact ⟨b + 1, by omega, by go_num, fun b' h1 => (by
                      rcases Nat.lt_succ_iff_lt_or_eq.1 h1 with h | rfl
                      · exact HB.out b' h
                      · exact HF1.out), hbo.step b7⟩
                    case measure => simp [intOf]; omega
                · have HE := Lib.hid (ret_bool (show trivB (p, l, q) v = false by rw [HT.out, show pairB q v = false from decide_eq_false fun h => ht (((HPA.out.1 (h a hlt b hlb)).2 HE1.out HE2.out).2)]; rfl))
                  have hbn : (t1 != t2) = true := by simpa using ht
                  clear HPA hcc
                  subst hu
                  have HCD := Lib.hid (show ∀ m : Wd wr, Calls Try.prog 25 #[.agg #[.int .i64 p, .slice aa l.length cap, .slice (some ⟨bq, oq, none⟩) q.length capc], .slice (some ⟨bv, ov, none⟩) v.length vcap, .int .i64 (a : Int), .int .i64 (b : Int)] m.w fun e w' => e = .returned (.int .i64 0) ∧ Below m.w.heap.size m.w w' from fun m => by have h9 := HCH.out m.w (B2.step m.h) (a : Int) (b : Int); rwa [← HC0.out] at h9)
                  refine wp_region_wd (by kernel_rfl) (by kernel_rfl) ?_
                  repeat (go_big_quiet_step (first | (go_at_call 25; exact Calls.wd_of (HCD.out _))))
                  refine wpQuiet_nil ?_
                  intro n1
                  have b7 := n1.h
                  all_goals
                    go_wp2_with fail
                    go_ret
                    exact ⟨HE.out.symm, B2.step b7⟩
              · have HE := Lib.hid (ret_bool (show trivB (p, l, q) v = false by rw [HT.out, show pairB q v = false from decide_eq_false fun h => hu (((HPA.out.1 (h a hlt b hlb)).2 HE1.out HE2.out).1)]; rfl))
                have hbn : (u1 != u2) = true := by simpa using hu
                clear HPA hcc
                have HCD := Lib.hid (show ∀ m : Wd wr, Calls Try.prog 25 #[.agg #[.int .i64 p, .slice aa l.length cap, .slice (some ⟨bq, oq, none⟩) q.length capc], .slice (some ⟨bv, ov, none⟩) v.length vcap, .int .i64 (a : Int), .int .i64 (b : Int)] m.w fun e w' => e = .returned (.int .i64 0) ∧ Below m.w.heap.size m.w w' from fun m => by have h9 := HCH.out m.w (B2.step m.h) (a : Int) (b : Int); rwa [← HC0.out] at h9)
                refine wp_region_wd (by kernel_rfl) (by kernel_rfl) ?_
                repeat (go_big_quiet_step (first | (go_at_call 25; exact Calls.wd_of (HCD.out _))))
                refine wpQuiet_nil ?_
                intro n1
                have b7 := n1.h
                all_goals
                  go_wp2_with fail
                  go_ret
                  exact ⟨HE.out.symm, B2.step b7⟩
            · have hqe := eqlPlace_f hpl
              have HF1 := Lib.hid (HPA.out.2 ⟨hcc, fun h1 h2 => absurd (by rw [h1, h2]) hpl⟩)
              clear HPA hcc hpl
              have HCD := Lib.hid (show ∀ m : Wd wr, Calls Try.prog 25 #[.agg #[.int .i64 p, .slice aa l.length cap, .slice (some ⟨bq, oq, none⟩) q.length capc], .slice (some ⟨bv, ov, none⟩) v.length vcap, .int .i64 (a : Int), .int .i64 (b : Int)] m.w fun e w' => e = .returned (.int .i64 0) ∧ Below m.w.heap.size m.w w' from fun m => by have h9 := HCH.out m.w (B2.step m.h) (a : Int) (b : Int); rwa [← HC0.out] at h9)
              refine wp_region_wd (by kernel_rfl) (by kernel_rfl) ?_
              repeat (go_big_quiet_step (first | (go_at_call 25; exact Calls.wd_of (HCD.out _))))
              refine wpQuiet_nil ?_
              intro n1
              have b7 := n1.h
              all_goals
                go_wp2_with fail
                go_roundw
                case rel => exact ⟨b + 1, by omega, by go_num, fun b' h1 => (by
                  rcases Nat.lt_succ_iff_lt_or_eq.1 h1 with h | rfl
                  · exact HB.out b' h
                  · exact HF1.out), hbo.step b7⟩
                case measure => simp [intOf]; omega
          · have HE := Lib.hid (ret_bool (show trivB (p, l, q) v = false by rw [HT.out, show pairB q v = false from decide_eq_false fun h => hcc ((HPA.out.1 (h a hlt b hlb)).1)]; rfl))
            have hbn : (cc != 0) = true := by simpa using hcc
            clear HPA
            have HCD := Lib.hid (show ∀ m : Wd wr, Calls Try.prog 25 #[.agg #[.int .i64 p, .slice aa l.length cap, .slice (some ⟨bq, oq, none⟩) q.length capc], .slice (some ⟨bv, ov, none⟩) v.length vcap, .int .i64 (a : Int), .int .i64 (b : Int)] m.w fun e w' => e = .returned (.int .i64 cc) ∧ Below m.w.heap.size m.w w' from fun m => by have h9 := HCH.out m.w (B2.step m.h) (a : Int) (b : Int); rwa [← HCC.out] at h9)
            refine wp_region_wd (by kernel_rfl) (by kernel_rfl) ?_
            repeat (go_big_quiet_step (first | (go_at_call 25; exact Calls.wd_of (HCD.out _))))
            refine wpQuiet_nil ?_
            intro n1
            have b7 := n1.h
            all_goals
              go_wp2_with fail
              go_ret
              exact ⟨HE.out.symm, B2.step b7⟩
        · obtain rfl : b = a := by omega
          have hlbi : ¬ (b : Int) < (b : Int) := by omega
          have hbi0 : (0 : Int) ≤ (b : Int) := by omega
          go_wp2_with fail
          go_roundw
          case rel => exact ⟨b + 1, by omega, by go_num, fun a' h1 b' h2 => (by
            rcases Nat.lt_succ_iff_lt_or_eq.1 h1 with h | rfl
            · exact HA.out a' h b' h2
            · exact HB.out b' h2), HBU.out.step hbo⟩
          case measure => simp [intOf]; omega
    · obtain rfl : a = q.length := by omega
      have hlti : ¬ (q.length : Int) < p := by have := HQP.out; omega
      have HE := Lib.hid (ret_bool (show trivB (p, l, q) v = flatB q v by rw [HT.out, show pairB q v = true from decide_eq_true HA.out]; rfl))
      go_wp2_with fail
      refine (HC.out _ B1).mono ?_
      rintro e w1 ⟨rfl, b⟩
      replace B1 := B1.step b
      clear zBX fBX0 fBX1 fBX2
      replace BX1 := Lib.hid (BX1.out.below b)
      clear b
      obtain ⟨zBX, fBX0, fBX1, fBX2⟩ := BX1.out
      go_wp2_with fail
      refine (HFL.out _ B1).mono ?_
      rintro e w2 ⟨rfl, b⟩
      replace B1 := B1.step b
      clear b
      go_wp2_with fail
      go_ret
      exact ⟨HE.out.symm, B1⟩
theorem spec_IsTrivialMotion (W : World) (v0 : Value) (f : FwT) (h : IsFw W v0 f) (v1 : Value) (v : List Int) (hv : IsInts W v1 v) (hn : szFw f ≤ 1048576) (hvn : v.length ≤ 1048576) :
    Calls Try.prog 27 #[v0, v1] W fun e w' => e = .returned (.bool (trivB f v)) ∧ Below W.heap.size W w' := by
  obtain ⟨p, l, q⟩ := f
  obtain ⟨a, cap, c, capc, rfl, hi, hj⟩ := h
  obtain ⟨va, vcap, rfl, hvi⟩ := hv
  exact specTrv_at _ _ _ _ _ _ _ _ hi hj hn _ _ _ _ hvi hvn
end Go.Proofs.Ytfbmpkdjhhcnpaa

namespace Go.Proofs.Ytfbmpkdjhhcnpaa
open Go.RowKit Gr
set_option maxRecDepth 100000
set_option linter.unusedVariables false
set_option linter.unusedSimpArgs false

theorem mulB {x y A B : Int} (h1 : -A ≤ x) (h2 : x ≤ A) (h3 : -B ≤ y) (h4 : y ≤ B) : -(A * B) ≤ x * y ∧ x * y ≤ A * B := by
  have p1 := Int.mul_nonneg (show 0 ≤ A - x by omega) (show 0 ≤ B + y by omega)
  have p2 := Int.mul_nonneg (show 0 ≤ A + x by omega) (show 0 ≤ B - y by omega)
  have p3 := Int.mul_nonneg (show 0 ≤ A - x by omega) (show 0 ≤ B - y by omega)
  have p4 := Int.mul_nonneg (show 0 ≤ A + x by omega) (show 0 ≤ B + y by omega)
  have e1 : (A - x) * (B + y) = A * B + A * y - x * B - x * y := by grind
  have e2 : (A + x) * (B - y) = A * B - A * y + x * B - x * y := by grind
  have e3 : (A - x) * (B - y) = A * B - A * y - x * B + x * y := by grind
  have e4 : (A + x) * (B + y) = A * B + A * y + x * B + x * y := by grind
  omega
def TrAt (q : List PlaceT) (v : List Int) (num den : Int) (i : Nat) : Prop := uX v i * den = -num * dY q i ∧ uY v i * den = num * dX q i
def Good (q : List PlaceT) (v : List Int) (num den : Int) : Prop := (den ≠ 0 ∧ (0 ≤ den ∧ den ≤ 32)) ∧ (-160000000000 ≤ num ∧ num ≤ 160000000000) ∧ (TrS q.length (dX q) (dY q) (uX v) (uY v) → ∀ i, i < q.length → TrAt q v num den i)
theorem z0 (q : List PlaceT) (v : List Int) : uX v 0 = 0 ∧ uY v 0 = 0 ∧ dX q 0 = 0 ∧ dY q 0 = 0 := by
  simp [uX, uY, dX, dY]
theorem good_none {q : List PlaceT} {v : List Int} (h : ∀ i, i < q.length → dX q i = 0 ∧ dY q i = 0) : Good q v 0 1 := by
  obtain ⟨z1, z2, z3, z4⟩ := z0 q v
  exact ⟨⟨by decide, by decide⟩, by decide, fun hs => trI_none z1 z2 z3 z4 h hs⟩
theorem good_at {q : List PlaceT} {v : List Int} {k : Nat} (hk : k < q.length) (hne : dX q k ≠ 0 ∨ dY q k ≠ 0) (b1 : -4 ≤ dX q k ∧ dX q k ≤ 4) (b2 : -4 ≤ dY q k ∧ dY q k ≤ 4) (b3 : -20000000000 ≤ uX v k ∧ uX v k ≤ 20000000000) (b4 : -20000000000 ≤ uY v k ∧ uY v k ≤ 20000000000) :
    Good q v (uY v k * dX q k - uX v k * dY q k) (dX q k * dX q k + dY q k * dY q k) := by
  obtain ⟨z1, z2, z3, z4⟩ := z0 q v
  have hs : ∀ z : Int, -4 ≤ z → z ≤ 4 → 0 ≤ z * z ∧ z * z ≤ 16 ∧ (z ≠ 0 → 1 ≤ z * z) := fun z h1 h2 => by
    have hx : z = -4 ∨ z = -3 ∨ z = -2 ∨ z = -1 ∨ z = 0 ∨ z = 1 ∨ z = 2 ∨ z = 3 ∨ z = 4 := by omega
    rcases hx with rfl | rfl | rfl | rfl | rfl | rfl | rfl | rfl | rfl <;> decide
  have s1 := hs _ b1.1 b1.2
  have s2 := hs _ b2.1 b2.2
  have m1 := mulB b4.1 b4.2 b1.1 b1.2
  have m2 := mulB b3.1 b3.2 b2.1 b2.2
  refine ⟨⟨?_, by omega, by omega⟩, ⟨by omega, by omega⟩, fun h => trI_at z1 z2 z3 z4 hk hne h⟩
  rcases hne with h | h
  · have := s1.2.2 h; omega
  · have := s2.2.2 h; omega
theorem triv_yes {q : List PlaceT} {v : List Int} {num den : Int} (hg : Good q v num den) (h : ∀ i, i < q.length → TrAt q v num den i) : (pairB q v && flatB q v) = true :=
  (triv_iff q v).2 (trS_of_trI hg.1.1 h)
theorem triv_no {q : List PlaceT} {v : List Int} {num den : Int} (hg : Good q v num den) {i : Nat} (hi : i < q.length) (h : ¬ TrAt q v num den i) : (pairB q v && flatB q v) = false := by
  cases e : (pairB q v && flatB q v)
  · rfl
  · exact absurd (hg.2.2 ((triv_iff q v).1 e) i hi) h

set_option maxHeartbeats 8000000 in
theorem implTrv_at (W : World) (p : Int) (a : Option Addr) (cap : Nat) (l : List BarT) (c : Option Addr) (capc : Nat) (q : List PlaceT) (h : BarsAt W a l.length l) (hq : PlacesAt W c q.length q) (hs : l.length + q.length ≤ 1048576) (va : Option Addr) (n vcap : Nat) (v : List Int) (hv : IntsAt W va n v) (hvn : n ≤ 1048576) :
    Calls Try.prog 12 #[.agg #[.int .i64 p, .slice a l.length cap, .slice c q.length capc], .slice va n vcap] W fun e w' => e = .returned (.bool (trivB (p, l, q) v)) ∧ Below W.heap.size W w' := by
  have hwd := @Wd.cells
  have HFw : Hid (IsFw W (.agg #[.int .i64 p, .slice a l.length cap, .slice c q.length capc]) (p, l, q)) := Lib.hid ⟨a, cap, c, capc, rfl, h, hq⟩
  have H1 := Lib.hid h
  have H2 := Lib.hid hq
  clear h hq
  have hsz : szFw (p, l, q) ≤ 1048576 := hs
  have hs1 : l.length ≤ 1048576 := by omega
  have hs2 : q.length ≤ 1048576 := by omega
  have B : Below W.heap.size W (W.alloc (.cells #[.int .i64 p, .slice a l.length cap, .slice c q.length capc] 29)) := (Below.refl _ _).alloc (Nat.le_refl _) _
  have BX : Hid (BoxFw (W.alloc (.cells #[.int .i64 p, .slice a l.length cap, .slice c q.length capc] 29)) W.heap.size p a l.length cap c q.length capc) := Lib.hid (BoxFw.at rfl)
  obtain rfl := hv.1
  have HV := Lib.hid hv
  clear hv
  have hvn2 : v.length ≤ 1099511627776 := by omega
  have HC := Lib.hid (fun (w1 : World) (b : Below W.heap.size W w1) => isVelocity_at w1 p a cap l c capc q (H1.out.below b) (H2.out.below b) hs1 hs2 hs va v.length vcap v (HV.out.below b) hvn2)
  cases hvel : velB (p, l, q) v
  · have HE := Lib.hid (ret_bool (show trivB (p, l, q) v = false by simp only [trivB, hvel, Bool.false_and]))
    rw [hvel] at HC
    go_enter Try.func12, Try.ntmps12
    go_wp2_with fail
    refine (HC.out _ B).mono ?_
    rintro e w1 ⟨rfl, b⟩
    replace B := B.step b
    clear b
    go_wp2_with fail
    go_ret
    exact ⟨HE.out.symm, B⟩
  rw [hvel] at HC
  have HT := Lib.hid (show trivB (p, l, q) v = (pairB q v && flatB q v) by simp only [trivB, hvel, Bool.true_and])
  obtain ⟨⟨hg1, hg2⟩, hqp, hvl, hf, hpq, hvv⟩ := velB_facts hvel
  have hq0 : 0 < q.length := by omega
  have HVL := Lib.hid hvl
  have HPQ := Lib.hid hpq
  have HVV := Lib.hid hvv
  clear hf hpq hvv hvl hvel hqp
  obtain ⟨aa, haa⟩ : ∃ x, x = a := ⟨_, rfl⟩
  subst haa
  go_enter Try.func12, Try.ntmps12
  go_wp2_with fail
  refine (HC.out _ B).mono ?_
  rintro e u ⟨rfl, b⟩
  replace B := B.step b
  replace BX := Lib.hid (BX.out.below b)
  clear b
  obtain ⟨zBX, fBX0, fBX1, fBX2⟩ := BX.out
  go_wp2_with fail
  clear zBX fBX0 fBX1 fBX2
  go_loopw [5, 6, 22] (fun s5 s6 i w9 => ∃ (m0 d0 : Int) (k : Nat), (s5 = .int .i64 m0 ∧ s6 = .int .i64 d0 ∧ m0 = 0 ∧ d0 = 1) ∧ k ≤ q.length ∧ i = .int .i64 k ∧ (∀ i', i' < k → dX q i' = 0 ∧ dY q i' = 0) ∧ Below u.heap.size u w9) (fun _ _ i _ => q.length - (intOf i).toNat)
  case atStart => exact ⟨0, 1, 0, ⟨rfl, rfl, rfl, rfl⟩, Nat.zero_le _, rfl, fun i' h => by omega, Below.refl _ _⟩
  case round =>
    obtain ⟨m0, d0, k, ⟨rfl, rfl, hm0, hd0⟩, hkn, rfl, hall, hb⟩ := hrel
    have HMD := Lib.hid (And.intro hm0 hd0)
    clear hm0 hd0
    have HA := Lib.hid hall
    clear hall
    have B1 := B.step hb
    have BX1 := Lib.hid (BX.out.below hb)
    by_cases hlt : k < q.length
    · have hlti : (k : Int) < (q.length : Int) := by omega
      obtain ⟨bq, oq, rfl, hbq, hcq⟩ := placesAll (H2.out.below B1) (by omega)
      obtain ⟨bv, ov, rfl, hbv, hcv⟩ := intsAll (HV.out.below B1) (by have := HVL.out; omega)
      obtain ⟨q0x, q0y⟩ := hcq 0 (by omega)
      obtain ⟨qax, qay⟩ := hcq k hlt
      have v0 := hcv 0 (by have := HVL.out; omega)
      have v1 := hcv 1 (by have := HVL.out; omega)
      have va0 := hcv (2 * k) (by have := HVL.out; omega)
      have va1 := hcv (2 * k + 1) (by have := HVL.out; omega)
      simp only [Nat.zero_mul, Nat.add_zero] at q0x q0y v0
      clear hcq hcv
      obtain ⟨⟨bx01, bx02⟩, by01, by02⟩ := HPQ.out 0 (by omega)
      obtain ⟨⟨bxa1, bxa2⟩, bya1, bya2⟩ := HPQ.out k hlt
      have bv0 := HVV.out 0 (by have := HVL.out; omega)
      have bv1 := HVV.out 1 (by have := HVL.out; omega)
      have bva0 := HVV.out (2 * k) (by have := HVL.out; omega)
      have bva1 := HVV.out (2 * k + 1) (by have := HVL.out; omega)
      obtain ⟨dx, edx⟩ : ∃ x, x = dX q k := ⟨_, rfl⟩
      obtain ⟨dy, edy⟩ : ∃ x, x = dY q k := ⟨_, rfl⟩
      obtain ⟨ux, eux⟩ : ∃ x, x = uX v k := ⟨_, rfl⟩
      obtain ⟨uy, euy⟩ : ∃ x, x = uY v k := ⟨_, rfl⟩
      have HD := Lib.hid (And.intro edx (And.intro edy (And.intro eux euy)))
      unfold dX at edx
      unfold dY at edy
      unfold uX at eux
      unfold uY at euy
      have g1 : -4 ≤ dx ∧ dx ≤ 4 := by omega
      have g2 : -4 ≤ dy ∧ dy ≤ 4 := by omega
      have g3 : -20000000000 ≤ ux ∧ ux ≤ 20000000000 := by omega
      have g4 : -20000000000 ≤ uy ∧ uy ≤ 20000000000 := by omega
      have wr1 : IntKind.i64.wrap (pX q k - pX q 0) = dx := by rw [edx]; exact IntWalk.i64_in _ (by omega)
      have wr2 : IntKind.i64.wrap (pY q k - pY q 0) = dy := by rw [edy]; exact IntWalk.i64_in _ (by omega)
      have wr3 : IntKind.i64.wrap (vN v (2 * k) - vN v 0) = ux := by rw [eux]; exact IntWalk.i64_in _ (by omega)
      have wr4 : IntKind.i64.wrap (vN v (2 * k + 1) - vN v 1) = uy := by rw [euy]; exact IntWalk.i64_in _ (by omega)
      clear edx edy eux euy bx01 bx02 by01 by02 bxa1 bxa2 bya1 bya2 bv0 bv1 bva0 bva1
      have m1 := mulB (A := 20000000000) (B := 4) g4.1 g4.2 g1.1 g1.2
      have m2 := mulB (A := 20000000000) (B := 4) g3.1 g3.2 g2.1 g2.2
      have m3 := mulB (A := 4) (B := 4) g1.1 g1.2 g1.1 g1.2
      have m4 := mulB (A := 4) (B := 4) g2.1 g2.2 g2.1 g2.2
      obtain ⟨num, en⟩ : ∃ t, t = uy * dx - ux * dy := ⟨_, rfl⟩
      obtain ⟨den, ed⟩ : ∃ t, t = dx * dx + dy * dy := ⟨_, rfl⟩
      have wm1 : IntKind.i64.wrap (uy * dx) = uy * dx := IntWalk.i64_in _ (by omega)
      have wm2 : IntKind.i64.wrap (ux * dy) = ux * dy := IntWalk.i64_in _ (by omega)
      have wm3 : IntKind.i64.wrap (dx * dx) = dx * dx := IntWalk.i64_in _ (by omega)
      have wm4 : IntKind.i64.wrap (dy * dy) = dy * dy := IntWalk.i64_in _ (by omega)
      have wm5 : IntKind.i64.wrap (uy * dx - ux * dy) = num := by rw [en]; exact IntWalk.i64_in _ (by omega)
      have wm6 : IntKind.i64.wrap (dx * dx + dy * dy) = den := by rw [ed]; exact IntWalk.i64_in _ (by omega)
      have HGD0 : Hid ((dx ≠ 0 ∨ dy ≠ 0) → Good q v num den) := Lib.hid fun hne => by
        rw [en, ed, HD.out.1, HD.out.2.1, HD.out.2.2.1, HD.out.2.2.2]
        rw [HD.out.1, HD.out.2.1] at hne
        refine good_at hlt hne ?_ ?_ ?_ ?_
        · rw [← HD.out.1]; exact g1
        · rw [← HD.out.2.1]; exact g2
        · rw [← HD.out.2.2.1]; exact g3
        · rw [← HD.out.2.2.2]; exact g4
      clear en ed m1 m2 m3 m4
      have hj1 : (2 * (k : Int)).toNat = 2 * k := by omega
      have hj2 : (2 * (k : Int) + 1).toNat = 2 * k + 1 := by omega
      have hvl := HVL.out
      have hm1 : (2 * (k : Int)) < (v.length : Int) := by omega
      have hm2 : (2 * (k : Int) + 1) < (v.length : Int) := by omega
      have hm5 : 0 ≤ (2 * (k : Int)) := by omega
      have hm6 : 0 ≤ (2 * (k : Int) + 1) := by omega
      have hm9 : (0 : Int) < (v.length : Int) := by omega
      have hm10 : (1 : Int) < (v.length : Int) := by omega
      have hk1 : (k : Int) < (q.length : Int) := by omega
      have hk3 : (0 : Int) < (q.length : Int) := by omega
      have hk4 : (0 : Int) ≤ (k : Int) := by omega
      have hw1 := IntWalk.i64_in (2 * (k : Int)) (by omega)
      have hw2 := IntWalk.i64_in (2 * (k : Int) + 1) (by omega)
      clear hvl
      obtain ⟨zBX, fBX0, fBX1, fBX2⟩ := BX1.out
      go_wp2_with fail
      have ba : Below wr.heap.size wr (wr.alloc (.cells #[.int .i64 (pX q k), .int .i64 (pY q k)] 54)) := (Below.refl _ _).alloc (Nat.le_refl _) _
      have BPq : Hid (BoxPl (wr.alloc (.cells #[.int .i64 (pX q k), .int .i64 (pY q k)] 54)) wr.heap.size (pX q k) (pY q k)) := Lib.hid (BoxPl.at rfl)
      have BX2 := Lib.hid (BX1.out.below ba)
      have q0x2 := ((bcell ba).1 _ _ hbq).trans q0x
      have q0y2 := ((bcell ba).1 _ _ hbq).trans q0y
      have v02 := ((bcell ba).1 _ _ hbv).trans v0
      have v12 := ((bcell ba).1 _ _ hbv).trans v1
      have va02 := ((bcell ba).1 _ _ hbv).trans va0
      have va12 := ((bcell ba).1 _ _ hbv).trans va1
      have hba := hb.step ba
      generalize (wr.alloc (.cells #[.int .i64 (pX q k), .int .i64 (pY q k)] 54)) = wq at *
      clear zBX fBX0 fBX1 fBX2 q0x q0y qax qay v0 v1 va0 va1 ba
      obtain ⟨zBX, fBX0, fBX1, fBX2⟩ := BX2.out
      obtain ⟨zBP, fBP0, fBP1⟩ := BPq.out
      go_quiet (fail)
      obtain ⟨n1, hn1⟩ : ∃ n1, n1 = nq := ⟨_, rfl⟩
      subst hn1
      by_cases h1 : dx = 0
      · by_cases h2 : dy = 0
        · have hdk : dX q k = 0 ∧ dY q k = 0 := ⟨HD.out.1.symm.trans h1, HD.out.2.1.symm.trans h2⟩
          have HD0 := Lib.hid hdk
          have hbn : (dx != 0) = false := by simpa using h1
          have hbn2 : (dy != 0) = false := by simpa using h2
          clear h1 h2 hdk
          go_wp2_with fail
          go_roundw
          case rel => exact ⟨m0, d0, k + 1, ⟨rfl, rfl, HMD.out.1, HMD.out.2⟩, by omega, by go_num, fun i' h => (by
            rcases Nat.lt_succ_iff_lt_or_eq.1 h with h | rfl
            · exact HA.out i' h
            · exact HD0.out), (by repeat' (first | (with_reducible exact hba) | (with_reducible refine below_drewN ?_ _)))⟩
          case measure => simp [intOf]; omega
        · have HGD := Lib.hid (HGD0.out (.inr h2))
          have hbn : (dx != 0) = false := by simpa using h1
          have hbn2 : (dy != 0) = true := by simpa using h2
          clear h1 h2
          go_wp2_with fail
          go_quiet (fail)
          go_wp2_with fail
          have hb0 := below_drewN hba (n1 + nq)
          generalize (wq.drewN (n1 + nq)) = w0 at *
          clear zBX fBX0 fBX1 fBX2 zBP fBP0 fBP1 BPq q0x2 q0y2 v02 v12 va02 va12 wr1 wr2 wr3 wr4 wm1 wm2 wm3 wm4 wm5 wm6 hj1 hj2 hm1 hm2 hm5 hm6 hm9 hm10 hk1 hk3 hk4 hw1 hw2 g1 g2 g3 g4 hbn HA HMD HGD0 hba hb BX1 BX2 hlt hlti hkn
          have B0 := B.step hb0
          have BX0 := Lib.hid (BX.out.below hb0)
          
          go_loopw [84] (fun i w9 => ∃ k : Nat, k ≤ q.length ∧ i = .int .i64 k ∧ (∀ i', i' < k → TrAt q v num den i') ∧ Below w0.heap.size w0 w9) (fun i _ => q.length - (intOf i).toNat)
          case atStart => exact ⟨0, Nat.zero_le _, rfl, fun i' h => by omega, Below.refl _ _⟩
          case round =>
            obtain ⟨k, hkn, rfl, hall, hb⟩ := hrel
            have HA := Lib.hid hall
            clear hall
            have B1 := B0.step hb
            have BX1 := Lib.hid (BX0.out.below hb)
            by_cases hlt : k < q.length
            · have hlti : (k : Int) < (q.length : Int) := by omega
              obtain ⟨bq2, oq2, hab, hbq, hcq⟩ := placesAll (H2.out.below B1) (by omega)
              simp only [Option.some.injEq, Addr.mk.injEq, and_true] at hab
              obtain ⟨rfl, rfl⟩ := hab
              obtain ⟨bv2, ov2, hab, hbv, hcv⟩ := intsAll (HV.out.below B1) (by have := HVL.out; omega)
              simp only [Option.some.injEq, Addr.mk.injEq, and_true] at hab
              obtain ⟨rfl, rfl⟩ := hab
              obtain ⟨q0x, q0y⟩ := hcq 0 (by omega)
              obtain ⟨qax, qay⟩ := hcq k hlt
              have v0 := hcv 0 (by have := HVL.out; omega)
              have v1 := hcv 1 (by have := HVL.out; omega)
              have va0 := hcv (2 * k) (by have := HVL.out; omega)
              have va1 := hcv (2 * k + 1) (by have := HVL.out; omega)
              simp only [Nat.zero_mul, Nat.add_zero] at q0x q0y v0
              clear hcq hcv
              obtain ⟨⟨bx01, bx02⟩, by01, by02⟩ := HPQ.out 0 (by omega)
              obtain ⟨⟨bxa1, bxa2⟩, bya1, bya2⟩ := HPQ.out k hlt
              have bv0 := HVV.out 0 (by have := HVL.out; omega)
              have bv1 := HVV.out 1 (by have := HVL.out; omega)
              have bva0 := HVV.out (2 * k) (by have := HVL.out; omega)
              have bva1 := HVV.out (2 * k + 1) (by have := HVL.out; omega)
              obtain ⟨dx, edx⟩ : ∃ x, x = dX q k := ⟨_, rfl⟩
              obtain ⟨dy, edy⟩ : ∃ x, x = dY q k := ⟨_, rfl⟩
              obtain ⟨ux, eux⟩ : ∃ x, x = uX v k := ⟨_, rfl⟩
              obtain ⟨uy, euy⟩ : ∃ x, x = uY v k := ⟨_, rfl⟩
              have HD := Lib.hid (And.intro edx (And.intro edy (And.intro eux euy)))
              unfold dX at edx
              unfold dY at edy
              unfold uX at eux
              unfold uY at euy
              have g1 : -4 ≤ dx ∧ dx ≤ 4 := by omega
              have g2 : -4 ≤ dy ∧ dy ≤ 4 := by omega
              have g3 : -20000000000 ≤ ux ∧ ux ≤ 20000000000 := by omega
              have g4 : -20000000000 ≤ uy ∧ uy ≤ 20000000000 := by omega
              have wr1 : IntKind.i64.wrap (pX q k - pX q 0) = dx := by rw [edx]; exact IntWalk.i64_in _ (by omega)
              have wr2 : IntKind.i64.wrap (pY q k - pY q 0) = dy := by rw [edy]; exact IntWalk.i64_in _ (by omega)
              have wr3 : IntKind.i64.wrap (vN v (2 * k) - vN v 0) = ux := by rw [eux]; exact IntWalk.i64_in _ (by omega)
              have wr4 : IntKind.i64.wrap (vN v (2 * k + 1) - vN v 1) = uy := by rw [euy]; exact IntWalk.i64_in _ (by omega)
              clear edx edy eux euy bx01 bx02 by01 by02 bxa1 bxa2 bya1 bya2 bv0 bv1 bva0 bva1
              have hgd := HGD.out
              have m1 := mulB (A := 20000000000) (B := 32) g3.1 g3.2 (show -32 ≤ den by have := hgd.1.2.1; omega) hgd.1.2.2
              have m2 := mulB (A := 160000000000) (B := 4) (show -160000000000 ≤ -num by have := hgd.2.1.2; omega) (show -num ≤ 160000000000 by have := hgd.2.1.1; omega) g2.1 g2.2
              have m3 := mulB (A := 20000000000) (B := 32) g4.1 g4.2 (show -32 ≤ den by have := hgd.1.2.1; omega) hgd.1.2.2
              have m4 := mulB (A := 160000000000) (B := 4) hgd.2.1.1 hgd.2.1.2 g1.1 g1.2
              obtain ⟨nn, enn⟩ : ∃ t, t = -num := ⟨_, rfl⟩
              have wn : IntKind.i64.wrap (-num) = nn := by rw [enn]; exact IntWalk.i64_in _ (by have := hgd.2.1.1; have := hgd.2.1.2; omega)
              have HTA := Lib.hid (show TrAt q v num den k ↔ (ux * den = nn * dy ∧ uy * den = num * dx) by unfold TrAt; rw [HD.out.1, HD.out.2.1, HD.out.2.2.1, HD.out.2.2.2, enn])
              rw [← enn] at m2
              clear enn hgd
              obtain ⟨t1, e1⟩ : ∃ t, t = ux * den := ⟨_, rfl⟩
              obtain ⟨t2, e2⟩ : ∃ t, t = nn * dy := ⟨_, rfl⟩
              obtain ⟨t3, e3⟩ : ∃ t, t = uy * den := ⟨_, rfl⟩
              obtain ⟨t4, e4⟩ : ∃ t, t = num * dx := ⟨_, rfl⟩
              have wm1 : IntKind.i64.wrap (ux * den) = t1 := by rw [e1]; exact IntWalk.i64_in _ (by omega)
              have wm2 : IntKind.i64.wrap (nn * dy) = t2 := by rw [e2]; exact IntWalk.i64_in _ (by omega)
              have wm3 : IntKind.i64.wrap (uy * den) = t3 := by rw [e3]; exact IntWalk.i64_in _ (by omega)
              have wm4 : IntKind.i64.wrap (num * dx) = t4 := by rw [e4]; exact IntWalk.i64_in _ (by omega)
              replace HTA := Lib.hid (show TrAt q v num den k ↔ (t1 = t2 ∧ t3 = t4) by rw [e1, e2, e3, e4]; exact HTA.out)
              clear e1 e2 e3 e4 m1 m2 m3 m4
              have hj1 : (2 * (k : Int)).toNat = 2 * k := by omega
              have hj2 : (2 * (k : Int) + 1).toNat = 2 * k + 1 := by omega
              have hvl := HVL.out
              have hm1 : (2 * (k : Int)) < (v.length : Int) := by omega
              have hm2 : (2 * (k : Int) + 1) < (v.length : Int) := by omega
              have hm5 : 0 ≤ (2 * (k : Int)) := by omega
              have hm6 : 0 ≤ (2 * (k : Int) + 1) := by omega
              have hm9 : (0 : Int) < (v.length : Int) := by omega
              have hm10 : (1 : Int) < (v.length : Int) := by omega
              have hk1 : (k : Int) < (q.length : Int) := by omega
              have hk3 : (0 : Int) < (q.length : Int) := by omega
              have hk4 : (0 : Int) ≤ (k : Int) := by omega
              have hw1 := IntWalk.i64_in (2 * (k : Int)) (by omega)
              have hw2 := IntWalk.i64_in (2 * (k : Int) + 1) (by omega)
              clear hvl
              obtain ⟨zBX, fBX0, fBX1, fBX2⟩ := BX1.out
              go_wp2_with fail
              have ba : Below wr.heap.size wr (wr.alloc (.cells #[.int .i64 (pX q k), .int .i64 (pY q k)] 54)) := (Below.refl _ _).alloc (Nat.le_refl _) _
              have BPq : Hid (BoxPl (wr.alloc (.cells #[.int .i64 (pX q k), .int .i64 (pY q k)] 54)) wr.heap.size (pX q k) (pY q k)) := Lib.hid (BoxPl.at rfl)
              have BX2 := Lib.hid (BX1.out.below ba)
              have q0x2 := ((bcell ba).1 _ _ hbq).trans q0x
              have q0y2 := ((bcell ba).1 _ _ hbq).trans q0y
              have v02 := ((bcell ba).1 _ _ hbv).trans v0
              have v12 := ((bcell ba).1 _ _ hbv).trans v1
              have va02 := ((bcell ba).1 _ _ hbv).trans va0
              have va12 := ((bcell ba).1 _ _ hbv).trans va1
              have hba := hb.step ba
              generalize (wr.alloc (.cells #[.int .i64 (pX q k), .int .i64 (pY q k)] 54)) = wq at *
              clear zBX fBX0 fBX1 fBX2 q0x q0y qax qay v0 v1 va0 va1 ba
              obtain ⟨zBX, fBX0, fBX1, fBX2⟩ := BX2.out
              obtain ⟨zBP, fBP0, fBP1⟩ := BPq.out
              go_quiet (fail)
              obtain ⟨n1, hn1⟩ : ∃ n1, n1 = nq := ⟨_, rfl⟩
              subst hn1
              go_wp2_with fail
              by_cases h1 : t1 = t2
              · by_cases h2 : t3 = t4
                · have HF1 := Lib.hid (HTA.out.2 ⟨h1, h2⟩)
                  have hbn : (t1 != t2) = false := by simpa using h1
                  have hbn2 : (t3 != t4) = false := by simpa using h2
                  clear HTA h1 h2
                  go_quiet (fail)
                  go_wp2_with fail
                  go_roundw
                  case rel => exact ⟨k + 1, by omega, by go_num, fun i' h => (by
                    rcases Nat.lt_succ_iff_lt_or_eq.1 h with h | rfl
                    · exact HA.out i' h
                    · exact HF1.out), (by repeat' (first | (with_reducible exact hba) | (with_reducible refine below_drewN ?_ _)))⟩
                  case measure => simp [intOf]; omega
                · have HE := Lib.hid (ret_bool (show trivB (p, l, q) v = false by rw [HT.out]; exact triv_no HGD.out hlt (fun h => h2 (HTA.out.1 h).2)))
                  have hbn : (t1 != t2) = false := by simpa using h1
                  have hbn2 : (t3 != t4) = true := by simpa using h2
                  clear HTA h1 h2
                  go_quiet (fail)
                  go_wp2_with fail
                  go_ret
                  exact ⟨HE.out.symm, B0.step (by repeat' (first | (with_reducible exact hba) | (with_reducible refine below_drewN ?_ _)))⟩
              · have HE := Lib.hid (ret_bool (show trivB (p, l, q) v = false by rw [HT.out]; exact triv_no HGD.out hlt (fun h => h1 (HTA.out.1 h).1)))
                have hbn : (t1 != t2) = true := by simpa using h1
                clear HTA h1
                go_quiet (fail)
                go_wp2_with fail
                go_ret
                exact ⟨HE.out.symm, B0.step (by repeat' (first | (with_reducible exact hba) | (with_reducible refine below_drewN ?_ _)))⟩
            · obtain rfl : k = q.length := by omega
              have hlti : ¬ (q.length : Int) < (q.length : Int) := by omega
              have HE := Lib.hid (ret_bool (show trivB (p, l, q) v = true by rw [HT.out]; exact triv_yes HGD.out HA.out))
              go_wp2_with fail
              go_ret
              exact ⟨HE.out.symm, B1⟩
      · have HGD := Lib.hid (HGD0.out (.inl h1))
        have hbn : (dx != 0) = true := by simpa using h1
        clear h1
        go_wp2_with fail
        go_quiet (fail)
        go_wp2_with fail
        have hb0 := below_drewN hba (n1 + nq)
        generalize (wq.drewN (n1 + nq)) = w0 at *
        clear zBX fBX0 fBX1 fBX2 zBP fBP0 fBP1 BPq q0x2 q0y2 v02 v12 va02 va12 wr1 wr2 wr3 wr4 wm1 wm2 wm3 wm4 wm5 wm6 hj1 hj2 hm1 hm2 hm5 hm6 hm9 hm10 hk1 hk3 hk4 hw1 hw2 g1 g2 g3 g4 hbn HA HMD HGD0 hba hb BX1 BX2 hlt hlti hkn
        have B0 := B.step hb0
        have BX0 := Lib.hid (BX.out.below hb0)
        
        go_loopw [84] (fun i w9 => ∃ k : Nat, k ≤ q.length ∧ i = .int .i64 k ∧ (∀ i', i' < k → TrAt q v num den i') ∧ Below w0.heap.size w0 w9) (fun i _ => q.length - (intOf i).toNat)
        case atStart => exact ⟨0, Nat.zero_le _, rfl, fun i' h => by omega, Below.refl _ _⟩
        case round =>
          obtain ⟨k, hkn, rfl, hall, hb⟩ := hrel
          have HA := Lib.hid hall
          clear hall
          have B1 := B0.step hb
          have BX1 := Lib.hid (BX0.out.below hb)
          by_cases hlt : k < q.length
          · have hlti : (k : Int) < (q.length : Int) := by omega
            obtain ⟨bq2, oq2, hab, hbq, hcq⟩ := placesAll (H2.out.below B1) (by omega)
            simp only [Option.some.injEq, Addr.mk.injEq, and_true] at hab
            obtain ⟨rfl, rfl⟩ := hab
            obtain ⟨bv2, ov2, hab, hbv, hcv⟩ := intsAll (HV.out.below B1) (by have := HVL.out; omega)
            simp only [Option.some.injEq, Addr.mk.injEq, and_true] at hab
            obtain ⟨rfl, rfl⟩ := hab
            obtain ⟨q0x, q0y⟩ := hcq 0 (by omega)
            obtain ⟨qax, qay⟩ := hcq k hlt
            have v0 := hcv 0 (by have := HVL.out; omega)
            have v1 := hcv 1 (by have := HVL.out; omega)
            have va0 := hcv (2 * k) (by have := HVL.out; omega)
            have va1 := hcv (2 * k + 1) (by have := HVL.out; omega)
            simp only [Nat.zero_mul, Nat.add_zero] at q0x q0y v0
            clear hcq hcv
            obtain ⟨⟨bx01, bx02⟩, by01, by02⟩ := HPQ.out 0 (by omega)
            obtain ⟨⟨bxa1, bxa2⟩, bya1, bya2⟩ := HPQ.out k hlt
            have bv0 := HVV.out 0 (by have := HVL.out; omega)
            have bv1 := HVV.out 1 (by have := HVL.out; omega)
            have bva0 := HVV.out (2 * k) (by have := HVL.out; omega)
            have bva1 := HVV.out (2 * k + 1) (by have := HVL.out; omega)
            obtain ⟨dx, edx⟩ : ∃ x, x = dX q k := ⟨_, rfl⟩
            obtain ⟨dy, edy⟩ : ∃ x, x = dY q k := ⟨_, rfl⟩
            obtain ⟨ux, eux⟩ : ∃ x, x = uX v k := ⟨_, rfl⟩
            obtain ⟨uy, euy⟩ : ∃ x, x = uY v k := ⟨_, rfl⟩
            have HD := Lib.hid (And.intro edx (And.intro edy (And.intro eux euy)))
            unfold dX at edx
            unfold dY at edy
            unfold uX at eux
            unfold uY at euy
            have g1 : -4 ≤ dx ∧ dx ≤ 4 := by omega
            have g2 : -4 ≤ dy ∧ dy ≤ 4 := by omega
            have g3 : -20000000000 ≤ ux ∧ ux ≤ 20000000000 := by omega
            have g4 : -20000000000 ≤ uy ∧ uy ≤ 20000000000 := by omega
            have wr1 : IntKind.i64.wrap (pX q k - pX q 0) = dx := by rw [edx]; exact IntWalk.i64_in _ (by omega)
            have wr2 : IntKind.i64.wrap (pY q k - pY q 0) = dy := by rw [edy]; exact IntWalk.i64_in _ (by omega)
            have wr3 : IntKind.i64.wrap (vN v (2 * k) - vN v 0) = ux := by rw [eux]; exact IntWalk.i64_in _ (by omega)
            have wr4 : IntKind.i64.wrap (vN v (2 * k + 1) - vN v 1) = uy := by rw [euy]; exact IntWalk.i64_in _ (by omega)
            clear edx edy eux euy bx01 bx02 by01 by02 bxa1 bxa2 bya1 bya2 bv0 bv1 bva0 bva1
            have hgd := HGD.out
            have m1 := mulB (A := 20000000000) (B := 32) g3.1 g3.2 (show -32 ≤ den by have := hgd.1.2.1; omega) hgd.1.2.2
            have m2 := mulB (A := 160000000000) (B := 4) (show -160000000000 ≤ -num by have := hgd.2.1.2; omega) (show -num ≤ 160000000000 by have := hgd.2.1.1; omega) g2.1 g2.2
            have m3 := mulB (A := 20000000000) (B := 32) g4.1 g4.2 (show -32 ≤ den by have := hgd.1.2.1; omega) hgd.1.2.2
            have m4 := mulB (A := 160000000000) (B := 4) hgd.2.1.1 hgd.2.1.2 g1.1 g1.2
            obtain ⟨nn, enn⟩ : ∃ t, t = -num := ⟨_, rfl⟩
            have wn : IntKind.i64.wrap (-num) = nn := by rw [enn]; exact IntWalk.i64_in _ (by have := hgd.2.1.1; have := hgd.2.1.2; omega)
            have HTA := Lib.hid (show TrAt q v num den k ↔ (ux * den = nn * dy ∧ uy * den = num * dx) by unfold TrAt; rw [HD.out.1, HD.out.2.1, HD.out.2.2.1, HD.out.2.2.2, enn])
            rw [← enn] at m2
            clear enn hgd
            obtain ⟨t1, e1⟩ : ∃ t, t = ux * den := ⟨_, rfl⟩
            obtain ⟨t2, e2⟩ : ∃ t, t = nn * dy := ⟨_, rfl⟩
            obtain ⟨t3, e3⟩ : ∃ t, t = uy * den := ⟨_, rfl⟩
            obtain ⟨t4, e4⟩ : ∃ t, t = num * dx := ⟨_, rfl⟩
            have wm1 : IntKind.i64.wrap (ux * den) = t1 := by rw [e1]; exact IntWalk.i64_in _ (by omega)
            have wm2 : IntKind.i64.wrap (nn * dy) = t2 := by rw [e2]; exact IntWalk.i64_in _ (by omega)
            have wm3 : IntKind.i64.wrap (uy * den) = t3 := by rw [e3]; exact IntWalk.i64_in _ (by omega)
            have wm4 : IntKind.i64.wrap (num * dx) = t4 := by rw [e4]; exact IntWalk.i64_in _ (by omega)
            replace HTA := Lib.hid (show TrAt q v num den k ↔ (t1 = t2 ∧ t3 = t4) by rw [e1, e2, e3, e4]; exact HTA.out)
            clear e1 e2 e3 e4 m1 m2 m3 m4
            have hj1 : (2 * (k : Int)).toNat = 2 * k := by omega
            have hj2 : (2 * (k : Int) + 1).toNat = 2 * k + 1 := by omega
            have hvl := HVL.out
            have hm1 : (2 * (k : Int)) < (v.length : Int) := by omega
            have hm2 : (2 * (k : Int) + 1) < (v.length : Int) := by omega
            have hm5 : 0 ≤ (2 * (k : Int)) := by omega
            have hm6 : 0 ≤ (2 * (k : Int) + 1) := by omega
            have hm9 : (0 : Int) < (v.length : Int) := by omega
            have hm10 : (1 : Int) < (v.length : Int) := by omega
            have hk1 : (k : Int) < (q.length : Int) := by omega
            have hk3 : (0 : Int) < (q.length : Int) := by omega
            have hk4 : (0 : Int) ≤ (k : Int) := by omega
            have hw1 := IntWalk.i64_in (2 * (k : Int)) (by omega)
            have hw2 := IntWalk.i64_in (2 * (k : Int) + 1) (by omega)
            clear hvl
            obtain ⟨zBX, fBX0, fBX1, fBX2⟩ := BX1.out
            go_wp2_with fail
            have ba : Below wr.heap.size wr (wr.alloc (.cells #[.int .i64 (pX q k), .int .i64 (pY q k)] 54)) := (Below.refl _ _).alloc (Nat.le_refl _) _
            have BPq : Hid (BoxPl (wr.alloc (.cells #[.int .i64 (pX q k), .int .i64 (pY q k)] 54)) wr.heap.size (pX q k) (pY q k)) := Lib.hid (BoxPl.at rfl)
            have BX2 := Lib.hid (BX1.out.below ba)
            have q0x2 := ((bcell ba).1 _ _ hbq).trans q0x
            have q0y2 := ((bcell ba).1 _ _ hbq).trans q0y
            have v02 := ((bcell ba).1 _ _ hbv).trans v0
            have v12 := ((bcell ba).1 _ _ hbv).trans v1
            have va02 := ((bcell ba).1 _ _ hbv).trans va0
            have va12 := ((bcell ba).1 _ _ hbv).trans va1
            have hba := hb.step ba
            generalize (wr.alloc (.cells #[.int .i64 (pX q k), .int .i64 (pY q k)] 54)) = wq at *
            clear zBX fBX0 fBX1 fBX2 q0x q0y qax qay v0 v1 va0 va1 ba
            obtain ⟨zBX, fBX0, fBX1, fBX2⟩ := BX2.out
            obtain ⟨zBP, fBP0, fBP1⟩ := BPq.out
            go_quiet (fail)
            obtain ⟨n1, hn1⟩ : ∃ n1, n1 = nq := ⟨_, rfl⟩
            subst hn1
            go_wp2_with fail
            by_cases h1 : t1 = t2
            · by_cases h2 : t3 = t4
              · have HF1 := Lib.hid (HTA.out.2 ⟨h1, h2⟩)
                have hbn : (t1 != t2) = false := by simpa using h1
                have hbn2 : (t3 != t4) = false := by simpa using h2
                clear HTA h1 h2
                go_quiet (fail)
                go_wp2_with fail
                go_roundw
                case rel => exact ⟨k + 1, by omega, by go_num, fun i' h => (by
                  rcases Nat.lt_succ_iff_lt_or_eq.1 h with h | rfl
                  · exact HA.out i' h
                  · exact HF1.out), (by repeat' (first | (with_reducible exact hba) | (with_reducible refine below_drewN ?_ _)))⟩
                case measure => simp [intOf]; omega
              · have HE := Lib.hid (ret_bool (show trivB (p, l, q) v = false by rw [HT.out]; exact triv_no HGD.out hlt (fun h => h2 (HTA.out.1 h).2)))
                have hbn : (t1 != t2) = false := by simpa using h1
                have hbn2 : (t3 != t4) = true := by simpa using h2
                clear HTA h1 h2
                go_quiet (fail)
                go_wp2_with fail
                go_ret
                exact ⟨HE.out.symm, B0.step (by repeat' (first | (with_reducible exact hba) | (with_reducible refine below_drewN ?_ _)))⟩
            · have HE := Lib.hid (ret_bool (show trivB (p, l, q) v = false by rw [HT.out]; exact triv_no HGD.out hlt (fun h => h1 (HTA.out.1 h).1)))
              have hbn : (t1 != t2) = true := by simpa using h1
              clear HTA h1
              go_quiet (fail)
              go_wp2_with fail
              go_ret
              exact ⟨HE.out.symm, B0.step (by repeat' (first | (with_reducible exact hba) | (with_reducible refine below_drewN ?_ _)))⟩
          · obtain rfl : k = q.length := by omega
            have hlti : ¬ (q.length : Int) < (q.length : Int) := by omega
            have HE := Lib.hid (ret_bool (show trivB (p, l, q) v = true by rw [HT.out]; exact triv_yes HGD.out HA.out))
            go_wp2_with fail
            go_ret
            exact ⟨HE.out.symm, B1⟩
    · obtain rfl : k = q.length := by omega
      have hlti : ¬ (q.length : Int) < (q.length : Int) := by omega
      obtain ⟨zBX, fBX0, fBX1, fBX2⟩ := BX1.out
      go_wp2_with fail
      clear zBX fBX0 fBX1 fBX2
      obtain ⟨w0, hw0⟩ : ∃ w0, w0 = wr := ⟨_, rfl⟩
      subst hw0
      have B0 := B1
      have BX0 := BX1
      have HGD : Hid (Good q v m0 d0) := Lib.hid (by rw [HMD.out.1, HMD.out.2]; exact good_none HA.out)
      generalize m0 = num at *
      generalize d0 = den at *
      clear hb B1 BX1 HA hlti HMD
      
      go_loopw [84] (fun i w9 => ∃ k : Nat, k ≤ q.length ∧ i = .int .i64 k ∧ (∀ i', i' < k → TrAt q v num den i') ∧ Below w0.heap.size w0 w9) (fun i _ => q.length - (intOf i).toNat)
      case atStart => exact ⟨0, Nat.zero_le _, rfl, fun i' h => by omega, Below.refl _ _⟩
      case round =>
        obtain ⟨k, hkn, rfl, hall, hb⟩ := hrel
        have HA := Lib.hid hall
        clear hall
        have B1 := B0.step hb
        have BX1 := Lib.hid (BX0.out.below hb)
        by_cases hlt : k < q.length
        · have hlti : (k : Int) < (q.length : Int) := by omega
          obtain ⟨bq, oq, rfl, hbq, hcq⟩ := placesAll (H2.out.below B1) (by omega)
          obtain ⟨bv, ov, rfl, hbv, hcv⟩ := intsAll (HV.out.below B1) (by have := HVL.out; omega)
          obtain ⟨q0x, q0y⟩ := hcq 0 (by omega)
          obtain ⟨qax, qay⟩ := hcq k hlt
          have v0 := hcv 0 (by have := HVL.out; omega)
          have v1 := hcv 1 (by have := HVL.out; omega)
          have va0 := hcv (2 * k) (by have := HVL.out; omega)
          have va1 := hcv (2 * k + 1) (by have := HVL.out; omega)
          simp only [Nat.zero_mul, Nat.add_zero] at q0x q0y v0
          clear hcq hcv
          obtain ⟨⟨bx01, bx02⟩, by01, by02⟩ := HPQ.out 0 (by omega)
          obtain ⟨⟨bxa1, bxa2⟩, bya1, bya2⟩ := HPQ.out k hlt
          have bv0 := HVV.out 0 (by have := HVL.out; omega)
          have bv1 := HVV.out 1 (by have := HVL.out; omega)
          have bva0 := HVV.out (2 * k) (by have := HVL.out; omega)
          have bva1 := HVV.out (2 * k + 1) (by have := HVL.out; omega)
          obtain ⟨dx, edx⟩ : ∃ x, x = dX q k := ⟨_, rfl⟩
          obtain ⟨dy, edy⟩ : ∃ x, x = dY q k := ⟨_, rfl⟩
          obtain ⟨ux, eux⟩ : ∃ x, x = uX v k := ⟨_, rfl⟩
          obtain ⟨uy, euy⟩ : ∃ x, x = uY v k := ⟨_, rfl⟩
          have HD := Lib.hid (And.intro edx (And.intro edy (And.intro eux euy)))
          unfold dX at edx
          unfold dY at edy
          unfold uX at eux
          unfold uY at euy
          have g1 : -4 ≤ dx ∧ dx ≤ 4 := by omega
          have g2 : -4 ≤ dy ∧ dy ≤ 4 := by omega
          have g3 : -20000000000 ≤ ux ∧ ux ≤ 20000000000 := by omega
          have g4 : -20000000000 ≤ uy ∧ uy ≤ 20000000000 := by omega
          have wr1 : IntKind.i64.wrap (pX q k - pX q 0) = dx := by rw [edx]; exact IntWalk.i64_in _ (by omega)
          have wr2 : IntKind.i64.wrap (pY q k - pY q 0) = dy := by rw [edy]; exact IntWalk.i64_in _ (by omega)
          have wr3 : IntKind.i64.wrap (vN v (2 * k) - vN v 0) = ux := by rw [eux]; exact IntWalk.i64_in _ (by omega)
          have wr4 : IntKind.i64.wrap (vN v (2 * k + 1) - vN v 1) = uy := by rw [euy]; exact IntWalk.i64_in _ (by omega)
          clear edx edy eux euy bx01 bx02 by01 by02 bxa1 bxa2 bya1 bya2 bv0 bv1 bva0 bva1
          have hgd := HGD.out
          have m1 := mulB (A := 20000000000) (B := 32) g3.1 g3.2 (show -32 ≤ den by have := hgd.1.2.1; omega) hgd.1.2.2
          have m2 := mulB (A := 160000000000) (B := 4) (show -160000000000 ≤ -num by have := hgd.2.1.2; omega) (show -num ≤ 160000000000 by have := hgd.2.1.1; omega) g2.1 g2.2
          have m3 := mulB (A := 20000000000) (B := 32) g4.1 g4.2 (show -32 ≤ den by have := hgd.1.2.1; omega) hgd.1.2.2
          have m4 := mulB (A := 160000000000) (B := 4) hgd.2.1.1 hgd.2.1.2 g1.1 g1.2
          obtain ⟨nn, enn⟩ : ∃ t, t = -num := ⟨_, rfl⟩
          have wn : IntKind.i64.wrap (-num) = nn := by rw [enn]; exact IntWalk.i64_in _ (by have := hgd.2.1.1; have := hgd.2.1.2; omega)
          have HTA := Lib.hid (show TrAt q v num den k ↔ (ux * den = nn * dy ∧ uy * den = num * dx) by unfold TrAt; rw [HD.out.1, HD.out.2.1, HD.out.2.2.1, HD.out.2.2.2, enn])
          rw [← enn] at m2
          clear enn hgd
          obtain ⟨t1, e1⟩ : ∃ t, t = ux * den := ⟨_, rfl⟩
          obtain ⟨t2, e2⟩ : ∃ t, t = nn * dy := ⟨_, rfl⟩
          obtain ⟨t3, e3⟩ : ∃ t, t = uy * den := ⟨_, rfl⟩
          obtain ⟨t4, e4⟩ : ∃ t, t = num * dx := ⟨_, rfl⟩
          have wm1 : IntKind.i64.wrap (ux * den) = t1 := by rw [e1]; exact IntWalk.i64_in _ (by omega)
          have wm2 : IntKind.i64.wrap (nn * dy) = t2 := by rw [e2]; exact IntWalk.i64_in _ (by omega)
          have wm3 : IntKind.i64.wrap (uy * den) = t3 := by rw [e3]; exact IntWalk.i64_in _ (by omega)
          have wm4 : IntKind.i64.wrap (num * dx) = t4 := by rw [e4]; exact IntWalk.i64_in _ (by omega)
          replace HTA := Lib.hid (show TrAt q v num den k ↔ (t1 = t2 ∧ t3 = t4) by rw [e1, e2, e3, e4]; exact HTA.out)
          clear e1 e2 e3 e4 m1 m2 m3 m4
          have hj1 : (2 * (k : Int)).toNat = 2 * k := by omega
          have hj2 : (2 * (k : Int) + 1).toNat = 2 * k + 1 := by omega
          have hvl := HVL.out
          have hm1 : (2 * (k : Int)) < (v.length : Int) := by omega
          have hm2 : (2 * (k : Int) + 1) < (v.length : Int) := by omega
          have hm5 : 0 ≤ (2 * (k : Int)) := by omega
          have hm6 : 0 ≤ (2 * (k : Int) + 1) := by omega
          have hm9 : (0 : Int) < (v.length : Int) := by omega
          have hm10 : (1 : Int) < (v.length : Int) := by omega
          have hk1 : (k : Int) < (q.length : Int) := by omega
          have hk3 : (0 : Int) < (q.length : Int) := by omega
          have hk4 : (0 : Int) ≤ (k : Int) := by omega
          have hw1 := IntWalk.i64_in (2 * (k : Int)) (by omega)
          have hw2 := IntWalk.i64_in (2 * (k : Int) + 1) (by omega)
          clear hvl
          obtain ⟨zBX, fBX0, fBX1, fBX2⟩ := BX1.out
          go_wp2_with fail
          have ba : Below wr.heap.size wr (wr.alloc (.cells #[.int .i64 (pX q k), .int .i64 (pY q k)] 54)) := (Below.refl _ _).alloc (Nat.le_refl _) _
          have BPq : Hid (BoxPl (wr.alloc (.cells #[.int .i64 (pX q k), .int .i64 (pY q k)] 54)) wr.heap.size (pX q k) (pY q k)) := Lib.hid (BoxPl.at rfl)
          have BX2 := Lib.hid (BX1.out.below ba)
          have q0x2 := ((bcell ba).1 _ _ hbq).trans q0x
          have q0y2 := ((bcell ba).1 _ _ hbq).trans q0y
          have v02 := ((bcell ba).1 _ _ hbv).trans v0
          have v12 := ((bcell ba).1 _ _ hbv).trans v1
          have va02 := ((bcell ba).1 _ _ hbv).trans va0
          have va12 := ((bcell ba).1 _ _ hbv).trans va1
          have hba := hb.step ba
          generalize (wr.alloc (.cells #[.int .i64 (pX q k), .int .i64 (pY q k)] 54)) = wq at *
          clear zBX fBX0 fBX1 fBX2 q0x q0y qax qay v0 v1 va0 va1 ba
          obtain ⟨zBX, fBX0, fBX1, fBX2⟩ := BX2.out
          obtain ⟨zBP, fBP0, fBP1⟩ := BPq.out
          go_quiet (fail)
          obtain ⟨n1, hn1⟩ : ∃ n1, n1 = nq := ⟨_, rfl⟩
          subst hn1
          go_wp2_with fail
          by_cases h1 : t1 = t2
          · by_cases h2 : t3 = t4
            · have HF1 := Lib.hid (HTA.out.2 ⟨h1, h2⟩)
              have hbn : (t1 != t2) = false := by simpa using h1
              have hbn2 : (t3 != t4) = false := by simpa using h2
              clear HTA h1 h2
              go_quiet (fail)
              go_wp2_with fail
              go_roundw
              case rel => exact ⟨k + 1, by omega, by go_num, fun i' h => (by
                rcases Nat.lt_succ_iff_lt_or_eq.1 h with h | rfl
                · exact HA.out i' h
                · exact HF1.out), (by repeat' (first | (with_reducible exact hba) | (with_reducible refine below_drewN ?_ _)))⟩
              case measure => simp [intOf]; omega
            · have HE := Lib.hid (ret_bool (show trivB (p, l, q) v = false by rw [HT.out]; exact triv_no HGD.out hlt (fun h => h2 (HTA.out.1 h).2)))
              have hbn : (t1 != t2) = false := by simpa using h1
              have hbn2 : (t3 != t4) = true := by simpa using h2
              clear HTA h1 h2
              go_quiet (fail)
              go_wp2_with fail
              go_ret
              exact ⟨HE.out.symm, B0.step (by repeat' (first | (with_reducible exact hba) | (with_reducible refine below_drewN ?_ _)))⟩
          · have HE := Lib.hid (ret_bool (show trivB (p, l, q) v = false by rw [HT.out]; exact triv_no HGD.out hlt (fun h => h1 (HTA.out.1 h).1)))
            have hbn : (t1 != t2) = true := by simpa using h1
            clear HTA h1
            go_quiet (fail)
            go_wp2_with fail
            go_ret
            exact ⟨HE.out.symm, B0.step (by repeat' (first | (with_reducible exact hba) | (with_reducible refine below_drewN ?_ _)))⟩
        · obtain rfl : k = q.length := by omega
          have hlti : ¬ (q.length : Int) < (q.length : Int) := by omega
          have HE := Lib.hid (ret_bool (show trivB (p, l, q) v = true by rw [HT.out]; exact triv_yes HGD.out HA.out))
          go_wp2_with fail
          go_ret
          exact ⟨HE.out.symm, B1⟩
end Go.Proofs.Ytfbmpkdjhhcnpaa

namespace Go.Proofs.Ytfbmpkdjhhcnpaa
open Go.RowKit Gr
set_option linter.unusedVariables false
theorem impl_IsTrivialMotion (W : World) (v0 : Value) (f : FwT) (h : IsFw W v0 f) (v1 : Value) (v : List Int) (hv : IsInts W v1 v) (hn : szFw f ≤ 1048576) (hvn : v.length ≤ 1048576) :
    Calls Try.prog 12 #[v0, v1] W fun e w' => e = .returned (.bool (trivB f v)) ∧ Below W.heap.size W w' := by
  obtain ⟨p, l, q⟩ := f
  obtain ⟨a, cap, c, capc, rfl, hi, hj⟩ := h
  obtain ⟨va, vcap, rfl, hvi⟩ := hv
  exact implTrv_at _ _ _ _ _ _ _ _ hi hj hn _ _ _ _ hvi hvn
end Go.Proofs.Ytfbmpkdjhhcnpaa

namespace Go.Proofs.Ytfbmpkdjhhcnpaa
open Go.RowKit Gr
set_option maxRecDepth 100000
set_option linter.unusedVariables false
set_option linter.unusedSimpArgs false

theorem OwnIntss.row {W : World} {base : Nat} {v : Value} {ll : List (List Int)} (h : OwnIntss W base v ll) {k : Nat} (hk : k < ll.length) :
    ∃ g cap ar cr r, v = .slice (some ⟨g, 0, none⟩) ll.length cap ∧ g < W.heap.size ∧ W.cell? ⟨g, k, none⟩ = some (.slice ar r.length cr) ∧ ll[k]? = some r ∧ OwnInts W base (.slice ar r.length cr) r := by
  obtain ⟨vs, ho, hr⟩ := h
  have ho2 := ho
  rcases ho.2 with ⟨rfl, h0⟩ | ⟨g, cap, cur, rfl, hb, hg, hnc, hcm, hcs, htake⟩
  · omega
  · obtain ⟨u, r, hu, hrr, hor⟩ := hr.get hk
    have hc := World.ownsRow.cellAt (w := W) (base := base) ho2 k (by omega)
    obtain ⟨ar, cr, rfl, hi⟩ := hor.form
    exact ⟨g, cap, ar, cr, r, rfl, (World.ownsRow.lt ho2 g rfl).2, by rw [← hu, ← hc], hrr, hor⟩
def fmL (f : FwT) : Option (List Int) := (motL f).find? (fun v => !trivB f v)
def fmV (f : FwT) : List Int := (fmL f).getD []
def fmOk (f : FwT) : Bool := (fmL f).isSome
theorem fm_at {f : FwT} {k : Nat} {r : List Int} (hk : (motL f)[k]? = some r) (hall : ∀ x ∈ (motL f).take k, trivB f x = true) (h : trivB f r = false) : fmL f = some r := by
  have hl := lt_of_getElem? hk
  have e : motL f = (motL f).take k ++ r :: (motL f).drop (k + 1) := by
    rw [← (List.getElem?_eq_some_iff.1 hk).2, ← List.drop_eq_getElem_cons hl, List.take_append_drop]
  unfold fmL
  rw [e, List.find?_append, List.find?_eq_none.2 (by intro x hx; simp [hall x hx])]
  simp [h]
theorem fm_none {f : FwT} (hall : ∀ x ∈ motL f, trivB f x = true) : fmL f = none := by
  unfold fmL
  rw [List.find?_eq_none]
  intro x hx
  simp [hall x hx]
theorem row_sz : ∀ {ll : List (List Int)} {r : List Int}, r ∈ ll → r.length ≤ szIntss ll
  | x :: t, r, h => by
    rcases List.mem_cons.1 h with rfl | h
    · simp [szIntss, sumLen]; omega
    · have := row_sz (ll := t) h
      simp [szIntss, sumLen] at this ⊢; omega
def RetFm (W : World) (f : FwT) (e : Ending) (w' : World) : Prop := ∃ vo, e = .returned (.tuple #[vo, .bool (fmOk f)]) ∧ OwnInts w' W.heap.size vo (fmV f) ∧ Below W.heap.size W w'

set_option maxHeartbeats 4000000 in
theorem specFm_at (W : World) (p : Int) (a : Option Addr) (cap : Nat) (l : List BarT) (c : Option Addr) (capc : Nat) (q : List PlaceT) (h : BarsAt W a l.length l) (hq : PlacesAt W c q.length q) (hs : l.length + q.length ≤ 1048576) :
    Calls Try.prog 23 #[.agg #[.int .i64 p, .slice a l.length cap, .slice c q.length capc]] W (RetFm W (p, l, q)) := by
  have hwd := @Wd.cells
  have HFw : Hid (IsFw W (.agg #[.int .i64 p, .slice a l.length cap, .slice c q.length capc]) (p, l, q)) := Lib.hid ⟨a, cap, c, capc, rfl, h, hq⟩
  have H1 := Lib.hid h
  have H2 := Lib.hid hq
  clear h hq
  have hsz : szFw (p, l, q) ≤ 1048576 := hs
  have hs1 : l.length ≤ 1048576 := by omega
  have hs2 : q.length ≤ 1048576 := by omega
  have B : Below W.heap.size W (W.alloc (.cells #[.int .i64 p, .slice a l.length cap, .slice c q.length capc] 29)) := (Below.refl _ _).alloc (Nat.le_refl _) _
  have BX : Hid (BoxFw (W.alloc (.cells #[.int .i64 p, .slice a l.length cap, .slice c q.length capc] 29)) W.heap.size p a l.length cap c q.length capc) := Lib.hid (BoxFw.at rfl)
  have HCT := Lib.hid (fun (w1 : World) (b : Below W.heap.size W w1) (u : Value) (r : List Int) (hu : IsInts w1 u r) (hr : r.length ≤ 1048576) => spec_IsTrivialMotion w1 _ (p, l, q) (HFw.out.below b) u r hu hsz hr)
  go_enter Try.func23, Try.ntmps23
  go_wp2_with fail
  generalize (W.alloc (.cells #[.int .i64 p, .slice a l.length cap, .slice c q.length capc] 29)) = u at *
  obtain ⟨zBX, fBX0, fBX1, fBX2⟩ := BX.out
  refine (spec_MotionsOf _ _ (p, l, q) (HFw.out.below B) hsz).mono ?_
  rintro e w1 ⟨vm, rfl, ho, b⟩
  have hzb := B.size
  have hz1 := b.size
  replace B := B.step b
  clear zBX fBX0 fBX1 fBX2
  replace BX := Lib.hid (BX.out.below b)
  clear b
  have hms := motL_sz (p, l, q)
  generalize hll : motL (p, l, q) = ll at *
  have HLL := Lib.hid hll
  have hlen : ll.length ≤ 1048576 := by unfold szIntss at hms; omega
  have HMS := Lib.hid (fun r (hr : r ∈ ll) => Nat.le_trans (row_sz hr) hms)
  clear hll hms
  obtain ⟨am, cm, rfl, _⟩ := ho.form
  have HO := Lib.hid ho
  clear ho
  go_wp2_with fail
  go_loopw [5] (fun i w9 => ∃ k : Nat, k ≤ ll.length ∧ i = .int .i64 k ∧ (∀ x ∈ ll.take k, trivB (p, l, q) x = true) ∧ Below w1.heap.size w1 w9) (fun i _ => ll.length - (intOf i).toNat)
  case atStart => exact ⟨0, Nat.zero_le _, rfl, fun x hx => by simp at hx, Below.refl _ _⟩
  case round =>
    obtain ⟨k, hkn, rfl, hall, hb⟩ := hrel
    have HA := Lib.hid hall
    clear hall
    have B1 := B.step hb
    have hz2 := hb.size
    have BX1 := Lib.hid (BX.out.below hb)
    have HO1 := Lib.hid (HO.out.below hb)
    by_cases hlt : k < ll.length
    · have hlti : (k : Int) < (ll.length : Int) := by omega
      have hk0 : (0 : Int) ≤ (k : Int) := by omega
      obtain ⟨g, cap', ar, cr, r, hv, hg, hc, hr, hor⟩ := HO1.out.row hlt
      simp only [Value.slice.injEq, true_and] at hv
      obtain ⟨rfl, rfl⟩ := hv
      have HR := Lib.hid hr
      have HRL := Lib.hid (HMS.out r (List.mem_of_getElem? hr))
      have HOR := Lib.hid hor
      clear hr hor
      obtain ⟨zBX, fBX0, fBX1, fBX2⟩ := BX1.out
      have HCC : Hid (∀ w9, Below wr.heap.size wr w9 → Calls Try.prog 27 #[.agg #[.int .i64 p, .slice a l.length cap, .slice c q.length capc], .slice ar r.length cr] w9 fun e w' => e = .returned (.bool (trivB (p, l, q) r)) ∧ Below w9.heap.size w9 w') := Lib.hid fun w9 b => HCT.out w9 (B1.step b) _ r (HOR.out.below b).form HRL.out
      cases htr : trivB (p, l, q) r
      · have HE := Lib.hid (fm_at (by rw [HLL.out]; exact HR.out) (by rw [HLL.out]; exact HA.out) htr)
        rw [htr] at HCC
        go_wp2_with fail
        refine wp_region_wd (by kernel_rfl) (by kernel_rfl) ?_
        repeat (go_big_quiet_step (first | (go_at_call 27; exact Calls.wd_of (HCC.out _ (Wd.h _)))))
        refine wpQuiet_nil ?_
        intro n1
        have b := n1.h
        have hc2 := ((bcell b).1 _ _ hg).trans hc
        have HOR2 := Lib.hid (HOR.out.below b)
        go_wp2_with fail
        go_ret2
        exact ⟨_, by rw [show fmOk (p, l, q) = true by unfold fmOk; rw [HE.out]; rfl]; rfl, by rw [show fmV (p, l, q) = r by unfold fmV; rw [HE.out]; rfl]; exact ownsRow_base HOR2.out (by omega), B1.step b⟩
      · have HF1 := Lib.hid htr
        rw [htr] at HCC
        clear htr
        go_wp2_with fail
        refine wp_region_wd (by kernel_rfl) (by kernel_rfl) ?_
        repeat (go_big_quiet_step (first | (go_at_call 27; exact Calls.wd_of (HCC.out _ (Wd.h _)))))
        refine wpQuiet_nil ?_
        intro n1
        have b := n1.h
        have hb2 := hb.step b
        go_wp2_with fail
        go_roundw
        case rel => exact ⟨k + 1, by omega, by go_num, fun x hx => (by
          rw [take_succ_of HR.out] at hx
          rcases List.mem_append.1 hx with h | h
          · exact HA.out x h
          · simp at h; subst h; exact HF1.out), hb2⟩
        case measure => simp [intOf]; omega
    · obtain rfl : k = ll.length := by omega
      have hlti : ¬ (ll.length : Int) < (ll.length : Int) := by omega
      have HE := Lib.hid (fm_none (f := (p, l, q)) (by rw [HLL.out]; have h := HA.out; rwa [List.take_length] at h))
      go_wp2_with fail
      go_ret2
      exact ⟨_, by rw [show fmOk (p, l, q) = false by unfold fmOk; rw [HE.out]; rfl]; rfl, by rw [show fmV (p, l, q) = [] by unfold fmV; rw [HE.out]; rfl]; exact ownsRow_base (OwnInts.made _ _ (Nat.le_refl _)) B1.size, B1.step ((Below.refl _ _).alloc (Nat.le_refl _) _)⟩

set_option maxHeartbeats 4000000 in
theorem implFm_at (W : World) (p : Int) (a : Option Addr) (cap : Nat) (l : List BarT) (c : Option Addr) (capc : Nat) (q : List PlaceT) (h : BarsAt W a l.length l) (hq : PlacesAt W c q.length q) (hs : l.length + q.length ≤ 1048576) :
    Calls Try.prog 22 #[.agg #[.int .i64 p, .slice a l.length cap, .slice c q.length capc]] W (RetFm W (p, l, q)) := by
  have hwd := @Wd.cells
  have HFw : Hid (IsFw W (.agg #[.int .i64 p, .slice a l.length cap, .slice c q.length capc]) (p, l, q)) := Lib.hid ⟨a, cap, c, capc, rfl, h, hq⟩
  have H1 := Lib.hid h
  have H2 := Lib.hid hq
  clear h hq
  have hsz : szFw (p, l, q) ≤ 1048576 := hs
  have hs1 : l.length ≤ 1048576 := by omega
  have hs2 : q.length ≤ 1048576 := by omega
  have B : Below W.heap.size W (W.alloc (.cells #[.int .i64 p, .slice a l.length cap, .slice c q.length capc] 29)) := (Below.refl _ _).alloc (Nat.le_refl _) _
  have BX : Hid (BoxFw (W.alloc (.cells #[.int .i64 p, .slice a l.length cap, .slice c q.length capc] 29)) W.heap.size p a l.length cap c q.length capc) := Lib.hid (BoxFw.at rfl)
  have HCT := Lib.hid (fun (w1 : World) (b : Below W.heap.size W w1) (u : Value) (r : List Int) (hu : IsInts w1 u r) (hr : r.length ≤ 1048576) => impl_IsTrivialMotion w1 _ (p, l, q) (HFw.out.below b) u r hu hsz hr)
  go_enter Try.func22, Try.ntmps22
  go_wp2_with fail
  generalize (W.alloc (.cells #[.int .i64 p, .slice a l.length cap, .slice c q.length capc] 29)) = u at *
  obtain ⟨zBX, fBX0, fBX1, fBX2⟩ := BX.out
  refine (impl_MotionsOf _ _ (p, l, q) (HFw.out.below B) hsz).mono ?_
  rintro e w1 ⟨vm, rfl, ho, b⟩
  have hzb := B.size
  have hz1 := b.size
  replace B := B.step b
  clear zBX fBX0 fBX1 fBX2
  replace BX := Lib.hid (BX.out.below b)
  clear b
  have hms := motL_sz (p, l, q)
  generalize hll : motL (p, l, q) = ll at *
  have HLL := Lib.hid hll
  have hlen : ll.length ≤ 1048576 := by unfold szIntss at hms; omega
  have HMS := Lib.hid (fun r (hr : r ∈ ll) => Nat.le_trans (row_sz hr) hms)
  clear hll hms
  obtain ⟨am, cm, rfl, _⟩ := ho.form
  have HO := Lib.hid ho
  clear ho
  go_wp2_with fail
  go_loopw [9] (fun i w9 => ∃ k : Nat, k ≤ ll.length ∧ i = .int .i64 k ∧ (∀ x ∈ ll.take k, trivB (p, l, q) x = true) ∧ Below w1.heap.size w1 w9) (fun i _ => ll.length - (intOf i).toNat)
  case atStart => exact ⟨0, Nat.zero_le _, rfl, fun x hx => by simp at hx, Below.refl _ _⟩
  case round =>
    obtain ⟨k, hkn, rfl, hall, hb⟩ := hrel
    have HA := Lib.hid hall
    clear hall
    have B1 := B.step hb
    have hz2 := hb.size
    have BX1 := Lib.hid (BX.out.below hb)
    have HO1 := Lib.hid (HO.out.below hb)
    by_cases hlt : k < ll.length
    · have hlti : (k : Int) < (ll.length : Int) := by omega
      have hk0 : (0 : Int) ≤ (k : Int) := by omega
      obtain ⟨g, cap', ar, cr, r, hv, hg, hc, hr, hor⟩ := HO1.out.row hlt
      simp only [Value.slice.injEq, true_and] at hv
      obtain ⟨rfl, rfl⟩ := hv
      have HR := Lib.hid hr
      have HRL := Lib.hid (HMS.out r (List.mem_of_getElem? hr))
      have HOR := Lib.hid hor
      clear hr hor
      obtain ⟨zBX, fBX0, fBX1, fBX2⟩ := BX1.out
      have HCC : Hid (∀ w9, Below wr.heap.size wr w9 → Calls Try.prog 12 #[.agg #[.int .i64 p, .slice a l.length cap, .slice c q.length capc], .slice ar r.length cr] w9 fun e w' => e = .returned (.bool (trivB (p, l, q) r)) ∧ Below w9.heap.size w9 w') := Lib.hid fun w9 b => HCT.out w9 (B1.step b) _ r (HOR.out.below b).form HRL.out
      cases htr : trivB (p, l, q) r
      · have HE := Lib.hid (fm_at (by rw [HLL.out]; exact HR.out) (by rw [HLL.out]; exact HA.out) htr)
        rw [htr] at HCC
        go_wp2_with fail
        refine (HCC.out _ (Below.refl _ _)).mono ?_
        rintro e w3 ⟨rfl, b⟩
        have hc2 := ((bcell b).1 _ _ hg).trans hc
        have HOR2 := Lib.hid (HOR.out.below b)
        go_wp2_with fail
        go_ret2
        exact ⟨_, by rw [show fmOk (p, l, q) = true by unfold fmOk; rw [HE.out]; rfl]; rfl, by rw [show fmV (p, l, q) = r by unfold fmV; rw [HE.out]; rfl]; exact ownsRow_base HOR2.out (by omega), B1.step b⟩
      · have HF1 := Lib.hid htr
        rw [htr] at HCC
        clear htr
        go_wp2_with fail
        refine (HCC.out _ (Below.refl _ _)).mono ?_
        rintro e w3 ⟨rfl, b⟩
        have hb2 := hb.step b
        go_wp2_with fail
        go_roundw
        case rel => exact ⟨k + 1, by omega, by go_num, fun x hx => (by
          rw [take_succ_of HR.out] at hx
          rcases List.mem_append.1 hx with h | h
          · exact HA.out x h
          · simp at h; subst h; exact HF1.out), hb2⟩
        case measure => simp [intOf]; omega
    · obtain rfl : k = ll.length := by omega
      have hlti : ¬ (ll.length : Int) < (ll.length : Int) := by omega
      have HE := Lib.hid (fm_none (f := (p, l, q)) (by rw [HLL.out]; have h := HA.out; rwa [List.take_length] at h))
      go_wp2_with fail
      go_ret2
      exact ⟨_, by rw [show fmOk (p, l, q) = false by unfold fmOk; rw [HE.out]; rfl]; rfl, by rw [show fmV (p, l, q) = [] by unfold fmV; rw [HE.out]; rfl]; exact ownsRow_base (OwnInts.made _ _ (Nat.le_refl _)) B1.size, B1.step ((Below.refl _ _).alloc (Nat.le_refl _) _)⟩

theorem spec_FindMotion (W : World) (v : Value) (f : FwT) (h : IsFw W v f) (hn : szFw f ≤ 1048576) : Calls Try.prog 23 #[v] W (RetFm W f) := by
  obtain ⟨p, l, q⟩ := f
  obtain ⟨a, cap, c, capc, rfl, hi, hj⟩ := h
  exact specFm_at _ _ _ _ _ _ _ _ hi hj hn

theorem impl_FindMotion (W : World) (v : Value) (f : FwT) (h : IsFw W v f) (hn : szFw f ≤ 1048576) : Calls Try.prog 22 #[v] W (RetFm W f) := by
  obtain ⟨p, l, q⟩ := f
  obtain ⟨a, cap, c, capc, rfl, hi, hj⟩ := h
  exact implFm_at _ _ _ _ _ _ _ _ hi hj hn

theorem fmV_len (f : FwT) : (fmV f).length ≤ 1048576 := by
  unfold fmV
  cases h : fmL f with
  | none => decide
  | some r =>
    have hm := List.mem_of_find?_eq_some h
    exact Nat.le_trans (row_sz hm) (motL_sz f)
end Go.Proofs.Ytfbmpkdjhhcnpaa

namespace Go.Proofs.Ytfbmpkdjhhcnpaa
open Go.RowKit
set_option maxRecDepth 100000
set_option linter.unusedVariables false
set_option linter.unusedSimpArgs false

end Go.Proofs.Ytfbmpkdjhhcnpaa


