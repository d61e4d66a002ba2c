/- IsTrivialMotion of the reference. No condition but sizes. -/
import Derived.Test.YtkjoeogoebpkjaaTrv
import Derived.Deep.RegionHeld3
namespace Go.Proofs.Ytkjoeogoebpkjaa
open Go.RowKit Gr
set_option maxRecDepth 100000
set_option linter.unusedVariables false
set_option linter.unusedSimpArgs false

theorem changeF_pair {p : Int} {l : List BarT} {q : List PlaceT} {v : List Int} (h : velB (p, l, q) v = true) {a b : Nat} (ha : a < q.length) (hb : b < q.length) :
    changeF (p, l, q) v (a : Int) (b : Int) = (dX q a - dX q b) * (uX v a - uX v b) + (dY q a - dY q b) * (uY v a - uY v b) := by
  obtain ⟨⟨hg1, hg2⟩, hqp, hvl, hf, hpq, hvv⟩ := velB_facts h
  obtain ⟨⟨x1, x2⟩, x3, x4⟩ := hpq a ha
  obtain ⟨⟨x5, x6⟩, x7, x8⟩ := hpq b hb
  have v1 := hvv (2 * a) (by omega)
  have v2 := hvv (2 * a + 1) (by omega)
  have v3 := hvv (2 * b) (by omega)
  have v4 := hvv (2 * b + 1) (by omega)
  have e1 : changeF (p, l, q) v (a : Int) (b : Int) = chg (pX q a) (pY q a) (pX q b) (pY q b) (vN v (2 * a)) (vN v (2 * a + 1)) (vN v (2 * b)) (vN v (2 * b + 1)) := by
    have ha' : decide ((0 : Int) ≤ (a : Int)) = true := decide_eq_true (by omega)
    have hb' : decide ((0 : Int) ≤ (b : Int)) = true := decide_eq_true (by omega)
    have hc' : decide ((a : Int) < p) = true := decide_eq_true (by omega)
    have hd' : decide ((b : Int) < p) = true := decide_eq_true (by omega)
    simp only [changeF, h, ha', hb', hc', hd', Bool.and_self, if_true, Int.toNat_natCast]
    rfl
  have e2 : dX q a - dX q b = pX q a - pX q b := by unfold dX; omega
  have e3 : dY q a - dY q b = pY q a - pY q b := by unfold dY; omega
  have e4 : uX v a - uX v b = vN v (2 * a) - vN v (2 * b) := by unfold uX; omega
  have e5 : uY v a - uY v b = vN v (2 * a + 1) - vN v (2 * b + 1) := by unfold uY; omega
  rw [e1, e2, e3, e4, e5]
  have m1 := mul4 (x := pX q a - pX q b) (y := vN v (2 * a) - vN v (2 * b)) (M := 20000000000) (by omega) (by omega) (by omega) (by omega)
  have m2 := mul4 (x := pY q a - pY q b) (y := vN v (2 * a + 1) - vN v (2 * b + 1)) (M := 20000000000) (by omega) (by omega) (by omega) (by omega)
  have w : ∀ z : Int, -9000000000000000000 ≤ z → z ≤ 9000000000000000000 → wrap64 z = z := fun z h1 h2 => IntWalk.wrap64_in z (by omega)
  unfold chg
  rw [w (pX q a - pX q b) (by omega) (by omega), w (pY q a - pY q b) (by omega) (by omega), w (vN v (2 * a) - vN v (2 * b)) (by omega) (by omega), w (vN v (2 * a + 1) - vN v (2 * b + 1)) (by omega) (by omega)]
  rw [w ((pX q a - pX q b) * (vN v (2 * a) - vN v (2 * b))) (by omega) (by omega), w ((pY q a - pY q b) * (vN v (2 * a + 1) - vN v (2 * b + 1))) (by omega) (by omega)]
  exact w _ (by omega) (by omega)

set_option maxHeartbeats 8000000 in
theorem specTrv_at (W : World) (p : Int) (a : Option Addr) (cap : Nat) (l : List BarT) (c : Option Addr) (capc : Nat) (q : List PlaceT) (h : BarsAt W a l.length l) (hq : PlacesAt W c q.length q) (hs : l.length + q.length ≤ 1048576) (va : Option Addr) (n vcap : Nat) (v : List Int) (hv : IntsAt W va n v) (hvn : n ≤ 1048576) :
    Calls Try.prog 31 #[.agg #[.int .i64 p, .slice a l.length cap, .slice c q.length capc], .slice va n vcap] W fun e w' => e = .returned (.bool (trivB (p, l, q) v)) ∧ Below W.heap.size W w' := by
  have hwd := @Wd.cells
  have HFw : Hid (IsFw W (.agg #[.int .i64 p, .slice a l.length cap, .slice c q.length capc]) (p, l, q)) := Lib.hid ⟨a, cap, c, capc, rfl, h, hq⟩
  have H1 := Lib.hid h
  have H2 := Lib.hid hq
  clear h hq
  have hsz : szFw (p, l, q) ≤ 1048576 := hs
  have hs1 : l.length ≤ 1048576 := by omega
  have hs2 : q.length ≤ 1048576 := by omega
  have B : Below W.heap.size W (W.alloc (.cells #[.int .i64 p, .slice a l.length cap, .slice c q.length capc] 42)) := (Below.refl _ _).alloc (Nat.le_refl _) _
  have BX : Hid (BoxFw (W.alloc (.cells #[.int .i64 p, .slice a l.length cap, .slice c q.length capc] 42)) W.heap.size p a l.length cap c q.length capc) := Lib.hid (BoxFw.at rfl)
  obtain rfl := hv.1
  have HV := Lib.hid hv
  clear hv
  have hvn2 : v.length ≤ 1099511627776 := by omega
  have HC := Lib.hid (fun (w1 : World) (b : Below W.heap.size W w1) => l12Vector_at w1 p a cap l c capc q (H1.out.below b) (H2.out.below b) hs1 hs2 hs va v.length vcap v (HV.out.below b) hvn2)
  cases hvel : velB (p, l, q) v
  · have HE := Lib.hid (ret_bool (show trivB (p, l, q) v = false by simp only [trivB, hvel, Bool.false_and]))
    rw [hvel] at HC
    go_enter Try.func31, Try.ntmps31
    go_wp2_with fail
    generalize (W.alloc (.cells #[.int .i64 p, .slice a l.length cap, .slice c q.length capc] 42)) = u at *
    go_loopw [5] (fun i w9 => i = .int .i64 0 ∧ u = w9) (fun _ _ => 0)
    case atStart => exact ⟨rfl, rfl⟩
    case round =>
      obtain ⟨rfl, rfl⟩ := hrel
      obtain ⟨zBX, fBX0, fBX1, fBX2⟩ := BX.out
      by_cases h0 : 0 < p
      · go_wp2_with fail
        refine (HC.out _ B).mono ?_
        rintro e w1 ⟨rfl, b⟩
        replace B := B.step b
        clear zBX fBX0 fBX1 fBX2
        replace BX := Lib.hid (BX.out.below b)
        clear b
        obtain ⟨zBX, fBX0, fBX1, fBX2⟩ := BX.out
        go_wp2_with fail
        refine (HC.out _ B).mono ?_
        rintro e w2 ⟨rfl, b⟩
        replace B := B.step b
        clear b
        go_wp2_with fail
        go_ret
        exact ⟨HE.out.symm, B⟩
      · go_wp2_with fail
        refine (HC.out _ B).mono ?_
        rintro e w2 ⟨rfl, b⟩
        replace B := B.step b
        clear b
        go_wp2_with fail
        go_ret
        exact ⟨HE.out.symm, B⟩
  rw [hvel] at HC
  have HT := Lib.hid (show trivB (p, l, q) v = (pairB q v && flatB q v) by simp only [trivB, hvel, Bool.true_and])
  have HPR := Lib.hid (fun (a b : Nat) (ha : a < q.length) (hb : b < q.length) => changeF_pair hvel ha hb)
  have HCH := Lib.hid (fun (w1 : World) (b : Below W.heap.size W w1) (i j : Int) => specChange_at w1 p a cap l c capc q (H1.out.below b) (H2.out.below b) hs va v.length vcap v (HV.out.below b) hvn2 i j)
  have HFL := Lib.hid (fun (w1 : World) (b : Below W.heap.size W w1) => specFlat_at w1 p a cap l c capc q (H1.out.below b) (H2.out.below b) hs va v.length vcap v (HV.out.below b) hvn hvel)
  obtain ⟨⟨hg1, hg2⟩, hqp, hvl, hf, hpq, hvv⟩ := velB_facts hvel
  have HQP := Lib.hid hqp
  have hq0 : 0 < q.length := by omega
  have HVL := Lib.hid hvl
  clear hf hpq hvv hvl hvel hqp
  obtain ⟨aa, haa⟩ : ∃ x, x = a := ⟨_, rfl⟩
  subst haa
  go_enter Try.func31, Try.ntmps31
  go_wp2_with fail
  generalize (W.alloc (.cells #[.int .i64 p, .slice aa l.length cap, .slice c q.length capc] 42)) = u at *
  go_loopw [5] (fun i w9 => ∃ a : Nat, a ≤ q.length ∧ i = .int .i64 a ∧ (∀ a', a' < a → ∀ b, b < a' → PairAt q v a' b) ∧ Below u.heap.size u w9) (fun i _ => q.length - (intOf i).toNat)
  case atStart => exact ⟨0, Nat.zero_le _, rfl, fun a' h1 b h2 => by omega, Below.refl _ _⟩
  case round =>
    obtain ⟨a, han, rfl, hall, hb⟩ := hrel
    have HA := Lib.hid hall
    clear hall
    have B1 := B.step hb
    have BX1 := Lib.hid (BX.out.below hb)
    obtain ⟨zBX, fBX0, fBX1, fBX2⟩ := BX1.out
    by_cases hlt : a < q.length
    · have hlti : (a : Int) < p := by have := HQP.out; omega
      go_wp2_with fail
      refine (HC.out _ B1).mono ?_
      rintro e w1 ⟨rfl, b⟩
      replace B1 := B1.step b
      clear zBX fBX0 fBX1 fBX2
      replace BX1 := Lib.hid (BX1.out.below b)
      have HBU := Lib.hid (hb.step b)
      clear b hb
      go_wp2_with fail
      obtain ⟨wo, hwo⟩ : ∃ wo, wo = w1 := ⟨_, rfl⟩
      subst hwo
      go_loopw [6] (fun i w9 => ∃ b : Nat, b ≤ a ∧ i = .int .i64 b ∧ (∀ b', b' < b → PairAt q v a b') ∧ Below wo.heap.size wo w9) (fun i _ => a - (intOf i).toNat)
      case atStart => exact ⟨0, Nat.zero_le _, rfl, fun b' h1 => by omega, Below.refl _ _⟩
      case round =>
        obtain ⟨b, hba, rfl, hall, hb⟩ := hrel
        have HB := Lib.hid hall
        clear hall
        have B2 := B1.step hb
        have hbo := hb
        have BX2 := Lib.hid (BX1.out.below hb)
        clear hb
        by_cases hlb : b < a
        · have hlbi : (b : Int) < (a : Int) := by omega
          obtain ⟨bq, oq, rfl, hbq, hcq⟩ := placesAll (H2.out.below B2) (by omega)
          obtain ⟨bv, ov, rfl, hbv, hcv⟩ := intsAll (HV.out.below B2) (by have := HVL.out; omega)
          obtain ⟨qax, qay⟩ := hcq a hlt
          obtain ⟨qbx, qby⟩ := hcq b (by omega)
          have va0 := hcv (2 * a) (by have := HVL.out; omega)
          have va1 := hcv (2 * a + 1) (by have := HVL.out; omega)
          have vb0 := hcv (2 * b) (by have := HVL.out; omega)
          have vb1 := hcv (2 * b + 1) (by have := HVL.out; omega)
          clear hcq hcv
          obtain ⟨cc, ecc⟩ : ∃ x, x = changeF (p, l, q) v (a : Int) (b : Int) := ⟨_, rfl⟩
          have HCC := Lib.hid ecc
          have HPA : Hid (PairAt q v a b ↔ (cc = 0 ∧ (pX q a = pX q b → pY q a = pY q b → vN v (2 * a) = vN v (2 * b) ∧ vN v (2 * a + 1) = vN v (2 * b + 1)))) := Lib.hid (by
            rw [ecc, HPR.out a b hlt (by omega)]
            unfold PairAt
            have e2 : (dX q a = dX q b) = (pX q a = pX q b) := propext (by unfold dX; omega)
            have e3 : (dY q a = dY q b) = (pY q a = pY q b) := propext (by unfold dY; omega)
            have e4 : (uX v a = uX v b) = (vN v (2 * a) = vN v (2 * b)) := propext (by unfold uX; omega)
            have e5 : (uY v a = uY v b) = (vN v (2 * a + 1) = vN v (2 * b + 1)) := propext (by unfold uY; omega)
            rw [e2, e3, e4, e5])
          clear ecc
          generalize pX q a = x1 at *
          generalize pY q a = y1 at *
          generalize pX q b = x2 at *
          generalize pY q b = y2 at *
          generalize vN v (2 * a) = u1 at *
          generalize vN v (2 * a + 1) = t1 at *
          generalize vN v (2 * b) = u2 at *
          generalize vN v (2 * b + 1) = t2 at *
          have hj1 : (2 * (a : Int)).toNat = 2 * a := by omega
          have hj2 : (2 * (a : Int) + 1).toNat = 2 * a + 1 := by omega
          have hj3 : (2 * (b : Int)).toNat = 2 * b := by omega
          have hj4 : (2 * (b : Int) + 1).toNat = 2 * b + 1 := by omega
          have hvl := HVL.out
          have hm1 : (2 * (a : Int)) < (v.length : Int) := by omega
          have hm2 : (2 * (a : Int) + 1) < (v.length : Int) := by omega
          have hm3 : (2 * (b : Int)) < (v.length : Int) := by omega
          have hm4 : (2 * (b : Int) + 1) < (v.length : Int) := by omega
          have hm5 : 0 ≤ (2 * (a : Int)) := by omega
          have hm6 : 0 ≤ (2 * (a : Int) + 1) := by omega
          have hm7 : 0 ≤ (2 * (b : Int)) := by omega
          have hm8 : 0 ≤ (2 * (b : Int) + 1) := by omega
          have hk1 : (a : Int) < (q.length : Int) := by omega
          have hk2 : (b : Int) < (q.length : Int) := by omega
          have hk4 : (0 : Int) ≤ (a : Int) := by omega
          have hk5 : (0 : Int) ≤ (b : Int) := by omega
          have hw1 := IntWalk.i64_in (2 * (a : Int)) (by omega)
          have hw2 := IntWalk.i64_in (2 * (a : Int) + 1) (by omega)
          have hw3 := IntWalk.i64_in (2 * (b : Int)) (by omega)
          have hw4 := IntWalk.i64_in (2 * (b : Int) + 1) (by omega)
          clear hvl
          obtain ⟨zBX, fBX0, fBX1, fBX2⟩ := BX2.out
          go_wp2_with fail
          by_cases hcc : cc = 0
          · obtain ⟨hc0⟩ : Nonempty (0 = changeF (p, l, q) v (a : Int) (b : Int)) := ⟨hcc ▸ HCC.out⟩
            have HC0 := Lib.hid hc0
            clear hc0
            by_cases hpl : ((x1, y1) : PlaceT) = (x2, y2)
            · have hqe := eqlPlace_t hpl
              obtain ⟨e1, e2⟩ := Prod.mk.inj hpl
              have HE1 := Lib.hid e1
              have HE2 := Lib.hid e2
              clear e1 e2 hpl
              by_cases hu : u1 = u2
              · by_cases ht : t1 = t2
                · have HF1 := Lib.hid (HPA.out.2 ⟨hcc, fun _ _ => ⟨hu, ht⟩⟩)
                  clear HPA hcc
                  subst hu
                  subst ht
                  have HCD := Lib.hid (show ∀ m : Wd wr, Calls Try.prog 70 #[.agg #[.int .i64 p, .slice aa l.length cap, .slice (some ⟨bq, oq, none⟩) q.length capc], .slice (some ⟨bv, ov, none⟩) v.length vcap, .int .i64 (a : Int), .int .i64 (b : Int)] m.w fun e w' => e = .returned (.int .i64 0) ∧ Below m.w.heap.size m.w w' from fun m => by have h9 := HCH.out m.w (B2.step m.h) (a : Int) (b : Int); rwa [← HC0.out] at h9)
                  refine wp_region_wd (by kernel_rfl) (by kernel_rfl) ?_
                  repeat (go_big_quiet_step (first | (go_at_call 70; exact Calls.wd_of (HCD.out _))))
                  refine wpQuiet_nil ?_
                  intro n1
                  have b7 := n1.h
                  all_goals
                    go_wp2_with fail
                    go_roundw
                    case rel => exact ⟨b + 1, by omega, by go_num, fun b' h1 => (by
                      rcases Nat.lt_succ_iff_lt_or_eq.1 h1 with h | rfl
                      · exact HB.out b' h
                      · exact HF1.out), hbo.step b7⟩
                    case measure => simp [intOf]; omega
                · have HE := Lib.hid (ret_bool (show trivB (p, l, q) v = false by rw [HT.out, show pairB q v = false from decide_eq_false fun h => ht (((HPA.out.1 (h a hlt b hlb)).2 HE1.out HE2.out).2)]; rfl))
                  have hbn : (t1 != t2) = true := by simpa using ht
                  clear HPA hcc
                  subst hu
                  have HCD := Lib.hid (show ∀ m : Wd wr, Calls Try.prog 70 #[.agg #[.int .i64 p, .slice aa l.length cap, .slice (some ⟨bq, oq, none⟩) q.length capc], .slice (some ⟨bv, ov, none⟩) v.length vcap, .int .i64 (a : Int), .int .i64 (b : Int)] m.w fun e w' => e = .returned (.int .i64 0) ∧ Below m.w.heap.size m.w w' from fun m => by have h9 := HCH.out m.w (B2.step m.h) (a : Int) (b : Int); rwa [← HC0.out] at h9)
                  refine wp_region_wd (by kernel_rfl) (by kernel_rfl) ?_
                  repeat (go_big_quiet_step (first | (go_at_call 70; exact Calls.wd_of (HCD.out _))))
                  refine wpQuiet_nil ?_
                  intro n1
                  have b7 := n1.h
                  all_goals
                    go_wp2_with fail
                    go_ret
                    exact ⟨HE.out.symm, B2.step b7⟩
              · have HE := Lib.hid (ret_bool (show trivB (p, l, q) v = false by rw [HT.out, show pairB q v = false from decide_eq_false fun h => hu (((HPA.out.1 (h a hlt b hlb)).2 HE1.out HE2.out).1)]; rfl))
                have hbn : (u1 != u2) = true := by simpa using hu
                clear HPA hcc
                have HCD := Lib.hid (show ∀ m : Wd wr, Calls Try.prog 70 #[.agg #[.int .i64 p, .slice aa l.length cap, .slice (some ⟨bq, oq, none⟩) q.length capc], .slice (some ⟨bv, ov, none⟩) v.length vcap, .int .i64 (a : Int), .int .i64 (b : Int)] m.w fun e w' => e = .returned (.int .i64 0) ∧ Below m.w.heap.size m.w w' from fun m => by have h9 := HCH.out m.w (B2.step m.h) (a : Int) (b : Int); rwa [← HC0.out] at h9)
                refine wp_region_wd (by kernel_rfl) (by kernel_rfl) ?_
                repeat (go_big_quiet_step (first | (go_at_call 70; exact Calls.wd_of (HCD.out _))))
                refine wpQuiet_nil ?_
                intro n1
                have b7 := n1.h
                all_goals
                  go_wp2_with fail
                  go_ret
                  exact ⟨HE.out.symm, B2.step b7⟩
            · have hqe := eqlPlace_f hpl
              have HF1 := Lib.hid (HPA.out.2 ⟨hcc, fun h1 h2 => absurd (by rw [h1, h2]) hpl⟩)
              clear HPA hcc hpl
              have HCD := Lib.hid (show ∀ m : Wd wr, Calls Try.prog 70 #[.agg #[.int .i64 p, .slice aa l.length cap, .slice (some ⟨bq, oq, none⟩) q.length capc], .slice (some ⟨bv, ov, none⟩) v.length vcap, .int .i64 (a : Int), .int .i64 (b : Int)] m.w fun e w' => e = .returned (.int .i64 0) ∧ Below m.w.heap.size m.w w' from fun m => by have h9 := HCH.out m.w (B2.step m.h) (a : Int) (b : Int); rwa [← HC0.out] at h9)
              refine wp_region_wd (by kernel_rfl) (by kernel_rfl) ?_
              repeat (go_big_quiet_step (first | (go_at_call 70; exact Calls.wd_of (HCD.out _))))
              refine wpQuiet_nil ?_
              intro n1
              have b7 := n1.h
              all_goals
                go_wp2_with fail
                go_roundw
                case rel => exact ⟨b + 1, by omega, by go_num, fun b' h1 => (by
                  rcases Nat.lt_succ_iff_lt_or_eq.1 h1 with h | rfl
                  · exact HB.out b' h
                  · exact HF1.out), hbo.step b7⟩
                case measure => simp [intOf]; omega
          · have HE := Lib.hid (ret_bool (show trivB (p, l, q) v = false by rw [HT.out, show pairB q v = false from decide_eq_false fun h => hcc ((HPA.out.1 (h a hlt b hlb)).1)]; rfl))
            have hbn : (cc != 0) = true := by simpa using hcc
            clear HPA
            have HCD := Lib.hid (show ∀ m : Wd wr, Calls Try.prog 70 #[.agg #[.int .i64 p, .slice aa l.length cap, .slice (some ⟨bq, oq, none⟩) q.length capc], .slice (some ⟨bv, ov, none⟩) v.length vcap, .int .i64 (a : Int), .int .i64 (b : Int)] m.w fun e w' => e = .returned (.int .i64 cc) ∧ Below m.w.heap.size m.w w' from fun m => by have h9 := HCH.out m.w (B2.step m.h) (a : Int) (b : Int); rwa [← HCC.out] at h9)
            refine wp_region_wd (by kernel_rfl) (by kernel_rfl) ?_
            repeat (go_big_quiet_step (first | (go_at_call 70; exact Calls.wd_of (HCD.out _))))
            refine wpQuiet_nil ?_
            intro n1
            have b7 := n1.h
            all_goals
              go_wp2_with fail
              go_ret
              exact ⟨HE.out.symm, B2.step b7⟩
        · obtain rfl : b = a := by omega
          have hlbi : ¬ (b : Int) < (b : Int) := by omega
          have hbi0 : (0 : Int) ≤ (b : Int) := by omega
          go_wp2_with fail
          go_roundw
          case rel => exact ⟨b + 1, by omega, by go_num, fun a' h1 b' h2 => (by
            rcases Nat.lt_succ_iff_lt_or_eq.1 h1 with h | rfl
            · exact HA.out a' h b' h2
            · exact HB.out b' h2), HBU.out.step hbo⟩
          case measure => simp [intOf]; omega
    · obtain rfl : a = q.length := by omega
      have hlti : ¬ (q.length : Int) < p := by have := HQP.out; omega
      have HE := Lib.hid (ret_bool (show trivB (p, l, q) v = flatB q v by rw [HT.out, show pairB q v = true from decide_eq_true HA.out]; rfl))
      go_wp2_with fail
      refine (HC.out _ B1).mono ?_
      rintro e w1 ⟨rfl, b⟩
      replace B1 := B1.step b
      clear zBX fBX0 fBX1 fBX2
      replace BX1 := Lib.hid (BX1.out.below b)
      clear b
      obtain ⟨zBX, fBX0, fBX1, fBX2⟩ := BX1.out
      go_wp2_with fail
      refine (HFL.out _ B1).mono ?_
      rintro e w2 ⟨rfl, b⟩
      replace B1 := B1.step b
      clear b
      go_wp2_with fail
      go_ret
      exact ⟨HE.out.symm, B1⟩
theorem spec_IsTrivialMotion (W : World) (v0 : Value) (f : FwT) (h : IsFw W v0 f) (v1 : Value) (v : List Int) (hv : IsInts W v1 v) (hn : szFw f ≤ 1048576) (hvn : v.length ≤ 1048576) :
    Calls Try.prog 31 #[v0, v1] W fun e w' => e = .returned (.bool (trivB f v)) ∧ Below W.heap.size W w' := by
  obtain ⟨p, l, q⟩ := f
  obtain ⟨a, cap, c, capc, rfl, hi, hj⟩ := h
  obtain ⟨va, vcap, rfl, hvi⟩ := hv
  exact specTrv_at _ _ _ _ _ _ _ _ hi hj hn _ _ _ _ hvi hvn
end Go.Proofs.Ytkjoeogoebpkjaa
