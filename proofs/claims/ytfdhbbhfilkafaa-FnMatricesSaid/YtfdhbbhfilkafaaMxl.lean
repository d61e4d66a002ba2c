/- The law FnMatrices returns true: the walk. No condition. -/
import Derived.Test.YtfdhbbhfilkafaaMdu
import Derived.Test.YtfdhbbhfilkafaaMtl0
import Derived.Test.YtfdhbbhfilkafaaNulM
import Derived.Test.YtfdhbbhfilkafaaTrm
import Derived.Test.YtfdhbbhfilkafaaRk2
import Derived.Test.YtfdhbbhfilkafaaTimes
import Derived.Deep.DeepCutAuto
import Derived.Deep.QuietTactic
import Derived.BigQuiet
namespace Go.Proofs.Ytfdhbbhfilkafaa
open Go.RowKit
set_option maxRecDepth 100000
set_option linter.unusedVariables false
set_option linter.unusedSimpArgs false
set_option maxHeartbeats 1000000 in
theorem sameInts_eq (a a' : Option Addr) (n cap cap' : Nat) (l : List Int) (W : World) (h : IntsAt W a n l) (h' : IntsAt W a' n l) (hn : n ≤ 17592186044416) :
    Calls Try.prog 20 #[.slice a n cap, .slice a' n cap'] W fun e w' => e = .returned (.bool true) ∧ ∃ m, w' = W.drewN m := by
  obtain ⟨hl, hc⟩ := h
  obtain ⟨-, hc'⟩ := h'
  have HL := Lib.hid hl
  have HC := Lib.hid hc
  have HC' := Lib.hid hc'
  clear hl hc hc'
  go_enter Try.func20, Try.ntmps20
  go_wp2
  go_loopw [5] (fun i wr => ∃ k : Nat, k ≤ n ∧ i = .int .i64 k ∧ (∃ m, wr = W.drewN m)) (fun i _ => n - (intOf i).toNat)
  case atStart => exact ⟨0, Nat.zero_le _, rfl, ⟨0, rfl⟩⟩
  case round =>
    obtain ⟨k, hk, rfl, ⟨m, rfl⟩⟩ := hrel
    by_cases hlt : k < n
    · obtain ⟨b, off, x, rfl, hbl, hx, hcell⟩ := HC.out k hlt
      obtain ⟨b', off', x', rfl, hbl', hx', hcell'⟩ := HC'.out k hlt
      obtain rfl : x = x' := Option.some.inj (hx.symm.trans hx')
      clear hx hx'
      go_wp2
      go_quiet (fail)
      go_wp2
      go_roundw
      case rel => exact ⟨k + 1, by omega, by go_num, ⟨_, rfl⟩⟩
      case measure => simp [intOf]; omega
    · obtain rfl : k = n := by omega
      go_wp2
      go_ret
      first | exact ⟨_, rfl⟩ | exact ⟨rfl, m, rfl⟩
set_option maxHeartbeats 1000000 in
theorem sameSets_eq (a a' : Option Addr) (n cap cap' : Nat) (ll : List (List Int)) (W : World) (h : IntssAt W a n ll) (h' : IntssAt W a' n ll) (hn : n ≤ 17592186044416) (hs : ∀ r ∈ ll, r.length ≤ 17592186044416) :
    Calls Try.prog 10 #[.slice a n cap, .slice a' n cap'] W fun e w' => e = .returned (.bool true) ∧ Below W.heap.size W w' := by
  have hwd := @Wd.cells
  obtain ⟨hl, hc⟩ := h
  obtain ⟨-, hc'⟩ := h'
  have HL := Lib.hid hl
  have HC := Lib.hid hc
  have HC' := Lib.hid hc'
  clear hl hc hc'
  go_enter Try.func10, Try.ntmps10
  go_wp2
  go_loopw [5] (fun i wr => ∃ k : Nat, k ≤ n ∧ i = .int .i64 k ∧ Below W.heap.size W wr) (fun i _ => n - (intOf i).toNat)
  case atStart => exact ⟨0, Nat.zero_le _, rfl, Below.refl _ _⟩
  case round =>
    obtain ⟨k, hk, rfl, B⟩ := hrel
    by_cases hlt : k < n
    · obtain ⟨b, off, ar, cr, r, rfl, hbl, hx, hcell, hi⟩ := HC.out k hlt
      obtain ⟨b', off', ar', cr', r', rfl, hbl', hx', hcell', hi'⟩ := HC'.out k hlt
      obtain rfl : r = r' := Option.some.inj (hx.symm.trans hx')
      have HS : Hid (∀ w9, Below wr.heap.size wr w9 → Calls Try.prog 20 #[.slice ar r.length cr, .slice ar' r.length cr'] w9 fun e w' => e = .returned (.bool true) ∧ Below w9.heap.size w9 w') := Lib.hid fun w9 hb => (sameInts_eq ar ar' r.length cr cr' r w9 (hi.below (B.step hb)) (hi'.below (B.step hb)) (hs r (List.mem_of_getElem? hx))).mono fun e w' ⟨h1, m, h2⟩ => ⟨h1, by rw [h2]; exact below_drewN (Below.refl _ _) m⟩
      have g1 := (B.cell (p := ⟨b, off + k, none⟩) hbl).trans hcell
      have g2 := (B.cell (p := ⟨b', off' + k, none⟩) hbl').trans hcell'
      have z1 := Nat.lt_of_lt_of_le hbl B.size
      have z2 := Nat.lt_of_lt_of_le hbl' B.size
      have hki : (k : Int) < (n : Int) := by omega
      have hk0 : (0 : Int) ≤ (k : Int) := by omega
      clear hx hx' hi hi' hcell hcell' hbl hbl'
      go_wp2
      refine wp_region_wd (by kernel_rfl) (by kernel_rfl) ?_
      repeat (go_big_quiet_step ((first | (go_at_call 20; exact Calls.wd_of (HS.out _ (Wd.h _))))))
      refine wpQuiet_nil ?_
      intro n1
      have bn := n1.h
      go_wp2
      go_roundw
      case rel => exact ⟨k + 1, by omega, by go_num, B.step bn⟩
      case measure => simp [intOf]; omega
    · obtain rfl : k = n := by omega
      go_wp2
      go_ret
      first | exact ⟨rfl, B⟩ | exact B
set_option maxHeartbeats 1000000 in
theorem big_at (W : World) (a : Option Addr) (n cap : Nat) : Calls Try.prog 6 #[.slice a n cap] W fun e w' => e = .returned (.bool (decide ((1048576 : Int) < n))) ∧ w' = W := by
  go_enter Try.func6, Try.ntmps6
  go_wp2
  go_ret
  exact ⟨rfl, rfl⟩
theorem sumLen_le5 : ∀ ll : List (List Int), (∀ r ∈ ll, r.length ≤ 5) → sumLen ll ≤ 5 * ll.length
  | [], _ => by simp [sumLen]
  | r :: ll, h => by
    have h1 := sumLen_le5 ll fun s hs => h s (List.mem_cons_of_mem _ hs)
    have h2 := h r (List.mem_cons_self ..)
    simp only [sumLen, List.map_cons, List.sum_cons, List.length_cons] at *
    omega
theorem SmM.sz {ll : List (List Int)} (h : SmM ll) : szIntss ll ≤ 30 := by
  have h1 := sumLen_le5 ll h.2
  have h2 := h.1
  unfold szIntss
  omega
theorem sz_parts {ll : List (List Int)} (h : szIntss ll ≤ 1048576) : ll.length ≤ 1048576 ∧ ∀ r ∈ ll, r.length ≤ 1048576 := by
  unfold szIntss at h
  refine ⟨by omega, fun r hr => ?_⟩
  obtain ⟨k, hk⟩ := List.getElem?_of_mem hr
  have := sumLen_mem hk
  omega
/-- what the law holds of while it runs -/
structure MxS (W w : World) (a : Option Addr) (x0 : List Int) (am : Option Addr) (M : List (List Int)) (al : Option Addr) (N : List (List Int)) : Prop where
  b : Below W.heap.size W w
  hB : BytesAt w a x0.length x0
  hM : IntssAt w am M.length M
  hN : IntssAt w al N.length N
theorem MxS.below {W w w' : World} {a am al : Option Addr} {x0 : List Int} {M N : List (List Int)} (h : MxS W w a x0 am M al N) (hb : Below w.heap.size w w') : MxS W w' a x0 am M al N :=
  ⟨h.b.step hb, h.hB.below hb, h.hM.below hb, h.hN.below hb⟩
theorem width_row {M : List (List Int)} {r : List Int} (h : M[0]? = some r) : width M = r.length := by
  cases M with
  | nil => simp at h
  | cons x t => simp at h; subst h; rfl
set_option maxHeartbeats 16000000 in
theorem walkFnMatrices (W : World) (v0 : Value) (x0 : List Int) (r0 : IsBytes W v0 x0) (ok0 : OkBytes x0) :
    Calls Try.prog 5 #[v0] W fun e w' => e = .returned (.bool true) ∧ Below W.heap.size W w' := by
  obtain ⟨a, cap, rfl, hB⟩ := r0
  by_cases hbig : (1048576 : Int) < (x0.length : Int)
  · go_enter Try.func5, Try.ntmps5
    go_wp2_with fail
    refine (big_at W a x0.length cap).mono ?_
    rintro e w1 ⟨rfl, e1⟩
    obtain rfl : W = w1 := e1.symm
    rw [decide_eq_true hbig]
    go_wp2_with fail
    go_ret
    exact ⟨rfl, Below.refl _ _⟩
  have HB := Lib.hid hB
  clear hB
  have hx20 : x0.length ≤ 1048576 := by omega
  go_enter Try.func5, Try.ntmps5
  go_wp2_with fail
  refine (big_at W a x0.length cap).mono ?_
  rintro e w1 ⟨rfl, e1⟩
  obtain rfl : W = w1 := e1.symm
  clear e1
  rw [decide_eq_false (show ¬ (1048576 : Int) < (x0.length : Int) by omega)]
  clear hbig
  go_wp2_with fail
  refine (drawNull_at W a x0.length cap x0 HB.out hx20).mono ?_
  rintro e w1 ⟨am, cm, M, rfl, hf, hsm, b⟩
  have HB1 := Lib.hid (HB.out.below b)
  have HM := Lib.hid hf.at
  have BW := Lib.hid b
  have HSM := Lib.hid hsm
  have hsz := hsm.sz
  have hm1 := hsm.1
  clear hf hsm b
  go_wp2_with fail
  refine (impl_RankOfMatrix w1 _ M ⟨am, cm, rfl, HM.out⟩ (by omega)).mono ?_
  rintro e w2 ⟨rfl, b⟩
  replace HB1 := Lib.hid (HB1.out.below b)
  replace HM := Lib.hid (HM.out.below b)
  replace BW := Lib.hid (BW.out.step b)
  clear b
  go_wp2_with fail
  refine (impl_NullspaceOf w2 _ M ⟨am, cm, rfl, HM.out⟩ (by omega)).mono ?_
  rintro e w3 ⟨v3, rfl, o3, b⟩
  obtain ⟨al, cl, rfl, i3⟩ := o3.form
  have MS : Hid (MxS W w3 a x0 am M al (nullM M)) := Lib.hid ⟨BW.out.step b, HB1.out.below b, HM.out.below b, i3⟩
  clear b o3 i3 HB1 HM BW
  have HNs : Hid (∀ r ∈ nullM M, r.length ≤ 17592186044416) := Lib.hid fun r hr => Nat.le_trans ((sz_parts (nullM_sz M)).2 r hr) (by decide)
  have HTs : Hid (∀ r ∈ trmL M, r.length ≤ 17592186044416) := Lib.hid fun r hr => Nat.le_trans ((sz_parts (trmL_sz M)).2 r hr) (by decide)
  have hnl := (sz_parts (nullM_sz M)).1
  have htl := (sz_parts (trmL_sz M)).1
  obtain ⟨R, hR⟩ : ∃ R, R = rankM M := ⟨_, rfl⟩
  obtain ⟨N, hN⟩ : ∃ N, N = nullM M := ⟨_, rfl⟩
  rw [← hN] at MS HNs hnl
  rw [← hR, ← hN]
  have HR := Lib.hid hR
  have HN := Lib.hid hN
  clear hR hN
  go_wp2_with fail
  refine (spec_RankOfMatrix w3 _ M ⟨am, cm, rfl, MS.out.hM⟩ (by omega)).mono ?_
  rintro e w4 ⟨rfl, b⟩
  replace MS := Lib.hid (MS.out.below b)
  clear b
  rw [← HR.out]
  go_wp2_with fail
  refine (spec_NullspaceOf w4 _ M ⟨am, cm, rfl, MS.out.hM⟩ (by omega)).mono ?_
  rintro e w5 ⟨v5, rfl, o5, b⟩
  rw [← HN.out] at o5
  obtain ⟨a5, c5, rfl, i5⟩ := o5.form
  replace MS := Lib.hid (MS.out.below b)
  have I5 := Lib.hid i5
  clear b o5 i5
  go_wp2_with fail
  refine (sameSets_eq al a5 N.length cl c5 N w5 MS.out.hN I5.out (by omega) HNs.out).mono ?_
  rintro e w6 ⟨rfl, b⟩
  replace MS := Lib.hid (MS.out.below b)
  clear I5 b
  go_wp2_with fail
  refine (impl_IsMatrix w6 _ M ⟨am, cm, rfl, MS.out.hM⟩ (by omega)).mono ?_
  rintro e w7 ⟨rfl, b⟩
  replace MS := Lib.hid (MS.out.below b)
  clear b
  go_wp2_with fail
  refine (spec_IsMatrix w7 _ M ⟨am, cm, rfl, MS.out.hM⟩ (by omega)).mono ?_
  rintro e w8 ⟨rfl, b⟩
  replace MS := Lib.hid (MS.out.below b)
  clear b
  go_wp2_with fail
  refine (impl_TransposeMatrix w8 _ M ⟨am, cm, rfl, MS.out.hM⟩ (by omega)).mono ?_
  rintro e w9 ⟨v9, rfl, o9, b⟩
  obtain ⟨a9, c9, rfl, i9⟩ := o9.form
  have I9 := Lib.hid i9
  replace MS := Lib.hid (MS.out.below b)
  clear b o9 i9
  go_wp2_with fail
  refine (spec_TransposeMatrix w9 _ M ⟨am, cm, rfl, MS.out.hM⟩ (by omega)).mono ?_
  rintro e w10 ⟨v10, rfl, o10, b⟩
  obtain ⟨a10, c10, rfl, i10⟩ := o10.form
  have I10 := Lib.hid i10
  replace MS := Lib.hid (MS.out.below b)
  replace I9 := Lib.hid (I9.out.below b)
  clear b o10 i10
  go_wp2_with fail
  refine (sameSets_eq a9 a10 _ c9 c10 _ w10 I9.out I10.out (by omega) HTs.out).mono ?_
  rintro e w11 ⟨rfl, b⟩
  replace MS := Lib.hid (MS.out.below b)
  clear I9 I10 b
  go_wp2_with fail
  refine (spec_IsMatrix w11 _ M ⟨am, cm, rfl, MS.out.hM⟩ (by omega)).mono ?_
  rintro e w12 ⟨rfl, b⟩
  replace MS := Lib.hid (MS.out.below b)
  clear b
  go_upto_if 50 with (fail)
  go_cut [3] (fun s wx => s = .slice am M.length cm ∧ MxS W wx a x0 am M al N)
  case first =>
    cases hmat : isMat M
    · clear hmat
      go_wp2_with fail
      go_meet
      exact ⟨rfl, MS.out⟩
    · have HMT := Lib.hid hmat
      have hRN : R + (N.length : Int) = (width M : Int) := by rw [HR.out, HN.out]; exact nullM_cnt hmat
      obtain ⟨b0, off0, ar0, cr0, q0, rfl, hb0, hq0, hc0, -⟩ := MS.out.hM.2 0 (by omega)
      have hq5 := HSM.out.2 q0 (List.mem_of_getElem? hq0)
      rw [width_row hq0] at hRN
      have HQ0 := Lib.hid hq0
      have HRN := Lib.hid hRN
      clear hmat hq0 hc0 hb0 hRN
      go_wp2_with fail
      refine (spec_TransposeMatrix w12 _ M ⟨_, cm, rfl, MS.out.hM⟩ (by omega)).mono ?_
      rintro e w13 ⟨v13, rfl, o13, b⟩
      obtain ⟨a13, c13, rfl, i13⟩ := o13.form
      have I13 := Lib.hid i13
      replace MS := Lib.hid (MS.out.below b)
      clear b o13 i13
      obtain ⟨b1, off1, ar1, cr1, q1, hbb, hb1, hq1, hc1, -⟩ := MS.out.hM.2 0 (by omega)
      simp only [Option.some.injEq, Addr.mk.injEq, and_true] at hbb
      obtain ⟨rfl, rfl⟩ := hbb
      obtain rfl : q0 = q1 := Option.some.inj (HQ0.out.symm.trans hq1)
      rw [Nat.add_zero] at hc1
      have hml0 : (0 : Int) < (M.length : Int) := by omega
      have hRN := HRN.out
      have hwq := IntWalk.i64_in (q0.length : Int) (by omega)
      clear hq1
      go_upto_region 10 with (fail)
      go_cut [71] (fun s wx => s = .bool false ∧ MxS W wx a x0 (some ⟨b0, off0, none⟩) M al N)
      case first =>
        go_wp2_with fail
        clear hc1 hwq hRN
        refine (spec_IsMatrix w13 _ (trmL M) ⟨a13, c13, rfl, I13.out⟩ (trmL_sz M)).mono ?_
        rintro e w14 ⟨rfl, b⟩
        replace MS := Lib.hid (MS.out.below b)
        replace I13 := Lib.hid (I13.out.below b)
        clear b
        cases hmt : isMat (trmL M)
        · clear hmt I13
          go_wp2_with fail
          go_meet
          exact ⟨rfl, MS.out⟩
        · have HTR := Lib.hid (show rankM (trmL M) = R by rw [HR.out]; exact rankM_tr HMT.out hmt)
          clear hmt
          go_wp2_with fail
          refine (impl_RankOfMatrix w14 _ (trmL M) ⟨a13, c13, rfl, I13.out⟩ (trmL_sz M)).mono ?_
          rintro e w15 ⟨rfl, b⟩
          replace MS := Lib.hid (MS.out.below b)
          clear b I13
          rw [HTR.out]
          go_wp2_with fail
          go_meet
          exact ⟨rfl, MS.out⟩
      case rest =>
        clear MS I13 hc1 hwq hRN
        obtain ⟨rfl, ms⟩ := hcut
        have MS := Lib.hid ms
        clear ms
        go_wp2_with fail
        obtain ⟨w0, hw0⟩ : ∃ w9, w9 = wc := ⟨_, rfl⟩
        subst hw0
        go_loopw [7] (fun i w9 => ∃ k : Nat, k ≤ N.length ∧ i = .int .i64 k ∧ MxS W w9 a x0 (some ⟨b0, off0, none⟩) M al N) (fun i _ => N.length - (intOf i).toNat)
        case atStart => exact ⟨0, Nat.zero_le _, rfl, MS.out⟩
        case round =>
          clear MS
          obtain ⟨k, hk, rfl, ms⟩ := hrel
          have MS := Lib.hid ms
          clear ms
          by_cases hlt : k < N.length
          · obtain ⟨bN, oN, ar, cr, r, rfl, hbN, hr, hcN, hir⟩ := MS.out.hN.2 k hlt
            have hrN : r ∈ nullM M := by rw [← HN.out]; exact List.mem_of_getElem? hr
            have hrl : r.length ≤ 1048576 := (sz_parts (nullM_sz M)).2 r hrN
            have HZ := Lib.hid (nullM_times HMT.out hrN)
            have HPR := Lib.hid (nullM_prim hrN)
            have HIR := Lib.hid hir
            have hki : (k : Int) < (N.length : Int) := by omega
            have hk0 : (0 : Int) ≤ (k : Int) := by omega
            clear hr hir hrN
            go_wp2_with fail
            refine (impl_TimesVector wr _ M ⟨_, cm, rfl, MS.out.hM⟩ _ r ⟨ar, cr, rfl, HIR.out⟩ (by omega) hrl).mono ?_
            rintro e w24 ⟨v24, rfl, o24, b⟩
            obtain ⟨a24, c24, rfl, i24⟩ := o24.form
            have I24 := Lib.hid i24
            replace MS := Lib.hid (MS.out.below b)
            replace HIR := Lib.hid (HIR.out.below b)
            have hcN2 := (b.cell (p := ⟨bN, oN + k, none⟩) hbN).trans hcN
            have hbN2 := Nat.lt_of_lt_of_le hbN b.size
            have htl2 := timesV_len M r
            clear b o24 i24 hcN hbN
            generalize timesV M r = T at *
            go_wp2_with fail
            obtain ⟨wB, hwB⟩ : ∃ w9, w9 = w24 := ⟨_, rfl⟩
            subst hwB
            go_loopw [9] (fun i w9 => ∃ j : Nat, j ≤ T.length ∧ i = .int .i64 j ∧ wB = w9) (fun i _ => T.length - (intOf i).toNat)
            case atStart => exact ⟨0, Nat.zero_le _, rfl, rfl⟩
            case round =>
              obtain ⟨j, hj, rfl, rfl⟩ := hrel
              by_cases hjt : j < T.length
              · obtain ⟨bx, ox, x, rfl, hbx, hx, hcx⟩ := I24.out.2 j hjt
                obtain rfl : x = 0 := HZ.out x (List.mem_of_getElem? hx)
                have hji : (j : Int) < (T.length : Int) := by omega
                have hj0 : (0 : Int) ≤ (j : Int) := by omega
                clear hx
                go_wp2_with fail
                go_roundw
                case rel => exact ⟨j + 1, by omega, by go_num, by trivial⟩
                case measure => simp [intOf]; omega
              · obtain rfl : j = T.length := by omega
                clear hj
                go_wp2_with fail
                have bd : Below wB.heap.size wB wB.drew := (Below.refl _ _).drew
                have MSD := Lib.hid (MS.out.below bd)
                have HID := Lib.hid (HIR.out.below bd)
                have s0 : wB.drew.cell? ⟨bN, oN + k, none⟩ = some (.slice ar r.length cr) ∧ True := ⟨hcN2, trivial⟩
                have hbd : bN < wB.drew.heap.size := hbN2
                refine wp_regionZ (fun w' => w'.cell? ⟨bN, oN + k, none⟩ = some (.slice ar r.length cr) ∧ True) 10 (by kernel_rfl) ?_
                clear MS HIR bd hcN2 hbN2 I24
                generalize wB.drew = wd at *
                refine wpAnyZ_takeC (i := 0) (v := ?_) [2, 3, 4, 9, 10] rfl (by kernel_rfl) (by kernel_rfl) (by kernel_rfl) (by kernel_rfl) (by kernel_rfl) (by kernel_rfl) (fun _ _ _ h => h) (s0) (by rfl) ?_ ?_
                rotate_left
                · intro x hx; obtain ⟨u1, u2⟩ := hx; go_simp; try (with_reducible rfl)
                try simp only [Act.put, List.setIfInBounds_toArray, List.set_cons_zero, List.set_cons_succ, List.getElem_toArray, List.getElem_cons_zero, List.getElem_cons_succ]
                refine wpAnyZ_takeC (i := 1) (v := ?_) [2, 3, 4, 9, 10] rfl (by kernel_rfl) (by kernel_rfl) (by kernel_rfl) (by kernel_rfl) (by kernel_rfl) (by kernel_rfl) (fun _ _ _ h => h) (s0) (by rfl) ?_ ?_
                rotate_left
                · intro x hx; obtain ⟨u1, u2⟩ := hx; go_simp; try (with_reducible rfl)
                try simp only [Act.put, List.setIfInBounds_toArray, List.set_cons_zero, List.set_cons_succ, List.getElem_toArray, List.getElem_cons_zero, List.getElem_cons_succ]
                refine wpAnyZ_takeC (i := 2) (v := ?_) [3, 4, 9, 10] rfl (by kernel_rfl) (by kernel_rfl) (by kernel_rfl) (by kernel_rfl) (by kernel_rfl) (by kernel_rfl) (fun _ _ _ h => h) (s0) (by rfl) ?_ ?_
                rotate_left
                · intro x hx; obtain ⟨u1, u2⟩ := hx; go_simp; try (with_reducible rfl)
                try simp only [Act.put, List.setIfInBounds_toArray, List.set_cons_zero, List.set_cons_succ, List.getElem_toArray, List.getElem_cons_zero, List.getElem_cons_succ]
                refine wpAnyZ_takeC (i := 3) (v := ?_) [4, 9, 10] rfl (by kernel_rfl) (by kernel_rfl) (by kernel_rfl) (by kernel_rfl) (by kernel_rfl) (by kernel_rfl) (fun _ _ _ h => h) (s0) (by rfl) ?_ ?_
                rotate_left
                · intro x hx; obtain ⟨u1, u2⟩ := hx; go_simp; try (with_reducible rfl)
                try simp only [Act.put, List.setIfInBounds_toArray, List.set_cons_zero, List.set_cons_succ, List.getElem_toArray, List.getElem_cons_zero, List.getElem_cons_succ]
                refine wpAnyZ_takeC (i := 5) (v := ?_) [7, 8, 9, 10] rfl (by kernel_rfl) (by kernel_rfl) (by kernel_rfl) (by kernel_rfl) (by kernel_rfl) (by kernel_rfl) (fun _ _ _ h => h) (s0) (by rfl) ?_ ?_
                rotate_left
                · intro x hx; obtain ⟨u1, u2⟩ := hx; go_simp; try (with_reducible rfl)
                try simp only [Act.put, List.setIfInBounds_toArray, List.set_cons_zero, List.set_cons_succ, List.getElem_toArray, List.getElem_cons_zero, List.getElem_cons_succ]
                refine wpAnyZ_takeC (i := 6) (v := ?_) [7, 8, 9, 10] rfl (by kernel_rfl) (by kernel_rfl) (by kernel_rfl) (by kernel_rfl) (by kernel_rfl) (by kernel_rfl) (fun _ _ _ h => h) (s0) (by rfl) ?_ ?_
                rotate_left
                · intro x hx; obtain ⟨u1, u2⟩ := hx; go_simp; try (with_reducible rfl)
                try simp only [Act.put, List.setIfInBounds_toArray, List.set_cons_zero, List.set_cons_succ, List.getElem_toArray, List.getElem_cons_zero, List.getElem_cons_succ]
                refine wpAnyZ_takeC (i := 7) (v := ?_) [8, 9, 10] rfl (by kernel_rfl) (by kernel_rfl) (by kernel_rfl) (by kernel_rfl) (by kernel_rfl) (by kernel_rfl) (fun _ _ _ h => h) (s0) (by rfl) ?_ ?_
                rotate_left
                · intro x hx; obtain ⟨u1, u2⟩ := hx; go_simp; try (with_reducible rfl)
                try simp only [Act.put, List.setIfInBounds_toArray, List.set_cons_zero, List.set_cons_succ, List.getElem_toArray, List.getElem_cons_zero, List.getElem_cons_succ]
                refine wpAnyZ_takeC (i := 8) (v := ?_) [9, 10] rfl (by kernel_rfl) (by kernel_rfl) (by kernel_rfl) (by kernel_rfl) (by kernel_rfl) (by kernel_rfl) (fun _ _ _ h => h) (s0) (by rfl) ?_ ?_
                rotate_left
                · intro x hx; obtain ⟨u1, u2⟩ := hx; go_simp; try (with_reducible rfl)
                try simp only [Act.put, List.setIfInBounds_toArray, List.set_cons_zero, List.set_cons_succ, List.getElem_toArray, List.getElem_cons_zero, List.getElem_cons_succ]
                refine wpAnyZ_step (i := 4) (by kernel_rfl) rfl (by rfl) ?_
                intro KK hKK
                go_simp
                go_at_call 49
                refine (impl_PrimitiveVector wd _ r ⟨ar, cr, rfl, HID.out⟩ hrl).mono ?_
                rintro e w25 ⟨v25, rfl, o25, b⟩
                rw [HPR.out] at o25
                obtain ⟨a25, c25, rfl, i25⟩ := o25.form
                have I25 := Lib.hid i25
                have s5 : w25.cell? ⟨bN, oN + k, none⟩ = some (.slice ar r.length cr) ∧ True := ⟨(b.cell (p := ⟨bN, oN + k, none⟩) hbd).trans s0.1, trivial⟩
                replace MSD := Lib.hid (MSD.out.below b)
                replace HID := Lib.hid (HID.out.below b)
                clear o25 i25 b s0
                go_wp2_with fail
                refine hKK.out _ _ (.inr s5) ?_
                clear hKK KK
                try simp only [Act.put, List.setIfInBounds_toArray, List.set_cons_zero, List.set_cons_succ, List.getElem_toArray, List.getElem_cons_zero, List.getElem_cons_succ]
                refine wpAnyZ_step (i := 9) (by kernel_rfl) rfl (by rfl) ?_
                intro KK hKK
                go_simp
                go_at_call 20
                refine (sameInts_eq a25 ar _ c25 cr _ w25 I25.out HID.out (by omega)).mono ?_
                rintro e w26 ⟨rfl, m26, rfl⟩
                have b26 := below_drewN (Below.refl w25.heap.size w25) m26
                replace MSD := Lib.hid (MSD.out.below b26)
                have s6 : (w25.drewN m26).cell? ⟨bN, oN + k, none⟩ = some (.slice ar r.length cr) ∧ True := s5
                clear b26 s5 I25 HID
                generalize w25.drewN m26 = w26 at *
                go_wp2_with fail
                refine hKK.out _ _ (.inr s6) ?_
                clear hKK KK
                try simp only [Act.put, List.setIfInBounds_toArray, List.set_cons_zero, List.set_cons_succ, List.getElem_toArray, List.getElem_cons_zero, List.getElem_cons_succ]
                refine wpAnyZ_step (i := 10) (by kernel_rfl) rfl (by rfl) ?_
                intro KK hKK
                go_simp
                refine hKK.out _ _ (.inl (by kernel_rfl)) ?_
                clear hKK KK
                try simp only [Act.put, List.setIfInBounds_toArray, List.set_cons_zero, List.set_cons_succ, List.getElem_toArray, List.getElem_cons_zero, List.getElem_cons_succ]
                refine wpAnyZ_done (by kernel_rfl) ?_ _
                clear s6
                go_wp2_with fail
                go_roundw
                case rel => exact ⟨k + 1, by omega, by go_num, MSD.out⟩
                case measure => simp [intOf]; omega
          · obtain rfl : k = N.length := by omega
            go_wp2_with fail
            go_meet
            exact ⟨rfl, MS.out⟩
  case rest =>
    clear MS
    obtain ⟨rfl, ms⟩ := hcut
    have MS := Lib.hid ms
    clear ms
    go_wp2_with fail
    refine (drawTimes_at wc a x0.length cap x0 MS.out.hB hx20).mono ?_
    rintro e wt1 ⟨at1, ct1, A1, vt1, xs1, rfl, hf, hsm, ho, hxl, b⟩
    have HA := Lib.hid hf.at
    obtain ⟨ax1, cx1, rfl, ix1⟩ := ho.form
    have HX := Lib.hid ix1
    have hszA := hsm.sz
    have BT := Lib.hid (MS.out.b.step b)
    have HBT := Lib.hid (MS.out.hB.below b)
    clear hf hsm ho b ix1 MS
    go_wp2_with fail
    refine (drawPrim_at wt1 a x0.length cap x0 HBT.out hx20).mono ?_
    rintro e wt2 ⟨vt2, xs2, rfl, ho, hxl2, b⟩
    obtain ⟨ax2, cx2, rfl, ix2⟩ := ho.form
    have HX2 := Lib.hid ix2
    replace HA := Lib.hid (HA.out.below b)
    replace HX := Lib.hid (HX.out.below b)
    replace BT := Lib.hid (BT.out.step b)
    replace HBT := Lib.hid (HBT.out.below b)
    clear ho b ix2
    go_wp2_with fail
    refine (drawGcd_at wt2 a x0.length cap x0 HBT.out hx20).mono ?_
    rintro e wt3 ⟨gx, gy, rfl, b⟩
    replace HA := Lib.hid (HA.out.below b)
    replace HX := Lib.hid (HX.out.below b)
    replace HX2 := Lib.hid (HX2.out.below b)
    replace BT := Lib.hid (BT.out.step b)
    clear b HBT
    go_wp2_with fail
    refine (impl_TimesVector wt3 _ A1 ⟨at1, ct1, rfl, HA.out⟩ _ xs1 ⟨ax1, cx1, rfl, HX.out⟩ (by omega) (by omega)).mono ?_
    rintro e wt4 ⟨vt4, rfl, o4, b⟩
    obtain ⟨at4, ct4, rfl, it4⟩ := o4.form
    have I4 := Lib.hid it4
    replace HA := Lib.hid (HA.out.below b)
    replace HX := Lib.hid (HX.out.below b)
    replace HX2 := Lib.hid (HX2.out.below b)
    replace BT := Lib.hid (BT.out.step b)
    clear b o4 it4
    go_wp2_with fail
    refine (spec_TimesVector wt4 _ A1 ⟨at1, ct1, rfl, HA.out⟩ _ xs1 ⟨ax1, cx1, rfl, HX.out⟩ (by omega) (by omega)).mono ?_
    rintro e wt5 ⟨vt5, rfl, o5, b⟩
    obtain ⟨at5, ct5, rfl, it5⟩ := o5.form
    have I5 := Lib.hid it5
    replace I4 := Lib.hid (I4.out.below b)
    replace HX2 := Lib.hid (HX2.out.below b)
    replace BT := Lib.hid (BT.out.step b)
    have htv := timesV_len A1 xs1
    have hA1 : A1.length ≤ 30 := by unfold szIntss at hszA; omega
    clear b o5 it5 HA HX
    go_wp2_with fail
    refine (sameInts_eq at4 at5 _ ct4 ct5 _ wt5 I4.out I5.out (by omega)).mono ?_
    rintro e wt6 ⟨rfl, m6, rfl⟩
    have b6 := below_drewN (Below.refl wt5.heap.size wt5) m6
    replace HX2 := Lib.hid (HX2.out.below b6)
    replace BT := Lib.hid (BT.out.step b6)
    clear b6 I4 I5 htv
    generalize wt5.drewN m6 = wt6 at *
    go_wp2_with fail
    refine (impl_PrimitiveVector wt6 _ xs2 ⟨ax2, cx2, rfl, HX2.out⟩ (by omega)).mono ?_
    rintro e wt7 ⟨vt7, rfl, o7, b⟩
    obtain ⟨at7, ct7, rfl, it7⟩ := o7.form
    have I7 := Lib.hid it7
    replace HX2 := Lib.hid (HX2.out.below b)
    replace BT := Lib.hid (BT.out.step b)
    clear b o7 it7
    go_wp2_with fail
    refine (spec_PrimitiveVector wt7 _ xs2 ⟨ax2, cx2, rfl, HX2.out⟩ (by omega)).mono ?_
    rintro e wt8 ⟨vt8, rfl, o8, b⟩
    obtain ⟨at8, ct8, rfl, it8⟩ := o8.form
    have I8 := Lib.hid it8
    replace I7 := Lib.hid (I7.out.below b)
    replace BT := Lib.hid (BT.out.step b)
    have hpl : (prim xs2).length ≤ 5 := by rw [prim_length]; exact hxl2
    clear b o8 it8 HX2
    go_wp2_with fail
    refine (sameInts_eq at7 at8 _ ct7 ct8 _ wt8 I7.out I8.out (by omega)).mono ?_
    rintro e wt9 ⟨rfl, m9, rfl⟩
    replace BT := Lib.hid (BT.out.step (below_drewN (Below.refl wt8.heap.size wt8) m9))
    clear I7 I8 hpl
    generalize wt8.drewN m9 = wt9 at *
    go_wp2_with fail
    refine (implGcd_any gx gy wt9).mono ?_
    rintro e wt10 ⟨rfl, m10, rfl⟩
    replace BT := Lib.hid (BT.out.step (below_drewN (Below.refl wt9.heap.size wt9) m10))
    generalize wt9.drewN m10 = wt10 at *
    go_wp2_with fail
    refine (specGcd_any gx gy wt10).mono ?_
    rintro e wt11 ⟨rfl, rfl⟩
    go_wp2_with fail
    refine (implGcd_any gx gy wt10).mono ?_
    rintro e wt12 ⟨rfl, m12, rfl⟩
    replace BT := Lib.hid (BT.out.step (below_drewN (Below.refl wt10.heap.size wt10) m12))
    generalize wt10.drewN m12 = wt12 at *
    go_wp2_with fail
    refine (implGcd_any gy gx wt12).mono ?_
    rintro e wt13 ⟨rfl, m13, rfl⟩
    replace BT := Lib.hid (BT.out.step (below_drewN (Below.refl wt12.heap.size wt12) m13))
    generalize wt12.drewN m13 = wt13 at *
    rw [gcdZ_comm gy gx]
    go_wp2_with fail
    go_ret
    exact ⟨rfl, BT.out⟩
end Go.Proofs.Ytfdhbbhfilkafaa
