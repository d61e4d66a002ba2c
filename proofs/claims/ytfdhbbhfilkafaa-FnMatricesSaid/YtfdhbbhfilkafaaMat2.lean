/- IsMatrix of the reference. -/
import Derived.Test.YtfdhbbhfilkafaaMat
namespace Go.Proofs.Ytfdhbbhfilkafaa
open Go.RowKit
set_option maxRecDepth 100000
set_option linter.unusedVariables false
set_option linter.unusedSimpArgs false

set_option maxHeartbeats 4000000 in
theorem l9Small_any (a : Option Addr) (n cap : Nat) (ll : List (List Int)) (W : World) (h : IntssAt W a n ll) (hn : n ≤ 1048576) (hs : sumLen ll ≤ 1048576) (hsm : ll.all smallRow = true) :
    Calls Try.prog 88 #[.slice a n cap] W fun e w' => e = .returned (.bool (ll.all fun r => decide (sq r ≤ 64))) ∧ ∃ m, w' = W.drewN m := by
  obtain ⟨hl, hc⟩ := h
  have HL := Lib.hid hl
  have HC := Lib.hid hc
  have HSM := Lib.hid hsm
  clear hl hc hsm
  go_enter Try.func88, Try.ntmps88
  go_wp2
  go_loopw [3] (fun i wr => ∃ k : Nat, k ≤ n ∧ i = .int .i64 k ∧ ((ll.take k).all fun r => decide (sq r ≤ 64)) = true ∧ ∃ m, wr = W.drewN m) (fun i _ => n - (intOf i).toNat)
  case atStart => exact ⟨0, Nat.zero_le _, rfl, by simp, 0, rfl⟩
  case round =>
    obtain ⟨k, hk, rfl, hall, m, rfl⟩ := hrel
    have HA := Lib.hid hall
    clear hall
    by_cases hlt : k < n
    · obtain ⟨b, off, ar, cr, r, rfl, hbl, hx, hcell, hi⟩ := HC.out k hlt
      have hrl := sumLen_mem hx
      have hsr : smallRow r = true := by
        have := List.all_eq_true.1 HSM.out r (List.mem_of_getElem? hx)
        simpa using this
      have HX := Lib.hid hx
      have HI := Lib.hid hi
      have HSR := Lib.hid hsr
      clear hx hi hsr
      go_wp2
      go_loopw [4, 5] (fun s i wr => ∃ (j : Nat) (q : Int), j ≤ r.length ∧ i = .int .i64 j ∧ s = .int .i64 q ∧ q = sq (r.take j) ∧ ∃ m, wr = W.drewN m) (fun _ i _ => r.length - (intOf i).toNat)
      case atStart => exact ⟨0, 0, Nat.zero_le _, rfl, rfl, by simp [sq], m, rfl⟩
      case round =>
        obtain ⟨j, q, hj, rfl, rfl, hq, m2, rfl⟩ := hrel
        have hst : smallRow (r.take j) = true := by
          have h1 := HSR.out
          unfold smallRow at h1 ⊢
          exact List.all_eq_true.2 fun x hx => List.all_eq_true.1 h1 x (List.mem_of_mem_take hx)
        have hbd := sq_bd hst
        rw [← hq] at hbd
        have htl : (r.take j).length ≤ j := List.length_take_le _ _
        obtain ⟨hbd1, hbd2⟩ := hbd
        have hbd3 : q ≤ 67108864 := by omega
        have HQ := Lib.hid hq
        clear hq hst htl hbd2
        by_cases hjl : j < r.length
        · obtain ⟨b1, off1, x, rfl, hb1, hxx, hcx⟩ := HI.out.2 j hjl
          have hx8 : inB x (-8) 8 = true := List.all_eq_true.1 HSR.out x (List.mem_of_getElem? hxx)
          obtain ⟨s1, s2, s3, s4⟩ := sq8 hx8
          have HXX := Lib.hid hxx
          clear hxx hx8
          go_wp2
          go_quiet (fail)
          go_wp2
          go_roundw
          case rel => exact ⟨j + 1, _, by omega, by go_num, rfl, by rw [take_succ_of HXX.out, sq_snoc, ← HQ.out], by first | exact ⟨_, rfl⟩ | exact ⟨_, World.drewN_drewN _ _ _⟩⟩
          case measure => simp [intOf]; omega
        · obtain rfl : j = r.length := by omega
          have hsq : q = sq r := by rw [HQ.out, List.take_length]
          have HSQ := Lib.hid hsq
          clear hsq
          by_cases e4 : 64 < q
          · have hfin : (ll.all fun r => decide (sq r ≤ 64)) = false := List.all_eq_false.2 ⟨r, List.mem_of_getElem? HX.out, by have := HSQ.out; simp; omega⟩
            have HF := Lib.hid hfin
            clear hfin
            go_wp2
            go_ret
            refine ⟨?_, m2, rfl⟩
            rw [HF.out]
            try rfl
          · go_wp2
            go_roundw
            case rel => exact ⟨k + 1, by omega, by go_num, all_take_succ HX.out HA.out (by have := HSQ.out; simp; omega), m2, rfl⟩
            case measure => simp [intOf]; omega
    · obtain rfl : k = n := by omega
      go_wp2
      go_ret
      have h1 := HA.out
      rw [List.take_of_length_le (by have := HL.out; omega)] at h1
      refine ⟨?_, m, rfl⟩
      rw [h1]
      try rfl

theorem isMat_split (ll : List (List Int)) : isMat ll = (decide (0 < ll.length) && (decide (ll.length ≤ 9) && (inB (width ll) 1 12 && (ll.all (fun r => r.length == width ll && smallRow r) && ll.all fun r => decide (sq r ≤ 64))))) := by
  cases ll with
  | nil => simp [isMat, inB]
  | cons r0 l =>
    have hw : width (r0 :: l) = r0.length := rfl
    rw [Bool.eq_iff_iff]
    simp only [isMat, hw, Bool.and_eq_true, List.all_eq_true, rowOk, decide_eq_true_eq]
    constructor
    · rintro ⟨h1, h2⟩
      have h0 := h2 r0 (by simp)
      simp [inB] at h1
      refine ⟨by simp, by simp; omega, h0.2.1, fun r hr => ⟨(h2 r hr).1, (h2 r hr).2.2.1⟩, fun r hr => (h2 r hr).2.2.2⟩
    · rintro ⟨h1, h2, h3, h4, h5⟩
      refine ⟨by simp [inB]; simp at h2; omega, fun r hr => ⟨(h4 r hr).1, ?_, (h4 r hr).2, h5 r hr⟩⟩
      have : r.length = r0.length := by simpa using (h4 r hr).1
      rw [this]
      exact h3

set_option maxHeartbeats 8000000 in
theorem specMat_any (a : Option Addr) (n cap : Nat) (ll : List (List Int)) (W : World) (h : IntssAt W a n ll) (hn : n ≤ 1048576) (hs : sumLen ll ≤ 1048576) :
    Calls Try.prog 45 #[.slice a n cap] W fun e w' => e = .returned (.bool (isMat ll)) ∧ ∃ m, w' = W.drewN m := by
  have HH := Lib.hid h
  obtain ⟨hl, hc⟩ := h
  have HL := Lib.hid hl
  have HC := Lib.hid hc
  clear hl hc
  go_enter Try.func45, Try.ntmps45
  go_wp2
  go_loopw [3] (fun i wr => ∃ k : Nat, k ≤ n ∧ i = .int .i64 k ∧ ((ll.take k).all fun r => r.length == width ll && smallRow r) = true ∧ ∃ m, wr = W.drewN m) (fun i _ => n - (intOf i).toNat)
  case atStart => exact ⟨0, Nat.zero_le _, rfl, by simp, 0, rfl⟩
  case round =>
    obtain ⟨k, hk, rfl, hall, m, rfl⟩ := hrel
    have HA := Lib.hid hall
    clear hall
    by_cases hlt : k < n
    · obtain ⟨b0, off0, a0, c0, r0, rfl, hb0, hx0, hcell0, hi0⟩ := HC.out 0 (by omega)
      simp only [Nat.add_zero] at hcell0
      have hw0 : width ll = r0.length := by
        cases ll with
        | nil => simp at hx0
        | cons x l => simp at hx0; simp [width, hx0]
      obtain ⟨b, off, ar, cr, r, hab, hbl, hx, hcell, hi⟩ := HC.out k hlt
      simp only [Option.some.injEq, Addr.mk.injEq, and_true] at hab
      obtain ⟨rfl, rfl⟩ := hab
      have hrl := sumLen_mem hx
      have hrl0 := sumLen_mem hx0
      have HX := Lib.hid hx
      have HI := Lib.hid hi
      have HW := Lib.hid hw0
      clear hx hi hw0 hx0 hi0
      have h0n : (0 : Int) < (n : Int) := by omega
      by_cases e1 : r.length = r0.length
      · have hq1 : (r.length != r0.length) = false := by simpa using e1
        have hq2 : ((r.length : Int) != (r0.length : Int)) = false := by simp; omega
        have HE1 := Lib.hid e1
        clear e1
        go_wp2
        go_quiet (fail)
        go_wp2
        go_loopw [4] (fun i wr => ∃ (j : Nat), j ≤ r.length ∧ i = .int .i64 j ∧ smallRow (r.take j) = true ∧ ∃ m, wr = W.drewN m) (fun i _ => r.length - (intOf i).toNat)
        case atStart => exact ⟨0, Nat.zero_le _, rfl, by simp [smallRow], by first | exact ⟨_, rfl⟩ | exact ⟨_, World.drewN_drewN _ _ _⟩⟩
        case round =>
          obtain ⟨j, hj, rfl, hsm, m4, rfl⟩ := hrel
          have HS := Lib.hid hsm
          clear hsm
          by_cases hjl : j < r.length
          · obtain ⟨b1, off1, x, rfl, hb1, hxx, hcx⟩ := HI.out.2 j hjl
            have HXX := Lib.hid hxx
            clear hxx
            cases e3 : inB x (-8) 8
            · have hfin : isMat ll = false := isMat_row HX.out (by simp [rowOk, small_not HXX.out e3])
              have HF := Lib.hid hfin
              clear hfin
              go_wp2_with (go_at_call 66; refine (l1In_any _ _ _ _).mono ?_; rintro e w' ⟨rfl, rfl⟩)
              go_ret
              refine ⟨?_, by first | exact ⟨_, rfl⟩ | exact ⟨_, World.drewN_drewN _ _ _⟩⟩
              rw [HF.out]
              try rfl
            · go_wp2_with (go_at_call 66; refine (l1In_any _ _ _ _).mono ?_; rintro e w' ⟨rfl, rfl⟩)
              go_roundw
              case rel => exact ⟨j + 1, by omega, by go_num, by rw [take_succ_of HXX.out]; have := HS.out; simp [smallRow] at this ⊢; exact ⟨this, e3⟩, _, rfl⟩
              case measure => simp [intOf]; omega
          · obtain rfl : j = r.length := by omega
            have hsm : smallRow r = true := by have := HS.out; rwa [List.take_length] at this
            have HSM := Lib.hid hsm
            clear hsm
            go_wp2_with fail
            go_roundw
            case rel => exact ⟨k + 1, by omega, by go_num, all_take_succ HX.out HA.out (by have h6 := HE1.out; have h7 := HSM.out; rw [HW.out]; simp [h6, h7]), by first | exact ⟨_, rfl⟩ | exact ⟨_, World.drewN_drewN _ _ _⟩⟩
            case measure => simp [intOf]; omega
      · have hq1 : (r.length != r0.length) = true := by simpa using e1
        have hq2 : ((r.length : Int) != (r0.length : Int)) = true := by simp; omega
        have hfin : isMat ll = false := isMat_row HX.out (by rw [HW.out]; simp [rowOk, e1])
        have HF := Lib.hid hfin
        clear hfin e1
        go_wp2
        go_quiet (fail)
        go_wp2
        go_ret
        refine ⟨?_, by first | exact ⟨_, rfl⟩ | exact ⟨_, World.drewN_drewN _ _ _⟩⟩
        rw [HF.out]
        try rfl
    · obtain rfl : k = n := by omega
      have hsp := isMat_split ll
      have h2 := HA.out
      rw [List.take_of_length_le (by have := HL.out; omega)] at h2
      rw [h2, HL.out, Bool.true_and] at hsp
      have HSP := Lib.hid hsp
      have hsmall : ll.all smallRow = true := List.all_eq_true.2 fun r hr => by
        have := List.all_eq_true.1 h2 r hr
        simp at this
        exact this.2
      have HSMALL := Lib.hid hsmall
      clear hsp h2 hsmall
      by_cases g1 : 0 < k
      · obtain ⟨b0, off0, a0, c0, r0, rfl, hb0, hx0, hcell0, hi0⟩ := HC.out 0 (by omega)
        simp only [Nat.add_zero] at hcell0
        have hw0 : width ll = r0.length := by
          cases ll with
          | nil => simp at hx0
          | cons x l => simp at hx0; simp [width, hx0]
        have HW := Lib.hid hw0
        clear hw0 hx0 hi0
        have g1' : (0 : Int) < (k : Int) := by omega
        by_cases g2 : k ≤ 9
        · cases g3 : inB r0.length 1 12
          · have hfin : isMat ll = false := by rw [HSP.out, HW.out, g3]; simp
            have HF := Lib.hid hfin
            clear hfin
            go_wp2_with (go_at_call 66; refine (l1In_any _ _ _ _).mono ?_; rintro e w' ⟨rfl, rfl⟩)
            go_ret
            refine ⟨?_, m, rfl⟩
            rw [HF.out]
            try rfl
          · have hfin : isMat ll = ll.all fun r => decide (sq r ≤ 64) := by rw [HSP.out, HW.out, g3]; simp [g1, g2]
            have HF := Lib.hid hfin
            clear hfin
            go_wp2_with fail
            refine (l1In_any _ _ _ _).mono ?_
            rintro e w' ⟨rfl, rfl⟩
            go_wp2_with fail
            refine (l9Small_any _ _ _ _ _ (HH.out.below (below_drewN (Below.refl _ _) _)) hn hs HSMALL.out).mono ?_
            rintro e w' ⟨rfl, m3, rfl⟩
            go_wp2_with fail
            go_ret
            refine ⟨?_, by first | exact ⟨_, rfl⟩ | exact ⟨_, World.drewN_drewN _ _ _⟩⟩
            rw [HF.out]
            try rfl
        · have hfin : isMat ll = false := by rw [HSP.out]; simp [g2]
          have HF := Lib.hid hfin
          clear hfin
          have g2' : ¬ (k : Int) ≤ 9 := by omega
          go_wp2_with fail
          go_ret
          refine ⟨?_, m, rfl⟩
          rw [HF.out]
          try rfl
      · have hfin : isMat ll = false := by rw [HSP.out]; simp [g1]
        have HF := Lib.hid hfin
        clear hfin
        have g1' : ¬ (0 : Int) < (k : Int) := by omega
        go_wp2_with fail
        go_ret
        refine ⟨?_, m, rfl⟩
        rw [HF.out]
        try rfl

theorem spec_IsMatrix (W : World) (v : Value) (ll : List (List Int)) (h : IsIntss W v ll) (hn : szIntss ll ≤ 1048576) : Calls Try.prog 45 #[v] W fun e w' => e = .returned (.bool (isMat ll)) ∧ Below W.heap.size W w' := by
  obtain ⟨a, cap, rfl, hi⟩ := h
  unfold szIntss at hn
  exact (specMat_any _ _ _ _ _ hi (by omega) (by omega)).mono fun _ _ ⟨he, m, hw⟩ => ⟨he, by rw [hw]; exact below_drewN (Below.refl _ _) _⟩
theorem impl_IsMatrix (W : World) (v : Value) (ll : List (List Int)) (h : IsIntss W v ll) (hn : szIntss ll ≤ 1048576) : Calls Try.prog 44 #[v] W fun e w' => e = .returned (.bool (isMat ll)) ∧ Below W.heap.size W w' := by
  obtain ⟨a, cap, rfl, hi⟩ := h
  unfold szIntss at hn
  exact (implMat_any _ _ _ _ _ hi (by omega) (by omega)).mono fun _ _ ⟨he, hw⟩ => ⟨he, by rw [← hw]; exact Below.refl _ _⟩
end Go.Proofs.Ytfdhbbhfilkafaa
