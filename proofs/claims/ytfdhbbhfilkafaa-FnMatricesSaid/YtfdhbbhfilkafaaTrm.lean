/- TransposeMatrix of the program and of the reference. No condition but sizes. -/
import Derived.Test.YtfdhbbhfilkafaaTrp
namespace Go.Proofs.Ytfdhbbhfilkafaa
open Go.RowKit Gr
set_option maxRecDepth 100000
set_option linter.unusedVariables false
set_option linter.unusedSimpArgs false

def turnTo (M : List (List Int)) (k : Nat) : List (List Int) := (List.range k).map (colL M M.length)
theorem turnTo_succ (M : List (List Int)) (k : Nat) : turnTo M (k + 1) = turnTo M k ++ [colL M M.length k] := by simp [turnTo, List.range_succ]
def trmL (M : List (List Int)) : List (List Int) := if isMat M = true then turnL M (width M) else []
theorem turnL_sum (M : List (List Int)) (n : Nat) : sumLen (turnL M n) = n * M.length := by
  unfold turnL
  have h : ∀ l : List Nat, sumLen (l.map (colL M M.length)) = l.length * M.length := fun l => by
    induction l with
    | nil => simp [sumLen]
    | cons x l ih =>
      simp only [sumLen, List.map_cons, List.sum_cons, List.length_cons, colL_length] at ih ⊢
      rw [ih, Nat.succ_mul]; omega
  rw [h, List.length_range]
theorem trmL_sz (M : List (List Int)) : szIntss (trmL M) ≤ 1048576 := by
  unfold trmL
  split
  · rename_i h
    have h1 := (fit_mat h).n64
    have h2 := (fit_mat h).m64
    have h3 := turnL_sum M (width M)
    have h4 : width M * M.length ≤ 64 * 64 := Nat.mul_le_mul h1 h2
    have h5 : (turnL M (width M)).length = width M := by simp [turnL]
    unfold szIntss; omega
  · decide

set_option maxHeartbeats 4000000 in
theorem implTrm_any (M : List (List Int)) (n : Nat) (W : World) (a : Option Addr) (cap : Nat) (h : IntssAt W a n M) (hn : n ≤ 1048576) (hs : sumLen M ≤ 1048576) :
    Calls Try.prog 46 #[.slice a n cap] W (RetIntss W (trmL M)) := by
  have H := Lib.hid h
  clear h
  cases hm : isMat M
  · have HF : Hid (trmL M = []) := Lib.hid (by unfold trmL; rw [hm]; rfl)
    have HO := Lib.hid (made_intss W)
    go_enter Try.func46, Try.ntmps46
    go_wp2_with fail
    refine (implMat_any _ _ _ _ _ H.out hn hs).mono ?_
    rintro e w1 ⟨rfl, rfl⟩
    rw [hm]
    go_wp2_with fail
    go_ret
    exact ⟨_, rfl, by rw [HF.out]; exact HO.out, (Below.refl _ _).alloc (Nat.le_refl _) _⟩
  · have hfit := Lib.hid (fit_mat hm)
    have hl := isMat_len hm
    have hle := H.out.1
    obtain ⟨b, off, ar, cr, r, rfl, hbl, hx, hcell, hi⟩ := H.out.2 0 (by omega)
    have hw := (isMat_get hm hx).1
    simp only [Nat.add_zero] at hcell
    have HW := Lib.hid hw
    have HF : Hid (trmL M = turnL M (width M)) := Lib.hid (by unfold trmL; rw [hm]; rfl)
    have hn1 : 0 < n := by omega
    have hn2 : (0 : Int) < (n : Int) := by omega
    clear hx hi hw hl hle
    go_enter Try.func46, Try.ntmps46
    go_wp2_with fail
    refine (implMat_any _ _ _ _ _ H.out hn hs).mono ?_
    rintro e w1 ⟨rfl, rfl⟩
    rw [hm]
    go_wp2_with fail
    rw [HW.out]
    refine (transposed_at M (width M) _ hfit.out.rect hfit.out.n0 hfit.out.n64 hfit.out.m64 _ _ _ H.out).mono ?_
    rintro e w2 ⟨v, rfl, ho, hb⟩
    have HO := Lib.hid ho
    clear ho
    go_wp2_with fail
    go_ret
    exact ⟨_, rfl, by rw [HF.out]; exact HO.out, hb⟩

set_option maxHeartbeats 4000000 in
theorem specTrm_any (M : List (List Int)) (n : Nat) (W : World) (a : Option Addr) (cap : Nat) (h : IntssAt W a n M) (hn : n ≤ 1048576) (hs : sumLen M ≤ 1048576) :
    Calls Try.prog 47 #[.slice a n cap] W (RetIntss W (trmL M)) := by
  have H := Lib.hid h
  clear h
  have HO0 := Lib.hid (made_intss W)
  have hb0 : Below W.heap.size W (W.alloc (.cells #[] 35)) := (Below.refl _ _).alloc (Nat.le_refl _) _
  cases hm : isMat M
  · have HF : Hid (trmL M = []) := Lib.hid (by unfold trmL; rw [hm]; rfl)
    go_enter Try.func47, Try.ntmps47
    go_wp2_with fail
    generalize W.alloc (.cells #[] 35) = w2 at *
    go_loopw [3, 4] (fun o i w9 => o = .slice (some ⟨W.heap.size, 0, none⟩) 0 0 ∧ i = .int .i64 0 ∧ w2 = w9) (fun _ _ _ => 0)
    case atStart => exact ⟨rfl, rfl, rfl⟩
    case round =>
      obtain ⟨rfl, rfl, rfl⟩ := hrel
      go_wp2_with fail
      refine (specMat_any _ _ _ _ _ (H.out.below hb0) hn hs).mono ?_
      rintro e w1 ⟨rfl, m, rfl⟩
      rw [hm]
      go_wp2_with fail
      go_ret
      exact ⟨_, rfl, by rw [HF.out]; exact HO0.out.below (below_drewN (Below.refl _ _) _), below_drewN hb0 _⟩
  · have hfit := Lib.hid (fit_mat hm)
    have hl := isMat_len hm
    obtain rfl := H.out.1
    have HF : Hid (trmL M = turnTo M (width M)) := Lib.hid (by unfold trmL; rw [hm]; rfl)
    obtain ⟨hl1, hl2⟩ := hl
    have hw64 : width M ≤ 12 := by
      obtain ⟨b, off, ar, cr, r, _, hbl, hx, hcell, hi⟩ := H.out.2 0 (by omega)
      have := isMat_get hm hx
      omega
    have hml : (0 : Int) < (M.length : Int) := by omega
    have HM := Lib.hid hm
    clear hm
    go_enter Try.func47, Try.ntmps47
    go_wp2_with fail
    generalize W.alloc (.cells #[] 35) = w2 at *
    go_loopw [3, 4] (fun o j w9 => ∃ k : Nat, k ≤ width M ∧ j = .int .i64 k ∧ OwnIntss w9 W.heap.size o (turnTo M k) ∧ Below W.heap.size W w9) (fun _ j _ => width M - (intOf j).toNat)
    case atStart => exact ⟨0, Nat.zero_le _, rfl, HO0.out, hb0⟩
    case round =>
      clear hb0 HO0
      obtain ⟨k, hk, rfl, ho, hb⟩ := hrel
      go_wp2_with fail
      refine (specMat_any _ _ _ _ _ (H.out.below hb) hn hs).mono ?_
      rintro e w1 ⟨rfl, m, rfl⟩
      replace ho := ho.below (below_drewN (Below.refl _ _) m)
      replace hb := below_drewN hb m
      generalize wr.drewN m = wx at *
      rw [HM.out]
      have HO := Lib.hid ho
      clear ho
      have hbz := hb.size
      obtain ⟨b0, off0, ar0, cr0, r0, rfl, hbl0, hx0, hcell0, hi0⟩ := (H.out.below hb).2 0 (by omega)
      simp only [Nat.add_zero] at hcell0
      have hw0 : r0.length = width M := (isMat_get HM.out hx0).1
      have HW0 := Lib.hid hw0
      clear hx0 hi0
      by_cases hlt : k < width M
      · have hlti : (k : Int) < (r0.length : Int) := by omega
        clear hw0
        have hr0 := OwnInts.made wx wx.heap.size (Nat.le_refl _)
        have hrb : Below wx.heap.size wx (wx.alloc (.cells #[] 3)) := (Below.refl _ _).alloc (Nat.le_refl _) _
        have HR0 := Lib.hid hr0
        clear hr0
        go_wp2_with fail
        generalize wx.alloc (.cells #[] 3) = w3 at *
        clear hcell0
        go_loopw [5, 6] (fun o i w9 => ∃ j : Nat, j ≤ M.length ∧ i = .int .i64 j ∧ OwnInts w9 wx.heap.size o (colL M j k) ∧ Below wx.heap.size wx w9) (fun _ i _ => M.length - (intOf i).toNat)
        case atStart => exact ⟨0, Nat.zero_le _, rfl, HR0.out, hrb⟩
        case round =>
          clear hrb HR0
          obtain ⟨j, hj, rfl, hor, hbr⟩ := hrel
          have HU := Lib.hid hor
          clear hor
          have hbz2 := hbr.size
          by_cases hjl : j < M.length
          · obtain ⟨bm, om, ar, cr, r, hab, hbm, hx, hcell, hi2⟩ := (H.out.below (hb.step hbr)).2 j hjl
            simp only [Option.some.injEq, Addr.mk.injEq, and_true] at hab
            obtain ⟨rfl, rfl⟩ := hab
            have hrl := (isMat_get HM.out hx).1
            obtain ⟨br, or, x, rfl, hbr3, hrx, hrc⟩ := hi2.2 k (by rw [hrl]; exact hlt)
            have HX := Lib.hid (entF_get hx hrx)
            clear hx hrx hi2
            have hkr : (k : Int) < (r.length : Int) := by rw [hrl]; omega
            have HCL := Lib.hid (show (colL M j k).length < 17592186044416 by rw [colL_length]; omega)
            clear hrl
            go_wp2_with (at_builtin; refine app1 rfl (.tmp 27) (.tmp 35) rfl rfl HU.out x rfl HCL.out hbz2 ?_; intro v' w5 h5 k5)
            go_roundw
            case rel =>
              refine ⟨j + 1, by omega, by go_num, ?_, hbr.trans (k5.below hbz2 fun z h1 h2 => by have := (HU.out.lt z h2.symm).1; omega)⟩
              rw [colL_succ, HX.out]
              exact h5
            case measure => simp [intOf]; omega
          · obtain rfl : j = M.length := by omega
            obtain ⟨au, cu, rfl, hiu⟩ := HU.out.form
            clear hiu
            obtain ⟨vs, hvs, hrs⟩ := HO.out
            have HV := Lib.hid hvs
            have HVR := Lib.hid hrs
            clear hvs hrs
            have hlk : (turnTo M k).length < 1099511627776 := by simp [turnTo]; omega
            have HLK := Lib.hid hlk
            clear hlk
            have HB := Lib.hid hbr
            go_wp2_with (at_builtin; refine appRow (by rfl) (.tmp 37) (.tmp 39) (by rfl) (by rfl) (ownsRow_base HU.out hbz) HB.out HV.out HVR.out (fun q hq => (HU.out.lt q hq).1) (by rfl) HLK.out (by omega) ?_; intro v' w8 h8 k8)
            go_roundw
            case rel =>
              refine ⟨k + 1, by omega, by go_num, by rw [turnTo_succ]; exact h8, hb.trans ?_⟩
              have hvs := HV.out
              exact (HB.out.mono hbz).trans (k8.below (by omega) fun z h1 h2 => by
                have := (World.ownsRow.lt hvs z h2.symm).1
                omega)
            case measure => simp [intOf]; omega
      · obtain rfl : k = width M := by omega
        have hnl : decide (((width M : Nat) : Int) < (r0.length : Int)) = false := by rw [hw0]; simp
        go_wp2_with fail
        go_ret
        exact ⟨_, rfl, by rw [HF.out]; exact HO.out, hb⟩

theorem spec_TransposeMatrix (W : World) (v : Value) (ll : List (List Int)) (h : IsIntss W v ll) (hn : szIntss ll ≤ 1048576) : Calls Try.prog 47 #[v] W (RetIntss W (trmL ll)) := by
  obtain ⟨a, cap, rfl, hi⟩ := h
  unfold szIntss at hn
  exact specTrm_any _ _ _ _ _ hi (by omega) (by omega)
theorem impl_TransposeMatrix (W : World) (v : Value) (ll : List (List Int)) (h : IsIntss W v ll) (hn : szIntss ll ≤ 1048576) : Calls Try.prog 46 #[v] W (RetIntss W (trmL ll)) := by
  obtain ⟨a, cap, rfl, hi⟩ := h
  unfold szIntss at hn
  exact implTrm_any _ _ _ _ _ hi (by omega) (by omega)
end Go.Proofs.Ytfdhbbhfilkafaa
