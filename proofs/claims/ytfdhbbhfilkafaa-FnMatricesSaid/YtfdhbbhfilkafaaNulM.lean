/- NullspaceOf of the program and of the reference. No condition but sizes. -/
import Derived.Test.YtfdhbbhfilkafaaNulS2
namespace Go.Proofs.Ytfdhbbhfilkafaa
open Go.RowKit Gr
set_option maxRecDepth 100000
set_option linter.unusedVariables false
set_option linter.unusedSimpArgs false

def nullM (M : List (List Int)) : List (List Int) := if isMat M = true then nullL M (width M) else []
theorem nullL_len (M : List (List Int)) (n : Nat) : (nullL M n).length ≤ n := by
  unfold nullL nullTo; rw [List.length_map]; exact freeTo_len _ _
theorem nullL_sum (M : List (List Int)) (n : Nat) : sumLen (nullL M n) ≤ n * n := by
  have h : sumLen (nullL M n) = (nullL M n).length * n := by
    unfold nullL nullTo
    generalize freeTo (redF M.length (entF M) n).P n = l
    induction l with
    | nil => simp [sumLen]
    | cons x l ih =>
      simp only [sumLen, List.map_cons, List.sum_cons, List.length_cons, rowL_length] at ih ⊢
      rw [ih, Nat.succ_mul]; omega
  rw [h]
  exact Nat.mul_le_mul_right _ (nullL_len M n)
theorem nullM_sz (M : List (List Int)) : szIntss (nullM M) ≤ 1048576 := by
  unfold nullM
  split
  · rename_i h
    have h1 := (fit_mat h).n64
    have h2 := nullL_len M (width M)
    have h3 := nullL_sum M (width M)
    have h4 : width M * width M ≤ 64 * 64 := Nat.mul_le_mul h1 h1
    unfold szIntss; omega
  · decide

theorem made_intss (W : World) : OwnIntss (W.alloc (.cells #[] 35)) W.heap.size (.slice (some ⟨W.heap.size, 0, none⟩) 0 0) [] := ⟨[], World.ownsRow_made W #[] 0 (Nat.le_refl _) (Nat.zero_le _) rfl, IRows.nil _ _⟩

set_option maxHeartbeats 4000000 in
theorem implNullM_any (M : List (List Int)) (n : Nat) (W : World) (a : Option Addr) (cap : Nat) (h : IntssAt W a n M) (hn : n ≤ 1048576) (hs : sumLen M ≤ 1048576) :
    Calls Try.prog 41 #[.slice a n cap] W (RetIntss W (nullM M)) := by
  have H := Lib.hid h
  clear h
  cases hm : isMat M
  · have HF : Hid (nullM M = []) := Lib.hid (by unfold nullM; rw [hm]; rfl)
    have HO := Lib.hid (made_intss W)
    go_enter Try.func41, Try.ntmps41
    go_wp2_with fail
    refine (implMat_any _ _ _ _ _ H.out hn hs).mono ?_
    rintro e w1 ⟨rfl, rfl⟩
    rw [hm]
    go_wp2_with fail
    go_ret
    exact ⟨_, rfl, by rw [HF.out]; exact HO.out, (Below.refl _ _).alloc (Nat.le_refl _) _⟩
  · have hfit := Lib.hid (fit_mat hm)
    have hl := isMat_len hm
    have hle := H.out.1
    obtain ⟨b, off, ar, cr, r, rfl, hbl, hx, hcell, hi⟩ := H.out.2 0 (by omega)
    have hw := (isMat_get hm hx).1
    simp only [Nat.add_zero] at hcell
    have HW := Lib.hid hw
    have HF : Hid (nullM M = nullL M (width M)) := Lib.hid (by unfold nullM; rw [hm]; rfl)
    have hn1 : 0 < n := by omega
    have hn2 : (0 : Int) < (n : Int) := by omega
    clear hx hi hw hl hle
    go_enter Try.func41, Try.ntmps41
    go_wp2_with fail
    refine (implMat_any _ _ _ _ _ H.out hn hs).mono ?_
    rintro e w1 ⟨rfl, rfl⟩
    rw [hm]
    go_wp2_with fail
    rw [HW.out]
    refine (nullspace_fit M (width M) _ _ hfit.out _ _ _ H.out).mono ?_
    rintro e w2 ⟨v, rfl, ho, hb⟩
    have HO := Lib.hid ho
    clear ho
    go_wp2_with fail
    go_ret
    exact ⟨_, rfl, by rw [HF.out]; exact HO.out, hb⟩
set_option maxHeartbeats 4000000 in
theorem specNullM_any (M : List (List Int)) (n : Nat) (W : World) (a : Option Addr) (cap : Nat) (h : IntssAt W a n M) (hn : n ≤ 1048576) (hs : sumLen M ≤ 1048576) :
    Calls Try.prog 43 #[.slice a n cap] W (RetIntss W (nullM M)) := by
  have H := Lib.hid h
  clear h
  cases hm : isMat M
  · have HF : Hid (nullM M = []) := Lib.hid (by unfold nullM; rw [hm]; rfl)
    go_enter Try.func43, Try.ntmps43
    go_wp2_with fail
    refine (specMat_any _ _ _ _ _ H.out hn hs).mono ?_
    rintro e w1 ⟨rfl, m, rfl⟩
    rw [hm]
    have HO := Lib.hid (made_intss (W.drewN m))
    go_wp2_with fail
    go_ret
    exact ⟨_, rfl, by rw [HF.out]; exact HO.out, (below_drewN (Below.refl _ _) m).alloc (Nat.le_refl _) _⟩
  · have hfit := Lib.hid (fit_mat hm)
    have hl := isMat_len hm
    have hle := H.out.1
    obtain ⟨b, off, ar, cr, r, rfl, hbl, hx, hcell, hi⟩ := H.out.2 0 (by omega)
    have hw := (isMat_get hm hx).1
    simp only [Nat.add_zero] at hcell
    have HW := Lib.hid hw
    have HF : Hid (nullM M = nullL M (width M)) := Lib.hid (by unfold nullM; rw [hm]; rfl)
    have hn1 : 0 < n := by omega
    have hn2 : (0 : Int) < (n : Int) := by omega
    clear hx hi hw hl hle
    go_enter Try.func43, Try.ntmps43
    go_wp2_with fail
    refine (specMat_any _ _ _ _ _ H.out hn hs).mono ?_
    rintro e w1 ⟨rfl, m, rfl⟩
    rw [hm]
    have HB := Lib.hid (below_drewN (Below.refl W.heap.size W) m)
    go_wp2_with fail
    rw [HW.out]
    refine (l9Null_fit M (width M) _ _ hfit.out _ _ _ (H.out.below HB.out)).mono ?_
    rintro e w2 ⟨v, rfl, ho, hb⟩
    have HO := Lib.hid ho
    clear ho
    go_wp2_with fail
    go_ret
    exact ⟨_, rfl, by rw [HF.out]; exact HO.out, HB.out.step hb⟩

theorem spec_NullspaceOf (W : World) (v : Value) (ll : List (List Int)) (h : IsIntss W v ll) (hn : szIntss ll ≤ 1048576) : Calls Try.prog 43 #[v] W (RetIntss W (nullM ll)) := by
  obtain ⟨a, cap, rfl, hi⟩ := h
  unfold szIntss at hn
  exact specNullM_any _ _ _ _ _ hi (by omega) (by omega)
theorem impl_NullspaceOf (W : World) (v : Value) (ll : List (List Int)) (h : IsIntss W v ll) (hn : szIntss ll ≤ 1048576) : Calls Try.prog 41 #[v] W (RetIntss W (nullM ll)) := by
  obtain ⟨a, cap, rfl, hi⟩ := h
  unfold szIntss at hn
  exact implNullM_any _ _ _ _ _ hi (by omega) (by omega)
end Go.Proofs.Ytfdhbbhfilkafaa
