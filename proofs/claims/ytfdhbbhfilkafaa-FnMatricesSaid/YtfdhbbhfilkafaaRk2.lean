/- RankOfMatrix of the program and of the reference. No condition but sizes. -/
import Derived.Test.YtfdhbbhfilkafaaRk
import Derived.Test.YtfdhbbhfilkafaaTimes
namespace Go.Proofs.Ytfdhbbhfilkafaa
open Go.RowKit Gr
set_option maxRecDepth 100000
set_option linter.unusedVariables false
set_option linter.unusedSimpArgs false

def rankN (M : List (List Int)) (n : Nat) : Nat := (redF M.length (entF M) n).P.length
theorem rankN_le (M : List (List Int)) (n : Nat) : rankN M n ≤ M.length := redF_len (entF M) n
theorem rankS (M : List (List Int)) (n : Nat) : (redS M.length n (entF M) n).P.length = rankN M n := by
  unfold rankN; rw [(red_sim (m := M.length) (entF M) (Nat.le_refl n)).1]
def rankM (M : List (List Int)) : Int := if isMat M = true then (rankN M (width M) : Int) else -1
theorem Bnd.mono {m n : Nat} {F : Nat → Nat → Int} {B C : Int} (h : Bnd m n F B) (hBC : B ≤ C) : Bnd m n F C := fun X hX c hc hl => Int.le_trans (h X hX c hc hl) hBC
theorem sq_rowL (n : Nat) (f : Nat → Int) : Go.Proofs.Ytfdhbbhfilkafaa.sq (rowL n f) = Gr.sq n f := by
  induction n with
  | zero => rfl
  | succ n ih =>
    have e : rowL (n + 1) f = rowL n f ++ [f n] := by simp [rowL, List.range_succ]
    rw [e, sq_snoc, ih]; rfl
theorem rowL_ent {M : List (List Int)} {n i : Nat} {r : List Int} (h : M[i]? = some r) (hr : r.length = n) : rowL n (entF M i) = r := by
  have hi := lt_of_getElem? h
  refine List.ext_getElem? fun k => ?_
  by_cases hk : k < n
  · rw [rowL_get hk]
    simp only [entF, h, Option.getD_some]
    rw [List.getElem?_eq_getElem (by omega)]; rfl
  · rw [List.getElem?_eq_none (by rw [rowL_length]; omega), List.getElem?_eq_none (by omega)]
theorem fit_mat {M : List (List Int)} (h : isMat M = true) : Fit M (width M) (64 ^ 9) := by
  have hl := isMat_len h
  obtain ⟨r0, hr0⟩ : ∃ r0, M[0]? = some r0 := ⟨_, List.getElem?_eq_getElem (by omega)⟩
  have h0 := isMat_get h hr0
  refine ⟨fun r hr => ?_, by omega, by omega, by omega, ?_, by decide⟩
  · obtain ⟨k, hk⟩ := List.getElem?_of_mem hr
    exact (isMat_get h hk).1
  · refine Bnd.mono (Bnd.byRowsM (B := 64) (by decide) fun i hi => ?_) (pow_mono (by decide) hl.2)
    have h1 := isMat_get h (List.getElem?_eq_getElem hi)
    rw [← sq_rowL, rowL_ent (List.getElem?_eq_getElem hi) h1.1]
    exact h1.2.2.2.2

set_option maxHeartbeats 4000000 in
theorem implRank_fit (M : List (List Int)) (n : Nat) (B : Int) (hf : Fit M n B) (W : World) (a : Option Addr) (cap m : Nat) (h : IntssAt W a m M) :
    Calls Try.prog 87 #[.slice a m cap, .int .i64 n] W fun e w' => e = .returned (.int .i64 (rankN M n)) ∧ Below W.heap.size W w' := by
  obtain rfl := h.1
  have H := Lib.hid h
  have HF := Lib.hid hf
  clear h hf
  go_enter Try.func87, Try.ntmps87
  go_wp2_with fail
  refine (reduced_fit M n B HF.out W a cap H.out).mono ?_
  rintro e w1 ⟨va, vp, rfl, h1, h2, hb⟩
  obtain ⟨ap, cp, rfl, hi⟩ := h2.form
  have hl : ((redF M.length (entF M) n).P.map Int.ofNat).length = rankN M n := by rw [List.length_map]; rfl
  clear h1 h2 hi
  rw [hl]
  clear hl
  go_wp2_with fail
  go_ret
  exact ⟨rfl, hb⟩

set_option maxHeartbeats 4000000 in
theorem implRankM_any (M : List (List Int)) (n : Nat) (W : World) (a : Option Addr) (cap : Nat) (h : IntssAt W a n M) (hn : n ≤ 1048576) (hs : sumLen M ≤ 1048576) :
    Calls Try.prog 40 #[.slice a n cap] W fun e w' => e = .returned (.int .i64 (rankM M)) ∧ Below W.heap.size W w' := by
  have H := Lib.hid h
  clear h
  cases hm : isMat M
  · have hfin : rankM M = -1 := by unfold rankM; rw [hm]; rfl
    have HF := Lib.hid hfin
    clear hfin
    go_enter Try.func40, Try.ntmps40
    go_wp2_with fail
    refine (implMat_any _ _ _ _ _ H.out hn hs).mono ?_
    rintro e w1 ⟨rfl, rfl⟩
    rw [hm]
    go_wp2_with fail
    go_ret
    exact ⟨by rw [HF.out]; rfl, Below.refl _ _⟩
  · have hfit := Lib.hid (fit_mat hm)
    have hl := isMat_len hm
    have hle := H.out.1
    obtain ⟨b, off, ar, cr, r, rfl, hbl, hx, hcell, hi⟩ := H.out.2 0 (by omega)
    have hw := (isMat_get hm hx).1
    simp only [Nat.add_zero] at hcell
    have HW := Lib.hid hw
    have HF : Hid (rankM M = (rankN M (width M) : Int)) := Lib.hid (by unfold rankM; rw [hm]; rfl)
    have hn1 : 0 < n := by omega
    have hn2 : (0 : Int) < (n : Int) := by omega
    clear hx hi hw hl hle
    go_enter Try.func40, Try.ntmps40
    go_wp2_with fail
    refine (implMat_any _ _ _ _ _ H.out hn hs).mono ?_
    rintro e w1 ⟨rfl, rfl⟩
    rw [hm]
    go_wp2_with fail
    rw [HW.out]
    refine (implRank_fit M (width M) _ hfit.out _ _ _ _ H.out).mono ?_
    rintro e w2 ⟨rfl, hb⟩
    go_wp2_with fail
    go_ret
    exact ⟨by rw [HF.out]; rfl, hb⟩

set_option maxHeartbeats 4000000 in
theorem specRankM_any (M : List (List Int)) (n : Nat) (W : World) (a : Option Addr) (cap : Nat) (h : IntssAt W a n M) (hn : n ≤ 1048576) (hs : sumLen M ≤ 1048576) :
    Calls Try.prog 42 #[.slice a n cap] W fun e w' => e = .returned (.int .i64 (rankM M)) ∧ Below W.heap.size W w' := by
  have H := Lib.hid h
  clear h
  cases hm : isMat M
  · have hfin : rankM M = -1 := by unfold rankM; rw [hm]; rfl
    have HF := Lib.hid hfin
    clear hfin
    go_enter Try.func42, Try.ntmps42
    go_wp2_with fail
    refine (specMat_any _ _ _ _ _ H.out hn hs).mono ?_
    rintro e w1 ⟨rfl, m, rfl⟩
    rw [hm]
    go_wp2_with fail
    go_ret
    exact ⟨by rw [HF.out]; rfl, below_drewN (Below.refl _ _) _⟩
  · have hfit := Lib.hid (fit_mat hm)
    have HF : Hid (rankM M = (rankN M (width M) : Int)) := Lib.hid (by unfold rankM; rw [hm]; rfl)
    obtain rfl := H.out.1
    go_enter Try.func42, Try.ntmps42
    go_wp2_with fail
    refine (specMat_any _ _ _ _ _ H.out hn hs).mono ?_
    rintro e w1 ⟨rfl, m, rfl⟩
    rw [hm]
    have HB := Lib.hid (below_drewN (Below.refl W.heap.size W) m)
    go_wp2_with fail
    refine (l9Reduced_fit M (width M) _ hfit.out _ _ _ (H.out.below HB.out)).mono ?_
    rintro e w2 ⟨va, vp, rfl, h1, h2, hb⟩
    obtain ⟨ap, cp, rfl, hi⟩ := h2.form
    have hl : ((redS M.length (width M) (entF M) (width M)).P.map Int.ofNat).length = rankN M (width M) := by rw [List.length_map]; exact rankS M _
    clear h1 h2 hi
    rw [hl]
    clear hl
    go_wp2_with fail
    go_ret
    exact ⟨by rw [HF.out]; rfl, HB.out.step hb⟩

theorem spec_RankOfMatrix (W : World) (v : Value) (ll : List (List Int)) (h : IsIntss W v ll) (hn : szIntss ll ≤ 1048576) : Calls Try.prog 42 #[v] W fun e w' => e = .returned (.int .i64 (rankM ll)) ∧ Below W.heap.size W w' := by
  obtain ⟨a, cap, rfl, hi⟩ := h
  unfold szIntss at hn
  exact specRankM_any _ _ _ _ _ hi (by omega) (by omega)
theorem impl_RankOfMatrix (W : World) (v : Value) (ll : List (List Int)) (h : IsIntss W v ll) (hn : szIntss ll ≤ 1048576) : Calls Try.prog 40 #[v] W fun e w' => e = .returned (.int .i64 (rankM ll)) ∧ Below W.heap.size W w' := by
  obtain ⟨a, cap, rfl, hi⟩ := h
  unfold szIntss at hn
  exact implRankM_any _ _ _ _ _ hi (by omega) (by omega)
end Go.Proofs.Ytfdhbbhfilkafaa
