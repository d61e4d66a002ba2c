/- RankOfMatrix of the program and of the reference. No condition but sizes. -/
import Derived.Test.YtmfeabfbhaiaeaaRk
import Derived.Test.YtmfeabfbhaiaeaaTimes
namespace Go.Proofs.Ytmfeabfbhaiaeaa
open Go.RowKit Gr
set_option maxRecDepth 100000
set_option linter.unusedVariables false
set_option linter.unusedSimpArgs false

def rankN (M : List (List Int)) (n : Nat) : Nat := (redF M.length (entF M) n).P.length
theorem rankN_le (M : List (List Int)) (n : Nat) : rankN M n ≤ M.length := redF_len (entF M) n
theorem rankS (M : List (List Int)) (n : Nat) : (redS M.length n (entF M) n).P.length = rankN M n := by
  unfold rankN; rw [(red_sim (m := M.length) (entF M) (Nat.le_refl n)).1]
def rankM (M : List (List Int)) : Int := if isMat M = true then (rankN M (width M) : Int) else -1
theorem Bnd.mono {m n : Nat} {F : Nat → Nat → Int} {B C : Int} (h : Bnd m n F B) (hBC : B ≤ C) : Bnd m n F C := fun X hX c hc hl => Int.le_trans (h X hX c hc hl) hBC
theorem sq_rowL (n : Nat) (f : Nat → Int) : Go.Proofs.Ytmfeabfbhaiaeaa.sq (rowL n f) = Gr.sq n f := by
  induction n with
  | zero => rfl
  | succ n ih =>
    have e : rowL (n + 1) f = rowL n f ++ [f n] := by simp [rowL, List.range_succ]
    rw [e, sq_snoc, ih]; rfl
theorem rowL_ent {M : List (List Int)} {n i : Nat} {r : List Int} (h : M[i]? = some r) (hr : r.length = n) : rowL n (entF M i) = r := by
  have hi := lt_of_getElem? h
  refine List.ext_getElem? fun k => ?_
  by_cases hk : k < n
  · rw [rowL_get hk]
    simp only [entF, h, Option.getD_some]
    rw [List.getElem?_eq_getElem (by omega)]; rfl
  · rw [List.getElem?_eq_none (by rw [rowL_length]; omega), List.getElem?_eq_none (by omega)]
theorem fit_mat {M : List (List Int)} (h : isMat M = true) : Fit M (width M) (64 ^ 9) := by
  have hl := isMat_len h
  obtain ⟨r0, hr0⟩ : ∃ r0, M[0]? = some r0 := ⟨_, List.getElem?_eq_getElem (by omega)⟩
  have h0 := isMat_get h hr0
  refine ⟨fun r hr => ?_, by omega, by omega, by omega, ?_, by decide⟩
  · obtain ⟨k, hk⟩ := List.getElem?_of_mem hr
    exact (isMat_get h hk).1
  · refine Bnd.mono (Bnd.byRowsM (B := 64) (by decide) fun i hi => ?_) (pow_mono (by decide) hl.2)
    have h1 := isMat_get h (List.getElem?_eq_getElem hi)
    rw [← sq_rowL, rowL_ent (List.getElem?_eq_getElem hi) h1.1]
    exact h1.2.2.2.2

set_option maxHeartbeats 4000000 in
theorem implRank_fit (M : List (List Int)) (n : Nat) (B : Int) (hf : Fit M n B) (W : World) (a : Option Addr) (cap m : Nat) (h : IntssAt W a m M) :
    Calls Try.prog 83 #[.slice a m cap, .int .i64 n] W fun e w' => e = .returned (.int .i64 (rankN M n)) ∧ Below W.heap.size W w' := by
  obtain rfl := h.1
  have H := Lib.hid h
  have HF := Lib.hid hf
  clear h hf
  go_enter Try.func83, Try.ntmps83
  go_wp2_with fail
  refine (reduced_fit M n B HF.out W a cap H.out).mono ?_
  rintro e w1 ⟨va, vp, rfl, h1, h2, hb⟩
  obtain ⟨ap, cp, rfl, hi⟩ := h2.form
  have hl : ((redF M.length (entF M) n).P.map Int.ofNat).length = rankN M n := by rw [List.length_map]; rfl
  clear h1 h2 hi
  rw [hl]
  clear hl
  go_wp2_with fail
  go_ret
  exact ⟨rfl, hb⟩

end Go.Proofs.Ytmfeabfbhaiaeaa
