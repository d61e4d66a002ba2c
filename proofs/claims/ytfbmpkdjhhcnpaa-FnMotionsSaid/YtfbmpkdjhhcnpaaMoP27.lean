/- Matrices: rank and null space add up to the columns, the null space is taken to zero, the rank of the transposed matrix. Plain law, no condition. -/
import Derived.Test.YtfbmpkdjhhcnpaaMoP19
import Derived.Test.YtfbmpkdjhhcnpaaMoP26
import Derived.Test.YtfbmpkdjhhcnpaaMoP08
import Derived.Test.YtfbmpkdjhhcnpaaMoP13
namespace Go.Proofs.Ytfbmpkdjhhcnpaa
open Go.RowKit Gr
set_option maxRecDepth 100000
set_option linter.unusedVariables false
set_option linter.unusedSimpArgs false
theorem freeTo_cnt {P : List Nat} {n : Nat} (hP : P.Nodup) (hn : ∀ j ∈ P, j < n) : P.length + (freeTo P n).length = n := by
  have h1 : ∀ (P : List Nat), P.Nodup → (∀ j ∈ P, j < n) → (List.range n).countP (fun k => P.contains k) = P.length := by
    intro P
    induction P with
    | nil => intro _ _; rw [List.countP_eq_zero.2 (fun k _ => by simp)]; rfl
    | cons x P ih =>
      intro hP hn
      obtain ⟨hx, hP'⟩ := List.nodup_cons.1 hP
      have ih := ih hP' fun j hj => hn j (List.mem_cons_of_mem _ hj)
      have key : ∀ L : List Nat, L.countP (fun k => (x :: P).contains k) = L.countP (fun k => P.contains k) + L.countP (fun k => k == x) := by
        intro L
        induction L with
        | nil => rfl
        | cons y L ihL =>
          rw [List.countP_cons, List.countP_cons, List.countP_cons, ihL]
          by_cases e : y = x
          · subst e
            have : P.contains y = false := by simpa using hx
            rw [this]; simp; omega
          · have e1 : (x :: P).contains y = P.contains y := by simp [List.contains_cons, e]
            have e2 : (y == x) = false := by simpa using e
            rw [e1, e2]; simp; omega
      rw [key, ih, List.length_cons]
      congr 1
      have hxn := hn x (List.mem_cons_self ..)
      have e3 : ∀ m : Nat, (List.range m).countP (fun k => k == x) = if x < m then 1 else 0 := by
        intro m
        induction m with
        | zero => rfl
        | succ m ihm =>
          rw [List.range_succ, List.countP_append, ihm, List.countP_singleton]
          by_cases e : m = x
          · subst e; simp
          · have : (m == x) = false := by simpa using e
            simp only [this, Bool.false_eq_true, if_false]
            split <;> split <;> omega
      rw [e3, if_pos hxn]
  have h2 := h1 P hP hn
  have h3 : ∀ L : List Nat, L.countP (fun k => P.contains k) + (L.filter fun k => !P.contains k).length = L.length := by
    intro L
    induction L with
    | nil => rfl
    | cons y L ih =>
      rw [List.countP_cons, List.length_cons]
      cases h : P.contains y
      · rw [List.filter_cons_of_pos (by rw [h]; rfl), List.length_cons]; simp only [Bool.false_eq_true, if_false]; omega
      · rw [List.filter_cons_of_neg (by rw [h]; simp)]; simp only [if_true]; omega
  have h4 := h3 (List.range n)
  rw [List.length_range] at h4
  unfold freeTo
  omega
theorem nullL_cnt (M : List (List Int)) (n : Nat) : rankN M n + (nullL M n).length = n := by
  unfold rankN nullL nullTo
  rw [List.length_map]
  obtain ⟨h1, h2⟩ := redF_P (m := M.length) (entF M) n
  exact freeTo_cnt h2 h1
theorem nullL_get {M : List (List Int)} {n : Nat} {v : List Int} (h : v ∈ nullL M n) : ∃ free, free < n ∧ free ∉ (redF M.length (entF M) n).P ∧ v = rowL n (primF n (vI (redF M.length (entF M) n) free)) := by
  unfold nullL nullTo at h
  obtain ⟨f, hf, rfl⟩ := List.mem_map.1 h
  unfold freeTo at hf
  obtain ⟨h1, h2⟩ := List.mem_filter.1 hf
  exact ⟨f, List.mem_range.1 h1, by simpa using h2, rfl⟩
theorem nullL_ker {M : List (List Int)} {n : Nat} {v : List Int} (h : v ∈ nullL M n) : ∃ f, v = rowL n f ∧ Ker M.length n (entF M) f := by
  obtain ⟨free, h1, h2, rfl⟩ := nullL_get h
  exact ⟨_, rfl, ker_prim (ker_vI (entF M) h1 h2)⟩
theorem nullL_bd {M : List (List Int)} {n : Nat} {B : Int} (hf : Fit M n B) {v : List Int} (h : v ∈ nullL M n) {b : Nat} (hb : B ≤ (b : Int) * b) : ∃ f, v = rowL n (primF n f) ∧ ∀ k, k < n → (f k).natAbs ≤ b := by
  obtain ⟨free, h1, h2, rfl⟩ := nullL_get h
  refine ⟨_, rfl, fun k hk => ?_⟩
  obtain ⟨X, hI⟩ := Inv.all (m := M.length) (n := n) (entF M) (Nat.le_refl n)
  have hnum : ∀ i, i < M.length → ∀ k, k < n → ((redF M.length (entF M) n).F i k).natAbs ≤ b := fun i hi k hk => by
    have h3 := Int.le_trans (hf.bnd.num hI hi hk) hb
    generalize (redF M.length (entF M) n).F i k = x at *
    refine Nat.le_of_not_lt fun hlt => ?_
    have h4 : (b : Int) * b < x.natAbs * x.natAbs := by
      have : b * b < x.natAbs * x.natAbs := Nat.mul_self_lt_mul_self hlt
      exact_mod_cast this
    rw [Int.natAbs_mul_self'] at h4
    omega
  have hd : (redF M.length (entF M) n).d.natAbs ≤ b := by
    have h3 := Int.le_trans (hf.bnd.last hI) hb
    generalize (redF M.length (entF M) n).d = x at *
    refine Nat.le_of_not_lt fun hlt => ?_
    have h4 : (b : Int) * b < x.natAbs * x.natAbs := by
      have : b * b < x.natAbs * x.natAbs := Nat.mul_self_lt_mul_self hlt
      exact_mod_cast this
    rw [Int.natAbs_mul_self'] at h4
    omega
  have hlen := hI.len
  generalize redF M.length (entF M) n = s at *
  unfold vI
  split
  · exact hd
  · split
    · rename_i hk2
      rw [Int.natAbs_neg]
      have := List.idxOf_lt_length_iff.2 hk2
      exact hnum _ (by omega) free h1
    · simp
theorem nullL_prim {M : List (List Int)} {n : Nat} {B : Int} (hf : Fit M n B) {v : List Int} (h : v ∈ nullL M n) : prim v = v := by
  have hs := hf.small
  obtain ⟨f, rfl, hb⟩ := nullL_bd hf h (b := 2121320344) (by omega)
  rw [prim_rowL fun k hk => by have := primF_bd (n := n) (f := f) hb hk; omega]
  exact rowL_congr fun k hk => primF_self hk
theorem wrap_zero {x : Int} (h : x % 18446744073709551616 = 0) : wrap64 x = 0 := by unfold wrap64; omega
theorem wrap_mod (x : Int) : wrap64 x % 18446744073709551616 = x % 18446744073709551616 := by unfold wrap64; omega
theorem wrap_self (x : Int) : wrap64 (wrap64 x) = wrap64 x := by unfold wrap64; omega
theorem dot_zero {n : Nat} {f g : Nat → Int} (h : dt n f g = 0) : dot (rowL n g) (rowL n f) = 0 := by
  have key : ∀ j, j ≤ n → dotTo (rowL n f) (rowL n g) j % 18446744073709551616 = dt j f g % 18446744073709551616 ∧ wrap64 (dotTo (rowL n f) (rowL n g) j) = dotTo (rowL n f) (rowL n g) j := by
    intro j
    induction j with
    | zero => intro _; exact ⟨rfl, by unfold dotTo wrap64; rfl⟩
    | succ j ih =>
      intro hj
      obtain ⟨h1, h2⟩ := ih (by omega)
      unfold dotTo
      refine ⟨?_, wrap_self _⟩
      rw [wrap_mod, rowL_get (show j < n by omega), rowL_get (show j < n by omega)]
      simp only [Option.getD_some, dt]
      have h3 := wrap_mod (f j * g j)
      omega
  have h4 := key n (Nat.le_refl _)
  unfold dot
  rw [rowL_length, ← h4.2]
  refine wrap_zero ?_
  rw [h4.1, h]; rfl
theorem nullM_times {M : List (List Int)} (hm : isMat M = true) {v : List Int} (h : v ∈ nullM M) : ∀ x ∈ timesV M v, x = 0 := by
  unfold nullM at h
  rw [if_pos hm] at h
  obtain ⟨f, rfl, hk⟩ := nullL_ker h
  intro x hx
  unfold timesV at hx
  rw [if_pos ⟨hm, rowL_length _ _⟩] at hx
  obtain ⟨r, hr, rfl⟩ := List.mem_map.1 hx
  obtain ⟨i, hi⟩ := List.getElem?_of_mem hr
  have h1 := isMat_get hm hi
  rw [← rowL_ent hi h1.1]
  exact dot_zero (hk i (lt_of_getElem? hi))
theorem nullM_prim {M : List (List Int)} {v : List Int} (h : v ∈ nullM M) : prim v = v := by
  unfold nullM at h
  split at h
  · rename_i hm
    exact nullL_prim (fit_mat hm) h
  · exact absurd h (by simp)
theorem nullM_cnt {M : List (List Int)} (hm : isMat M = true) : rankM M + ((nullM M).length : Int) = width M := by
  unfold rankM nullM
  rw [if_pos hm, if_pos hm]
  have := nullL_cnt M (width M)
  omega
theorem turnL_get {M : List (List Int)} {n k : Nat} (hk : k < n) : (turnL M n)[k]? = some (colL M M.length k) := by
  unfold turnL
  rw [List.getElem?_map, List.getElem?_range hk]; rfl
theorem rankM_tr {M : List (List Int)} (hm : isMat M = true) (ht : isMat (trmL M) = true) : rankM (trmL M) = rankM M := by
  have hf := fit_mat hm
  have e0 : trmL M = turnL M (width M) := by unfold trmL; rw [if_pos hm]
  have hw : width (turnL M (width M)) = M.length := by
    unfold width
    have h1 := turnL_get (M := M) (n := width M) hf.n0
    have h2 : (turnL M (width M)).headD [] = colL M M.length 0 := by
      cases h3 : turnL M (width M) with
      | nil => rw [h3] at h1; simp at h1
      | cons a l => rw [h3] at h1; simpa using h1
    show ((turnL M (width M)).headD []).length = M.length
    rw [h2]
    unfold colL
    exact rowL_length _ _
  have hl : (turnL M (width M)).length = width M := by simp [turnL]
  unfold rankM
  rw [if_pos ht, if_pos hm, e0, hw]
  congr 1
  unfold rankN
  rw [hl]
  exact rank_tr fun i hi k hk => by
    have h1 := turnL_get (M := M) hk
    conv => lhs; unfold entF
    rw [h1, Option.getD_some]
    unfold colL
    rw [rowL_get hi, Option.getD_some]
theorem gcdZ_comm (a b : Int) : gcdZ a b = gcdZ b a := by
  unfold gcdZ
  rw [Bool.and_comm, Nat.gcd_comm]
end Go.Proofs.Ytfbmpkdjhhcnpaa

namespace Go.Proofs.Ytfbmpkdjhhcnpaa
open Go.RowKit
set_option maxRecDepth 100000
set_option linter.unusedVariables false

def plAt (q : List PlaceT) (i : Nat) : PlaceT := q[i]?.getD (0, 0)
end Go.Proofs.Ytfbmpkdjhhcnpaa

namespace Go.Proofs.Ytfbmpkdjhhcnpaa
open Go.RowKit
set_option maxRecDepth 100000
set_option linter.unusedVariables false
set_option linter.unusedSimpArgs false

theorem implIsGraph_n (W : World) (p : Int) (a : Option Addr) (cap n : Nat) (l : List BarT) (h : BarsAt W a n l) (hn : n ≤ 1099511627776) :
    Calls Try.prog 47 #[.agg #[.int .i64 p, .slice a n cap]] W fun e w' => e = .returned (.bool (isGraphB (p, l))) ∧ Below W.heap.size W w' := by
  obtain rfl := h.1
  exact implIsGraph_at W p a cap l h hn

set_option maxHeartbeats 16000000 in
theorem implIsFw_at (W : World) (p : Int) (a : Option Addr) (cap : Nat) (l : List BarT) (c : Option Addr) (capc : Nat) (q : List PlaceT) (h : BarsAt W a l.length l) (hq : PlacesAt W c q.length q) (hn : l.length ≤ 1099511627776) (hnq : q.length ≤ 1099511627776) :
    Calls Try.prog 30 #[.agg #[.int .i64 p, .slice a l.length cap, .slice c q.length capc]] W fun e w' => e = .returned (.bool (isFwB (p, l, q))) ∧ Below W.heap.size W w' := by
  have hwd := @Wd.cells
  have hgB := guardBar
  have hgP := guardPlace
  have HI := Lib.hid h
  have HJ := Lib.hid hq
  clear h hq
  generalize hL : l.length = n at *
  generalize hT : q.length = t at *
  have HL := Lib.hid hL
  have HT := Lib.hid hT
  have HB0 : Hid (Below W.heap.size W ((W.alloc (.cells #[.int .i64 p, .slice a n cap, .slice c t capc] 29)).alloc (.cells #[.int .i64 p, .slice a n cap] 26))) := ((Below.refl _ W).alloc (Nat.le_refl _) _).alloc (by simp) _
  cases hg : isGraphB (p, l)
  · have HF := Lib.hid (ret_bool (show isFwB (p, l, q) = false by simp only [isFwB, hg, Bool.false_and]))
    go_enter Try.func30, Try.ntmps30
    go_wp2_with fail
    refine (implIsGraph_n _ _ _ _ _ _ (HI.out.below HB0.out) (by omega)).mono ?_
    rintro e W0 ⟨rfl, b1⟩
    rw [hg]
    have HB1 : Hid (Below W.heap.size W W0) := HB0.out.trans (b1.mono (by simp <;> omega))
    clear b1
    go_wp2_with fail
    go_ret
    exact ⟨HF.out.symm, HB1.out⟩
  have hgb := isGraphB_bd hg
  obtain ⟨hgb1, hgb2⟩ := hgb
  rw [hL] at hgb2
  clear hL hT
  by_cases h6 : 6 < p
  · have hd6 : decide (6 < p) = true := decide_eq_true h6
    have HF := Lib.hid (ret_bool (show isFwB (p, l, q) = false by have h6b : decide (p ≤ 6) = false := decide_eq_false (by omega); simp only [isFwB, h6b, Bool.false_and, Bool.and_false]))
    go_enter Try.func30, Try.ntmps30
    go_wp2_with fail
    refine (implIsGraph_n _ _ _ _ _ _ (HI.out.below HB0.out) (by omega)).mono ?_
    rintro e W0 ⟨rfl, b1⟩
    rw [hg]
    have hz : W.heap.size + 1 + 1 ≤ W0.heap.size := by have := b1.size; simp at this; omega
    have g0 : W0.cell? ⟨W.heap.size, 0, none⟩ = some (.int .i64 p) := by rw [(bcell b1).1 _ _ (by simp <;> omega)]; simp [World.cell?_alloc_new]
    have g1 : W0.cell? ⟨W.heap.size, 1, none⟩ = some (.slice a n cap) := by rw [(bcell b1).1 _ _ (by simp <;> omega)]; simp [World.cell?_alloc_new]
    have g2 : W0.cell? ⟨W.heap.size, 2, none⟩ = some (.slice c t capc) := by rw [(bcell b1).1 _ _ (by simp <;> omega)]; simp [World.cell?_alloc_new]
    have gg0 : W0.cell? ⟨W.heap.size + 1, 0, none⟩ = some (.int .i64 p) := by rw [(bcell b1).1 _ _ (by simp)]; simp [World.cell?_alloc_new]
    have gg1 : W0.cell? ⟨W.heap.size + 1, 1, none⟩ = some (.slice a n cap) := by rw [(bcell b1).1 _ _ (by simp)]; simp [World.cell?_alloc_new]
    have HB1 : Hid (Below W.heap.size W W0) := HB0.out.trans (b1.mono (by simp <;> omega))
    clear b1
    have hs1 : W.heap.size < W0.heap.size := by omega
    have hs2 : W.heap.size ≤ W0.heap.size := by omega
    have hs3 : W.heap.size + 1 < W0.heap.size := by omega
    go_wp2_with fail
    go_ret
    exact ⟨HF.out.symm, HB1.out⟩
  have hd6 : decide (6 < p) = false := decide_eq_false h6
  by_cases h15 : 15 < n
  · have hd15 : decide (15 < n) = true := decide_eq_true h15
    have HF := Lib.hid (ret_bool (show isFwB (p, l, q) = false by have h15b : decide (l.length ≤ 15) = false := decide_eq_false (by have := HL.out; omega); simp only [isFwB, h15b, Bool.false_and, Bool.and_false]))
    go_enter Try.func30, Try.ntmps30
    go_wp2_with fail
    refine (implIsGraph_n _ _ _ _ _ _ (HI.out.below HB0.out) (by omega)).mono ?_
    rintro e W0 ⟨rfl, b1⟩
    rw [hg]
    have hz : W.heap.size + 1 + 1 ≤ W0.heap.size := by have := b1.size; simp at this; omega
    have g0 : W0.cell? ⟨W.heap.size, 0, none⟩ = some (.int .i64 p) := by rw [(bcell b1).1 _ _ (by simp <;> omega)]; simp [World.cell?_alloc_new]
    have g1 : W0.cell? ⟨W.heap.size, 1, none⟩ = some (.slice a n cap) := by rw [(bcell b1).1 _ _ (by simp <;> omega)]; simp [World.cell?_alloc_new]
    have g2 : W0.cell? ⟨W.heap.size, 2, none⟩ = some (.slice c t capc) := by rw [(bcell b1).1 _ _ (by simp <;> omega)]; simp [World.cell?_alloc_new]
    have gg0 : W0.cell? ⟨W.heap.size + 1, 0, none⟩ = some (.int .i64 p) := by rw [(bcell b1).1 _ _ (by simp)]; simp [World.cell?_alloc_new]
    have gg1 : W0.cell? ⟨W.heap.size + 1, 1, none⟩ = some (.slice a n cap) := by rw [(bcell b1).1 _ _ (by simp)]; simp [World.cell?_alloc_new]
    have HB1 : Hid (Below W.heap.size W W0) := HB0.out.trans (b1.mono (by simp <;> omega))
    clear b1
    have hs1 : W.heap.size < W0.heap.size := by omega
    have hs2 : W.heap.size ≤ W0.heap.size := by omega
    have hs3 : W.heap.size + 1 < W0.heap.size := by omega
    go_wp2_with fail
    go_ret
    exact ⟨HF.out.symm, HB1.out⟩
  have hd15 : decide (15 < n) = false := decide_eq_false h15
  by_cases hpt : (t : Int) = p
  rotate_left
  · have hq1 : ((t : Int) != p) = true := by simpa using hpt
    have HF := Lib.hid (ret_bool (show isFwB (p, l, q) = false by have h16 : decide ((q.length : Int) = p) = false := decide_eq_false (by have := HT.out; omega); simp only [isFwB, h16, Bool.false_and, Bool.and_false]))
    go_enter Try.func30, Try.ntmps30
    go_wp2_with fail
    refine (implIsGraph_n _ _ _ _ _ _ (HI.out.below HB0.out) (by omega)).mono ?_
    rintro e W0 ⟨rfl, b1⟩
    rw [hg]
    have hz : W.heap.size + 1 + 1 ≤ W0.heap.size := by have := b1.size; simp at this; omega
    have g0 : W0.cell? ⟨W.heap.size, 0, none⟩ = some (.int .i64 p) := by rw [(bcell b1).1 _ _ (by simp <;> omega)]; simp [World.cell?_alloc_new]
    have g1 : W0.cell? ⟨W.heap.size, 1, none⟩ = some (.slice a n cap) := by rw [(bcell b1).1 _ _ (by simp <;> omega)]; simp [World.cell?_alloc_new]
    have g2 : W0.cell? ⟨W.heap.size, 2, none⟩ = some (.slice c t capc) := by rw [(bcell b1).1 _ _ (by simp <;> omega)]; simp [World.cell?_alloc_new]
    have gg0 : W0.cell? ⟨W.heap.size + 1, 0, none⟩ = some (.int .i64 p) := by rw [(bcell b1).1 _ _ (by simp)]; simp [World.cell?_alloc_new]
    have gg1 : W0.cell? ⟨W.heap.size + 1, 1, none⟩ = some (.slice a n cap) := by rw [(bcell b1).1 _ _ (by simp)]; simp [World.cell?_alloc_new]
    have HB1 : Hid (Below W.heap.size W W0) := HB0.out.trans (b1.mono (by simp <;> omega))
    clear b1
    have hs1 : W.heap.size < W0.heap.size := by omega
    have hs2 : W.heap.size ≤ W0.heap.size := by omega
    have hs3 : W.heap.size + 1 < W0.heap.size := by omega
    go_wp2_with fail
    go_ret
    exact ⟨HF.out.symm, HB1.out⟩
  have hq1 : ((t : Int) != p) = false := by simpa using hpt
  have HPT := Lib.hid hpt
  have hpt1 : (t : Int) ≤ p := by omega
  have hpt2 : p ≤ (t : Int) := by omega
  clear hpt
  go_enter Try.func30, Try.ntmps30
  go_wp2_with fail
  refine (implIsGraph_n _ _ _ _ _ _ (HI.out.below HB0.out) (by omega)).mono ?_
  rintro e W0 ⟨rfl, b1⟩
  rw [hg]
  have hz : W.heap.size + 1 + 1 ≤ W0.heap.size := by have := b1.size; simp at this; omega
  have g0 : W0.cell? ⟨W.heap.size, 0, none⟩ = some (.int .i64 p) := by rw [(bcell b1).1 _ _ (by simp <;> omega)]; simp [World.cell?_alloc_new]
  have g1 : W0.cell? ⟨W.heap.size, 1, none⟩ = some (.slice a n cap) := by rw [(bcell b1).1 _ _ (by simp <;> omega)]; simp [World.cell?_alloc_new]
  have g2 : W0.cell? ⟨W.heap.size, 2, none⟩ = some (.slice c t capc) := by rw [(bcell b1).1 _ _ (by simp <;> omega)]; simp [World.cell?_alloc_new]
  have gg0 : W0.cell? ⟨W.heap.size + 1, 0, none⟩ = some (.int .i64 p) := by rw [(bcell b1).1 _ _ (by simp)]; simp [World.cell?_alloc_new]
  have gg1 : W0.cell? ⟨W.heap.size + 1, 1, none⟩ = some (.slice a n cap) := by rw [(bcell b1).1 _ _ (by simp)]; simp [World.cell?_alloc_new]
  have HB1 : Hid (Below W.heap.size W W0) := HB0.out.trans (b1.mono (by simp <;> omega))
  clear b1
  have hs1 : W.heap.size < W0.heap.size := by omega
  have hs2 : W.heap.size ≤ W0.heap.size := by omega
  have hs3 : W.heap.size + 1 < W0.heap.size := by omega
  have HC := Lib.hid (HI.out.below HB1.out).2
  have HCQ := Lib.hid (HJ.out.below HB1.out).2
  go_wp2_with fail
  go_loopw [35] (fun i wr => ∃ k : Nat, k ≤ t ∧ i = .int .i64 k ∧ (q.take k).all (fun x => onB x.1 x.2) = true ∧ Below W0.heap.size W0 wr) (fun i _ => t - (intOf i).toNat)
  case atStart => exact ⟨0, Nat.zero_le _, rfl, by simp, Below.refl _ _⟩
  case round =>
    obtain ⟨k, hk, rfl, hall, hb⟩ := hrel
    have HA := Lib.hid hall
    clear hall
    by_cases hlt : k < t
    · skip
      obtain ⟨b, off, ⟨x1, x2⟩, rfl, hbl, hx, hc0, hc1⟩ := HCQ.out k hlt
      dsimp only at hc0 hc1
      have HX := Lib.hid hx
      have d0 := (hb.cell (p := ⟨b, off + k * 2, none⟩) hbl).trans hc0
      have d1 := (hb.cell (p := ⟨b, off + k * 2 + 1, none⟩) hbl).trans hc1
      clear hx hc0 hc1
      have hbz := hb.size
      cases e1 : onB x1 x2
      · have HF := Lib.hid (ret_bool (isFw_place (p := p) (l := l) HX.out e1))
        go_wp2_with fail
        refine (isPlace_any _ _ _).mono ?_
        rintro e w1 ⟨rfl, b1⟩
        rw [e1]
        have hb2 : Below W0.heap.size W0 w1 := (hb.alloc hb.size _).trans (b1.mono (by simp; omega))
        clear b1
        go_wp2_with fail
        go_ret
        exact ⟨HF.out.symm, HB1.out.trans (hb2.mono (by omega))⟩
      · go_wp2_with fail
        refine (isPlace_any _ _ _).mono ?_
        rintro e w1 ⟨rfl, b1⟩
        rw [e1]
        have hb2 : Below W0.heap.size W0 w1 := (hb.alloc hb.size _).trans (b1.mono (by simp; omega))
        clear b1
        go_wp2_with fail
        go_roundw
        case rel => exact ⟨k + 1, by omega, by go_num, all_take_succ HX.out HA.out e1, hb2⟩
        case measure => simp [intOf]; omega
    · obtain rfl : k = t := by omega
      have hall2 : q.all (fun x => onB x.1 x.2) = true := by have h1 := HA.out; rwa [List.take_of_length_le (by have := HT.out; omega)] at h1
      have HA2 := Lib.hid hall2
      clear hall2
      have gW := hb
      have oo0 := (hb.cell (p := ⟨W.heap.size + 1, 0, none⟩) hs3).trans gg0
      have oo1 := (hb.cell (p := ⟨W.heap.size + 1, 1, none⟩) hs3).trans gg1
      have oo2 := (hb.cell (p := ⟨W.heap.size, 2, none⟩) hs1).trans g2
      go_wp2_with fail
      go_loopw [46] (fun i w9 => ∃ j : Nat, j ≤ n ∧ i = .int .i64 j ∧ (List.range j).all (fwBarAt l q) = true ∧ Below W0.heap.size W0 w9) (fun i _ => n - (intOf i).toNat)
      case atStart => exact ⟨0, Nat.zero_le _, rfl, by simp, gW⟩
      case round =>
        clear hb gW
        obtain ⟨j, hj, rfl, hall, hb⟩ := hrel
        have HB := Lib.hid hall
        clear hall
        obtain ⟨wz, hwz⟩ : ∃ wz, wz = wr := ⟨_, rfl⟩
        have hbz := hb.size
        have q0 := (hb.cell (p := ⟨W.heap.size, 0, none⟩) hs1).trans g0
        have q1 := (hb.cell (p := ⟨W.heap.size, 1, none⟩) hs1).trans g1
        have q2 := (hb.cell (p := ⟨W.heap.size, 2, none⟩) hs1).trans g2
        have qq0 := (hb.cell (p := ⟨W.heap.size + 1, 0, none⟩) hs3).trans gg0
        have qq1 := (hb.cell (p := ⟨W.heap.size + 1, 1, none⟩) hs3).trans gg1
        have hv1 : W.heap.size + 1 < wr.heap.size := by omega
        have hv2 : W.heap.size + 1 ≤ wr.heap.size := by omega
        have hv3 : W.heap.size < wr.heap.size := by omega
        clear hwz
        have hu1 : W.heap.size < wr.heap.size := by omega
        have hu2 : W.heap.size ≤ wr.heap.size := by omega
        have hu3 : W.heap.size < wr.heap.size + 1 := by omega
        by_cases hjl : j < n
        · obtain ⟨b, off, ⟨x1, x2⟩, rfl, hbl, hx, hc0, hc1⟩ := HC.out j hjl
          dsimp only at hc0 hc1
          obtain ⟨hx1, hx2, hx3⟩ := isGraphB_bar hg hx
          dsimp only at hx1 hx2 hx3
          obtain ⟨i1, rfl⟩ := Int.eq_ofNat_of_zero_le hx1
          obtain ⟨i2, rfl⟩ := Int.eq_ofNat_of_zero_le (show 0 ≤ x2 by omega)
          have HX := Lib.hid hx
          have d0 := (hb.cell (p := ⟨b, off + j * 2, none⟩) hbl).trans hc0
          have d1 := (hb.cell (p := ⟨b, off + j * 2 + 1, none⟩) hbl).trans hc1
          have hr1 : b < wr.heap.size := by omega
          have hr2 : b ≤ wr.heap.size := by omega
          have hr3 : b < wr.heap.size + 1 := by omega
          clear hc0 hc1 hx
          have hi1 : i1 < k := by omega
          have hi2 : i2 < k := by omega
          obtain ⟨bq, offq, ⟨y1, y2⟩, rfl, hbq, hy, hy0, hy1⟩ := HCQ.out i1 hi1
          obtain ⟨bq', offq', ⟨z1, z2⟩, hab, hbq', hzz, hz0, hz1⟩ := HCQ.out i2 hi2
          simp only [Option.some.injEq, Addr.mk.injEq, and_true] at hab
          obtain ⟨rfl, rfl⟩ := hab
          dsimp only at hy0 hy1 hz0 hz1
          have HY := Lib.hid hy
          have HZ := Lib.hid hzz
          have p0 := (hb.cell (p := ⟨bq, offq + i1 * 2, none⟩) hbq).trans hy0
          have p1 := (hb.cell (p := ⟨bq, offq + i1 * 2 + 1, none⟩) hbq).trans hy1
          have r0 := (hb.cell (p := ⟨bq, offq + i2 * 2, none⟩) hbq).trans hz0
          have r1 := (hb.cell (p := ⟨bq, offq + i2 * 2 + 1, none⟩) hbq).trans hz1
          have hm1 : bq < wr.heap.size := by omega
          have hm2 : bq ≤ wr.heap.size := by omega
          have hm3 : bq < wr.heap.size + 1 := by omega
          clear hy hzz hy0 hy1 hz0 hz1 g0 g1 g2 gg0 gg1
          by_cases hpq : (((y1, y2) : PlaceT) = (z1, z2))
          · have HPQ := Lib.hid hpq
            have hcp := fun w => eqlPlace_t hpq w
            clear hpq
            have HF := Lib.hid (ret_bool (isFw_bar (p := p) (l := l) (q := q) (j := j) (by have := HL.out; omega) (by simp only [fwBarAt, HX.out, Int.toNat_natCast, HY.out, HZ.out, HPQ.out]; simp)))
            by_cases hj0 : j = 0
            · subst hj0
              simp only [Nat.zero_mul, Nat.add_zero] at d0 d1
              go_wp2_with fail
              refine wp_region_wd (by kernel_rfl) (by kernel_rfl) ?_
              repeat (go_big_quiet_step (fail))
              refine wpQuiet_nil ?_
              intro n1
              have hbn : Below W0.heap.size W0 n1.w := (hb.alloc hb.size _).trans (n1.h.mono (by simp; omega))
              go_wp2_with fail
              go_ret
              exact ⟨HF.out.symm, HB1.out.trans (hbn.mono (by omega))⟩
            · obtain ⟨b2, off2, ⟨v1, v2⟩, hab, hbl2, hv, hva, hvb⟩ := HC.out (j - 1) (by omega)
              simp only [Option.some.injEq, Addr.mk.injEq, and_true] at hab
              obtain ⟨rfl, rfl⟩ := hab
              dsimp only at hva hvb
              have HV := Lib.hid hv
              have t0 := (hb.cell (p := ⟨b, off + (j - 1) * 2, none⟩) hbl).trans hva
              have t1 := (hb.cell (p := ⟨b, off + (j - 1) * 2 + 1, none⟩) hbl).trans hvb
              clear hv hva hvb
              have hj1 : (0 : Int) < (j : Int) := by omega
              have hdj : decide ((0 : Int) < (j : Int)) = true := decide_eq_true hj1
              have hdj2 : decide (0 < j) = true := decide_eq_true (by omega)
              have hjm1 : (0 : Int) ≤ (j : Int) - 1 := by omega
              have hjm2 : (j : Int) - 1 < (n : Int) := by omega
              by_cases hbb : (((v1, v2) : BarT) = ((i1 : Int), (i2 : Int)))
              · have hcb := fun w => eqlBar_t hbb w
                clear hbb
                go_wp2_with fail
                refine wp_region_wd (by kernel_rfl) (by kernel_rfl) ?_
                repeat (go_big_quiet_step (fail))
                refine wpQuiet_nil ?_
                intro n1
                have hbn : Below W0.heap.size W0 n1.w := (hb.alloc hb.size _).trans (n1.h.mono (by simp; omega))
                go_wp2_with fail
                go_ret
                exact ⟨HF.out.symm, HB1.out.trans (hbn.mono (by omega))⟩
              · have hcb := fun w => eqlBar_f hbb w
                clear hbb
                go_wp2_with fail
                refine wp_region_wd (by kernel_rfl) (by kernel_rfl) ?_
                repeat (go_big_quiet_step (fail))
                refine wpQuiet_nil ?_
                intro n1
                have hbn : Below W0.heap.size W0 n1.w := (hb.alloc hb.size _).trans (n1.h.mono (by simp; omega))
                go_wp2_with fail
                go_ret
                exact ⟨HF.out.symm, HB1.out.trans (hbn.mono (by omega))⟩
          · have HPQ := Lib.hid hpq
            have hcp := fun w => eqlPlace_f hpq w
            clear hpq
            by_cases hj0 : j = 0
            · subst hj0
              simp only [Nat.zero_mul, Nat.add_zero] at d0 d1
              have HAT := Lib.hid (show fwBarAt l q 0 = true by have h9 : decide ((some (y1, y2) : Option PlaceT) = some (z1, z2)) = false := decide_eq_false (fun hh => HPQ.out (Option.some.inj hh)); simp only [fwBarAt, HX.out, Int.toNat_natCast, HY.out, HZ.out, h9]; simp)
              go_wp2_with fail
              refine wp_region_wd (by kernel_rfl) (by kernel_rfl) ?_
              repeat (go_big_quiet_step (fail))
              refine wpQuiet_nil ?_
              intro n1
              have hbn : Below W0.heap.size W0 n1.w := (hb.alloc hb.size _).trans (n1.h.mono (by simp; omega))
              go_wp2_with fail
              go_roundw
              case rel => exact ⟨1, by omega, by go_num, by simp [List.range_succ, HAT.out], hbn⟩
              case measure => simp [intOf]; omega
            · obtain ⟨b2, off2, ⟨v1, v2⟩, hab, hbl2, hv, hva, hvb⟩ := HC.out (j - 1) (by omega)
              simp only [Option.some.injEq, Addr.mk.injEq, and_true] at hab
              obtain ⟨rfl, rfl⟩ := hab
              dsimp only at hva hvb
              have HV := Lib.hid hv
              have t0 := (hb.cell (p := ⟨b, off + (j - 1) * 2, none⟩) hbl).trans hva
              have t1 := (hb.cell (p := ⟨b, off + (j - 1) * 2 + 1, none⟩) hbl).trans hvb
              clear hv hva hvb
              have hj1 : (0 : Int) < (j : Int) := by omega
              have hdj : decide ((0 : Int) < (j : Int)) = true := decide_eq_true hj1
              have hdj2 : decide (0 < j) = true := decide_eq_true (by omega)
              have hjm1 : (0 : Int) ≤ (j : Int) - 1 := by omega
              have hjm2 : (j : Int) - 1 < (n : Int) := by omega
              by_cases hbb : (((v1, v2) : BarT) = ((i1 : Int), (i2 : Int)))
              · have hcb := fun w => eqlBar_t hbb w
                have HF := Lib.hid (ret_bool (isFw_bar (p := p) (l := l) (q := q) (j := j) (by have := HL.out; omega) (by simp only [fwBarAt, HX.out, HV.out, hbb]; simp [hj0])))
                clear hbb
                go_wp2_with fail
                refine wp_region_wd (by kernel_rfl) (by kernel_rfl) ?_
                repeat (go_big_quiet_step (fail))
                refine wpQuiet_nil ?_
                intro n1
                have hbn : Below W0.heap.size W0 n1.w := (hb.alloc hb.size _).trans (n1.h.mono (by simp; omega))
                go_wp2_with fail
                go_ret
                exact ⟨HF.out.symm, HB1.out.trans (hbn.mono (by omega))⟩
              · have hcb := fun w => eqlBar_f hbb w
                have HAT := Lib.hid (show fwBarAt l q j = true by simp only [fwBarAt, HX.out, HV.out, Int.toNat_natCast, HY.out, HZ.out, Option.some.injEq, hbb, HPQ.out]; simp)
                clear hbb
                go_wp2_with fail
                refine wp_region_wd (by kernel_rfl) (by kernel_rfl) ?_
                repeat (go_big_quiet_step (fail))
                refine wpQuiet_nil ?_
                intro n1
                have hbn : Below W0.heap.size W0 n1.w := (hb.alloc hb.size _).trans (n1.h.mono (by simp; omega))
                go_wp2_with fail
                go_roundw
                case rel => exact ⟨j + 1, by omega, by go_num, range_all_succ HB.out HAT.out, hbn⟩
                case measure => simp [intOf]; omega
        · obtain rfl : j = n := by omega
          have HF := Lib.hid (ret_bool (show isFwB (p, l, q) = true by
            have h1 := HB.out
            have h2 := HA2.out
            have h3 := HL.out
            have h4 := HT.out
            have h5 := HPT.out
            rw [← h3] at h1
            have hA : decide (p ≤ 6) = true := decide_eq_true (by omega)
            have hB : decide ((q.length : Int) = p) = true := decide_eq_true (by omega)
            have hC : decide (l.length ≤ 15) = true := decide_eq_true (by omega)
            simp only [isFwB, hg, hA, hB, hC, h1, h2, Bool.and_self]))
          go_wp2_with fail
          go_ret
          exact ⟨HF.out.symm, HB1.out.trans (hb.mono (by omega))⟩


theorem spec_IsFramework (W : World) (v : Value) (f : FwT) (h : IsFw W v f) (hn : szFw f ≤ 1048576) : Calls Try.prog 13 #[v] W fun e w' => e = .returned (.bool (isFwB f)) ∧ Below W.heap.size W w' := by
  obtain ⟨p, l, q⟩ := f
  obtain ⟨a, cap, c, capc, rfl, hi, hj⟩ := h
  have h1 : l.length + q.length ≤ 1048576 := hn
  exact specIsFw_at _ _ _ _ _ _ _ _ hi hj (show l.length ≤ _ by omega) (show q.length ≤ _ by omega)
theorem impl_IsFramework (W : World) (v : Value) (f : FwT) (h : IsFw W v f) (hn : szFw f ≤ 1048576) : Calls Try.prog 30 #[v] W fun e w' => e = .returned (.bool (isFwB f)) ∧ Below W.heap.size W w' := by
  obtain ⟨p, l, q⟩ := f
  obtain ⟨a, cap, c, capc, rfl, hi, hj⟩ := h
  have h1 : l.length + q.length ≤ 1048576 := hn
  exact implIsFw_at _ _ _ _ _ _ _ _ hi hj (show l.length ≤ _ by omega) (show q.length ≤ _ by omega)
end Go.Proofs.Ytfbmpkdjhhcnpaa

