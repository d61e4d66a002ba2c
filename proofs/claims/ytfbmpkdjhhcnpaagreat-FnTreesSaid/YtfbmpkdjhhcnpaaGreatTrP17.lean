/- Plain mathematics: determinants by the first row and by the last row are one form; the first and the last minor of a matrix whose rows and columns sum to zero. No condition. -/
import Derived.Test.YtfbmpkdjhhcnpaaGreatTrP16
namespace Gr
set_option linter.unusedVariables false
set_option linter.unusedSimpArgs false

def dsum (f : Nat → Int) : Nat → Int
  | 0 => 0
  | j + 1 => dsum f j + f j
theorem dsum_congr {f g : Nat → Int} : ∀ {n : Nat}, (∀ j, j < n → f j = g j) → dsum f n = dsum g n
  | 0, _ => rfl
  | n + 1, h => by simp only [dsum]; rw [dsum_congr fun j hj => h j (by omega), h n (by omega)]
theorem dsum_zero {f : Nat → Int} : ∀ {n : Nat}, (∀ j, j < n → f j = 0) → dsum f n = 0
  | 0, _ => rfl
  | n + 1, h => by simp only [dsum]; rw [dsum_zero fun j hj => h j (by omega), h n (by omega)]; rfl
theorem dsum_add (f g : Nat → Int) (n : Nat) : dsum (fun j => f j + g j) n = dsum f n + dsum g n := by
  induction n with
  | zero => rfl
  | succ n ih => simp only [dsum, ih]; omega
theorem dsum_mul (c : Int) (f : Nat → Int) (n : Nat) : dsum (fun j => c * f j) n = c * dsum f n := by
  induction n with
  | zero => simp [dsum]
  | succ n ih => simp only [dsum, ih, Int.mul_add]
theorem dsum_head (f : Nat → Int) (n : Nat) : dsum f (n + 1) = f 0 + dsum (fun j => f (j + 1)) n := by
  induction n with
  | zero => simp [dsum]
  | succ n ih => rw [dsum, ih, dsum]; omega
def sg (j : Nat) : Int := if j % 2 = 1 then -1 else 1
theorem sg_succ (j : Nat) : sg (j + 1) = -sg j := by
  unfold sg
  by_cases h : j % 2 = 1
  · rw [if_pos h, if_neg (by omega)]; rfl
  · rw [if_neg h, if_pos (by omega)]
theorem sg_add (i j : Nat) : sg (i + j) = sg i * sg j := by
  induction j with
  | zero => simp [sg]
  | succ j ih => rw [← Nat.add_assoc, sg_succ, sg_succ, ih]; grind
theorem sg_sq (i : Nat) : sg i * sg i = 1 := by unfold sg; split <;> rfl

/-- the expansion by one row -/
def hx (x : Nat → Int) : List Nat → (List Nat → Int) → Int
  | [], _ => 0
  | k :: c, G => x k * G c - hx x c fun d => G (k :: d)
theorem kf_fw {n : Nat} {c : List Nat} (hc : ∀ j ∈ c, j < n) (x : Nat → Int) (a : Form n) : kf n c (fw n x a) = hx x c fun d => kf n d a := by
  induction c generalizing a with
  | nil => exact sc_fw n x a
  | cons k c ih =>
    simp only [kf, hx]
    rw [fi_fw (hc k (by simp)), kf_add, kf_mul, kf_mul, ih (fun j hj => hc j (by simp [hj]))]
    omega
theorem hx_congr {x : Nat → Int} {c : List Nat} {G K : List Nat → Int} (h : ∀ d, d.length + 1 = c.length → (∀ j ∈ d, j ∈ c) → G d = K d) : hx x c G = hx x c K := by
  induction c generalizing G K with
  | nil => rfl
  | cons k c ih =>
    simp only [hx]
    rw [h c rfl (fun j hj => by simp [hj]), ih (fun d hd hm => h (k :: d) (by simp; omega) (fun j hj => by
      rcases List.mem_cons.1 hj with rfl | hj
      · simp
      · exact List.mem_cons_of_mem _ (hm j hj)))]
theorem hx_sum (x : Nat → Int) (c : List Nat) (G : Nat → List Nat → Int) (n : Nat) : dsum (fun k => hx x c (G k)) n = hx x c fun d => dsum (fun k => G k d) n := by
  induction c generalizing G with
  | nil => exact dsum_zero fun _ _ => rfl
  | cons k c ih =>
    simp only [hx]
    rw [← ih, ← dsum_mul, show dsum (fun k_1 => x k * G k_1 c) n - dsum (fun k_1 => hx x c fun d => G k_1 (k :: d)) n = dsum (fun k_1 => x k * G k_1 c) n + (-1) * dsum (fun k_1 => hx x c fun d => G k_1 (k :: d)) n by omega, ← dsum_mul, ← dsum_add]
    exact dsum_congr fun j _ => by omega
theorem hx_zero (x : Nat → Int) (c : List Nat) : hx x c (fun _ => 0) = 0 := by
  induction c with
  | nil => rfl
  | cons k c ih => simp only [hx, ih]; omega
/-- .. as a sum over the places -/
theorem hx_dsum (x : Nat → Int) (c : List Nat) (G : List Nat → Int) : hx x c G = dsum (fun j => sg j * x (c[j]?.getD 0) * G (c.eraseIdx j)) c.length := by
  induction c generalizing G with
  | nil => rfl
  | cons k c ih =>
    rw [List.length_cons, dsum_head]
    simp only [hx]
    rw [ih]
    have e : dsum (fun j => sg (j + 1) * x ((k :: c)[j + 1]?.getD 0) * G ((k :: c).eraseIdx (j + 1))) c.length = (-1) * dsum (fun j => sg j * x (c[j]?.getD 0) * G (k :: c.eraseIdx j)) c.length := by
      rw [← dsum_mul]
      exact dsum_congr fun j _ => by rw [sg_succ]; simp [Int.neg_mul]
    rw [e]
    simp [sg]
    omega

/-- the determinant by the first row -/
def detM : Nat → List (List Int) → Int
  | 0, _ => 1
  | n + 1, M => dsum (fun j => sg j * ((M.headD [])[j]?.getD 0) * detM n (M.tail.map fun r => r.eraseIdx j)) (n + 1)
/-- the determinant of the first n rows and columns by the last row -/
def detL : Nat → List (List Int) → Int
  | 0, _ => 1
  | n + 1, M => dsum (fun j => sg (n + j) * ((M[n]?.getD [])[j]?.getD 0) * detL n ((M.take n).map fun r => (r.take (n + 1)).eraseIdx j)) (n + 1)
def grid (R : List (Nat → Int)) (c : List Nat) : List (List Int) := R.map fun x => c.map x
theorem erase_map (c : List Nat) (x : Nat → Int) (j : Nat) : (c.map x).eraseIdx j = (c.eraseIdx j).map x := by
  induction c generalizing j with
  | nil => rfl
  | cons k c ih => cases j with
    | zero => rfl
    | succ j => simp [ih]
theorem detM_kf {n : Nat} : ∀ (R : List (Nat → Int)) (c : List Nat), c.length = R.length → (∀ j ∈ c, j < n) → detM R.length (grid R c) = kf n c (wl n R)
  | [], [], _, _ => by simp [detM, kf, wl, sc_one]
  | x :: R, c, hl, hc => by
    rw [List.length_cons]
    simp only [detM, wl]
    rw [kf_fw hc, hx_dsum]
    rw [List.length_cons] at hl
    rw [hl]
    refine dsum_congr fun j hj => ?_
    have hjc : j < c.length := by omega
    have e1 : ((grid (x :: R) c).headD [])[j]?.getD 0 = x (c[j]?.getD 0) := by simp [grid, hjc]
    have e2 : ((grid (x :: R) c).tail.map fun r => r.eraseIdx j) = grid R (c.eraseIdx j) := by
      simp only [grid, List.map_cons, List.tail_cons, List.map_map]
      exact List.map_congr_left fun y _ => erase_map c y j
    rw [e1, e2, detM_kf R (c.eraseIdx j) (by rw [List.length_eraseIdx_of_lt hjc]; omega) (fun k hk => hc k (List.mem_of_mem_eraseIdx hk))]
theorem wl_snoc (n : Nat) (R : List (Nat → Int)) (x : Nat → Int) : wl n (R ++ [x]) = fmul n (sg R.length) (fw n x (wl n R)) := by
  induction R with
  | nil => simp only [List.nil_append, wl, List.length_nil]; exact co_ext fun s => by simp [co_mul, sg]
  | cons y R ih =>
    simp only [List.cons_append, wl, List.length_cons]
    rw [ih, fw_mul, fw_anti, fmul_mul, sg_succ]
    exact co_ext fun s => by simp [co_mul]
theorem detL_kf {n : Nat} : ∀ (m : Nat) (R : List (Nat → Int)) (c : List Nat), R.length = m → c.length = m → (∀ j ∈ c, j < n) → detL m (grid R c) = kf n c (wl n R)
  | 0, R, c, h1, h2, _ => by
    obtain rfl := List.eq_nil_of_length_eq_zero h1
    obtain rfl := List.eq_nil_of_length_eq_zero h2
    simp [detL, kf, wl, sc_one]
  | m + 1, R, c, h1, h2, hc => by
    obtain ⟨R', x, rfl⟩ : ∃ R' x, R = R' ++ [x] := ⟨R.dropLast, R.getLast (by intro e; rw [e] at h1; simp at h1), (List.dropLast_concat_getLast _).symm⟩
    have hR : R'.length = m := by simpa using h1
    rw [wl_snoc, kf_mul, kf_fw hc, hx_dsum, ← dsum_mul, h2]
    simp only [detL]
    refine dsum_congr fun j hj => ?_
    have hjc : j < c.length := by omega
    have e0 : (grid (R' ++ [x]) c)[m]? = some (c.map x) := by simp [grid, hR]
    have e1 : (((grid (R' ++ [x]) c)[m]?.getD [])[j]?.getD 0) = x (c[j]?.getD 0) := by rw [e0]; simp [hjc]
    have e2 : ((grid (R' ++ [x]) c).take m).map (fun r => (r.take (m + 1)).eraseIdx j) = grid R' (c.eraseIdx j) := by
      have e3 : (grid (R' ++ [x]) c).take m = grid R' c := by simp [grid, hR]
      rw [e3]
      simp only [grid, List.map_map]
      refine List.map_congr_left fun y _ => ?_
      show ((c.map y).take (m + 1)).eraseIdx j = _
      rw [List.take_of_length_le (by simp; omega), erase_map]
    rw [e1, e2, detL_kf m R' (c.eraseIdx j) hR (by rw [List.length_eraseIdx_of_lt hjc]; omega) (fun k hk => hc k (List.mem_of_mem_eraseIdx hk)), sg_add, hR]
    grind
theorem detL_take : ∀ (m : Nat) (M : List (List Int)), detL m M = detL m ((M.take m).map fun r => r.take m)
  | 0, _ => rfl
  | m + 1, M => by
    simp only [detL]
    refine dsum_congr fun j hj => ?_
    have e1 : ((M.take (m + 1)).map fun r => r.take (m + 1))[m]?.getD [] = (M[m]?.getD []).take (m + 1) := by
      rw [List.getElem?_map, List.getElem?_take_of_lt (by omega)]
      cases M[m]? <;> simp
    rw [e1, List.getElem?_take_of_lt hj]
    congr 2
    rw [← List.map_take, List.take_take, Nat.min_eq_left (by omega), List.map_map]
    refine List.map_congr_left fun r _ => ?_
    show _ = ((r.take (m + 1)).take (m + 1)).eraseIdx j
    rw [List.take_take, Nat.min_self]

/-! ### the two minors -/
theorem kf_snoc (n : Nat) (c : List Nat) (k : Nat) (a : Form n) : kf n (c ++ [k]) a = sg c.length * kf n (k :: c) a := by
  induction c generalizing a with
  | nil => simp [kf, sg]
  | cons q c ih =>
    have e : kf n (q :: c ++ [k]) a = kf n (c ++ [k]) (fi n q a) := rfl
    rw [e, ih, List.length_cons, sg_succ]
    show _ * kf n c (fi n k (fi n q a)) = _ * kf n c (fi n q (fi n k a))
    rw [fi_anti, kf_mul]; grind
theorem fw_mem {n : Nat} {l : List (Nat → Int)} {x : Nat → Int} (h : x ∈ l) : fw n x (wl n l) = fz n := by
  induction l with
  | nil => simp at h
  | cons y l ih =>
    simp only [wl]
    rcases List.mem_cons.1 h with rfl | h
    · exact fw_sq n _ _
    · rw [fw_anti, ih h, fw_fz, fmul_fz]
/-- a sum of vectors, taken in -/
theorem fw_dsum (n : Nat) (F : Nat → Nat → Int) (m : Nat) (a : Form n) (c : List Nat) : kf n c (fw n (fun k => dsum (fun i => F i k) m) a) = dsum (fun i => kf n c (fw n (F i) a)) m := by
  induction m with
  | zero =>
    simp only [dsum]
    rw [fw_zero, kf_fz]
  | succ m ih =>
    simp only [dsum]
    have e := fw_lin n (fun k => dsum (fun i => F i k) m) (F m) 1 1 a
    simp only [Int.one_mul] at e
    rw [e, kf_add, kf_mul, kf_mul, ih]; omega
theorem ksum_wl {n : Nat} : ∀ (R : List (Nat → Int)), (∀ x ∈ R, dsum x n = 0) → ∀ c, (∀ j ∈ c, j < n) → dsum (fun k => kf n c (fi n k (wl n R))) n = 0
  | [], _, c, _ => dsum_zero fun k _ => by simp only [wl]; rw [fi_one, kf_fz]
  | x :: R, h, c, hc => by
    simp only [wl]
    have e : dsum (fun k => kf n c (fi n k (fw n x (wl n R)))) n = dsum (fun k => kf n c (wl n R) * x k + (-1) * hx x c fun d => kf n d (fi n k (wl n R))) n := dsum_congr fun k hk => by
      rw [fi_fw hk, kf_add, kf_mul, kf_mul, kf_fw hc]; grind
    rw [e, dsum_add, dsum_mul, dsum_mul, hx_sum, h x (by simp)]
    have e2 : hx x c (fun d => dsum (fun k => kf n d (fi n k (wl n R))) n) = hx x c fun _ => 0 := hx_congr fun d _ hm => ksum_wl R (fun y hy => h y (by simp [hy])) d fun j hj => hc j (hm j hj)
    rw [e2, hx_zero]; omega
theorem dsum_ends (f : Nat → Int) (m : Nat) (h : ∀ j, 0 < j → j < m → f j = 0) : dsum f (m + 1) = if m = 0 then f 0 else f 0 + f m := by
  by_cases hm : m = 0
  · subst hm; simp [dsum]
  · rw [if_neg hm, dsum]
    obtain ⟨q, rfl⟩ : ∃ q, m = q + 1 := ⟨m - 1, by omega⟩
    rw [dsum_head, dsum_zero (fun j hj => h (j + 1) (by omega) (by omega))]; omega
/-- the minor without the first row and column and the one without the last -/
theorem minors (m : Nat) (F : Nat → Nat → Int) (hr : ∀ i, i ≤ m → dsum (F i) (m + 1) = 0) (hcs : ∀ k, k ≤ m → dsum (fun i => F i k) (m + 1) = 0) :
    kf (m + 1) ((List.range m).map (· + 1)) (wl (m + 1) ((List.range m).map fun i => F (i + 1))) = kf (m + 1) (List.range m) (wl (m + 1) ((List.range m).map F)) := by
  by_cases hm : m = 0
  · subst hm; rfl
  obtain ⟨q, rfl⟩ : ∃ q, m = q + 1 := ⟨m - 1, by omega⟩
  -- rows: F 1 .. F q in the midst
  have eA : ((List.range (q + 1)).map fun i => F (i + 1)) = ((List.range q).map fun i => F (i + 1)) ++ [F (q + 1)] := by rw [List.range_succ]; simp
  have eB : (List.range (q + 1)).map F = F 0 :: ((List.range q).map fun i => F (i + 1)) := by
    rw [List.range_succ_eq_map, List.map_cons, List.map_map]; rfl
  have eC : (List.range (q + 1)).map (· + 1) = ((List.range q).map (· + 1)) ++ [q + 1] := by rw [List.range_succ]; simp
  have eD : List.range (q + 1) = 0 :: (List.range q).map (· + 1) := List.range_succ_eq_map
  generalize hL : ((List.range q).map fun i => F (i + 1)) = L at *
  generalize hD : (List.range q).map (· + 1) = D at *
  have hDm : ∀ j ∈ D, j < q + 1 + 1 := fun j hj => by rw [← hD] at hj; obtain ⟨i, hi, rfl⟩ := List.mem_map.1 hj; have := List.mem_range.1 hi; omega
  have hLl : L.length = q := by rw [← hL]; simp
  have hDl : D.length = q := by rw [← hD]; simp
  have hLm : ∀ i, 0 < i → i < q + 1 → F i ∈ L := fun i h1 h2 => by
    rw [← hL]; exact List.mem_map.2 ⟨i - 1, List.mem_range.2 (by omega), by rw [show i - 1 + 1 = i by omega]⟩
  have hDi : ∀ i, 0 < i → i < q + 1 → i ∈ D := fun i h1 h2 => by
    rw [← hD]; exact List.mem_map.2 ⟨i - 1, List.mem_range.2 (by omega), by omega⟩
  -- rows
  have rows : ∀ c, (∀ j ∈ c, j < q + 1 + 1) → kf (q + 1 + 1) c (fw (q + 1 + 1) (F (q + 1)) (wl (q + 1 + 1) L)) = -kf (q + 1 + 1) c (fw (q + 1 + 1) (F 0) (wl (q + 1 + 1) L)) := fun c hc => by
    have h1 := fw_dsum (q + 1 + 1) F (q + 1 + 1) (wl (q + 1 + 1) L) c
    rw [fw_congr (y := fun _ => 0) (fun k hk => hcs k (by omega)), fw_zero, kf_fz, dsum_ends _ _ (fun j h2 h3 => by rw [fw_mem (hLm j h2 h3), kf_fz]), if_neg (by omega)] at h1
    omega
  -- columns
  have hRows : ∀ x ∈ L ++ [F (q + 1)], dsum x (q + 1 + 1) = 0 := fun x hx => by
    rcases List.mem_append.1 hx with h | h
    · rw [← hL] at h; obtain ⟨i, hi, rfl⟩ := List.mem_map.1 h; have := List.mem_range.1 hi; exact hr _ (by omega)
    · simp at h; subst h; exact hr _ (by omega)
  have cols : kf (q + 1 + 1) ((q + 1) :: D) (wl (q + 1 + 1) (L ++ [F (q + 1)])) = -kf (q + 1 + 1) (0 :: D) (wl (q + 1 + 1) (L ++ [F (q + 1)])) := by
    have h1 := ksum_wl (L ++ [F (q + 1)]) hRows D hDm
    rw [dsum_ends _ _ (fun j h2 h3 => kf_mem (hDi j h2 h3) _), if_neg (by omega)] at h1
    show kf _ D (fi _ (q + 1) _) = -kf _ D (fi _ 0 _)
    omega
  have h0D : ∀ j ∈ (0 :: D), j < q + 1 + 1 := fun j hj => by
    rcases List.mem_cons.1 hj with rfl | hj
    · omega
    · exact hDm j hj
  rw [eA, eB, eC, eD, kf_snoc, cols, wl_snoc, kf_mul, rows _ h0D, hLl, hDl]
  show _ = kf _ (0 :: D) (fw _ (F 0) (wl _ L))
  have := sg_sq q
  grind
end Gr

