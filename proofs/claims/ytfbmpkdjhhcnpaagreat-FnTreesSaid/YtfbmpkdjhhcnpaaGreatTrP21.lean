/- The matrix of degrees and bars of a graph; DegreeOf and CountBar of the reference. No condition but sizes. -/
import Derived.Test.YtfbmpkdjhhcnpaaGreatTrP17
import Derived.Test.YtfbmpkdjhhcnpaaGreatTrP18
import Derived.Test.YtfbmpkdjhhcnpaaGreatTrP10
import Derived.Test.YtfbmpkdjhhcnpaaGreatTrP20
namespace Go.Proofs.YtfbmpkdjhhcnpaaGreat
open Go.RowKit Gr
set_option maxRecDepth 100000
set_option linter.unusedVariables false
set_option linter.unusedSimpArgs false

def e1 (a j : Nat) : Int := if j = a then 1 else 0
def dv (x : BarT) (j : Nat) : Int := e1 x.1.toNat j - e1 x.2.toNat j
def lapTo (l : List BarT) : Nat → Nat → Nat → Int
  | 0, _, _ => 0
  | k + 1, i, j => lapTo l k i j + (match l[k]? with | some x => dv x i * dv x j | none => 0)
theorem lapTo_succ {l : List BarT} {k : Nat} {x : BarT} (h : l[k]? = some x) (i j : Nat) : lapTo l (k + 1) i j = lapTo l k i j + dv x i * dv x j := by simp only [lapTo, h]
theorem dv_bd (x : BarT) (j : Nat) : -1 ≤ dv x j ∧ dv x j ≤ 1 := by unfold dv e1; split <;> split <;> omega
theorem dv2_bd (x : BarT) (i j : Nat) : -1 ≤ dv x i * dv x j ∧ dv x i * dv x j ≤ 1 := by
  have h1 := dv_bd x i
  have h2 := dv_bd x j
  rcases (show dv x i = -1 ∨ dv x i = 0 ∨ dv x i = 1 by omega) with h | h | h <;> rw [h] <;> omega
theorem lapTo_bd (l : List BarT) (k i j : Nat) : -(k : Int) ≤ lapTo l k i j ∧ lapTo l k i j ≤ k := by
  induction k with
  | zero => simp [lapTo]
  | succ k ih =>
    simp only [lapTo]
    split
    · rename_i x _; have := dv2_bd x i j; omega
    · omega
theorem lapTo_sym (l : List BarT) (k i j : Nat) : lapTo l k i j = lapTo l k j i := by
  induction k with
  | zero => rfl
  | succ k ih =>
    simp only [lapTo, ih]
    split
    · rw [Int.mul_comm]
    · rfl
theorem dsum_e1 {a n : Nat} (h : a < n) : dsum (e1 a) n = 1 := by
  induction n with
  | zero => omega
  | succ n ih =>
    simp only [dsum]
    by_cases ha : a = n
    · subst ha
      rw [dsum_zero (fun j hj => by unfold e1; rw [if_neg (by omega)])]
      simp [e1]
    · rw [ih (by omega)]; unfold e1; rw [if_neg (by omega)]; rfl
theorem dsum_dv {x : BarT} {n : Nat} (h1 : x.1.toNat < n) (h2 : x.2.toNat < n) : dsum (dv x) n = 0 := by
  have e : dsum (dv x) n = dsum (fun j => e1 x.1.toNat j + (-1) * e1 x.2.toNat j) n := dsum_congr fun j _ => by unfold dv; omega
  rw [e, dsum_add, dsum_mul, dsum_e1 h1, dsum_e1 h2]; rfl
theorem lap_rows {l : List BarT} {n : Nat} (h : ∀ x ∈ l, x.1.toNat < n ∧ x.2.toNat < n) (k i : Nat) : dsum (lapTo l k i) n = 0 := by
  induction k with
  | zero => exact dsum_zero fun _ _ => rfl
  | succ k ih =>
    cases hx : l[k]? with
    | none =>
      have e : dsum (lapTo l (k + 1) i) n = dsum (lapTo l k i) n := dsum_congr fun j _ => by simp only [lapTo, hx]; omega
      rw [e, ih]
    | some x =>
      have hm := h x (List.mem_of_getElem? hx)
      have e : dsum (lapTo l (k + 1) i) n = dsum (fun j => lapTo l k i j + dv x i * dv x j) n := dsum_congr fun j _ => lapTo_succ hx i j
      rw [e, dsum_add, dsum_mul, ih, dsum_dv hm.1 hm.2]; simp
theorem lap_cols {l : List BarT} {n : Nat} (h : ∀ x ∈ l, x.1.toNat < n ∧ x.2.toNat < n) (k j : Nat) : dsum (fun i => lapTo l k i j) n = 0 := by
  rw [← lap_rows h k j]
  exact dsum_congr fun i _ => lapTo_sym l k i j
/-- how many of the first k bars end at v -/
def degTo (l : List BarT) (v : Int) : Nat → Int
  | 0 => 0
  | k + 1 => match l[k]? with
    | some x => if x.1 = v ∨ x.2 = v then degTo l v k + 1 else degTo l v k
    | none => degTo l v k
def cntTo (l : List BarT) (a b : Int) : Nat → Int
  | 0 => 0
  | k + 1 => match l[k]? with
    | some x => if (x.1 = a ∧ x.2 = b) ∨ (x.1 = b ∧ x.2 = a) then cntTo l a b k + 1 else cntTo l a b k
    | none => cntTo l a b k
theorem degTo_bd (l : List BarT) (v : Int) (k : Nat) : 0 ≤ degTo l v k ∧ degTo l v k ≤ k := by
  induction k with
  | zero => simp [degTo]
  | succ k ih => simp only [degTo]; split <;> (try split) <;> omega
theorem cntTo_bd (l : List BarT) (a b : Int) (k : Nat) : 0 ≤ cntTo l a b k ∧ cntTo l a b k ≤ k := by
  induction k with
  | zero => simp [cntTo]
  | succ k ih => simp only [cntTo]; split <;> (try split) <;> omega
theorem lap_diag {l : List BarT} (h : ∀ x ∈ l, 0 ≤ x.1 ∧ x.1 < x.2) (i : Nat) (k : Nat) : lapTo l k i i = degTo l i k := by
  induction k with
  | zero => rfl
  | succ k ih =>
    cases hx : l[k]? with
    | none => simp only [lapTo, degTo, hx, ih]; omega
    | some x =>
      have hm := h x (List.mem_of_getElem? hx)
      simp only [lapTo, degTo, hx, ih]
      unfold dv e1
      by_cases h1 : x.1 = (i : Int)
      · rw [if_pos (by omega), if_neg (by omega), if_pos (.inl h1)]; rfl
      · by_cases h2 : x.2 = (i : Int)
        · rw [if_neg (by omega), if_pos (by omega), if_pos (.inr h2)]; rfl
        · rw [if_neg (by omega), if_neg (by omega), if_neg (by omega)]; simp
theorem lap_off {l : List BarT} (h : ∀ x ∈ l, 0 ≤ x.1 ∧ x.1 < x.2) {i j : Nat} (hij : i ≠ j) (k : Nat) : lapTo l k i j = -cntTo l i j k := by
  induction k with
  | zero => rfl
  | succ k ih =>
    cases hx : l[k]? with
    | none => simp only [lapTo, cntTo, hx, ih]; omega
    | some x =>
      have hm := h x (List.mem_of_getElem? hx)
      simp only [lapTo, cntTo, hx, ih]
      unfold dv e1
      by_cases h1 : x.1 = (i : Int)
      · by_cases h2 : x.2 = (j : Int)
        · rw [if_pos (by omega), if_neg (by omega), if_neg (by omega), if_pos (by omega), if_pos (by omega)]; first | (simp; done) | (simp; omega)
        · rw [if_pos (by omega), if_neg (by omega), if_neg (by omega), if_neg (by omega), if_neg (by omega)]; first | (simp; done) | (simp; omega)
      · by_cases h2 : x.2 = (i : Int)
        · by_cases h3 : x.1 = (j : Int)
          · rw [if_neg (by omega), if_pos (by omega), if_pos (by omega), if_neg (by omega), if_pos (by omega)]; first | (simp; done) | (simp; omega)
          · rw [if_neg (by omega), if_pos (by omega), if_neg (by omega), if_neg (by omega), if_neg (by omega)]; first | (simp; done) | (simp; omega)
        · rw [if_neg (by omega), if_neg (by omega), if_neg (show ¬ ((x.1 = (i : Int) ∧ x.2 = (j : Int)) ∨ (x.1 = (j : Int) ∧ x.2 = (i : Int))) by omega)]; first | (simp; done) | (simp; omega)
/-- the program's matrix without its first row and column; the reference's whole one -/
def lapW (p : Nat) (l : List BarT) : List (List Int) := toLL (lapTo l l.length) p p
def lapI (m : Nat) (l : List BarT) : List (List Int) := (List.range m).map fun i => (List.range m).map fun j => lapTo l l.length (i + 1) (j + 1)
theorem lap_minors {m : Nat} {l : List BarT} (h : ∀ x ∈ l, x.1.toNat < m + 1 ∧ x.2.toNat < m + 1) : detM m (lapI m l) = detL m (lapW (m + 1) l) := by
  have eI : lapI m l = grid ((List.range m).map fun i => lapTo l l.length (i + 1)) ((List.range m).map (· + 1)) := by
    simp [lapI, grid, Function.comp_def]
  have eW : ((lapW (m + 1) l).take m).map (fun r => r.take m) = grid ((List.range m).map (lapTo l l.length)) (List.range m) := by
    simp only [lapW, toLL, grid, ← List.map_take, List.take_range, Nat.min_eq_left (Nat.le_succ m), List.map_map]
    refine List.map_congr_left fun i _ => ?_
    show ((List.range (m + 1)).map _).take m = _
    rw [← List.map_take, List.take_range, Nat.min_eq_left (Nat.le_succ m)]; rfl
  have h1 := detM_kf (n := m + 1) ((List.range m).map fun i => lapTo l l.length (i + 1)) ((List.range m).map (· + 1)) (by simp) (fun j hj => by obtain ⟨i, hi, rfl⟩ := List.mem_map.1 hj; have := List.mem_range.1 hi; omega)
  have h2 := detL_kf (n := m + 1) m ((List.range m).map (lapTo l l.length)) (List.range m) (by simp) (by simp) (fun j hj => by have := List.mem_range.1 hj; omega)
  rw [List.length_map, List.length_range] at h1
  rw [eI, h1, detL_take, eW, h2]
  exact minors m (lapTo l l.length) (fun i _ => lap_rows h _ i) (fun k _ => lap_cols h _ k)
def treesN (g : GraphT) : Int := if (isGraphB g && decide (g.1 ≤ 6)) = true then wrap64 (detL (g.1.toNat - 1) (lapW g.1.toNat g.2)) else -1

set_option maxHeartbeats 2000000 in
theorem specDeg_at (W : World) (p : Int) (a : Option Addr) (cap : Nat) (l : List BarT) (h : BarsAt W a l.length l) (hs : l.length ≤ 1048576) (v : Int) : Calls Tryz.prog 63 #[.agg #[.int .i64 p, .slice a l.length cap], .int .i64 v] W fun e w' => e = .returned (.int .i64 (degTo l v l.length)) ∧ Below W.heap.size W w' := by
  have hwd := @Wd.cells
  have HGr : Hid (IsGraph W (.agg #[.int .i64 p, .slice a l.length cap]) (p, l)) := Lib.hid ⟨a, cap, rfl, h⟩
  have H1 := Lib.hid h
  clear h
  have hsz : szGraph (p, l) ≤ 1048576 := hs
  have hsz2 : szGraph (p, l) ≤ 1099511627776 := Nat.le_trans hsz (by decide)
  have B : Below W.heap.size W (W.alloc (.cells #[.int .i64 p, .slice a l.length cap] 26)) := (Below.refl _ _).alloc (Nat.le_refl _) _
  have BG : Hid (BoxGr (W.alloc (.cells #[.int .i64 p, .slice a l.length cap] 26)) W.heap.size p a l.length cap) := Lib.hid (BoxGr.at rfl)
  go_enter Tryz.func63, Tryz.ntmps63
  go_wp2_with fail
  generalize (W.alloc (.cells #[.int .i64 p, .slice a l.length cap] 26)) = u at *
  go_loop [5, 6] (fun c i => ∃ k : Nat, k ≤ l.length ∧ i = .int .i64 k ∧ c = .int .i64 (degTo l v k)) (fun _ i => l.length - (intOf i).toNat)
  case atStart => exact ⟨0, Nat.zero_le _, rfl, rfl⟩
  case round =>
    obtain ⟨k, hk, rfl, rfl⟩ := hrel
    obtain ⟨zBG, fBG0, fBG1⟩ := BG.out
    have hbd := degTo_bd l v k
    by_cases hlt : k < l.length
    · obtain ⟨bb, off, ⟨x1, x2⟩, rfl, hbl, hx, hc0, hc1⟩ := (H1.out.below B).2 k hlt
      dsimp only at hc0 hc1
      have hki : (k : Int) < (l.length : Int) := by omega
      have hk0 : (0 : Int) ≤ (k : Int) := by omega
      have HS : Hid (degTo l v (k + 1) = if x1 = v ∨ x2 = v then degTo l v k + 1 else degTo l v k) := Lib.hid (by simp only [degTo, hx])
      clear hx
      by_cases h1 : x1 = v
      · have q1 : (x1 == v) = true := by rw [h1]; simp
        have HT := Lib.hid (HS.out.trans (if_pos (.inl h1)))
        clear h1
        generalize degTo l v k = D at *
        go_wp2_with fail
        go_round
        case rel => exact ⟨k + 1, by omega, by go_num, by rw [HT.out]⟩
        case measure => simp [intOf]; omega
      · have q1 : (x1 == v) = false := by rw [beq_eq_false_iff_ne]; exact h1
        by_cases h2 : x2 = v
        · have q2 : (x2 == v) = true := by rw [h2]; simp
          have HT := Lib.hid (HS.out.trans (if_pos (.inr h2)))
          clear h1 h2
          generalize degTo l v k = D at *
          go_wp2_with fail
          go_round
          case rel => exact ⟨k + 1, by omega, by go_num, by rw [HT.out]⟩
          case measure => simp [intOf]; omega
        · have q2 : (x2 == v) = false := by rw [beq_eq_false_iff_ne]; exact h2
          have HT := Lib.hid (HS.out.trans (if_neg (by rintro (h | h); exact h1 h; exact h2 h)))
          clear h1 h2
          generalize degTo l v k = D at *
          go_wp2_with fail
          go_round
          case rel => exact ⟨k + 1, by omega, by go_num, by rw [HT.out]⟩
          case measure => simp [intOf]; omega
    · obtain rfl : k = l.length := by omega
      go_wp2_with fail
      go_ret
      exact ⟨rfl, B⟩

set_option maxHeartbeats 4000000 in
theorem specCnt_at (W : World) (p : Int) (a : Option Addr) (cap : Nat) (l : List BarT) (h : BarsAt W a l.length l) (hs : l.length ≤ 1048576) (v z : Int) : Calls Tryz.prog 64 #[.agg #[.int .i64 p, .slice a l.length cap], .int .i64 v, .int .i64 z] W fun e w' => e = .returned (.int .i64 (cntTo l v z l.length)) ∧ Below W.heap.size W w' := by
  have hwd := @Wd.cells
  have HGr : Hid (IsGraph W (.agg #[.int .i64 p, .slice a l.length cap]) (p, l)) := Lib.hid ⟨a, cap, rfl, h⟩
  have H1 := Lib.hid h
  clear h
  have hsz : szGraph (p, l) ≤ 1048576 := hs
  have hsz2 : szGraph (p, l) ≤ 1099511627776 := Nat.le_trans hsz (by decide)
  have B : Below W.heap.size W (W.alloc (.cells #[.int .i64 p, .slice a l.length cap] 26)) := (Below.refl _ _).alloc (Nat.le_refl _) _
  have BG : Hid (BoxGr (W.alloc (.cells #[.int .i64 p, .slice a l.length cap] 26)) W.heap.size p a l.length cap) := Lib.hid (BoxGr.at rfl)
  go_enter Tryz.func64, Tryz.ntmps64
  go_wp2_with fail
  generalize (W.alloc (.cells #[.int .i64 p, .slice a l.length cap] 26)) = u at *
  go_loop [7, 8] (fun c i => ∃ k : Nat, k ≤ l.length ∧ i = .int .i64 k ∧ c = .int .i64 (cntTo l v z k)) (fun _ i => l.length - (intOf i).toNat)
  case atStart => exact ⟨0, Nat.zero_le _, rfl, rfl⟩
  case round =>
    obtain ⟨k, hk, rfl, rfl⟩ := hrel
    obtain ⟨zBG, fBG0, fBG1⟩ := BG.out
    have hbd := cntTo_bd l v z k
    by_cases hlt : k < l.length
    · obtain ⟨bb, off, ⟨x1, x2⟩, rfl, hbl, hx, hc0, hc1⟩ := (H1.out.below B).2 k hlt
      dsimp only at hc0 hc1
      have hki : (k : Int) < (l.length : Int) := by omega
      have hk0 : (0 : Int) ≤ (k : Int) := by omega
      have HS : Hid (cntTo l v z (k + 1) = if (x1 = v ∧ x2 = z) ∨ (x1 = z ∧ x2 = v) then cntTo l v z k + 1 else cntTo l v z k) := Lib.hid (by simp only [cntTo, hx])
      clear hx
      have HB : Hid (cntTo l v z (k + 1) = if (((x1 == v) && (x2 == z)) || ((x1 == z) && (x2 == v))) = true then cntTo l v z k + 1 else cntTo l v z k) := Lib.hid (by
        rw [HS.out]; simp only [Bool.or_eq_true, Bool.and_eq_true, beq_iff_eq])
      clear HS
      generalize cntTo l v z k = D at *
      cases q1 : (x1 == v) <;> cases q2 : (x2 == z) <;> cases q3 : (x1 == z) <;> cases q4 : (x2 == v) <;> rw [q1, q2, q3, q4] at HB
      all_goals
        go_wp2_with fail
        go_round
        case rel => exact ⟨k + 1, by omega, by go_num, by rw [HB.out]; rfl⟩
        case measure => simp [intOf]; omega
    · obtain rfl : k = l.length := by omega
      go_wp2_with fail
      go_ret
      exact ⟨rfl, B⟩
end Go.Proofs.YtfbmpkdjhhcnpaaGreat

