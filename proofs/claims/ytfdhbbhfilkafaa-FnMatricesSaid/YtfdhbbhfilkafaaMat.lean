/- IsMatrix of the program and of the reference. -/
import Derived.Test.YtfdhbbhfilkafaaIntss
namespace Go.Proofs.Ytfdhbbhfilkafaa
open Go.RowKit
set_option maxRecDepth 100000
set_option linter.unusedVariables false
set_option linter.unusedSimpArgs false

def sq : List Int → Int
  | [] => 0
  | x :: r => x * x + sq r
theorem sq_snoc (l : List Int) (x : Int) : sq (l ++ [x]) = sq l + x * x := by
  induction l with
  | nil => simp [sq]
  | cons y l ih => simp only [List.cons_append, sq, ih]; omega
def smallRow (r : List Int) : Bool := r.all fun x => inB x (-8) 8
def rowOk (c : Nat) (r : List Int) : Bool := r.length == c && (inB r.length 1 12 && (smallRow r && decide (sq r ≤ 64)))
def width (ll : List (List Int)) : Nat := (ll.headD []).length
def isMat (ll : List (List Int)) : Bool := inB ll.length 1 9 && ll.all (rowOk (width ll))

theorem sq8 {x : Int} (h : inB x (-8) 8 = true) : 0 ≤ x * x ∧ x * x ≤ 64 ∧ -8 ≤ x ∧ x ≤ 8 := by
  simp [inB] at h
  have h1 : 0 ≤ x * x := by rcases Int.le_total 0 x with h0 | h0; exact Int.mul_nonneg h0 h0; exact Int.mul_nonneg_of_nonpos_of_nonpos h0 h0
  have h2 : 0 ≤ (8 - x) * (8 + x) := Int.mul_nonneg (by omega) (by omega)
  have h3 : (8 - x) * (8 + x) = 64 - x * x := by rw [Int.sub_mul, Int.mul_add, Int.mul_add]; have := Int.mul_comm x 8; omega
  omega
theorem sq_bd {l : List Int} (h : smallRow l = true) : 0 ≤ sq l ∧ sq l ≤ 64 * l.length := by
  induction l with
  | nil => simp [sq]
  | cons x l ih =>
    simp only [smallRow, List.all_cons, Bool.and_eq_true] at h
    have h1 := ih h.2
    have h2 := sq8 h.1
    simp only [sq, List.length_cons]
    omega
theorem isMat_row {ll : List (List Int)} {k : Nat} {r : List Int} (h : ll[k]? = some r) (hr : rowOk (width ll) r = false) : isMat ll = false := by
  have : ll.all (rowOk (width ll)) = false := List.all_eq_false.2 ⟨r, List.mem_of_getElem? h, by simp [hr]⟩
  simp [isMat, this]
theorem small_not {r : List Int} {j : Nat} {x : Int} (h : r[j]? = some x) (hx : inB x (-8) 8 = false) : smallRow r = false := List.all_eq_false.2 ⟨x, List.mem_of_getElem? h, by simp [hx]⟩

set_option maxHeartbeats 4000000 in
theorem implMat_any (a : Option Addr) (n cap : Nat) (ll : List (List Int)) (W : World) (h : IntssAt W a n ll) (hn : n ≤ 1048576) (hs : sumLen ll ≤ 1048576) :
    Calls Try.prog 44 #[.slice a n cap] W fun e w' => e = .returned (.bool (isMat ll)) ∧ W = w' := by
  obtain ⟨hl, hc⟩ := h
  have HL := Lib.hid hl
  have HC := Lib.hid hc
  clear hl hc
  cases h1 : inB n 1 9
  · have hfin : isMat ll = false := by have := HL.out; simp [isMat, this, h1]
    have HF := Lib.hid hfin
    clear hfin
    go_enter Try.func44, Try.ntmps44
    go_wp2_with (go_at_call 77; refine (within_any _ _ _ _).mono ?_; rintro e w' ⟨rfl, rfl⟩)
    go_ret
    refine ⟨?_, rfl⟩
    rw [HF.out]
    try rfl
  · have hn1 : 1 ≤ n ∧ n ≤ 9 := by simp [inB] at h1; omega
    obtain ⟨b0, off0, a0, c0, r0, rfl, hb0, hx0, hcell0, hi0⟩ := HC.out 0 (by omega)
    simp only [Nat.add_zero] at hcell0
    have hw0 : width ll = r0.length := by
      cases ll with
      | nil => simp at hx0
      | cons x l => simp at hx0; simp [width, hx0]
    have HW := Lib.hid hw0
    clear hw0 hx0 hi0
    go_enter Try.func44, Try.ntmps44
    go_wp2_with (go_at_call 77; refine (within_any _ _ _ _).mono ?_; rintro e w' ⟨rfl, rfl⟩)
    go_loop [14] (fun i => ∃ k : Nat, k ≤ n ∧ i = .int .i64 k ∧ (ll.take k).all (rowOk (width ll)) = true) (fun i => n - (intOf i).toNat)
    case atStart => exact ⟨0, Nat.zero_le _, rfl, by simp⟩
    case round =>
      obtain ⟨k, hk, rfl, hall⟩ := hrel
      have HA := Lib.hid hall
      clear hall
      by_cases hlt : k < n
      · obtain ⟨b, off, ar, cr, r, hab, hbl, hx, hcell, hi⟩ := HC.out k hlt
        simp only [Option.some.injEq, Addr.mk.injEq, and_true] at hab
        obtain ⟨rfl, rfl⟩ := hab
        have hrl := sumLen_mem hx
        have HX := Lib.hid hx
        have HI := Lib.hid hi
        clear hx hi
        by_cases e1 : r.length = r0.length
        · have hq1 : (r.length != r0.length) = false := by simpa using e1
          have hq2 : ((r.length : Int) != (r0.length : Int)) = false := by simp; omega
          have HE1 := Lib.hid e1
          clear e1
          cases e2 : inB r.length 1 12
          · have hfin : isMat ll = false := isMat_row HX.out (by simp [rowOk, e2])
            have HF := Lib.hid hfin
            clear hfin
            go_wp2_with (go_at_call 77; refine (within_any _ _ _ _).mono ?_; rintro e w' ⟨rfl, rfl⟩)
            go_ret
            refine ⟨?_, rfl⟩
            rw [HF.out]
            try rfl
          · have hlen12 : r.length ≤ 12 := by simp [inB] at e2; omega
            go_wp2_with (go_at_call 77; refine (within_any _ _ _ _).mono ?_; rintro e w' ⟨rfl, rfl⟩)
            go_loop [5, 33] (fun s i => ∃ (j : Nat) (q : Int), j ≤ r.length ∧ i = .int .i64 j ∧ s = .int .i64 q ∧ q = sq (r.take j) ∧ smallRow (r.take j) = true) (fun _ i => r.length - (intOf i).toNat)
            case atStart => exact ⟨0, 0, Nat.zero_le _, rfl, rfl, by simp [sq], by simp [smallRow]⟩
            case round =>
              obtain ⟨j, q, hj, rfl, rfl, hq, hsm⟩ := hrel
              have hbd := sq_bd hsm
              rw [← hq] at hbd
              have htl : (r.take j).length ≤ j := List.length_take_le _ _
              obtain ⟨hbd1, hbd2⟩ := hbd
              have hbd3 : q ≤ 768 := by omega
              have HQ := Lib.hid hq
              have HS := Lib.hid hsm
              clear hq hsm htl hbd2
              by_cases hjl : j < r.length
              · obtain ⟨b1, off1, x, rfl, hb1, hxx, hcx⟩ := HI.out.2 j hjl
                have HXX := Lib.hid hxx
                clear hxx
                cases e3 : inB x (-8) 8
                · have hfin : isMat ll = false := isMat_row HX.out (by simp [rowOk, small_not HXX.out e3])
                  have HF := Lib.hid hfin
                  clear hfin
                  go_wp2_with (go_at_call 77; refine (within_any _ _ _ _).mono ?_; rintro e w' ⟨rfl, rfl⟩)
                  go_ret
                  refine ⟨?_, rfl⟩
                  rw [HF.out]
                  try rfl
                · obtain ⟨s1, s2, s3, s4⟩ := sq8 e3
                  go_wp2_with (go_at_call 77; refine (within_any _ _ _ _).mono ?_; rintro e w' ⟨rfl, rfl⟩)
                  go_round
                  case rel => exact ⟨j + 1, _, by omega, by go_num, rfl, by rw [take_succ_of HXX.out, sq_snoc, ← HQ.out], by rw [take_succ_of HXX.out]; have := HS.out; simp [smallRow] at this ⊢; exact ⟨this, e3⟩⟩
                  case measure => simp [intOf]; omega
              · obtain rfl : j = r.length := by omega
                have hsq : q = sq r := by rw [HQ.out, List.take_length]
                have hsm : smallRow r = true := by have := HS.out; rwa [List.take_length] at this
                have HSQ := Lib.hid hsq
                have HSM := Lib.hid hsm
                clear hsq hsm
                by_cases e4 : 64 < q
                · have hfin : isMat ll = false := isMat_row HX.out (by
                    have h5 : decide (sq r ≤ 64) = false := by have := HSQ.out; simp; omega
                    simp [rowOk, h5])
                  have HF := Lib.hid hfin
                  clear hfin
                  go_wp2_with fail
                  go_ret
                  refine ⟨?_, rfl⟩
                  rw [HF.out]
                  try rfl
                · go_wp2_with fail
                  go_round
                  case rel =>
                    refine ⟨k + 1, by omega, by go_num, all_take_succ HX.out HA.out ?_⟩
                    have h5 : decide (sq r ≤ 64) = true := by have := HSQ.out; simp; omega
                    have h6 := HE1.out
                    have h7 := HSM.out
                    rw [HW.out]
                    simp [rowOk, h5, e2, h6, h7] at *
                    exact e2
                  case measure => simp [intOf]; omega
        · have hq1 : (r.length != r0.length) = true := by simpa using e1
          have hq2 : ((r.length : Int) != (r0.length : Int)) = true := by simp; omega
          have hfin : isMat ll = false := isMat_row HX.out (by rw [HW.out]; simp [rowOk, e1])
          have HF := Lib.hid hfin
          clear hfin e1
          go_wp2_with (go_at_call 77; refine (within_any _ _ _ _).mono ?_; rintro e w' ⟨rfl, rfl⟩)
          go_ret
          refine ⟨?_, rfl⟩
          rw [HF.out]
          try rfl
      · obtain rfl : k = n := by omega
        have hfin : isMat ll = true := by
          have h2 := HA.out
          have h3 := HL.out
          rw [List.take_of_length_le (by omega)] at h2
          simp only [isMat, h2, h3, h1, Bool.and_self]
        have HF := Lib.hid hfin
        clear hfin
        go_wp2
        go_ret
        refine ⟨?_, rfl⟩
        rw [HF.out]
        try rfl
end Go.Proofs.Ytfdhbbhfilkafaa
