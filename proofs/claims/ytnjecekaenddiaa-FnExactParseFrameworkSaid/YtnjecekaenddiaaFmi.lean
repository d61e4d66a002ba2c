/- FormatInt of the reference and of the program. Condition: a 64-bit number. -/
import Derived.Test.YtnjecekaenddiaaByt
namespace Go.Proofs.Ytnjecekaenddiaa
open Go.RowKit
set_option maxRecDepth 100000
set_option linter.unusedVariables false
set_option linter.unusedSimpArgs false


set_option maxHeartbeats 4000000 in
theorem specFi_neg (N : Nat) (W : World) (hN0 : N ≠ 0) (hN : N ≤ 9223372036854775808) (hr1 : -9223372036854775808 ≤ -(N : Int)) (hr2 : -(N : Int) ≤ 9223372036854775807) : Calls Try.prog 26 #[.int .i64 (-(N : Int))] W fun e w' => e = .returned (.string (bs (fmtI (-(N : Int))))) ∧ Below W.heap.size W w' := by
  have HE : Hid (fmtI (-(N : Int)) = 45 :: (dg N).reverse) := Lib.hid (by
    unfold fmtI
    rw [if_neg (by omega)]
    first | (rw [if_pos (by omega)]; congr 3; omega) | (rw [if_neg (by omega)]; congr 2))
  have HLN : Hid ((dg N).length ≤ 20) := Lib.hid (dg_len 20 N (by omega))
  have hnz : (-(N : Int) == (0 : Int)) = false := by rw [beq_eq_false_iff_ne]; omega
  have hN1 : 0 < N := by omega
  have hN2 : decide (0 < N) = true := decide_eq_true hN1
  have HBE : Hid (bs [] = { data := #[] }) := Lib.hid rfl
  go_enter Try.func26, Try.ntmps26
  go_wp2_with fail
  go_loopw [0, 3] (fun nv o w9 => ∃ (m : Nat) (d : List UInt8), m ≤ N ∧ nv = .int .i64 (-(m : Int)) ∧ o = .string (bs d.reverse) ∧ d ++ dg m = dg N ∧ Below W.heap.size W w9) (fun nv _ _ => (intOf nv).natAbs)
  case atStart => exact ⟨N, [], Nat.le_refl _, rfl, rfl, rfl, Below.refl _ _⟩
  case round =>
    obtain ⟨m, d, hm, rfl, rfl, hd, hb⟩ := hrel
    have hdl : d.length ≤ 20 := by have h1 := HLN.out; rw [← hd, List.length_append] at h1; omega
    have HD := Lib.hid hd
    clear hd
    by_cases hm0 : m = 0
    · subst hm0
      have HF : Hid (d = dg N) := Lib.hid (by have := HD.out; rwa [dg_zero, List.append_nil] at this)
      have had : ∀ w, (Op.stringOp .add { data := #[45] } (bs d.reverse)).run Try.prog w = .ok (.string (bs (45 :: d.reverse))) w := addS (l := [45]) (r := d.reverse) (by simp; omega)
      go_wp2_with fail
      go_ret
      exact ⟨by rw [HE.out, ← HF.out]; rfl, hb⟩
    · have HS := Lib.hid (dg_step HD.out hm0)
      have tm : Int.tmod (-(m : Int)) 10 = _ := tmod_neg m
      have td : Int.tdiv (-(m : Int)) 10 = _ := tdiv_neg m
      have hcn : (UInt8.ofNat (48 + m % 10)).toNat = 48 + m % 10 := chr_nat
      have hr10 : m % 10 < 10 := Nat.mod_lt _ (by decide)
      have ht : m / 10 < m := Nat.div_lt_self (by omega) (by decide)
      generalize UInt8.ofNat (48 + m % 10) = ch at *
      generalize m % 10 = r at *
      generalize m / 10 = t at *
      have hmz : (-(m : Int) == (0 : Int)) = false := by rw [beq_eq_false_iff_ne]; omega
      have hmz2 : (-(m : Int) != (0 : Int)) = true := by rw [bne_iff_ne]; omega
      have HCN := Lib.hid hcn
      have hbk : (convert 90 9 (.slice (some ⟨wr.heap.size, 0, none⟩) 1 1)).run Try.prog (wr.alloc (.cells #[.int .u8 (48 + (r : Int))] 5)) = .ok (.string (bs [ch])) (wr.alloc (.cells #[.int .u8 (48 + (r : Int))] 5)) := by
        refine backS (l := [ch]) (cap := 1) fun j c hj => ?_
        have hj0 : j = 0 := by have := lt_of_getElem? hj; simp at this; omega
        subst hj0
        simp at hj
        subst hj
        simp [World.cell?_alloc_new, byteC, HCN.out]
      have had := addS (l := [ch]) (r := d.reverse) (by simp; omega)
      have hba : Below wr.heap.size wr (wr.alloc (.cells #[.int .u8 (48 + (r : Int))] 5)) := (Below.refl _ _).alloc (Nat.le_refl _) _
      have HBA := Lib.hid hba
      clear hba hcn
      by_cases hr0 : r = 0
      · subst hr0
        rw [show (48 + ((0 : Nat) : Int)) = 48 from rfl] at hbk HBA
        go_wp2_with fail
        go_roundw
        case rel => exact ⟨t, d ++ [ch], by omega, rfl, by simp, HS.out, hb.trans (HBA.out.mono hb.size)⟩
        case measure => simp [intOf]; omega
      · have hrn : decide (-(r : Int) < 0) = true := decide_eq_true (by omega)
        go_wp2_with fail
        go_roundw
        case rel => exact ⟨t, d ++ [ch], by omega, rfl, by simp, HS.out, hb.trans (HBA.out.mono hb.size)⟩
        case measure => simp [intOf]; omega

set_option maxHeartbeats 4000000 in
theorem specFi_pos (N : Nat) (W : World) (hN0 : N ≠ 0) (hN : N ≤ 9223372036854775808) (hr1 : -9223372036854775808 ≤ (N : Int)) (hr2 : (N : Int) ≤ 9223372036854775807) : Calls Try.prog 26 #[.int .i64 ((N : Int))] W fun e w' => e = .returned (.string (bs (fmtI ((N : Int))))) ∧ Below W.heap.size W w' := by
  have HE : Hid (fmtI ((N : Int)) =  (dg N).reverse) := Lib.hid (by
    unfold fmtI
    rw [if_neg (by omega)]
    first | (rw [if_pos (by omega)]; congr 3; omega) | (rw [if_neg (by omega)]; congr 2))
  have HLN : Hid ((dg N).length ≤ 20) := Lib.hid (dg_len 20 N (by omega))
  have hnz : ((N : Int) == (0 : Int)) = false := by rw [beq_eq_false_iff_ne]; omega
  have hN1 : 0 < N := by omega
  have hN2 : decide (0 < N) = true := decide_eq_true hN1
  have HBE : Hid (bs [] = { data := #[] }) := Lib.hid rfl
  go_enter Try.func26, Try.ntmps26
  go_wp2_with fail
  go_loopw [0, 3] (fun nv o w9 => ∃ (m : Nat) (d : List UInt8), m ≤ N ∧ nv = .int .i64 ((m : Int)) ∧ o = .string (bs d.reverse) ∧ d ++ dg m = dg N ∧ Below W.heap.size W w9) (fun nv _ _ => (intOf nv).natAbs)
  case atStart => exact ⟨N, [], Nat.le_refl _, rfl, rfl, rfl, Below.refl _ _⟩
  case round =>
    obtain ⟨m, d, hm, rfl, rfl, hd, hb⟩ := hrel
    have hdl : d.length ≤ 20 := by have h1 := HLN.out; rw [← hd, List.length_append] at h1; omega
    have HD := Lib.hid hd
    clear hd
    by_cases hm0 : m = 0
    · subst hm0
      have HF : Hid (d = dg N) := Lib.hid (by have := HD.out; rwa [dg_zero, List.append_nil] at this)
      skip
      go_wp2_with fail
      go_ret
      exact ⟨by rw [HE.out, ← HF.out]; rfl, hb⟩
    · have HS := Lib.hid (dg_step HD.out hm0)
      have tm : Int.tmod ((m : Int)) 10 = _ := tmod_pos m
      have td : Int.tdiv ((m : Int)) 10 = _ := tdiv_pos m
      have hcn : (UInt8.ofNat (48 + m % 10)).toNat = 48 + m % 10 := chr_nat
      have hr10 : m % 10 < 10 := Nat.mod_lt _ (by decide)
      have ht : m / 10 < m := Nat.div_lt_self (by omega) (by decide)
      generalize UInt8.ofNat (48 + m % 10) = ch at *
      generalize m % 10 = r at *
      generalize m / 10 = t at *
      have hmz : ((m : Int) == (0 : Int)) = false := by rw [beq_eq_false_iff_ne]; omega
      have hmz2 : ((m : Int) != (0 : Int)) = true := by rw [bne_iff_ne]; omega
      have HCN := Lib.hid hcn
      have hbk : (convert 90 9 (.slice (some ⟨wr.heap.size, 0, none⟩) 1 1)).run Try.prog (wr.alloc (.cells #[.int .u8 (48 + (r : Int))] 5)) = .ok (.string (bs [ch])) (wr.alloc (.cells #[.int .u8 (48 + (r : Int))] 5)) := by
        refine backS (l := [ch]) (cap := 1) fun j c hj => ?_
        have hj0 : j = 0 := by have := lt_of_getElem? hj; simp at this; omega
        subst hj0
        simp at hj
        subst hj
        simp [World.cell?_alloc_new, byteC, HCN.out]
      have had := addS (l := [ch]) (r := d.reverse) (by simp; omega)
      have hba : Below wr.heap.size wr (wr.alloc (.cells #[.int .u8 (48 + (r : Int))] 5)) := (Below.refl _ _).alloc (Nat.le_refl _) _
      have HBA := Lib.hid hba
      clear hba hcn
      by_cases hr0 : r = 0
      · subst hr0
        rw [show (48 + ((0 : Nat) : Int)) = 48 from rfl] at hbk HBA
        go_wp2_with fail
        go_roundw
        case rel => exact ⟨t, d ++ [ch], by omega, rfl, by simp, HS.out, hb.trans (HBA.out.mono hb.size)⟩
        case measure => simp [intOf]; omega
      · have hrn : decide ((r : Int) < 0) = false := decide_eq_false (by omega)
        go_wp2_with fail
        go_roundw
        case rel => exact ⟨t, d ++ [ch], by omega, rfl, by simp, HS.out, hb.trans (HBA.out.mono hb.size)⟩
        case measure => simp [intOf]; omega

theorem spec_FormatInt (n : Int) (W : World) (h1 : -9223372036854775808 ≤ n) (h2 : n ≤ 9223372036854775807) : Calls Try.prog 26 #[.int .i64 n] W fun e w' => e = .returned (.string (bs (fmtI n))) ∧ Below W.heap.size W w' := by
  by_cases h0 : n = 0
  · subst h0
    go_enter Try.func26, Try.ntmps26
    go_wp2_with fail
    go_ret
    exact ⟨rfl, Below.refl _ _⟩
  · rcases Int.lt_or_le n 0 with h | h
    · obtain ⟨N, hN⟩ : ∃ N : Nat, n = -(N : Int) := ⟨n.natAbs, by omega⟩
      subst hN
      exact specFi_neg N W (by omega) (by omega) h1 h2
    · obtain ⟨N, rfl⟩ := Int.eq_ofNat_of_zero_le h
      exact specFi_pos N W (by omega) (by omega) h1 h2
end Go.Proofs.Ytnjecekaenddiaa
