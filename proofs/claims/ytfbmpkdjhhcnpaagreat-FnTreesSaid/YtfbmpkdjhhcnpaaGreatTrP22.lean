/- l8Det of the reference: a determinant by its last row. Condition: at most eight rows. -/
import Derived.Test.YtfbmpkdjhhcnpaaGreatTrP21
import Derived.Deep.RegionHeld3
import Derived.Deep.QuietTactic
import Derived.BigQuiet
namespace Go.Proofs.YtfbmpkdjhhcnpaaGreat
open Go.RowKit Gr
set_option maxRecDepth 100000
set_option linter.unusedVariables false
set_option linter.unusedSimpArgs false

theorem wrap_ex (y : Int) : ∃ q, wrap64 y = y + q * 18446744073709551616 := by
  refine ⟨-((y + 9223372036854775808) / 18446744073709551616), ?_⟩
  unfold wrap64
  omega
theorem wrap_add (a q : Int) : wrap64 (a + q * 18446744073709551616) = wrap64 a := by
  unfold wrap64
  omega
/-- one more term, each step wrapped -/
theorem wrap_pos (D x Z : Int) : wrap64 (wrap64 D + wrap64 (x * wrap64 Z)) = wrap64 (D + 1 * x * Z) := by
  obtain ⟨q1, h1⟩ := wrap_ex D
  obtain ⟨q3, h3⟩ := wrap_ex Z
  obtain ⟨q2, h2⟩ := wrap_ex (x * wrap64 Z)
  rw [h2, h1, h3, ← wrap_add (D + 1 * x * Z) (q1 + x * q3 + q2)]
  congr 1; grind
theorem wrap_neg (D x Z : Int) : wrap64 (wrap64 D + wrap64 (-wrap64 (x * wrap64 Z))) = wrap64 (D + (-1) * x * Z) := by
  obtain ⟨q1, h1⟩ := wrap_ex D
  obtain ⟨q3, h3⟩ := wrap_ex Z
  obtain ⟨q2, h2⟩ := wrap_ex (x * wrap64 Z)
  obtain ⟨q4, h4⟩ := wrap_ex (-wrap64 (x * wrap64 Z))
  rw [h4, h2, h1, h3, ← wrap_add (D + (-1) * x * Z) (q1 - x * q3 - q2 + q4)]
  congr 1; grind
theorem wrap_neg2 (D x Z : Int) : wrap64 (wrap64 D + wrap64 (wrap64 (-x) * wrap64 Z)) = wrap64 (D + (-1) * x * Z) := by
  obtain ⟨q1, h1⟩ := wrap_ex D
  obtain ⟨q3, h3⟩ := wrap_ex Z
  obtain ⟨q2, h2⟩ := wrap_ex (wrap64 (-x) * wrap64 Z)
  obtain ⟨q4, h4⟩ := wrap_ex (-x)
  rw [h2, h1, h3, h4, ← wrap_add (D + (-1) * x * Z) (q1 - x * q3 + q4 * Z + q4 * q3 * 18446744073709551616 + q2)]
  congr 1; grind
theorem erase_take {α : Type} {r : List α} {x j : Nat} {y : α} (h : r[x]? = some y) : (r.take (x + 1)).eraseIdx j = if x = j then (r.take x).eraseIdx j else (r.take x).eraseIdx j ++ [y] := by
  have hl := lt_of_getElem? h
  have e : (r.take x).length = x := by rw [List.length_take]; omega
  rw [take_succ_of h]
  by_cases h1 : x = j
  · subst h1
    rw [if_pos rfl, List.eraseIdx_append_of_length_le (by rw [e]; exact Nat.le_refl _), e, Nat.sub_self, show (r.take x).eraseIdx x = r.take x from List.eraseIdx_of_length_le (by rw [e]; exact Nat.le_refl _)]
    simp
  · rw [if_neg h1]
    by_cases h2 : j < x
    · rw [List.eraseIdx_append_of_lt_length (by rw [e]; exact h2)]
    · rw [List.eraseIdx_of_length_le (by rw [List.length_append, e, List.length_singleton]; omega), List.eraseIdx_of_length_le (by rw [e]; omega)]
def lessL (M : List (List Int)) (n j i : Nat) : List (List Int) := (M.take i).map fun r => (r.take (n + 1)).eraseIdx j
theorem lessL_succ {M : List (List Int)} {n j i : Nat} {r : List Int} (h : M[i]? = some r) : lessL M n j (i + 1) = lessL M n j i ++ [(r.take (n + 1)).eraseIdx j] := by
  unfold lessL; rw [take_succ_of h]; simp
def trmL (M : List (List Int)) (n j : Nat) : Int := sg (n + j) * ((M[n]?.getD [])[j]?.getD 0) * detL n (lessL M n j n)
theorem detL_dsum (M : List (List Int)) (n : Nat) : detL (n + 1) M = dsum (trmL M n) (n + 1) := rfl
theorem sg_odd {k : Nat} (h : k % 2 = 1) : sg k = -1 := if_pos h
theorem sg_even {k : Nat} (h : ¬ k % 2 = 1) : sg k = 1 := if_neg h
theorem made_ints2 (w : World) : OwnIntss (w.alloc (.cells #[] 35)) w.heap.size (.slice (some ⟨w.heap.size, 0, none⟩) 0 0) [] :=
  ⟨[], World.ownsRow_made w #[] 0 (Nat.le_refl _) (Nat.zero_le _) rfl, IRows.nil _ _⟩

set_option maxHeartbeats 8000000 in
theorem l8Det_at : ∀ (n : Nat), n ≤ 8 → ∀ (M : List (List Int)) (W : World) (a : Option Addr) (cap : Nat), n ≤ M.length → M.length ≤ 1000 → (∀ r ∈ M, n ≤ r.length ∧ r.length ≤ 1000) → IntssAt W a M.length M →
    Calls Tryz.prog 65 #[.slice a M.length cap, .int .i64 n] W fun e w' => e = .returned (.int .i64 (wrap64 (detL n M))) ∧ Below W.heap.size W w'
  | 0, _, M, W, a, cap, _, _, _, _ => by
    go_enter Tryz.func65, Tryz.ntmps65
    go_wp2_with fail
    go_ret
    exact ⟨by rw [show wrap64 (detL 0 M) = 1 from (by unfold wrap64; omega : wrap64 1 = 1)]; rfl, Below.refl _ _⟩
  | n + 1, hn8, M, W, a, cap, hnM, hM, hr, hi => by
    have hwd := @Wd.cells
    have IH := Lib.hid (l8Det_at n (by omega))
    have HI := Lib.hid hi
    have HR := Lib.hid hr
    have HDD := Lib.hid (detL_dsum M n)
    clear hi hr
    generalize hN : n + 1 = N at *
    have hN1 : 1 ≤ N := by omega
    have hN8 : N ≤ 8 := hn8
    have hnN : n + 1 ≤ N := by omega
    have hNn : N ≤ n + 1 := by omega
    have hnz : ((N : Int) == 0) = false := by rw [beq_eq_false_iff_ne]; omega
    have hn1 : (N : Int) - 1 = (n : Int) := by omega
    have hn0 : (0 : Int) ≤ (n : Int) := by omega
    have hnMi : (n : Int) < (M.length : Int) := by omega
    have HNN := Lib.hid hN
    clear hN
    go_enter Tryz.func65, Tryz.ntmps65
    go_wp2_with fail
    go_loopw [5, 6] (fun dd jv w9 => ∃ j : Nat, j ≤ N ∧ jv = .int .i64 j ∧ dd = .int .i64 (wrap64 (dsum (trmL M n) j)) ∧ Below W.heap.size W w9) (fun _ jv _ => N - (intOf jv).toNat)
    case atStart => exact ⟨0, Nat.zero_le _, rfl, by rw [show wrap64 (dsum (trmL M n) 0) = 0 from (by unfold wrap64; omega : wrap64 0 = 0)], Below.refl _ _⟩
    case round =>
      obtain ⟨j, hj, rfl, rfl, hb⟩ := hrel
      have hbz := hb.size
      generalize hD : wrap64 (dsum (trmL M n) j) = D
      have HD := Lib.hid hD
      clear hD
      by_cases hlt : j < N
      · have hji : (j : Int) < (N : Int) := by omega
        have hj0 : (0 : Int) ≤ (j : Int) := by omega
        obtain ⟨bm, om, ar, cr, r, rfl, hbm, hrr, hcm, hir⟩ := (HI.out.below hb).2 n (by omega)
        obtain ⟨hrl1, hrl2⟩ := HR.out r (List.mem_of_getElem? hrr)
        obtain ⟨br, or', x, rfl, hbr, hx, hcx⟩ := hir.2 j (by omega)
        have hjr : (j : Int) < (r.length : Int) := by omega
        have HX : Hid (((M[n]?.getD [])[j]?.getD 0) = x) := Lib.hid (by rw [hrr]; simp [hx])
        clear hx hrr hir
        cases hx0 : (x == 0)
        · have hr0 := made_ints2 wr
          have hrb : Below wr.heap.size wr (wr.alloc (.cells #[] 35)) := (Below.refl _ _).alloc (Nat.le_refl _) _
          have HR0 := Lib.hid hr0
          clear hr0
          go_wp2_with fail
          obtain ⟨wo, hwo⟩ : ∃ wo, wo = wr := ⟨_, rfl⟩
          subst hwo
          generalize wo.alloc (.cells #[] 35) = w3 at *
          go_loopw [7, 8] (fun o iv w9 => ∃ i : Nat, i ≤ n ∧ iv = .int .i64 i ∧ OwnIntss w9 wo.heap.size o (lessL M n j i) ∧ Below wo.heap.size wo w9) (fun _ iv _ => n - (intOf iv).toNat)
          case atStart => exact ⟨0, Nat.zero_le _, rfl, HR0.out, hrb⟩
          case round =>
            clear hrb HR0
            obtain ⟨i, hin, rfl, ho, hb3⟩ := hrel
            have HO := Lib.hid ho
            clear ho
            have hb3z := hb3.size
            by_cases hil : i < n
            · have hili : (i : Int) < (n : Int) := by omega
              have hi0 : (0 : Int) ≤ (i : Int) := by omega
              have hiM : (i : Int) < (M.length : Int) := by omega
              obtain ⟨bm2, om2, ar2, cr2, r2, hab, hbm2, hrr2, hcm2, hir2⟩ := (HI.out.below (hb.step hb3)).2 i (by omega)
              simp only [Option.some.injEq, Addr.mk.injEq, and_true] at hab
              obtain ⟨rfl, rfl⟩ := hab
              obtain ⟨hq1, hq2⟩ := HR.out r2 (List.mem_of_getElem? hrr2)
              have HLS := Lib.hid (lessL_succ (n := n) (j := j) hrr2)
              have HI2 := Lib.hid hir2
              clear hrr2 hir2
              have hr0 := OwnInts.made wr wr.heap.size (Nat.le_refl _)
              have hrb : Below wr.heap.size wr (wr.alloc (.cells #[] 3)) := (Below.refl _ _).alloc (Nat.le_refl _) _
              have HR0 := Lib.hid hr0
              clear hr0
              go_wp2_with fail
              obtain ⟨wp, hwp⟩ : ∃ wp, wp = wr := ⟨_, rfl⟩
              subst hwp
              generalize wp.alloc (.cells #[] 3) = w4 at *
              go_loopw [9, 10] (fun o xv w9 => ∃ k : Nat, k ≤ N ∧ xv = .int .i64 k ∧ OwnInts w9 wp.heap.size o ((r2.take k).eraseIdx j) ∧ Below wp.heap.size wp w9) (fun _ xv _ => N - (intOf xv).toNat)
              case atStart => exact ⟨0, Nat.zero_le _, rfl, HR0.out, hrb⟩
              case round =>
                clear hrb HR0
                obtain ⟨k, hk, rfl, hor, hb4⟩ := hrel
                have HU := Lib.hid hor
                clear hor
                have hb4z := hb4.size
                by_cases hkl : k < N
                · have hki : (k : Int) < (N : Int) := by omega
                  have hk0 : (0 : Int) ≤ (k : Int) := by omega
                  obtain ⟨br2, or2, y, rfl, hbr2, hy, hcy⟩ := (HI2.out.below hb4).2 k (by omega)
                  have hcm3 := ((bcell hb4).1 _ _ hbm2).trans hcm2
                  have hkr : (k : Int) < (r2.length : Int) := by omega
                  have HET := Lib.hid (erase_take (j := j) hy)
                  clear hy
                  by_cases hkj : k = j
                  · have hkb : ((k : Int) != (j : Int)) = false := by rw [hkj]; simp
                    have HE2 := Lib.hid (HET.out.trans (if_pos hkj))
                    clear hkj
                    go_wp2_with fail
                    go_roundw
                    case rel => exact ⟨k + 1, by omega, by go_num, by rw [HE2.out]; exact HU.out, hb4⟩
                    case measure => simp [intOf]; omega
                  · have hkb : ((k : Int) != (j : Int)) = true := by rw [bne_iff_ne]; omega
                    have HE2 := Lib.hid (HET.out.trans (if_neg hkj))
                    have HEL : Hid (((r2.take k).eraseIdx j).length < 17592186044416) := Lib.hid (by have h1 := List.length_eraseIdx_le (r2.take k) j; have h2 := List.length_take_le k r2; omega)
                    clear hkj
                    go_wp2_with (at_builtin; refine app1 rfl (.tmp 44) (.tmp 52) rfl rfl HU.out _ rfl HEL.out hb4z ?_; intro v' w5 h5 k5)
                    go_roundw
                    case rel => exact ⟨k + 1, by omega, by go_num, by rw [HE2.out]; exact h5, hb4.trans (k5.setOwn HU.out (Nat.le_refl _) hb4z)⟩
                    case measure => simp [intOf]; omega
                · obtain rfl : k = N := by omega
                  obtain ⟨au, cu, rfl, hiu⟩ := HU.out.form
                  clear hiu
                  obtain ⟨vs, hvs, hrs⟩ := HO.out
                  have HV := Lib.hid hvs
                  have HVR := Lib.hid hrs
                  have HB4 := Lib.hid hb4
                  have HLK : Hid ((lessL M n j i).length < 1099511627776) := Lib.hid (by unfold lessL; rw [List.length_map, List.length_take]; omega)
                  clear hvs hrs
                  go_wp2_with (at_builtin; refine appRow (by rfl) (.tmp 54) (.tmp 56) (by rfl) (by rfl) (ownsRow_base HU.out hb3z) HB4.out HV.out HVR.out (fun q hq => (HU.out.lt q hq).1) (by rfl) HLK.out (by omega) ?_; intro v' w8 h8 k8)
                  go_roundw
                  case rel =>
                    refine ⟨i + 1, by omega, by go_num, by rw [HLS.out, HNN.out]; exact h8, hb3.trans ?_⟩
                    have hvs := HV.out
                    exact (HB4.out.mono hb3z).trans (k8.below (by omega) fun z h1 h2 => by
                      have := (World.ownsRow.lt hvs z h2.symm).1
                      omega)
                  case measure => simp [intOf]; omega
            · obtain rfl : i = n := by omega
              obtain ⟨al, cl, rfl, hil2⟩ := HO.out.form
              have hll : (lessL M i j i).length = i := by unfold lessL; rw [List.length_map, List.length_take]; omega
              have HCC : Hid (∀ w9, Below wr.heap.size wr w9 → Calls Tryz.prog 65 #[.slice al i cl, .int .i64 i] w9 fun e w' => e = .returned (.int .i64 (wrap64 (detL i (lessL M i j i)))) ∧ Below w9.heap.size w9 w') := Lib.hid fun w9 b9 => by
                have h9 := IH.out (lessL M i j i) w9 al cl (by omega) (by omega) (fun r3 hr3 => by
                  obtain ⟨r4, hr4, rfl⟩ := List.mem_map.1 hr3
                  have h1 := HR.out r4 (List.mem_of_mem_take hr4)
                  rw [List.length_eraseIdx_of_lt (by rw [List.length_take]; omega), List.length_take]; omega) (hil2.below b9)
                rwa [hll] at h9
              simp only [hll]
              clear hll hil2
              have hcm2 := ((bcell hb3).1 _ _ hbm).trans hcm
              have hcx2 := ((bcell hb3).1 _ _ hbr).trans hcx
              have hbm' : bm < wr.heap.size := by omega
              have hbr' : br < wr.heap.size := by omega
              have HTM : Hid (trmL M i j = sg (i + j) * x * detL i (lessL M i j i)) := Lib.hid (by unfold trmL; rw [HX.out])
              generalize detL i (lessL M i j i) = Z at *
              have HZ : Hid (wrap64 Z = wrap64 Z) := Lib.hid rfl
              obtain ⟨z, hz⟩ : ∃ z, z = wrap64 Z := ⟨_, rfl⟩
              rw [← hz] at HCC
              have HZZ := Lib.hid hz
              clear hz HZ
              go_wp2_with fail
              refine wp_region_wd (by kernel_rfl) (by kernel_rfl) ?_
              repeat (go_big_quiet_step ((first | (go_at_call 65; exact Calls.wd_of (HCC.out _ (Wd.h _))))))
              refine wpQuiet_nil ?_
              intro n1
              have b9 := n1.h
              have hbe := hb.step (hb3.step b9)
              by_cases hod : (i + j) % 2 = 1
              · have hsg := sg_odd hod
                have hmd : Int.tmod ((i : Int) + (j : Int)) 2 = 1 := by
                  rw [show (i : Int) + (j : Int) = ((i + j : Nat) : Int) by omega, show ((i + j : Nat) : Int).tmod 2 = (((i + j) % 2 : Nat) : Int) from rfl, hod]; rfl
                have HSG := Lib.hid hsg
                clear hsg hod
                go_wp2_with fail
                go_roundw
                case rel => exact ⟨j + 1, by omega, by go_num, by show Value.int _ _ = Value.int _ _; rw [show dsum (trmL M i) (j + 1) = dsum (trmL M i) j + trmL M i j from rfl, HTM.out, HSG.out, ← wrap_neg, HD.out, HZZ.out], hbe⟩
                case measure => simp [intOf]; omega
              · have hsg := sg_even hod
                have hmd : Int.tmod ((i : Int) + (j : Int)) 2 = 0 := by
                  rw [show (i : Int) + (j : Int) = ((i + j : Nat) : Int) by omega, show ((i + j : Nat) : Int).tmod 2 = (((i + j) % 2 : Nat) : Int) from rfl, show (i + j) % 2 = 0 by omega]; rfl
                have HSG := Lib.hid hsg
                clear hsg hod
                go_wp2_with fail
                go_roundw
                case rel => exact ⟨j + 1, by omega, by go_num, by show Value.int _ _ = Value.int _ _; rw [show dsum (trmL M i) (j + 1) = dsum (trmL M i) j + trmL M i j from rfl, HTM.out, HSG.out, ← wrap_pos, HD.out, HZZ.out], hbe⟩
                case measure => simp [intOf]; omega
        · have HX0 := Lib.hid (eq_of_beq hx0)
          go_wp2_with fail
          go_roundw
          case rel => exact ⟨j + 1, by omega, by go_num, by rw [← HD.out, show dsum (trmL M n) (j + 1) = dsum (trmL M n) j + trmL M n j from rfl, show trmL M n j = 0 by unfold trmL; rw [HX.out, HX0.out]; simp, Int.add_zero], hb⟩
          case measure => simp [intOf]; omega
      · obtain rfl : j = N := by omega
        go_wp2_with fail
        go_ret
        exact ⟨by rw [HDD.out, HD.out]; rfl, hb⟩
end Go.Proofs.YtfbmpkdjhhcnpaaGreat

