/- FormatInt of the program. Condition: a 64-bit number. -/
import Derived.Test.YtnjecekaenddiaaByt
namespace Go.Proofs.Ytnjecekaenddiaa
open Go.RowKit
set_option maxRecDepth 100000
set_option linter.unusedVariables false
set_option linter.unusedSimpArgs false

/-- z with its first i and its last ones exchanged, up to j -/
def revTo (z : List UInt8) (i j : Nat) : List UInt8 := (List.range z.length).map fun k => if k < i ∨ j < k then z[z.length - 1 - k]?.getD 0 else z[k]?.getD 0
theorem revTo_length (z : List UInt8) (i j : Nat) : (revTo z i j).length = z.length := by simp [revTo]
theorem revTo_start (z : List UInt8) {j : Nat} (h : 0 + j + 1 = z.length) : revTo z 0 j = z := by
  refine List.ext_getElem (by simp [revTo]) fun k h1 h2 => ?_
  simp only [revTo, List.getElem_map, List.getElem_range]
  rw [if_neg (by omega), List.getElem?_eq_getElem h2]; rfl
theorem revTo_get {z : List UInt8} {i j k : Nat} (h1 : i ≤ k) (h2 : k ≤ j) (hk : k < z.length) : (revTo z i j)[k]? = some z[k] := by
  simp only [revTo, List.getElem?_map, List.getElem?_range hk, Option.map_some]
  rw [if_neg (by omega), List.getElem?_eq_getElem hk]; rfl
theorem revTo_step {z : List UInt8} {i j : Nat} (h : i + j + 1 = z.length) (hij : i < j) : ((revTo z i j).set i z[j]).set j z[i] = revTo z (i + 1) (j - 1) := by
  refine List.ext_getElem (by simp [revTo]) fun k h1 h2 => ?_
  have hk : k < z.length := by simpa [revTo] using h2
  simp only [List.getElem_set, revTo, List.getElem_map, List.getElem_range]
  by_cases e1 : j = k
  · subst e1
    rw [if_pos rfl, if_pos (by omega), show z.length - 1 - j = i by omega, List.getElem?_eq_getElem (by omega)]; rfl
  · rw [if_neg e1]
    by_cases e2 : i = k
    · subst e2
      rw [if_pos rfl, if_pos (by omega), show z.length - 1 - i = j by omega, List.getElem?_eq_getElem (by omega)]; rfl
    · rw [if_neg e2]
      by_cases e3 : k < i ∨ j < k
      · rw [if_pos e3, if_pos (by omega)]
      · rw [if_neg e3, if_neg (by omega)]
theorem revTo_done {z : List UInt8} {i j : Nat} (h : i + j + 1 = z.length) (hij : ¬ i < j) (hij2 : i ≤ j + 1) : revTo z i j = z.reverse := by
  refine List.ext_getElem (by simp [revTo]) fun k h1 h2 => ?_
  have hk : k < z.length := by simpa [revTo] using h1
  simp only [revTo, List.getElem_map, List.getElem_range, List.getElem_reverse]
  by_cases e3 : k < i ∨ j < k
  · rw [if_pos e3, List.getElem?_eq_getElem (by omega)]; rfl
  · rw [if_neg e3, List.getElem?_eq_getElem hk]
    have : z.length - 1 - k = k := by omega
    simp only [this]; rfl


set_option maxHeartbeats 8000000 in
theorem implFi_neg (N : Nat) (W : World) (hN0 : N ≠ 0) (hN : N ≤ 9223372036854775808) (hr1 : -9223372036854775808 ≤ -(N : Int)) (hr2 : -(N : Int) ≤ 9223372036854775807) : Calls Try.prog 28 #[.int .i64 (-(N : Int))] W fun e w' => e = .returned (.string (bs (fmtI (-(N : Int))))) ∧ Below W.heap.size W w' := by
  have HE : Hid (fmtI (-(N : Int)) = (dg N ++ [45]).reverse) := Lib.hid (by
    unfold fmtI
    rw [if_neg (by omega)]
    first | (rw [if_pos (by omega), List.reverse_append]; show 45 :: _ = 45 :: _; congr 3; omega) | (rw [if_neg (by omega), List.append_nil]; congr 2))
  have HLN : Hid ((dg N).length ≤ 20) := Lib.hid (dg_len 20 N (by omega))
  have HN1 : Hid (0 < (dg N).length) := Lib.hid (by rw [dg_pos hN0]; simp)
  have hnz : (-(N : Int) == (0 : Int)) = false := by rw [beq_eq_false_iff_ne]; omega
  have hN1 : 0 < N := by omega
  have hN2 : decide (0 < N) = true := decide_eq_true hN1
  skip
  have ho0 := OwnB.made W W.heap.size (Nat.le_refl _)
  have hbo : Below W.heap.size W (W.alloc (.cells #[] 5)) := (Below.refl _ _).alloc (Nat.le_refl _) _
  go_enter Try.func28, Try.ntmps28
  go_wp2_with fail
  generalize W.alloc (.cells #[] 5) = w0 at *
  go_loopw [3, 4] (fun o nv w9 => ∃ (m : Nat) (d : List UInt8), m ≤ N ∧ nv = .int .i64 (-(m : Int)) ∧ OwnB w9 W.heap.size o d ∧ d ++ dg m = dg N ∧ Below W.heap.size W w9) (fun _ nv _ => (intOf nv).natAbs)
  case atStart => exact ⟨N, [], Nat.le_refl _, rfl, ho0, rfl, hbo⟩
  case round =>
    obtain ⟨m, d, hm, rfl, ho, hd, hb⟩ := hrel
    have hbz := hb.size
    have HO := Lib.hid ho
    have hdl : d.length ≤ 20 := by have h1 := HLN.out; rw [← hd, List.length_append] at h1; omega
    have HD := Lib.hid hd
    clear hd ho ho0 hbo
    by_cases hm0 : m = 0
    · subst hm0
      have HF : Hid (d = dg N) := Lib.hid (by have := HD.out; first | rwa [dg_zero, List.append_nil] at this | rwa [HMZ.out, dg_zero, List.append_nil] at this)
      have hd1 : 0 < d.length := by rw [HF.out]; exact HN1.out
      go_wp2_with (at_builtin; refine appB rfl (.tmp 30) (.tmp 31) rfl rfl HO.out 45 _ (by simp [byteC]) rfl (by omega) hbz ?_; intro v' w5 h5 k5; obtain ⟨gz, cz, rfl, hgz1, hgz2, hx1, hx2⟩ := h5.form (by simp); clear hx1 hx2)
      have b5 := hb.trans (k5.setOwn HO.out (Nat.le_refl _) hbz)
      have hZL : (d ++ [45]).length = (d.length + 1) := by simp
      have h6 := h5
      rw [hZL] at h6
      have HZ := Lib.hid h6
      have HZL := Lib.hid hZL
      have HE2 : Hid (fmtI (-(N : Int)) = (d ++ [45]).reverse) := Lib.hid (by rw [HE.out, HF.out])
      have hn21 : (d.length + 1) ≤ 21 := by omega
      have hn1 : 0 < (d.length + 1) := by omega
      clear h5 h6 hZL HE HF
      go_loopw [6, 7] (fun iv jv w9 => ∃ i j : Nat, i + j + 1 = (d.length + 1) ∧ i ≤ j + 1 ∧ iv = .int .i64 i ∧ jv = .int .i64 j ∧ OwnB w9 W.heap.size (.slice (some ⟨gz, 0, none⟩) (d.length + 1) cz) (revTo (d ++ [45]) i j) ∧ Below W.heap.size W w9) (fun iv _ _ => (d.length + 1) - (intOf iv).toNat)
      case atStart => exact ⟨0, (d.length + 1) - 1, by omega, by omega, rfl, by show Value.int _ _ = Value.int _ _; first | rfl | (congr 1; omega), by rw [revTo_start (d ++ [45]) (by rw [HZL.out]; omega)]; exact HZ.out, b5⟩
      case round =>
        obtain ⟨i, j, hij, hij2, rfl, rfl, ho, hb6⟩ := hrel
        have hoz := ho
        have hnzz := HZL.out
        have hrl := revTo_length (d ++ [45]) i j
        rw [← hnzz, ← hrl] at hoz
        obtain ⟨g', c', he', hg1, hg2, hcell, hfr⟩ := hoz.form (by omega)
        rw [hrl, hnzz] at he'
        simp only [Value.slice.injEq, Option.some.injEq, Addr.mk.injEq, true_and, and_true] at he'
        obtain ⟨rfl, rfl⟩ := he'
        by_cases hlt : i < j
        · have hci := hcell i _ (revTo_get (Nat.le_refl _) (by omega) (by omega))
          have hcj := hcell j _ (revTo_get (by omega) (Nat.le_refl _) (by omega))
          have hst := (OwnB.set hoz i (d ++ [45])[j])
          have hst2 := hst
          have hlen9 : (revTo (d ++ [45]) i j).length = ((revTo (d ++ [45]) i j).set i (d ++ [45])[j]).length := List.length_set.symm
          rw [hlen9] at hst2
          have hst3 := hst2.set j (d ++ [45])[i]
          rw [revTo_step (by omega) hlt] at hst3
          generalize (d ++ [45])[i] = ci at *
          generalize (d ++ [45])[j] = cj at *
          unfold byteC at hci hcj
          have hfi := hfr i
          have hfj := hfr j
          have fc : (wr.setCell ⟨gz, i, none⟩ (.int .u8 (cj.toNat : Int))).cell? ⟨gz, j, none⟩ = some (.int .u8 (cj.toNat : Int)) := by
            rw [World.cell?_setCell_other _ _ _ _ (by intro e; simp at e; try omega)]; exact hcj
          have ff : (wr.setCell ⟨gz, i, none⟩ (.int .u8 (cj.toNat : Int))).frozen? ⟨gz, j, none⟩ = false := by
            exact World.ownsRow.frozenAt hst2 j
          have hi0 : (0 : Int) ≤ (i : Int) := by omega
          have hj0 : (0 : Int) ≤ (j : Int) := by omega
          have hin : (i : Int) < (((d.length + 1) : Nat) : Int) := by omega
          have hjn : (j : Int) < (((d.length + 1) : Nat) : Int) := by omega
          have HST := Lib.hid hst3
          have HQQ2 := Lib.hid hnzz
          clear hst hst2 hst3 hlen9 hcell hfr hoz ho hrl hnzz
          go_wp2_with fail
          go_region
          clear fc ff
          go_wp2_with fail
          go_roundw
          case rel =>
            have h9 := HST.out
            first | rw [List.length_set, revTo_length, HZL.out] at h9 | rw [List.length_set, revTo_length] at h9
            exact ⟨i + 1, j - 1, by omega, by omega, by go_num, by show Value.int _ _ = Value.int _ _; first | rfl | (congr 1; omega), h9.below (Below.refl _ _).drew, ((hb6.setCell (p := ⟨gz, i, none⟩) hg2 _).setCell (p := ⟨gz, j, none⟩) hg2 _).drew⟩
          case measure => simp [intOf]; omega
        · have hbk : (convert 90 9 (.slice (some ⟨gz, 0, none⟩) (d.length + 1) cz)).run Try.prog wr = .ok (.string (bs (revTo (d ++ [45]) i j))) wr := by
            have h9 := backS (w := wr) (g := gz) (cap := cz) (l := revTo (d ++ [45]) i j) hcell
            rw [hrl, hnzz] at h9
            exact h9
          have HRV := Lib.hid (revTo_done (z := d ++ [45]) (by omega) hlt hij2)
          clear hcell hfr hoz hrl hnzz ho
          go_wp2_with fail
          go_ret
          exact ⟨by rw [HE2.out, HRV.out]; rfl, hb6⟩
    · have HS := Lib.hid (dg_step HD.out hm0)
      have tm : Int.tmod (-(m : Int)) 10 = _ := tmod_neg m
      have td : Int.tdiv (-(m : Int)) 10 = _ := tdiv_neg m
      have hcn : (UInt8.ofNat (48 + m % 10)).toNat = 48 + m % 10 := chr_nat
      have hr10 : m % 10 < 10 := Nat.mod_lt _ (by decide)
      have ht : m / 10 < m := Nat.div_lt_self (by omega) (by decide)
      generalize UInt8.ofNat (48 + m % 10) = ch at *
      generalize m % 10 = r at *
      generalize m / 10 = t at *
      have hmz : (-(m : Int) == (0 : Int)) = false := by rw [beq_eq_false_iff_ne]; omega
      have hmz2 : (-(m : Int) != (0 : Int)) = true := by rw [bne_iff_ne]; omega
      have HCN := Lib.hid hcn
      clear hcn
      by_cases hr0 : r = 0
      · subst hr0
        go_wp2_with (at_builtin; refine appB rfl (.tmp 22) (.tmp 26) rfl rfl HO.out ch _ (by simp [byteC, HCN.out]) rfl (by omega) hbz ?_; intro v' w5 h5 k5)
        go_roundw
        case rel => exact ⟨t, d ++ [ch], by omega, rfl, h5, HS.out, hb.trans (k5.setOwn HO.out (Nat.le_refl _) hbz)⟩
        case measure => simp [intOf]; omega
      · have hrn : decide (-(r : Int) < 0) = true := decide_eq_true (by omega)
        go_wp2_with (at_builtin; refine appB rfl (.tmp 22) (.tmp 26) rfl rfl HO.out ch _ (by simp [byteC, HCN.out]) rfl (by omega) hbz ?_; intro v' w5 h5 k5)
        go_roundw
        case rel => exact ⟨t, d ++ [ch], by omega, rfl, h5, HS.out, hb.trans (k5.setOwn HO.out (Nat.le_refl _) hbz)⟩
        case measure => simp [intOf]; omega

set_option maxHeartbeats 8000000 in
theorem implFi_pos (N : Nat) (W : World) (hN0 : N ≠ 0) (hN : N ≤ 9223372036854775808) (hr1 : -9223372036854775808 ≤ (N : Int)) (hr2 : (N : Int) ≤ 9223372036854775807) : Calls Try.prog 28 #[.int .i64 ((N : Int))] W fun e w' => e = .returned (.string (bs (fmtI ((N : Int))))) ∧ Below W.heap.size W w' := by
  have HE : Hid (fmtI ((N : Int)) = (dg N ++ []).reverse) := Lib.hid (by
    unfold fmtI
    rw [if_neg (by omega)]
    first | (rw [if_pos (by omega), List.reverse_append]; show 45 :: _ = 45 :: _; congr 3; omega) | (rw [if_neg (by omega), List.append_nil]; congr 2))
  have HLN : Hid ((dg N).length ≤ 20) := Lib.hid (dg_len 20 N (by omega))
  have HN1 : Hid (0 < (dg N).length) := Lib.hid (by rw [dg_pos hN0]; simp)
  have hnz : ((N : Int) == (0 : Int)) = false := by rw [beq_eq_false_iff_ne]; omega
  have hN1 : 0 < N := by omega
  have hN2 : decide (0 < N) = true := decide_eq_true hN1
  have hN3 : decide ((N : Int) < 0) = false := decide_eq_false (by omega)
  have hN4 : ¬ (N : Int) < 0 := by omega
  have ho0 := OwnB.made W W.heap.size (Nat.le_refl _)
  have hbo : Below W.heap.size W (W.alloc (.cells #[] 5)) := (Below.refl _ _).alloc (Nat.le_refl _) _
  go_enter Try.func28, Try.ntmps28
  go_wp2_with fail
  generalize W.alloc (.cells #[] 5) = w0 at *
  go_loopw [3, 4] (fun o nv w9 => ∃ (m : Nat) (d : List UInt8), m ≤ N ∧ nv = .int .i64 ((m : Int)) ∧ OwnB w9 W.heap.size o d ∧ d ++ dg m = dg N ∧ Below W.heap.size W w9) (fun _ nv _ => (intOf nv).natAbs)
  case atStart => exact ⟨N, [], Nat.le_refl _, rfl, ho0, rfl, hbo⟩
  case round =>
    obtain ⟨m, d, hm, rfl, ho, hd, hb⟩ := hrel
    have hbz := hb.size
    have HO := Lib.hid ho
    have hdl : d.length ≤ 20 := by have h1 := HLN.out; rw [← hd, List.length_append] at h1; omega
    have HD := Lib.hid hd
    clear hd ho ho0 hbo
    by_cases hm0 : m = 0
    · have HMZ := Lib.hid hm0
      have hmz : ((m : Int) == 0) = true := by rw [hm0]; rfl
      have hmz2 : ((m : Int) != 0) = false := by rw [hm0]; rfl
      clear hm0
      have HF : Hid (d = dg N) := Lib.hid (by have := HD.out; first | rwa [dg_zero, List.append_nil] at this | rwa [HMZ.out, dg_zero, List.append_nil] at this)
      have hd1 : 0 < d.length := by rw [HF.out]; exact HN1.out
      have h5 := HO.out
      obtain ⟨gz, cz, rfl, hgz1, hgz2, hx1, hx2⟩ := h5.form hd1
      clear hx1 hx2
      go_wp2_with fail
      have b5 := hb
      have hZL : (d).length = d.length := by simp
      have h6 := h5
      rw [hZL] at h6
      have HZ := Lib.hid h6
      have HZL := Lib.hid hZL
      have HE2 : Hid (fmtI ((N : Int)) = (d).reverse) := Lib.hid (by rw [HE.out, HF.out, List.append_nil])
      have hn21 : d.length ≤ 21 := by omega
      have hn1 : 0 < d.length := by omega
      clear h5 h6 hZL HE HF
      go_loopw [6, 7] (fun iv jv w9 => ∃ i j : Nat, i + j + 1 = d.length ∧ i ≤ j + 1 ∧ iv = .int .i64 i ∧ jv = .int .i64 j ∧ OwnB w9 W.heap.size (.slice (some ⟨gz, 0, none⟩) d.length cz) (revTo (d) i j) ∧ Below W.heap.size W w9) (fun iv _ _ => d.length - (intOf iv).toNat)
      case atStart => exact ⟨0, d.length - 1, by omega, by omega, rfl, by show Value.int _ _ = Value.int _ _; first | rfl | (congr 1; omega), by rw [revTo_start (d) (by rw [HZL.out]; omega)]; exact HZ.out, b5⟩
      case round =>
        obtain ⟨i, j, hij, hij2, rfl, rfl, ho, hb6⟩ := hrel
        have hoz := ho
        have hnzz := HZL.out
        have hrl := revTo_length (d) i j
        rw [← hnzz, ← hrl] at hoz
        obtain ⟨g', c', he', hg1, hg2, hcell, hfr⟩ := hoz.form (by omega)
        rw [hrl, hnzz] at he'
        simp only [Value.slice.injEq, Option.some.injEq, Addr.mk.injEq, true_and, and_true] at he'
        obtain ⟨rfl, rfl⟩ := he'
        by_cases hlt : i < j
        · have hci := hcell i _ (revTo_get (Nat.le_refl _) (by omega) (by omega))
          have hcj := hcell j _ (revTo_get (by omega) (Nat.le_refl _) (by omega))
          have hst := (OwnB.set hoz i (d)[j])
          have hst2 := hst
          have hlen9 : (revTo (d) i j).length = ((revTo (d) i j).set i (d)[j]).length := List.length_set.symm
          rw [hlen9] at hst2
          have hst3 := hst2.set j (d)[i]
          rw [revTo_step (by omega) hlt] at hst3
          generalize (d)[i] = ci at *
          generalize (d)[j] = cj at *
          unfold byteC at hci hcj
          have hfi := hfr i
          have hfj := hfr j
          have fc : (wr.setCell ⟨gz, i, none⟩ (.int .u8 (cj.toNat : Int))).cell? ⟨gz, j, none⟩ = some (.int .u8 (cj.toNat : Int)) := by
            rw [World.cell?_setCell_other _ _ _ _ (by intro e; simp at e; try omega)]; exact hcj
          have ff : (wr.setCell ⟨gz, i, none⟩ (.int .u8 (cj.toNat : Int))).frozen? ⟨gz, j, none⟩ = false := by
            exact World.ownsRow.frozenAt hst2 j
          have hi0 : (0 : Int) ≤ (i : Int) := by omega
          have hj0 : (0 : Int) ≤ (j : Int) := by omega
          have hin : (i : Int) < ((d.length : Nat) : Int) := by omega
          have hjn : (j : Int) < ((d.length : Nat) : Int) := by omega
          have HST := Lib.hid hst3
          have HQQ2 := Lib.hid hnzz
          clear hst hst2 hst3 hlen9 hcell hfr hoz ho hrl hnzz
          go_wp2_with fail
          go_region
          clear fc ff
          go_wp2_with fail
          go_roundw
          case rel =>
            have h9 := HST.out
            first | rw [List.length_set, revTo_length, HZL.out] at h9 | rw [List.length_set, revTo_length] at h9
            exact ⟨i + 1, j - 1, by omega, by omega, by go_num, by show Value.int _ _ = Value.int _ _; first | rfl | (congr 1; omega), h9.below (Below.refl _ _).drew, ((hb6.setCell (p := ⟨gz, i, none⟩) hg2 _).setCell (p := ⟨gz, j, none⟩) hg2 _).drew⟩
          case measure => simp [intOf]; omega
        · have hbk : (convert 90 9 (.slice (some ⟨gz, 0, none⟩) d.length cz)).run Try.prog wr = .ok (.string (bs (revTo (d) i j))) wr := by
            have h9 := backS (w := wr) (g := gz) (cap := cz) (l := revTo (d) i j) hcell
            rw [hrl, hnzz] at h9
            exact h9
          have HRV := Lib.hid (revTo_done (z := d) (by omega) hlt hij2)
          clear hcell hfr hoz hrl hnzz ho
          go_wp2_with fail
          go_ret
          exact ⟨by rw [HE2.out, HRV.out]; rfl, hb6⟩
    · have HS := Lib.hid (dg_step HD.out hm0)
      have tm : Int.tmod ((m : Int)) 10 = _ := tmod_pos m
      have td : Int.tdiv ((m : Int)) 10 = _ := tdiv_pos m
      have hcn : (UInt8.ofNat (48 + m % 10)).toNat = 48 + m % 10 := chr_nat
      have hr10 : m % 10 < 10 := Nat.mod_lt _ (by decide)
      have ht : m / 10 < m := Nat.div_lt_self (by omega) (by decide)
      generalize UInt8.ofNat (48 + m % 10) = ch at *
      generalize m % 10 = r at *
      generalize m / 10 = t at *
      have hmz : ((m : Int) == (0 : Int)) = false := by rw [beq_eq_false_iff_ne]; omega
      have hmz2 : ((m : Int) != (0 : Int)) = true := by rw [bne_iff_ne]; omega
      have HCN := Lib.hid hcn
      clear hcn
      by_cases hr0 : r = 0
      · subst hr0
        go_wp2_with (at_builtin; refine appB rfl (.tmp 22) (.tmp 26) rfl rfl HO.out ch _ (by simp [byteC, HCN.out]) rfl (by omega) hbz ?_; intro v' w5 h5 k5)
        go_roundw
        case rel => exact ⟨t, d ++ [ch], by omega, rfl, h5, HS.out, hb.trans (k5.setOwn HO.out (Nat.le_refl _) hbz)⟩
        case measure => simp [intOf]; omega
      · have hrn : decide ((r : Int) < 0) = false := decide_eq_false (by omega)
        go_wp2_with (at_builtin; refine appB rfl (.tmp 22) (.tmp 26) rfl rfl HO.out ch _ (by simp [byteC, HCN.out]) rfl (by omega) hbz ?_; intro v' w5 h5 k5)
        go_roundw
        case rel => exact ⟨t, d ++ [ch], by omega, rfl, h5, HS.out, hb.trans (k5.setOwn HO.out (Nat.le_refl _) hbz)⟩
        case measure => simp [intOf]; omega

theorem impl_FormatInt (n : Int) (W : World) (h1 : -9223372036854775808 ≤ n) (h2 : n ≤ 9223372036854775807) : Calls Try.prog 28 #[.int .i64 n] W fun e w' => e = .returned (.string (bs (fmtI n))) ∧ Below W.heap.size W w' := by
  by_cases h0 : n = 0
  · subst h0
    go_enter Try.func28, Try.ntmps28
    go_wp2_with fail
    go_ret
    exact ⟨rfl, Below.refl _ _⟩
  · rcases Int.lt_or_le n 0 with h | h
    · obtain ⟨N, hN⟩ : ∃ N : Nat, n = -(N : Int) := ⟨n.natAbs, by omega⟩
      subst hN
      exact implFi_neg N W (by omega) (by omega) h1 h2
    · obtain ⟨N, rfl⟩ := Int.eq_ofNat_of_zero_le h
      exact implFi_pos N W (by omega) (by omega) h1 h2
end Go.Proofs.Ytnjecekaenddiaa
