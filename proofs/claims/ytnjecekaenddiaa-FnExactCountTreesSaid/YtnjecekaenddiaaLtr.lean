/- CountTrees of the reference. No condition but sizes. -/
import Derived.Test.YtnjecekaenddiaaLdt
namespace Go.Proofs.Ytnjecekaenddiaa
open Go.RowKit Gr
set_option maxRecDepth 100000
set_option linter.unusedVariables false
set_option linter.unusedSimpArgs false

theorem toLL_succ (F : Nat → Nat → Int) (i n : Nat) : toLL F (i + 1) n = toLL F i n ++ [rowL n (F i)] := by simp [toLL, List.range_succ]
theorem rowL_succ (n : Nat) (f : Nat → Int) : rowL (n + 1) f = rowL n f ++ [f n] := by simp [rowL, List.range_succ]
theorem trees_no {p : Int} {l : List BarT} (h : isGraphB (p, l) = false) : treesN (p, l) = -1 := by unfold treesN; rw [h]; rfl
theorem trees_big {p : Int} {l : List BarT} (h : 6 < p) : treesN (p, l) = -1 := by
  unfold treesN
  rw [show decide ((p, l).1 ≤ 6) = false from decide_eq_false (by show ¬ p ≤ 6; omega), Bool.and_false]; rfl
theorem trees_yes {P : Nat} {l : List BarT} (h : isGraphB ((P : Int), l) = true) (h6 : P ≤ 6) : treesN ((P : Int), l) = wrap64 (detL (P - 1) (lapW P l)) := by
  unfold treesN
  rw [h, show decide (((P : Int), l).1 ≤ 6) = true from decide_eq_true (by show (P : Int) ≤ 6; omega)]
  rfl

set_option maxHeartbeats 8000000 in
theorem specCtr_at (W : World) (p : Int) (a : Option Addr) (cap : Nat) (l : List BarT) (h : BarsAt W a l.length l) (hs : l.length ≤ 1048576) : Calls Try.prog 22 #[.agg #[.int .i64 p, .slice a l.length cap]] W fun e w' => e = .returned (.int .i64 (treesN (p, l))) ∧ Below W.heap.size W w' := by
  have hwd := @Wd.cells
  have HGr : Hid (IsGraph W (.agg #[.int .i64 p, .slice a l.length cap]) (p, l)) := Lib.hid ⟨a, cap, rfl, h⟩
  have H1 := Lib.hid h
  clear h
  have hsz : szGraph (p, l) ≤ 1048576 := hs
  have hsz2 : szGraph (p, l) ≤ 1099511627776 := Nat.le_trans hsz (by decide)
  have B : Below W.heap.size W (W.alloc (.cells #[.int .i64 p, .slice a l.length cap] 39)) := (Below.refl _ _).alloc (Nat.le_refl _) _
  have BG : Hid (BoxGr (W.alloc (.cells #[.int .i64 p, .slice a l.length cap] 39)) W.heap.size p a l.length cap) := Lib.hid (BoxGr.at rfl)
  cases hg : isGraphB (p, l)
  · have HE := Lib.hid (trees_no hg)
    go_enter Try.func22, Try.ntmps22
    go_wp2_with fail
    generalize (W.alloc (.cells #[.int .i64 p, .slice a l.length cap] 39)) = u at *
    obtain ⟨zBG, fBG0, fBG1⟩ := BG.out
    refine (spec_IsGraph_is _ _ (p, l) (HGr.out.below B) hsz2).mono ?_
    rintro e w1 ⟨rfl, b⟩
    rw [hg]
    go_wp2_with fail
    go_ret
    exact ⟨by rw [HE.out]; rfl, B.step b⟩
  by_cases h6 : 6 < p
  · have HE := Lib.hid (trees_big (l := l) h6)
    have h6d : decide (6 < p) = true := decide_eq_true h6
    go_enter Try.func22, Try.ntmps22
    go_wp2_with fail
    generalize (W.alloc (.cells #[.int .i64 p, .slice a l.length cap] 39)) = u at *
    obtain ⟨zBG, fBG0, fBG1⟩ := BG.out
    refine (spec_IsGraph_is _ _ (p, l) (HGr.out.below B) hsz2).mono ?_
    rintro e w1 ⟨rfl, b⟩
    have BG1 := Lib.hid (BG.out.below b)
    clear zBG fBG0 fBG1
    obtain ⟨zBG, fBG0, fBG1⟩ := BG1.out
    rw [hg]
    go_wp2_with fail
    go_ret
    exact ⟨by rw [HE.out]; rfl, B.step b⟩
  obtain ⟨⟨hp1, hp2⟩, hl24⟩ := isGraphB_bd hg
  have HBR : Hid (∀ x ∈ l, 0 ≤ x.1 ∧ x.1 < x.2) := Lib.hid fun x hx => by
    obtain ⟨i, hi⟩ := List.getElem?_of_mem hx
    have := isGraphB_bar hg hi
    omega
  obtain ⟨P, rfl⟩ := Int.eq_ofNat_of_zero_le (show 0 ≤ p by omega)
  have hP6 : P ≤ 6 := by omega
  have hP1 : 1 ≤ P := by omega
  have HE := Lib.hid (trees_yes hg hP6)
  have h6d : decide (6 < (P : Int)) = false := decide_eq_false h6
  have h6n : decide (6 < P) = false := decide_eq_false (by omega)
  clear h6 hp1 hp2
  go_enter Try.func22, Try.ntmps22
  go_wp2_with fail
  generalize hu : (W.alloc (.cells #[.int .i64 (P : Int), .slice a l.length cap] 39)) = u at *
  clear hu
  obtain ⟨zBG, fBG0, fBG1⟩ := BG.out
  refine (spec_IsGraph_is _ _ ((P : Int), l) (HGr.out.below B) hsz2).mono ?_
  rintro e w1 ⟨rfl, b⟩
  replace B := B.step b
  clear zBG fBG0 fBG1
  replace BG := Lib.hid (BG.out.below b)
  clear b
  obtain ⟨zBG, fBG0, fBG1⟩ := BG.out
  rw [hg]
  clear hg
  have hr0 := made_ints2 w1
  have hrb : Below w1.heap.size w1 (w1.alloc (.cells #[] 82)) := (Below.refl _ _).alloc (Nat.le_refl _) _
  have HR0 := Lib.hid hr0
  clear hr0
  go_wp2_with fail
  clear zBG fBG0 fBG1
  generalize w1.alloc (.cells #[] 82) = w3 at *
  go_loopw [3, 4] (fun o iv w9 => ∃ i : Nat, i ≤ P ∧ iv = .int .i64 i ∧ OwnIntss w9 w1.heap.size o (toLL (lapTo l l.length) i P) ∧ Below w1.heap.size w1 w9) (fun _ iv _ => P - (intOf iv).toNat)
  case atStart => exact ⟨0, Nat.zero_le _, rfl, HR0.out, hrb⟩
  case round =>
    clear hrb HR0
    obtain ⟨i, hi, rfl, ho, hb⟩ := hrel
    have HO := Lib.hid ho
    clear ho
    have hbz := hb.size
    have BG1 := Lib.hid (BG.out.below hb)
    obtain ⟨zBG, fBG0, fBG1⟩ := BG1.out
    by_cases hil : i < P
    · have hili : (i : Int) < (P : Int) := by omega
      have hr0 := OwnInts.made wr wr.heap.size (Nat.le_refl _)
      have hrb : Below wr.heap.size wr (wr.alloc (.cells #[] 3)) := (Below.refl _ _).alloc (Nat.le_refl _) _
      have HR0 := Lib.hid hr0
      clear hr0
      go_wp2_with fail
      clear zBG fBG0 fBG1
      obtain ⟨wo, hwo⟩ : ∃ wo, wo = wr := ⟨_, rfl⟩
      subst hwo
      generalize wo.alloc (.cells #[] 3) = w4 at *
      go_loopw [5, 6] (fun o jv w9 => ∃ j : Nat, j ≤ P ∧ jv = .int .i64 j ∧ OwnInts w9 wo.heap.size o (rowL j (lapTo l l.length i)) ∧ Below wo.heap.size wo w9) (fun _ jv _ => P - (intOf jv).toNat)
      case atStart => exact ⟨0, Nat.zero_le _, rfl, HR0.out, hrb⟩
      case round =>
        clear hrb HR0
        obtain ⟨j, hj, rfl, hor, hb4⟩ := hrel
        have HU := Lib.hid hor
        clear hor
        have hb4z := hb4.size
        have BG2 := Lib.hid (BG1.out.below hb4)
        have HRL : Hid ((rowL j (lapTo l l.length i)).length < 17592186044416) := Lib.hid (by rw [rowL_length]; omega)
        have HRS := Lib.hid (rowL_succ j (lapTo l l.length i))
        have B5 := B.step (hb.step hb4)
        obtain ⟨zBG, fBG0, fBG1⟩ := BG2.out
        by_cases hjl : j < P
        · have hjli : (j : Int) < (P : Int) := by omega
          by_cases hij : i = j
          · have hijb : ((i : Int) == (j : Int)) = true := by rw [hij]; simp
            have HEN : Hid (lapTo l l.length i j = degTo l (i : Int) l.length) := Lib.hid (by rw [← hij]; exact lap_diag HBR.out i _)
            clear hij
            go_wp2_with fail
            refine (specDeg_at _ _ _ _ _ (H1.out.below B5) hs _).mono ?_
            rintro e w5 ⟨rfl, b5⟩
            rw [← HEN.out]
            have hbe := hb4.step b5
            have hbez := hbe.size
            have HU5 := Lib.hid (HU.out.below b5)
            go_wp2_with (at_builtin; refine app1 rfl (.tmp 32) (.tmp 36) rfl rfl HU5.out _ rfl HRL.out hbez ?_; intro v' w6 h6 k6)
            go_roundw
            case rel => exact ⟨j + 1, by omega, by go_num, by rw [HRS.out]; exact h6, hbe.trans (k6.setOwn HU5.out (Nat.le_refl _) hbez)⟩
            case measure => simp [intOf]; omega
          · have hijb : ((i : Int) == (j : Int)) = false := by rw [beq_eq_false_iff_ne]; omega
            have HEN : Hid (lapTo l l.length i j = -cntTo l (i : Int) (j : Int) l.length) := Lib.hid (lap_off HBR.out hij _)
            have hcb := cntTo_bd l (i : Int) (j : Int) l.length
            clear hij
            go_wp2_with fail
            refine (specCnt_at _ _ _ _ _ (H1.out.below B5) hs _ _).mono ?_
            rintro e w5 ⟨rfl, b5⟩
            have hbe := hb4.step b5
            have hbez := hbe.size
            have HU5 := Lib.hid (HU.out.below b5)
            generalize cntTo l (i : Int) (j : Int) l.length = C at *
            have HRS2 : Hid (rowL (j + 1) (lapTo l l.length i) = rowL j (lapTo l l.length i) ++ [-C]) := Lib.hid (by rw [HRS.out, HEN.out])
            go_wp2_with (at_builtin; refine app1 rfl (.tmp 38) (.tmp 44) rfl rfl HU5.out _ rfl HRL.out hbez ?_; intro v' w6 h6 k6)
            go_roundw
            case rel => exact ⟨j + 1, by omega, by go_num, by rw [HRS2.out]; exact h6, hbe.trans (k6.setOwn HU5.out (Nat.le_refl _) hbez)⟩
            case measure => simp [intOf]; omega
        · obtain rfl : j = P := by omega
          have HTS := Lib.hid (toLL_succ (lapTo l l.length) i j)
          obtain ⟨au, cu, rfl, hiu⟩ := HU.out.form
          clear hiu
          obtain ⟨vs, hvs, hrs⟩ := HO.out
          have HV := Lib.hid hvs
          have HVR := Lib.hid hrs
          have HB4 := Lib.hid hb4
          have HLK : Hid ((toLL (lapTo l l.length) i j).length < 1099511627776) := Lib.hid (by rw [toLL_length]; omega)
          clear hvs hrs
          go_wp2_with (at_builtin; refine appRow (by rfl) (.tmp 46) (.tmp 48) (by rfl) (by rfl) (ownsRow_base HU.out hbz) HB4.out HV.out HVR.out (fun q hq => (HU.out.lt q hq).1) (by rfl) HLK.out (by omega) ?_; intro v' w8 h8 k8)
          go_roundw
          case rel =>
            refine ⟨i + 1, by omega, by go_num, by rw [HTS.out]; exact h8, hb.trans ?_⟩
            have hvs := HV.out
            exact (HB4.out.mono hbz).trans (k8.below (by omega) fun z h1 h2 => by
              have := (World.ownsRow.lt hvs z h2.symm).1
              omega)
          case measure => simp [intOf]; omega
    · obtain rfl : i = P := by omega
      obtain ⟨al, cl, rfl, hil2⟩ := HO.out.form
      have hll : (toLL (lapTo l l.length) i i).length = i := toLL_length _ _ _
      have B5 := B.step hb
      have HCC : Hid (Calls Try.prog 53 #[.slice al i cl, .int .i64 ((i : Int) - 1)] wr fun e w' => e = .returned (.int .i64 (wrap64 (detL (i - 1) (lapW i l)))) ∧ Below wr.heap.size wr w') := Lib.hid (by
        have h9 := l8Det_at (i - 1) (by omega) (lapW i l) wr al cl (by unfold lapW; rw [toLL_length]; omega) (by unfold lapW; rw [toLL_length]; omega) (fun r hr => by
          unfold lapW toLL at hr
          obtain ⟨q, _, rfl⟩ := List.mem_map.1 hr
          rw [rowL_length]; omega) hil2
        rw [show (lapW i l).length = i from toLL_length _ _ _, show (((i - 1 : Nat)) : Int) = (i : Int) - 1 by omega] at h9
        exact h9)
      simp only [hll]
      clear hll hil2
      go_wp2_with fail
      refine HCC.out.mono ?_
      rintro e w7 ⟨rfl, b7⟩
      go_wp2_with fail
      go_ret
      exact ⟨by rw [HE.out]; rfl, B5.step b7⟩
theorem spec_CountTrees (W : World) (v : Value) (g : GraphT) (h : IsGraph W v g) (hn : szGraph g ≤ 1048576) : Calls Try.prog 22 #[v] W fun e w' => e = .returned (.int .i64 (treesN g)) ∧ Below W.heap.size W w' := by
  obtain ⟨p, l⟩ := g
  obtain ⟨a, cap, rfl, hi⟩ := h
  exact specCtr_at _ _ _ _ _ hi hn
end Go.Proofs.Ytnjecekaenddiaa
