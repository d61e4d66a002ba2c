/- RankOfSet, IsIndependent (for 1, 1) of the reference. No condition but sizes. -/
import Derived.Test.YtfbmpkdjhhcnpaaGreatTrP38
import Derived.Deep.QuietTactic
import Derived.BigQuiet
import Derived.Test.YtfbmpkdjhhcnpaaGreatTrP34
namespace Go.Proofs.YtfbmpkdjhhcnpaaGreat
open Go.RowKit
set_option maxRecDepth 100000
set_option linter.unusedVariables false
set_option linter.unusedSimpArgs false
set_option maxHeartbeats 8000000 in
theorem specRset_at (W : World) (p : Int) (a : Option Addr) (cap : Nat) (l : List BarT) (h : BarsAt W a l.length l) (hs : l.length ≤ 1048576) (va : Option Addr) (n vcap : Nat) (s : List Int) (hv : IntsAt W va n s) (hvn : n ≤ 1048576) (k l0 : Int) :
    Calls Tryz.prog 72 #[.agg #[.int .i64 p, .slice a l.length cap], .int .i64 k, .int .i64 l0, .slice va n vcap] W fun e w' => e = .returned (.int .i64 (if isGraphB (p, l) = true then rankG (p, keepL l s) k l0 else -1)) ∧ Below W.heap.size W w' := by
  cases hg : isGraphB (p, l)
  · have hwd := @Wd.cells
    have HGr : Hid (IsGraph W (.agg #[.int .i64 p, .slice a l.length cap]) (p, l)) := Lib.hid ⟨a, cap, rfl, h⟩
    have H1 := Lib.hid h
    clear h
    have hsz : szGraph (p, l) ≤ 1048576 := hs
    have hsz2 : szGraph (p, l) ≤ 1099511627776 := Nat.le_trans hsz (by decide)
    have B : Below W.heap.size W (W.alloc (.cells #[.int .i64 p, .slice a l.length cap] 26)) := (Below.refl _ _).alloc (Nat.le_refl _) _
    have BG : Hid (BoxGr (W.alloc (.cells #[.int .i64 p, .slice a l.length cap] 26)) W.heap.size p a l.length cap) := Lib.hid (BoxGr.at rfl)
    have HIG : Hid (∀ w9, Below W.heap.size W w9 → Calls Tryz.prog 51 #[.agg #[.int .i64 p, .slice a l.length cap]] w9 fun e w' => e = .returned (.bool false) ∧ Below w9.heap.size w9 w') := Lib.hid fun w9 b => by
      have := specIsGraph_at w9 p a cap l (H1.out.below b) (by omega)
      rw [hg] at this
      exact this
    clear hg
    go_enter Tryz.func72, Tryz.ntmps72
    go_wp2_with fail
    generalize (W.alloc (.cells #[.int .i64 p, .slice a l.length cap] 26)) = u at *
    obtain ⟨zBG, fBG0, fBG1⟩ := BG.out
    go_wp2_with fail
    refine (HIG.out _ B).mono ?_
    rintro e w1 ⟨rfl, b⟩
    have B2 := B.step b
    go_wp2_with fail
    go_ret
    exact ⟨rfl, B2⟩
  · have hwd := @Wd.cells
    have HGr : Hid (IsGraph W (.agg #[.int .i64 p, .slice a l.length cap]) (p, l)) := Lib.hid ⟨a, cap, rfl, h⟩
    have H1 := Lib.hid h
    clear h
    have hsz : szGraph (p, l) ≤ 1048576 := hs
    have hsz2 : szGraph (p, l) ≤ 1099511627776 := Nat.le_trans hsz (by decide)
    have B : Below W.heap.size W (W.alloc (.cells #[.int .i64 p, .slice a l.length cap] 26)) := (Below.refl _ _).alloc (Nat.le_refl _) _
    have BG : Hid (BoxGr (W.alloc (.cells #[.int .i64 p, .slice a l.length cap] 26)) W.heap.size p a l.length cap) := Lib.hid (BoxGr.at rfl)
    have HIG : Hid (∀ w9, Below W.heap.size W w9 → Calls Tryz.prog 51 #[.agg #[.int .i64 p, .slice a l.length cap]] w9 fun e w' => e = .returned (.bool true) ∧ Below w9.heap.size w9 w') := Lib.hid fun w9 b => by
      have := specIsGraph_at w9 p a cap l (H1.out.below b) (by omega)
      rw [hg] at this
      exact this
    have HOB : Hid (∀ w9, Below W.heap.size W w9 → Calls Tryz.prog 113 #[.agg #[.int .i64 p, .slice a l.length cap], .slice va n vcap] w9 (RetGraph w9 (p, keepL l s))) := Lib.hid fun w9 b => specOnly_at w9 p a cap l (H1.out.below b) (by omega) va n vcap s (hv.below b) hvn
    obtain ⟨K, hK⟩ : ∃ K, K = keepL l s := ⟨_, rfl⟩
    have hkl : K.length ≤ l.length := by rw [hK]; exact (keepL_sub l s).length_le
    rw [← hK] at HOB ⊢
    clear hg hv hK
    go_enter Tryz.func72, Tryz.ntmps72
    go_wp2_with fail
    generalize (W.alloc (.cells #[.int .i64 p, .slice a l.length cap] 26)) = u at *
    obtain ⟨zBG, fBG0, fBG1⟩ := BG.out
    go_wp2_with fail
    refine (HIG.out _ B).mono ?_
    rintro e u2 ⟨rfl, b⟩
    replace B := B.step b
    replace BG := Lib.hid (BG.out.below b)
    clear b
    clear zBG fBG0 fBG1
    obtain ⟨zBG, fBG0, fBG1⟩ := BG.out
    go_wp2_with fail
    refine (HOB.out _ B).mono ?_
    rintro e w2 ⟨v, rfl, ho, b2⟩
    obtain ⟨ag, cg, rfl, hbk⟩ := ho.form
    have HRK : Hid (Calls Tryz.prog 81 #[.agg #[.int .i64 p, .slice ag K.length cg], .int .i64 k, .int .i64 l0] w2 fun e w' => e = .returned (.int .i64 (rankG (p, K) k l0)) ∧ Below w2.heap.size w2 w') := Lib.hid (specRank_at w2 p ag cg K hbk (by omega) k l0)
    replace B := B.step b2
    clear zBG fBG0 fBG1
    clear b2 ho hbk
    go_wp2_with fail
    refine HRK.out.mono ?_
    rintro e w3 ⟨rfl, b3⟩
    replace B := B.step b3
    go_wp2_with fail
    go_ret
    exact ⟨rfl, B⟩
theorem frst_rank {p : Int} {l : List BarT} {s : List Int} (h : setB (p, l) s = true) (hg : isGraphB (p, l) = true) : frstB (p, l) s = ((if isGraphB (p, l) = true then rankG (p, keepL l s) 1 1 else -1) == (s.length : Int)) := by
  have hb := isGraphB_bd hg
  obtain ⟨P, rfl⟩ : ∃ P : Nat, p = P := ⟨p.toNat, by omega⟩
  have hr : runOk ((P : Int), keepL l s) 1 1 = true := by
    unfold runOk; rw [isGraphB_sub hg (keepL_sub l s)]; decide
  rw [if_pos hg, forest_play h (by omega)]
  unfold rankG
  rw [if_pos hr, keepL_set h]
  show decide ((playP P (barsS l s) 1 1).2.2.length = s.length) = (((playP P (barsS l s) 1 1).2.2.length : Int) == (s.length : Int))
  rw [Bool.eq_iff_iff, decide_eq_true_iff, beq_iff_eq]
  omega
set_option maxHeartbeats 8000000 in
theorem specIndep_at (W : World) (p : Int) (a : Option Addr) (cap : Nat) (l : List BarT) (h : BarsAt W a l.length l) (hs : l.length ≤ 1048576) (va : Option Addr) (n vcap : Nat) (s : List Int) (hv : IntsAt W va n s) (hvn : n ≤ 1048576) :
    Calls Tryz.prog 23 #[.agg #[.int .i64 p, .slice a l.length cap], .int .i64 1, .int .i64 1, .slice va n vcap] W fun e w' => e = .returned (.bool (frstB (p, l) s)) ∧ Below W.heap.size W w' := by
  cases hst : setB (p, l) s
  · have HE := Lib.hid (show frstB (p, l) s = false by unfold frstB; rw [hst]; rfl)
    have hwd := @Wd.cells
    have HGr : Hid (IsGraph W (.agg #[.int .i64 p, .slice a l.length cap]) (p, l)) := Lib.hid ⟨a, cap, rfl, h⟩
    have H1 := Lib.hid h
    clear h
    have hsz : szGraph (p, l) ≤ 1048576 := hs
    have hsz2 : szGraph (p, l) ≤ 1099511627776 := Nat.le_trans hsz (by decide)
    have B : Below W.heap.size W (W.alloc (.cells #[.int .i64 p, .slice a l.length cap] 26)) := (Below.refl _ _).alloc (Nat.le_refl _) _
    have BG : Hid (BoxGr (W.alloc (.cells #[.int .i64 p, .slice a l.length cap] 26)) W.heap.size p a l.length cap) := Lib.hid (BoxGr.at rfl)
    have HLS : Hid (∀ w9, Below W.heap.size W w9 → Calls Tryz.prog 68 #[.agg #[.int .i64 p, .slice a l.length cap], .slice va n vcap] w9 fun e w' => e = .returned (.bool false) ∧ Below w9.heap.size w9 w') := Lib.hid fun w9 b => by
      have := l5Set_at w9 p a cap l (H1.out.below b) (by omega) va n vcap s (hv.below b) hvn
      rw [hst] at this
      exact this
    clear hst hv
    go_enter Tryz.func23, Tryz.ntmps23
    go_wp2_with fail
    generalize (W.alloc (.cells #[.int .i64 p, .slice a l.length cap] 26)) = u at *
    obtain ⟨zBG, fBG0, fBG1⟩ := BG.out
    go_wp2_with fail
    refine (HLS.out _ B).mono ?_
    rintro e w1 ⟨rfl, b⟩
    have B2 := B.step b
    go_wp2_with fail
    go_ret
    rw [HE.out]
    exact ⟨rfl, B2⟩
  · have hg : isGraphB (p, l) = true := by
      unfold setB at hst; rw [Bool.and_eq_true] at hst; exact hst.2
    have HE := Lib.hid (frst_rank hst hg)
    have hwd := @Wd.cells
    have HGr : Hid (IsGraph W (.agg #[.int .i64 p, .slice a l.length cap]) (p, l)) := Lib.hid ⟨a, cap, rfl, h⟩
    have H1 := Lib.hid h
    clear h
    have hsz : szGraph (p, l) ≤ 1048576 := hs
    have hsz2 : szGraph (p, l) ≤ 1099511627776 := Nat.le_trans hsz (by decide)
    have B : Below W.heap.size W (W.alloc (.cells #[.int .i64 p, .slice a l.length cap] 26)) := (Below.refl _ _).alloc (Nat.le_refl _) _
    have BG : Hid (BoxGr (W.alloc (.cells #[.int .i64 p, .slice a l.length cap] 26)) W.heap.size p a l.length cap) := Lib.hid (BoxGr.at rfl)
    have HLS : Hid (∀ w9, Below W.heap.size W w9 → Calls Tryz.prog 68 #[.agg #[.int .i64 p, .slice a l.length cap], .slice va n vcap] w9 fun e w' => e = .returned (.bool true) ∧ Below w9.heap.size w9 w') := Lib.hid fun w9 b => by
      have := l5Set_at w9 p a cap l (H1.out.below b) (by omega) va n vcap s (hv.below b) hvn
      rw [hst] at this
      exact this
    have HRG : Hid (∀ w9, Calls Tryz.prog 71 #[.int .i64 1, .int .i64 1] w9 fun e w' => e = .returned (.bool true) ∧ Below w9.heap.size w9 w') := Lib.hid fun w9 => specRange_any 1 1 w9
    obtain ⟨R, hR⟩ : ∃ R, R = (if isGraphB (p, l) = true then rankG (p, keepL l s) 1 1 else -1) := ⟨_, rfl⟩
    have HRS : Hid (∀ w9, Below W.heap.size W w9 → Calls Tryz.prog 72 #[.agg #[.int .i64 p, .slice a l.length cap], .int .i64 1, .int .i64 1, .slice va n vcap] w9 fun e w' => e = .returned (.int .i64 R) ∧ Below w9.heap.size w9 w') := Lib.hid fun w9 b => by
      have := specRset_at w9 p a cap l (H1.out.below b) (by omega) va n vcap s (hv.below b) hvn 1 1
      rw [← hR] at this
      exact this
    have hn := hv.1
    rw [← hR] at HE
    clear hst hv hg hR
    go_enter Tryz.func23, Tryz.ntmps23
    go_wp2_with fail
    generalize (W.alloc (.cells #[.int .i64 p, .slice a l.length cap] 26)) = u at *
    obtain ⟨zBG, fBG0, fBG1⟩ := BG.out
    go_wp2_with fail
    refine (HLS.out _ B).mono ?_
    rintro e w1 ⟨rfl, b⟩
    replace B := B.step b
    replace BG := Lib.hid (BG.out.below b)
    clear zBG fBG0 fBG1
    clear b
    go_wp2_with fail
    refine (HRG.out _).mono ?_
    rintro e w2 ⟨rfl, b⟩
    replace B := B.step b
    replace BG := Lib.hid (BG.out.below b)
    clear b
    obtain ⟨zBG, fBG0, fBG1⟩ := BG.out
    go_wp2_with fail
    refine (HRS.out _ B).mono ?_
    rintro e w3 ⟨rfl, b⟩
    have B2 := B.step b
    clear zBG fBG0 fBG1
    go_wp2_with fail
    go_ret
    rw [HE.out, hn]
    exact ⟨rfl, B2⟩
end Go.Proofs.YtfbmpkdjhhcnpaaGreat

namespace Go.Proofs.YtfbmpkdjhhcnpaaGreat
open Go.RowKit
set_option maxRecDepth 100000
set_option linter.unusedVariables false
set_option linter.unusedSimpArgs false

set_option maxHeartbeats 4000000 in
theorem specApt_at (W : World) (p : Int) (a : Option Addr) (cap : Nat) (l : List BarT) (h : BarsAt W a l.length l) (hs : l.length ≤ 1048576) (k : Int) (la : Option Addr) (n lcap : Nat) (L : List (List Int)) (hL : IntssAt W la n L) (hn : n ≤ 1048576) (hsl : sumLen L ≤ 1048576) :
    Calls Tryz.prog 24 #[.agg #[.int .i64 p, .slice a l.length cap], .int .i64 k, .slice la n lcap] W fun e w' => e = .returned (.bool (packB 3 (p, l) k L)) ∧ Below W.heap.size W w' := by
  have hwd := @Wd.cells
  have HGr : Hid (IsGraph W (.agg #[.int .i64 p, .slice a l.length cap]) (p, l)) := Lib.hid ⟨a, cap, rfl, h⟩
  have H1 := Lib.hid h
  clear h
  have hsz : szGraph (p, l) ≤ 1048576 := hs
  have hsz2 : szGraph (p, l) ≤ 1099511627776 := Nat.le_trans hsz (by decide)
  have B : Below W.heap.size W (W.alloc (.cells #[.int .i64 p, .slice a l.length cap] 26)) := (Below.refl _ _).alloc (Nat.le_refl _) _
  have BG : Hid (BoxGr (W.alloc (.cells #[.int .i64 p, .slice a l.length cap] 26)) W.heap.size p a l.length cap) := Lib.hid (BoxGr.at rfl)
  have hs1 := hs
  have HL := Lib.hid (hL.below B)
  have hLn := hL.1
  have HLN := Lib.hid hLn
  clear hL hLn
  have HMX : Hid (∀ (i : Nat) (s : List Int), L[i]? = some s → (L.take i).flatten.length + s.length ≤ 1048576) := Lib.hid fun i s hs => by
    have h1 := sumLen_mem hs
    rw [flat_len]; omega
  go_enter Tryz.func24, Tryz.ntmps24
  go_wp2_with fail
  generalize hu : (W.alloc (.cells #[.int .i64 p, .slice a l.length cap] 26)) = u at *
  have HUS : Hid (u.heap.size = W.heap.size + 1) := Lib.hid (by rw [← hu]; simp)
  clear hu
  have hr0 := OwnInts.made u u.heap.size (Nat.le_refl _)
  have hrb : Below u.heap.size u (u.alloc (.cells #[] 3)) := (Below.refl _ _).alloc (Nat.le_refl _) _
  have HR0 := Lib.hid hr0
  clear hr0
  generalize u.alloc (.cells #[] 3) = w0 at *
  go_loopw [7, 8] (fun o iv w9 => ∃ i : Nat, i ≤ n ∧ iv = .int .i64 i ∧ OwnInts w9 u.heap.size o (L.take i).flatten ∧ (∀ s ∈ L.take i, sptB (p, l) s = true) ∧ (L.take i).flatten.Nodup ∧ Below u.heap.size u w9) (fun _ iv _ => n - (intOf iv).toNat)
  case atStart => exact ⟨0, Nat.zero_le _, rfl, by rw [← HUS.out]; simpa using HR0.out, fun s hs => by simp at hs, by simp, hrb⟩
  case round =>
    clear hrb HR0
    obtain ⟨i, hi, rfl, ho, hsp0, hnd, hb⟩ := hrel
    have HO := Lib.hid ho
    have HSP := Lib.hid hsp0
    have HND := Lib.hid hnd
    clear ho hsp0 hnd
    have hbz := hb.size
    have B1 := B.step hb
    have BG1 := Lib.hid (BG.out.below hb)
    obtain ⟨zBG, fBG0, fBG1⟩ := BG1.out
    by_cases hil : i < n
    · have hili : (i : Int) < (n : Int) := by omega
      have hi0 : (0 : Int) ≤ (i : Int) := by omega
      obtain ⟨bm, om, ar, cr, s, rfl, hbm, hs, hcm, his⟩ := HL.out.2 i hil
      have hmx := HMX.out i s hs
      have HS := Lib.hid hs
      have HIS := Lib.hid his
      clear hs his
      have hcm1 := ((bcell hb).1 _ (om + i) hbm).trans hcm
      have hbm1 : bm < wr.heap.size := by omega
      have HCC : Hid (∀ w9, Below wr.heap.size wr w9 → Calls Tryz.prog 16 #[.agg #[.int .i64 p, .slice a l.length cap], .slice ar s.length cr] w9 fun e w' => e = .returned (.bool (sptB (p, l) s)) ∧ Below w9.heap.size w9 w') := Lib.hid fun w9 b9 => specSpt_at w9 p a cap l (H1.out.below (B1.step b9)) hs1 _ _ _ _ (HIS.out.below (hb.step b9)) (by omega)
      cases hsp : sptB (p, l) s
      · have HE := Lib.hid (ret_bool (pack_span (mk := 3) (k := k) HS.out hsp))
        rw [hsp] at HCC
        clear hsp
        go_wp2_with fail
        refine wp_region_wd (by kernel_rfl) (by kernel_rfl) ?_
        repeat (go_big_quiet_step ((first | (go_at_call 16; exact Calls.wd_of (HCC.out _ (Wd.h _))))))
        refine wpQuiet_nil ?_
        intro n1
        have b9 := n1.h
        go_wp2_with fail
        go_ret
        exact ⟨HE.out.symm, B1.step b9⟩
      · have HSPS := Lib.hid hsp
        rw [hsp] at HCC
        clear hsp
        go_wp2_with fail
        refine wp_region_wd (by kernel_rfl) (by kernel_rfl) ?_
        repeat (go_big_quiet_step ((first | (go_at_call 16; exact Calls.wd_of (HCC.out _ (Wd.h _))))))
        refine wpQuiet_nil ?_
        intro n1
        have b9 := n1.h
        have hb5 := hb.step b9
        have HO5 := Lib.hid (HO.out.below b9)
        generalize hw5 : n1.w = w5 at *
        clear hw5 fBG0 fBG1 zBG
        go_wp2_with fail
        go_loopw [7, 9] (fun o jv w9 => ∃ j : Nat, j ≤ s.length ∧ jv = .int .i64 j ∧ OwnInts w9 u.heap.size o ((L.take i).flatten ++ s.take j) ∧ ((L.take i).flatten ++ s.take j).Nodup ∧ Below u.heap.size u w9) (fun _ jv _ => s.length - (intOf jv).toNat)
        case atStart => exact ⟨0, Nat.zero_le _, rfl, by simpa using HO5.out, by simpa using HND.out, hb5⟩
        case round =>
          clear hb5 HO5 b9 hcm1 hbm1
          obtain ⟨j, hj, rfl, ho, hnd, hb6⟩ := hrel
          have HO6 := Lib.hid ho
          have HN6 := Lib.hid hnd
          clear ho hnd
          have hb6z := hb6.size
          have hcm2 := ((bcell hb6).1 _ (om + i) hbm).trans hcm
          have hbm2 : bm < wr.heap.size := by omega
          by_cases hjl : j < s.length
          · have hjli : (j : Int) < (s.length : Int) := by omega
            have hj0 : (0 : Int) ≤ (j : Int) := by omega
            obtain ⟨b2, o2, x, rfl, hb2, hx, hcx⟩ := HIS.out.2 j hjl
            have hcx2 := ((bcell hb6).1 _ (o2 + j) hb2).trans hcx
            have hb2' : b2 < wr.heap.size := by omega
            have HX := Lib.hid hx
            clear hx
            have hal : ((L.take i).flatten ++ s.take j).length ≤ 1048576 := by rw [List.length_append, List.length_take]; omega
            obtain ⟨au, cu, rfl, hau⟩ := HO6.out.form
            have HAU := Lib.hid hau
            clear hau
            have HET := Lib.hid (show (L.take i).flatten ++ s.take (j + 1) = ((L.take i).flatten ++ s.take j) ++ [x] by rw [take_succ_of HX.out, List.append_assoc])
            have HDUP : Hid (x ∈ (L.take i).flatten ++ s.take j → packB 3 (p, l) k L = false) := Lib.hid fun h => pack_dup HS.out HX.out h
            generalize (L.take i).flatten ++ s.take j = A at *
            by_cases hxm : x ∈ A
            · have HE := Lib.hid (ret_bool (HDUP.out hxm))
              have hd : decide (x ∈ A) = true := decide_eq_true hxm
              go_wp2_with fail
              refine (l2Has_at _ _ _ _ _ HAU.out (by omega) x).mono ?_
              rintro e w7 ⟨rfl, rfl⟩
              rw [hd]
              go_wp2_with fail
              go_ret
              exact ⟨HE.out.symm, B.step hb6⟩
            · have hd : decide (x ∈ A) = false := decide_eq_false hxm
              have HXM := Lib.hid hxm
              clear hxm
              go_wp2_with fail
              refine (l2Has_at _ _ _ _ _ HAU.out (by omega) x).mono ?_
              rintro e w7 ⟨rfl, rfl⟩
              rw [hd]
              go_wp2_with (at_builtin; refine app1 rfl (.tmp 42) (.tmp 50) rfl rfl HO6.out x rfl (by omega) hb6z ?_; intro v' w8 h8 k8)
              go_roundw
              case rel =>
                refine ⟨j + 1, by omega, by go_num, by rw [HET.out]; exact h8, ?_, hb6.trans (k8.setOwn HO6.out (Nat.le_refl _) hb6z)⟩
                rw [HET.out]
                exact List.nodup_append.2 ⟨HN6.out, by simp, fun y hy z hz => by simp at hz; subst hz; exact fun e => HXM.out (e ▸ hy)⟩
              case measure => simp [intOf]; omega
          · obtain rfl : j = s.length := by omega
            have HFL := Lib.hid (show (L.take (i + 1)).flatten = (L.take i).flatten ++ s by rw [take_succ_of HS.out]; simp)
            go_wp2_with fail
            go_roundw
            case rel =>
              have ho := HO6.out
              have hnn := HN6.out
              rw [List.take_length] at ho hnn
              exact ⟨i + 1, by omega, by go_num, by rw [HFL.out]; exact ho, fun y hy => by
                rw [take_succ_of HS.out] at hy
                rcases List.mem_append.1 hy with h | h
                · exact HSP.out y h
                · simp at h; subst h; exact HSPS.out, by rw [HFL.out]; exact hnn, hb6⟩
            case measure => simp [intOf]; omega
    · obtain rfl : i = n := by omega
      have htk : L.take i = L := List.take_of_length_le (by rw [HLN.out]; omega)
      have ho := HO.out
      have hnd := HND.out
      have hss := HSP.out
      rw [htk] at ho hnd hss
      have HE := Lib.hid (pack_end (mk := 3) (g := (p, l)) (k := k) (List.all_eq_true.2 hss) hnd)
      have hfl : L.flatten.length ≤ 1048576 := by rw [flat_len]; exact hsl
      obtain ⟨au, cu, rfl, hau⟩ := ho.form
      clear hau ho hnd hss htk
      have hLni : (L.length : Int) = (i : Int) := by rw [HLN.out]
      cases hg : isGraphB (p, l)
      · have HE2 := Lib.hid (HE.out.trans (by rw [hg] <;> rfl))
        go_wp2_with fail
        refine (spec_IsGraph_is _ _ (p, l) (HGr.out.below B1) hsz2).mono ?_
        rintro e w7 ⟨rfl, b7⟩
        rw [hg]
        go_wp2_with fail
        go_ret
        exact ⟨by rw [HE2.out] <;> rfl, B1.step b7⟩
      · cases hk : inB k 1 3
        · have HE2 := Lib.hid (HE.out.trans (by rw [hg, hk] <;> rfl))
          go_wp2_with fail
          refine (spec_IsGraph_is _ _ (p, l) (HGr.out.below B1) hsz2).mono ?_
          rintro e w7 ⟨rfl, b7⟩
          rw [hg]
          go_wp2_with (go_at_call 52; refine (l1In_any _ _ _ _).mono ?_; rintro e w' ⟨rfl, rfl⟩; rw [hk])
          go_ret
          exact ⟨by rw [HE2.out] <;> rfl, B1.step b7⟩
        · have HE3 : Hid (packB 3 (p, l) k L = (((i : Int) == k) && ((L.flatten.length : Int) == (l.length : Int)))) := Lib.hid (HE.out.trans (by rw [hg, hk, hLni] <;> rfl))
          clear hLni HE
          cases hq : ((i : Int) == k)
          · have HE2 := Lib.hid (HE3.out.trans (by rw [hq] <;> rfl))
            go_wp2_with fail
            refine (spec_IsGraph_is _ _ (p, l) (HGr.out.below B1) hsz2).mono ?_
            rintro e w7 ⟨rfl, b7⟩
            rw [hg]
            go_wp2_with (go_at_call 52; refine (l1In_any _ _ _ _).mono ?_; rintro e w' ⟨rfl, rfl⟩; rw [hk])
            go_ret
            exact ⟨by rw [HE2.out] <;> rfl, B1.step b7⟩
          · have HE2 : Hid (packB 3 (p, l) k L = ((L.flatten.length : Int) == (l.length : Int))) := Lib.hid (HE3.out.trans (by rw [hq] <;> rfl))
            generalize L.flatten.length = fl at *
            go_wp2_with fail
            refine (spec_IsGraph_is _ _ (p, l) (HGr.out.below B1) hsz2).mono ?_
            rintro e w7 ⟨rfl, b7⟩
            have BG7 := Lib.hid (BG1.out.below b7)
            clear zBG fBG0 fBG1
            obtain ⟨zBG, fBG0, fBG1⟩ := BG7.out
            rw [hg]
            go_wp2_with (go_at_call 52; refine (l1In_any _ _ _ _).mono ?_; rintro e w' ⟨rfl, rfl⟩; rw [hk])
            go_ret
            exact ⟨by rw [HE2.out] <;> first | rfl | simp, B1.step b7⟩
theorem spec_ArePackedTrees (W : World) (v0 : Value) (g : GraphT) (h : IsGraph W v0 g) (k : Int) (v2 : Value) (L : List (List Int)) (h2 : IsIntss W v2 L) (hn : szGraph g ≤ 1048576) (hn2 : szIntss L ≤ 1048576) :
    Calls Tryz.prog 24 #[v0, .int .i64 k, v2] W fun e w' => e = .returned (.bool (packB 3 g k L)) ∧ Below W.heap.size W w' := by
  obtain ⟨p, l⟩ := g
  obtain ⟨a, cap, rfl, hi⟩ := h
  obtain ⟨la, lc, rfl, hl⟩ := h2
  unfold szIntss at hn2
  exact specApt_at _ _ _ _ _ hi hn _ _ _ _ _ hl (by omega) (by omega)
end Go.Proofs.YtfbmpkdjhhcnpaaGreat

namespace Go.Proofs.YtfbmpkdjhhcnpaaGreat
open Go.RowKit
set_option maxRecDepth 100000
set_option linter.unusedVariables false
set_option linter.unusedSimpArgs false

set_option maxHeartbeats 4000000 in
theorem implApt_at (W : World) (p : Int) (a : Option Addr) (cap : Nat) (l : List BarT) (h : BarsAt W a l.length l) (hs : l.length ≤ 1048576) (k : Int) (la : Option Addr) (n lcap : Nat) (L : List (List Int)) (hL : IntssAt W la n L) (hn : n ≤ 1048576) (hsl : sumLen L ≤ 1048576) :
    Calls Tryz.prog 10 #[.agg #[.int .i64 p, .slice a l.length cap], .int .i64 k, .slice la n lcap] W fun e w' => e = .returned (.bool (packB 3 (p, l) k L)) ∧ Below W.heap.size W w' := by
  have hwd := @Wd.cells
  have HGr : Hid (IsGraph W (.agg #[.int .i64 p, .slice a l.length cap]) (p, l)) := Lib.hid ⟨a, cap, rfl, h⟩
  have H1 := Lib.hid h
  clear h
  have hsz : szGraph (p, l) ≤ 1048576 := hs
  have hsz2 : szGraph (p, l) ≤ 1099511627776 := Nat.le_trans hsz (by decide)
  have B : Below W.heap.size W (W.alloc (.cells #[.int .i64 p, .slice a l.length cap] 26)) := (Below.refl _ _).alloc (Nat.le_refl _) _
  have BG : Hid (BoxGr (W.alloc (.cells #[.int .i64 p, .slice a l.length cap] 26)) W.heap.size p a l.length cap) := Lib.hid (BoxGr.at rfl)
  have hs1 := hs
  have HL := Lib.hid (hL.below B)
  have hLn := hL.1
  have HLN := Lib.hid hLn
  clear hL hLn
  have HMX : Hid (∀ (i : Nat) (s : List Int), L[i]? = some s → (L.take i).flatten.length + s.length ≤ 1048576) := Lib.hid fun i s hs => by
    have h1 := sumLen_mem hs
    rw [flat_len]; omega
  cases hk : inB k 1 3
  · have HE := Lib.hid (ret_bool (pack_k (g := (p, l)) (l := L) hk))
    go_enter Tryz.func10, Tryz.ntmps10
    go_wp2_with (go_at_call 47; refine (within_any _ _ _ _).mono ?_; rintro e w' ⟨rfl, rfl⟩; rw [hk])
    go_ret
    exact ⟨HE.out.symm, B⟩
  cases hq : ((n : Int) == k)
  · have hq2 : ((n : Int) != k) = true := by rw [bne, hq]; rfl
    have HE := Lib.hid (ret_bool (pack_len (mk := 3) (g := (p, l)) (k := k) (l := L) (by rw [HLN.out]; exact hq)))
    go_enter Tryz.func10, Tryz.ntmps10
    go_wp2_with (go_at_call 47; refine (within_any _ _ _ _).mono ?_; rintro e w' ⟨rfl, rfl⟩; rw [hk])
    go_ret
    exact ⟨HE.out.symm, B⟩
  have hq2 : ((n : Int) != k) = false := by rw [bne, hq]; rfl
  have HPI : Hid (L.all (sptB (p, l)) = true → packB 3 (p, l) k L = (setB (p, l) (srtL L.flatten) && ((L.flatten.length : Int) == (l.length : Int)))) := Lib.hid fun h => pack_impl hk (by rw [HLN.out]; exact hq) h
  go_enter Tryz.func10, Tryz.ntmps10
  go_wp2_with (go_at_call 47; refine (within_any _ _ _ _).mono ?_; rintro e w' ⟨rfl, rfl⟩; rw [hk])
  generalize hu : (W.alloc (.cells #[.int .i64 p, .slice a l.length cap] 26)) = u at *
  have HUS : Hid (u.heap.size = W.heap.size + 1) := Lib.hid (by rw [← hu]; simp)
  clear hu
  have hr0 := OwnInts.made u u.heap.size (Nat.le_refl _)
  have hrb : Below u.heap.size u (u.alloc (.cells #[] 3)) := (Below.refl _ _).alloc (Nat.le_refl _) _
  have HR0 := Lib.hid hr0
  clear hr0
  generalize u.alloc (.cells #[] 3) = w0 at *
  go_loopw [7, 22] (fun o iv w9 => ∃ i : Nat, i ≤ n ∧ iv = .int .i64 i ∧ OwnInts w9 u.heap.size o (L.take i).flatten ∧ (∀ s ∈ L.take i, sptB (p, l) s = true) ∧ Below u.heap.size u w9) (fun _ iv _ => n - (intOf iv).toNat)
  case atStart => exact ⟨0, Nat.zero_le _, rfl, by rw [← HUS.out]; simpa using HR0.out, fun s hs => by simp at hs, hrb⟩
  case round =>
    clear hrb HR0
    obtain ⟨i, hi, rfl, ho, hsp0, hb⟩ := hrel
    have HO := Lib.hid ho
    have HSP := Lib.hid hsp0
    clear ho hsp0
    have hbz := hb.size
    have B1 := B.step hb
    have BG1 := Lib.hid (BG.out.below hb)
    obtain ⟨zBG, fBG0, fBG1⟩ := BG1.out
    by_cases hil : i < n
    · have hili : (i : Int) < (n : Int) := by omega
      have hi0 : (0 : Int) ≤ (i : Int) := by omega
      obtain ⟨bm, om, ar, cr, s, rfl, hbm, hs, hcm, his⟩ := HL.out.2 i hil
      have hmx := HMX.out i s hs
      have HS := Lib.hid hs
      have HIS := Lib.hid his
      clear hs his
      have hcm1 := ((bcell hb).1 _ (om + i) hbm).trans hcm
      have HCC : Hid (Calls Tryz.prog 15 #[.agg #[.int .i64 p, .slice a l.length cap], .slice ar s.length cr] wr fun e w' => e = .returned (.bool (sptB (p, l) s)) ∧ Below wr.heap.size wr w') := Lib.hid (implSpt_at wr p a cap l (H1.out.below B1) hs1 _ _ _ _ (HIS.out.below hb) (by omega))
      cases hsp : sptB (p, l) s
      · have HE := Lib.hid (ret_bool (pack_span (mk := 3) (k := k) HS.out hsp))
        rw [hsp] at HCC
        clear hsp
        go_wp2_with fail
        refine HCC.out.mono ?_
        rintro e w5 ⟨rfl, b9⟩
        go_wp2_with fail
        go_ret
        exact ⟨HE.out.symm, B1.step b9⟩
      · have HSPS := Lib.hid hsp
        rw [hsp] at HCC
        clear hsp
        have HFL := Lib.hid (show (L.take (i + 1)).flatten = (L.take i).flatten ++ s by rw [take_succ_of HS.out]; simp)
        go_wp2_with fail
        refine HCC.out.mono ?_
        rintro e w5 ⟨rfl, b9⟩
        have hb5 := hb.step b9
        have hb5z := hb5.size
        have HO5 := Lib.hid (HO.out.below b9)
        have HI5 := Lib.hid (HIS.out.below hb5)
        go_wp2_with (at_builtin; refine appAll rfl (.tmp 30) (.tmp 31) rfl rfl HO5.out rfl HI5.out (by omega) hb5z ?_; intro v' w8 h8 k8)
        go_roundw
        case rel => exact ⟨i + 1, by omega, by go_num, by rw [HFL.out]; exact h8, fun y hy => by
            rw [take_succ_of HS.out] at hy
            rcases List.mem_append.1 hy with h | h
            · exact HSP.out y h
            · simp at h; subst h; exact HSPS.out, hb5.trans (k8.setOwn HO5.out (Nat.le_refl _) hb5z)⟩
        case measure => simp [intOf]; omega
    · obtain rfl : i = n := by omega
      have htk : L.take i = L := List.take_of_length_le (by rw [HLN.out]; omega)
      have ho := HO.out
      have hss := HSP.out
      rw [htk] at ho hss
      have HE := Lib.hid (HPI.out (List.all_eq_true.2 hss))
      have hfl : L.flatten.length ≤ 1048576 := by rw [flat_len]; exact hsl
      obtain ⟨au, cu, rfl, hau⟩ := ho.form
      have HOF := Lib.hid ho
      clear hau hss htk ho
      generalize L.flatten = F at *
      go_wp2_with fail
      refine (sort_own _ _ _ _ HOF.out (by omega)).mono ?_
      rintro e w7 ⟨rfl, h7, k7⟩
      have b7 : Below u.heap.size u w7 := hb.trans (k7.setOwn HOF.out (Nat.le_refl _) hbz)
      have B7 := B.step b7
      have BG7 := Lib.hid (BG.out.below b7)
      clear zBG fBG0 fBG1
      obtain ⟨zBG, fBG0, fBG1⟩ := BG7.out
      obtain ⟨a7, c7, he7, hi7⟩ := h7.form
      rw [srtL_length] at he7 hi7
      simp only [Value.slice.injEq, true_and] at he7
      obtain ⟨rfl, rfl⟩ := he7
      have HIS7 : Hid (Calls Tryz.prog 56 #[.agg #[.int .i64 p, .slice a l.length cap], .slice au F.length cu] w7 fun e w' => e = .returned (.bool (setB (p, l) (srtL F))) ∧ Below w7.heap.size w7 w') := Lib.hid (isSet_at w7 p a cap l (H1.out.below B7) hs1 _ _ _ _ hi7 (by omega))
      clear hi7 h7 k7
      cases hset : setB (p, l) (srtL F)
      · have HE2 := Lib.hid (HE.out.trans (by rw [hset] <;> rfl))
        rw [hset] at HIS7
        clear hset
        go_wp2_with fail
        refine HIS7.out.mono ?_
        rintro e w9 ⟨rfl, b9⟩
        go_wp2_with fail
        go_ret
        exact ⟨by rw [HE2.out] <;> rfl, B7.step b9⟩
      · have HE2 : Hid (packB 3 (p, l) k L = ((F.length : Int) == (l.length : Int))) := Lib.hid (HE.out.trans (by rw [hset] <;> rfl))
        rw [hset] at HIS7
        clear hset
        go_wp2_with fail
        refine HIS7.out.mono ?_
        rintro e w9 ⟨rfl, b9⟩
        have BG9 := Lib.hid (BG7.out.below b9)
        clear zBG fBG0 fBG1
        obtain ⟨zBG, fBG0, fBG1⟩ := BG9.out
        go_wp2_with fail
        go_ret
        exact ⟨by rw [HE2.out] <;> first | rfl | simp, B7.step b9⟩
theorem impl_ArePackedTrees (W : World) (v0 : Value) (g : GraphT) (h : IsGraph W v0 g) (k : Int) (v2 : Value) (L : List (List Int)) (h2 : IsIntss W v2 L) (hn : szGraph g ≤ 1048576) (hn2 : szIntss L ≤ 1048576) :
    Calls Tryz.prog 10 #[v0, .int .i64 k, v2] W fun e w' => e = .returned (.bool (packB 3 g k L)) ∧ Below W.heap.size W w' := by
  obtain ⟨p, l⟩ := g
  obtain ⟨a, cap, rfl, hi⟩ := h
  obtain ⟨la, lc, rfl, hl⟩ := h2
  unfold szIntss at hn2
  exact implApt_at _ _ _ _ _ hi hn _ _ _ _ _ hl (by omega) (by omega)
end Go.Proofs.YtfbmpkdjhhcnpaaGreat

