/- ArePackedTrees of the reference. No condition but sizes. -/
import Derived.Test.YtjlhmaplfbdpmaaApt0
namespace Go.Proofs.Ytjlhmaplfbdpmaa
open Go.RowKit
set_option maxRecDepth 100000
set_option linter.unusedVariables false
set_option linter.unusedSimpArgs false

set_option maxHeartbeats 4000000 in
theorem specApt_at (W : World) (p : Int) (a : Option Addr) (cap : Nat) (l : List BarT) (h : BarsAt W a l.length l) (hs : l.length ≤ 1048576) (k : Int) (la : Option Addr) (n lcap : Nat) (L : List (List Int)) (hL : IntssAt W la n L) (hn : n ≤ 1048576) (hsl : sumLen L ≤ 1048576) :
    Calls Try.prog 15 #[.agg #[.int .i64 p, .slice a l.length cap], .int .i64 k, .slice la n lcap] W fun e w' => e = .returned (.bool (packB 3 (p, l) k L)) ∧ Below W.heap.size W w' := by
  have hwd := @Wd.cells
  have HGr : Hid (IsGraph W (.agg #[.int .i64 p, .slice a l.length cap]) (p, l)) := Lib.hid ⟨a, cap, rfl, h⟩
  have H1 := Lib.hid h
  clear h
  have hsz : szGraph (p, l) ≤ 1048576 := hs
  have hsz2 : szGraph (p, l) ≤ 1099511627776 := Nat.le_trans hsz (by decide)
  have B : Below W.heap.size W (W.alloc (.cells #[.int .i64 p, .slice a l.length cap] 31)) := (Below.refl _ _).alloc (Nat.le_refl _) _
  have BG : Hid (BoxGr (W.alloc (.cells #[.int .i64 p, .slice a l.length cap] 31)) W.heap.size p a l.length cap) := Lib.hid (BoxGr.at rfl)
  have hs1 := hs
  have HL := Lib.hid (hL.below B)
  have hLn := hL.1
  have HLN := Lib.hid hLn
  clear hL hLn
  have HMX : Hid (∀ (i : Nat) (s : List Int), L[i]? = some s → (L.take i).flatten.length + s.length ≤ 1048576) := Lib.hid fun i s hs => by
    have h1 := sumLen_mem hs
    rw [flat_len]; omega
  go_enter Try.func15, Try.ntmps15
  go_wp2_with fail
  generalize hu : (W.alloc (.cells #[.int .i64 p, .slice a l.length cap] 31)) = u at *
  have HUS : Hid (u.heap.size = W.heap.size + 1) := Lib.hid (by rw [← hu]; simp)
  clear hu
  have hr0 := OwnInts.made u u.heap.size (Nat.le_refl _)
  have hrb : Below u.heap.size u (u.alloc (.cells #[] 3)) := (Below.refl _ _).alloc (Nat.le_refl _) _
  have HR0 := Lib.hid hr0
  clear hr0
  generalize u.alloc (.cells #[] 3) = w0 at *
  go_loopw [7, 8] (fun o iv w9 => ∃ i : Nat, i ≤ n ∧ iv = .int .i64 i ∧ OwnInts w9 u.heap.size o (L.take i).flatten ∧ (∀ s ∈ L.take i, sptB (p, l) s = true) ∧ (L.take i).flatten.Nodup ∧ Below u.heap.size u w9) (fun _ iv _ => n - (intOf iv).toNat)
  case atStart => exact ⟨0, Nat.zero_le _, rfl, by rw [← HUS.out]; simpa using HR0.out, fun s hs => by simp at hs, by simp, hrb⟩
  case round =>
    clear hrb HR0
    obtain ⟨i, hi, rfl, ho, hsp0, hnd, hb⟩ := hrel
    have HO := Lib.hid ho
    have HSP := Lib.hid hsp0
    have HND := Lib.hid hnd
    clear ho hsp0 hnd
    have hbz := hb.size
    have B1 := B.step hb
    have BG1 := Lib.hid (BG.out.below hb)
    obtain ⟨zBG, fBG0, fBG1⟩ := BG1.out
    by_cases hil : i < n
    · have hili : (i : Int) < (n : Int) := by omega
      have hi0 : (0 : Int) ≤ (i : Int) := by omega
      obtain ⟨bm, om, ar, cr, s, rfl, hbm, hs, hcm, his⟩ := HL.out.2 i hil
      have hmx := HMX.out i s hs
      have HS := Lib.hid hs
      have HIS := Lib.hid his
      clear hs his
      have hcm1 := ((bcell hb).1 _ (om + i) hbm).trans hcm
      have hbm1 : bm < wr.heap.size := by omega
      have HCC : Hid (∀ w9, Below wr.heap.size wr w9 → Calls Try.prog 34 #[.agg #[.int .i64 p, .slice a l.length cap], .slice ar s.length cr] w9 fun e w' => e = .returned (.bool (sptB (p, l) s)) ∧ Below w9.heap.size w9 w') := Lib.hid fun w9 b9 => specSpt_at w9 p a cap l (H1.out.below (B1.step b9)) hs1 _ _ _ _ (HIS.out.below (hb.step b9)) (by omega)
      cases hsp : sptB (p, l) s
      · have HE := Lib.hid (ret_bool (pack_span (mk := 3) (k := k) HS.out hsp))
        rw [hsp] at HCC
        clear hsp
        go_wp2_with fail
        refine wp_region_wd (by kernel_rfl) (by kernel_rfl) ?_
        repeat (go_big_quiet_step ((first | (go_at_call 34; exact Calls.wd_of (HCC.out _ (Wd.h _))))))
        refine wpQuiet_nil ?_
        intro n1
        have b9 := n1.h
        go_wp2_with fail
        go_ret
        exact ⟨HE.out.symm, B1.step b9⟩
      · have HSPS := Lib.hid hsp
        rw [hsp] at HCC
        clear hsp
        go_wp2_with fail
        refine wp_region_wd (by kernel_rfl) (by kernel_rfl) ?_
        repeat (go_big_quiet_step ((first | (go_at_call 34; exact Calls.wd_of (HCC.out _ (Wd.h _))))))
        refine wpQuiet_nil ?_
        intro n1
        have b9 := n1.h
        have hb5 := hb.step b9
        have HO5 := Lib.hid (HO.out.below b9)
        generalize hw5 : n1.w = w5 at *
        clear hw5 fBG0 fBG1 zBG
        go_wp2_with fail
        go_loopw [7, 9] (fun o jv w9 => ∃ j : Nat, j ≤ s.length ∧ jv = .int .i64 j ∧ OwnInts w9 u.heap.size o ((L.take i).flatten ++ s.take j) ∧ ((L.take i).flatten ++ s.take j).Nodup ∧ Below u.heap.size u w9) (fun _ jv _ => s.length - (intOf jv).toNat)
        case atStart => exact ⟨0, Nat.zero_le _, rfl, by simpa using HO5.out, by simpa using HND.out, hb5⟩
        case round =>
          clear hb5 HO5 b9 hcm1 hbm1
          obtain ⟨j, hj, rfl, ho, hnd, hb6⟩ := hrel
          have HO6 := Lib.hid ho
          have HN6 := Lib.hid hnd
          clear ho hnd
          have hb6z := hb6.size
          have hcm2 := ((bcell hb6).1 _ (om + i) hbm).trans hcm
          have hbm2 : bm < wr.heap.size := by omega
          by_cases hjl : j < s.length
          · have hjli : (j : Int) < (s.length : Int) := by omega
            have hj0 : (0 : Int) ≤ (j : Int) := by omega
            obtain ⟨b2, o2, x, rfl, hb2, hx, hcx⟩ := HIS.out.2 j hjl
            have hcx2 := ((bcell hb6).1 _ (o2 + j) hb2).trans hcx
            have hb2' : b2 < wr.heap.size := by omega
            have HX := Lib.hid hx
            clear hx
            have hal : ((L.take i).flatten ++ s.take j).length ≤ 1048576 := by rw [List.length_append, List.length_take]; omega
            obtain ⟨au, cu, rfl, hau⟩ := HO6.out.form
            have HAU := Lib.hid hau
            clear hau
            have HET := Lib.hid (show (L.take i).flatten ++ s.take (j + 1) = ((L.take i).flatten ++ s.take j) ++ [x] by rw [take_succ_of HX.out, List.append_assoc])
            have HDUP : Hid (x ∈ (L.take i).flatten ++ s.take j → packB 3 (p, l) k L = false) := Lib.hid fun h => pack_dup HS.out HX.out h
            generalize (L.take i).flatten ++ s.take j = A at *
            by_cases hxm : x ∈ A
            · have HE := Lib.hid (ret_bool (HDUP.out hxm))
              have hd : decide (x ∈ A) = true := decide_eq_true hxm
              go_wp2_with fail
              refine (l2Has_at _ _ _ _ _ HAU.out (by omega) x).mono ?_
              rintro e w7 ⟨rfl, rfl⟩
              rw [hd]
              go_wp2_with fail
              go_ret
              exact ⟨HE.out.symm, B.step hb6⟩
            · have hd : decide (x ∈ A) = false := decide_eq_false hxm
              have HXM := Lib.hid hxm
              clear hxm
              go_wp2_with fail
              refine (l2Has_at _ _ _ _ _ HAU.out (by omega) x).mono ?_
              rintro e w7 ⟨rfl, rfl⟩
              rw [hd]
              go_wp2_with (at_builtin; refine app1 rfl (.tmp 42) (.tmp 50) rfl rfl HO6.out x rfl (by omega) hb6z ?_; intro v' w8 h8 k8)
              go_roundw
              case rel =>
                refine ⟨j + 1, by omega, by go_num, by rw [HET.out]; exact h8, ?_, hb6.trans (k8.setOwn HO6.out (Nat.le_refl _) hb6z)⟩
                rw [HET.out]
                exact List.nodup_append.2 ⟨HN6.out, by simp, fun y hy z hz => by simp at hz; subst hz; exact fun e => HXM.out (e ▸ hy)⟩
              case measure => simp [intOf]; omega
          · obtain rfl : j = s.length := by omega
            have HFL := Lib.hid (show (L.take (i + 1)).flatten = (L.take i).flatten ++ s by rw [take_succ_of HS.out]; simp)
            go_wp2_with fail
            go_roundw
            case rel =>
              have ho := HO6.out
              have hnn := HN6.out
              rw [List.take_length] at ho hnn
              exact ⟨i + 1, by omega, by go_num, by rw [HFL.out]; exact ho, fun y hy => by
                rw [take_succ_of HS.out] at hy
                rcases List.mem_append.1 hy with h | h
                · exact HSP.out y h
                · simp at h; subst h; exact HSPS.out, by rw [HFL.out]; exact hnn, hb6⟩
            case measure => simp [intOf]; omega
    · obtain rfl : i = n := by omega
      have htk : L.take i = L := List.take_of_length_le (by rw [HLN.out]; omega)
      have ho := HO.out
      have hnd := HND.out
      have hss := HSP.out
      rw [htk] at ho hnd hss
      have HE := Lib.hid (pack_end (mk := 3) (g := (p, l)) (k := k) (List.all_eq_true.2 hss) hnd)
      have hfl : L.flatten.length ≤ 1048576 := by rw [flat_len]; exact hsl
      obtain ⟨au, cu, rfl, hau⟩ := ho.form
      clear hau ho hnd hss htk
      have hLni : (L.length : Int) = (i : Int) := by rw [HLN.out]
      cases hg : isGraphB (p, l)
      · have HE2 := Lib.hid (HE.out.trans (by rw [hg] <;> rfl))
        go_wp2_with fail
        refine (spec_IsGraph_is _ _ (p, l) (HGr.out.below B1) hsz2).mono ?_
        rintro e w7 ⟨rfl, b7⟩
        rw [hg]
        go_wp2_with fail
        go_ret
        exact ⟨by rw [HE2.out] <;> rfl, B1.step b7⟩
      · cases hk : inB k 1 3
        · have HE2 := Lib.hid (HE.out.trans (by rw [hg, hk] <;> rfl))
          go_wp2_with fail
          refine (spec_IsGraph_is _ _ (p, l) (HGr.out.below B1) hsz2).mono ?_
          rintro e w7 ⟨rfl, b7⟩
          rw [hg]
          go_wp2_with (go_at_call 20; refine (l1In_any _ _ _ _).mono ?_; rintro e w' ⟨rfl, rfl⟩; rw [hk])
          go_ret
          exact ⟨by rw [HE2.out] <;> rfl, B1.step b7⟩
        · have HE3 : Hid (packB 3 (p, l) k L = (((i : Int) == k) && ((L.flatten.length : Int) == (l.length : Int)))) := Lib.hid (HE.out.trans (by rw [hg, hk, hLni] <;> rfl))
          clear hLni HE
          cases hq : ((i : Int) == k)
          · have HE2 := Lib.hid (HE3.out.trans (by rw [hq] <;> rfl))
            go_wp2_with fail
            refine (spec_IsGraph_is _ _ (p, l) (HGr.out.below B1) hsz2).mono ?_
            rintro e w7 ⟨rfl, b7⟩
            rw [hg]
            go_wp2_with (go_at_call 20; refine (l1In_any _ _ _ _).mono ?_; rintro e w' ⟨rfl, rfl⟩; rw [hk])
            go_ret
            exact ⟨by rw [HE2.out] <;> rfl, B1.step b7⟩
          · have HE2 : Hid (packB 3 (p, l) k L = ((L.flatten.length : Int) == (l.length : Int))) := Lib.hid (HE3.out.trans (by rw [hq] <;> rfl))
            generalize L.flatten.length = fl at *
            go_wp2_with fail
            refine (spec_IsGraph_is _ _ (p, l) (HGr.out.below B1) hsz2).mono ?_
            rintro e w7 ⟨rfl, b7⟩
            have BG7 := Lib.hid (BG1.out.below b7)
            clear zBG fBG0 fBG1
            obtain ⟨zBG, fBG0, fBG1⟩ := BG7.out
            rw [hg]
            go_wp2_with (go_at_call 20; refine (l1In_any _ _ _ _).mono ?_; rintro e w' ⟨rfl, rfl⟩; rw [hk])
            go_ret
            exact ⟨by rw [HE2.out] <;> first | rfl | simp, B1.step b7⟩
theorem spec_ArePackedTrees (W : World) (v0 : Value) (g : GraphT) (h : IsGraph W v0 g) (k : Int) (v2 : Value) (L : List (List Int)) (h2 : IsIntss W v2 L) (hn : szGraph g ≤ 1048576) (hn2 : szIntss L ≤ 1048576) :
    Calls Try.prog 15 #[v0, .int .i64 k, v2] W fun e w' => e = .returned (.bool (packB 3 g k L)) ∧ Below W.heap.size W w' := by
  obtain ⟨p, l⟩ := g
  obtain ⟨a, cap, rfl, hi⟩ := h
  obtain ⟨la, lc, rfl, hl⟩ := h2
  unfold szIntss at hn2
  exact specApt_at _ _ _ _ _ hi hn _ _ _ _ _ hl (by omega) (by omega)
end Go.Proofs.Ytjlhmaplfbdpmaa
