/- ArePackedTrees of the program. No condition but sizes. -/
import Derived.Test.YtjlhmaplfbdpmaaApt
namespace Go.Proofs.Ytjlhmaplfbdpmaa
open Go.RowKit
set_option maxRecDepth 100000
set_option linter.unusedVariables false
set_option linter.unusedSimpArgs false

set_option maxHeartbeats 4000000 in
theorem implApt_at (W : World) (p : Int) (a : Option Addr) (cap : Nat) (l : List BarT) (h : BarsAt W a l.length l) (hs : l.length ≤ 1048576) (k : Int) (la : Option Addr) (n lcap : Nat) (L : List (List Int)) (hL : IntssAt W la n L) (hn : n ≤ 1048576) (hsl : sumLen L ≤ 1048576) :
    Calls Try.prog 17 #[.agg #[.int .i64 p, .slice a l.length cap], .int .i64 k, .slice la n lcap] W fun e w' => e = .returned (.bool (packB 3 (p, l) k L)) ∧ Below W.heap.size W w' := by
  have hwd := @Wd.cells
  have HGr : Hid (IsGraph W (.agg #[.int .i64 p, .slice a l.length cap]) (p, l)) := Lib.hid ⟨a, cap, rfl, h⟩
  have H1 := Lib.hid h
  clear h
  have hsz : szGraph (p, l) ≤ 1048576 := hs
  have hsz2 : szGraph (p, l) ≤ 1099511627776 := Nat.le_trans hsz (by decide)
  have B : Below W.heap.size W (W.alloc (.cells #[.int .i64 p, .slice a l.length cap] 31)) := (Below.refl _ _).alloc (Nat.le_refl _) _
  have BG : Hid (BoxGr (W.alloc (.cells #[.int .i64 p, .slice a l.length cap] 31)) W.heap.size p a l.length cap) := Lib.hid (BoxGr.at rfl)
  have hs1 := hs
  have HL := Lib.hid (hL.below B)
  have hLn := hL.1
  have HLN := Lib.hid hLn
  clear hL hLn
  have HMX : Hid (∀ (i : Nat) (s : List Int), L[i]? = some s → (L.take i).flatten.length + s.length ≤ 1048576) := Lib.hid fun i s hs => by
    have h1 := sumLen_mem hs
    rw [flat_len]; omega
  cases hk : inB k 1 3
  · have HE := Lib.hid (ret_bool (pack_k (g := (p, l)) (l := L) hk))
    go_enter Try.func17, Try.ntmps17
    go_wp2_with (go_at_call 24; refine (within_any _ _ _ _).mono ?_; rintro e w' ⟨rfl, rfl⟩; rw [hk])
    go_ret
    exact ⟨HE.out.symm, B⟩
  cases hq : ((n : Int) == k)
  · have hq2 : ((n : Int) != k) = true := by rw [bne, hq]; rfl
    have HE := Lib.hid (ret_bool (pack_len (mk := 3) (g := (p, l)) (k := k) (l := L) (by rw [HLN.out]; exact hq)))
    go_enter Try.func17, Try.ntmps17
    go_wp2_with (go_at_call 24; refine (within_any _ _ _ _).mono ?_; rintro e w' ⟨rfl, rfl⟩; rw [hk])
    go_ret
    exact ⟨HE.out.symm, B⟩
  have hq2 : ((n : Int) != k) = false := by rw [bne, hq]; rfl
  have HPI : Hid (L.all (sptB (p, l)) = true → packB 3 (p, l) k L = (setB (p, l) (srtL L.flatten) && ((L.flatten.length : Int) == (l.length : Int)))) := Lib.hid fun h => pack_impl hk (by rw [HLN.out]; exact hq) h
  go_enter Try.func17, Try.ntmps17
  go_wp2_with (go_at_call 24; refine (within_any _ _ _ _).mono ?_; rintro e w' ⟨rfl, rfl⟩; rw [hk])
  generalize hu : (W.alloc (.cells #[.int .i64 p, .slice a l.length cap] 31)) = u at *
  have HUS : Hid (u.heap.size = W.heap.size + 1) := Lib.hid (by rw [← hu]; simp)
  clear hu
  have hr0 := OwnInts.made u u.heap.size (Nat.le_refl _)
  have hrb : Below u.heap.size u (u.alloc (.cells #[] 3)) := (Below.refl _ _).alloc (Nat.le_refl _) _
  have HR0 := Lib.hid hr0
  clear hr0
  generalize u.alloc (.cells #[] 3) = w0 at *
  go_loopw [7, 22] (fun o iv w9 => ∃ i : Nat, i ≤ n ∧ iv = .int .i64 i ∧ OwnInts w9 u.heap.size o (L.take i).flatten ∧ (∀ s ∈ L.take i, sptB (p, l) s = true) ∧ Below u.heap.size u w9) (fun _ iv _ => n - (intOf iv).toNat)
  case atStart => exact ⟨0, Nat.zero_le _, rfl, by rw [← HUS.out]; simpa using HR0.out, fun s hs => by simp at hs, hrb⟩
  case round =>
    clear hrb HR0
    obtain ⟨i, hi, rfl, ho, hsp0, hb⟩ := hrel
    have HO := Lib.hid ho
    have HSP := Lib.hid hsp0
    clear ho hsp0
    have hbz := hb.size
    have B1 := B.step hb
    have BG1 := Lib.hid (BG.out.below hb)
    obtain ⟨zBG, fBG0, fBG1⟩ := BG1.out
    by_cases hil : i < n
    · have hili : (i : Int) < (n : Int) := by omega
      have hi0 : (0 : Int) ≤ (i : Int) := by omega
      obtain ⟨bm, om, ar, cr, s, rfl, hbm, hs, hcm, his⟩ := HL.out.2 i hil
      have hmx := HMX.out i s hs
      have HS := Lib.hid hs
      have HIS := Lib.hid his
      clear hs his
      have hcm1 := ((bcell hb).1 _ (om + i) hbm).trans hcm
      have HCC : Hid (Calls Try.prog 37 #[.agg #[.int .i64 p, .slice a l.length cap], .slice ar s.length cr] wr fun e w' => e = .returned (.bool (sptB (p, l) s)) ∧ Below wr.heap.size wr w') := Lib.hid (implSpt_at wr p a cap l (H1.out.below B1) hs1 _ _ _ _ (HIS.out.below hb) (by omega))
      cases hsp : sptB (p, l) s
      · have HE := Lib.hid (ret_bool (pack_span (mk := 3) (k := k) HS.out hsp))
        rw [hsp] at HCC
        clear hsp
        go_wp2_with fail
        refine HCC.out.mono ?_
        rintro e w5 ⟨rfl, b9⟩
        go_wp2_with fail
        go_ret
        exact ⟨HE.out.symm, B1.step b9⟩
      · have HSPS := Lib.hid hsp
        rw [hsp] at HCC
        clear hsp
        have HFL := Lib.hid (show (L.take (i + 1)).flatten = (L.take i).flatten ++ s by rw [take_succ_of HS.out]; simp)
        go_wp2_with fail
        refine HCC.out.mono ?_
        rintro e w5 ⟨rfl, b9⟩
        have hb5 := hb.step b9
        have hb5z := hb5.size
        have HO5 := Lib.hid (HO.out.below b9)
        have HI5 := Lib.hid (HIS.out.below hb5)
        go_wp2_with (at_builtin; refine appAll rfl (.tmp 30) (.tmp 31) rfl rfl HO5.out rfl HI5.out (by omega) hb5z ?_; intro v' w8 h8 k8)
        go_roundw
        case rel => exact ⟨i + 1, by omega, by go_num, by rw [HFL.out]; exact h8, fun y hy => by
            rw [take_succ_of HS.out] at hy
            rcases List.mem_append.1 hy with h | h
            · exact HSP.out y h
            · simp at h; subst h; exact HSPS.out, hb5.trans (k8.setOwn HO5.out (Nat.le_refl _) hb5z)⟩
        case measure => simp [intOf]; omega
    · obtain rfl : i = n := by omega
      have htk : L.take i = L := List.take_of_length_le (by rw [HLN.out]; omega)
      have ho := HO.out
      have hss := HSP.out
      rw [htk] at ho hss
      have HE := Lib.hid (HPI.out (List.all_eq_true.2 hss))
      have hfl : L.flatten.length ≤ 1048576 := by rw [flat_len]; exact hsl
      obtain ⟨au, cu, rfl, hau⟩ := ho.form
      have HOF := Lib.hid ho
      clear hau hss htk ho
      generalize L.flatten = F at *
      go_wp2_with fail
      refine (sort_own _ _ _ _ HOF.out (by omega)).mono ?_
      rintro e w7 ⟨rfl, h7, k7⟩
      have b7 : Below u.heap.size u w7 := hb.trans (k7.setOwn HOF.out (Nat.le_refl _) hbz)
      have B7 := B.step b7
      have BG7 := Lib.hid (BG.out.below b7)
      clear zBG fBG0 fBG1
      obtain ⟨zBG, fBG0, fBG1⟩ := BG7.out
      obtain ⟨a7, c7, he7, hi7⟩ := h7.form
      rw [srtL_length] at he7 hi7
      simp only [Value.slice.injEq, true_and] at he7
      obtain ⟨rfl, rfl⟩ := he7
      have HIS7 : Hid (Calls Try.prog 39 #[.agg #[.int .i64 p, .slice a l.length cap], .slice au F.length cu] w7 fun e w' => e = .returned (.bool (setB (p, l) (srtL F))) ∧ Below w7.heap.size w7 w') := Lib.hid (isSet_at w7 p a cap l (H1.out.below B7) hs1 _ _ _ _ hi7 (by omega))
      clear hi7 h7 k7
      cases hset : setB (p, l) (srtL F)
      · have HE2 := Lib.hid (HE.out.trans (by rw [hset] <;> rfl))
        rw [hset] at HIS7
        clear hset
        go_wp2_with fail
        refine HIS7.out.mono ?_
        rintro e w9 ⟨rfl, b9⟩
        go_wp2_with fail
        go_ret
        exact ⟨by rw [HE2.out] <;> rfl, B7.step b9⟩
      · have HE2 : Hid (packB 3 (p, l) k L = ((F.length : Int) == (l.length : Int))) := Lib.hid (HE.out.trans (by rw [hset] <;> rfl))
        rw [hset] at HIS7
        clear hset
        go_wp2_with fail
        refine HIS7.out.mono ?_
        rintro e w9 ⟨rfl, b9⟩
        have BG9 := Lib.hid (BG7.out.below b9)
        clear zBG fBG0 fBG1
        obtain ⟨zBG, fBG0, fBG1⟩ := BG9.out
        go_wp2_with fail
        go_ret
        exact ⟨by rw [HE2.out] <;> first | rfl | simp, B7.step b9⟩
theorem impl_ArePackedTrees (W : World) (v0 : Value) (g : GraphT) (h : IsGraph W v0 g) (k : Int) (v2 : Value) (L : List (List Int)) (h2 : IsIntss W v2 L) (hn : szGraph g ≤ 1048576) (hn2 : szIntss L ≤ 1048576) :
    Calls Try.prog 17 #[v0, .int .i64 k, v2] W fun e w' => e = .returned (.bool (packB 3 g k L)) ∧ Below W.heap.size W w' := by
  obtain ⟨p, l⟩ := g
  obtain ⟨a, cap, rfl, hi⟩ := h
  obtain ⟨la, lc, rfl, hl⟩ := h2
  unfold szIntss at hn2
  exact implApt_at _ _ _ _ _ hi hn _ _ _ _ _ hl (by omega) (by omega)
end Go.Proofs.Ytjlhmaplfbdpmaa
