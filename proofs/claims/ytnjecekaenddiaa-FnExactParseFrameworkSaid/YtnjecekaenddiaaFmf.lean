/- FormatFramework of the reference and of the program. No condition but sizes. -/
import Derived.Test.YtnjecekaenddiaaFmg
import Derived.Test.YtnjecekaenddiaaBox
namespace Go.Proofs.Ytnjecekaenddiaa
open Go.RowKit
set_option maxRecDepth 100000
set_option linter.unusedVariables false
set_option linter.unusedSimpArgs false

theorem isFw_facts2 {p : Int} {l : List BarT} {q : List PlaceT} (h : isFwB (p, l, q) = true) : (1 ≤ p ∧ p ≤ 6) ∧ (q.length : Int) = p ∧ l.length ≤ 15 ∧ isGraphB (p, l) = true ∧ ∀ (i : Nat) x y, q[i]? = some (x, y) → (0 ≤ x ∧ x ≤ 4) ∧ (0 ≤ y ∧ y ≤ 4) := by
  simp only [isFwB, Bool.and_eq_true, decide_eq_true_eq] at h
  obtain ⟨h1, h2, h3, h4, h5, h6⟩ := h
  have hb := isGraphB_bd h1
  refine ⟨⟨hb.1.1, h2⟩, h3, h4, h1, fun i x y hx => ?_⟩
  have h7 := List.all_eq_true.1 h5 _ (List.mem_of_getElem? hx)
  simp [onB, inB] at h7
  omega


set_option maxHeartbeats 1000000 in
theorem specFf_at (W : World) (p : Int) (a : Option Addr) (cap : Nat) (l : List BarT) (c : Option Addr) (capc : Nat) (q : List PlaceT) (h : BarsAt W a l.length l) (hq : PlacesAt W c q.length q) (hs : l.length + q.length ≤ 1048576) :
    Calls Try.prog 13 #[.agg #[.int .i64 p, .slice a l.length cap, .slice c q.length capc]] W fun e w' => e = .returned (.string (bs (fmtF (p, l, q)))) ∧ Below W.heap.size W w' := by
  have hwd := @Wd.cells
  have HFw : Hid (IsFw W (.agg #[.int .i64 p, .slice a l.length cap, .slice c q.length capc]) (p, l, q)) := Lib.hid ⟨a, cap, c, capc, rfl, h, hq⟩
  have H1 := Lib.hid h
  have H2 := Lib.hid hq
  clear h hq
  have hsz : szFw (p, l, q) ≤ 1048576 := hs
  have hs1 : l.length ≤ 1048576 := by omega
  have hs2 : q.length ≤ 1048576 := by omega
  have B : Below W.heap.size W (W.alloc (.cells #[.int .i64 p, .slice a l.length cap, .slice c q.length capc] 42)) := (Below.refl _ _).alloc (Nat.le_refl _) _
  have BX : Hid (BoxFw (W.alloc (.cells #[.int .i64 p, .slice a l.length cap, .slice c q.length capc] 42)) W.heap.size p a l.length cap c q.length capc) := Lib.hid (BoxFw.at rfl)
  cases hg : isFwB (p, l, q)
  · have HE : Hid (fmtF (p, l, q) = []) := Lib.hid (by unfold fmtF; rw [hg]; rfl)
    go_enter Try.func13, Try.ntmps13
    go_wp2_with fail
    generalize (W.alloc (.cells #[.int .i64 p, .slice a l.length cap, .slice c q.length capc] 42)) = u at *
    obtain ⟨zBX, fBX0, fBX1, fBX2⟩ := BX.out
    refine (spec_IsFramework _ _ (p, l, q) (HFw.out.below B) hsz).mono ?_
    rintro e w1 ⟨rfl, b⟩
    rw [hg]
    go_wp2_with fail
    go_ret
    exact ⟨by rw [HE.out]; rfl, B.step b⟩
  obtain ⟨⟨hp1, hp2⟩, hql, hl15, hgr, hpq⟩ := isFw_facts2 hg
  have hq24 : q.length ≤ 24 := by omega
  have HBR : Hid (∀ (i : Nat) (x : PlaceT), q[i]? = some x → 0 ≤ x.1 ∧ x.1 ≤ 100 ∧ 0 ≤ x.2 ∧ x.2 ≤ 100) := Lib.hid fun i x hx => by
    have := hpq i x.1 x.2 hx
    omega
  have HE : Hid (fmtF (p, l, q) = fmtG (p, l) ++ [32, 97, 116] ++ ptxt 44 q) := Lib.hid (by unfold fmtF; rw [if_pos hg])
  have hpl := fmtG_len (p, l)
  have hh22 : (fmtG (p, l) ++ [32, 97, 116]).length ≤ 1101 := by simp; omega
  have HCG : Hid (∀ w1, Below W.heap.size W w1 → Calls Try.prog 33 #[.agg #[.int .i64 p, .slice a l.length cap]] w1 fun e w' => e = .returned (.string (bs (fmtG (p, l)))) ∧ Below w1.heap.size w1 w') := Lib.hid fun w1 b => spec_FormatGraph w1 _ (p, l) ⟨a, cap, rfl, H1.out.below b⟩ hs1
  clear hpq hgr hql
  go_enter Try.func13, Try.ntmps13
  go_wp2_with fail
  generalize (W.alloc (.cells #[.int .i64 p, .slice a l.length cap, .slice c q.length capc] 42)) = u at *
  obtain ⟨zBX, fBX0, fBX1, fBX2⟩ := BX.out
  refine (spec_IsFramework _ _ (p, l, q) (HFw.out.below B) hsz).mono ?_
  rintro e w1 ⟨rfl, b⟩
  replace B := B.step b
  clear zBX fBX0 fBX1 fBX2
  replace BX := Lib.hid (BX.out.below b)
  rw [hg]
  clear b
  obtain ⟨zBX, fBX0, fBX1, fBX2⟩ := BX.out
  go_wp2_with fail
  refine (HCG.out _ B).mono ?_
  rintro e w2 ⟨rfl, b⟩
  obtain ⟨s0, hs0, S0⟩ := addX (a := bs (fmtG (p, l))) (b := { data := #[32, 97, 116] }) (l := fmtG (p, l)) (r := [32, 97, 116]) rfl rfl (by simp; omega)
  generalize bs (fmtG (p, l)) = tp at *
  generalize fmtG (p, l) ++ [32, 97, 116] = hd at *
  replace B := B.step b
  clear zBX fBX0 fBX1 fBX2
  replace BX := Lib.hid (BX.out.below b)
  clear b hpl
  obtain ⟨zBX, fBX0, fBX1, fBX2⟩ := BX.out
  go_wp2_with fail
  clear zBX fBX0 fBX1 fBX2
  go_loopw [3, 4] (fun o iv w9 => ∃ (k : Nat) (s : ByteArray), k ≤ q.length ∧ iv = .int .i64 k ∧ o = .string s ∧ s = bs (hd ++ ptxt 44 (q.take k)) ∧ (hd ++ ptxt 44 (q.take k)).length ≤ 1101 + 44 * k ∧ Below w2.heap.size w2 w9) (fun _ iv _ => q.length - (intOf iv).toNat)
  case atStart => exact ⟨0, s0, Nat.zero_le _, rfl, rfl, by rw [S0.out]; simp [ptxt], by simpa [ptxt] using hh22, Below.refl _ _⟩
  case round =>
    obtain ⟨k, s, hk, rfl, rfl, hs, hsl, hb⟩ := hrel
    have HS := Lib.hid hs
    clear hs
    have B1 := B.step hb
    have BX1 := Lib.hid (BX.out.below hb)
    by_cases hlt : k < q.length
    · obtain ⟨bb, off, ⟨x1, x2⟩, rfl, hbl, hx, hc0, hc1⟩ := (H2.out.below B1).2 k hlt
      dsimp only at hc0 hc1
      have HX := Lib.hid hx
      obtain ⟨hx1, hx2, hx3, hx4⟩ := HBR.out _ _ hx
      dsimp only at hx1 hx2 hx3 hx4
      have hl1 := smallI hx1 hx2
      have hl2 := smallI hx3 hx4
      have hki : (k : Int) < (q.length : Int) := by omega
      have hk0 : (0 : Int) ≤ (k : Int) := by omega
      clear hx
      obtain ⟨T, hT⟩ : ∃ T, T = hd ++ ptxt 44 (q.take k) := ⟨_, rfl⟩
      rw [← hT] at HS hsl
      have HT := Lib.hid hT
      clear hT
      obtain ⟨s1, hs1, S1⟩ := addX (a := s) (b := { data := #[32] }) HS.out (show _ = bs [32] from rfl) (by simp; omega)
      obtain ⟨s2, hs2, S2⟩ := addX (a := s1) (b := bs (fmtI x1)) S1.out rfl (by simp only [List.length_append, List.length_cons, List.length_nil]; omega)
      obtain ⟨s3, hs3, S3⟩ := addX (a := s2) (b := { data := #[44] }) S2.out (show _ = bs [44] from rfl) (by simp only [List.length_append, List.length_cons, List.length_nil]; omega)
      obtain ⟨s4, hs4, S4⟩ := addX (a := s3) (b := bs (fmtI x2)) S3.out rfl (by simp only [List.length_append, List.length_cons, List.length_nil]; omega)
      have HC : Hid (∀ w9 x, 0 ≤ x → x ≤ 100 → Calls Try.prog 26 #[.int .i64 x] w9 fun e w' => e = .returned (.string (bs (fmtI x))) ∧ Below w9.heap.size w9 w') := Lib.hid fun w9 x a b => spec_FormatInt x w9 (by omega) (by omega)
      obtain ⟨zBX, fBX0, fBX1, fBX2⟩ := BX1.out
      go_wp2_with fail
      refine wp_region_wd (by kernel_rfl) (by kernel_rfl) ?_
      repeat (go_big_quiet_step ((first | (go_at_call 26; exact Calls.wd_of (HC.out _ _ (by assumption) (by assumption))))))
      refine wpQuiet_nil ?_
      intro n1
      have b := n1.h
      go_wp2_with fail
      go_roundw
      case rel =>
        refine ⟨k + 1, s4, by omega, by go_num, rfl, ?_, ?_, hb.step b⟩
        · rw [S4.out, ptxt_succ HX.out, ← List.append_assoc hd, ← HT.out]; simp only [List.append_assoc, List.cons_append, List.nil_append]
        · rw [ptxt_succ HX.out, ← List.append_assoc hd, ← HT.out, List.length_append]; simp only [List.length_append, List.length_cons]; omega
      case measure => simp [intOf]; omega
    · obtain rfl : k = q.length := by omega
      have hki : decide ((q.length : Int) < (q.length : Int)) = false := by simp
      have HF : Hid (s = bs (fmtF (p, l, q))) := Lib.hid (by rw [HE.out, HS.out, List.take_length])
      obtain ⟨zBX, fBX0, fBX1, fBX2⟩ := BX1.out
      go_wp2_with fail
      go_ret
      exact ⟨by rw [← HF.out]; rfl, B1⟩
theorem spec_FormatFramework (W : World) (v : Value) (f : FwT) (h : IsFw W v f) (hn : szFw f ≤ 1048576) : Calls Try.prog 13 #[v] W fun e w' => e = .returned (.string (bs (fmtF f))) ∧ Below W.heap.size W w' := by
  obtain ⟨p, l, q⟩ := f
  obtain ⟨a, cap, c, capc, rfl, hi, hj⟩ := h
  exact specFf_at _ _ _ _ _ _ _ _ hi hj hn

set_option maxHeartbeats 1000000 in
theorem implFf_at (W : World) (p : Int) (a : Option Addr) (cap : Nat) (l : List BarT) (c : Option Addr) (capc : Nat) (q : List PlaceT) (h : BarsAt W a l.length l) (hq : PlacesAt W c q.length q) (hs : l.length + q.length ≤ 1048576) :
    Calls Try.prog 15 #[.agg #[.int .i64 p, .slice a l.length cap, .slice c q.length capc]] W fun e w' => e = .returned (.string (bs (fmtF (p, l, q)))) ∧ Below W.heap.size W w' := by
  have hwd := @Wd.cells
  have HFw : Hid (IsFw W (.agg #[.int .i64 p, .slice a l.length cap, .slice c q.length capc]) (p, l, q)) := Lib.hid ⟨a, cap, c, capc, rfl, h, hq⟩
  have H1 := Lib.hid h
  have H2 := Lib.hid hq
  clear h hq
  have hsz : szFw (p, l, q) ≤ 1048576 := hs
  have hs1 : l.length ≤ 1048576 := by omega
  have hs2 : q.length ≤ 1048576 := by omega
  have B : Below W.heap.size W (W.alloc (.cells #[.int .i64 p, .slice a l.length cap, .slice c q.length capc] 42)) := (Below.refl _ _).alloc (Nat.le_refl _) _
  have BX : Hid (BoxFw (W.alloc (.cells #[.int .i64 p, .slice a l.length cap, .slice c q.length capc] 42)) W.heap.size p a l.length cap c q.length capc) := Lib.hid (BoxFw.at rfl)
  cases hg : isFwB (p, l, q)
  · have HE : Hid (fmtF (p, l, q) = []) := Lib.hid (by unfold fmtF; rw [hg]; rfl)
    go_enter Try.func15, Try.ntmps15
    go_wp2_with fail
    generalize (W.alloc (.cells #[.int .i64 p, .slice a l.length cap, .slice c q.length capc] 42)) = u at *
    obtain ⟨zBX, fBX0, fBX1, fBX2⟩ := BX.out
    refine (impl_IsFramework _ _ (p, l, q) (HFw.out.below B) hsz).mono ?_
    rintro e w1 ⟨rfl, b⟩
    rw [hg]
    go_wp2_with fail
    go_ret
    exact ⟨by rw [HE.out]; rfl, B.step b⟩
  obtain ⟨⟨hp1, hp2⟩, hql, hl15, hgr, hpq⟩ := isFw_facts2 hg
  have hq24 : q.length ≤ 24 := by omega
  have HBR : Hid (∀ (i : Nat) (x : PlaceT), q[i]? = some x → 0 ≤ x.1 ∧ x.1 ≤ 100 ∧ 0 ≤ x.2 ∧ x.2 ≤ 100) := Lib.hid fun i x hx => by
    have := hpq i x.1 x.2 hx
    omega
  have HE : Hid (fmtF (p, l, q) = fmtG (p, l) ++ [32, 97, 116] ++ ptxt 44 q) := Lib.hid (by unfold fmtF; rw [if_pos hg])
  have hpl := fmtG_len (p, l)
  have hh22 : (fmtG (p, l) ++ [32, 97, 116]).length ≤ 1101 := by simp; omega
  have HCG : Hid (∀ w1, Below W.heap.size W w1 → Calls Try.prog 36 #[.agg #[.int .i64 p, .slice a l.length cap]] w1 fun e w' => e = .returned (.string (bs (fmtG (p, l)))) ∧ Below w1.heap.size w1 w') := Lib.hid fun w1 b => impl_FormatGraph w1 _ (p, l) ⟨a, cap, rfl, H1.out.below b⟩ hs1
  clear hpq hgr hql
  go_enter Try.func15, Try.ntmps15
  go_wp2_with fail
  generalize (W.alloc (.cells #[.int .i64 p, .slice a l.length cap, .slice c q.length capc] 42)) = u at *
  obtain ⟨zBX, fBX0, fBX1, fBX2⟩ := BX.out
  refine (impl_IsFramework _ _ (p, l, q) (HFw.out.below B) hsz).mono ?_
  rintro e w1 ⟨rfl, b⟩
  replace B := B.step b
  clear zBX fBX0 fBX1 fBX2
  replace BX := Lib.hid (BX.out.below b)
  rw [hg]
  clear b
  obtain ⟨zBX, fBX0, fBX1, fBX2⟩ := BX.out
  go_wp2_with fail
  refine (HCG.out _ B).mono ?_
  rintro e w2 ⟨rfl, b⟩
  obtain ⟨s0, hs0, S0⟩ := addX (a := bs (fmtG (p, l))) (b := { data := #[32, 97, 116] }) (l := fmtG (p, l)) (r := [32, 97, 116]) rfl rfl (by simp; omega)
  generalize bs (fmtG (p, l)) = tp at *
  generalize fmtG (p, l) ++ [32, 97, 116] = hd at *
  replace B := B.step b
  clear zBX fBX0 fBX1 fBX2
  replace BX := Lib.hid (BX.out.below b)
  clear b hpl
  obtain ⟨zBX, fBX0, fBX1, fBX2⟩ := BX.out
  go_wp2_with fail
  clear zBX fBX0 fBX1 fBX2
  go_loopw [3, 16] (fun o iv w9 => ∃ (k : Nat) (s : ByteArray), k ≤ q.length ∧ iv = .int .i64 k ∧ o = .string s ∧ s = bs (hd ++ ptxt 44 (q.take k)) ∧ (hd ++ ptxt 44 (q.take k)).length ≤ 1101 + 44 * k ∧ Below w2.heap.size w2 w9) (fun _ iv _ => q.length - (intOf iv).toNat)
  case atStart => exact ⟨0, s0, Nat.zero_le _, rfl, rfl, by rw [S0.out]; simp [ptxt], by simpa [ptxt] using hh22, Below.refl _ _⟩
  case round =>
    obtain ⟨k, s, hk, rfl, rfl, hs, hsl, hb⟩ := hrel
    have HS := Lib.hid hs
    clear hs
    have B1 := B.step hb
    have BX1 := Lib.hid (BX.out.below hb)
    by_cases hlt : k < q.length
    · obtain ⟨bb, off, ⟨x1, x2⟩, rfl, hbl, hx, hc0, hc1⟩ := (H2.out.below B1).2 k hlt
      dsimp only at hc0 hc1
      have HX := Lib.hid hx
      obtain ⟨hx1, hx2, hx3, hx4⟩ := HBR.out _ _ hx
      dsimp only at hx1 hx2 hx3 hx4
      have hl1 := smallI hx1 hx2
      have hl2 := smallI hx3 hx4
      have hki : (k : Int) < (q.length : Int) := by omega
      have hk0 : (0 : Int) ≤ (k : Int) := by omega
      clear hx
      obtain ⟨T, hT⟩ : ∃ T, T = hd ++ ptxt 44 (q.take k) := ⟨_, rfl⟩
      rw [← hT] at HS hsl
      have HT := Lib.hid hT
      clear hT
      obtain ⟨s1, hs1, S1⟩ := addX (a := s) (b := { data := #[32] }) HS.out (show _ = bs [32] from rfl) (by simp; omega)
      obtain ⟨s2, hs2, S2⟩ := addX (a := s1) (b := bs (fmtI x1)) S1.out rfl (by simp only [List.length_append, List.length_cons, List.length_nil]; omega)
      obtain ⟨s3, hs3, S3⟩ := addX (a := s2) (b := { data := #[44] }) S2.out (show _ = bs [44] from rfl) (by simp only [List.length_append, List.length_cons, List.length_nil]; omega)
      obtain ⟨s4, hs4, S4⟩ := addX (a := s3) (b := bs (fmtI x2)) S3.out rfl (by simp only [List.length_append, List.length_cons, List.length_nil]; omega)
      have HC : Hid (∀ w9 x, 0 ≤ x → x ≤ 100 → Calls Try.prog 28 #[.int .i64 x] w9 fun e w' => e = .returned (.string (bs (fmtI x))) ∧ Below w9.heap.size w9 w') := Lib.hid fun w9 x a b => impl_FormatInt x w9 (by omega) (by omega)
      have bpl : Below wr.heap.size wr (wr.alloc (.cells #[.int .i64 x1, .int .i64 x2] 67)) := (Below.refl _ _).alloc (Nat.le_refl _) _
      have p0 : (wr.alloc (.cells #[.int .i64 x1, .int .i64 x2] 67)).cell? ⟨wr.heap.size, 0, none⟩ = some (.int .i64 x1) := by simp [World.cell?_alloc_new]
      have p1 : (wr.alloc (.cells #[.int .i64 x1, .int .i64 x2] 67)).cell? ⟨wr.heap.size, 1, none⟩ = some (.int .i64 x2) := by simp [World.cell?_alloc_new]
      have pz : wr.heap.size < (wr.alloc (.cells #[.int .i64 x1, .int .i64 x2] 67)).heap.size := by simp
      go_upto_region 7 with (fail)
      clear hc0 hc1
      have hb4 := hb.step bpl
      generalize (wr.alloc (.cells #[.int .i64 x1, .int .i64 x2] 67)) = w4 at *
      clear bpl
      refine wp_region_wd (by kernel_rfl) (by kernel_rfl) ?_
      repeat (go_big_quiet_step ((first | (go_at_call 28; exact Calls.wd_of (HC.out _ _ (by assumption) (by assumption))))))
      refine wpQuiet_nil ?_
      intro n1
      have b := n1.h
      go_wp2_with fail
      go_roundw
      case rel =>
        refine ⟨k + 1, s4, by omega, by go_num, rfl, ?_, ?_, hb4.step b⟩
        · rw [S4.out, ptxt_succ HX.out, ← List.append_assoc hd, ← HT.out]; simp only [List.append_assoc, List.cons_append, List.nil_append]
        · rw [ptxt_succ HX.out, ← List.append_assoc hd, ← HT.out, List.length_append]; simp only [List.length_append, List.length_cons]; omega
      case measure => simp [intOf]; omega
    · obtain rfl : k = q.length := by omega
      have hki : decide ((q.length : Int) < (q.length : Int)) = false := by simp
      have HF : Hid (s = bs (fmtF (p, l, q))) := Lib.hid (by rw [HE.out, HS.out, List.take_length])
      skip
      go_wp2_with fail
      go_ret
      exact ⟨by rw [← HF.out]; rfl, B1⟩
theorem impl_FormatFramework (W : World) (v : Value) (f : FwT) (h : IsFw W v f) (hn : szFw f ≤ 1048576) : Calls Try.prog 15 #[v] W fun e w' => e = .returned (.string (bs (fmtF f))) ∧ Below W.heap.size W w' := by
  obtain ⟨p, l, q⟩ := f
  obtain ⟨a, cap, c, capc, rfl, hi, hj⟩ := h
  exact implFf_at _ _ _ _ _ _ _ _ hi hj hn
end Go.Proofs.Ytnjecekaenddiaa
