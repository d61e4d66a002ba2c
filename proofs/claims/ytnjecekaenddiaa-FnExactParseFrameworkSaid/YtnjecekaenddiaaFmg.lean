/- FormatGraph of the reference and of the program. No condition but sizes. -/
import Derived.Test.YtnjecekaenddiaaGrC
import Derived.Test.YtnjecekaenddiaaIsf2
import Derived.Test.YtnjecekaenddiaaFmi
import Derived.Test.YtnjecekaenddiaaFmj
namespace Go.Proofs.Ytnjecekaenddiaa
open Go.RowKit
set_option maxRecDepth 100000
set_option linter.unusedVariables false
set_option linter.unusedSimpArgs false


/-- pairs of numbers as a text -/
def ptxt (sep : UInt8) (l : List (Int × Int)) : List UInt8 := l.flatMap fun x => 32 :: (fmtI x.1 ++ sep :: fmtI x.2)
theorem ptxt_succ {sep : UInt8} {l : List (Int × Int)} {k : Nat} {x : Int × Int} (h : l[k]? = some x) : ptxt sep (l.take (k + 1)) = ptxt sep (l.take k) ++ (32 :: (fmtI x.1 ++ sep :: fmtI x.2)) := by
  rw [take_succ_of h]; simp [ptxt]
def fmtG (g : GraphT) : List UInt8 := if isGraphB g = true then fmtI g.1 ++ [58] ++ ptxt 45 g.2 else []
theorem addX {a b : ByteArray} {l r : List UInt8} (ha : a = bs l) (hb : b = bs r) (h : l.length + r.length ≤ 9223372036854775807) : ∃ s, (∀ w, (Op.stringOp .add a b).run Try.prog w = .ok (.string s) w) ∧ Hid (s = bs (l ++ r)) := by
  subst ha; subst hb
  exact ⟨_, addS h, Lib.hid rfl⟩
theorem smallI {x : Int} (h0 : 0 ≤ x) (h : x ≤ 100) : (fmtI x).length ≤ 21 := fmtI_len (by omega) (by omega)

set_option maxHeartbeats 1000000 in
theorem specFg_at (W : World) (p : Int) (a : Option Addr) (cap : Nat) (l : List BarT) (h : BarsAt W a l.length l) (hs : l.length ≤ 1048576) :
    Calls Try.prog 33 #[.agg #[.int .i64 p, .slice a l.length cap]] W fun e w' => e = .returned (.string (bs (fmtG (p, l)))) ∧ Below W.heap.size W w' := by
  have hwd := @Wd.cells
  have HGr : Hid (IsGraph W (.agg #[.int .i64 p, .slice a l.length cap]) (p, l)) := Lib.hid ⟨a, cap, rfl, h⟩
  have H1 := Lib.hid h
  clear h
  have hsz : szGraph (p, l) ≤ 1048576 := hs
  have hsz2 : szGraph (p, l) ≤ 1099511627776 := Nat.le_trans hsz (by decide)
  have B : Below W.heap.size W (W.alloc (.cells #[.int .i64 p, .slice a l.length cap] 39)) := (Below.refl _ _).alloc (Nat.le_refl _) _
  have BG : Hid (BoxGr (W.alloc (.cells #[.int .i64 p, .slice a l.length cap] 39)) W.heap.size p a l.length cap) := Lib.hid (BoxGr.at rfl)
  cases hg : isGraphB (p, l)
  · have HE : Hid (fmtG (p, l) = []) := Lib.hid (by unfold fmtG; rw [hg]; rfl)
    go_enter Try.func33, Try.ntmps33
    go_wp2_with fail
    generalize (W.alloc (.cells #[.int .i64 p, .slice a l.length cap] 39)) = u at *
    obtain ⟨zBG, fBG0, fBG1⟩ := BG.out
    refine (spec_IsGraph_is _ _ (p, l) (HGr.out.below B) hsz2).mono ?_
    rintro e w1 ⟨rfl, b⟩
    rw [hg]
    go_wp2_with fail
    go_ret
    exact ⟨by rw [HE.out]; rfl, B.step b⟩
  obtain ⟨⟨hp1, hp2⟩, hl24⟩ := isGraphB_bd hg
  have HBR : Hid (∀ (i : Nat) (x : BarT), l[i]? = some x → 0 ≤ x.1 ∧ x.1 ≤ 100 ∧ 0 ≤ x.2 ∧ x.2 ≤ 100) := Lib.hid fun i x hx => by
    have := isGraphB_bar hg hx
    omega
  have HE : Hid (fmtG (p, l) = fmtI p ++ [58] ++ ptxt 45 l) := Lib.hid (by unfold fmtG; rw [if_pos hg])
  have hpl := smallI (x := p) (by omega) (by omega)
  have hh22 : (fmtI p ++ [58]).length ≤ 22 := by simp; omega
  go_enter Try.func33, Try.ntmps33
  go_wp2_with fail
  generalize (W.alloc (.cells #[.int .i64 p, .slice a l.length cap] 39)) = u at *
  obtain ⟨zBG, fBG0, fBG1⟩ := BG.out
  refine (spec_IsGraph_is _ _ (p, l) (HGr.out.below B) hsz2).mono ?_
  rintro e w1 ⟨rfl, b⟩
  replace B := B.step b
  clear zBG fBG0 fBG1
  replace BG := Lib.hid (BG.out.below b)
  rw [hg]
  clear b
  obtain ⟨zBG, fBG0, fBG1⟩ := BG.out
  go_wp2_with fail
  refine (spec_FormatInt p _ (by omega) (by omega)).mono ?_
  rintro e w2 ⟨rfl, b⟩
  obtain ⟨s0, hs0, S0⟩ := addX (a := bs (fmtI p)) (b := { data := #[58] }) (l := fmtI p) (r := [58]) rfl rfl (by simp; omega)
  generalize bs (fmtI p) = tp at *
  generalize fmtI p ++ [58] = hd at *
  replace B := B.step b
  clear zBG fBG0 fBG1
  replace BG := Lib.hid (BG.out.below b)
  clear b hpl
  obtain ⟨zBG, fBG0, fBG1⟩ := BG.out
  go_wp2_with fail
  clear zBG fBG0 fBG1
  go_loopw [3, 4] (fun o iv w9 => ∃ (k : Nat) (s : ByteArray), k ≤ l.length ∧ iv = .int .i64 k ∧ o = .string s ∧ s = bs (hd ++ ptxt 45 (l.take k)) ∧ (hd ++ ptxt 45 (l.take k)).length ≤ 22 + 44 * k ∧ Below w2.heap.size w2 w9) (fun _ iv _ => l.length - (intOf iv).toNat)
  case atStart => exact ⟨0, s0, Nat.zero_le _, rfl, rfl, by rw [S0.out]; simp [ptxt], by simpa [ptxt] using hh22, Below.refl _ _⟩
  case round =>
    obtain ⟨k, s, hk, rfl, rfl, hs, hsl, hb⟩ := hrel
    have HS := Lib.hid hs
    clear hs
    have B1 := B.step hb
    have BG1 := Lib.hid (BG.out.below hb)
    by_cases hlt : k < l.length
    · obtain ⟨bb, off, ⟨x1, x2⟩, rfl, hbl, hx, hc0, hc1⟩ := (H1.out.below B1).2 k hlt
      dsimp only at hc0 hc1
      have HX := Lib.hid hx
      obtain ⟨hx1, hx2, hx3, hx4⟩ := HBR.out _ _ hx
      dsimp only at hx1 hx2 hx3 hx4
      have hl1 := smallI hx1 hx2
      have hl2 := smallI hx3 hx4
      have hki : (k : Int) < (l.length : Int) := by omega
      have hk0 : (0 : Int) ≤ (k : Int) := by omega
      clear hx
      obtain ⟨T, hT⟩ : ∃ T, T = hd ++ ptxt 45 (l.take k) := ⟨_, rfl⟩
      rw [← hT] at HS hsl
      have HT := Lib.hid hT
      clear hT
      obtain ⟨s1, hs1, S1⟩ := addX (a := s) (b := { data := #[32] }) HS.out (show _ = bs [32] from rfl) (by simp; omega)
      obtain ⟨s2, hs2, S2⟩ := addX (a := s1) (b := bs (fmtI x1)) S1.out rfl (by simp only [List.length_append, List.length_cons, List.length_nil]; omega)
      obtain ⟨s3, hs3, S3⟩ := addX (a := s2) (b := { data := #[45] }) S2.out (show _ = bs [45] from rfl) (by simp only [List.length_append, List.length_cons, List.length_nil]; omega)
      obtain ⟨s4, hs4, S4⟩ := addX (a := s3) (b := bs (fmtI x2)) S3.out rfl (by simp only [List.length_append, List.length_cons, List.length_nil]; omega)
      have HC : Hid (∀ w9 x, 0 ≤ x → x ≤ 100 → Calls Try.prog 26 #[.int .i64 x] w9 fun e w' => e = .returned (.string (bs (fmtI x))) ∧ Below w9.heap.size w9 w') := Lib.hid fun w9 x a b => spec_FormatInt x w9 (by omega) (by omega)
      obtain ⟨zBG, fBG0, fBG1⟩ := BG1.out
      go_wp2_with fail
      refine wp_region_wd (by kernel_rfl) (by kernel_rfl) ?_
      repeat (go_big_quiet_step ((first | (go_at_call 26; exact Calls.wd_of (HC.out _ _ (by assumption) (by assumption))))))
      refine wpQuiet_nil ?_
      intro n1
      have b := n1.h
      go_wp2_with fail
      go_roundw
      case rel =>
        refine ⟨k + 1, s4, by omega, by go_num, rfl, ?_, ?_, hb.step b⟩
        · rw [S4.out, ptxt_succ HX.out, ← List.append_assoc hd, ← HT.out]; simp only [List.append_assoc, List.cons_append, List.nil_append]
        · rw [ptxt_succ HX.out, ← List.append_assoc hd, ← HT.out, List.length_append]; simp only [List.length_append, List.length_cons]; omega
      case measure => simp [intOf]; omega
    · obtain rfl : k = l.length := by omega
      have hki : decide ((l.length : Int) < (l.length : Int)) = false := by simp
      have HF : Hid (s = bs (fmtG (p, l))) := Lib.hid (by rw [HE.out, HS.out, List.take_length])
      obtain ⟨zBG, fBG0, fBG1⟩ := BG1.out
      go_wp2_with fail
      go_ret
      exact ⟨by rw [← HF.out]; rfl, B1⟩
theorem spec_FormatGraph (W : World) (v : Value) (f : GraphT) (h : IsGraph W v f) (hn : szGraph f ≤ 1048576) : Calls Try.prog 33 #[v] W fun e w' => e = .returned (.string (bs (fmtG f))) ∧ Below W.heap.size W w' := by
  obtain ⟨p, l⟩ := f
  obtain ⟨a, cap, rfl, hi⟩ := h
  exact specFg_at _ _ _ _ _ hi hn

set_option maxHeartbeats 1000000 in
theorem implFg_at (W : World) (p : Int) (a : Option Addr) (cap : Nat) (l : List BarT) (h : BarsAt W a l.length l) (hs : l.length ≤ 1048576) :
    Calls Try.prog 36 #[.agg #[.int .i64 p, .slice a l.length cap]] W fun e w' => e = .returned (.string (bs (fmtG (p, l)))) ∧ Below W.heap.size W w' := by
  have hwd := @Wd.cells
  have HGr : Hid (IsGraph W (.agg #[.int .i64 p, .slice a l.length cap]) (p, l)) := Lib.hid ⟨a, cap, rfl, h⟩
  have H1 := Lib.hid h
  clear h
  have hsz : szGraph (p, l) ≤ 1048576 := hs
  have hsz2 : szGraph (p, l) ≤ 1099511627776 := Nat.le_trans hsz (by decide)
  have B : Below W.heap.size W (W.alloc (.cells #[.int .i64 p, .slice a l.length cap] 39)) := (Below.refl _ _).alloc (Nat.le_refl _) _
  have BG : Hid (BoxGr (W.alloc (.cells #[.int .i64 p, .slice a l.length cap] 39)) W.heap.size p a l.length cap) := Lib.hid (BoxGr.at rfl)
  cases hg : isGraphB (p, l)
  · have HE : Hid (fmtG (p, l) = []) := Lib.hid (by unfold fmtG; rw [hg]; rfl)
    go_enter Try.func36, Try.ntmps36
    go_wp2_with fail
    generalize (W.alloc (.cells #[.int .i64 p, .slice a l.length cap] 39)) = u at *
    obtain ⟨zBG, fBG0, fBG1⟩ := BG.out
    refine (impl_IsGraph_is _ _ (p, l) (HGr.out.below B) hsz2).mono ?_
    rintro e w1 ⟨rfl, b⟩
    rw [hg]
    go_wp2_with fail
    go_ret
    exact ⟨by rw [HE.out]; rfl, B.step b⟩
  obtain ⟨⟨hp1, hp2⟩, hl24⟩ := isGraphB_bd hg
  have HBR : Hid (∀ (i : Nat) (x : BarT), l[i]? = some x → 0 ≤ x.1 ∧ x.1 ≤ 100 ∧ 0 ≤ x.2 ∧ x.2 ≤ 100) := Lib.hid fun i x hx => by
    have := isGraphB_bar hg hx
    omega
  have HE : Hid (fmtG (p, l) = fmtI p ++ [58] ++ ptxt 45 l) := Lib.hid (by unfold fmtG; rw [if_pos hg])
  have hpl := smallI (x := p) (by omega) (by omega)
  have hh22 : (fmtI p ++ [58]).length ≤ 22 := by simp; omega
  go_enter Try.func36, Try.ntmps36
  go_wp2_with fail
  generalize (W.alloc (.cells #[.int .i64 p, .slice a l.length cap] 39)) = u at *
  obtain ⟨zBG, fBG0, fBG1⟩ := BG.out
  refine (impl_IsGraph_is _ _ (p, l) (HGr.out.below B) hsz2).mono ?_
  rintro e w1 ⟨rfl, b⟩
  replace B := B.step b
  clear zBG fBG0 fBG1
  replace BG := Lib.hid (BG.out.below b)
  rw [hg]
  clear b
  obtain ⟨zBG, fBG0, fBG1⟩ := BG.out
  go_wp2_with fail
  refine (impl_FormatInt p _ (by omega) (by omega)).mono ?_
  rintro e w2 ⟨rfl, b⟩
  obtain ⟨s0, hs0, S0⟩ := addX (a := bs (fmtI p)) (b := { data := #[58] }) (l := fmtI p) (r := [58]) rfl rfl (by simp; omega)
  generalize bs (fmtI p) = tp at *
  generalize fmtI p ++ [58] = hd at *
  replace B := B.step b
  clear zBG fBG0 fBG1
  replace BG := Lib.hid (BG.out.below b)
  clear b hpl
  obtain ⟨zBG, fBG0, fBG1⟩ := BG.out
  go_wp2_with fail
  clear zBG fBG0 fBG1
  go_loopw [3, 16] (fun o iv w9 => ∃ (k : Nat) (s : ByteArray), k ≤ l.length ∧ iv = .int .i64 k ∧ o = .string s ∧ s = bs (hd ++ ptxt 45 (l.take k)) ∧ (hd ++ ptxt 45 (l.take k)).length ≤ 22 + 44 * k ∧ Below w2.heap.size w2 w9) (fun _ iv _ => l.length - (intOf iv).toNat)
  case atStart => exact ⟨0, s0, Nat.zero_le _, rfl, rfl, by rw [S0.out]; simp [ptxt], by simpa [ptxt] using hh22, Below.refl _ _⟩
  case round =>
    obtain ⟨k, s, hk, rfl, rfl, hs, hsl, hb⟩ := hrel
    have HS := Lib.hid hs
    clear hs
    have B1 := B.step hb
    have BG1 := Lib.hid (BG.out.below hb)
    by_cases hlt : k < l.length
    · obtain ⟨bb, off, ⟨x1, x2⟩, rfl, hbl, hx, hc0, hc1⟩ := (H1.out.below B1).2 k hlt
      dsimp only at hc0 hc1
      have HX := Lib.hid hx
      obtain ⟨hx1, hx2, hx3, hx4⟩ := HBR.out _ _ hx
      dsimp only at hx1 hx2 hx3 hx4
      have hl1 := smallI hx1 hx2
      have hl2 := smallI hx3 hx4
      have hki : (k : Int) < (l.length : Int) := by omega
      have hk0 : (0 : Int) ≤ (k : Int) := by omega
      clear hx
      obtain ⟨T, hT⟩ : ∃ T, T = hd ++ ptxt 45 (l.take k) := ⟨_, rfl⟩
      rw [← hT] at HS hsl
      have HT := Lib.hid hT
      clear hT
      obtain ⟨s1, hs1, S1⟩ := addX (a := s) (b := { data := #[32] }) HS.out (show _ = bs [32] from rfl) (by simp; omega)
      obtain ⟨s2, hs2, S2⟩ := addX (a := s1) (b := bs (fmtI x1)) S1.out rfl (by simp only [List.length_append, List.length_cons, List.length_nil]; omega)
      obtain ⟨s3, hs3, S3⟩ := addX (a := s2) (b := { data := #[45] }) S2.out (show _ = bs [45] from rfl) (by simp only [List.length_append, List.length_cons, List.length_nil]; omega)
      obtain ⟨s4, hs4, S4⟩ := addX (a := s3) (b := bs (fmtI x2)) S3.out rfl (by simp only [List.length_append, List.length_cons, List.length_nil]; omega)
      have HC : Hid (∀ w9 x, 0 ≤ x → x ≤ 100 → Calls Try.prog 28 #[.int .i64 x] w9 fun e w' => e = .returned (.string (bs (fmtI x))) ∧ Below w9.heap.size w9 w') := Lib.hid fun w9 x a b => impl_FormatInt x w9 (by omega) (by omega)
      have bpl : Below wr.heap.size wr (wr.alloc (.cells #[.int .i64 x1, .int .i64 x2] 87)) := (Below.refl _ _).alloc (Nat.le_refl _) _
      have p0 : (wr.alloc (.cells #[.int .i64 x1, .int .i64 x2] 87)).cell? ⟨wr.heap.size, 0, none⟩ = some (.int .i64 x1) := by simp [World.cell?_alloc_new]
      have p1 : (wr.alloc (.cells #[.int .i64 x1, .int .i64 x2] 87)).cell? ⟨wr.heap.size, 1, none⟩ = some (.int .i64 x2) := by simp [World.cell?_alloc_new]
      have pz : wr.heap.size < (wr.alloc (.cells #[.int .i64 x1, .int .i64 x2] 87)).heap.size := by simp
      go_upto_region 7 with (fail)
      clear hc0 hc1
      have hb4 := hb.step bpl
      generalize (wr.alloc (.cells #[.int .i64 x1, .int .i64 x2] 87)) = w4 at *
      clear bpl
      refine wp_region_wd (by kernel_rfl) (by kernel_rfl) ?_
      repeat (go_big_quiet_step ((first | (go_at_call 28; exact Calls.wd_of (HC.out _ _ (by assumption) (by assumption))))))
      refine wpQuiet_nil ?_
      intro n1
      have b := n1.h
      go_wp2_with fail
      go_roundw
      case rel =>
        refine ⟨k + 1, s4, by omega, by go_num, rfl, ?_, ?_, hb4.step b⟩
        · rw [S4.out, ptxt_succ HX.out, ← List.append_assoc hd, ← HT.out]; simp only [List.append_assoc, List.cons_append, List.nil_append]
        · rw [ptxt_succ HX.out, ← List.append_assoc hd, ← HT.out, List.length_append]; simp only [List.length_append, List.length_cons]; omega
      case measure => simp [intOf]; omega
    · obtain rfl : k = l.length := by omega
      have hki : decide ((l.length : Int) < (l.length : Int)) = false := by simp
      have HF : Hid (s = bs (fmtG (p, l))) := Lib.hid (by rw [HE.out, HS.out, List.take_length])
      skip
      go_wp2_with fail
      go_ret
      exact ⟨by rw [← HF.out]; rfl, B1⟩
theorem impl_FormatGraph (W : World) (v : Value) (f : GraphT) (h : IsGraph W v f) (hn : szGraph f ≤ 1048576) : Calls Try.prog 36 #[v] W fun e w' => e = .returned (.string (bs (fmtG f))) ∧ Below W.heap.size W w' := by
  obtain ⟨p, l⟩ := f
  obtain ⟨a, cap, rfl, hi⟩ := h
  exact implFg_at _ _ _ _ _ hi hn

theorem ptxt_len {sep : UInt8} {l : List (Int × Int)} (h : ∀ x ∈ l, 0 ≤ x.1 ∧ x.1 ≤ 100 ∧ 0 ≤ x.2 ∧ x.2 ≤ 100) : (ptxt sep l).length ≤ 44 * l.length := by
  induction l with
  | nil => simp [ptxt]
  | cons y t ih =>
    have h1 := ih fun x hx => h x (List.mem_cons_of_mem _ hx)
    obtain ⟨a, b, c, d⟩ := h y List.mem_cons_self
    have e1 := smallI a b
    have e2 := smallI c d
    have e3 : ptxt sep (y :: t) = (32 :: (fmtI y.1 ++ sep :: fmtI y.2)) ++ ptxt sep t := by simp [ptxt]
    rw [e3, List.length_append]; simp only [List.length_cons, List.length_append]; omega
theorem fmtG_len (g : GraphT) : (fmtG g).length ≤ 1098 := by
  obtain ⟨p, l⟩ := g
  unfold fmtG
  split
  · rename_i h
    obtain ⟨⟨hp1, hp2⟩, hl24⟩ := isGraphB_bd h
    have h1 := smallI (x := p) (by omega) (by omega)
    have h2 : (ptxt 45 l).length ≤ 44 * l.length := ptxt_len fun x hx => by
      obtain ⟨i, hi⟩ := List.getElem?_of_mem hx
      have := isGraphB_bar h hi
      omega
    simp only [List.length_append, List.length_cons, List.length_nil]; omega
  · simp
def fmtF (f : FwT) : List UInt8 := if isFwB f = true then fmtG (f.1, f.2.1) ++ [32, 97, 116] ++ ptxt 44 f.2.2 else []
end Go.Proofs.Ytnjecekaenddiaa
