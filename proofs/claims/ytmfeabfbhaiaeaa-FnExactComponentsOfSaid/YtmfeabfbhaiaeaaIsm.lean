/- IsImplied of the reference. -/
import Derived.Test.YtmfeabfbhaiaeaaL6r
import Derived.Test.YtmfeabfbhaiaeaaIim
import Derived.BigRegion
import Derived.Lib.MinMax
namespace Go.Proofs.Ytmfeabfbhaiaeaa
open Go.RowKit Mtr
set_option maxRecDepth 100000
set_option linter.unusedVariables false
set_option linter.unusedSimpArgs false

theorem rk_mono {n : Nat} {b1 b2 : List BarT} (h1 : Bok n b1) (h2 : Bok n b2) (hn : n ≤ 8) (hsub : ∀ x, x ∈ b1 → x ∈ b2) : rk n b1 ≤ rk n b2 := by
  obtain ⟨p1, p2⟩ := play_ind h1 hn b1.length (Nat.le_refl _)
  obtain ⟨q1, q2⟩ := play_ind h2 hn b2.length (Nat.le_refl _)
  have i1 := playTo_ok (k := 2) (l := 3) (by omega) h1 hn ⟨by omega, by omega⟩ b1.length (Nat.le_refl _)
  have i2 := playTo_ok (k := 2) (l := 3) (by omega) h2 hn ⟨by omega, by omega⟩ b2.length (Nat.le_refl _)
  have bk : ∀ (b : List BarT), Bok n b → ∀ x ∈ b, Bk n x := fun b hb x hx => by
    obtain ⟨i, hi⟩ := List.getElem?_of_mem hx
    have := hb i (lt_of_getElem? hi)
    unfold gB at this
    rw [hi] at this
    exact this
  have := ind_le q1 (fun e he => bk b2 h2 e (i2.mem (Nat.le_refl _) e he)) p1 (fun e he => by
    have hm := i1.mem (Nat.le_refl _) e he
    refine ⟨bk b1 h1 e hm, ?_⟩
    obtain ⟨i, hi⟩ := List.getElem?_of_mem (hsub e hm)
    have := q2 i (lt_of_getElem? hi)
    unfold gB at this
    rw [hi] at this
    exact this)
  unfold plB at this
  rw [List.length_map, List.length_map] at this
  exact this
theorem bok_mem {n : Nat} {l : List BarT} : Bok n l ↔ ∀ x ∈ l, 0 ≤ x.1 ∧ x.1 < x.2 ∧ x.2 < n := by
  constructor
  · intro h x hx
    obtain ⟨i, hi⟩ := List.getElem?_of_mem hx
    have := h i (lt_of_getElem? hi)
    unfold gB at this
    rw [hi] at this
    exact this
  · intro h e he
    have := h _ (List.getElem_mem he)
    unfold gB
    rw [List.getElem?_eq_getElem he]
    exact this
theorem bok_put {n : Nat} {l : List BarT} {x : BarT} (h : Bok n (l ++ [x])) : Bok n (putL l x) := by
  rw [bok_mem] at h ⊢
  intro z hz
  rw [mem_putL] at hz
  exact h z (by rcases hz with rfl | hz <;> simp [*])
theorem rk_put {n : Nat} {l : List BarT} {x : BarT} (hn : n ≤ 8) (h : Bok n (l ++ [x])) : rk n (putL l x) = rk n (l ++ [x]) :=
  play_perm (bok_put h) h hn fun z => by rw [mem_putL]; simp [or_comm]

set_option maxHeartbeats 16000000 in
theorem specImp_at (W : World) (p : Int) (a : Option Addr) (cap : Nat) (l : List BarT) (h : BarsAt W a l.length l) (hs : l.length ≤ 1048576) (x y : Int) :
    Calls Try.prog 88 #[.agg #[.int .i64 p, .slice a l.length cap], .int .i64 x, .int .i64 y] W fun e w' => e = .returned (.bool (impB (p, l) x y)) ∧ Below W.heap.size W w' := by
  have hwd := @Wd.cells
  have HGr : Hid (IsGraph W (.agg #[.int .i64 p, .slice a l.length cap]) (p, l)) := Lib.hid ⟨a, cap, rfl, h⟩
  have H1 := Lib.hid h
  clear h
  have hsz : szGraph (p, l) ≤ 1048576 := hs
  have hsz2 : szGraph (p, l) ≤ 1099511627776 := Nat.le_trans hsz (by decide)
  have B : Below W.heap.size W (W.alloc (.cells #[.int .i64 p, .slice a l.length cap] 32)) := (Below.refl _ _).alloc (Nat.le_refl _) _
  have BG : Hid (BoxGr (W.alloc (.cells #[.int .i64 p, .slice a l.length cap] 32)) W.heap.size p a l.length cap) := Lib.hid (BoxGr.at rfl)
  have HIG := Lib.hid (specIsGraph_at (W.alloc (.cells #[.int .i64 p, .slice a l.length cap] 32)) p a cap l (H1.out.below B) (by omega))
  go_enter Try.func88, Try.ntmps88
  obtain ⟨zBG, fBG0, fBG1⟩ := BG.out
  cases hg : isGraphB (p, l)
  · have HE := Lib.hid (ret_bool (show impB (p, l) x y = false by simp [impB, hg]))
    rw [hg] at HIG
    clear hg
    go_wp2_with fail
    refine HIG.out.mono ?_
    rintro e w1 ⟨rfl, b1⟩
    go_wp2_with fail
    go_ret
    exact ⟨HE.out.symm, B.step b1⟩
  rw [hg] at HIG
  by_cases c1 : x < 0
  · have HE := Lib.hid (ret_bool (show impB (p, l) x y = false by simp [impB, inB]; omega))
    clear hg
    go_wp2_with fail
    refine HIG.out.mono ?_
    rintro e w1 ⟨rfl, b1⟩
    go_wp2_with fail
    go_ret
    exact ⟨HE.out.symm, B.step b1⟩
  have c1' : 0 ≤ x := by omega
  by_cases c2 : y < 0
  · have HE := Lib.hid (ret_bool (show impB (p, l) x y = false by simp [impB, inB]; omega))
    clear hg
    go_wp2_with fail
    refine HIG.out.mono ?_
    rintro e w1 ⟨rfl, b1⟩
    go_wp2_with fail
    go_ret
    exact ⟨HE.out.symm, B.step b1⟩
  have c2' : 0 ≤ y := by omega
  by_cases c3 : p ≤ x
  · have HE := Lib.hid (ret_bool (show impB (p, l) x y = false by simp [impB, inB]; omega))
    clear hg
    go_wp2_with fail
    refine HIG.out.mono ?_
    rintro e w1 ⟨rfl, b1⟩
    obtain ⟨zB1, gB0, gB1⟩ := BG.out.below b1
    clear zBG fBG0 fBG1
    go_wp2_with fail
    go_ret
    exact ⟨HE.out.symm, B.step b1⟩
  have c3' : x < p := by omega
  by_cases c4 : p ≤ y
  · have HE := Lib.hid (ret_bool (show impB (p, l) x y = false by simp [impB, inB]; omega))
    clear hg
    go_wp2_with fail
    refine HIG.out.mono ?_
    rintro e w1 ⟨rfl, b1⟩
    obtain ⟨zB1, gB0, gB1⟩ := BG.out.below b1
    clear zBG fBG0 fBG1
    go_wp2_with fail
    go_ret
    exact ⟨HE.out.symm, B.step b1⟩
  have c4' : y < p := by omega
  have hbd := isGraphB_bd hg
  obtain ⟨n, rfl⟩ := Int.eq_ofNat_of_zero_le (show 0 ≤ p by omega)
  obtain ⟨L2, hL2⟩ : ∃ L2, L2 = putL l (min x y, max x y) := ⟨_, rfl⟩
  have hlen : L2.length ≤ l.length + 1 := by rw [hL2]; exact Nat.le_of_eq (putL_length _ _)
  have HPU := Lib.hid fun (w9 : World) (b9 : Below (W.alloc (.cells #[.int .i64 (n : Int), .slice a l.length cap] 32)).heap.size (W.alloc (.cells #[.int .i64 (n : Int), .slice a l.length cap] 32)) w9) => l2Put_at w9 n a cap l (H1.out.below (B.step b9)) (by omega) (min x y) (max x y)
  rw [← hL2] at HPU
  have hn8 : 1 ≤ n ∧ n ≤ 8 := by omega
  have hbk : x ≠ y → Bok n (l ++ [(min x y, max x y)]) := fun hne => bok_snoc (bok_graph hg) (by omega) (by omega) (by omega)
  have HK1 := Lib.hid fun (w9 : World) (b9 : Below (W.alloc (.cells #[.int .i64 (n : Int), .slice a l.length cap] 32)).heap.size (W.alloc (.cells #[.int .i64 (n : Int), .slice a l.length cap] 32)) w9) => l6Rank_at w9 n hn8 a cap l (H1.out.below (B.step b9)) (by omega) (bok_graph hg)
  have HK2 := Lib.hid fun (hne : x ≠ y) (w9 : World) (a2 : Option Addr) (c2 : Nat) (i : BarsAt w9 a2 L2.length L2) => l6Rank_at w9 n hn8 a2 c2 L2 i (by omega) (hL2 ▸ bok_put (hbk hne))
  have HIE := Lib.hid (show impB ((n : Int), l) x y = (decide (x = y) || decide (rk n L2 = rk n l)) by
    have e1 : inB x 0 ((n : Int) - 1) = true := by simp [inB]; omega
    have e2 : inB y 0 ((n : Int) - 1) = true := by simp [inB]; omega
    by_cases hxy : x = y
    · simp [impB, hg, e1, e2, hxy]
    · have e3 := rk_put hn8.2 (hbk hxy)
      have e4 := rk_mono (bok_graph hg) (hbk hxy) hn8.2 (fun z hz => by simp [hz])
      rw [hL2, e3]
      simp only [impB, hg, e1, e2, hxy, Int.toNat_natCast, Bool.true_and, decide_false, Bool.false_or]
      by_cases h5 : rk n l < rk n (l ++ [(min x y, max x y)])
      · simp [h5]; omega
      · simp [h5]; omega)
  clear hg hbd hbk hL2
  go_wp2_with fail
  refine HIG.out.mono ?_
  rintro e w1 ⟨rfl, b1⟩
  obtain ⟨zB1, gB0, gB1⟩ := BG.out.below b1
  clear zBG fBG0 fBG1
  go_wp2_with fail
  refine (HPU.out _ b1).mono ?_
  rintro e w2 ⟨v, rfl, ⟨vb, ⟨a2, cp2, rfl, rfl⟩, ho⟩, b2⟩
  dsimp only at ho ⊢
  have HO := Lib.hid ho
  have B12 := b1.step b2
  have BG2 := Lib.hid (BG.out.below B12)
  have BX2 : Hid (BoxGr (w2.alloc (.cells #[.int .i64 (n : Int), .slice a2 L2.length cp2] 32)) w2.heap.size n a2 L2.length cp2) := Lib.hid (BoxGr.at rfl)
  have b3 := belAl w2 (.cells #[.int .i64 (n : Int), .slice a2 L2.length cp2] 32)
  clear ho zB1 gB0 gB1 HPU
  go_wp2_with fail
  generalize w2.alloc (.cells #[.int .i64 (n : Int), .slice a2 L2.length cp2] 32) = w3 at *
  obtain ⟨zX, fX0, fX1⟩ := BX2.out
  obtain ⟨zG, fG0, fG1⟩ := BG2.out.below b3
  by_cases hxy : x = y
  · have HE := Lib.hid (ret_bool (show impB ((n : Int), l) x y = true by rw [HIE.out]; simp [hxy]))
    refine wp_region_wd (by kernel_rfl) (by kernel_rfl) ?_
    repeat (go_big_quiet_step (fail))
    refine wpQuiet_nil ?_
    intro n1
    have b9 := n1.h
    go_wp2_with fail
    go_ret
    exact ⟨HE.out.symm, (B.step (B12.step b3)).step b9⟩
  · obtain ⟨a9, c9, he9, hi9⟩ := HO.out.form
    simp only [Value.slice.injEq, true_and] at he9
    obtain ⟨rfl, rfl⟩ := he9
    have HC1 := Lib.hid fun (w9 : World) (b9 : Below w3.heap.size w3 w9) => HK1.out w9 (B12.step (b3.step b9))
    have HC2 := Lib.hid fun (w9 : World) (b9 : Below w3.heap.size w3 w9) => HK2.out hxy w9 a2 cp2 (hi9.below (b3.step b9))
    have HIE2 := HIE.out
    have hbe : (x == y) = false := by simp [hxy]
    unfold rk at HIE2
    generalize (playP n L2 2 3).2.2.length = r2 at *
    generalize (playP n l 2 3).2.2.length = r1 at *
    have HCC := Lib.hid fun (w9 : World) (b9 : Below w3.heap.size w3 w9) (v : Value) (r : Nat) (hv : (v = .agg #[.int .i64 (n : Int), .slice a2 L2.length cp2] ∧ r = r2) ∨ (v = .agg #[.int .i64 (n : Int), .slice a l.length cap] ∧ r = r1)) => show Calls Try.prog 110 #[v] w9 fun e w' => e = .returned (.int .i64 (r : Int)) ∧ Below w9.heap.size w9 w' by
      rcases hv with ⟨rfl, rfl⟩ | ⟨rfl, rfl⟩
      · exact HC2.out w9 b9
      · exact HC1.out w9 b9
    clear hi9 HK1 HK2 HIE HC1 HC2
    by_cases hr : r2 = r1
    · subst hr
      have HE := Lib.hid (ret_bool (show impB ((n : Int), l) x y = true by rw [HIE2]; simp))
      clear HIE2
      refine wp_region_wd (by kernel_rfl) (by kernel_rfl) ?_
      repeat (go_big_quiet_step ((go_at_call 110; first | exact Calls.wd_of (HCC.out _ (Wd.h _) _ _ (.inl ⟨rfl, rfl⟩)) | exact Calls.wd_of (HCC.out _ (Wd.h _) _ _ (.inr ⟨rfl, rfl⟩)))))
      refine wpQuiet_nil ?_
      intro n1
      have b9 := n1.h
      go_wp2_with fail
      go_ret
      exact ⟨HE.out.symm, (B.step (B12.step b3)).step b9⟩
    · have HE := Lib.hid (ret_bool (show impB ((n : Int), l) x y = false by rw [HIE2]; simp [hxy, hr]))
      have hre : ((r2 : Int) == (r1 : Int)) = false := by simp; omega
      clear HIE2
      refine wp_region_wd (by kernel_rfl) (by kernel_rfl) ?_
      repeat (go_big_quiet_step ((go_at_call 110; first | exact Calls.wd_of (HCC.out _ (Wd.h _) _ _ (.inl ⟨rfl, rfl⟩)) | exact Calls.wd_of (HCC.out _ (Wd.h _) _ _ (.inr ⟨rfl, rfl⟩)))))
      refine wpQuiet_nil ?_
      intro n1
      have b9 := n1.h
      go_wp2_with fail
      go_ret
      exact ⟨HE.out.symm, (B.step (B12.step b3)).step b9⟩
end Go.Proofs.Ytmfeabfbhaiaeaa
