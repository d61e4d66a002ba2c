/- A bar taken out of a graph by the program. No condition but sizes. -/
import Derived.Test.YtfdhbbhfilkafaaGreatStp4
import Derived.OwnWalk
namespace Go.Proofs.YtfdhbbhfilkafaaGreat
open Go.RowKit
set_option maxRecDepth 100000
set_option linter.unusedVariables false
set_option linter.unusedSimpArgs false

set_option maxHeartbeats 8000000 in
theorem implRem_at (W : World) (p : Int) (a : Option Addr) (cap : Nat) (l : List BarT) (h : BarsAt W a l.length l) (hs : l.length ≤ 1048576) (hg : isGraphB (p, l) = true) (k : Nat) (hk : k < l.length) :
    Calls Tryz.prog 104 #[.agg #[.int .i64 p, .slice a l.length cap], .int .i64 (k : Int)] W (RetGB W (p, cutG l k) true) := by
  have hwd := @Wd.cells
  have HGr : Hid (IsGraph W (.agg #[.int .i64 p, .slice a l.length cap]) (p, l)) := Lib.hid ⟨a, cap, rfl, h⟩
  have H1 := Lib.hid h
  clear h
  have hsz : szGraph (p, l) ≤ 1048576 := hs
  have hsz2 : szGraph (p, l) ≤ 1099511627776 := Nat.le_trans hsz (by decide)
  have B : Below W.heap.size W (W.alloc (.cells #[.int .i64 p, .slice a l.length cap] 26)) := (Below.refl _ _).alloc (Nat.le_refl _) _
  have BG : Hid (BoxGr (W.alloc (.cells #[.int .i64 p, .slice a l.length cap] 26)) W.heap.size p a l.length cap) := Lib.hid (BoxGr.at rfl)
  have HG := Lib.hid hg
  clear hg
  have HZ : Hid (Zer2 ((W.alloc (.cells #[.int .i64 p, .slice a l.length cap] 26)).alloc (.cells #[.int .i64 0, .slice none 0 0] 26)) (W.heap.size + 1)) := Lib.hid (by have := Zer2.at (W.alloc (.cells #[.int .i64 p, .slice a l.length cap] 26)) 26; rwa [World.size_alloc] at this)
  have ba := belAl (W.alloc (.cells #[.int .i64 p, .slice a l.length cap] 26)) (.cells #[.int .i64 0, .slice none 0 0] 26)
  have hz : W.heap.size + 2 ≤ ((W.alloc (.cells #[.int .i64 p, .slice a l.length cap] 26)).alloc (.cells #[.int .i64 0, .slice none 0 0] 26)).heap.size := by simp
  replace B := B.step ba
  replace BG := Lib.hid (BG.out.below ba)
  clear ba
  have hwi : Hid (∀ w, Calls Tryz.prog 55 #[.int .i64 (k : Int), .int .i64 0, .int .i64 ((l.length : Int) - 1)] w fun e w' => e = .returned (.bool true) ∧ w = w') := Lib.hid fun w => by
    have := within_any (k : Int) 0 ((l.length : Int) - 1) w
    rwa [show inB (k : Int) 0 ((l.length : Int) - 1) = true by simp [inB]; omega] at this
  have hsub := IntWalk.i64_in ((l.length : Int) - 1) (by omega)
  go_enter Tryz.func104, Tryz.ntmps104
  go_upto_region 1 with (fail)
  generalize ((W.alloc (.cells #[.int .i64 p, .slice a l.length cap] 26)).alloc (.cells #[.int .i64 0, .slice none 0 0] 26)) = u at *
  obtain ⟨zBG, fBG0, fBG1⟩ := BG.out
  go_wp2_with fail
  clear zBG fBG0 fBG1
  refine (implCpG_at u p a cap l.length l (H1.out.below B) hs).mono ?_
  rintro e w1 ⟨v1, rfl, o1, b1⟩
  obtain ⟨vb, ⟨a1, c1, rfl, rfl⟩, ob⟩ := o1
  dsimp only at ob
  have hz1 := b1.size
  obtain ⟨hcap, hcm⟩ := ob.cap
  obtain ⟨g, rfl⟩ : ∃ g, a1 = some ⟨g, 0, none⟩ := by
    rcases ob.2 with ⟨h1, h0⟩ | ⟨g', cap', cur, h1, _⟩
    · omega
    · simp at h1; exact ⟨g', h1.1⟩
  have hob := (ob.lt g rfl)
  have B1 := B.step b1
  have Z1 := Lib.hid (HZ.out.below b1)
  have BG1 := Lib.hid (BG.out.below b1)
  have b2 := belAl w1 (.cells #[.int .i64 p, .slice (some ⟨g, 0, none⟩) l.length c1] 26)
  have OG : Hid (OutG (W.heap.size + 2) (w1.alloc (.cells #[.int .i64 p, .slice (some ⟨g, 0, none⟩) l.length c1] 26)) w1.heap.size p (.slice (some ⟨g, 0, none⟩) l.length c1) l) := Lib.hid ⟨by simp [World.cell?_alloc_new], by simp [World.cell?_alloc_new], by simp [World.frozen?_alloc_new], (ob.low (by omega)).below b2, fun e => by simp [Value.ownBlock] at e; omega, by omega, by simp⟩
  have B2 := B1.step b2
  have Z2 := Lib.hid (Z1.out.below b2)
  have BG2 := Lib.hid (BG1.out.below b2)
  clear B1 Z1 HZ B BG BG1
  go_upto_region 2 with (fail)
  generalize (w1.alloc (.cells #[.int .i64 p, .slice (some ⟨g, 0, none⟩) l.length c1] 26)) = w2 at *
  have hz2 := b2.size
  obtain ⟨zBG, fBG0, fBG1⟩ := BG2.out
  go_wp2_with fail
  clear zBG fBG0 fBG1
  refine (implIsGraph_at w2 p a cap l (H1.out.below B2) (by omega)).mono ?_
  rintro e w3 ⟨rfl, b3⟩
  rw [HG.out]
  have hz3 := b3.size
  have B3 := B2.step b3
  have Z3 := Lib.hid (Z2.out.below b3)
  have BG3 := Lib.hid (BG2.out.below b3)
  have OG3 := Lib.hid (OG.out.below b3)
  clear B2 Z2 BG2 OG b3 b2 b1
  obtain ⟨zBG, fBG0, fBG1⟩ := BG3.out
  go_wp2_with (go_at_call 55; refine (hwi.out _).mono ?_; rintro e w1 ⟨rfl, rfl⟩)
  clear zBG fBG0 fBG1
  obtain ⟨gb, hgb⟩ : ∃ gb, gb = w1.heap.size := ⟨_, rfl⟩
  rw [← hgb] at OG3 ⊢
  have hgz : W.heap.size + 2 ≤ gb := by omega
  have hgg : g < gb := by omega
  clear hgb
  obtain ⟨o2, c2, hS2, ho2⟩ := cutBfrom (b := g) (off := 0) (n := l.length) (m := l.length - (k + 1)) (j := k + 1) (c := c1) (by omega) hcap hcm
  have hS1 := fun w => cutBto (b := g) (off := 0) (n := l.length) (j := k) (c := c1) (by omega) hcap hcm w
  have hadd := IntWalk.i64_in ((k : Int) + 1) (by omega)
  have hcast : ((k : Int) + 1) = ((k + 1 : Nat) : Int) := by omega
  rw [← hcast] at hS2
  have HO2 := Lib.hid ho2
  clear ho2 hcast
  have bd : Below w3.heap.size w3 w3.drew := (Below.refl _ _).drew
  have OGD := Lib.hid (OG3.out.below bd)
  have ZD := Lib.hid (Z3.out.below bd)
  have BD := Lib.hid (B3.step bd)
  have s0 : w3.drew.cell? ⟨gb, 1, none⟩ = some (.slice (some ⟨g, 0, none⟩) l.length c1) ∧ w3.drew.cell? ⟨gb, 0, none⟩ = some (.int .i64 p) := ⟨OGD.out.c1, OGD.out.c0⟩
  have hgd := OGD.out.hi
  have hzd : w3.heap.size ≤ w3.drew.heap.size := bd.size
  clear bd OG3 Z3 B3 BG3
  refine wp_regionZ (fun w' => w'.cell? ⟨gb, 1, none⟩ = some (.slice (some ⟨g, 0, none⟩) l.length c1) ∧ w'.cell? ⟨gb, 0, none⟩ = some (.int .i64 p)) 11 (by kernel_rfl) ?_
  generalize w3.drew = wd at *
  refine wpAnyZ_take (i := 0) (v := ?_) rfl (by kernel_rfl) (by kernel_rfl) (by kernel_rfl) (by kernel_rfl) (by kernel_rfl) (fun _ _ _ h => h) (s0) (by rfl) ?_ ?_
  rotate_left
  · intro x hx; obtain ⟨u1, u2⟩ := hx; go_simp; try (with_reducible rfl)
  try simp only [Act.put, List.setIfInBounds_toArray, List.set_cons_zero, List.set_cons_succ, List.getElem_toArray, List.getElem_cons_zero, List.getElem_cons_succ]
  refine wpAnyZ_take (i := 1) (v := ?_) rfl (by kernel_rfl) (by kernel_rfl) (by kernel_rfl) (by kernel_rfl) (by kernel_rfl) (fun _ _ _ h => h) (s0) (by rfl) ?_ ?_
  rotate_left
  · intro x hx; obtain ⟨u1, u2⟩ := hx; go_simp; try (with_reducible rfl)
  try simp only [Act.put, List.setIfInBounds_toArray, List.set_cons_zero, List.set_cons_succ, List.getElem_toArray, List.getElem_cons_zero, List.getElem_cons_succ]
  refine wpAnyZ_take (i := 2) (v := ?_) rfl (by kernel_rfl) (by kernel_rfl) (by kernel_rfl) (by kernel_rfl) (by kernel_rfl) (fun _ _ _ h => h) (s0) (by rfl) ?_ ?_
  rotate_left
  · intro x hx; obtain ⟨u1, u2⟩ := hx; go_simp; try (with_reducible rfl)
  try simp only [Act.put, List.setIfInBounds_toArray, List.set_cons_zero, List.set_cons_succ, List.getElem_toArray, List.getElem_cons_zero, List.getElem_cons_succ]
  refine wpAnyZ_take (i := 3) (v := ?_) rfl (by kernel_rfl) (by kernel_rfl) (by kernel_rfl) (by kernel_rfl) (by kernel_rfl) (fun _ _ _ h => h) (s0) (by rfl) ?_ ?_
  rotate_left
  · intro x hx; obtain ⟨u1, u2⟩ := hx; go_simp; try (with_reducible rfl)
  try simp only [Act.put, List.setIfInBounds_toArray, List.set_cons_zero, List.set_cons_succ, List.getElem_toArray, List.getElem_cons_zero, List.getElem_cons_succ]
  refine wpAnyZ_take (i := 4) (v := ?_) rfl (by kernel_rfl) (by kernel_rfl) (by kernel_rfl) (by kernel_rfl) (by kernel_rfl) (fun _ _ _ h => h) (s0) (by rfl) ?_ ?_
  rotate_left
  · intro x hx; obtain ⟨u1, u2⟩ := hx; go_simp; try (with_reducible rfl)
  try simp only [Act.put, List.setIfInBounds_toArray, List.set_cons_zero, List.set_cons_succ, List.getElem_toArray, List.getElem_cons_zero, List.getElem_cons_succ]
  refine wpAnyZ_take (i := 5) (v := ?_) rfl (by kernel_rfl) (by kernel_rfl) (by kernel_rfl) (by kernel_rfl) (by kernel_rfl) (fun _ _ _ h => h) (s0) (by rfl) ?_ ?_
  rotate_left
  · intro x hx; obtain ⟨u1, u2⟩ := hx; go_simp; try (with_reducible rfl)
  try simp only [Act.put, List.setIfInBounds_toArray, List.set_cons_zero, List.set_cons_succ, List.getElem_toArray, List.getElem_cons_zero, List.getElem_cons_succ]
  refine wpAnyZ_take (i := 6) (v := ?_) rfl (by kernel_rfl) (by kernel_rfl) (by kernel_rfl) (by kernel_rfl) (by kernel_rfl) (fun _ _ _ h => h) (s0) (by rfl) ?_ ?_
  rotate_left
  · intro x hx; obtain ⟨u1, u2⟩ := hx; go_simp; try (with_reducible rfl)
  try simp only [Act.put, List.setIfInBounds_toArray, List.set_cons_zero, List.set_cons_succ, List.getElem_toArray, List.getElem_cons_zero, List.getElem_cons_succ]
  refine wpAnyZ_take (i := 7) (v := ?_) rfl (by kernel_rfl) (by kernel_rfl) (by kernel_rfl) (by kernel_rfl) (by kernel_rfl) (fun _ _ _ h => h) (s0) (by rfl) ?_ ?_
  rotate_left
  · intro x hx; obtain ⟨u1, u2⟩ := hx; go_simp; try (with_reducible rfl)
  try simp only [Act.put, List.setIfInBounds_toArray, List.set_cons_zero, List.set_cons_succ, List.getElem_toArray, List.getElem_cons_zero, List.getElem_cons_succ]
  refine wpAnyZ_take (i := 8) (v := ?_) rfl (by kernel_rfl) (by kernel_rfl) (by kernel_rfl) (by kernel_rfl) (by kernel_rfl) (fun _ _ _ h => h) (s0) (by rfl) ?_ ?_
  rotate_left
  · intro x hx; obtain ⟨u1, u2⟩ := hx; go_simp; try (with_reducible rfl)
  try simp only [Act.put, List.setIfInBounds_toArray, List.set_cons_zero, List.set_cons_succ, List.getElem_toArray, List.getElem_cons_zero, List.getElem_cons_succ]
  refine wpAnyZ_step (i := 9) (by kernel_rfl) rfl (by rfl) ?_
  intro KK hKK
  have HSRC : Hid (BarsAt wd (some ⟨g, o2, none⟩) (l.length - (k + 1)) (l.drop (k + 1))) := Lib.hid (by
    obtain ⟨a9, c9, e9, hi9⟩ := OGD.out.ob.form
    simp at e9
    obtain ⟨rfl, -⟩ := e9
    exact hi9.dropB (j := k + 1) (by omega) HO2.out)
  have HDST := Lib.hid (OGD.out.ob.takeB (j := k) (by omega))
  refine stepAppBars (by rfl) _ _ (by rfl) (by rfl) HDST.out (by rfl) HSRC.out (by simp; omega) (by omega) ?_
  intro v' w5 h5 k5 a5
  have HC5 : Hid (OwnBars w5 (W.heap.size + 2) v' (cutG l k)) := Lib.hid h5
  obtain ⟨av, cv, rfl, -⟩ := h5.form
  have HLM := Lib.hid (show (l.take k ++ l.drop (k + 1)).length = (cutG l k).length from rfl)
  rw [HLM.out] at HC5 a5 ⊢
  have k5' : Kept (fun k => some k = (Value.slice (some ⟨g, 0, none⟩) l.length c1).ownBlock) wd w5 := k5
  have OG5 := Lib.hid (OGD.out.app HC5.out k5' (a5.imp id fun e b hb => by rw [e] at hb; exact Nat.le_of_eq (Option.some.inj hb)))
  have hnb : ∀ b, b ≠ g → ¬ some b = Value.ownBlock (.slice (some ⟨g, 0, none⟩) k c1) := fun b hb e => by simp [Value.ownBlock] at e; exact hb e
  have q1 := (k5.cell (b := gb) (o := 1) hgd (hnb _ (by omega))).trans s0.1
  have q0 := (k5.cell (b := gb) (o := 0) hgd (hnb _ (by omega))).trans OGD.out.c0
  have q2 := (k5.frozen (b := gb) (o := 1) hgd (hnb _ (by omega))).trans OGD.out.f1
  have q3 : gb < w5.heap.size := Nat.lt_of_lt_of_le hgd k5.size
  have s5 := And.intro q1 q0
  refine hKK.out _ _ (.inr s5) ?_
  clear hKK KK
  try simp only [Act.put, List.setIfInBounds_toArray, List.set_cons_zero, List.set_cons_succ, List.getElem_toArray, List.getElem_cons_zero, List.getElem_cons_succ]
  refine wpAnyZ_take (i := 10) (v := ?_) rfl (by kernel_rfl) (by kernel_rfl) (by kernel_rfl) (by kernel_rfl) (by kernel_rfl) (fun _ _ _ h => h) (s5) (by rfl) ?_ ?_
  rotate_left
  · intro x hx; obtain ⟨u1, u2⟩ := hx; go_simp; try (with_reducible rfl)
  try simp only [Act.put, List.setIfInBounds_toArray, List.set_cons_zero, List.set_cons_succ, List.getElem_toArray, List.getElem_cons_zero, List.getElem_cons_succ]
  refine wpAnyZ_step (i := 11) (by kernel_rfl) rfl (by rfl) ?_
  intro KK hKK
  go_simp
  refine hKK.out _ _ (.inl (by kernel_rfl)) ?_
  clear hKK KK
  try simp only [Act.put, List.setIfInBounds_toArray, List.set_cons_zero, List.set_cons_succ, List.getElem_toArray, List.getElem_cons_zero, List.getElem_cons_succ]
  refine wpAnyZ_done (by kernel_rfl) ?_ _
  have Z5 := Lib.hid ((ZD.out.kept k5 (hnb _ (by omega))).kept (setKept (b := gb) (j := 1) (x := .slice av (cutG l k).length cv)) (by omega))
  have B5 := Lib.hid ((BD.out.trans (k5.below (by omega) fun j h1 h2 => by simp [Value.ownBlock] at h2; omega)).setCell (p := ⟨gb, 1, none⟩) (by simp; omega) (.slice av (cutG l k).length cv))
  have hz5 := k5.size
  have hz6 : w5.heap.size ≤ (w5.setCell ⟨gb, 1, none⟩ (.slice av (cutG l k).length cv)).heap.size := by simp
  clear s5 q0 q1 q2 s0 k5 k5' a5 h5
  generalize (w5.setCell ⟨gb, 1, none⟩ (.slice av (cutG l k).length cv)) = w6 at *
  obtain ⟨g0, g1, g2, g3, g4, g5', g6'⟩ := OG5.out
  obtain ⟨⟨r0, r1, r2, c0, c1'⟩, ⟨y0, y1⟩, zg⟩ := Z5.out
  go_wp2_with fail
  refine bodyPost_ret (v := .tuple #[.agg #[.int .i64 p, .slice av (cutG l k).length cv], .bool true]) (by simp [results, Tryz.results104, go_sem, zg, c0, c1']) rfl ⟨_, rfl, ?_⟩
  exact laid2 g3 (by omega) (by omega) (by omega) B5.out
end Go.Proofs.YtfdhbbhfilkafaaGreat
