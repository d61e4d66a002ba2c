/- l7Undo of the reference. Condition: a valid graph. -/
import Derived.Test.YtfbmpkdjhhcnpaaGreatSnQ01
import Derived.OwnWalk
import Derived.Lib.MinMax
namespace Go.Proofs.YtfbmpkdjhhcnpaaGreat
open Go.RowKit
set_option maxRecDepth 100000
set_option linter.unusedVariables false
set_option linter.unusedSimpArgs false
set_option maxHeartbeats 16000000 in
theorem specUndo_at (W : World) (p : Int) (a : Option Addr) (cap : Nat) (l : List BarT) (h : BarsAt W a l.length l) (hs : l.length ≤ 1048576) (hg : isGraphB (p, l) = true) : Calls Tryz.prog 79 #[.agg #[.int .i64 p, .slice a l.length cap]] W (RetUndo W p (undoL p l)) := by
 have US := Lib.hid (UndS.start W p a cap l h hs)
 have hwd := @Wd.cells
 have HGr : Hid (IsGraph W (.agg #[.int .i64 p, .slice a l.length cap]) (p, l)) := Lib.hid ⟨a, cap, rfl, h⟩
 have H1 := Lib.hid h
 clear h
 have hsz : szGraph (p, l) ≤ 1048576 := hs
 have hsz2 : szGraph (p, l) ≤ 1099511627776 := Nat.le_trans hsz (by decide)
 have B : Below W.heap.size W (W.alloc (.cells #[.int .i64 p, .slice a l.length cap] 26)) := (Below.refl _ _).alloc (Nat.le_refl _) _
 have BG : Hid (BoxGr (W.alloc (.cells #[.int .i64 p, .slice a l.length cap] 26)) W.heap.size p a l.length cap) := Lib.hid (BoxGr.at rfl)
 clear B BG
 obtain ⟨⟨hg1, hg2⟩, hll⟩ := isGraphB_bd hg
 have HG := Lib.hid hg
 clear hg
 go_enter Tryz.func79, Tryz.ntmps79
 go_wp2_with fail
 generalize (((W.alloc (.cells #[.int .i64 p, .slice a l.length cap] 26)).alloc (.cells #[.int .i64 0, .slice none 0 0] 26)).alloc (.cells #[.int .i64 0, .int .i64 0, .int .i64 0, .int .i64 0, .int .i64 0] 57)) = u at *
 go_loopw [5] (fun i w9 => ∃ k : Nat, (k : Int) ≤ p ∧ i = .int .i64 k ∧ UndS W w9 p a l.length cap ∧ ∀ j, j < k → und1 l j = none) (fun i _ => p.toNat - (intOf i).toNat)
 case atStart => exact ⟨0, by omega, rfl, US.out, fun j hj => absurd hj (Nat.not_lt_zero _)⟩
 case round =>
  clear US
  obtain ⟨k, hk, rfl, hus, hn⟩ := hrel
  have US := Lib.hid hus
  have hus3 := hus.sz
  have HN := Lib.hid hn
  clear hus hn
  obtain ⟨zBG, fBG0, fBG1⟩ := US.out.bg
  by_cases hlt : (k : Int) < p
  ·have HCN : Hid (∀ w9, Below wr.heap.size wr w9 → Calls Tryz.prog 119 #[.agg #[.int .i64 p, .slice a l.length cap], .int .i64 k] w9 (RetInts w9 (nearL l k))) := Lib.hid fun w9 hb => l7Near_at w9 p a cap l (H1.out.below (US.out.b.step hb)) hs HG.out k (by omega)
   have HND := Lib.hid (near_drop l k)
   go_wp2_with fail
   refine (HCN.out _ (Below.refl _ _)).mono ?_
   rintro e w1 ⟨v1, rfl, o1, b1⟩
   clear HCN zBG fBG0 fBG1
   replace US := Lib.hid (US.out.below b1)
   clear b1
   obtain ⟨an, cn, rfl, hia⟩ := o1.form
   have hnl : (nearL l k).length ≤ 24 := by have := HND.out; omega
   by_cases h2 : (nearL l k).length = 2
   ·have HU := Lib.hid (undoL_hit1 (p := p) HN.out (by omega) h2)
    obtain ⟨nb, off, rfl, hnb, n0, n1⟩ := ints2 hia h2
    have HC2 := Lib.hid h2
    have hnw : nb ≠ W.heap.size + 1 := by have := (World.ownsRow.lt o1 nb rfl).1; have := hus3; omega
    have hq2 : (((nearL l k).length : Int) == 2) = true := by rw [h2]; rfl
    clear o1 hia HND
    generalize (nearL l k).length = nn at *
    generalize gI (nearL l k) 0 = x0 at *
    generalize gI (nearL l k) 1 = x1 at *
    obtain ⟨w0, hw0⟩ : ∃ w0, w0 = w1 := ⟨_, rfl⟩
    subst hw0
    have hnn : nn = 2 := HC2.out
    subst hnn
    go_wp2_with fail
    have UD := Lib.hid (US.out.below (w' := w0.drew) (Below.refl _ _).drew)
    have KEEP := Lib.hid (show ∀ w', Below w0.drew.heap.size w0.drew w' → w'.cell? ⟨W.heap.size, 0, none⟩ = some (.int .i64 p) ∧ w'.cell? ⟨W.heap.size, 1, none⟩ = some (.slice a l.length cap) ∧ w'.cell? ⟨nb, off, none⟩ = some (.int .i64 x0) ∧ w'.cell? ⟨nb, off + 1, none⟩ = some (.int .i64 x1) from fun w' hb => ⟨(UD.out.bg.below hb).c0, (UD.out.bg.below hb).c1, (hb.cell (p := ⟨nb, off, none⟩) hnb).trans n0, (hb.cell (p := ⟨nb, off + 1, none⟩) hnb).trans n1⟩)
    have s0 := KEEP.out _ (Below.refl _ _)
    have HCD : Hid (∀ w9, Below w0.drew.heap.size w0.drew w9 → Calls Tryz.prog 120 #[.agg #[.int .i64 p, .slice a l.length cap], .int .i64 k] w9 (RetGraph w9 (p, dropL l k))) := Lib.hid fun w9 hb => l7Drop_at w9 p a cap l (H1.out.below (UD.out.b.step hb)) hs k
    refine wp_regionZ (fun w' => w'.cell? ⟨W.heap.size, 0, none⟩ = some (.int .i64 p) ∧ w'.cell? ⟨W.heap.size, 1, none⟩ = some (.slice a l.length cap) ∧ w'.cell? ⟨nb, off, none⟩ = some (.int .i64 x0) ∧ w'.cell? ⟨nb, off + 1, none⟩ = some (.int .i64 x1)) 12 (by kernel_rfl) ?_
    clear US n0 n1
    generalize w0.drew = wd at *
    refine wpAnyZ_take (i := 0) (v := ?_) rfl (by kernel_rfl) (by kernel_rfl) (by kernel_rfl) (by kernel_rfl) (by kernel_rfl) (fun _ _ _ h => h) (s0) (by rfl) ?_ ?_
    rotate_left
    · intro x hx; obtain ⟨u1, u2, u3, u4⟩ := hx; go_simp; try (with_reducible rfl)
    try simp only [Act.put, List.setIfInBounds_toArray, List.set_cons_zero, List.set_cons_succ, List.getElem_toArray, List.getElem_cons_zero, List.getElem_cons_succ]
    refine wpAnyZ_take (i := 1) (v := ?_) rfl (by kernel_rfl) (by kernel_rfl) (by kernel_rfl) (by kernel_rfl) (by kernel_rfl) (fun _ _ _ h => h) (s0) (by rfl) ?_ ?_
    rotate_left
    · intro x hx; obtain ⟨u1, u2, u3, u4⟩ := hx; go_simp; try (with_reducible rfl)
    try simp only [Act.put, List.setIfInBounds_toArray, List.set_cons_zero, List.set_cons_succ, List.getElem_toArray, List.getElem_cons_zero, List.getElem_cons_succ]
    refine wpAnyZ_take (i := 3) (v := ?_) rfl (by kernel_rfl) (by kernel_rfl) (by kernel_rfl) (by kernel_rfl) (by kernel_rfl) (fun _ _ _ h => h) (s0) (by rfl) ?_ ?_
    rotate_left
    · intro x hx; obtain ⟨u1, u2, u3, u4⟩ := hx; go_simp; try (with_reducible rfl)
    try simp only [Act.put, List.setIfInBounds_toArray, List.set_cons_zero, List.set_cons_succ, List.getElem_toArray, List.getElem_cons_zero, List.getElem_cons_succ]
    refine wpAnyZ_take (i := 4) (v := ?_) rfl (by kernel_rfl) (by kernel_rfl) (by kernel_rfl) (by kernel_rfl) (by kernel_rfl) (fun _ _ _ h => h) (s0) (by rfl) ?_ ?_
    rotate_left
    · intro x hx; obtain ⟨u1, u2, u3, u4⟩ := hx; go_simp; try (with_reducible rfl)
    try simp only [Act.put, List.setIfInBounds_toArray, List.set_cons_zero, List.set_cons_succ, List.getElem_toArray, List.getElem_cons_zero, List.getElem_cons_succ]
    refine wpAnyZ_take (i := 5) (v := ?_) rfl (by kernel_rfl) (by kernel_rfl) (by kernel_rfl) (by kernel_rfl) (by kernel_rfl) (fun _ _ _ h => h) (s0) (by rfl) ?_ ?_
    rotate_left
    · intro x hx; obtain ⟨u1, u2, u3, u4⟩ := hx; go_simp; try (with_reducible rfl)
    try simp only [Act.put, List.setIfInBounds_toArray, List.set_cons_zero, List.set_cons_succ, List.getElem_toArray, List.getElem_cons_zero, List.getElem_cons_succ]
    refine wpAnyZ_take (i := 6) (v := ?_) rfl (by kernel_rfl) (by kernel_rfl) (by kernel_rfl) (by kernel_rfl) (by kernel_rfl) (fun _ _ _ h => h) (s0) (by rfl) ?_ ?_
    rotate_left
    · intro x hx; obtain ⟨u1, u2, u3, u4⟩ := hx; go_simp; try (with_reducible rfl)
    try simp only [Act.put, List.setIfInBounds_toArray, List.set_cons_zero, List.set_cons_succ, List.getElem_toArray, List.getElem_cons_zero, List.getElem_cons_succ]
    refine wpAnyZ_take (i := 7) (v := ?_) rfl (by kernel_rfl) (by kernel_rfl) (by kernel_rfl) (by kernel_rfl) (by kernel_rfl) (fun _ _ _ h => h) (s0) (by rfl) ?_ ?_
    rotate_left
    · intro x hx; obtain ⟨u1, u2, u3, u4⟩ := hx; go_simp; try (with_reducible rfl)
    try simp only [Act.put, List.setIfInBounds_toArray, List.set_cons_zero, List.set_cons_succ, List.getElem_toArray, List.getElem_cons_zero, List.getElem_cons_succ]
    refine wpAnyZ_take (i := 8) (v := ?_) rfl (by kernel_rfl) (by kernel_rfl) (by kernel_rfl) (by kernel_rfl) (by kernel_rfl) (fun _ _ _ h => h) (s0) (by rfl) ?_ ?_
    rotate_left
    · intro x hx; obtain ⟨u1, u2, u3, u4⟩ := hx; go_simp; try (with_reducible rfl)
    try simp only [Act.put, List.setIfInBounds_toArray, List.set_cons_zero, List.set_cons_succ, List.getElem_toArray, List.getElem_cons_zero, List.getElem_cons_succ]
    refine wpAnyZ_take (i := 9) (v := ?_) rfl (by kernel_rfl) (by kernel_rfl) (by kernel_rfl) (by kernel_rfl) (by kernel_rfl) (fun _ _ _ h => h) (s0) (by rfl) ?_ ?_
    rotate_left
    · intro x hx; obtain ⟨u1, u2, u3, u4⟩ := hx; go_simp; try (with_reducible rfl)
    try simp only [Act.put, List.setIfInBounds_toArray, List.set_cons_zero, List.set_cons_succ, List.getElem_toArray, List.getElem_cons_zero, List.getElem_cons_succ]
    refine wpAnyZ_take (i := 10) (v := ?_) rfl (by kernel_rfl) (by kernel_rfl) (by kernel_rfl) (by kernel_rfl) (by kernel_rfl) (fun _ _ _ h => h) (s0) (by rfl) ?_ ?_
    rotate_left
    · intro x hx; obtain ⟨u1, u2, u3, u4⟩ := hx; go_simp; try (with_reducible rfl)
    try simp only [Act.put, List.setIfInBounds_toArray, List.set_cons_zero, List.set_cons_succ, List.getElem_toArray, List.getElem_cons_zero, List.getElem_cons_succ]
    refine wpAnyZ_step (i := 2) (by kernel_rfl) rfl (by rfl) ?_
    intro KK hKK
    go_simp
    go_at_call 120
    refine (HCD.out _ (Below.refl _ _)).mono ?_
    rintro e w7 ⟨v7, rfl, o7, b7⟩
    obtain ⟨vb, ⟨ad, cd, rfl, rfl⟩, ob⟩ := o7
    dsimp only at ob
    have s7 := KEEP.out _ b7
    have U7 := Lib.hid (UD.out.below b7)
    have hz7 := UD.out.sz
    have HF := Lib.hid (UndS.fin U7.out (by omega) ob 1 (k : Int) x0 x1 0 (p' := p))
    clear ob KEEP s0 b7 HCD UD
    refine hKK.out _ _ (.inr s7) ?_
    clear hKK KK
    try simp only [Act.put, List.setIfInBounds_toArray, List.set_cons_zero, List.set_cons_succ, List.getElem_toArray, List.getElem_cons_zero, List.getElem_cons_succ]
    obtain ⟨⟨r0, r1, r2, c0, c1⟩, ⟨f0, f1⟩, gz⟩ := U7.out.rz
    obtain ⟨⟨q0, q1, q2, q3, q4, d9, d0, d1, d2, d3, d4⟩, g0, g1, g2, g3, g4⟩ := U7.out.zs
    refine wpAnyZ_step (i := 11) (by kernel_rfl) rfl (by rfl) ?_
    intro KK hKK
    go_simp
    have s8 : ((w7.setCell ⟨W.heap.size + 1, 0, none⟩ (.int .i64 p)).setCell ⟨W.heap.size + 1, 1, none⟩ (.slice ad (dropL l k).length cd)).cell? ⟨W.heap.size, 0, none⟩ = some (.int .i64 p) ∧ ((w7.setCell ⟨W.heap.size + 1, 0, none⟩ (.int .i64 p)).setCell ⟨W.heap.size + 1, 1, none⟩ (.slice ad (dropL l k).length cd)).cell? ⟨W.heap.size, 1, none⟩ = some (.slice a l.length cap) ∧ ((w7.setCell ⟨W.heap.size + 1, 0, none⟩ (.int .i64 p)).setCell ⟨W.heap.size + 1, 1, none⟩ (.slice ad (dropL l k).length cd)).cell? ⟨nb, off, none⟩ = some (.int .i64 x0) ∧ ((w7.setCell ⟨W.heap.size + 1, 0, none⟩ (.int .i64 p)).setCell ⟨W.heap.size + 1, 1, none⟩ (.slice ad (dropL l k).length cd)).cell? ⟨nb, off + 1, none⟩ = some (.int .i64 x1) := ⟨cs2 s7.1 (by omega), cs2 s7.2.1 (by omega), cs2 s7.2.2.1 hnw, cs2 s7.2.2.2 hnw⟩
    refine hKK.out _ _ (.inr s8) ?_
    clear hKK KK
    try simp only [Act.put, List.setIfInBounds_toArray, List.set_cons_zero, List.set_cons_succ, List.getElem_toArray, List.getElem_cons_zero, List.getElem_cons_succ]
    refine wpAnyZ_step (i := 12) (by kernel_rfl) rfl (by rfl) ?_
    intro KK hKK
    go_simp
    refine hKK.out _ _ (.inl (by kernel_rfl)) ?_
    clear hKK KK
    try simp only [Act.put, List.setIfInBounds_toArray, List.set_cons_zero, List.set_cons_succ, List.getElem_toArray, List.getElem_cons_zero, List.getElem_cons_succ]
    refine wpAnyZ_step (i := 13) (by kernel_rfl) rfl (by rfl) ?_
    intro KK hKK
    go_simp
    refine hKK.out _ _ (.inl (by kernel_rfl)) ?_
    clear hKK KK
    try simp only [Act.put, List.setIfInBounds_toArray, List.set_cons_zero, List.set_cons_succ, List.getElem_toArray, List.getElem_cons_zero, List.getElem_cons_succ]
    refine wpAnyZ_done (by kernel_rfl) ?_ _
    obtain ⟨hB, hS, hO, hL⟩ := HF.out _ rfl
    clear HF s7 s8 r0 r1 r2 c0 c1 gz f0 f1 q0 q1 q2 q3 q4 d9 d0 d1 d2 d3 d4 g0 g1 g2 g3 g4 U7
    generalize (((((((w7.setCell ⟨W.heap.size + 1, 0, none⟩ (.int .i64 p)).setCell ⟨W.heap.size + 1, 1, none⟩ (.slice ad (dropL l k).length cd)).setCell ⟨W.heap.size + 1 + 1, 0, none⟩ (.int .i64 1)).setCell ⟨W.heap.size + 1 + 1, 1, none⟩ (.int .i64 k)).setCell ⟨W.heap.size + 1 + 1, 2, none⟩ (.int .i64 x0)).setCell ⟨W.heap.size + 1 + 1, 3, none⟩ (.int .i64 x1)).setCell ⟨W.heap.size + 1 + 1, 4, none⟩ (.int .i64 0)) = w9 at *
    obtain ⟨e9, e0, e1⟩ := hB
    obtain ⟨d9, d0, d1, d2, d3, d4⟩ := hS
    go_wp2_with fail
    refine bodyPost_ret (v := .tuple #[.agg #[.int .i64 p, .slice ad (dropL l k).length cd], .agg #[.int .i64 1, .int .i64 k, .int .i64 x0, .int .i64 x1, .int .i64 0], .bool true]) (by simp [results, Tryz.results79, go_sem, e9, e0, e1, d9, d0, d1, d2, d3, d4]) rfl ?_
    exact RetUndo.yes HU.out hO hL
   ·have HU := Lib.hid (und1_no h2)
    have hq2 : (((nearL l k).length : Int) == 2) = false := by
     cases h9 : (((nearL l k).length : Int) == 2) with
     | false => rfl
     | true => rw [beq_iff_eq] at h9; exact absurd (by omega) h2
    clear o1 hia HND h2
    generalize (nearL l k).length = nn at *
    go_wp2_with fail
    go_roundw
    case rel => exact ⟨k + 1, by omega, by go_num, US.out, fun j hj => by
     by_cases e : j = k
     ·rw [e]; exact HU.out
     ·exact HN.out j (by omega)⟩
    case measure => simp [intOf]; omega
  ·have hkp : (k : Int) = p := by omega
   have HR := Lib.hid (undoL_rest (p := p) (l := l) fun j hj => HN.out j (by omega))
   clear HN
   go_wp2_with fail
   clear zBG fBG0 fBG1
   obtain ⟨w0, hw0⟩ : ∃ w0, w0 = wr := ⟨_, rfl⟩
   subst hw0
   clear hkp hlt hk
   go_loopw [7] (fun i w9 => ∃ v : Nat, (v : Int) ≤ p ∧ i = .int .i64 v ∧ UndS W w9 p a l.length cap ∧ ∀ j, j < v → und2 p l j = none) (fun i _ => p.toNat - (intOf i).toNat)
   case atStart => exact ⟨0, by omega, rfl, US.out, fun j hj => absurd hj (Nat.not_lt_zero _)⟩
   case round =>
    clear US hus3
    obtain ⟨v, hk, rfl, hus, hn⟩ := hrel
    have US := Lib.hid hus
    have hus3 := hus.sz
    have HN := Lib.hid hn
    clear hus hn
    obtain ⟨zBG, fBG0, fBG1⟩ := US.out.bg
    by_cases hlt : (v : Int) < p
    ·go_wp2_with fail
--BODY2
     have HCN : Hid (∀ w9, Below wr.heap.size wr w9 → Calls Tryz.prog 119 #[.agg #[.int .i64 p, .slice a l.length cap], .int .i64 v] w9 (RetInts w9 (nearL l v))) := Lib.hid fun w9 hb => l7Near_at w9 p a cap l (H1.out.below (US.out.b.step hb)) hs HG.out v (by omega)
     have HND := Lib.hid (near_drop l v)
     have HDG := Lib.hid (dropL_graph v HG.out)
     refine (HCN.out _ (Below.refl _ _)).mono ?_
     rintro e w1 ⟨v1, rfl, o1, b1⟩
     clear HCN zBG fBG0 fBG1
     replace US := Lib.hid (US.out.below b1)
     have hz1 := b1.size
     clear b1
     obtain ⟨an, cn, rfl, hia⟩ := o1.form
     have hnl : (nearL l v).length ≤ 24 := by have := HND.out; omega
     by_cases h3 : (nearL l v).length = 3
     ·have HC3 := Lib.hid h3
      have HIT : Hid (∀ k, (∀ j, j < k → und3 p l v j = none) → k < 3 → sparseB (p, undX l v k) 2 3 = true → und2 p l v = some (undX l v k, undT l v k)) := Lib.hid fun k hn hk h => und2_hit h3 hn hk h
      have hq3 : (((nearL l v).length : Int) != 3) = false := by rw [h3]; rfl
      have hdl : (dropL l v).length ≤ 24 := by have := HND.out; omega
      obtain ⟨nb, off, rfl, hnb, n0, n1, n2⟩ := ints3 hia h3
      have hnw : W.heap.size + 3 ≤ nb := by have := (World.ownsRow.lt o1 nb rfl).1; omega
      clear o1 hia HND
      obtain ⟨x0, hx0⟩ : ∃ x, x = gI (nearL l v) 0 := ⟨_, rfl⟩
      obtain ⟨x1, hx1⟩ : ∃ x, x = gI (nearL l v) 1 := ⟨_, rfl⟩
      obtain ⟨x2, hx2⟩ : ∃ x, x = gI (nearL l v) 2 := ⟨_, rfl⟩
      rw [← hx0] at n0
      rw [← hx1] at n1
      rw [← hx2] at n2
      have HX := Lib.hid (And.intro hx0 (And.intro hx1 hx2))
      clear hx0 hx1 hx2
      generalize (nearL l v).length = nn at *
      have hnn : nn = 3 := HC3.out
      subst hnn
      obtain ⟨zBG, fBG0, fBG1⟩ := US.out.bg
      have hus4 := US.out.sz
      have HCD : Hid (∀ w9, Below w1.heap.size w1 w9 → Calls Tryz.prog 120 #[.agg #[.int .i64 p, .slice a l.length cap], .int .i64 v] w9 (RetGraph w9 (p, dropL l v))) := Lib.hid fun w9 hb => l7Drop_at w9 p a cap l (H1.out.below (US.out.b.step hb)) hs v
      go_wp2_with fail
      refine (HCD.out _ (Below.refl _ _)).mono ?_
      rintro e w7 ⟨v7, rfl, o7, b7⟩
      obtain ⟨vb, ⟨ad, cd, rfl, rfl⟩, ob⟩ := o7
      dsimp only at ob
      have ba := belAl w7 (.cells #[.int .i64 p, .slice ad (dropL l v).length cd] 26)
      have hz7 := b7.size
      have UI : Hid (UndI W (w7.alloc (.cells #[.int .i64 p, .slice ad (dropL l v).length cd] 26)) p a l.length cap nb off x0 x1 x2 w7.heap.size ad cd (dropL l v)) := Lib.hid (by
       obtain ⟨a9, c9, e9, i9⟩ := ob.form
       simp at e9
       obtain ⟨rfl, rfl⟩ := e9
       have b := b7.step ba
       exact ⟨US.out.below b, hnw, Nat.lt_of_lt_of_le hnb b.size, (b.cell (p := ⟨nb, off, none⟩) hnb).trans n0, (b.cell (p := ⟨nb, off + 1, none⟩) hnb).trans n1, (b.cell (p := ⟨nb, off + 2, none⟩) hnb).trans n2, BoxGr.at rfl, i9.below ba⟩)
      clear US HCD zBG fBG0 fBG1 ob b7 ba n0 n1 n2 hnb
      obtain ⟨g9, hg9⟩ : ∃ g, g = w7.heap.size := ⟨_, rfl⟩
      rw [← hg9] at UI
      go_wp2_with fail
      rw [← hg9]
      generalize (w7.alloc (.cells #[.int .i64 p, .slice ad (dropL l v).length cd] 26)) = u at *
      clear hg9 hz7
      go_loopw [10] (fun i w9 => ∃ k : Nat, (k = 0 ∧ i = .int .i64 0 ∨ k = 1 ∧ i = .int .i64 1 ∨ k = 2 ∧ i = .int .i64 2 ∨ k = 3 ∧ i = .int .i64 3) ∧ UndI W w9 p a l.length cap nb off x0 x1 x2 g9 ad cd (dropL l v) ∧ ∀ j, j < k → und3 p l v j = none) (fun i _ => 3 - (intOf i).toNat)
      case atStart => exact ⟨0, .inl ⟨rfl, rfl⟩, UI.out, fun j hj => absurd hj (Nat.not_lt_zero _)⟩
      case round =>
       clear UI hz1
       obtain ⟨k, hki, hui, hn3⟩ := hrel
       have UI := Lib.hid hui
       have HN3 := Lib.hid hn3
       clear hui hn3
       obtain ⟨z9, b90, b91⟩ := UI.out.bd
       have c0 := UI.out.c0
       have c1 := UI.out.c1
       have c2 := UI.out.c2
       rcases hki with ⟨rfl, rfl⟩ | ⟨rfl, rfl⟩ | ⟨rfl, rfl⟩ | ⟨rfl, rfl⟩
       ·have HCP : Hid (∀ w9, Below wr.heap.size wr w9 → Calls Tryz.prog 98 #[.agg #[.int .i64 p, .slice ad (dropL l v).length cd], .agg #[.int .i64 (min x0 x1), .int .i64 (max x0 x1)]] w9 (RetGraph w9 (p, putL (dropL l v) ((min x0 x1), (max x0 x1))))) := Lib.hid fun w9 hb => l2Put_at w9 p ad cd (dropL l v) (UI.out.bi.below hb) (by omega) (min x0 x1) (max x0 x1)
        have HXX : Hid (undX l v 0 = putL (dropL l v) ((min x0 x1), (max x0 x1)) ∧ undT l v 0 = (2, (v : Int), (min x0 x1), (max x0 x1), x2)) := Lib.hid (by obtain ⟨h0, h1, h2⟩ := HX.out; rw [h0, h1, h2]; exact ⟨rfl, rfl⟩)
        have hlx : (putL (dropL l v) ((min x0 x1), (max x0 x1))).length ≤ 25 := by rw [putL_length]; omega
        go_wp2_with fail
        refine (HCP.out _ (Below.refl _ _)).mono ?_
        rintro e w5 ⟨v5, rfl, o5, b5⟩
        obtain ⟨vb, ⟨ax, cx, rfl, rfl⟩, ob⟩ := o5
        dsimp only at ob
        clear HCP z9 b90 b91 c0 c1 c2
        have UI5 := Lib.hid (UI.out.below b5)
        have hz5 := b5.size
        have hus5 := UI.out.us.sz
        clear b5 UI
        obtain ⟨lx, hlq⟩ : ∃ lx, lx = putL (dropL l v) ((min x0 x1), (max x0 x1)) := ⟨_, rfl⟩
        rw [← hlq] at HXX hlx ob
        rw [← hlq]
        clear hlq
        have HBX := Lib.hid ob
        clear ob
        have ba := belAl w5 (.cells #[.int .i64 p, .slice ax lx.length cx] 26)
        have HXB : Hid (BoxGr (w5.alloc (.cells #[.int .i64 p, .slice ax lx.length cx] 26)) w5.heap.size p ax lx.length cx ∧ OwnBars (w5.alloc (.cells #[.int .i64 p, .slice ax lx.length cx] 26)) wr.heap.size (.slice ax lx.length cx) lx) := Lib.hid ⟨BoxGr.at rfl, HBX.out.below ba⟩
        have UI6 := Lib.hid (UI5.out.below ba)
        have hz6 : w5.heap.size + 1 ≤ (w5.alloc (.cells #[.int .i64 p, .slice ax lx.length cx] 26)).heap.size := by simp
        clear ba UI5 HBX
        have hgx3 : w5.heap.size ≠ W.heap.size + 1 := by omega
        obtain ⟨gx, hgx⟩ : ∃ g, g = w5.heap.size := ⟨_, rfl⟩
        rw [← hgx] at HXB hgx3
        go_wp2_with fail
        rw [← hgx]
        generalize (w5.alloc (.cells #[.int .i64 p, .slice ax lx.length cx] 26)) = w6 at *
        clear hgx hz5 hz6
        have hxi : BarsAt w6 ax lx.length lx := by
         obtain ⟨a9, c9, e9, i9⟩ := HXB.out.2.form
         simp at e9
         obtain ⟨rfl, rfl⟩ := e9
         exact i9
        refine (specSparse_at w6 p ax cx lx hxi (by omega) 2 3).mono ?_
        rintro e w8 ⟨rfl, b8⟩
        replace UI6 := Lib.hid (UI6.out.below b8)
        replace HXB := Lib.hid (And.intro (HXB.out.1.below b8) (HXB.out.2.below b8))
        have hz8 := b8.size
        clear b8 hxi
        obtain ⟨zG, fG0, fG1⟩ := UI6.out.us.bg
        cases hsp : sparseB (p, lx) 2 3
        ·have HU := Lib.hid (und3_no (p := p) (l := l) (v := v) (k := 0) (by rw [HXX.out.1]; exact hsp))
         clear hsp
         go_wp2_with fail
         go_roundw
         case rel => exact ⟨0 + 1, by simp, UI6.out, fun j hj => by
          by_cases e : j = 0
          ·rw [e]; exact HU.out
          ·exact HN3.out j (by omega)⟩
         case measure => simp [intOf]
        ·have HU := Lib.hid (HIT.out 0 HN3.out (by omega) (by rw [HXX.out.1]; exact hsp))
         have HUL := Lib.hid (show undoL p l = some (undX l v 0, undT l v 0) by rw [HR.out]; exact firstS_hit2 HN.out (by omega) HU.out)
         clear hsp HU HN3 HN
         clear zG fG0 fG1
         rw [HXX.out.1, HXX.out.2] at HUL
         clear HXX
         go_wp2_with fail
         have hus8 := UI6.out.us.sz
         have UD := Lib.hid (UI6.out.below (w' := w8.drew) (Below.refl _ _).drew)
         have HXD := Lib.hid (And.intro (HXB.out.1.below (w' := w8.drew) (Below.refl _ _).drew) (OwnBars.below (W' := w8.drew) HXB.out.2 (Below.refl _ _).drew))
         have hgw : gx ≠ W.heap.size + 1 := hgx3
         have s0 : w8.drew.cell? ⟨gx, 0, none⟩ = some (.int .i64 p) ∧ w8.drew.cell? ⟨gx, 1, none⟩ = some (.slice ax lx.length cx) ∧ w8.drew.cell? ⟨nb, off + 2, none⟩ = some (.int .i64 x2) := ⟨HXD.out.1.c0, HXD.out.1.c1, UD.out.c2⟩
         refine wp_regionZ (fun w' => w'.cell? ⟨gx, 0, none⟩ = some (.int .i64 p) ∧ w'.cell? ⟨gx, 1, none⟩ = some (.slice ax lx.length cx) ∧ w'.cell? ⟨nb, off + 2, none⟩ = some (.int .i64 x2)) 16 (by kernel_rfl) ?_
         clear UI6 HXB
         generalize w8.drew = wd at *
         refine wpAnyZ_take (i := 0) (v := ?_) rfl (by kernel_rfl) (by kernel_rfl) (by kernel_rfl) (by kernel_rfl) (by kernel_rfl) (fun _ _ _ h => h) (s0) (by rfl) ?_ ?_
         rotate_left
         · intro x hx; obtain ⟨u1, u2, u3⟩ := hx; go_simp; try (with_reducible rfl)
         try simp only [Act.put, List.setIfInBounds_toArray, List.set_cons_zero, List.set_cons_succ, List.getElem_toArray, List.getElem_cons_zero, List.getElem_cons_succ]
         refine wpAnyZ_take (i := 1) (v := ?_) rfl (by kernel_rfl) (by kernel_rfl) (by kernel_rfl) (by kernel_rfl) (by kernel_rfl) (fun _ _ _ h => h) (s0) (by rfl) ?_ ?_
         rotate_left
         · intro x hx; obtain ⟨u1, u2, u3⟩ := hx; go_simp; try (with_reducible rfl)
         try simp only [Act.put, List.setIfInBounds_toArray, List.set_cons_zero, List.set_cons_succ, List.getElem_toArray, List.getElem_cons_zero, List.getElem_cons_succ]
         refine wpAnyZ_take (i := 2) (v := ?_) rfl (by kernel_rfl) (by kernel_rfl) (by kernel_rfl) (by kernel_rfl) (by kernel_rfl) (fun _ _ _ h => h) (s0) (by rfl) ?_ ?_
         rotate_left
         · intro x hx; obtain ⟨u1, u2, u3⟩ := hx; go_simp; try (with_reducible rfl)
         try simp only [Act.put, List.setIfInBounds_toArray, List.set_cons_zero, List.set_cons_succ, List.getElem_toArray, List.getElem_cons_zero, List.getElem_cons_succ]
         refine wpAnyZ_take (i := 3) (v := ?_) rfl (by kernel_rfl) (by kernel_rfl) (by kernel_rfl) (by kernel_rfl) (by kernel_rfl) (fun _ _ _ h => h) (s0) (by rfl) ?_ ?_
         rotate_left
         · intro x hx; obtain ⟨u1, u2, u3⟩ := hx; go_simp; try (with_reducible rfl)
         try simp only [Act.put, List.setIfInBounds_toArray, List.set_cons_zero, List.set_cons_succ, List.getElem_toArray, List.getElem_cons_zero, List.getElem_cons_succ]
         refine wpAnyZ_take (i := 4) (v := ?_) rfl (by kernel_rfl) (by kernel_rfl) (by kernel_rfl) (by kernel_rfl) (by kernel_rfl) (fun _ _ _ h => h) (s0) (by rfl) ?_ ?_
         rotate_left
         · intro x hx; obtain ⟨u1, u2, u3⟩ := hx; go_simp; try (with_reducible rfl)
         try simp only [Act.put, List.setIfInBounds_toArray, List.set_cons_zero, List.set_cons_succ, List.getElem_toArray, List.getElem_cons_zero, List.getElem_cons_succ]
         refine wpAnyZ_take (i := 5) (v := ?_) rfl (by kernel_rfl) (by kernel_rfl) (by kernel_rfl) (by kernel_rfl) (by kernel_rfl) (fun _ _ _ h => h) (s0) (by rfl) ?_ ?_
         rotate_left
         · intro x hx; obtain ⟨u1, u2, u3⟩ := hx; go_simp; try (with_reducible rfl)
         try simp only [Act.put, List.setIfInBounds_toArray, List.set_cons_zero, List.set_cons_succ, List.getElem_toArray, List.getElem_cons_zero, List.getElem_cons_succ]
         refine wpAnyZ_take (i := 6) (v := ?_) rfl (by kernel_rfl) (by kernel_rfl) (by kernel_rfl) (by kernel_rfl) (by kernel_rfl) (fun _ _ _ h => h) (s0) (by rfl) ?_ ?_
         rotate_left
         · intro x hx; obtain ⟨u1, u2, u3⟩ := hx; go_simp; try (with_reducible rfl)
         try simp only [Act.put, List.setIfInBounds_toArray, List.set_cons_zero, List.set_cons_succ, List.getElem_toArray, List.getElem_cons_zero, List.getElem_cons_succ]
         refine wpAnyZ_take (i := 7) (v := ?_) rfl (by kernel_rfl) (by kernel_rfl) (by kernel_rfl) (by kernel_rfl) (by kernel_rfl) (fun _ _ _ h => h) (s0) (by rfl) ?_ ?_
         rotate_left
         · intro x hx; obtain ⟨u1, u2, u3⟩ := hx; go_simp; try (with_reducible rfl)
         try simp only [Act.put, List.setIfInBounds_toArray, List.set_cons_zero, List.set_cons_succ, List.getElem_toArray, List.getElem_cons_zero, List.getElem_cons_succ]
         refine wpAnyZ_take (i := 8) (v := ?_) rfl (by kernel_rfl) (by kernel_rfl) (by kernel_rfl) (by kernel_rfl) (by kernel_rfl) (fun _ _ _ h => h) (s0) (by rfl) ?_ ?_
         rotate_left
         · intro x hx; obtain ⟨u1, u2, u3⟩ := hx; go_simp; try (with_reducible rfl)
         try simp only [Act.put, List.setIfInBounds_toArray, List.set_cons_zero, List.set_cons_succ, List.getElem_toArray, List.getElem_cons_zero, List.getElem_cons_succ]
         refine wpAnyZ_take (i := 9) (v := ?_) rfl (by kernel_rfl) (by kernel_rfl) (by kernel_rfl) (by kernel_rfl) (by kernel_rfl) (fun _ _ _ h => h) (s0) (by rfl) ?_ ?_
         rotate_left
         · intro x hx; obtain ⟨u1, u2, u3⟩ := hx; go_simp; try (with_reducible rfl)
         try simp only [Act.put, List.setIfInBounds_toArray, List.set_cons_zero, List.set_cons_succ, List.getElem_toArray, List.getElem_cons_zero, List.getElem_cons_succ]
         refine wpAnyZ_take (i := 10) (v := ?_) rfl (by kernel_rfl) (by kernel_rfl) (by kernel_rfl) (by kernel_rfl) (by kernel_rfl) (fun _ _ _ h => h) (s0) (by rfl) ?_ ?_
         rotate_left
         · intro x hx; obtain ⟨u1, u2, u3⟩ := hx; go_simp; try (with_reducible rfl)
         try simp only [Act.put, List.setIfInBounds_toArray, List.set_cons_zero, List.set_cons_succ, List.getElem_toArray, List.getElem_cons_zero, List.getElem_cons_succ]
         (try rw [show Go.IntKind.i64.wrap 2 = 2 from by decide])
         refine wpAnyZ_take (i := 11) (v := ?_) rfl (by kernel_rfl) (by kernel_rfl) (by kernel_rfl) (by kernel_rfl) (by kernel_rfl) (fun _ _ _ h => h) (s0) (by rfl) ?_ ?_
         rotate_left
         · intro x hx; obtain ⟨u1, u2, u3⟩ := hx; go_simp; try (with_reducible rfl)
         try simp only [Act.put, List.setIfInBounds_toArray, List.set_cons_zero, List.set_cons_succ, List.getElem_toArray, List.getElem_cons_zero, List.getElem_cons_succ]
         (try rw [show Int.tmod 2 3 = 2 from by decide])
         refine wpAnyZ_take (i := 12) (v := ?_) rfl (by kernel_rfl) (by kernel_rfl) (by kernel_rfl) (by kernel_rfl) (by kernel_rfl) (fun _ _ _ h => h) (s0) (by rfl) ?_ ?_
         rotate_left
         · intro x hx; obtain ⟨u1, u2, u3⟩ := hx; go_simp; try (with_reducible rfl)
         try simp only [Act.put, List.setIfInBounds_toArray, List.set_cons_zero, List.set_cons_succ, List.getElem_toArray, List.getElem_cons_zero, List.getElem_cons_succ]
         refine wpAnyZ_take (i := 13) (v := ?_) rfl (by kernel_rfl) (by kernel_rfl) (by kernel_rfl) (by kernel_rfl) (by kernel_rfl) (fun _ _ _ h => h) (s0) (by rfl) ?_ ?_
         rotate_left
         · intro x hx; obtain ⟨u1, u2, u3⟩ := hx; go_simp; try (with_reducible rfl)
         try simp only [Act.put, List.setIfInBounds_toArray, List.set_cons_zero, List.set_cons_succ, List.getElem_toArray, List.getElem_cons_zero, List.getElem_cons_succ]
         refine wpAnyZ_take (i := 14) (v := ?_) rfl (by kernel_rfl) (by kernel_rfl) (by kernel_rfl) (by kernel_rfl) (by kernel_rfl) (fun _ _ _ h => h) (s0) (by rfl) ?_ ?_
         rotate_left
         · intro x hx; obtain ⟨u1, u2, u3⟩ := hx; go_simp; try (with_reducible rfl)
         try simp only [Act.put, List.setIfInBounds_toArray, List.set_cons_zero, List.set_cons_succ, List.getElem_toArray, List.getElem_cons_zero, List.getElem_cons_succ]
         have HF := Lib.hid (UndS.fin UD.out.us hus5 HXD.out.2 2 (v : Int) (min x0 x1) (max x0 x1) x2 (p' := p))
         have s1 : ((wd.setCell ⟨W.heap.size + 1, 0, none⟩ (.int .i64 p)).setCell ⟨W.heap.size + 1, 1, none⟩ (.slice ax lx.length cx)).cell? ⟨gx, 0, none⟩ = some (.int .i64 p) ∧ ((wd.setCell ⟨W.heap.size + 1, 0, none⟩ (.int .i64 p)).setCell ⟨W.heap.size + 1, 1, none⟩ (.slice ax lx.length cx)).cell? ⟨gx, 1, none⟩ = some (.slice ax lx.length cx) ∧ ((wd.setCell ⟨W.heap.size + 1, 0, none⟩ (.int .i64 p)).setCell ⟨W.heap.size + 1, 1, none⟩ (.slice ax lx.length cx)).cell? ⟨nb, off + 2, none⟩ = some (.int .i64 x2) := ⟨cs2 s0.1 hgw, cs2 s0.2.1 hgw, cs2 s0.2.2 (by omega)⟩
         obtain ⟨⟨r0, r1, r2, c0, c1⟩, ⟨f0, f1⟩, gz⟩ := UD.out.us.rz
         obtain ⟨⟨q0, q1, q2, q3, q4, d9, d0, d1, d2, d3, d4⟩, g0, g1, g2, g3, g4⟩ := UD.out.us.zs
         clear UD HXD
         refine wpAnyZ_step (i := 15) (by kernel_rfl) rfl (by rfl) ?_
         intro KK hKK
         go_simp
         refine hKK.out _ _ (.inr s1) ?_
         clear hKK KK
         try simp only [Act.put, List.setIfInBounds_toArray, List.set_cons_zero, List.set_cons_succ, List.getElem_toArray, List.getElem_cons_zero, List.getElem_cons_succ]
         refine wpAnyZ_step (i := 16) (by kernel_rfl) rfl (by rfl) ?_
         intro KK hKK
         go_simp
         refine hKK.out _ _ (.inl (by kernel_rfl)) ?_
         clear hKK KK
         try simp only [Act.put, List.setIfInBounds_toArray, List.set_cons_zero, List.set_cons_succ, List.getElem_toArray, List.getElem_cons_zero, List.getElem_cons_succ]
         refine wpAnyZ_step (i := 17) (by kernel_rfl) rfl (by rfl) ?_
         intro KK hKK
         go_simp
         refine hKK.out _ _ (.inl (by kernel_rfl)) ?_
         clear hKK KK
         try simp only [Act.put, List.setIfInBounds_toArray, List.set_cons_zero, List.set_cons_succ, List.getElem_toArray, List.getElem_cons_zero, List.getElem_cons_succ]
         refine wpAnyZ_done (by kernel_rfl) ?_ _
         obtain ⟨hB, hS, hO, hL⟩ := HF.out _ rfl
         clear HF s0 s1 r0 r1 r2 c0 c1 gz f0 f1 q0 q1 q2 q3 q4 d9 d0 d1 d2 d3 d4 g0 g1 g2 g3 g4
         generalize (((((((wd.setCell ⟨W.heap.size + 1, 0, none⟩ (.int .i64 p)).setCell ⟨W.heap.size + 1, 1, none⟩ (.slice ax lx.length cx)).setCell ⟨W.heap.size + 1 + 1, 0, none⟩ (.int .i64 2)).setCell ⟨W.heap.size + 1 + 1, 1, none⟩ (.int .i64 v)).setCell ⟨W.heap.size + 1 + 1, 2, none⟩ (.int .i64 (min x0 x1))).setCell ⟨W.heap.size + 1 + 1, 3, none⟩ (.int .i64 (max x0 x1))).setCell ⟨W.heap.size + 1 + 1, 4, none⟩ (.int .i64 x2)) = w9 at *
         obtain ⟨e9, e0, e1⟩ := hB
         obtain ⟨d9, d0, d1, d2, d3, d4⟩ := hS
         go_wp2_with fail
         refine bodyPost_ret (v := .tuple #[.agg #[.int .i64 p, .slice ax lx.length cx], .agg #[.int .i64 2, .int .i64 v, .int .i64 (min x0 x1), .int .i64 (max x0 x1), .int .i64 x2], .bool true]) (by simp [results, Tryz.results79, go_sem, e9, e0, e1, d9, d0, d1, d2, d3, d4]) rfl ?_
         exact RetUndo.yes HUL.out hO hL
       ·have HCP : Hid (∀ w9, Below wr.heap.size wr w9 → Calls Tryz.prog 98 #[.agg #[.int .i64 p, .slice ad (dropL l v).length cd], .agg #[.int .i64 (min x1 x2), .int .i64 (max x1 x2)]] w9 (RetGraph w9 (p, putL (dropL l v) ((min x1 x2), (max x1 x2))))) := Lib.hid fun w9 hb => l2Put_at w9 p ad cd (dropL l v) (UI.out.bi.below hb) (by omega) (min x1 x2) (max x1 x2)
        have HXX : Hid (undX l v 1 = putL (dropL l v) ((min x1 x2), (max x1 x2)) ∧ undT l v 1 = (2, (v : Int), (min x1 x2), (max x1 x2), x0)) := Lib.hid (by obtain ⟨h0, h1, h2⟩ := HX.out; rw [h0, h1, h2]; exact ⟨rfl, rfl⟩)
        have hlx : (putL (dropL l v) ((min x1 x2), (max x1 x2))).length ≤ 25 := by rw [putL_length]; omega
        go_wp2_with fail
        refine (HCP.out _ (Below.refl _ _)).mono ?_
        rintro e w5 ⟨v5, rfl, o5, b5⟩
        obtain ⟨vb, ⟨ax, cx, rfl, rfl⟩, ob⟩ := o5
        dsimp only at ob
        clear HCP z9 b90 b91 c0 c1 c2
        have UI5 := Lib.hid (UI.out.below b5)
        have hz5 := b5.size
        have hus5 := UI.out.us.sz
        clear b5 UI
        obtain ⟨lx, hlq⟩ : ∃ lx, lx = putL (dropL l v) ((min x1 x2), (max x1 x2)) := ⟨_, rfl⟩
        rw [← hlq] at HXX hlx ob
        rw [← hlq]
        clear hlq
        have HBX := Lib.hid ob
        clear ob
        have ba := belAl w5 (.cells #[.int .i64 p, .slice ax lx.length cx] 26)
        have HXB : Hid (BoxGr (w5.alloc (.cells #[.int .i64 p, .slice ax lx.length cx] 26)) w5.heap.size p ax lx.length cx ∧ OwnBars (w5.alloc (.cells #[.int .i64 p, .slice ax lx.length cx] 26)) wr.heap.size (.slice ax lx.length cx) lx) := Lib.hid ⟨BoxGr.at rfl, HBX.out.below ba⟩
        have UI6 := Lib.hid (UI5.out.below ba)
        have hz6 : w5.heap.size + 1 ≤ (w5.alloc (.cells #[.int .i64 p, .slice ax lx.length cx] 26)).heap.size := by simp
        clear ba UI5 HBX
        have hgx3 : w5.heap.size ≠ W.heap.size + 1 := by omega
        obtain ⟨gx, hgx⟩ : ∃ g, g = w5.heap.size := ⟨_, rfl⟩
        rw [← hgx] at HXB hgx3
        go_wp2_with fail
        rw [← hgx]
        generalize (w5.alloc (.cells #[.int .i64 p, .slice ax lx.length cx] 26)) = w6 at *
        clear hgx hz5 hz6
        have hxi : BarsAt w6 ax lx.length lx := by
         obtain ⟨a9, c9, e9, i9⟩ := HXB.out.2.form
         simp at e9
         obtain ⟨rfl, rfl⟩ := e9
         exact i9
        refine (specSparse_at w6 p ax cx lx hxi (by omega) 2 3).mono ?_
        rintro e w8 ⟨rfl, b8⟩
        replace UI6 := Lib.hid (UI6.out.below b8)
        replace HXB := Lib.hid (And.intro (HXB.out.1.below b8) (HXB.out.2.below b8))
        have hz8 := b8.size
        clear b8 hxi
        obtain ⟨zG, fG0, fG1⟩ := UI6.out.us.bg
        cases hsp : sparseB (p, lx) 2 3
        ·have HU := Lib.hid (und3_no (p := p) (l := l) (v := v) (k := 1) (by rw [HXX.out.1]; exact hsp))
         clear hsp
         go_wp2_with fail
         go_roundw
         case rel => exact ⟨1 + 1, by simp, UI6.out, fun j hj => by
          by_cases e : j = 1
          ·rw [e]; exact HU.out
          ·exact HN3.out j (by omega)⟩
         case measure => simp [intOf]
        ·have HU := Lib.hid (HIT.out 1 HN3.out (by omega) (by rw [HXX.out.1]; exact hsp))
         have HUL := Lib.hid (show undoL p l = some (undX l v 1, undT l v 1) by rw [HR.out]; exact firstS_hit2 HN.out (by omega) HU.out)
         clear hsp HU HN3 HN
         clear zG fG0 fG1
         rw [HXX.out.1, HXX.out.2] at HUL
         clear HXX
         go_wp2_with fail
         have hus8 := UI6.out.us.sz
         have UD := Lib.hid (UI6.out.below (w' := w8.drew) (Below.refl _ _).drew)
         have HXD := Lib.hid (And.intro (HXB.out.1.below (w' := w8.drew) (Below.refl _ _).drew) (OwnBars.below (W' := w8.drew) HXB.out.2 (Below.refl _ _).drew))
         have hgw : gx ≠ W.heap.size + 1 := hgx3
         have s0 : w8.drew.cell? ⟨gx, 0, none⟩ = some (.int .i64 p) ∧ w8.drew.cell? ⟨gx, 1, none⟩ = some (.slice ax lx.length cx) ∧ w8.drew.cell? ⟨nb, off, none⟩ = some (.int .i64 x0) := ⟨HXD.out.1.c0, HXD.out.1.c1, UD.out.c0⟩
         refine wp_regionZ (fun w' => w'.cell? ⟨gx, 0, none⟩ = some (.int .i64 p) ∧ w'.cell? ⟨gx, 1, none⟩ = some (.slice ax lx.length cx) ∧ w'.cell? ⟨nb, off, none⟩ = some (.int .i64 x0)) 16 (by kernel_rfl) ?_
         clear UI6 HXB
         generalize w8.drew = wd at *
         refine wpAnyZ_take (i := 0) (v := ?_) rfl (by kernel_rfl) (by kernel_rfl) (by kernel_rfl) (by kernel_rfl) (by kernel_rfl) (fun _ _ _ h => h) (s0) (by rfl) ?_ ?_
         rotate_left
         · intro x hx; obtain ⟨u1, u2, u3⟩ := hx; go_simp; try (with_reducible rfl)
         try simp only [Act.put, List.setIfInBounds_toArray, List.set_cons_zero, List.set_cons_succ, List.getElem_toArray, List.getElem_cons_zero, List.getElem_cons_succ]
         refine wpAnyZ_take (i := 1) (v := ?_) rfl (by kernel_rfl) (by kernel_rfl) (by kernel_rfl) (by kernel_rfl) (by kernel_rfl) (fun _ _ _ h => h) (s0) (by rfl) ?_ ?_
         rotate_left
         · intro x hx; obtain ⟨u1, u2, u3⟩ := hx; go_simp; try (with_reducible rfl)
         try simp only [Act.put, List.setIfInBounds_toArray, List.set_cons_zero, List.set_cons_succ, List.getElem_toArray, List.getElem_cons_zero, List.getElem_cons_succ]
         refine wpAnyZ_take (i := 2) (v := ?_) rfl (by kernel_rfl) (by kernel_rfl) (by kernel_rfl) (by kernel_rfl) (by kernel_rfl) (fun _ _ _ h => h) (s0) (by rfl) ?_ ?_
         rotate_left
         · intro x hx; obtain ⟨u1, u2, u3⟩ := hx; go_simp; try (with_reducible rfl)
         try simp only [Act.put, List.setIfInBounds_toArray, List.set_cons_zero, List.set_cons_succ, List.getElem_toArray, List.getElem_cons_zero, List.getElem_cons_succ]
         refine wpAnyZ_take (i := 3) (v := ?_) rfl (by kernel_rfl) (by kernel_rfl) (by kernel_rfl) (by kernel_rfl) (by kernel_rfl) (fun _ _ _ h => h) (s0) (by rfl) ?_ ?_
         rotate_left
         · intro x hx; obtain ⟨u1, u2, u3⟩ := hx; go_simp; try (with_reducible rfl)
         try simp only [Act.put, List.setIfInBounds_toArray, List.set_cons_zero, List.set_cons_succ, List.getElem_toArray, List.getElem_cons_zero, List.getElem_cons_succ]
         refine wpAnyZ_take (i := 4) (v := ?_) rfl (by kernel_rfl) (by kernel_rfl) (by kernel_rfl) (by kernel_rfl) (by kernel_rfl) (fun _ _ _ h => h) (s0) (by rfl) ?_ ?_
         rotate_left
         · intro x hx; obtain ⟨u1, u2, u3⟩ := hx; go_simp; try (with_reducible rfl)
         try simp only [Act.put, List.setIfInBounds_toArray, List.set_cons_zero, List.set_cons_succ, List.getElem_toArray, List.getElem_cons_zero, List.getElem_cons_succ]
         refine wpAnyZ_take (i := 5) (v := ?_) rfl (by kernel_rfl) (by kernel_rfl) (by kernel_rfl) (by kernel_rfl) (by kernel_rfl) (fun _ _ _ h => h) (s0) (by rfl) ?_ ?_
         rotate_left
         · intro x hx; obtain ⟨u1, u2, u3⟩ := hx; go_simp; try (with_reducible rfl)
         try simp only [Act.put, List.setIfInBounds_toArray, List.set_cons_zero, List.set_cons_succ, List.getElem_toArray, List.getElem_cons_zero, List.getElem_cons_succ]
         refine wpAnyZ_take (i := 6) (v := ?_) rfl (by kernel_rfl) (by kernel_rfl) (by kernel_rfl) (by kernel_rfl) (by kernel_rfl) (fun _ _ _ h => h) (s0) (by rfl) ?_ ?_
         rotate_left
         · intro x hx; obtain ⟨u1, u2, u3⟩ := hx; go_simp; try (with_reducible rfl)
         try simp only [Act.put, List.setIfInBounds_toArray, List.set_cons_zero, List.set_cons_succ, List.getElem_toArray, List.getElem_cons_zero, List.getElem_cons_succ]
         refine wpAnyZ_take (i := 7) (v := ?_) rfl (by kernel_rfl) (by kernel_rfl) (by kernel_rfl) (by kernel_rfl) (by kernel_rfl) (fun _ _ _ h => h) (s0) (by rfl) ?_ ?_
         rotate_left
         · intro x hx; obtain ⟨u1, u2, u3⟩ := hx; go_simp; try (with_reducible rfl)
         try simp only [Act.put, List.setIfInBounds_toArray, List.set_cons_zero, List.set_cons_succ, List.getElem_toArray, List.getElem_cons_zero, List.getElem_cons_succ]
         refine wpAnyZ_take (i := 8) (v := ?_) rfl (by kernel_rfl) (by kernel_rfl) (by kernel_rfl) (by kernel_rfl) (by kernel_rfl) (fun _ _ _ h => h) (s0) (by rfl) ?_ ?_
         rotate_left
         · intro x hx; obtain ⟨u1, u2, u3⟩ := hx; go_simp; try (with_reducible rfl)
         try simp only [Act.put, List.setIfInBounds_toArray, List.set_cons_zero, List.set_cons_succ, List.getElem_toArray, List.getElem_cons_zero, List.getElem_cons_succ]
         refine wpAnyZ_take (i := 9) (v := ?_) rfl (by kernel_rfl) (by kernel_rfl) (by kernel_rfl) (by kernel_rfl) (by kernel_rfl) (fun _ _ _ h => h) (s0) (by rfl) ?_ ?_
         rotate_left
         · intro x hx; obtain ⟨u1, u2, u3⟩ := hx; go_simp; try (with_reducible rfl)
         try simp only [Act.put, List.setIfInBounds_toArray, List.set_cons_zero, List.set_cons_succ, List.getElem_toArray, List.getElem_cons_zero, List.getElem_cons_succ]
         refine wpAnyZ_take (i := 10) (v := ?_) rfl (by kernel_rfl) (by kernel_rfl) (by kernel_rfl) (by kernel_rfl) (by kernel_rfl) (fun _ _ _ h => h) (s0) (by rfl) ?_ ?_
         rotate_left
         · intro x hx; obtain ⟨u1, u2, u3⟩ := hx; go_simp; try (with_reducible rfl)
         try simp only [Act.put, List.setIfInBounds_toArray, List.set_cons_zero, List.set_cons_succ, List.getElem_toArray, List.getElem_cons_zero, List.getElem_cons_succ]
         (try rw [show Go.IntKind.i64.wrap 3 = 3 from by decide])
         refine wpAnyZ_take (i := 11) (v := ?_) rfl (by kernel_rfl) (by kernel_rfl) (by kernel_rfl) (by kernel_rfl) (by kernel_rfl) (fun _ _ _ h => h) (s0) (by rfl) ?_ ?_
         rotate_left
         · intro x hx; obtain ⟨u1, u2, u3⟩ := hx; go_simp; try (with_reducible rfl)
         try simp only [Act.put, List.setIfInBounds_toArray, List.set_cons_zero, List.set_cons_succ, List.getElem_toArray, List.getElem_cons_zero, List.getElem_cons_succ]
         (try rw [show Int.tmod 3 3 = 0 from by decide])
         refine wpAnyZ_take (i := 12) (v := ?_) rfl (by kernel_rfl) (by kernel_rfl) (by kernel_rfl) (by kernel_rfl) (by kernel_rfl) (fun _ _ _ h => h) (s0) (by rfl) ?_ ?_
         rotate_left
         · intro x hx; obtain ⟨u1, u2, u3⟩ := hx; go_simp; try (with_reducible rfl)
         try simp only [Act.put, List.setIfInBounds_toArray, List.set_cons_zero, List.set_cons_succ, List.getElem_toArray, List.getElem_cons_zero, List.getElem_cons_succ]
         refine wpAnyZ_take (i := 13) (v := ?_) rfl (by kernel_rfl) (by kernel_rfl) (by kernel_rfl) (by kernel_rfl) (by kernel_rfl) (fun _ _ _ h => h) (s0) (by rfl) ?_ ?_
         rotate_left
         · intro x hx; obtain ⟨u1, u2, u3⟩ := hx; go_simp; try (with_reducible rfl)
         try simp only [Act.put, List.setIfInBounds_toArray, List.set_cons_zero, List.set_cons_succ, List.getElem_toArray, List.getElem_cons_zero, List.getElem_cons_succ]
         refine wpAnyZ_take (i := 14) (v := ?_) rfl (by kernel_rfl) (by kernel_rfl) (by kernel_rfl) (by kernel_rfl) (by kernel_rfl) (fun _ _ _ h => h) (s0) (by rfl) ?_ ?_
         rotate_left
         · intro x hx; obtain ⟨u1, u2, u3⟩ := hx; go_simp; try (with_reducible rfl)
         try simp only [Act.put, List.setIfInBounds_toArray, List.set_cons_zero, List.set_cons_succ, List.getElem_toArray, List.getElem_cons_zero, List.getElem_cons_succ]
         have HF := Lib.hid (UndS.fin UD.out.us hus5 HXD.out.2 2 (v : Int) (min x1 x2) (max x1 x2) x0 (p' := p))
         have s1 : ((wd.setCell ⟨W.heap.size + 1, 0, none⟩ (.int .i64 p)).setCell ⟨W.heap.size + 1, 1, none⟩ (.slice ax lx.length cx)).cell? ⟨gx, 0, none⟩ = some (.int .i64 p) ∧ ((wd.setCell ⟨W.heap.size + 1, 0, none⟩ (.int .i64 p)).setCell ⟨W.heap.size + 1, 1, none⟩ (.slice ax lx.length cx)).cell? ⟨gx, 1, none⟩ = some (.slice ax lx.length cx) ∧ ((wd.setCell ⟨W.heap.size + 1, 0, none⟩ (.int .i64 p)).setCell ⟨W.heap.size + 1, 1, none⟩ (.slice ax lx.length cx)).cell? ⟨nb, off, none⟩ = some (.int .i64 x0) := ⟨cs2 s0.1 hgw, cs2 s0.2.1 hgw, cs2 s0.2.2 (by omega)⟩
         obtain ⟨⟨r0, r1, r2, c0, c1⟩, ⟨f0, f1⟩, gz⟩ := UD.out.us.rz
         obtain ⟨⟨q0, q1, q2, q3, q4, d9, d0, d1, d2, d3, d4⟩, g0, g1, g2, g3, g4⟩ := UD.out.us.zs
         clear UD HXD
         refine wpAnyZ_step (i := 15) (by kernel_rfl) rfl (by rfl) ?_
         intro KK hKK
         go_simp
         refine hKK.out _ _ (.inr s1) ?_
         clear hKK KK
         try simp only [Act.put, List.setIfInBounds_toArray, List.set_cons_zero, List.set_cons_succ, List.getElem_toArray, List.getElem_cons_zero, List.getElem_cons_succ]
         refine wpAnyZ_step (i := 16) (by kernel_rfl) rfl (by rfl) ?_
         intro KK hKK
         go_simp
         refine hKK.out _ _ (.inl (by kernel_rfl)) ?_
         clear hKK KK
         try simp only [Act.put, List.setIfInBounds_toArray, List.set_cons_zero, List.set_cons_succ, List.getElem_toArray, List.getElem_cons_zero, List.getElem_cons_succ]
         refine wpAnyZ_step (i := 17) (by kernel_rfl) rfl (by rfl) ?_
         intro KK hKK
         go_simp
         refine hKK.out _ _ (.inl (by kernel_rfl)) ?_
         clear hKK KK
         try simp only [Act.put, List.setIfInBounds_toArray, List.set_cons_zero, List.set_cons_succ, List.getElem_toArray, List.getElem_cons_zero, List.getElem_cons_succ]
         refine wpAnyZ_done (by kernel_rfl) ?_ _
         obtain ⟨hB, hS, hO, hL⟩ := HF.out _ rfl
         clear HF s0 s1 r0 r1 r2 c0 c1 gz f0 f1 q0 q1 q2 q3 q4 d9 d0 d1 d2 d3 d4 g0 g1 g2 g3 g4
         generalize (((((((wd.setCell ⟨W.heap.size + 1, 0, none⟩ (.int .i64 p)).setCell ⟨W.heap.size + 1, 1, none⟩ (.slice ax lx.length cx)).setCell ⟨W.heap.size + 1 + 1, 0, none⟩ (.int .i64 2)).setCell ⟨W.heap.size + 1 + 1, 1, none⟩ (.int .i64 v)).setCell ⟨W.heap.size + 1 + 1, 2, none⟩ (.int .i64 (min x1 x2))).setCell ⟨W.heap.size + 1 + 1, 3, none⟩ (.int .i64 (max x1 x2))).setCell ⟨W.heap.size + 1 + 1, 4, none⟩ (.int .i64 x0)) = w9 at *
         obtain ⟨e9, e0, e1⟩ := hB
         obtain ⟨d9, d0, d1, d2, d3, d4⟩ := hS
         go_wp2_with fail
         refine bodyPost_ret (v := .tuple #[.agg #[.int .i64 p, .slice ax lx.length cx], .agg #[.int .i64 2, .int .i64 v, .int .i64 (min x1 x2), .int .i64 (max x1 x2), .int .i64 x0], .bool true]) (by simp [results, Tryz.results79, go_sem, e9, e0, e1, d9, d0, d1, d2, d3, d4]) rfl ?_
         exact RetUndo.yes HUL.out hO hL
       ·have HCP : Hid (∀ w9, Below wr.heap.size wr w9 → Calls Tryz.prog 98 #[.agg #[.int .i64 p, .slice ad (dropL l v).length cd], .agg #[.int .i64 (min x2 x0), .int .i64 (max x2 x0)]] w9 (RetGraph w9 (p, putL (dropL l v) ((min x2 x0), (max x2 x0))))) := Lib.hid fun w9 hb => l2Put_at w9 p ad cd (dropL l v) (UI.out.bi.below hb) (by omega) (min x2 x0) (max x2 x0)
        have HXX : Hid (undX l v 2 = putL (dropL l v) ((min x2 x0), (max x2 x0)) ∧ undT l v 2 = (2, (v : Int), (min x2 x0), (max x2 x0), x1)) := Lib.hid (by obtain ⟨h0, h1, h2⟩ := HX.out; rw [h0, h1, h2]; exact ⟨rfl, rfl⟩)
        have hlx : (putL (dropL l v) ((min x2 x0), (max x2 x0))).length ≤ 25 := by rw [putL_length]; omega
        go_wp2_with fail
        refine (HCP.out _ (Below.refl _ _)).mono ?_
        rintro e w5 ⟨v5, rfl, o5, b5⟩
        obtain ⟨vb, ⟨ax, cx, rfl, rfl⟩, ob⟩ := o5
        dsimp only at ob
        clear HCP z9 b90 b91 c0 c1 c2
        have UI5 := Lib.hid (UI.out.below b5)
        have hz5 := b5.size
        have hus5 := UI.out.us.sz
        clear b5 UI
        obtain ⟨lx, hlq⟩ : ∃ lx, lx = putL (dropL l v) ((min x2 x0), (max x2 x0)) := ⟨_, rfl⟩
        rw [← hlq] at HXX hlx ob
        rw [← hlq]
        clear hlq
        have HBX := Lib.hid ob
        clear ob
        have ba := belAl w5 (.cells #[.int .i64 p, .slice ax lx.length cx] 26)
        have HXB : Hid (BoxGr (w5.alloc (.cells #[.int .i64 p, .slice ax lx.length cx] 26)) w5.heap.size p ax lx.length cx ∧ OwnBars (w5.alloc (.cells #[.int .i64 p, .slice ax lx.length cx] 26)) wr.heap.size (.slice ax lx.length cx) lx) := Lib.hid ⟨BoxGr.at rfl, HBX.out.below ba⟩
        have UI6 := Lib.hid (UI5.out.below ba)
        have hz6 : w5.heap.size + 1 ≤ (w5.alloc (.cells #[.int .i64 p, .slice ax lx.length cx] 26)).heap.size := by simp
        clear ba UI5 HBX
        have hgx3 : w5.heap.size ≠ W.heap.size + 1 := by omega
        obtain ⟨gx, hgx⟩ : ∃ g, g = w5.heap.size := ⟨_, rfl⟩
        rw [← hgx] at HXB hgx3
        go_wp2_with fail
        rw [← hgx]
        generalize (w5.alloc (.cells #[.int .i64 p, .slice ax lx.length cx] 26)) = w6 at *
        clear hgx hz5 hz6
        have hxi : BarsAt w6 ax lx.length lx := by
         obtain ⟨a9, c9, e9, i9⟩ := HXB.out.2.form
         simp at e9
         obtain ⟨rfl, rfl⟩ := e9
         exact i9
        refine (specSparse_at w6 p ax cx lx hxi (by omega) 2 3).mono ?_
        rintro e w8 ⟨rfl, b8⟩
        replace UI6 := Lib.hid (UI6.out.below b8)
        replace HXB := Lib.hid (And.intro (HXB.out.1.below b8) (HXB.out.2.below b8))
        have hz8 := b8.size
        clear b8 hxi
        obtain ⟨zG, fG0, fG1⟩ := UI6.out.us.bg
        cases hsp : sparseB (p, lx) 2 3
        ·have HU := Lib.hid (und3_no (p := p) (l := l) (v := v) (k := 2) (by rw [HXX.out.1]; exact hsp))
         clear hsp
         go_wp2_with fail
         go_roundw
         case rel => exact ⟨2 + 1, by simp, UI6.out, fun j hj => by
          by_cases e : j = 2
          ·rw [e]; exact HU.out
          ·exact HN3.out j (by omega)⟩
         case measure => simp [intOf]
        ·have HU := Lib.hid (HIT.out 2 HN3.out (by omega) (by rw [HXX.out.1]; exact hsp))
         have HUL := Lib.hid (show undoL p l = some (undX l v 2, undT l v 2) by rw [HR.out]; exact firstS_hit2 HN.out (by omega) HU.out)
         clear hsp HU HN3 HN
         clear zG fG0 fG1
         rw [HXX.out.1, HXX.out.2] at HUL
         clear HXX
         go_wp2_with fail
         have hus8 := UI6.out.us.sz
         have UD := Lib.hid (UI6.out.below (w' := w8.drew) (Below.refl _ _).drew)
         have HXD := Lib.hid (And.intro (HXB.out.1.below (w' := w8.drew) (Below.refl _ _).drew) (OwnBars.below (W' := w8.drew) HXB.out.2 (Below.refl _ _).drew))
         have hgw : gx ≠ W.heap.size + 1 := hgx3
         have s0 : w8.drew.cell? ⟨gx, 0, none⟩ = some (.int .i64 p) ∧ w8.drew.cell? ⟨gx, 1, none⟩ = some (.slice ax lx.length cx) ∧ w8.drew.cell? ⟨nb, off + 1, none⟩ = some (.int .i64 x1) := ⟨HXD.out.1.c0, HXD.out.1.c1, UD.out.c1⟩
         refine wp_regionZ (fun w' => w'.cell? ⟨gx, 0, none⟩ = some (.int .i64 p) ∧ w'.cell? ⟨gx, 1, none⟩ = some (.slice ax lx.length cx) ∧ w'.cell? ⟨nb, off + 1, none⟩ = some (.int .i64 x1)) 16 (by kernel_rfl) ?_
         clear UI6 HXB
         generalize w8.drew = wd at *
         refine wpAnyZ_take (i := 0) (v := ?_) rfl (by kernel_rfl) (by kernel_rfl) (by kernel_rfl) (by kernel_rfl) (by kernel_rfl) (fun _ _ _ h => h) (s0) (by rfl) ?_ ?_
         rotate_left
         · intro x hx; obtain ⟨u1, u2, u3⟩ := hx; go_simp; try (with_reducible rfl)
         try simp only [Act.put, List.setIfInBounds_toArray, List.set_cons_zero, List.set_cons_succ, List.getElem_toArray, List.getElem_cons_zero, List.getElem_cons_succ]
         refine wpAnyZ_take (i := 1) (v := ?_) rfl (by kernel_rfl) (by kernel_rfl) (by kernel_rfl) (by kernel_rfl) (by kernel_rfl) (fun _ _ _ h => h) (s0) (by rfl) ?_ ?_
         rotate_left
         · intro x hx; obtain ⟨u1, u2, u3⟩ := hx; go_simp; try (with_reducible rfl)
         try simp only [Act.put, List.setIfInBounds_toArray, List.set_cons_zero, List.set_cons_succ, List.getElem_toArray, List.getElem_cons_zero, List.getElem_cons_succ]
         refine wpAnyZ_take (i := 2) (v := ?_) rfl (by kernel_rfl) (by kernel_rfl) (by kernel_rfl) (by kernel_rfl) (by kernel_rfl) (fun _ _ _ h => h) (s0) (by rfl) ?_ ?_
         rotate_left
         · intro x hx; obtain ⟨u1, u2, u3⟩ := hx; go_simp; try (with_reducible rfl)
         try simp only [Act.put, List.setIfInBounds_toArray, List.set_cons_zero, List.set_cons_succ, List.getElem_toArray, List.getElem_cons_zero, List.getElem_cons_succ]
         refine wpAnyZ_take (i := 3) (v := ?_) rfl (by kernel_rfl) (by kernel_rfl) (by kernel_rfl) (by kernel_rfl) (by kernel_rfl) (fun _ _ _ h => h) (s0) (by rfl) ?_ ?_
         rotate_left
         · intro x hx; obtain ⟨u1, u2, u3⟩ := hx; go_simp; try (with_reducible rfl)
         try simp only [Act.put, List.setIfInBounds_toArray, List.set_cons_zero, List.set_cons_succ, List.getElem_toArray, List.getElem_cons_zero, List.getElem_cons_succ]
         refine wpAnyZ_take (i := 4) (v := ?_) rfl (by kernel_rfl) (by kernel_rfl) (by kernel_rfl) (by kernel_rfl) (by kernel_rfl) (fun _ _ _ h => h) (s0) (by rfl) ?_ ?_
         rotate_left
         · intro x hx; obtain ⟨u1, u2, u3⟩ := hx; go_simp; try (with_reducible rfl)
         try simp only [Act.put, List.setIfInBounds_toArray, List.set_cons_zero, List.set_cons_succ, List.getElem_toArray, List.getElem_cons_zero, List.getElem_cons_succ]
         refine wpAnyZ_take (i := 5) (v := ?_) rfl (by kernel_rfl) (by kernel_rfl) (by kernel_rfl) (by kernel_rfl) (by kernel_rfl) (fun _ _ _ h => h) (s0) (by rfl) ?_ ?_
         rotate_left
         · intro x hx; obtain ⟨u1, u2, u3⟩ := hx; go_simp; try (with_reducible rfl)
         try simp only [Act.put, List.setIfInBounds_toArray, List.set_cons_zero, List.set_cons_succ, List.getElem_toArray, List.getElem_cons_zero, List.getElem_cons_succ]
         refine wpAnyZ_take (i := 6) (v := ?_) rfl (by kernel_rfl) (by kernel_rfl) (by kernel_rfl) (by kernel_rfl) (by kernel_rfl) (fun _ _ _ h => h) (s0) (by rfl) ?_ ?_
         rotate_left
         · intro x hx; obtain ⟨u1, u2, u3⟩ := hx; go_simp; try (with_reducible rfl)
         try simp only [Act.put, List.setIfInBounds_toArray, List.set_cons_zero, List.set_cons_succ, List.getElem_toArray, List.getElem_cons_zero, List.getElem_cons_succ]
         refine wpAnyZ_take (i := 7) (v := ?_) rfl (by kernel_rfl) (by kernel_rfl) (by kernel_rfl) (by kernel_rfl) (by kernel_rfl) (fun _ _ _ h => h) (s0) (by rfl) ?_ ?_
         rotate_left
         · intro x hx; obtain ⟨u1, u2, u3⟩ := hx; go_simp; try (with_reducible rfl)
         try simp only [Act.put, List.setIfInBounds_toArray, List.set_cons_zero, List.set_cons_succ, List.getElem_toArray, List.getElem_cons_zero, List.getElem_cons_succ]
         refine wpAnyZ_take (i := 8) (v := ?_) rfl (by kernel_rfl) (by kernel_rfl) (by kernel_rfl) (by kernel_rfl) (by kernel_rfl) (fun _ _ _ h => h) (s0) (by rfl) ?_ ?_
         rotate_left
         · intro x hx; obtain ⟨u1, u2, u3⟩ := hx; go_simp; try (with_reducible rfl)
         try simp only [Act.put, List.setIfInBounds_toArray, List.set_cons_zero, List.set_cons_succ, List.getElem_toArray, List.getElem_cons_zero, List.getElem_cons_succ]
         refine wpAnyZ_take (i := 9) (v := ?_) rfl (by kernel_rfl) (by kernel_rfl) (by kernel_rfl) (by kernel_rfl) (by kernel_rfl) (fun _ _ _ h => h) (s0) (by rfl) ?_ ?_
         rotate_left
         · intro x hx; obtain ⟨u1, u2, u3⟩ := hx; go_simp; try (with_reducible rfl)
         try simp only [Act.put, List.setIfInBounds_toArray, List.set_cons_zero, List.set_cons_succ, List.getElem_toArray, List.getElem_cons_zero, List.getElem_cons_succ]
         refine wpAnyZ_take (i := 10) (v := ?_) rfl (by kernel_rfl) (by kernel_rfl) (by kernel_rfl) (by kernel_rfl) (by kernel_rfl) (fun _ _ _ h => h) (s0) (by rfl) ?_ ?_
         rotate_left
         · intro x hx; obtain ⟨u1, u2, u3⟩ := hx; go_simp; try (with_reducible rfl)
         try simp only [Act.put, List.setIfInBounds_toArray, List.set_cons_zero, List.set_cons_succ, List.getElem_toArray, List.getElem_cons_zero, List.getElem_cons_succ]
         (try rw [show Go.IntKind.i64.wrap 4 = 4 from by decide])
         refine wpAnyZ_take (i := 11) (v := ?_) rfl (by kernel_rfl) (by kernel_rfl) (by kernel_rfl) (by kernel_rfl) (by kernel_rfl) (fun _ _ _ h => h) (s0) (by rfl) ?_ ?_
         rotate_left
         · intro x hx; obtain ⟨u1, u2, u3⟩ := hx; go_simp; try (with_reducible rfl)
         try simp only [Act.put, List.setIfInBounds_toArray, List.set_cons_zero, List.set_cons_succ, List.getElem_toArray, List.getElem_cons_zero, List.getElem_cons_succ]
         (try rw [show Int.tmod 4 3 = 1 from by decide])
         refine wpAnyZ_take (i := 12) (v := ?_) rfl (by kernel_rfl) (by kernel_rfl) (by kernel_rfl) (by kernel_rfl) (by kernel_rfl) (fun _ _ _ h => h) (s0) (by rfl) ?_ ?_
         rotate_left
         · intro x hx; obtain ⟨u1, u2, u3⟩ := hx; go_simp; try (with_reducible rfl)
         try simp only [Act.put, List.setIfInBounds_toArray, List.set_cons_zero, List.set_cons_succ, List.getElem_toArray, List.getElem_cons_zero, List.getElem_cons_succ]
         refine wpAnyZ_take (i := 13) (v := ?_) rfl (by kernel_rfl) (by kernel_rfl) (by kernel_rfl) (by kernel_rfl) (by kernel_rfl) (fun _ _ _ h => h) (s0) (by rfl) ?_ ?_
         rotate_left
         · intro x hx; obtain ⟨u1, u2, u3⟩ := hx; go_simp; try (with_reducible rfl)
         try simp only [Act.put, List.setIfInBounds_toArray, List.set_cons_zero, List.set_cons_succ, List.getElem_toArray, List.getElem_cons_zero, List.getElem_cons_succ]
         refine wpAnyZ_take (i := 14) (v := ?_) rfl (by kernel_rfl) (by kernel_rfl) (by kernel_rfl) (by kernel_rfl) (by kernel_rfl) (fun _ _ _ h => h) (s0) (by rfl) ?_ ?_
         rotate_left
         · intro x hx; obtain ⟨u1, u2, u3⟩ := hx; go_simp; try (with_reducible rfl)
         try simp only [Act.put, List.setIfInBounds_toArray, List.set_cons_zero, List.set_cons_succ, List.getElem_toArray, List.getElem_cons_zero, List.getElem_cons_succ]
         have HF := Lib.hid (UndS.fin UD.out.us hus5 HXD.out.2 2 (v : Int) (min x2 x0) (max x2 x0) x1 (p' := p))
         have s1 : ((wd.setCell ⟨W.heap.size + 1, 0, none⟩ (.int .i64 p)).setCell ⟨W.heap.size + 1, 1, none⟩ (.slice ax lx.length cx)).cell? ⟨gx, 0, none⟩ = some (.int .i64 p) ∧ ((wd.setCell ⟨W.heap.size + 1, 0, none⟩ (.int .i64 p)).setCell ⟨W.heap.size + 1, 1, none⟩ (.slice ax lx.length cx)).cell? ⟨gx, 1, none⟩ = some (.slice ax lx.length cx) ∧ ((wd.setCell ⟨W.heap.size + 1, 0, none⟩ (.int .i64 p)).setCell ⟨W.heap.size + 1, 1, none⟩ (.slice ax lx.length cx)).cell? ⟨nb, off + 1, none⟩ = some (.int .i64 x1) := ⟨cs2 s0.1 hgw, cs2 s0.2.1 hgw, cs2 s0.2.2 (by omega)⟩
         obtain ⟨⟨r0, r1, r2, c0, c1⟩, ⟨f0, f1⟩, gz⟩ := UD.out.us.rz
         obtain ⟨⟨q0, q1, q2, q3, q4, d9, d0, d1, d2, d3, d4⟩, g0, g1, g2, g3, g4⟩ := UD.out.us.zs
         clear UD HXD
         refine wpAnyZ_step (i := 15) (by kernel_rfl) rfl (by rfl) ?_
         intro KK hKK
         go_simp
         refine hKK.out _ _ (.inr s1) ?_
         clear hKK KK
         try simp only [Act.put, List.setIfInBounds_toArray, List.set_cons_zero, List.set_cons_succ, List.getElem_toArray, List.getElem_cons_zero, List.getElem_cons_succ]
         refine wpAnyZ_step (i := 16) (by kernel_rfl) rfl (by rfl) ?_
         intro KK hKK
         go_simp
         refine hKK.out _ _ (.inl (by kernel_rfl)) ?_
         clear hKK KK
         try simp only [Act.put, List.setIfInBounds_toArray, List.set_cons_zero, List.set_cons_succ, List.getElem_toArray, List.getElem_cons_zero, List.getElem_cons_succ]
         refine wpAnyZ_step (i := 17) (by kernel_rfl) rfl (by rfl) ?_
         intro KK hKK
         go_simp
         refine hKK.out _ _ (.inl (by kernel_rfl)) ?_
         clear hKK KK
         try simp only [Act.put, List.setIfInBounds_toArray, List.set_cons_zero, List.set_cons_succ, List.getElem_toArray, List.getElem_cons_zero, List.getElem_cons_succ]
         refine wpAnyZ_done (by kernel_rfl) ?_ _
         obtain ⟨hB, hS, hO, hL⟩ := HF.out _ rfl
         clear HF s0 s1 r0 r1 r2 c0 c1 gz f0 f1 q0 q1 q2 q3 q4 d9 d0 d1 d2 d3 d4 g0 g1 g2 g3 g4
         generalize (((((((wd.setCell ⟨W.heap.size + 1, 0, none⟩ (.int .i64 p)).setCell ⟨W.heap.size + 1, 1, none⟩ (.slice ax lx.length cx)).setCell ⟨W.heap.size + 1 + 1, 0, none⟩ (.int .i64 2)).setCell ⟨W.heap.size + 1 + 1, 1, none⟩ (.int .i64 v)).setCell ⟨W.heap.size + 1 + 1, 2, none⟩ (.int .i64 (min x2 x0))).setCell ⟨W.heap.size + 1 + 1, 3, none⟩ (.int .i64 (max x2 x0))).setCell ⟨W.heap.size + 1 + 1, 4, none⟩ (.int .i64 x1)) = w9 at *
         obtain ⟨e9, e0, e1⟩ := hB
         obtain ⟨d9, d0, d1, d2, d3, d4⟩ := hS
         go_wp2_with fail
         refine bodyPost_ret (v := .tuple #[.agg #[.int .i64 p, .slice ax lx.length cx], .agg #[.int .i64 2, .int .i64 v, .int .i64 (min x2 x0), .int .i64 (max x2 x0), .int .i64 x1], .bool true]) (by simp [results, Tryz.results79, go_sem, e9, e0, e1, d9, d0, d1, d2, d3, d4]) rfl ?_
         exact RetUndo.yes HUL.out hO hL
       ·have HE : Hid (und2 p l v = none) := Lib.hid (und2_none HN3.out)
        have US3 := Lib.hid UI.out.us
        clear UI HN3 z9 b90 b91 c0 c1 c2
        obtain ⟨zBG, fBG0, fBG1⟩ := US3.out.bg
        go_wp2_with fail
        go_roundw
        case rel => exact ⟨v + 1, by omega, by go_num, US3.out, fun j hj => by
         by_cases e : j = v
         ·rw [e]; exact HE.out
         ·exact HN.out j (by omega)⟩
        case measure => simp [intOf]; omega
     ·have HU := Lib.hid (und2_no (p := p) h3)
      have hq3 : (((nearL l v).length : Int) != 3) = true := by
       cases h9 : (((nearL l v).length : Int) != 3) with
       | true => rfl
       | false => rw [bne_eq_false_iff_eq] at h9; exact absurd (by omega) h3
      clear o1 hia HND h3
      generalize (nearL l v).length = nn at *
      go_wp2_with fail
      go_roundw
      case rel => exact ⟨v + 1, by omega, by go_num, US.out, fun j hj => by
       by_cases e : j = v
       ·rw [e]; exact HU.out
       ·exact HN.out j (by omega)⟩
      case measure => simp [intOf]; omega
    ·have HE : Hid (undoL p l = none) := Lib.hid (by rw [HR.out]; exact firstS_none _ fun j hj => HN.out j (by omega))
     clear HR hk hus3 HN
     have HF := Lib.hid (UndS.fin0 US.out (p' := p) (ad := a) (n' := l.length) (cd := cap) 0 0 0 0 0)
     obtain ⟨⟨r0, r1, r2, c0, c1⟩, ⟨f0, f1⟩, gz⟩ := US.out.rz
     obtain ⟨⟨q0, q1, q2, q3, q4, d9, d0, d1, d2, d3, d4⟩, g0, g1, g2, g3, g4⟩ := US.out.zs
     go_wp2_with fail
     obtain ⟨hB, hS, hL⟩ := HF.out _ rfl
     clear HF US r0 r1 r2 c0 c1 gz f0 f1 q0 q1 q2 q3 q4 d9 d0 d1 d2 d3 d4 g0 g1 g2 g3 g4 zBG fBG0 fBG1
     generalize (((((((wr.setCell ⟨W.heap.size + 1, 0, none⟩ (.int .i64 p)).setCell ⟨W.heap.size + 1, 1, none⟩ (.slice a l.length cap)).setCell ⟨W.heap.size + 1 + 1, 0, none⟩ (.int .i64 0)).setCell ⟨W.heap.size + 1 + 1, 1, none⟩ (.int .i64 0)).setCell ⟨W.heap.size + 1 + 1, 2, none⟩ (.int .i64 0)).setCell ⟨W.heap.size + 1 + 1, 3, none⟩ (.int .i64 0)).setCell ⟨W.heap.size + 1 + 1, 4, none⟩ (.int .i64 0)) = w9 at *
     obtain ⟨e9, e0, e1⟩ := hB
     obtain ⟨d9, d0, d1, d2, d3, d4⟩ := hS
     refine bodyPost_ret (v := .tuple #[.agg #[.int .i64 p, .slice a l.length cap], .agg #[.int .i64 0, .int .i64 0, .int .i64 0, .int .i64 0, .int .i64 0], .bool false]) (by simp [results, Tryz.results79, go_sem, e9, e0, e1, d9, d0, d1, d2, d3, d4]) rfl ?_
     exact RetUndo.no HE.out hL
end Go.Proofs.YtfbmpkdjhhcnpaaGreat

