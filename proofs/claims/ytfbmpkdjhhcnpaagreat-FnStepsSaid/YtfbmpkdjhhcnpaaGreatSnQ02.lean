/- stepBack of the program. Condition: a valid graph. -/
import Derived.Test.YtfbmpkdjhhcnpaaGreatSnQ01
import Derived.Test.YtfbmpkdjhhcnpaaGreatSnP21
import Derived.Test.YtfbmpkdjhhcnpaaGreatSnP11
import Derived.OwnWalk
import Derived.BigRegion
import Derived.Deep.DeepCutAuto
import Derived.Lib.MinMax
namespace Go.Proofs.YtfbmpkdjhhcnpaaGreat
open Go.RowKit
set_option maxRecDepth 100000
set_option linter.unusedVariables false
set_option linter.unusedSimpArgs false
structure UndJ (W w : World) (p : Int) (a : Option Addr) (n cap gl : Nat) (x0 x1 x2 : Int) (g9 : Nat) (ad : Option Addr) (cd : Nat) (dl : List BarT) : Prop where
 us : UndS W w p a n cap
 gz : gl < w.heap.size
 l0 : w.cell? ⟨gl, 0, none⟩ = some (.int .i64 x0)
 l1 : w.cell? ⟨gl, 1, none⟩ = some (.int .i64 x1)
 l2 : w.cell? ⟨gl, 2, none⟩ = some (.int .i64 x2)
 l3 : w.cell? ⟨gl, 3, none⟩ = some (.int .i64 x1)
 l4 : w.cell? ⟨gl, 4, none⟩ = some (.int .i64 x2)
 l5 : w.cell? ⟨gl, 5, none⟩ = some (.int .i64 x0)
 l6 : w.cell? ⟨gl, 6, none⟩ = some (.int .i64 x2)
 l7 : w.cell? ⟨gl, 7, none⟩ = some (.int .i64 x0)
 l8 : w.cell? ⟨gl, 8, none⟩ = some (.int .i64 x1)
 bd : BoxGr w g9 p ad dl.length cd
 bi : BarsAt w ad dl.length dl
theorem UndJ.below {W w w' : World} {p : Int} {a : Option Addr} {n cap gl : Nat} {x0 x1 x2 : Int} {g9 : Nat} {ad : Option Addr} {cd : Nat} {dl : List BarT} (h : UndJ W w p a n cap gl x0 x1 x2 g9 ad cd dl) (hb : Below w.heap.size w w') : UndJ W w' p a n cap gl x0 x1 x2 g9 ad cd dl :=
 ⟨h.us.below hb, Nat.lt_of_lt_of_le h.gz hb.size, (hb.cell (p := ⟨gl, 0, none⟩) h.gz).trans h.l0, (hb.cell (p := ⟨gl, 1, none⟩) h.gz).trans h.l1, (hb.cell (p := ⟨gl, 2, none⟩) h.gz).trans h.l2, (hb.cell (p := ⟨gl, 3, none⟩) h.gz).trans h.l3, (hb.cell (p := ⟨gl, 4, none⟩) h.gz).trans h.l4, (hb.cell (p := ⟨gl, 5, none⟩) h.gz).trans h.l5, (hb.cell (p := ⟨gl, 6, none⟩) h.gz).trans h.l6, (hb.cell (p := ⟨gl, 7, none⟩) h.gz).trans h.l7, (hb.cell (p := ⟨gl, 8, none⟩) h.gz).trans h.l8, h.bd.below hb, h.bi.below hb⟩
theorem litBx (w : World) (a b : Int) : BarsAt (w.alloc (.cells #[.int .i64 a, .int .i64 b] 70)) (some ⟨w.heap.size, 0, none⟩) 1 [(a, b)] :=
 ⟨rfl, fun k hk => by
  obtain rfl : k = 0 := by omega
  exact ⟨w.heap.size, 0, (a, b), rfl, by simp, rfl, by simp [World.cell?_alloc_new], by simp [World.cell?_alloc_new]⟩⟩
theorem withB1 (w : World) (p : Int) (ad : Option Addr) (cd : Nat) (dl : List BarT) (h : BarsAt w ad dl.length dl) (hs : dl.length ≤ 1048576) (ho : Ord dl) (gb : Nat) (mn mx : Int) (hl : BarsAt w (some ⟨gb, 0, none⟩) 1 [(mn, mx)]) (lx : List BarT) (hq : lx = putL dl (mn, mx)) :
  Calls Tryz.prog 92 #[.agg #[.int .i64 p, .slice ad dl.length cd], .slice (some ⟨gb, 0, none⟩) 1 1] w fun e w' => ∃ ax cx, e = .returned (.agg #[.int .i64 p, .slice ax lx.length cx]) ∧ OwnBars w' w.heap.size (.slice ax lx.length cx) lx ∧ Below w.heap.size w w' := by
 refine (withBars_at w p ad cd dl h hs (some ⟨gb, 0, none⟩) 1 1 [(mn, mx)] hl (by decide)).mono ?_
 rintro e w' ⟨v7, rfl, o7, b7⟩
 rw [sortB_puts _ ho, show putsL dl [(mn, mx)] = putL dl (mn, mx) from rfl, ← hq] at o7
 obtain ⟨vb, ⟨ax, cx, rfl, rfl⟩, ob⟩ := o7
 exact ⟨ax, cx, rfl, ob, b7⟩
structure T3 (w : World) (g : Nat) (x y z : Int) : Prop where
 hi : g < w.heap.size
 c0 : w.cell? ⟨g, 0, none⟩ = some (.int .i64 x)
 c1 : w.cell? ⟨g, 1, none⟩ = some (.int .i64 y)
 c2 : w.cell? ⟨g, 2, none⟩ = some (.int .i64 z)
theorem T3.below {w w' : World} {g : Nat} {x y z : Int} (h : T3 w g x y z) (hb : Below w.heap.size w w') : T3 w' g x y z :=
 ⟨Nat.lt_of_lt_of_le h.hi hb.size, (hb.cell (p := ⟨g, 0, none⟩) h.hi).trans h.c0, (hb.cell (p := ⟨g, 1, none⟩) h.hi).trans h.c1, (hb.cell (p := ⟨g, 2, none⟩) h.hi).trans h.c2⟩
theorem T3.at (w : World) (t : TypeId) (x y z : Int) : T3 (w.alloc (.cells #[.int .i64 x, .int .i64 y, .int .i64 z] t)) w.heap.size x y z :=
 ⟨by simp, by simp, by simp, by simp⟩
structure StB (W w : World) (p : Int) (a : Option Addr) (n cap gl : Nat) (x0 x1 x2 : Int) (g9 : Nat) (ad : Option Addr) (cd : Nat) (dl : List BarT) (gt : Nat) (y0 y1 y2 : Int) (gx : Nat) (ax : Option Addr) (cx : Nat) (lx : List BarT) : Prop where
 uj : UndJ W w p a n cap gl x0 x1 x2 g9 ad cd dl
 t3 : T3 w gt y0 y1 y2
 bx : BoxGr w gx p ax lx.length cx
 ob : OwnBars w (W.heap.size + 3) (.slice ax lx.length cx) lx
 ne : W.heap.size + 3 ≤ gx
theorem StB.below {W w w' : World} {p : Int} {a : Option Addr} {n cap gl : Nat} {x0 x1 x2 : Int} {g9 : Nat} {ad : Option Addr} {cd : Nat} {dl : List BarT} {gt : Nat} {y0 y1 y2 : Int} {gx : Nat} {ax : Option Addr} {cx : Nat} {lx : List BarT} (h : StB W w p a n cap gl x0 x1 x2 g9 ad cd dl gt y0 y1 y2 gx ax cx lx) (hb : Below w.heap.size w w') : StB W w' p a n cap gl x0 x1 x2 g9 ad cd dl gt y0 y1 y2 gx ax cx lx :=
 ⟨h.uj.below hb, h.t3.below hb, h.bx.below hb, h.ob.below hb, h.ne⟩
set_option maxHeartbeats 16000000 in
theorem implUndo_at (W : World) (p : Int) (a : Option Addr) (cap : Nat) (l : List BarT) (h : BarsAt W a l.length l) (hs : l.length ≤ 1048576) (hg : isGraphB (p, l) = true) : Calls Tryz.prog 76 #[.agg #[.int .i64 p, .slice a l.length cap]] W (RetUndo W p (undoL p l)) := by
 have US := Lib.hid (UndS.start W p a cap l h hs)
 have hwd := @Wd.cells
 have HGr : Hid (IsGraph W (.agg #[.int .i64 p, .slice a l.length cap]) (p, l)) := Lib.hid ⟨a, cap, rfl, h⟩
 have H1 := Lib.hid h
 clear h
 have hsz : szGraph (p, l) ≤ 1048576 := hs
 have hsz2 : szGraph (p, l) ≤ 1099511627776 := Nat.le_trans hsz (by decide)
 have B : Below W.heap.size W (W.alloc (.cells #[.int .i64 p, .slice a l.length cap] 26)) := (Below.refl _ _).alloc (Nat.le_refl _) _
 have BG : Hid (BoxGr (W.alloc (.cells #[.int .i64 p, .slice a l.length cap] 26)) W.heap.size p a l.length cap) := Lib.hid (BoxGr.at rfl)
 clear B BG
 obtain ⟨⟨hg1, hg2⟩, hll⟩ := isGraphB_bd hg
 have HG := Lib.hid hg
 clear hg
 go_enter Tryz.func76, Tryz.ntmps76
 go_upto_region 1 with (fail)
 generalize (((W.alloc (.cells #[.int .i64 p, .slice a l.length cap] 26)).alloc (.cells #[.int .i64 0, .slice none 0 0] 26)).alloc (.cells #[.int .i64 0, .int .i64 0, .int .i64 0, .int .i64 0, .int .i64 0] 57)) = u at *
 obtain ⟨zBG, fBG0, fBG1⟩ := US.out.bg
 go_wp2_with fail
 clear zBG fBG0 fBG1
 go_loopw [16] (fun i w9 => ∃ k : Nat, (k : Int) ≤ p ∧ i = .int .i64 k ∧ UndS W w9 p a l.length cap ∧ ∀ j, j < k → und1 l j = none) (fun i _ => p.toNat - (intOf i).toNat)
 case atStart => exact ⟨0, by omega, rfl, US.out, fun j hj => absurd hj (Nat.not_lt_zero _)⟩
 case round =>
  clear US
  obtain ⟨k, hk, rfl, hus, hn⟩ := hrel
  have US := Lib.hid hus
  have hus3 := hus.sz
  have HN := Lib.hid hn
  clear hus hn
  obtain ⟨zBG, fBG0, fBG1⟩ := US.out.bg
  by_cases hlt : (k : Int) < p
  ·have HCW : Hid (∀ w9, Below wr.heap.size wr w9 → Calls Tryz.prog 118 #[.agg #[.int .i64 p, .slice a l.length cap], .int .i64 k] w9 (RetWot w9 p (dropL l k) (nearL l k))) := Lib.hid fun w9 hb => without_at w9 p a cap l (H1.out.below (US.out.b.step hb)) hs HG.out k (by omega)
   have HND := Lib.hid (near_drop l k)
   go_wp2_with fail
   refine (HCW.out _ (Below.refl _ _)).mono ?_
   rintro e w1 ⟨ad, cd, an, cn, rfl, ob, o1, b1⟩
   clear HCW zBG fBG0 fBG1
   have hz1 := b1.size
   have ba := belAl w1 (.cells #[.int .i64 p, .slice ad (dropL l k).length cd] 26)
   replace US := Lib.hid (US.out.below (b1.step ba))
   have HB : Hid (BoxGr (w1.alloc (.cells #[.int .i64 p, .slice ad (dropL l k).length cd] 26)) w1.heap.size p ad (dropL l k).length cd ∧ OwnBars (w1.alloc (.cells #[.int .i64 p, .slice ad (dropL l k).length cd] 26)) wr.heap.size (.slice ad (dropL l k).length cd) (dropL l k)) := Lib.hid ⟨BoxGr.at rfl, ob.below ba⟩
   have O1 := Lib.hid (Below.ownsRow ba o1)
   have hz2 : w1.heap.size < (w1.alloc (.cells #[.int .i64 p, .slice ad (dropL l k).length cd] 26)).heap.size := by simp
   clear b1 ba ob o1
   have hnl : (nearL l k).length ≤ 24 := by have := HND.out; omega
   by_cases h2 : (nearL l k).length = 2
   ·have HU := Lib.hid (undoL_hit1 (p := p) HN.out (by omega) h2)
    have hia : IntsAt (w1.alloc (.cells #[.int .i64 p, .slice ad (dropL l k).length cd] 26)) an (nearL l k).length (nearL l k) := by
     obtain ⟨a9, c9, e9, i9⟩ := OwnInts.form (show OwnInts _ _ _ _ from O1.out)
     simp at e9
     obtain ⟨rfl, rfl⟩ := e9
     exact i9
    obtain ⟨nb, off, rfl, hnb, n0, n1⟩ := ints2 hia h2
    have HC2 := Lib.hid h2
    have hnw : nb ≠ W.heap.size + 1 := by have := (World.ownsRow.lt O1.out nb rfl).1; omega
    have hq2 : (((nearL l k).length : Int) == 2) = true := by rw [h2]; rfl
    clear O1 hia HND
    generalize (nearL l k).length = nn at *
    generalize gI (nearL l k) 0 = x0 at *
    generalize gI (nearL l k) 1 = x1 at *
    have hnn : nn = 2 := HC2.out
    subst hnn
    have hgw : w1.heap.size ≠ W.heap.size + 1 := by omega
    obtain ⟨g6, hg6⟩ : ∃ g, g = w1.heap.size := ⟨_, rfl⟩
    rw [← hg6] at HB hgw
    go_wp2_with fail
    rw [← hg6]
    generalize (w1.alloc (.cells #[.int .i64 p, .slice ad (dropL l k).length cd] 26)) = w0 at *
    clear hg6 hz2 hz1
    have UD := Lib.hid (US.out.below (w' := w0.drew) (Below.refl _ _).drew)
    have HD := Lib.hid (And.intro (HB.out.1.below (w' := w0.drew) (Below.refl _ _).drew) (OwnBars.below (W' := w0.drew) HB.out.2 (Below.refl _ _).drew))
    have s0 : w0.drew.cell? ⟨g6, 0, none⟩ = some (.int .i64 p) ∧ w0.drew.cell? ⟨g6, 1, none⟩ = some (.slice ad (dropL l k).length cd) ∧ w0.drew.cell? ⟨nb, off, none⟩ = some (.int .i64 x0) ∧ w0.drew.cell? ⟨nb, off + 1, none⟩ = some (.int .i64 x1) := ⟨HD.out.1.c0, HD.out.1.c1, n0, n1⟩
    refine wp_regionZ (fun w' => w'.cell? ⟨g6, 0, none⟩ = some (.int .i64 p) ∧ w'.cell? ⟨g6, 1, none⟩ = some (.slice ad (dropL l k).length cd) ∧ w'.cell? ⟨nb, off, none⟩ = some (.int .i64 x0) ∧ w'.cell? ⟨nb, off + 1, none⟩ = some (.int .i64 x1)) 10 (by kernel_rfl) ?_
    clear US HB n0 n1 hnb
    generalize w0.drew = wd at *
    refine wpAnyZ_take (i := 0) (v := ?_) rfl (by kernel_rfl) (by kernel_rfl) (by kernel_rfl) (by kernel_rfl) (by kernel_rfl) (fun _ _ _ h => h) (s0) (by rfl) ?_ ?_
    rotate_left
    · intro x hx; obtain ⟨u1, u2, u3, u4⟩ := hx; go_simp; try (with_reducible rfl)
    try simp only [Act.put, List.setIfInBounds_toArray, List.set_cons_zero, List.set_cons_succ, List.getElem_toArray, List.getElem_cons_zero, List.getElem_cons_succ]
    refine wpAnyZ_take (i := 1) (v := ?_) rfl (by kernel_rfl) (by kernel_rfl) (by kernel_rfl) (by kernel_rfl) (by kernel_rfl) (fun _ _ _ h => h) (s0) (by rfl) ?_ ?_
    rotate_left
    · intro x hx; obtain ⟨u1, u2, u3, u4⟩ := hx; go_simp; try (with_reducible rfl)
    try simp only [Act.put, List.setIfInBounds_toArray, List.set_cons_zero, List.set_cons_succ, List.getElem_toArray, List.getElem_cons_zero, List.getElem_cons_succ]
    refine wpAnyZ_take (i := 2) (v := ?_) rfl (by kernel_rfl) (by kernel_rfl) (by kernel_rfl) (by kernel_rfl) (by kernel_rfl) (fun _ _ _ h => h) (s0) (by rfl) ?_ ?_
    rotate_left
    · intro x hx; obtain ⟨u1, u2, u3, u4⟩ := hx; go_simp; try (with_reducible rfl)
    try simp only [Act.put, List.setIfInBounds_toArray, List.set_cons_zero, List.set_cons_succ, List.getElem_toArray, List.getElem_cons_zero, List.getElem_cons_succ]
    refine wpAnyZ_take (i := 3) (v := ?_) rfl (by kernel_rfl) (by kernel_rfl) (by kernel_rfl) (by kernel_rfl) (by kernel_rfl) (fun _ _ _ h => h) (s0) (by rfl) ?_ ?_
    rotate_left
    · intro x hx; obtain ⟨u1, u2, u3, u4⟩ := hx; go_simp; try (with_reducible rfl)
    try simp only [Act.put, List.setIfInBounds_toArray, List.set_cons_zero, List.set_cons_succ, List.getElem_toArray, List.getElem_cons_zero, List.getElem_cons_succ]
    refine wpAnyZ_take (i := 4) (v := ?_) rfl (by kernel_rfl) (by kernel_rfl) (by kernel_rfl) (by kernel_rfl) (by kernel_rfl) (fun _ _ _ h => h) (s0) (by rfl) ?_ ?_
    rotate_left
    · intro x hx; obtain ⟨u1, u2, u3, u4⟩ := hx; go_simp; try (with_reducible rfl)
    try simp only [Act.put, List.setIfInBounds_toArray, List.set_cons_zero, List.set_cons_succ, List.getElem_toArray, List.getElem_cons_zero, List.getElem_cons_succ]
    refine wpAnyZ_take (i := 5) (v := ?_) rfl (by kernel_rfl) (by kernel_rfl) (by kernel_rfl) (by kernel_rfl) (by kernel_rfl) (fun _ _ _ h => h) (s0) (by rfl) ?_ ?_
    rotate_left
    · intro x hx; obtain ⟨u1, u2, u3, u4⟩ := hx; go_simp; try (with_reducible rfl)
    try simp only [Act.put, List.setIfInBounds_toArray, List.set_cons_zero, List.set_cons_succ, List.getElem_toArray, List.getElem_cons_zero, List.getElem_cons_succ]
    refine wpAnyZ_take (i := 6) (v := ?_) rfl (by kernel_rfl) (by kernel_rfl) (by kernel_rfl) (by kernel_rfl) (by kernel_rfl) (fun _ _ _ h => h) (s0) (by rfl) ?_ ?_
    rotate_left
    · intro x hx; obtain ⟨u1, u2, u3, u4⟩ := hx; go_simp; try (with_reducible rfl)
    try simp only [Act.put, List.setIfInBounds_toArray, List.set_cons_zero, List.set_cons_succ, List.getElem_toArray, List.getElem_cons_zero, List.getElem_cons_succ]
    refine wpAnyZ_take (i := 7) (v := ?_) rfl (by kernel_rfl) (by kernel_rfl) (by kernel_rfl) (by kernel_rfl) (by kernel_rfl) (fun _ _ _ h => h) (s0) (by rfl) ?_ ?_
    rotate_left
    · intro x hx; obtain ⟨u1, u2, u3, u4⟩ := hx; go_simp; try (with_reducible rfl)
    try simp only [Act.put, List.setIfInBounds_toArray, List.set_cons_zero, List.set_cons_succ, List.getElem_toArray, List.getElem_cons_zero, List.getElem_cons_succ]
    refine wpAnyZ_take (i := 8) (v := ?_) rfl (by kernel_rfl) (by kernel_rfl) (by kernel_rfl) (by kernel_rfl) (by kernel_rfl) (fun _ _ _ h => h) (s0) (by rfl) ?_ ?_
    rotate_left
    · intro x hx; obtain ⟨u1, u2, u3, u4⟩ := hx; go_simp; try (with_reducible rfl)
    try simp only [Act.put, List.setIfInBounds_toArray, List.set_cons_zero, List.set_cons_succ, List.getElem_toArray, List.getElem_cons_zero, List.getElem_cons_succ]
    have HF := Lib.hid (UndS.fin UD.out hus3 HD.out.2 1 (k : Int) x0 x1 0 (p' := p))
    have s1 : ((wd.setCell ⟨W.heap.size + 1, 0, none⟩ (.int .i64 p)).setCell ⟨W.heap.size + 1, 1, none⟩ (.slice ad (dropL l k).length cd)).cell? ⟨g6, 0, none⟩ = some (.int .i64 p) ∧ ((wd.setCell ⟨W.heap.size + 1, 0, none⟩ (.int .i64 p)).setCell ⟨W.heap.size + 1, 1, none⟩ (.slice ad (dropL l k).length cd)).cell? ⟨g6, 1, none⟩ = some (.slice ad (dropL l k).length cd) ∧ ((wd.setCell ⟨W.heap.size + 1, 0, none⟩ (.int .i64 p)).setCell ⟨W.heap.size + 1, 1, none⟩ (.slice ad (dropL l k).length cd)).cell? ⟨nb, off, none⟩ = some (.int .i64 x0) ∧ ((wd.setCell ⟨W.heap.size + 1, 0, none⟩ (.int .i64 p)).setCell ⟨W.heap.size + 1, 1, none⟩ (.slice ad (dropL l k).length cd)).cell? ⟨nb, off + 1, none⟩ = some (.int .i64 x1) := ⟨cs2 s0.1 hgw, cs2 s0.2.1 hgw, cs2 s0.2.2.1 hnw, cs2 s0.2.2.2 hnw⟩
    obtain ⟨⟨r0, r1, r2, c0, c1⟩, ⟨f0, f1⟩, gz⟩ := UD.out.rz
    obtain ⟨⟨q0, q1, q2, q3, q4, d9, d0, d1, d2, d3, d4⟩, g0, g1, g2, g3, g4⟩ := UD.out.zs
    clear UD HD
    refine wpAnyZ_step (i := 9) (by kernel_rfl) rfl (by rfl) ?_
    intro KK hKK
    go_simp
    refine hKK.out _ _ (.inr s1) ?_
    clear hKK KK
    try simp only [Act.put, List.setIfInBounds_toArray, List.set_cons_zero, List.set_cons_succ, List.getElem_toArray, List.getElem_cons_zero, List.getElem_cons_succ]
    refine wpAnyZ_step (i := 10) (by kernel_rfl) rfl (by rfl) ?_
    intro KK hKK
    go_simp
    refine hKK.out _ _ (.inl (by kernel_rfl)) ?_
    clear hKK KK
    try simp only [Act.put, List.setIfInBounds_toArray, List.set_cons_zero, List.set_cons_succ, List.getElem_toArray, List.getElem_cons_zero, List.getElem_cons_succ]
    refine wpAnyZ_step (i := 11) (by kernel_rfl) rfl (by rfl) ?_
    intro KK hKK
    go_simp
    refine hKK.out _ _ (.inl (by kernel_rfl)) ?_
    clear hKK KK
    try simp only [Act.put, List.setIfInBounds_toArray, List.set_cons_zero, List.set_cons_succ, List.getElem_toArray, List.getElem_cons_zero, List.getElem_cons_succ]
    refine wpAnyZ_done (by kernel_rfl) ?_ _
    obtain ⟨hB, hS, hO, hL⟩ := HF.out _ rfl
    clear HF s0 s1 r0 r1 r2 c0 c1 gz f0 f1 q0 q1 q2 q3 q4 d9 d0 d1 d2 d3 d4 g0 g1 g2 g3 g4
    generalize (((((((wd.setCell ⟨W.heap.size + 1, 0, none⟩ (.int .i64 p)).setCell ⟨W.heap.size + 1, 1, none⟩ (.slice ad (dropL l k).length cd)).setCell ⟨W.heap.size + 1 + 1, 0, none⟩ (.int .i64 1)).setCell ⟨W.heap.size + 1 + 1, 1, none⟩ (.int .i64 k)).setCell ⟨W.heap.size + 1 + 1, 2, none⟩ (.int .i64 x0)).setCell ⟨W.heap.size + 1 + 1, 3, none⟩ (.int .i64 x1)).setCell ⟨W.heap.size + 1 + 1, 4, none⟩ (.int .i64 0)) = w9 at *
    obtain ⟨e9, e0, e1⟩ := hB
    obtain ⟨d9, d0, d1, d2, d3, d4⟩ := hS
    go_wp2_with fail
    refine bodyPost_ret (v := .tuple #[.agg #[.int .i64 p, .slice ad (dropL l k).length cd], .agg #[.int .i64 1, .int .i64 k, .int .i64 x0, .int .i64 x1, .int .i64 0], .bool true]) (by simp [results, Tryz.results76, go_sem, e9, e0, e1, d9, d0, d1, d2, d3, d4]) rfl ?_
    exact RetUndo.yes HU.out hO hL
   ·have HU := Lib.hid (und1_no h2)
    have hq2 : (((nearL l k).length : Int) == 2) = false := by
     cases h9 : (((nearL l k).length : Int) == 2) with
     | false => rfl
     | true => rw [beq_iff_eq] at h9; exact absurd (by omega) h2
    clear O1 HND h2 HB
    generalize (nearL l k).length = nn at *
    go_wp2_with fail
    go_roundw
    case rel => exact ⟨k + 1, by omega, by go_num, US.out, fun j hj => by
     by_cases e : j = k
     ·rw [e]; exact HU.out
     ·exact HN.out j (by omega)⟩
    case measure => simp [intOf]; omega
  ·have hkp : (k : Int) = p := by omega
   have HR := Lib.hid (undoL_rest (p := p) (l := l) fun j hj => HN.out j (by omega))
   clear HN
   go_wp2_with fail
   clear zBG fBG0 fBG1
   obtain ⟨w0, hw0⟩ : ∃ w0, w0 = wr := ⟨_, rfl⟩
   subst hw0
   clear hkp hlt hk
   go_loopw [40] (fun i w9 => ∃ v : Nat, (v : Int) ≤ p ∧ i = .int .i64 v ∧ UndS W w9 p a l.length cap ∧ ∀ j, j < v → und2 p l j = none) (fun i _ => p.toNat - (intOf i).toNat)
   case atStart => exact ⟨0, by omega, rfl, US.out, fun j hj => absurd hj (Nat.not_lt_zero _)⟩
   case round =>
    clear US hus3
    obtain ⟨v, hk, rfl, hus, hn⟩ := hrel
    have US := Lib.hid hus
    have hus3 := hus.sz
    have HN := Lib.hid hn
    clear hus hn
    obtain ⟨zBG, fBG0, fBG1⟩ := US.out.bg
    by_cases hlt : (v : Int) < p
    ·have HCW : Hid (∀ w9, Below wr.heap.size wr w9 → Calls Tryz.prog 118 #[.agg #[.int .i64 p, .slice a l.length cap], .int .i64 v] w9 (RetWot w9 p (dropL l v) (nearL l v))) := Lib.hid fun w9 hb => without_at w9 p a cap l (H1.out.below (US.out.b.step hb)) hs HG.out v (by omega)
     have HND := Lib.hid (near_drop l v)
     go_wp2_with fail
     refine (HCW.out _ (Below.refl _ _)).mono ?_
     rintro e w1 ⟨ad, cd, an, cn, rfl, ob, o1, b1⟩
     clear HCW zBG fBG0 fBG1
     have hz1 := b1.size
     have ba := belAl w1 (.cells #[.int .i64 p, .slice ad (dropL l v).length cd] 26)
     replace US := Lib.hid (US.out.below (b1.step ba))
     have HB : Hid (BoxGr (w1.alloc (.cells #[.int .i64 p, .slice ad (dropL l v).length cd] 26)) w1.heap.size p ad (dropL l v).length cd ∧ OwnBars (w1.alloc (.cells #[.int .i64 p, .slice ad (dropL l v).length cd] 26)) wr.heap.size (.slice ad (dropL l v).length cd) (dropL l v)) := Lib.hid ⟨BoxGr.at rfl, ob.below ba⟩
     have O1 := Lib.hid (Below.ownsRow ba o1)
     have hz2 : w1.heap.size < (w1.alloc (.cells #[.int .i64 p, .slice ad (dropL l v).length cd] 26)).heap.size := by simp
     clear b1 ba ob o1
     have hnl : (nearL l v).length ≤ 24 := by have := HND.out; omega
     by_cases h3 : (nearL l v).length = 3
     ·have hia : IntsAt (w1.alloc (.cells #[.int .i64 p, .slice ad (dropL l v).length cd] 26)) an (nearL l v).length (nearL l v) := by
       obtain ⟨a9, c9, e9, i9⟩ := OwnInts.form (show OwnInts _ _ _ _ from O1.out)
       simp at e9
       obtain ⟨rfl, rfl⟩ := e9
       exact i9
      obtain ⟨nb, off, rfl, hnb, n0, n1, n2⟩ := ints3 hia h3
      have HC3 := Lib.hid h3
      have HIT : Hid (∀ k, (∀ j, j < k → und3 p l v j = none) → k < 3 → sparseB (p, undX l v k) 2 3 = true → und2 p l v = some (undX l v k, undT l v k)) := Lib.hid fun k hn hk h => und2_hit h3 hn hk h
      have hnw : W.heap.size + 3 ≤ nb := by have := (World.ownsRow.lt O1.out nb rfl).1; omega
      have hq3 : (((nearL l v).length : Int) != 3) = false := by rw [h3]; rfl
      have hdl : (dropL l v).length ≤ 24 := by have := HND.out; omega
      clear O1 hia HND
      obtain ⟨x0, hx0⟩ : ∃ x, x = gI (nearL l v) 0 := ⟨_, rfl⟩
      obtain ⟨x1, hx1⟩ : ∃ x, x = gI (nearL l v) 1 := ⟨_, rfl⟩
      obtain ⟨x2, hx2⟩ : ∃ x, x = gI (nearL l v) 2 := ⟨_, rfl⟩
      rw [← hx0] at n0
      rw [← hx1] at n1
      rw [← hx2] at n2
      have HX := Lib.hid (And.intro hx0 (And.intro hx1 hx2))
      clear hx0 hx1 hx2
      generalize (nearL l v).length = nn at *
      have hnn : nn = 3 := HC3.out
      subst hnn
      obtain ⟨g9, hg9⟩ : ∃ g, g = w1.heap.size := ⟨_, rfl⟩
      rw [← hg9] at HB
      have hgw : W.heap.size + 3 ≤ g9 := by omega
      go_wp2_with fail
      rw [← hg9]
      generalize (w1.alloc (.cells #[.int .i64 p, .slice ad (dropL l v).length cd] 26)) = w0 at *
      clear hg9 hz2 hz1
      have UD := Lib.hid (US.out.below (w' := w0.drew) (Below.refl _ _).drew)
      have HD := Lib.hid (And.intro (HB.out.1.below (w' := w0.drew) (Below.refl _ _).drew) (OwnBars.below (W' := w0.drew) HB.out.2 (Below.refl _ _).drew))
      have s0 : w0.drew.cell? ⟨nb, off, none⟩ = some (.int .i64 x0) ∧ w0.drew.cell? ⟨nb, off + 1, none⟩ = some (.int .i64 x1) ∧ w0.drew.cell? ⟨nb, off + 2, none⟩ = some (.int .i64 x2) := ⟨n0, n1, n2⟩
      refine wp_regionZ (fun w' => w'.cell? ⟨nb, off, none⟩ = some (.int .i64 x0) ∧ w'.cell? ⟨nb, off + 1, none⟩ = some (.int .i64 x1) ∧ w'.cell? ⟨nb, off + 2, none⟩ = some (.int .i64 x2)) 30 (by kernel_rfl) ?_
      clear US HB n0 n1 n2
      have hnd : nb < w0.drew.heap.size := hnb
      clear hnb
      generalize w0.drew = wd at *
      refine wpAnyZ_takeAny (i := 32) (v := ?_) rfl (by kernel_rfl) (by kernel_rfl) (by kernel_rfl) (by decide) (fun _ _ _ h => h) (s0) (by rfl) ?_ ?_
      rotate_left
      · intro x; go_simp; try (with_reducible rfl)
      try simp only [Act.put, List.setIfInBounds_toArray, List.set_cons_zero, List.set_cons_succ, List.getElem_toArray, List.getElem_cons_zero, List.getElem_cons_succ]
      refine wpAnyZ_takeC (i := 0) (v := ?_) [1, 2, 9, 30] rfl (by kernel_rfl) (by kernel_rfl) (by kernel_rfl) (by kernel_rfl) (by kernel_rfl) (by kernel_rfl) (fun _ _ _ h => h) (s0) (by rfl) ?_ ?_
      rotate_left
      · intro x hx; obtain ⟨u1, u2, u3⟩ := hx; go_simp; try (with_reducible rfl)
      try simp only [Act.put, List.setIfInBounds_toArray, List.set_cons_zero, List.set_cons_succ, List.getElem_toArray, List.getElem_cons_zero, List.getElem_cons_succ]
      refine wpAnyZ_takeC (i := 1) (v := ?_) [2, 9, 30] rfl (by kernel_rfl) (by kernel_rfl) (by kernel_rfl) (by kernel_rfl) (by kernel_rfl) (by kernel_rfl) (fun _ _ _ h => h) (s0) (by rfl) ?_ ?_
      rotate_left
      · intro x hx; obtain ⟨u1, u2, u3⟩ := hx; go_simp; try (with_reducible rfl)
      try simp only [Act.put, List.setIfInBounds_toArray, List.set_cons_zero, List.set_cons_succ, List.getElem_toArray, List.getElem_cons_zero, List.getElem_cons_succ]
      refine wpAnyZ_takeC (i := 2) (v := ?_) [9, 30] rfl (by kernel_rfl) (by kernel_rfl) (by kernel_rfl) (by kernel_rfl) (by kernel_rfl) (by kernel_rfl) (fun _ _ _ h => h) (s0) (by rfl) ?_ ?_
      rotate_left
      · intro x hx; obtain ⟨u1, u2, u3⟩ := hx; go_simp; try (with_reducible rfl)
      try simp only [Act.put, List.setIfInBounds_toArray, List.set_cons_zero, List.set_cons_succ, List.getElem_toArray, List.getElem_cons_zero, List.getElem_cons_succ]
      refine wpAnyZ_takeC (i := 3) (v := ?_) [4, 5, 9, 30] rfl (by kernel_rfl) (by kernel_rfl) (by kernel_rfl) (by kernel_rfl) (by kernel_rfl) (by kernel_rfl) (fun _ _ _ h => h) (s0) (by rfl) ?_ ?_
      rotate_left
      · intro x hx; obtain ⟨u1, u2, u3⟩ := hx; go_simp; try (with_reducible rfl)
      try simp only [Act.put, List.setIfInBounds_toArray, List.set_cons_zero, List.set_cons_succ, List.getElem_toArray, List.getElem_cons_zero, List.getElem_cons_succ]
      refine wpAnyZ_takeC (i := 4) (v := ?_) [5, 9, 30] rfl (by kernel_rfl) (by kernel_rfl) (by kernel_rfl) (by kernel_rfl) (by kernel_rfl) (by kernel_rfl) (fun _ _ _ h => h) (s0) (by rfl) ?_ ?_
      rotate_left
      · intro x hx; obtain ⟨u1, u2, u3⟩ := hx; go_simp; try (with_reducible rfl)
      try simp only [Act.put, List.setIfInBounds_toArray, List.set_cons_zero, List.set_cons_succ, List.getElem_toArray, List.getElem_cons_zero, List.getElem_cons_succ]
      refine wpAnyZ_takeC (i := 5) (v := ?_) [9, 30] rfl (by kernel_rfl) (by kernel_rfl) (by kernel_rfl) (by kernel_rfl) (by kernel_rfl) (by kernel_rfl) (fun _ _ _ h => h) (s0) (by rfl) ?_ ?_
      rotate_left
      · intro x hx; obtain ⟨u1, u2, u3⟩ := hx; go_simp; try (with_reducible rfl)
      try simp only [Act.put, List.setIfInBounds_toArray, List.set_cons_zero, List.set_cons_succ, List.getElem_toArray, List.getElem_cons_zero, List.getElem_cons_succ]
      refine wpAnyZ_takeC (i := 6) (v := ?_) [7, 8, 9, 30] rfl (by kernel_rfl) (by kernel_rfl) (by kernel_rfl) (by kernel_rfl) (by kernel_rfl) (by kernel_rfl) (fun _ _ _ h => h) (s0) (by rfl) ?_ ?_
      rotate_left
      · intro x hx; obtain ⟨u1, u2, u3⟩ := hx; go_simp; try (with_reducible rfl)
      try simp only [Act.put, List.setIfInBounds_toArray, List.set_cons_zero, List.set_cons_succ, List.getElem_toArray, List.getElem_cons_zero, List.getElem_cons_succ]
      refine wpAnyZ_takeC (i := 7) (v := ?_) [8, 9, 30] rfl (by kernel_rfl) (by kernel_rfl) (by kernel_rfl) (by kernel_rfl) (by kernel_rfl) (by kernel_rfl) (fun _ _ _ h => h) (s0) (by rfl) ?_ ?_
      rotate_left
      · intro x hx; obtain ⟨u1, u2, u3⟩ := hx; go_simp; try (with_reducible rfl)
      try simp only [Act.put, List.setIfInBounds_toArray, List.set_cons_zero, List.set_cons_succ, List.getElem_toArray, List.getElem_cons_zero, List.getElem_cons_succ]
      refine wpAnyZ_takeC (i := 8) (v := ?_) [9, 30] rfl (by kernel_rfl) (by kernel_rfl) (by kernel_rfl) (by kernel_rfl) (by kernel_rfl) (by kernel_rfl) (fun _ _ _ h => h) (s0) (by rfl) ?_ ?_
      rotate_left
      · intro x hx; obtain ⟨u1, u2, u3⟩ := hx; go_simp; try (with_reducible rfl)
      try simp only [Act.put, List.setIfInBounds_toArray, List.set_cons_zero, List.set_cons_succ, List.getElem_toArray, List.getElem_cons_zero, List.getElem_cons_succ]
      refine wpAnyZ_takeC (i := 9) (v := ?_) [30] rfl (by kernel_rfl) (by kernel_rfl) (by kernel_rfl) (by kernel_rfl) (by kernel_rfl) (by kernel_rfl) (fun _ _ _ h => h) (s0) (by rfl) ?_ ?_
      rotate_left
      · intro x hx; obtain ⟨u1, u2, u3⟩ := hx; go_simp; try (with_reducible rfl)
      try simp only [Act.put, List.setIfInBounds_toArray, List.set_cons_zero, List.set_cons_succ, List.getElem_toArray, List.getElem_cons_zero, List.getElem_cons_succ]
      refine wpAnyZ_takeC (i := 10) (v := ?_) [11, 12, 19, 30] rfl (by kernel_rfl) (by kernel_rfl) (by kernel_rfl) (by kernel_rfl) (by kernel_rfl) (by kernel_rfl) (fun _ _ _ h => h) (s0) (by rfl) ?_ ?_
      rotate_left
      · intro x hx; obtain ⟨u1, u2, u3⟩ := hx; go_simp; try (with_reducible rfl)
      try simp only [Act.put, List.setIfInBounds_toArray, List.set_cons_zero, List.set_cons_succ, List.getElem_toArray, List.getElem_cons_zero, List.getElem_cons_succ]
      refine wpAnyZ_takeC (i := 11) (v := ?_) [12, 19, 30] rfl (by kernel_rfl) (by kernel_rfl) (by kernel_rfl) (by kernel_rfl) (by kernel_rfl) (by kernel_rfl) (fun _ _ _ h => h) (s0) (by rfl) ?_ ?_
      rotate_left
      · intro x hx; obtain ⟨u1, u2, u3⟩ := hx; go_simp; try (with_reducible rfl)
      try simp only [Act.put, List.setIfInBounds_toArray, List.set_cons_zero, List.set_cons_succ, List.getElem_toArray, List.getElem_cons_zero, List.getElem_cons_succ]
      refine wpAnyZ_takeC (i := 12) (v := ?_) [19, 30] rfl (by kernel_rfl) (by kernel_rfl) (by kernel_rfl) (by kernel_rfl) (by kernel_rfl) (by kernel_rfl) (fun _ _ _ h => h) (s0) (by rfl) ?_ ?_
      rotate_left
      · intro x hx; obtain ⟨u1, u2, u3⟩ := hx; go_simp; try (with_reducible rfl)
      try simp only [Act.put, List.setIfInBounds_toArray, List.set_cons_zero, List.set_cons_succ, List.getElem_toArray, List.getElem_cons_zero, List.getElem_cons_succ]
      refine wpAnyZ_takeC (i := 13) (v := ?_) [14, 15, 19, 30] rfl (by kernel_rfl) (by kernel_rfl) (by kernel_rfl) (by kernel_rfl) (by kernel_rfl) (by kernel_rfl) (fun _ _ _ h => h) (s0) (by rfl) ?_ ?_
      rotate_left
      · intro x hx; obtain ⟨u1, u2, u3⟩ := hx; go_simp; try (with_reducible rfl)
      try simp only [Act.put, List.setIfInBounds_toArray, List.set_cons_zero, List.set_cons_succ, List.getElem_toArray, List.getElem_cons_zero, List.getElem_cons_succ]
      refine wpAnyZ_takeC (i := 14) (v := ?_) [15, 19, 30] rfl (by kernel_rfl) (by kernel_rfl) (by kernel_rfl) (by kernel_rfl) (by kernel_rfl) (by kernel_rfl) (fun _ _ _ h => h) (s0) (by rfl) ?_ ?_
      rotate_left
      · intro x hx; obtain ⟨u1, u2, u3⟩ := hx; go_simp; try (with_reducible rfl)
      try simp only [Act.put, List.setIfInBounds_toArray, List.set_cons_zero, List.set_cons_succ, List.getElem_toArray, List.getElem_cons_zero, List.getElem_cons_succ]
      refine wpAnyZ_takeC (i := 15) (v := ?_) [19, 30] rfl (by kernel_rfl) (by kernel_rfl) (by kernel_rfl) (by kernel_rfl) (by kernel_rfl) (by kernel_rfl) (fun _ _ _ h => h) (s0) (by rfl) ?_ ?_
      rotate_left
      · intro x hx; obtain ⟨u1, u2, u3⟩ := hx; go_simp; try (with_reducible rfl)
      try simp only [Act.put, List.setIfInBounds_toArray, List.set_cons_zero, List.set_cons_succ, List.getElem_toArray, List.getElem_cons_zero, List.getElem_cons_succ]
      refine wpAnyZ_takeC (i := 16) (v := ?_) [17, 18, 19, 30] rfl (by kernel_rfl) (by kernel_rfl) (by kernel_rfl) (by kernel_rfl) (by kernel_rfl) (by kernel_rfl) (fun _ _ _ h => h) (s0) (by rfl) ?_ ?_
      rotate_left
      · intro x hx; obtain ⟨u1, u2, u3⟩ := hx; go_simp; try (with_reducible rfl)
      try simp only [Act.put, List.setIfInBounds_toArray, List.set_cons_zero, List.set_cons_succ, List.getElem_toArray, List.getElem_cons_zero, List.getElem_cons_succ]
      refine wpAnyZ_takeC (i := 17) (v := ?_) [18, 19, 30] rfl (by kernel_rfl) (by kernel_rfl) (by kernel_rfl) (by kernel_rfl) (by kernel_rfl) (by kernel_rfl) (fun _ _ _ h => h) (s0) (by rfl) ?_ ?_
      rotate_left
      · intro x hx; obtain ⟨u1, u2, u3⟩ := hx; go_simp; try (with_reducible rfl)
      try simp only [Act.put, List.setIfInBounds_toArray, List.set_cons_zero, List.set_cons_succ, List.getElem_toArray, List.getElem_cons_zero, List.getElem_cons_succ]
      refine wpAnyZ_takeC (i := 18) (v := ?_) [19, 30] rfl (by kernel_rfl) (by kernel_rfl) (by kernel_rfl) (by kernel_rfl) (by kernel_rfl) (by kernel_rfl) (fun _ _ _ h => h) (s0) (by rfl) ?_ ?_
      rotate_left
      · intro x hx; obtain ⟨u1, u2, u3⟩ := hx; go_simp; try (with_reducible rfl)
      try simp only [Act.put, List.setIfInBounds_toArray, List.set_cons_zero, List.set_cons_succ, List.getElem_toArray, List.getElem_cons_zero, List.getElem_cons_succ]
      refine wpAnyZ_takeC (i := 19) (v := ?_) [30] rfl (by kernel_rfl) (by kernel_rfl) (by kernel_rfl) (by kernel_rfl) (by kernel_rfl) (by kernel_rfl) (fun _ _ _ h => h) (s0) (by rfl) ?_ ?_
      rotate_left
      · intro x hx; obtain ⟨u1, u2, u3⟩ := hx; go_simp; try (with_reducible rfl)
      try simp only [Act.put, List.setIfInBounds_toArray, List.set_cons_zero, List.set_cons_succ, List.getElem_toArray, List.getElem_cons_zero, List.getElem_cons_succ]
      refine wpAnyZ_takeC (i := 20) (v := ?_) [21, 22, 29, 30] rfl (by kernel_rfl) (by kernel_rfl) (by kernel_rfl) (by kernel_rfl) (by kernel_rfl) (by kernel_rfl) (fun _ _ _ h => h) (s0) (by rfl) ?_ ?_
      rotate_left
      · intro x hx; obtain ⟨u1, u2, u3⟩ := hx; go_simp; try (with_reducible rfl)
      try simp only [Act.put, List.setIfInBounds_toArray, List.set_cons_zero, List.set_cons_succ, List.getElem_toArray, List.getElem_cons_zero, List.getElem_cons_succ]
      refine wpAnyZ_takeC (i := 21) (v := ?_) [22, 29, 30] rfl (by kernel_rfl) (by kernel_rfl) (by kernel_rfl) (by kernel_rfl) (by kernel_rfl) (by kernel_rfl) (fun _ _ _ h => h) (s0) (by rfl) ?_ ?_
      rotate_left
      · intro x hx; obtain ⟨u1, u2, u3⟩ := hx; go_simp; try (with_reducible rfl)
      try simp only [Act.put, List.setIfInBounds_toArray, List.set_cons_zero, List.set_cons_succ, List.getElem_toArray, List.getElem_cons_zero, List.getElem_cons_succ]
      refine wpAnyZ_takeC (i := 22) (v := ?_) [29, 30] rfl (by kernel_rfl) (by kernel_rfl) (by kernel_rfl) (by kernel_rfl) (by kernel_rfl) (by kernel_rfl) (fun _ _ _ h => h) (s0) (by rfl) ?_ ?_
      rotate_left
      · intro x hx; obtain ⟨u1, u2, u3⟩ := hx; go_simp; try (with_reducible rfl)
      try simp only [Act.put, List.setIfInBounds_toArray, List.set_cons_zero, List.set_cons_succ, List.getElem_toArray, List.getElem_cons_zero, List.getElem_cons_succ]
      refine wpAnyZ_takeC (i := 23) (v := ?_) [24, 25, 29, 30] rfl (by kernel_rfl) (by kernel_rfl) (by kernel_rfl) (by kernel_rfl) (by kernel_rfl) (by kernel_rfl) (fun _ _ _ h => h) (s0) (by rfl) ?_ ?_
      rotate_left
      · intro x hx; obtain ⟨u1, u2, u3⟩ := hx; go_simp; try (with_reducible rfl)
      try simp only [Act.put, List.setIfInBounds_toArray, List.set_cons_zero, List.set_cons_succ, List.getElem_toArray, List.getElem_cons_zero, List.getElem_cons_succ]
      refine wpAnyZ_takeC (i := 24) (v := ?_) [25, 29, 30] rfl (by kernel_rfl) (by kernel_rfl) (by kernel_rfl) (by kernel_rfl) (by kernel_rfl) (by kernel_rfl) (fun _ _ _ h => h) (s0) (by rfl) ?_ ?_
      rotate_left
      · intro x hx; obtain ⟨u1, u2, u3⟩ := hx; go_simp; try (with_reducible rfl)
      try simp only [Act.put, List.setIfInBounds_toArray, List.set_cons_zero, List.set_cons_succ, List.getElem_toArray, List.getElem_cons_zero, List.getElem_cons_succ]
      refine wpAnyZ_takeC (i := 25) (v := ?_) [29, 30] rfl (by kernel_rfl) (by kernel_rfl) (by kernel_rfl) (by kernel_rfl) (by kernel_rfl) (by kernel_rfl) (fun _ _ _ h => h) (s0) (by rfl) ?_ ?_
      rotate_left
      · intro x hx; obtain ⟨u1, u2, u3⟩ := hx; go_simp; try (with_reducible rfl)
      try simp only [Act.put, List.setIfInBounds_toArray, List.set_cons_zero, List.set_cons_succ, List.getElem_toArray, List.getElem_cons_zero, List.getElem_cons_succ]
      refine wpAnyZ_takeC (i := 26) (v := ?_) [27, 28, 29, 30] rfl (by kernel_rfl) (by kernel_rfl) (by kernel_rfl) (by kernel_rfl) (by kernel_rfl) (by kernel_rfl) (fun _ _ _ h => h) (s0) (by rfl) ?_ ?_
      rotate_left
      · intro x hx; obtain ⟨u1, u2, u3⟩ := hx; go_simp; try (with_reducible rfl)
      try simp only [Act.put, List.setIfInBounds_toArray, List.set_cons_zero, List.set_cons_succ, List.getElem_toArray, List.getElem_cons_zero, List.getElem_cons_succ]
      refine wpAnyZ_takeC (i := 27) (v := ?_) [28, 29, 30] rfl (by kernel_rfl) (by kernel_rfl) (by kernel_rfl) (by kernel_rfl) (by kernel_rfl) (by kernel_rfl) (fun _ _ _ h => h) (s0) (by rfl) ?_ ?_
      rotate_left
      · intro x hx; obtain ⟨u1, u2, u3⟩ := hx; go_simp; try (with_reducible rfl)
      try simp only [Act.put, List.setIfInBounds_toArray, List.set_cons_zero, List.set_cons_succ, List.getElem_toArray, List.getElem_cons_zero, List.getElem_cons_succ]
      refine wpAnyZ_takeC (i := 28) (v := ?_) [29, 30] rfl (by kernel_rfl) (by kernel_rfl) (by kernel_rfl) (by kernel_rfl) (by kernel_rfl) (by kernel_rfl) (fun _ _ _ h => h) (s0) (by rfl) ?_ ?_
      rotate_left
      · intro x hx; obtain ⟨u1, u2, u3⟩ := hx; go_simp; try (with_reducible rfl)
      try simp only [Act.put, List.setIfInBounds_toArray, List.set_cons_zero, List.set_cons_succ, List.getElem_toArray, List.getElem_cons_zero, List.getElem_cons_succ]
      refine wpAnyZ_takeC (i := 29) (v := ?_) [30] rfl (by kernel_rfl) (by kernel_rfl) (by kernel_rfl) (by kernel_rfl) (by kernel_rfl) (by kernel_rfl) (fun _ _ _ h => h) (s0) (by rfl) ?_ ?_
      rotate_left
      · intro x hx; obtain ⟨u1, u2, u3⟩ := hx; go_simp; try (with_reducible rfl)
      try simp only [Act.put, List.setIfInBounds_toArray, List.set_cons_zero, List.set_cons_succ, List.getElem_toArray, List.getElem_cons_zero, List.getElem_cons_succ]
      have bl := belAl wd (.cells #[.int .i64 x0, .int .i64 x1, .int .i64 x2, .int .i64 x1, .int .i64 x2, .int .i64 x0, .int .i64 x2, .int .i64 x0, .int .i64 x1] 126)
      have sA : (wd.alloc (.cells #[.int .i64 x0, .int .i64 x1, .int .i64 x2, .int .i64 x1, .int .i64 x2, .int .i64 x0, .int .i64 x2, .int .i64 x0, .int .i64 x1] 126)).cell? ⟨nb, off, none⟩ = some (.int .i64 x0) ∧ (wd.alloc (.cells #[.int .i64 x0, .int .i64 x1, .int .i64 x2, .int .i64 x1, .int .i64 x2, .int .i64 x0, .int .i64 x2, .int .i64 x0, .int .i64 x1] 126)).cell? ⟨nb, off + 1, none⟩ = some (.int .i64 x1) ∧ (wd.alloc (.cells #[.int .i64 x0, .int .i64 x1, .int .i64 x2, .int .i64 x1, .int .i64 x2, .int .i64 x0, .int .i64 x2, .int .i64 x0, .int .i64 x1] 126)).cell? ⟨nb, off + 2, none⟩ = some (.int .i64 x2) := ⟨(bl.cell (p := ⟨nb, off, none⟩) hnd).trans s0.1, (bl.cell (p := ⟨nb, off + 1, none⟩) hnd).trans s0.2.1, (bl.cell (p := ⟨nb, off + 2, none⟩) hnd).trans s0.2.2⟩
      refine wpAnyZ_step (i := 30) (by kernel_rfl) rfl (by rfl) ?_
      intro KK hKK
      go_simp
      refine hKK.out _ _ (.inr sA) ?_
      clear hKK KK
      try simp only [Act.put, List.setIfInBounds_toArray, List.set_cons_zero, List.set_cons_succ, List.getElem_toArray, List.getElem_cons_zero, List.getElem_cons_succ]
      refine wpAnyZ_step (i := 31) (by kernel_rfl) rfl (by rfl) ?_
      intro KK hKK
      go_simp
      refine hKK.out _ _ (.inl (by kernel_rfl)) ?_
      clear hKK KK
      try simp only [Act.put, List.setIfInBounds_toArray, List.set_cons_zero, List.set_cons_succ, List.getElem_toArray, List.getElem_cons_zero, List.getElem_cons_succ]
      refine wpAnyZ_done (by kernel_rfl) ?_ _
      have UJ : Hid (UndJ W (wd.alloc (.cells #[.int .i64 x0, .int .i64 x1, .int .i64 x2, .int .i64 x1, .int .i64 x2, .int .i64 x0, .int .i64 x2, .int .i64 x0, .int .i64 x1] 126)) p a l.length cap wd.heap.size x0 x1 x2 g9 ad cd (dropL l v)) := Lib.hid (by
       have i9 : BarsAt wd ad (dropL l v).length (dropL l v) := by
        obtain ⟨a9, c9, e9, i9⟩ := HD.out.2.form
        simp at e9
        obtain ⟨rfl, rfl⟩ := e9
        exact i9
       exact ⟨UD.out.below bl, by simp, by simp, by simp, by simp, by simp, by simp, by simp, by simp, by simp, by simp, HD.out.1.below bl, i9.below bl⟩)
      clear UD HD s0 sA bl hnd hnw hgw
      obtain ⟨gl, hgl⟩ : ∃ g, g = wd.heap.size := ⟨_, rfl⟩
      rw [← hgl] at UJ
      go_wp2_with fail
      rw [← hgl]
      generalize (wd.alloc (.cells #[.int .i64 x0, .int .i64 x1, .int .i64 x2, .int .i64 x1, .int .i64 x2, .int .i64 x0, .int .i64 x2, .int .i64 x0, .int .i64 x1] 126)) = u at *
      clear hgl
      go_loopw [84] (fun i w9 => ∃ k : Nat, k ≤ 3 ∧ i = .int .i64 k ∧ UndJ W w9 p a l.length cap gl x0 x1 x2 g9 ad cd (dropL l v) ∧ ∀ j, j < k → und3 p l v j = none) (fun i _ => 3 - (intOf i).toNat)
      case atStart => exact ⟨0, by omega, rfl, UJ.out, fun j hj => absurd hj (Nat.not_lt_zero _)⟩
      case round =>
       clear UJ
       obtain ⟨k, hk3, rfl, huj, hn3⟩ := hrel
       have UJ := Lib.hid huj
       have HN3 := Lib.hid hn3
       clear huj hn3
       have huz := UJ.out.gz
       by_cases hlt3 : k < 3
       ·obtain ⟨y0, y1, y2, c0, c1, c2, hxx⟩ : ∃ y0 y1 y2, wr.cell? ⟨gl, k * 3, none⟩ = some (.int .i64 y0) ∧ wr.cell? ⟨gl, k * 3 + 1, none⟩ = some (.int .i64 y1) ∧ wr.cell? ⟨gl, k * 3 + 2, none⟩ = some (.int .i64 y2) ∧ undX l v k = putL (dropL l v) ((min y0 y1), (max y0 y1)) ∧ undT l v k = (2, (v : Int), (min y0 y1), (max y0 y1), y2) := by
         obtain ⟨h0, h1, h2⟩ := HX.out
         obtain rfl | rfl | rfl : k = 0 ∨ k = 1 ∨ k = 2 := by omega
         ·exact ⟨x0, x1, x2, UJ.out.l0, UJ.out.l1, UJ.out.l2, by rw [h0, h1]; rfl, by rw [h0, h1, h2]; rfl⟩
         ·exact ⟨x1, x2, x0, UJ.out.l3, UJ.out.l4, UJ.out.l5, by rw [h1, h2]; rfl, by rw [h0, h1, h2]; rfl⟩
         ·exact ⟨x2, x0, x1, UJ.out.l6, UJ.out.l7, UJ.out.l8, by rw [h0, h2]; rfl, by rw [h0, h1, h2]; rfl⟩
        have HXX := Lib.hid hxx
        clear hxx
        have hk0 : (0 : Int) ≤ (k : Int) := by omega
        have hk3i : (k : Int) < 3 := by omega
        have hlx : (putL (dropL l v) ((min y0 y1), (max y0 y1))).length ≤ 25 := by rw [putL_length]; omega
        have ba := belAl wr (.cells #[.int .i64 y0, .int .i64 y1, .int .i64 y2] 126)
        have UB := Lib.hid (UJ.out.below ba)
        have HT0 := Lib.hid (T3.at wr 126 y0 y1 y2)
        have hwz : W.heap.size + 3 ≤ wr.heap.size := UJ.out.us.sz
        clear UJ ba
        obtain ⟨gt, hgt⟩ : ∃ g, g = wr.heap.size := ⟨_, rfl⟩
        rw [← hgt] at HT0 hwz
        go_wp2_with fail
        rw [← hgt]
        generalize (wr.alloc (.cells #[.int .i64 y0, .int .i64 y1, .int .i64 y2] 126)) = w0 at *
        clear c0 c1 c2 hgt huz
        obtain ⟨lx, hlq⟩ : ∃ lx, lx = putL (dropL l v) ((min y0 y1), (max y0 y1)) := ⟨_, rfl⟩
        rw [← hlq] at HXX hlx
        have HLQ := Lib.hid hlq
        clear hlq
        go_cut [13] (fun s wx => ∃ gx ax cx, s = .pointer (some ⟨gx, 0, none⟩) ∧ StB W wx p a l.length cap gl x0 x1 x2 g9 ad cd (dropL l v) gt y0 y1 y2 gx ax cx lx)
        case first =>
         have UD := Lib.hid (UB.out.below (w' := w0.drew) (Below.refl _ _).drew)
         have HT := Lib.hid (HT0.out.below (w' := w0.drew) (Below.refl _ _).drew)
         refine wp_regionZ (fun w' => w'.cell? ⟨g9, 0, none⟩ = some (.int .i64 p) ∧ w'.cell? ⟨g9, 1, none⟩ = some (.slice ad (dropL l v).length cd) ∧ w'.cell? ⟨gt, 0, none⟩ = some (.int .i64 y0) ∧ w'.cell? ⟨gt, 1, none⟩ = some (.int .i64 y1)) 9 (by kernel_rfl) ?_
         have hdl2 : (dropL l v).length ≤ 1048576 := by omega
         clear UB HT0 HN3 HXX
         generalize w0.drew = wd at *
         have SK : Hid (∀ w', Below wd.heap.size wd w' → w'.cell? ⟨g9, 0, none⟩ = some (.int .i64 p) ∧ w'.cell? ⟨g9, 1, none⟩ = some (.slice ad (dropL l v).length cd) ∧ w'.cell? ⟨gt, 0, none⟩ = some (.int .i64 y0) ∧ w'.cell? ⟨gt, 1, none⟩ = some (.int .i64 y1)) := Lib.hid fun w' hb => ⟨(UD.out.bd.below hb).c0, (UD.out.bd.below hb).c1, (HT.out.below hb).c0, (HT.out.below hb).c1⟩
         have s0 := SK.out _ (Below.refl _ _)
         have BD := Lib.hid (Below.refl wd.heap.size wd)
         have HOR := Lib.hid (isGraphB_ord (dropL_graph (v : Int) HG.out))
         have hgz : W.heap.size + 3 ≤ wd.heap.size := UD.out.us.sz
         refine wpAnyZ_takeC (i := 0) (v := ?_) [9] rfl (by kernel_rfl) (by kernel_rfl) (by kernel_rfl) (by kernel_rfl) (by kernel_rfl) (by kernel_rfl) (fun _ _ _ h => h) (s0) (by rfl) ?_ ?_
         rotate_left
         · intro x hx; obtain ⟨u1, u2, u3, u4⟩ := hx; go_simp; try (with_reducible rfl)
         try simp only [Act.put, List.setIfInBounds_toArray, List.set_cons_zero, List.set_cons_succ, List.getElem_toArray, List.getElem_cons_zero, List.getElem_cons_succ]
         refine wpAnyZ_takeC (i := 1) (v := ?_) [9] rfl (by kernel_rfl) (by kernel_rfl) (by kernel_rfl) (by kernel_rfl) (by kernel_rfl) (by kernel_rfl) (fun _ _ _ h => h) (s0) (by rfl) ?_ ?_
         rotate_left
         · intro x hx; obtain ⟨u1, u2, u3, u4⟩ := hx; go_simp; try (with_reducible rfl)
         try simp only [Act.put, List.setIfInBounds_toArray, List.set_cons_zero, List.set_cons_succ, List.getElem_toArray, List.getElem_cons_zero, List.getElem_cons_succ]
         refine wpAnyZ_takeC (i := 2) (v := ?_) [9] rfl (by kernel_rfl) (by kernel_rfl) (by kernel_rfl) (by kernel_rfl) (by kernel_rfl) (by kernel_rfl) (fun _ _ _ h => h) (s0) (by rfl) ?_ ?_
         rotate_left
         · intro x hx; obtain ⟨u1, u2, u3, u4⟩ := hx; go_simp; try (with_reducible rfl)
         try simp only [Act.put, List.setIfInBounds_toArray, List.set_cons_zero, List.set_cons_succ, List.getElem_toArray, List.getElem_cons_zero, List.getElem_cons_succ]
         refine wpAnyZ_takeC (i := 3) (v := ?_) [9] rfl (by kernel_rfl) (by kernel_rfl) (by kernel_rfl) (by kernel_rfl) (by kernel_rfl) (by kernel_rfl) (fun _ _ _ h => h) (s0) (by rfl) ?_ ?_
         rotate_left
         · intro x hx; obtain ⟨u1, u2, u3, u4⟩ := hx; go_simp; try (with_reducible rfl)
         try simp only [Act.put, List.setIfInBounds_toArray, List.set_cons_zero, List.set_cons_succ, List.getElem_toArray, List.getElem_cons_zero, List.getElem_cons_succ]
         refine wpAnyZ_takeC (i := 4) (v := ?_) [9] rfl (by kernel_rfl) (by kernel_rfl) (by kernel_rfl) (by kernel_rfl) (by kernel_rfl) (by kernel_rfl) (fun _ _ _ h => h) (s0) (by rfl) ?_ ?_
         rotate_left
         · intro x hx; obtain ⟨u1, u2, u3, u4⟩ := hx; go_simp; try (with_reducible rfl)
         try simp only [Act.put, List.setIfInBounds_toArray, List.set_cons_zero, List.set_cons_succ, List.getElem_toArray, List.getElem_cons_zero, List.getElem_cons_succ]
         clear s0
         refine wpAnyZ_node [5, 8] (by kernel_rfl) (by decide) ?_
         intro i hi
         simp only [List.mem_cons, List.not_mem_nil, or_false] at hi
         rcases hi with rfl | rfl
         ·refine ⟨_, rfl, by rfl, ?_⟩
          intro KK hKK
          go_simp
          go_at_call 93
          refine (bar_any _ _ _).mono ?_
          rintro e wb20 ⟨rfl, bb⟩
          have hzq := bb.size
          replace BD := Lib.hid (BD.out.step bb)
          clear bb hzq
          go_wp2_with fail
          refine hKK.out _ _ (.inr (SK.out _ BD.out)) ?_
          clear hKK KK
          try simp only [Act.put, List.setIfInBounds_toArray, List.set_cons_zero, List.set_cons_succ, List.getElem_toArray, List.getElem_cons_zero, List.getElem_cons_succ]
          refine wpAnyZ_node [6, 8] (by kernel_rfl) (by decide) ?_
          intro i hi
          simp only [List.mem_cons, List.not_mem_nil, or_false] at hi
          rcases hi with rfl | rfl
          ·refine ⟨_, rfl, by rfl, ?_⟩
           intro KK hKK
           have bl := belAl wb20 (.cells #[.int .i64 (min y0 y1), .int .i64 (max y0 y1)] 70)
           have HLIT := Lib.hid (litBx wb20 (min y0 y1) (max y0 y1))
           replace BD := Lib.hid (BD.out.step bl)
           clear bl
           go_simp
           refine hKK.out _ _ (.inr (SK.out _ BD.out)) ?_
           clear hKK KK
           try simp only [Act.put, List.setIfInBounds_toArray, List.set_cons_zero, List.set_cons_succ, List.getElem_toArray, List.getElem_cons_zero, List.getElem_cons_succ]
           obtain ⟨gb, hgb⟩ : ∃ g, g = wb20.heap.size := ⟨_, rfl⟩
           rw [← hgb] at HLIT
           try rw [← hgb]
           generalize (wb20.alloc (.cells #[.int .i64 (min y0 y1), .int .i64 (max y0 y1)] 70)) = wl22 at *
           clear hgb
           refine wpAnyZ_node [7, 8] (by kernel_rfl) (by decide) ?_
           intro i hi
           simp only [List.mem_cons, List.not_mem_nil, or_false] at hi
           rcases hi with rfl | rfl
           ·refine ⟨_, rfl, by rfl, ?_⟩
            intro KK hKK
            go_simp
            go_at_call 92
            refine (withB1 wl22 p ad cd (dropL l v) (UD.out.bi.below BD.out) hdl2 HOR.out gb (min y0 y1) (max y0 y1) HLIT.out lx HLQ.out).mono ?_
            rintro e wm24 ⟨ax, cx, rfl, ob, b7⟩
            have hbw := BD.out.size
            have HOB := Lib.hid ob
            replace BD := Lib.hid (BD.out.step b7)
            clear ob b7 HLIT
            go_wp2_with fail
            refine hKK.out _ _ (.inr (SK.out _ BD.out)) ?_
            clear hKK KK
            try simp only [Act.put, List.setIfInBounds_toArray, List.set_cons_zero, List.set_cons_succ, List.getElem_toArray, List.getElem_cons_zero, List.getElem_cons_succ]
            refine wpAnyZ_step (i := 8) (by kernel_rfl) rfl (by rfl) ?_
            intro KK hKK
            have bl := belAl wm24 (.cells #[.int .i64 0, .slice none 0 0] 26)
            have BDo := BD
            have hgx : wd.heap.size ≤ wm24.heap.size := BD.out.size
            replace BD := Lib.hid (BD.out.step bl)
            clear bl
            go_simp
            refine hKK.out _ _ (.inr (SK.out _ BD.out)) ?_
            clear hKK KK
            try simp only [Act.put, List.setIfInBounds_toArray, List.set_cons_zero, List.set_cons_succ, List.getElem_toArray, List.getElem_cons_zero, List.getElem_cons_succ]
            have bl := belAl wm24 (.cells #[.int .i64 p, .slice ax lx.length cx] 26)
            have BF := Lib.hid (BDo.out.step bl)
            have HST : Hid (StB W (wm24.alloc (.cells #[.int .i64 p, .slice ax lx.length cx] 26)) p a l.length cap gl x0 x1 x2 g9 ad cd (dropL l v) gt y0 y1 y2 wm24.heap.size ax cx lx) := Lib.hid ⟨UD.out.below BF.out, HT.out.below BF.out, BoxGr.at rfl, (OwnBars.below HOB.out bl).low (by omega), by omega⟩
            clear BD BDo BF bl
            refine wpAnyZ_step (i := 9) (by kernel_rfl) rfl (by rfl) ?_
            intro KK hKK
            go_simp
            refine hKK.out _ _ (.inl (by kernel_rfl)) ?_
            clear hKK KK
            try simp only [Act.put, List.setIfInBounds_toArray, List.set_cons_zero, List.set_cons_succ, List.getElem_toArray, List.getElem_cons_zero, List.getElem_cons_succ]
            refine wpAnyZ_done (by kernel_rfl) ?_ _
            clear HOB UD HT SK
            go_wp2_with fail
            go_meet
            exact ⟨_, _, _, rfl, HST.out⟩
           ·refine ⟨_, rfl, by rfl, ?_⟩
            intro KK hKK
            have bl := belAl wl22 (.cells #[.int .i64 0, .slice none 0 0] 26)
            have BDo := BD
            obtain ⟨gx, hgg⟩ : ∃ g, g = wl22.heap.size := ⟨_, rfl⟩
            have hgx : wd.heap.size ≤ gx := by rw [hgg]; exact BDo.out.size
            have HZ : Hid (Zer2 (wl22.alloc (.cells #[.int .i64 0, .slice none 0 0] 26)) gx) := Lib.hid (by rw [hgg]; exact Zer2.at wl22 26)
            have HGG := Lib.hid hgg
            clear hgg
            replace BD := Lib.hid (BD.out.step bl)
            replace HLIT := Lib.hid (HLIT.out.below bl)
            clear bl
            go_simp
            refine hKK.out _ _ (.inr (SK.out _ BD.out)) ?_
            clear hKK KK
            try simp only [Act.put, List.setIfInBounds_toArray, List.set_cons_zero, List.set_cons_succ, List.getElem_toArray, List.getElem_cons_zero, List.getElem_cons_succ]
            try rw [← HGG.out]
            generalize (wl22.alloc (.cells #[.int .i64 0, .slice none 0 0] 26)) = wa24 at *
            clear HGG BDo
            refine wpAnyZ_step (i := 7) (by kernel_rfl) rfl (by rfl) ?_
            intro KK hKK
            go_simp
            go_at_call 92
            refine (withB1 wa24 p ad cd (dropL l v) (UD.out.bi.below BD.out) hdl2 HOR.out gb (min y0 y1) (max y0 y1) HLIT.out lx HLQ.out).mono ?_
            rintro e wm24 ⟨ax, cx, rfl, ob, b7⟩
            have hbw := BD.out.size
            have hgw9 := HZ.out.2.2
            have HOB := Lib.hid ob
            replace BD := Lib.hid (BD.out.step b7)
            replace HZ := Lib.hid (HZ.out.below b7)
            clear ob b7 HLIT
            go_wp2_with fail
            refine hKK.out _ _ (.inr (SK.out _ BD.out)) ?_
            clear hKK KK
            try simp only [Act.put, List.setIfInBounds_toArray, List.set_cons_zero, List.set_cons_succ, List.getElem_toArray, List.getElem_cons_zero, List.getElem_cons_succ]
            have BF := Lib.hid ((BD.out.setCell (p := ⟨gx, 0, none⟩) hgx (.int .i64 p)).setCell (p := ⟨gx, 1, none⟩) hgx (.slice ax lx.length cx))
            have HST : Hid (StB W ((wm24.setCell ⟨gx, 0, none⟩ (.int .i64 p)).setCell ⟨gx, 1, none⟩ (.slice ax lx.length cx)) p a l.length cap gl x0 x1 x2 g9 ad cd (dropL l v) gt y0 y1 y2 gx ax cx lx) := Lib.hid ⟨UD.out.below BF.out, HT.out.below BF.out, boxS2 HZ.out, ((HOB.out.set (by show gx < _; omega) _).set (by show gx < _; omega) _).low (by omega), by omega⟩
            obtain ⟨⟨r0, r1, r2, c0, c1⟩, ⟨f0, f1⟩, gz⟩ := HZ.out
            clear HZ BD BF
            refine wpAnyZ_step (i := 9) (by kernel_rfl) rfl (by rfl) ?_
            intro KK hKK
            go_simp
            refine hKK.out _ _ (.inl (by kernel_rfl)) ?_
            clear hKK KK
            try simp only [Act.put, List.setIfInBounds_toArray, List.set_cons_zero, List.set_cons_succ, List.getElem_toArray, List.getElem_cons_zero, List.getElem_cons_succ]
            refine wpAnyZ_done (by kernel_rfl) ?_ _
            clear HOB UD HT SK
            go_wp2_with fail
            go_meet
            exact ⟨_, _, _, rfl, HST.out⟩
          ·refine ⟨_, rfl, by rfl, ?_⟩
           intro KK hKK
           have bl := belAl wb20 (.cells #[.int .i64 0, .slice none 0 0] 26)
           have BDo := BD
           obtain ⟨gx, hgg⟩ : ∃ g, g = wb20.heap.size := ⟨_, rfl⟩
           have hgx : wd.heap.size ≤ gx := by rw [hgg]; exact BDo.out.size
           have HZ : Hid (Zer2 (wb20.alloc (.cells #[.int .i64 0, .slice none 0 0] 26)) gx) := Lib.hid (by rw [hgg]; exact Zer2.at wb20 26)
           have HGG := Lib.hid hgg
           clear hgg
           replace BD := Lib.hid (BD.out.step bl)
           clear bl
           go_simp
           refine hKK.out _ _ (.inr (SK.out _ BD.out)) ?_
           clear hKK KK
           try simp only [Act.put, List.setIfInBounds_toArray, List.set_cons_zero, List.set_cons_succ, List.getElem_toArray, List.getElem_cons_zero, List.getElem_cons_succ]
           try rw [← HGG.out]
           generalize (wb20.alloc (.cells #[.int .i64 0, .slice none 0 0] 26)) = wa22 at *
           clear HGG BDo
           refine wpAnyZ_step (i := 6) (by kernel_rfl) rfl (by rfl) ?_
           intro KK hKK
           have bl := belAl wa22 (.cells #[.int .i64 (min y0 y1), .int .i64 (max y0 y1)] 70)
           have HLIT := Lib.hid (litBx wa22 (min y0 y1) (max y0 y1))
           replace BD := Lib.hid (BD.out.step bl)
           replace HZ := Lib.hid (HZ.out.below bl)
           clear bl
           go_simp
           refine hKK.out _ _ (.inr (SK.out _ BD.out)) ?_
           clear hKK KK
           try simp only [Act.put, List.setIfInBounds_toArray, List.set_cons_zero, List.set_cons_succ, List.getElem_toArray, List.getElem_cons_zero, List.getElem_cons_succ]
           obtain ⟨gb, hgb⟩ : ∃ g, g = wa22.heap.size := ⟨_, rfl⟩
           rw [← hgb] at HLIT
           try rw [← hgb]
           generalize (wa22.alloc (.cells #[.int .i64 (min y0 y1), .int .i64 (max y0 y1)] 70)) = wl22 at *
           clear hgb
           refine wpAnyZ_step (i := 7) (by kernel_rfl) rfl (by rfl) ?_
           intro KK hKK
           go_simp
           go_at_call 92
           refine (withB1 wl22 p ad cd (dropL l v) (UD.out.bi.below BD.out) hdl2 HOR.out gb (min y0 y1) (max y0 y1) HLIT.out lx HLQ.out).mono ?_
           rintro e wm22 ⟨ax, cx, rfl, ob, b7⟩
           have hbw := BD.out.size
           have hgw9 := HZ.out.2.2
           have HOB := Lib.hid ob
           replace BD := Lib.hid (BD.out.step b7)
           replace HZ := Lib.hid (HZ.out.below b7)
           clear ob b7 HLIT
           go_wp2_with fail
           refine hKK.out _ _ (.inr (SK.out _ BD.out)) ?_
           clear hKK KK
           try simp only [Act.put, List.setIfInBounds_toArray, List.set_cons_zero, List.set_cons_succ, List.getElem_toArray, List.getElem_cons_zero, List.getElem_cons_succ]
           have BF := Lib.hid ((BD.out.setCell (p := ⟨gx, 0, none⟩) hgx (.int .i64 p)).setCell (p := ⟨gx, 1, none⟩) hgx (.slice ax lx.length cx))
           have HST : Hid (StB W ((wm22.setCell ⟨gx, 0, none⟩ (.int .i64 p)).setCell ⟨gx, 1, none⟩ (.slice ax lx.length cx)) p a l.length cap gl x0 x1 x2 g9 ad cd (dropL l v) gt y0 y1 y2 gx ax cx lx) := Lib.hid ⟨UD.out.below BF.out, HT.out.below BF.out, boxS2 HZ.out, ((HOB.out.set (by show gx < _; omega) _).set (by show gx < _; omega) _).low (by omega), by omega⟩
           obtain ⟨⟨r0, r1, r2, c0, c1⟩, ⟨f0, f1⟩, gz⟩ := HZ.out
           clear HZ BD BF
           refine wpAnyZ_step (i := 9) (by kernel_rfl) rfl (by rfl) ?_
           intro KK hKK
           go_simp
           refine hKK.out _ _ (.inl (by kernel_rfl)) ?_
           clear hKK KK
           try simp only [Act.put, List.setIfInBounds_toArray, List.set_cons_zero, List.set_cons_succ, List.getElem_toArray, List.getElem_cons_zero, List.getElem_cons_succ]
           refine wpAnyZ_done (by kernel_rfl) ?_ _
           clear HOB UD HT SK
           go_wp2_with fail
           go_meet
           exact ⟨_, _, _, rfl, HST.out⟩
         ·refine ⟨_, rfl, by rfl, ?_⟩
          intro KK hKK
          have bl := belAl wd (.cells #[.int .i64 0, .slice none 0 0] 26)
          have BDo := BD
          obtain ⟨gx, hgg⟩ : ∃ g, g = wd.heap.size := ⟨_, rfl⟩
          have hgx : wd.heap.size ≤ gx := by rw [hgg]; exact BDo.out.size
          have HZ : Hid (Zer2 (wd.alloc (.cells #[.int .i64 0, .slice none 0 0] 26)) gx) := Lib.hid (by rw [hgg]; exact Zer2.at wd 26)
          have HGG := Lib.hid hgg
          clear hgg
          replace BD := Lib.hid (BD.out.step bl)
          clear bl
          go_simp
          refine hKK.out _ _ (.inr (SK.out _ BD.out)) ?_
          clear hKK KK
          try simp only [Act.put, List.setIfInBounds_toArray, List.set_cons_zero, List.set_cons_succ, List.getElem_toArray, List.getElem_cons_zero, List.getElem_cons_succ]
          try rw [← HGG.out]
          generalize (wd.alloc (.cells #[.int .i64 0, .slice none 0 0] 26)) = wa20 at *
          clear HGG BDo
          refine wpAnyZ_step (i := 5) (by kernel_rfl) rfl (by rfl) ?_
          intro KK hKK
          go_simp
          go_at_call 93
          refine (bar_any _ _ _).mono ?_
          rintro e wb20 ⟨rfl, bb⟩
          have hzq := bb.size
          replace BD := Lib.hid (BD.out.step bb)
          replace HZ := Lib.hid (HZ.out.below bb)
          clear bb hzq
          go_wp2_with fail
          refine hKK.out _ _ (.inr (SK.out _ BD.out)) ?_
          clear hKK KK
          try simp only [Act.put, List.setIfInBounds_toArray, List.set_cons_zero, List.set_cons_succ, List.getElem_toArray, List.getElem_cons_zero, List.getElem_cons_succ]
          refine wpAnyZ_step (i := 6) (by kernel_rfl) rfl (by rfl) ?_
          intro KK hKK
          have bl := belAl wb20 (.cells #[.int .i64 (min y0 y1), .int .i64 (max y0 y1)] 70)
          have HLIT := Lib.hid (litBx wb20 (min y0 y1) (max y0 y1))
          replace BD := Lib.hid (BD.out.step bl)
          replace HZ := Lib.hid (HZ.out.below bl)
          clear bl
          go_simp
          refine hKK.out _ _ (.inr (SK.out _ BD.out)) ?_
          clear hKK KK
          try simp only [Act.put, List.setIfInBounds_toArray, List.set_cons_zero, List.set_cons_succ, List.getElem_toArray, List.getElem_cons_zero, List.getElem_cons_succ]
          obtain ⟨gb, hgb⟩ : ∃ g, g = wb20.heap.size := ⟨_, rfl⟩
          rw [← hgb] at HLIT
          try rw [← hgb]
          generalize (wb20.alloc (.cells #[.int .i64 (min y0 y1), .int .i64 (max y0 y1)] 70)) = wl20 at *
          clear hgb
          refine wpAnyZ_step (i := 7) (by kernel_rfl) rfl (by rfl) ?_
          intro KK hKK
          go_simp
          go_at_call 92
          refine (withB1 wl20 p ad cd (dropL l v) (UD.out.bi.below BD.out) hdl2 HOR.out gb (min y0 y1) (max y0 y1) HLIT.out lx HLQ.out).mono ?_
          rintro e wm20 ⟨ax, cx, rfl, ob, b7⟩
          have hbw := BD.out.size
          have hgw9 := HZ.out.2.2
          have HOB := Lib.hid ob
          replace BD := Lib.hid (BD.out.step b7)
          replace HZ := Lib.hid (HZ.out.below b7)
          clear ob b7 HLIT
          go_wp2_with fail
          refine hKK.out _ _ (.inr (SK.out _ BD.out)) ?_
          clear hKK KK
          try simp only [Act.put, List.setIfInBounds_toArray, List.set_cons_zero, List.set_cons_succ, List.getElem_toArray, List.getElem_cons_zero, List.getElem_cons_succ]
          have BF := Lib.hid ((BD.out.setCell (p := ⟨gx, 0, none⟩) hgx (.int .i64 p)).setCell (p := ⟨gx, 1, none⟩) hgx (.slice ax lx.length cx))
          have HST : Hid (StB W ((wm20.setCell ⟨gx, 0, none⟩ (.int .i64 p)).setCell ⟨gx, 1, none⟩ (.slice ax lx.length cx)) p a l.length cap gl x0 x1 x2 g9 ad cd (dropL l v) gt y0 y1 y2 gx ax cx lx) := Lib.hid ⟨UD.out.below BF.out, HT.out.below BF.out, boxS2 HZ.out, ((HOB.out.set (by show gx < _; omega) _).set (by show gx < _; omega) _).low (by omega), by omega⟩
          obtain ⟨⟨r0, r1, r2, c0, c1⟩, ⟨f0, f1⟩, gz⟩ := HZ.out
          clear HZ BD BF
          refine wpAnyZ_step (i := 9) (by kernel_rfl) rfl (by rfl) ?_
          intro KK hKK
          go_simp
          refine hKK.out _ _ (.inl (by kernel_rfl)) ?_
          clear hKK KK
          try simp only [Act.put, List.setIfInBounds_toArray, List.set_cons_zero, List.set_cons_succ, List.getElem_toArray, List.getElem_cons_zero, List.getElem_cons_succ]
          refine wpAnyZ_done (by kernel_rfl) ?_ _
          clear HOB UD HT SK
          go_wp2_with fail
          go_meet
          exact ⟨_, _, _, rfl, HST.out⟩
        case rest =>
         clear UB HT0
         obtain ⟨gx, ax, cx, rfl, hst⟩ := hcut
         have HST := Lib.hid hst
         clear hst HLQ
         have hgx3 := HST.out.ne
         have hxi : BarsAt wc ax lx.length lx := by
          obtain ⟨a9, c9, e9, i9⟩ := HST.out.ob.form
          simp at e9
          obtain ⟨rfl, rfl⟩ := e9
          exact i9
         obtain ⟨zX, fX0, fX1⟩ := HST.out.bx
         go_wp2_with fail
         clear zX fX0 fX1
         refine (implSparse_at wc p ax cx lx hxi (by omega) 2 3).mono ?_
         rintro e w8 ⟨rfl, b8⟩
         replace HST := Lib.hid (HST.out.below b8)
         clear b8 hxi
         cases hsp : sparseB (p, lx) 2 3
         ·have HU := Lib.hid (und3_no (p := p) (l := l) (v := v) (k := k) (by rw [HXX.out.1]; exact hsp))
          clear hsp
          go_wp2_with fail
          go_roundw
          case rel => exact ⟨k + 1, by omega, by go_num, HST.out.uj, fun j hj => by
           by_cases e : j = k
           ·rw [e]; exact HU.out
           ·exact HN3.out j (by omega)⟩
          case measure => simp [intOf]; omega
         ·have HU := Lib.hid (HIT.out k HN3.out (by omega) (by rw [HXX.out.1]; exact hsp))
          have HUL := Lib.hid (show undoL p l = some (undX l v k, undT l v k) by rw [HR.out]; exact firstS_hit2 HN.out (by omega) HU.out)
          clear hsp HU HN3 HN
          rw [HXX.out.1, HXX.out.2] at HUL
          clear HXX
          go_wp2_with fail
          have HSD := Lib.hid (HST.out.below (w' := w8.drew) (Below.refl _ _).drew)
          have hgw : gx ≠ W.heap.size + 1 := by omega
          have hgt2 : gt ≠ W.heap.size + 1 := by omega
          refine wp_regionZ (fun w' => w'.cell? ⟨gx, 0, none⟩ = some (.int .i64 p) ∧ w'.cell? ⟨gx, 1, none⟩ = some (.slice ax lx.length cx) ∧ w'.cell? ⟨gt, 0, none⟩ = some (.int .i64 y0) ∧ w'.cell? ⟨gt, 1, none⟩ = some (.int .i64 y1) ∧ w'.cell? ⟨gt, 2, none⟩ = some (.int .i64 y2)) 16 (by kernel_rfl) ?_
          clear HST
          generalize w8.drew = wd at *
          have s0 : wd.cell? ⟨gx, 0, none⟩ = some (.int .i64 p) ∧ wd.cell? ⟨gx, 1, none⟩ = some (.slice ax lx.length cx) ∧ wd.cell? ⟨gt, 0, none⟩ = some (.int .i64 y0) ∧ wd.cell? ⟨gt, 1, none⟩ = some (.int .i64 y1) ∧ wd.cell? ⟨gt, 2, none⟩ = some (.int .i64 y2) := ⟨HSD.out.bx.c0, HSD.out.bx.c1, HSD.out.t3.c0, HSD.out.t3.c1, HSD.out.t3.c2⟩
          refine wpAnyZ_take (i := 0) (v := ?_) rfl (by kernel_rfl) (by kernel_rfl) (by kernel_rfl) (by kernel_rfl) (by kernel_rfl) (fun _ _ _ h => h) (s0) (by rfl) ?_ ?_
          rotate_left
          · intro x hx; obtain ⟨u1, u2, u3, u4, u5⟩ := hx; go_simp; try (with_reducible rfl)
          try simp only [Act.put, List.setIfInBounds_toArray, List.set_cons_zero, List.set_cons_succ, List.getElem_toArray, List.getElem_cons_zero, List.getElem_cons_succ]
          refine wpAnyZ_take (i := 1) (v := ?_) rfl (by kernel_rfl) (by kernel_rfl) (by kernel_rfl) (by kernel_rfl) (by kernel_rfl) (fun _ _ _ h => h) (s0) (by rfl) ?_ ?_
          rotate_left
          · intro x hx; obtain ⟨u1, u2, u3, u4, u5⟩ := hx; go_simp; try (with_reducible rfl)
          try simp only [Act.put, List.setIfInBounds_toArray, List.set_cons_zero, List.set_cons_succ, List.getElem_toArray, List.getElem_cons_zero, List.getElem_cons_succ]
          refine wpAnyZ_take (i := 2) (v := ?_) rfl (by kernel_rfl) (by kernel_rfl) (by kernel_rfl) (by kernel_rfl) (by kernel_rfl) (fun _ _ _ h => h) (s0) (by rfl) ?_ ?_
          rotate_left
          · intro x hx; obtain ⟨u1, u2, u3, u4, u5⟩ := hx; go_simp; try (with_reducible rfl)
          try simp only [Act.put, List.setIfInBounds_toArray, List.set_cons_zero, List.set_cons_succ, List.getElem_toArray, List.getElem_cons_zero, List.getElem_cons_succ]
          refine wpAnyZ_take (i := 3) (v := ?_) rfl (by kernel_rfl) (by kernel_rfl) (by kernel_rfl) (by kernel_rfl) (by kernel_rfl) (fun _ _ _ h => h) (s0) (by rfl) ?_ ?_
          rotate_left
          · intro x hx; obtain ⟨u1, u2, u3, u4, u5⟩ := hx; go_simp; try (with_reducible rfl)
          try simp only [Act.put, List.setIfInBounds_toArray, List.set_cons_zero, List.set_cons_succ, List.getElem_toArray, List.getElem_cons_zero, List.getElem_cons_succ]
          refine wpAnyZ_take (i := 4) (v := ?_) rfl (by kernel_rfl) (by kernel_rfl) (by kernel_rfl) (by kernel_rfl) (by kernel_rfl) (fun _ _ _ h => h) (s0) (by rfl) ?_ ?_
          rotate_left
          · intro x hx; obtain ⟨u1, u2, u3, u4, u5⟩ := hx; go_simp; try (with_reducible rfl)
          try simp only [Act.put, List.setIfInBounds_toArray, List.set_cons_zero, List.set_cons_succ, List.getElem_toArray, List.getElem_cons_zero, List.getElem_cons_succ]
          refine wpAnyZ_take (i := 5) (v := ?_) rfl (by kernel_rfl) (by kernel_rfl) (by kernel_rfl) (by kernel_rfl) (by kernel_rfl) (fun _ _ _ h => h) (s0) (by rfl) ?_ ?_
          rotate_left
          · intro x hx; obtain ⟨u1, u2, u3, u4, u5⟩ := hx; go_simp; try (with_reducible rfl)
          try simp only [Act.put, List.setIfInBounds_toArray, List.set_cons_zero, List.set_cons_succ, List.getElem_toArray, List.getElem_cons_zero, List.getElem_cons_succ]
          refine wpAnyZ_take (i := 6) (v := ?_) rfl (by kernel_rfl) (by kernel_rfl) (by kernel_rfl) (by kernel_rfl) (by kernel_rfl) (fun _ _ _ h => h) (s0) (by rfl) ?_ ?_
          rotate_left
          · intro x hx; obtain ⟨u1, u2, u3, u4, u5⟩ := hx; go_simp; try (with_reducible rfl)
          try simp only [Act.put, List.setIfInBounds_toArray, List.set_cons_zero, List.set_cons_succ, List.getElem_toArray, List.getElem_cons_zero, List.getElem_cons_succ]
          refine wpAnyZ_take (i := 7) (v := ?_) rfl (by kernel_rfl) (by kernel_rfl) (by kernel_rfl) (by kernel_rfl) (by kernel_rfl) (fun _ _ _ h => h) (s0) (by rfl) ?_ ?_
          rotate_left
          · intro x hx; obtain ⟨u1, u2, u3, u4, u5⟩ := hx; go_simp; try (with_reducible rfl)
          try simp only [Act.put, List.setIfInBounds_toArray, List.set_cons_zero, List.set_cons_succ, List.getElem_toArray, List.getElem_cons_zero, List.getElem_cons_succ]
          refine wpAnyZ_take (i := 8) (v := ?_) rfl (by kernel_rfl) (by kernel_rfl) (by kernel_rfl) (by kernel_rfl) (by kernel_rfl) (fun _ _ _ h => h) (s0) (by rfl) ?_ ?_
          rotate_left
          · intro x hx; obtain ⟨u1, u2, u3, u4, u5⟩ := hx; go_simp; try (with_reducible rfl)
          try simp only [Act.put, List.setIfInBounds_toArray, List.set_cons_zero, List.set_cons_succ, List.getElem_toArray, List.getElem_cons_zero, List.getElem_cons_succ]
          refine wpAnyZ_take (i := 9) (v := ?_) rfl (by kernel_rfl) (by kernel_rfl) (by kernel_rfl) (by kernel_rfl) (by kernel_rfl) (fun _ _ _ h => h) (s0) (by rfl) ?_ ?_
          rotate_left
          · intro x hx; obtain ⟨u1, u2, u3, u4, u5⟩ := hx; go_simp; try (with_reducible rfl)
          try simp only [Act.put, List.setIfInBounds_toArray, List.set_cons_zero, List.set_cons_succ, List.getElem_toArray, List.getElem_cons_zero, List.getElem_cons_succ]
          refine wpAnyZ_take (i := 10) (v := ?_) rfl (by kernel_rfl) (by kernel_rfl) (by kernel_rfl) (by kernel_rfl) (by kernel_rfl) (fun _ _ _ h => h) (s0) (by rfl) ?_ ?_
          rotate_left
          · intro x hx; obtain ⟨u1, u2, u3, u4, u5⟩ := hx; go_simp; try (with_reducible rfl)
          try simp only [Act.put, List.setIfInBounds_toArray, List.set_cons_zero, List.set_cons_succ, List.getElem_toArray, List.getElem_cons_zero, List.getElem_cons_succ]
          refine wpAnyZ_take (i := 11) (v := ?_) rfl (by kernel_rfl) (by kernel_rfl) (by kernel_rfl) (by kernel_rfl) (by kernel_rfl) (fun _ _ _ h => h) (s0) (by rfl) ?_ ?_
          rotate_left
          · intro x hx; obtain ⟨u1, u2, u3, u4, u5⟩ := hx; go_simp; try (with_reducible rfl)
          try simp only [Act.put, List.setIfInBounds_toArray, List.set_cons_zero, List.set_cons_succ, List.getElem_toArray, List.getElem_cons_zero, List.getElem_cons_succ]
          refine wpAnyZ_take (i := 12) (v := ?_) rfl (by kernel_rfl) (by kernel_rfl) (by kernel_rfl) (by kernel_rfl) (by kernel_rfl) (fun _ _ _ h => h) (s0) (by rfl) ?_ ?_
          rotate_left
          · intro x hx; obtain ⟨u1, u2, u3, u4, u5⟩ := hx; go_simp; try (with_reducible rfl)
          try simp only [Act.put, List.setIfInBounds_toArray, List.set_cons_zero, List.set_cons_succ, List.getElem_toArray, List.getElem_cons_zero, List.getElem_cons_succ]
          refine wpAnyZ_take (i := 13) (v := ?_) rfl (by kernel_rfl) (by kernel_rfl) (by kernel_rfl) (by kernel_rfl) (by kernel_rfl) (fun _ _ _ h => h) (s0) (by rfl) ?_ ?_
          rotate_left
          · intro x hx; obtain ⟨u1, u2, u3, u4, u5⟩ := hx; go_simp; try (with_reducible rfl)
          try simp only [Act.put, List.setIfInBounds_toArray, List.set_cons_zero, List.set_cons_succ, List.getElem_toArray, List.getElem_cons_zero, List.getElem_cons_succ]
          refine wpAnyZ_take (i := 14) (v := ?_) rfl (by kernel_rfl) (by kernel_rfl) (by kernel_rfl) (by kernel_rfl) (by kernel_rfl) (fun _ _ _ h => h) (s0) (by rfl) ?_ ?_
          rotate_left
          · intro x hx; obtain ⟨u1, u2, u3, u4, u5⟩ := hx; go_simp; try (with_reducible rfl)
          try simp only [Act.put, List.setIfInBounds_toArray, List.set_cons_zero, List.set_cons_succ, List.getElem_toArray, List.getElem_cons_zero, List.getElem_cons_succ]
          have HF := Lib.hid (UndS.fin HSD.out.uj.us (base := W.heap.size + 3) (by omega) HSD.out.ob 2 (v : Int) (min y0 y1) (max y0 y1) y2 (p' := p))
          have s1 : ((wd.setCell ⟨W.heap.size + 1, 0, none⟩ (.int .i64 p)).setCell ⟨W.heap.size + 1, 1, none⟩ (.slice ax lx.length cx)).cell? ⟨gx, 0, none⟩ = some (.int .i64 p) ∧ ((wd.setCell ⟨W.heap.size + 1, 0, none⟩ (.int .i64 p)).setCell ⟨W.heap.size + 1, 1, none⟩ (.slice ax lx.length cx)).cell? ⟨gx, 1, none⟩ = some (.slice ax lx.length cx) ∧ ((wd.setCell ⟨W.heap.size + 1, 0, none⟩ (.int .i64 p)).setCell ⟨W.heap.size + 1, 1, none⟩ (.slice ax lx.length cx)).cell? ⟨gt, 0, none⟩ = some (.int .i64 y0) ∧ ((wd.setCell ⟨W.heap.size + 1, 0, none⟩ (.int .i64 p)).setCell ⟨W.heap.size + 1, 1, none⟩ (.slice ax lx.length cx)).cell? ⟨gt, 1, none⟩ = some (.int .i64 y1) ∧ ((wd.setCell ⟨W.heap.size + 1, 0, none⟩ (.int .i64 p)).setCell ⟨W.heap.size + 1, 1, none⟩ (.slice ax lx.length cx)).cell? ⟨gt, 2, none⟩ = some (.int .i64 y2) := ⟨cs2 s0.1 hgw, cs2 s0.2.1 hgw, cs2 s0.2.2.1 hgt2, cs2 s0.2.2.2.1 hgt2, cs2 s0.2.2.2.2 hgt2⟩
          obtain ⟨⟨r0, r1, r2, c0, c1⟩, ⟨f0, f1⟩, gz⟩ := HSD.out.uj.us.rz
          obtain ⟨⟨q0, q1, q2, q3, q4, d9, d0, d1, d2, d3, d4⟩, g0, g1, g2, g3, g4⟩ := HSD.out.uj.us.zs
          clear HSD
          refine wpAnyZ_step (i := 15) (by kernel_rfl) rfl (by rfl) ?_
          intro KK hKK
          go_simp
          refine hKK.out _ _ (.inr s1) ?_
          clear hKK KK
          try simp only [Act.put, List.setIfInBounds_toArray, List.set_cons_zero, List.set_cons_succ, List.getElem_toArray, List.getElem_cons_zero, List.getElem_cons_succ]
          refine wpAnyZ_step (i := 16) (by kernel_rfl) rfl (by rfl) ?_
          intro KK hKK
          go_simp
          refine hKK.out _ _ (.inl (by kernel_rfl)) ?_
          clear hKK KK
          try simp only [Act.put, List.setIfInBounds_toArray, List.set_cons_zero, List.set_cons_succ, List.getElem_toArray, List.getElem_cons_zero, List.getElem_cons_succ]
          refine wpAnyZ_step (i := 17) (by kernel_rfl) rfl (by rfl) ?_
          intro KK hKK
          go_simp
          refine hKK.out _ _ (.inl (by kernel_rfl)) ?_
          clear hKK KK
          try simp only [Act.put, List.setIfInBounds_toArray, List.set_cons_zero, List.set_cons_succ, List.getElem_toArray, List.getElem_cons_zero, List.getElem_cons_succ]
          refine wpAnyZ_done (by kernel_rfl) ?_ _
          obtain ⟨hB, hS, hO, hL⟩ := HF.out _ rfl
          clear HF s0 s1 r0 r1 r2 c0 c1 gz f0 f1 q0 q1 q2 q3 q4 d9 d0 d1 d2 d3 d4 g0 g1 g2 g3 g4
          generalize (((((((wd.setCell ⟨W.heap.size + 1, 0, none⟩ (.int .i64 p)).setCell ⟨W.heap.size + 1, 1, none⟩ (.slice ax lx.length cx)).setCell ⟨W.heap.size + 1 + 1, 0, none⟩ (.int .i64 2)).setCell ⟨W.heap.size + 1 + 1, 1, none⟩ (.int .i64 v)).setCell ⟨W.heap.size + 1 + 1, 2, none⟩ (.int .i64 (min y0 y1))).setCell ⟨W.heap.size + 1 + 1, 3, none⟩ (.int .i64 (max y0 y1))).setCell ⟨W.heap.size + 1 + 1, 4, none⟩ (.int .i64 y2)) = w9 at *
          obtain ⟨e9, e0, e1⟩ := hB
          obtain ⟨d9, d0, d1, d2, d3, d4⟩ := hS
          go_wp2_with fail
          refine bodyPost_ret (v := .tuple #[.agg #[.int .i64 p, .slice ax lx.length cx], .agg #[.int .i64 2, .int .i64 v, .int .i64 (min y0 y1), .int .i64 (max y0 y1), .int .i64 y2], .bool true]) (by simp [results, Tryz.results76, go_sem, e9, e0, e1, d9, d0, d1, d2, d3, d4]) rfl ?_
          exact RetUndo.yes HUL.out hO hL
       ·obtain rfl : k = 3 := by omega
        have HE : Hid (und2 p l v = none) := Lib.hid (und2_none HN3.out)
        have US3 := Lib.hid UJ.out.us
        clear UJ HN3 huz
        obtain ⟨zBG, fBG0, fBG1⟩ := US3.out.bg
        go_wp2_with fail
        go_roundw
        case rel => exact ⟨v + 1, by omega, by go_num, US3.out, fun j hj => by
         by_cases e : j = v
         ·rw [e]; exact HE.out
         ·exact HN.out j (by omega)⟩
        case measure => simp [intOf]; omega
     ·have HU := Lib.hid (und2_no (p := p) h3)
      have hq3 : (((nearL l v).length : Int) != 3) = true := by
       cases h9 : (((nearL l v).length : Int) != 3) with
       | true => rfl
       | false => rw [bne_eq_false_iff_eq] at h9; exact absurd (by omega) h3
      clear O1 HND h3 HB
      generalize (nearL l v).length = nn at *
      go_wp2_with fail
      go_roundw
      case rel => exact ⟨v + 1, by omega, by go_num, US.out, fun j hj => by
       by_cases e : j = v
       ·rw [e]; exact HU.out
       ·exact HN.out j (by omega)⟩
      case measure => simp [intOf]; omega
    ·have HE : Hid (undoL p l = none) := Lib.hid (by rw [HR.out]; exact firstS_none _ fun j hj => HN.out j (by omega))
     clear HR hk hus3 HN
     have HF := Lib.hid (UndS.fin0 US.out (p' := 0) (ad := none) (n' := 0) (cd := 0) 0 0 0 0 0)
     obtain ⟨⟨r0, r1, r2, c0, c1⟩, ⟨f0, f1⟩, gz⟩ := US.out.rz
     obtain ⟨⟨q0, q1, q2, q3, q4, d9, d0, d1, d2, d3, d4⟩, g0, g1, g2, g3, g4⟩ := US.out.zs
     go_wp2_with fail
     obtain ⟨hB, hS, hL⟩ := HF.out _ rfl
     clear HF US r0 r1 r2 c0 c1 gz f0 f1 q0 q1 q2 q3 q4 d9 d0 d1 d2 d3 d4 g0 g1 g2 g3 g4 zBG fBG0 fBG1
     generalize (((((((wr.setCell ⟨W.heap.size + 1, 0, none⟩ (.int .i64 0)).setCell ⟨W.heap.size + 1, 1, none⟩ (.slice none 0 0)).setCell ⟨W.heap.size + 1 + 1, 0, none⟩ (.int .i64 0)).setCell ⟨W.heap.size + 1 + 1, 1, none⟩ (.int .i64 0)).setCell ⟨W.heap.size + 1 + 1, 2, none⟩ (.int .i64 0)).setCell ⟨W.heap.size + 1 + 1, 3, none⟩ (.int .i64 0)).setCell ⟨W.heap.size + 1 + 1, 4, none⟩ (.int .i64 0)) = w9 at *
     obtain ⟨e9, e0, e1⟩ := hB
     obtain ⟨d9, d0, d1, d2, d3, d4⟩ := hS
     refine bodyPost_ret (v := .tuple #[.agg #[.int .i64 0, .slice none 0 0], .agg #[.int .i64 0, .int .i64 0, .int .i64 0, .int .i64 0, .int .i64 0], .bool false]) (by simp [results, Tryz.results76, go_sem, e9, e0, e1, d9, d0, d1, d2, d3, d4]) rfl ?_
     exact RetUndo.no HE.out hL
end Go.Proofs.YtfbmpkdjhhcnpaaGreat

