/- l7Near and l7Drop of the reference. Condition: a valid graph. -/
import Derived.Test.YtfbmpkdjhhcnpaaGreatSnP11
import Derived.Test.YtfbmpkdjhhcnpaaGreatSnP12
import Derived.Test.YtfbmpkdjhhcnpaaGreatSnP06
import Derived.OwnWalk
namespace Go.Proofs.YtfbmpkdjhhcnpaaGreat
open Go.RowKit
set_option maxRecDepth 100000
set_option linter.unusedVariables false
set_option linter.unusedSimpArgs false
def hasV (v : Int) (x : BarT) : Bool := x.1 == v || x.2 == v
def nearT (l : List BarT) (v : Int) (k : Nat) : List Int := ((l.take k).filter (hasV v)).map fun x => x.1 + x.2 - v
def nearL (l : List BarT) (v : Int) : List Int := (l.filter (hasV v)).map fun x => x.1 + x.2 - v
def dropT (l : List BarT) (v : Int) (k : Nat) : List BarT := (l.take k).filter fun x => !hasV v x
def dropL (l : List BarT) (v : Int) : List BarT := l.filter fun x => !hasV v x
theorem nearT_all (l : List BarT) (v : Int) : nearT l v l.length = nearL l v := by unfold nearT nearL; rw [List.take_length]
theorem dropT_all (l : List BarT) (v : Int) : dropT l v l.length = dropL l v := by unfold dropT dropL; rw [List.take_length]
theorem nearT_len (l : List BarT) (v : Int) (k : Nat) : (nearT l v k).length ≤ k := by
 unfold nearT
 rw [List.length_map]
 exact Nat.le_trans (List.length_filter_le _ _) (List.length_take_le _ _)
theorem dropT_len (l : List BarT) (v : Int) (k : Nat) : (dropT l v k).length ≤ k := by
 unfold dropT
 exact Nat.le_trans (List.length_filter_le _ _) (List.length_take_le _ _)
theorem nearT_yes {l : List BarT} {v : Int} {k : Nat} {x : BarT} (hx : l[k]? = some x) (h : hasV v x = true) : nearT l v (k + 1) = nearT l v k ++ [x.1 + x.2 - v] := by
 unfold nearT
 rw [take_succ_of hx, List.filter_append, List.map_append]
 simp [h]
theorem nearT_no {l : List BarT} {v : Int} {k : Nat} {x : BarT} (hx : l[k]? = some x) (h : hasV v x = false) : nearT l v (k + 1) = nearT l v k := by
 unfold nearT
 rw [take_succ_of hx, List.filter_append]
 simp [h]
theorem dropT_yes {l : List BarT} {v : Int} {k : Nat} {x : BarT} (hx : l[k]? = some x) (h : hasV v x = false) : dropT l v (k + 1) = dropT l v k ++ [x] := by
 unfold dropT
 rw [take_succ_of hx, List.filter_append]
 simp [h]
theorem dropT_no {l : List BarT} {v : Int} {k : Nat} {x : BarT} (hx : l[k]? = some x) (h : hasV v x = true) : dropT l v (k + 1) = dropT l v k := by
 unfold dropT
 rw [take_succ_of hx, List.filter_append]
 simp [h]
set_option maxHeartbeats 4000000 in
theorem l7Near_at (W : World) (p : Int) (a : Option Addr) (cap : Nat) (l : List BarT) (h : BarsAt W a l.length l) (hs : l.length ≤ 1048576) (hg : isGraphB (p, l) = true) (v : Int) (hv : 0 ≤ v ∧ v ≤ 64) : Calls Tryz.prog 119 #[.agg #[.int .i64 p, .slice a l.length cap], .int .i64 v] W (RetInts W (nearL l v)) := by
 have hwd := @Wd.cells
 have HGr : Hid (IsGraph W (.agg #[.int .i64 p, .slice a l.length cap]) (p, l)) := Lib.hid ⟨a, cap, rfl, h⟩
 have H1 := Lib.hid h
 clear h
 have hsz : szGraph (p, l) ≤ 1048576 := hs
 have hsz2 : szGraph (p, l) ≤ 1099511627776 := Nat.le_trans hsz (by decide)
 have B : Below W.heap.size W (W.alloc (.cells #[.int .i64 p, .slice a l.length cap] 26)) := (Below.refl _ _).alloc (Nat.le_refl _) _
 have BG : Hid (BoxGr (W.alloc (.cells #[.int .i64 p, .slice a l.length cap] 26)) W.heap.size p a l.length cap) := Lib.hid (BoxGr.at rfl)
 obtain ⟨⟨hg1, hg2⟩, hll⟩ := isGraphB_bd hg
 have HG := Lib.hid hg
 clear hg
 have ba := belAl (W.alloc (.cells #[.int .i64 p, .slice a l.length cap] 26)) (.cells #[] 3)
 have HO0 : Hid (OwnInts ((W.alloc (.cells #[.int .i64 p, .slice a l.length cap] 26)).alloc (.cells #[] 3)) (W.heap.size + 1) (.slice (some ⟨W.heap.size + 1, 0, none⟩) 0 0) []) := Lib.hid (by have h9 := OwnInts.made (W.alloc (.cells #[.int .i64 p, .slice a l.length cap] 26)) (W.heap.size + 1) (by simp); simpa using h9)
 have hz : W.heap.size + 2 ≤ ((W.alloc (.cells #[.int .i64 p, .slice a l.length cap] 26)).alloc (.cells #[] 3)).heap.size := by simp
 replace B := B.step ba
 replace BG := Lib.hid (BG.out.below ba)
 clear ba
 go_enter Tryz.func119, Tryz.ntmps119
 go_wp2_with fail
 generalize ((W.alloc (.cells #[.int .i64 p, .slice a l.length cap] 26)).alloc (.cells #[] 3)) = u at *
 go_loopw [5, 6] (fun o i w9 => ∃ k : Nat, k ≤ l.length ∧ i = .int .i64 k ∧ OwnInts w9 (W.heap.size + 1) o (nearT l v k) ∧ Below W.heap.size W w9 ∧ BoxGr w9 W.heap.size p a l.length cap ∧ W.heap.size + 2 ≤ w9.heap.size) (fun _ i _ => l.length - (intOf i).toNat)
 case atStart => exact ⟨0, Nat.zero_le _, rfl, HO0.out, B, BG.out, hz⟩
 case round =>
  clear B BG HO0 hz
  obtain ⟨k, hk, rfl, ho, B, bg, hz⟩ := hrel
  have HO := Lib.hid ho
  have BG := Lib.hid bg
  clear ho bg
  have hlk := nearT_len l v k
  obtain ⟨zBG, fBG0, fBG1⟩ := BG.out
  by_cases hlt : k < l.length
  ·obtain ⟨bb, off, ⟨x1, x2⟩, rfl, hbl, hx, hc0, hc1⟩ := (H1.out.below B).2 k hlt
   dsimp only at hc0 hc1
   have hr := isGraphB_bar HG.out hx
   dsimp only at hr
   have hki : (k : Int) < (l.length : Int) := by omega
   have hk0 : (0 : Int) ≤ (k : Int) := by omega
   have HX := Lib.hid hx
   clear hx
   cases hv1 : (x1 == v)
   ·cases hv2 : (x2 == v)
    ·have HS := Lib.hid (nearT_no HX.out (show hasV v (x1, x2) = false by unfold hasV; rw [hv1, hv2]; rfl))
     go_wp2_with fail
     go_roundw
     case rel => exact ⟨k + 1, by omega, by go_num, by rw [HS.out]; exact HO.out, B, BG.out, hz⟩
     case measure => simp [intOf]; omega
    ·have HS := Lib.hid (nearT_yes HX.out (show hasV v (x1, x2) = true by unfold hasV; rw [hv1, hv2]; rfl))
     dsimp only at HS
     obtain ⟨r, hr9⟩ : ∃ r, x1 + x2 - v = r := ⟨_, rfl⟩
     have HC := Lib.hid (fun w => l4Other_any x1 x2 v r hr9 (by omega) (by omega) (by omega) w)
     rw [hr9] at HS
     clear hr9
     go_wp2_with fail
     refine (HC.out wr).mono ?_
     rintro e w4 ⟨rfl, b4⟩
     have hz4 := b4.size
     replace B := B.step b4
     replace BG := Lib.hid (BG.out.below b4)
     replace HO := Lib.hid (HO.out.below b4)
     clear b4 zBG fBG0 fBG1 hc0 hc1
     go_wp2_with (at_builtin; refine app1At rfl (.tmp 33) (.tmp 41) rfl rfl HO.out r rfl (by omega) (by omega) ?_; intro v5 w5 h5 k5 a5)
     go_roundw
     case rel => exact ⟨k + 1, by omega, by go_num, by rw [HS.out]; exact h5, B.trans (k5.below (by omega) fun j h1 h2 => by have := (HO.out.lt j h2.symm).1; omega), BG.out.kept k5 (fun e => by have := (HO.out.lt _ e.symm).1; omega), Nat.le_trans (by omega) k5.size⟩
     case measure => simp [intOf]; omega
   ·have HS := Lib.hid (nearT_yes HX.out (show hasV v (x1, x2) = true by unfold hasV; rw [hv1]; rfl))
    dsimp only at HS
    obtain ⟨r, hr9⟩ : ∃ r, x1 + x2 - v = r := ⟨_, rfl⟩
    have HC := Lib.hid (fun w => l4Other_any x1 x2 v r hr9 (by omega) (by omega) (by omega) w)
    rw [hr9] at HS
    clear hr9
    go_wp2_with fail
    refine (HC.out wr).mono ?_
    rintro e w4 ⟨rfl, b4⟩
    have hz4 := b4.size
    replace B := B.step b4
    replace BG := Lib.hid (BG.out.below b4)
    replace HO := Lib.hid (HO.out.below b4)
    clear b4 zBG fBG0 fBG1 hc0 hc1
    go_wp2_with (at_builtin; refine app1At rfl (.tmp 33) (.tmp 41) rfl rfl HO.out r rfl (by omega) (by omega) ?_; intro v5 w5 h5 k5 a5)
    go_roundw
    case rel => exact ⟨k + 1, by omega, by go_num, by rw [HS.out]; exact h5, B.trans (k5.below (by omega) fun j h1 h2 => by have := (HO.out.lt j h2.symm).1; omega), BG.out.kept k5 (fun e => by have := (HO.out.lt _ e.symm).1; omega), Nat.le_trans (by omega) k5.size⟩
    case measure => simp [intOf]; omega
  ·obtain rfl : k = l.length := by omega
   go_wp2_with fail
   go_ret
   exact ⟨_, rfl, by rw [← nearT_all]; exact ownsRow_base HO.out (by omega), B⟩
structure DrpS (W w : World) (p : Int) (a : Option Addr) (n cap : Nat) (vb : Value) (out : List BarT) : Prop where
 b : Below W.heap.size W w
 bg : BoxGr w W.heap.size p a n cap
 rz : Zer2 w (W.heap.size + 1)
 og : OutG (W.heap.size + 2) w (W.heap.size + 3) p vb out
 sz : W.heap.size + 4 ≤ w.heap.size
theorem DrpS.below {W w w' : World} {p : Int} {a : Option Addr} {n cap : Nat} {vb : Value} {out : List BarT} (h : DrpS W w p a n cap vb out) (hb : Below w.heap.size w w') : DrpS W w' p a n cap vb out :=
 ⟨h.b.step hb, h.bg.below hb, h.rz.below hb, h.og.below hb, Nat.le_trans h.sz hb.size⟩
theorem DrpS.app {W w w' : World} {p : Int} {a : Option Addr} {n cap : Nat} {vb v' : Value} {out out' : List BarT} (h : DrpS W w p a n cap vb out) (ho : OwnBars w' (W.heap.size + 2) v' out') (hk : Kept (fun k => some k = vb.ownBlock) w w') (ha : v'.ownBlock = vb.ownBlock ∨ ∀ b, v'.ownBlock = some b → w.heap.size ≤ b) : DrpS W (w'.setCell ⟨W.heap.size + 3, 1, none⟩ v') p a n cap v' out' := by
 have hs := h.sz
 have nlow : ∀ g, g < W.heap.size + 2 → ¬ some g = vb.ownBlock := fun g hg e => by have := (h.og.ob.lt g e.symm).1; omega
 have ks : Kept (fun k => k = W.heap.size + 3) w' (w'.setCell ⟨W.heap.size + 3, 1, none⟩ v') := setKept
 have kw := hk.size
 exact ⟨(h.b.trans (hk.below h.b.size fun g hg e => nlow g (by omega) e)).setCell (p := ⟨W.heap.size + 3, 1, none⟩) (by simp) v', (h.bg.kept hk (nlow _ (by omega))).kept ks (by omega), (h.rz.kept hk (nlow _ (by omega))).kept ks (by omega), h.og.app ho hk ha, Nat.le_trans (Nat.le_trans h.sz hk.size) ks.size⟩
set_option maxHeartbeats 4000000 in
theorem l7Drop_at (W : World) (p : Int) (a : Option Addr) (cap : Nat) (l : List BarT) (h : BarsAt W a l.length l) (hs : l.length ≤ 1048576) (v : Int) : Calls Tryz.prog 120 #[.agg #[.int .i64 p, .slice a l.length cap], .int .i64 v] W (RetGraph W (p, dropL l v)) := by
 have hwd := @Wd.cells
 have HGr : Hid (IsGraph W (.agg #[.int .i64 p, .slice a l.length cap]) (p, l)) := Lib.hid ⟨a, cap, rfl, h⟩
 have H1 := Lib.hid h
 clear h
 have hsz : szGraph (p, l) ≤ 1048576 := hs
 have hsz2 : szGraph (p, l) ≤ 1099511627776 := Nat.le_trans hsz (by decide)
 have B : Below W.heap.size W (W.alloc (.cells #[.int .i64 p, .slice a l.length cap] 26)) := (Below.refl _ _).alloc (Nat.le_refl _) _
 have BG : Hid (BoxGr (W.alloc (.cells #[.int .i64 p, .slice a l.length cap] 26)) W.heap.size p a l.length cap) := Lib.hid (BoxGr.at rfl)
 have PS : Hid (DrpS W ((((W.alloc (.cells #[.int .i64 p, .slice a l.length cap] 26)).alloc (.cells #[.int .i64 0, .slice none 0 0] 26)).alloc (.cells #[] 70)).alloc (.cells #[.int .i64 p, .slice (some ⟨W.heap.size + 2, 0, none⟩) 0 0] 26)) p a l.length cap (.slice (some ⟨W.heap.size + 2, 0, none⟩) 0 0) []) := Lib.hid (by
  have b1 := belAl (W.alloc (.cells #[.int .i64 p, .slice a l.length cap] 26)) (.cells #[.int .i64 0, .slice none 0 0] 26)
  have b2 := belAl ((W.alloc (.cells #[.int .i64 p, .slice a l.length cap] 26)).alloc (.cells #[.int .i64 0, .slice none 0 0] 26)) (.cells #[] 70)
  have b3 := belAl (((W.alloc (.cells #[.int .i64 p, .slice a l.length cap] 26)).alloc (.cells #[.int .i64 0, .slice none 0 0] 26)).alloc (.cells #[] 70)) (.cells #[.int .i64 p, .slice (some ⟨W.heap.size + 2, 0, none⟩) 0 0] 26)
  have hr := Zer2.at (W.alloc (.cells #[.int .i64 p, .slice a l.length cap] 26)) 26
  have hob := OwnBars.made ((W.alloc (.cells #[.int .i64 p, .slice a l.length cap] 26)).alloc (.cells #[.int .i64 0, .slice none 0 0] 26)) (W.heap.size + 2) (by simp)
  have e2 : ((W.alloc (.cells #[.int .i64 p, .slice a l.length cap] 26)).alloc (.cells #[.int .i64 0, .slice none 0 0] 26)).heap.size = W.heap.size + 2 := by simp
  have e3 : (((W.alloc (.cells #[.int .i64 p, .slice a l.length cap] 26)).alloc (.cells #[.int .i64 0, .slice none 0 0] 26)).alloc (.cells #[] 70)).heap.size = W.heap.size + 3 := by simp
  rw [e2] at hob
  have n0 := World.cell?_alloc_new (((W.alloc (.cells #[.int .i64 p, .slice a l.length cap] 26)).alloc (.cells #[.int .i64 0, .slice none 0 0] 26)).alloc (.cells #[] 70)) #[.int .i64 p, .slice (some ⟨W.heap.size + 2, 0, none⟩) 0 0] 26 0
  have n1 := World.cell?_alloc_new (((W.alloc (.cells #[.int .i64 p, .slice a l.length cap] 26)).alloc (.cells #[.int .i64 0, .slice none 0 0] 26)).alloc (.cells #[] 70)) #[.int .i64 p, .slice (some ⟨W.heap.size + 2, 0, none⟩) 0 0] 26 1
  have n2 := World.frozen?_alloc_new (((W.alloc (.cells #[.int .i64 p, .slice a l.length cap] 26)).alloc (.cells #[.int .i64 0, .slice none 0 0] 26)).alloc (.cells #[] 70)) #[.int .i64 p, .slice (some ⟨W.heap.size + 2, 0, none⟩) 0 0] 26 1
  rw [e3] at n0 n1 n2
  rw [World.size_alloc] at hr
  have b23 := b2.step b3
  exact ⟨B.step (b1.step b23), BG.out.below (b1.step b23), hr.below b23, ⟨by simpa using n0, by simpa using n1, by simpa using n2, hob.below b3, fun e => by have : W.heap.size + 2 = W.heap.size + 3 := Option.some.inj e; omega, by omega, by simp⟩, by simp⟩)
 go_enter Tryz.func120, Tryz.ntmps120
 obtain ⟨zBG, fBG0, fBG1⟩ := BG.out
 go_wp2_with fail
 clear zBG fBG0 fBG1
 generalize ((((W.alloc (.cells #[.int .i64 p, .slice a l.length cap] 26)).alloc (.cells #[.int .i64 0, .slice none 0 0] 26)).alloc (.cells #[] 70)).alloc (.cells #[.int .i64 p, .slice (some ⟨W.heap.size + 2, 0, none⟩) 0 0] 26)) = u at *
 go_loopw [6] (fun i w9 => ∃ (k : Nat) (vb : Value), k ≤ l.length ∧ i = .int .i64 k ∧ DrpS W w9 p a l.length cap vb (dropT l v k)) (fun i _ => l.length - (intOf i).toNat)
 case atStart => exact ⟨0, _, Nat.zero_le _, rfl, PS.out⟩
 case round =>
  clear PS B BG
  obtain ⟨k, vb, hk, rfl, hps⟩ := hrel
  have PS := Lib.hid hps
  clear hps
  have hlk := dropT_len l v k
  obtain ⟨zBG, fBG0, fBG1⟩ := PS.out.bg
  by_cases hlt : k < l.length
  ·obtain ⟨bb, off, ⟨x1, x2⟩, rfl, hbl, hx, hc0, hc1⟩ := H1.out.2 k hlt
   dsimp only at hc0 hc1
   replace hc0 := (PS.out.b.cell (p := ⟨bb, off + k * 2, none⟩) hbl).trans hc0
   replace hc1 := (PS.out.b.cell (p := ⟨bb, off + k * 2 + 1, none⟩) hbl).trans hc1
   have hbw : bb < wr.heap.size := Nat.lt_of_lt_of_le hbl PS.out.b.size
   have hki : (k : Int) < (l.length : Int) := by omega
   have hk0 : (0 : Int) ≤ (k : Int) := by omega
   have HX := Lib.hid hx
   clear hx
   by_cases hin : hasV v (x1, x2) = true
   ·have HS := Lib.hid (dropT_no HX.out hin)
    have hor : (x1 == v) = true ∨ (x1 == v) = false ∧ (x2 == v) = true := by
     unfold hasV at hin
     cases h1 : (x1 == v)
     ·right; rw [h1] at hin; exact ⟨rfl, hin⟩
     ·left; rfl
    clear hin
    rcases hor with h1 | ⟨h1, h2⟩
    ·have hn1 : (x1 != v) = false := by simpa using h1
     go_wp2_with fail
     go_roundw
     case rel => exact ⟨k + 1, vb, by omega, by go_num, by rw [HS.out]; exact PS.out⟩
     case measure => simp [intOf]; omega
    ·have hn1 : (x1 != v) = true := by simpa using h1
     have hn2 : (x2 != v) = false := by simpa using h2
     go_wp2_with fail
     go_roundw
     case rel => exact ⟨k + 1, vb, by omega, by go_num, by rw [HS.out]; exact PS.out⟩
     case measure => simp [intOf]; omega
   ·have hin : hasV v (x1, x2) = false := by simpa using hin
    have HS := Lib.hid (dropT_yes HX.out hin)
    have hn1 : (x1 != v) = true := by
     unfold hasV at hin
     simp only [Bool.or_eq_false_iff] at hin
     simpa using hin.1
    have hn2 : (x2 != v) = true := by
     unfold hasV at hin
     simp only [Bool.or_eq_false_iff] at hin
     simpa using hin.2
    clear hin
    obtain ⟨ab, cb, rfl, -⟩ := PS.out.og.ob.form
    go_wp2_with fail
    clear hn1 hn2 zBG fBG0 fBG1
    have PD := Lib.hid (PS.out.below (w' := wr.drew) (Below.refl _ _).drew)
    have s0 : wr.drew.cell? ⟨W.heap.size + 3, 1, none⟩ = some (.slice ab (dropT l v k).length cb) ∧ wr.drew.cell? ⟨W.heap.size, 1, none⟩ = some (.slice (some ⟨bb, off, none⟩) l.length cap) ∧ wr.drew.cell? ⟨bb, off + k * 2, none⟩ = some (.int .i64 x1) ∧ wr.drew.cell? ⟨bb, off + k * 2 + 1, none⟩ = some (.int .i64 x2) := ⟨PD.out.og.c1, PD.out.bg.c1, hc0, hc1⟩
    refine wp_regionZ (fun w' => w'.cell? ⟨W.heap.size + 3, 1, none⟩ = some (.slice ab (dropT l v k).length cb) ∧ w'.cell? ⟨W.heap.size, 1, none⟩ = some (.slice (some ⟨bb, off, none⟩) l.length cap) ∧ w'.cell? ⟨bb, off + k * 2, none⟩ = some (.int .i64 x1) ∧ w'.cell? ⟨bb, off + k * 2 + 1, none⟩ = some (.int .i64 x2)) 10 (by kernel_rfl) ?_
    clear PS hc0 hc1 hbw
    generalize wr.drew = wd at *
    refine wpAnyZ_take (i := 0) (v := ?_) rfl (by kernel_rfl) (by kernel_rfl) (by kernel_rfl) (by kernel_rfl) (by kernel_rfl) (fun _ _ _ h => h) (s0) (by rfl) ?_ ?_
    rotate_left
    · intro x hx; obtain ⟨u1, u2, u3, u4⟩ := hx; go_simp; try (with_reducible rfl)
    try simp only [Act.put, List.setIfInBounds_toArray, List.set_cons_zero, List.set_cons_succ, List.getElem_toArray, List.getElem_cons_zero, List.getElem_cons_succ]
    refine wpAnyZ_take (i := 1) (v := ?_) rfl (by kernel_rfl) (by kernel_rfl) (by kernel_rfl) (by kernel_rfl) (by kernel_rfl) (fun _ _ _ h => h) (s0) (by rfl) ?_ ?_
    rotate_left
    · intro x hx; obtain ⟨u1, u2, u3, u4⟩ := hx; go_simp; try (with_reducible rfl)
    try simp only [Act.put, List.setIfInBounds_toArray, List.set_cons_zero, List.set_cons_succ, List.getElem_toArray, List.getElem_cons_zero, List.getElem_cons_succ]
    refine wpAnyZ_take (i := 2) (v := ?_) rfl (by kernel_rfl) (by kernel_rfl) (by kernel_rfl) (by kernel_rfl) (by kernel_rfl) (fun _ _ _ h => h) (s0) (by rfl) ?_ ?_
    rotate_left
    · intro x hx; obtain ⟨u1, u2, u3, u4⟩ := hx; go_simp; try (with_reducible rfl)
    try simp only [Act.put, List.setIfInBounds_toArray, List.set_cons_zero, List.set_cons_succ, List.getElem_toArray, List.getElem_cons_zero, List.getElem_cons_succ]
    refine wpAnyZ_take (i := 3) (v := ?_) rfl (by kernel_rfl) (by kernel_rfl) (by kernel_rfl) (by kernel_rfl) (by kernel_rfl) (fun _ _ _ h => h) (s0) (by rfl) ?_ ?_
    rotate_left
    · intro x hx; obtain ⟨u1, u2, u3, u4⟩ := hx; go_simp; try (with_reducible rfl)
    try simp only [Act.put, List.setIfInBounds_toArray, List.set_cons_zero, List.set_cons_succ, List.getElem_toArray, List.getElem_cons_zero, List.getElem_cons_succ]
    refine wpAnyZ_take (i := 4) (v := ?_) rfl (by kernel_rfl) (by kernel_rfl) (by kernel_rfl) (by kernel_rfl) (by kernel_rfl) (fun _ _ _ h => h) (s0) (by rfl) ?_ ?_
    rotate_left
    · intro x hx; obtain ⟨u1, u2, u3, u4⟩ := hx; go_simp; try (with_reducible rfl)
    try simp only [Act.put, List.setIfInBounds_toArray, List.set_cons_zero, List.set_cons_succ, List.getElem_toArray, List.getElem_cons_zero, List.getElem_cons_succ]
    refine wpAnyZ_take (i := 5) (v := ?_) rfl (by kernel_rfl) (by kernel_rfl) (by kernel_rfl) (by kernel_rfl) (by kernel_rfl) (fun _ _ _ h => h) (s0) (by rfl) ?_ ?_
    rotate_left
    · intro x hx; obtain ⟨u1, u2, u3, u4⟩ := hx; go_simp; try (with_reducible rfl)
    try simp only [Act.put, List.setIfInBounds_toArray, List.set_cons_zero, List.set_cons_succ, List.getElem_toArray, List.getElem_cons_zero, List.getElem_cons_succ]
    refine wpAnyZ_take (i := 6) (v := ?_) rfl (by kernel_rfl) (by kernel_rfl) (by kernel_rfl) (by kernel_rfl) (by kernel_rfl) (fun _ _ _ h => h) (s0) (by rfl) ?_ ?_
    rotate_left
    · intro x hx; obtain ⟨u1, u2, u3, u4⟩ := hx; go_simp; try (with_reducible rfl)
    try simp only [Act.put, List.setIfInBounds_toArray, List.set_cons_zero, List.set_cons_succ, List.getElem_toArray, List.getElem_cons_zero, List.getElem_cons_succ]
    refine wpAnyZ_step (i := 7) (by kernel_rfl) rfl (by rfl) ?_
    intro KK hKK
    have PA := Lib.hid (PD.out.below (belAl wd (.cells #[.int .i64 x1, .int .i64 x2] 70)))
    have p0 : (wd.alloc (.cells #[.int .i64 x1, .int .i64 x2] 70)).cell? ⟨wd.heap.size, 0, none⟩ = some (.int .i64 x1) := by simp [World.cell?_alloc_new]
    have p1 : (wd.alloc (.cells #[.int .i64 x1, .int .i64 x2] 70)).cell? ⟨wd.heap.size, 1, none⟩ = some (.int .i64 x2) := by simp [World.cell?_alloc_new]
    have bA := belAl wd (.cells #[.int .i64 x1, .int .i64 x2] 70)
    have hbz := PD.out.b.size
    have sA : (wd.alloc (.cells #[.int .i64 x1, .int .i64 x2] 70)).cell? ⟨W.heap.size + 3, 1, none⟩ = some (.slice ab (dropT l v k).length cb) ∧ (wd.alloc (.cells #[.int .i64 x1, .int .i64 x2] 70)).cell? ⟨W.heap.size, 1, none⟩ = some (.slice (some ⟨bb, off, none⟩) l.length cap) ∧ (wd.alloc (.cells #[.int .i64 x1, .int .i64 x2] 70)).cell? ⟨bb, off + k * 2, none⟩ = some (.int .i64 x1) ∧ (wd.alloc (.cells #[.int .i64 x1, .int .i64 x2] 70)).cell? ⟨bb, off + k * 2 + 1, none⟩ = some (.int .i64 x2) := ⟨PA.out.og.c1, PA.out.bg.c1, (bA.cell (p := ⟨bb, off + k * 2, none⟩) (show bb < wd.heap.size by omega)).trans s0.2.2.1, (bA.cell (p := ⟨bb, off + k * 2 + 1, none⟩) (show bb < wd.heap.size by omega)).trans s0.2.2.2⟩
    go_simp
    refine hKK.out _ _ (.inr sA) ?_
    clear hKK KK
    try simp only [Act.put, List.setIfInBounds_toArray, List.set_cons_zero, List.set_cons_succ, List.getElem_toArray, List.getElem_cons_zero, List.getElem_cons_succ]
    refine wpAnyZ_step (i := 8) (by kernel_rfl) rfl (by rfl) ?_
    intro KK hKK
    refine stepBarX (by rfl) _ _ (by rfl) (by rfl) PA.out.og.ob x1 x2 wd.heap.size (by rfl) p0 p1 (by omega) (by have := PA.out.sz; omega) ?_
    intro v5 w5 h5 k5 a5
    rw [← HS.out] at h5
    obtain ⟨av, cv, rfl, -⟩ := h5.form
    have hnl : ∀ b, b < W.heap.size + 2 → ¬ some b = (Value.slice ab (dropT l v k).length cb).ownBlock := fun b hb e => by have := (PA.out.og.ob.lt b e.symm).1; omega
    have hn3 : ¬ some (W.heap.size + 3) = (Value.slice ab (dropT l v k).length cb).ownBlock := fun e => PA.out.og.ne e.symm
    have hz5 := PA.out.sz
    have s5 : w5.cell? ⟨W.heap.size + 3, 1, none⟩ = some (.slice ab (dropT l v k).length cb) ∧ w5.cell? ⟨W.heap.size, 1, none⟩ = some (.slice (some ⟨bb, off, none⟩) l.length cap) ∧ w5.cell? ⟨bb, off + k * 2, none⟩ = some (.int .i64 x1) ∧ w5.cell? ⟨bb, off + k * 2 + 1, none⟩ = some (.int .i64 x2) := ⟨(k5.cell (by omega) hn3).trans sA.1, (k5.cell (by omega) (hnl _ (by omega))).trans sA.2.1, (k5.cell (by omega) (hnl _ (by omega))).trans sA.2.2.1, (k5.cell (by omega) (hnl _ (by omega))).trans sA.2.2.2⟩
    have f5 : w5.frozen? ⟨W.heap.size + 3, 1, none⟩ = false := (k5.frozen (by omega) hn3).trans PA.out.og.f1
    have z5 : W.heap.size + 3 < w5.heap.size := Nat.lt_of_lt_of_le (by omega) k5.size
    have P5 := Lib.hid (PA.out.app h5 k5 (a5.imp id fun e b hb => by rw [e] at hb; exact Nat.le_of_eq (Option.some.inj hb)))
    have c5 := s5.1
    clear hnl hn3 sA p0 p1 bA h5 k5 a5 s0 PD PA hbz hz5
    refine hKK.out _ _ (.inr s5) ?_
    clear hKK KK
    try simp only [Act.put, List.setIfInBounds_toArray, List.set_cons_zero, List.set_cons_succ, List.getElem_toArray, List.getElem_cons_zero, List.getElem_cons_succ]
    refine wpAnyZ_take (i := 9) (v := ?_) rfl (by kernel_rfl) (by kernel_rfl) (by kernel_rfl) (by kernel_rfl) (by kernel_rfl) (fun _ _ _ h => h) (s5) (by rfl) ?_ ?_
    rotate_left
    · intro x hx; obtain ⟨u1, u2, u3, u4⟩ := hx; go_simp; try (with_reducible rfl)
    try simp only [Act.put, List.setIfInBounds_toArray, List.set_cons_zero, List.set_cons_succ, List.getElem_toArray, List.getElem_cons_zero, List.getElem_cons_succ]
    refine wpAnyZ_step (i := 10) (by kernel_rfl) rfl (by rfl) ?_
    intro KK hKK
    go_simp
    refine hKK.out _ _ (.inl (by kernel_rfl)) ?_
    clear hKK KK
    try simp only [Act.put, List.setIfInBounds_toArray, List.set_cons_zero, List.set_cons_succ, List.getElem_toArray, List.getElem_cons_zero, List.getElem_cons_succ]
    refine wpAnyZ_done (by kernel_rfl) ?_ _
    clear s5 c5 f5 z5
    go_wp2_with fail
    go_roundw
    case rel => exact ⟨k + 1, _, by omega, by go_num, P5.out⟩
    case measure => simp [intOf]; omega
  ·obtain rfl : k = l.length := by omega
   obtain ⟨ab, cb, rfl, hib⟩ := PS.out.og.ob.form
   clear hib
   obtain ⟨g0, g1, g2, g3, g4, g5, g6⟩ := PS.out.og
   obtain ⟨⟨z1, z2, z3, c0, c1⟩, ⟨f0, f1⟩, gz⟩ := PS.out.rz
   have hsz2 := PS.out.sz
   have HLD := Lib.hid (laid2 (p := p) (g := W.heap.size + 1) PS.out.og.ob (by omega) (by omega) (by omega) PS.out.b)
   go_wp2_with fail
   refine bodyPost_ret (v := .agg #[.int .i64 p, .slice ab (dropT l v l.length).length cb]) (by simp [results, Tryz.results120, go_sem, gz, c0, c1]) rfl ?_
   rw [← dropT_all]
   exact ⟨_, rfl, HLD.out.1, HLD.out.2⟩
end Go.Proofs.YtfbmpkdjhhcnpaaGreat

