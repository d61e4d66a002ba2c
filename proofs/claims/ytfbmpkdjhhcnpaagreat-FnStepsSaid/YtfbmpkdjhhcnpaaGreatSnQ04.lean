/- Drawing a third point: l6Third of the reference. No condition but sizes. -/
import Derived.Test.YtfbmpkdjhhcnpaaGreatSnP04
import Derived.Test.YtfbmpkdjhhcnpaaGreatSnP08
import Derived.Test.YtfbmpkdjhhcnpaaGreatSnP09
import Derived.Test.YtfbmpkdjhhcnpaaGreatSnQ01
import Derived.Deep.DeepCutAuto
namespace Go.Proofs.YtfbmpkdjhhcnpaaGreat
open Go.RowKit
set_option maxRecDepth 100000
set_option linter.unusedVariables false
set_option linter.unusedSimpArgs false
set_option maxHeartbeats 4000000 in
theorem l6Third_at (W0 w : World) (g : Nat) (ca : Option Addr) (n cap : Nat) (l : List Int) (hB : BytesAt W0 ca n l) (hn : n ≤ 1099511627776) (h : Drw W0 w g ca n cap l) (m x1 x2 o : Int) (hm : 1 ≤ m ∧ m ≤ 256) (ho : 0 ≤ o ∧ o ≤ m - 1) :
  Calls Tryz.prog 145 #[.pointer (some ⟨g, 0, none⟩), .int .i64 m, .agg #[.int .i64 x1, .int .i64 x2], .int .i64 o] w (RetDi W0 w g ca n cap l 0 (m - 1)) := by
 have ba := belAl w (.cells #[.int .i64 x1, .int .i64 x2] 70)
 have HC := Lib.hid (l1Below_at W0 _ g ca n cap l hB hn (h.below ba) m hm)
 have c0 : (w.alloc (.cells #[.int .i64 x1, .int .i64 x2] 70)).cell? ⟨w.heap.size, 0, none⟩ = some (.int .i64 x1) := by simp
 have c1 : (w.alloc (.cells #[.int .i64 x1, .int .i64 x2] 70)).cell? ⟨w.heap.size, 1, none⟩ = some (.int .i64 x2) := by simp
 have hgw := h.hi
 have hz : w.heap.size < (w.alloc (.cells #[.int .i64 x1, .int .i64 x2] 70)).heap.size := by simp
 have KA := Lib.hid (Kept.of_below (S := fun b => b = g) ba)
 clear hB h ba
 go_enter Tryz.func145, Tryz.ntmps145
 go_upto_region 1 with (fail)
 generalize (w.alloc (.cells #[.int .i64 x1, .int .i64 x2] 70)) = u at *
 go_wp2_with fail
 refine HC.out.mono ?_
 rintro e w1 ⟨x, hx, rfl, d1, k1⟩
 have D1 := Lib.hid d1
 have K1 := Lib.hid (KA.out.trans k1)
 have e0 := (k1.cell (o := 0) hz (show ¬ w.heap.size = g by omega)).trans c0
 have e1 := (k1.cell (o := 1) hz (show ¬ w.heap.size = g by omega)).trans c1
 have z1 := Nat.lt_of_lt_of_le hz k1.size
 clear d1 k1 c0 c1 HC KA
 cases h1 : (x == x1)
 ·cases h2 : (x == x2)
  ·go_wp2_with fail
   go_ret
   exact ⟨x, hx, rfl, D1.out, K1.out⟩
  ·go_wp2_with fail
   go_ret
   exact ⟨o, ho, rfl, D1.out, K1.out⟩
 ·go_wp2_with fail
  go_ret
  exact ⟨o, ho, rfl, D1.out, K1.out⟩
structure LmS (W0 w0 w : World) (g : Nat) (ca : Option Addr) (n cap : Nat) (l : List Int) (p : Int) (a : Option Addr) (c : Nat) (bs : List BarT) : Prop where
 d : Drw W0 w g ca n cap l
 k : Kept (fun b => b = g) w0 w
 rz : Zer2 w w0.heap.size
 bx : BoxGr w (w0.heap.size + 1 + 1) p a bs.length c
 f0 : w.frozen? ⟨w0.heap.size + 1 + 1, 0, none⟩ = false
 f1 : w.frozen? ⟨w0.heap.size + 1 + 1, 1, none⟩ = false
 ob : OwnBars w (w0.heap.size + 1) (.slice a bs.length c) bs
 ne : (Value.slice a bs.length c).ownBlock ≠ some (w0.heap.size + 1 + 1)
 gl : g < w0.heap.size
theorem LmS.below {W0 w0 w w' : World} {g : Nat} {ca : Option Addr} {n cap : Nat} {l : List Int} {p : Int} {a : Option Addr} {c : Nat} {bs : List BarT} (h : LmS W0 w0 w g ca n cap l p a c bs) (hb : Below w.heap.size w w') : LmS W0 w0 w' g ca n cap l p a c bs :=
 ⟨h.d.below hb, h.k.trans (Kept.of_below hb), h.rz.below hb, h.bx.below hb, ((bcell hb).2 _ _ h.bx.1).trans h.f0, ((bcell hb).2 _ _ h.bx.1).trans h.f1, h.ob.below hb, h.ne, h.gl⟩
theorem LmS.draw {W0 w0 w w' : World} {g : Nat} {ca : Option Addr} {n cap : Nat} {l : List Int} {p : Int} {a : Option Addr} {c : Nat} {bs : List BarT} (h : LmS W0 w0 w g ca n cap l p a c bs) (hd : Drw W0 w' g ca n cap l) (hk : Kept (fun b => b = g) w w') : LmS W0 w0 w' g ca n cap l p a c bs := by
 have hg := h.gl
 exact ⟨hd, h.k.trans hk, h.rz.kept hk (by omega), h.bx.kept hk (by omega), (hk.frozen h.bx.1 (by omega)).trans h.f0, (hk.frozen h.bx.1 (by omega)).trans h.f1, h.ob.on hk (by omega), h.ne, hg⟩
theorem LmS.set {W0 w0 w : World} {g lo : Nat} {ca : Option Addr} {n cap : Nat} {l : List Int} {p : Int} {a a' : Option Addr} {c c' : Nat} {bs bs' : List BarT} (h : LmS W0 w0 w g ca n cap l p a c bs) (ho : OwnBars w lo (.slice a' bs'.length c') bs') (hlo : w0.heap.size + 1 + 1 < lo) :
  LmS W0 w0 ((w.setCell ⟨w0.heap.size + 1 + 1, 0, none⟩ (.int .i64 p)).setCell ⟨w0.heap.size + 1 + 1, 1, none⟩ (.slice a' bs'.length c')) g ca n cap l p a' c' bs' := by
 have hg := h.gl
 have hlow := h.d.low
 have k2 : Kept (fun b => b = w0.heap.size + 1 + 1) w ((w.setCell ⟨w0.heap.size + 1 + 1, 0, none⟩ (.int .i64 p)).setCell ⟨w0.heap.size + 1 + 1, 1, none⟩ (.slice a' bs'.length c')) := (keptSet' (S := fun b => b = w0.heap.size + 1 + 1) rfl).trans (keptSet' (S := fun b => b = w0.heap.size + 1 + 1) rfl)
 obtain ⟨hz, c0, c1⟩ := h.bx
 have o01 : (⟨w0.heap.size + 1 + 1, 0, none⟩ : Addr) ≠ ⟨w0.heap.size + 1 + 1, 1, none⟩ := by simp
 exact ⟨h.d.kept k2 (by omega) (fun b hb => by omega), h.k.on k2 fun i h1 h2 => by omega, h.rz.kept k2 (by omega),
  ⟨by simpa using hz, (World.cell?_setCell_other _ _ _ _ o01.symm).trans (World.cell?_setCell_same _ _ _ c0), World.cell?_setCell_same _ _ _ ((World.cell?_setCell_other _ _ _ _ o01).trans c1)⟩,
  (World.frozen?_setCell _ _ _ _).trans ((World.frozen?_setCell _ _ _ _).trans h.f0), (World.frozen?_setCell _ _ _ _).trans ((World.frozen?_setCell _ _ _ _).trans h.f1),
  ((ho.set (by show w0.heap.size + 1 + 1 < lo; omega) _).set (by show w0.heap.size + 1 + 1 < lo; omega) _).low (by omega), fun e => by have := (ho.lt _ e).1; omega, hg⟩
theorem LmS.start {W0 w : World} {g : Nat} {ca : Option Addr} {n cap : Nat} {l : List Int} (h : Drw W0 w g ca n cap l) (p : Int) :
  LmS W0 w (((w.alloc (.cells #[.int .i64 0, .slice none 0 0] 26)).alloc (.cells #[] 70)).alloc (.cells #[.int .i64 p, .slice (some ⟨w.heap.size + 1, 0, none⟩) 0 0] 26)) g ca n cap l p (some ⟨w.heap.size + 1, 0, none⟩) 0 [] := by
 have G := GdS.start h p
 have e3 : ((w.alloc (.cells #[.int .i64 0, .slice none 0 0] 26)).alloc (.cells #[] 70)).heap.size = w.heap.size + 1 + 1 := by simp
 have n0 := World.frozen?_alloc_new ((w.alloc (.cells #[.int .i64 0, .slice none 0 0] 26)).alloc (.cells #[] 70)) #[.int .i64 p, .slice (some ⟨w.heap.size + 1, 0, none⟩) 0 0] 26 0
 rw [e3] at n0
 exact ⟨G.d, G.k, G.rz, ⟨G.og.hi, G.og.c0, G.og.c1⟩, by simpa using n0, G.og.f1, G.og.ob, G.og.ne, G.gl⟩
theorem LmS.bars {W0 w0 w : World} {g : Nat} {ca : Option Addr} {n cap : Nat} {l : List Int} {p : Int} {a : Option Addr} {c : Nat} {bs : List BarT} (h : LmS W0 w0 w g ca n cap l p a c bs) : BarsAt w a bs.length bs := by
 obtain ⟨a9, c9, e9, i9⟩ := h.ob.form
 simp at e9
 obtain ⟨rfl, rfl⟩ := e9
 exact i9
theorem LmG.le {P : Int} {v m m2 : Nat} {bs : List BarT} (h : LmG P v m bs) (hm : m ≤ m2) : LmG P v m2 bs := ⟨h.g, h.lo, Nat.le_trans h.hi hm, h.lt⟩
theorem lmPut {P : Int} {v m : Nat} {bs : List BarT} (hg : isGraphB (P, bs) = true) (hi : bs.length ≤ m) (hlt : ∀ y ∈ bs, y.2 < v) {v' : Nat} {x : BarT} (hm : m ≤ 22) (hv : v ≤ v') (hx : 0 ≤ x.1 ∧ x.1 < x.2 ∧ x.2 < P) (hxv : x.2 < v') : LmG P v' (m + 1) (putL bs x) :=
 ⟨graph_put hg (by omega) hx, by rw [putL_length]; omega, by rw [putL_length]; omega, fun y hy => by
  rcases mem_putL.1 hy with rfl | hy
  ·exact hxv
  ·have := hlt y hy; omega⟩
theorem LmS.fin {W0 w0 w : World} {g : Nat} {ca : Option Addr} {n cap : Nat} {l : List Int} {p : Int} {a : Option Addr} {c : Nat} {bs : List BarT} (h : LmS W0 w0 w g ca n cap l p a c bs) :
  OwnBars ((w.setCell ⟨w0.heap.size, 0, none⟩ (.int .i64 p)).setCell ⟨w0.heap.size, 1, none⟩ (.slice a bs.length c)) w0.heap.size (.slice a bs.length c) bs ∧ Drw W0 ((w.setCell ⟨w0.heap.size, 0, none⟩ (.int .i64 p)).setCell ⟨w0.heap.size, 1, none⟩ (.slice a bs.length c)) g ca n cap l ∧ Kept (fun b => b = g) w0 ((w.setCell ⟨w0.heap.size, 0, none⟩ (.int .i64 p)).setCell ⟨w0.heap.size, 1, none⟩ (.slice a bs.length c)) := by
 have hg := h.gl
 have hlow := h.d.low
 have k2 : Kept (fun b => b = w0.heap.size) w ((w.setCell ⟨w0.heap.size, 0, none⟩ (.int .i64 p)).setCell ⟨w0.heap.size, 1, none⟩ (.slice a bs.length c)) := (keptSet' (S := fun b => b = w0.heap.size) rfl).trans (keptSet' (S := fun b => b = w0.heap.size) rfl)
 exact ⟨((h.ob.set (by show w0.heap.size < _; omega) _).set (by show w0.heap.size < _; omega) _).low (by omega), h.d.kept k2 (by omega) (fun b hb => by omega), h.k.on k2 fun i h1 h2 => by omega⟩
theorem put_lm (w : World) (p : Int) (a : Option Addr) (c : Nat) (bs : List BarT) (h : BarsAt w a bs.length bs) (hs : bs.length ≤ 1048576) (x1 x2 : Int) (bs' : List BarT) (hq : bs' = putL bs (x1, x2)) :
  Calls Tryz.prog 98 #[.agg #[.int .i64 p, .slice a bs.length c], .agg #[.int .i64 x1, .int .i64 x2]] w fun e w' => ∃ a' c', e = .returned (.agg #[.int .i64 p, .slice a' bs'.length c']) ∧ OwnBars w' w.heap.size (.slice a' bs'.length c') bs' ∧ Below w.heap.size w w' := by
 refine (l2Put_at w p a c bs h hs x1 x2).mono ?_
 rintro e w' ⟨v7, rfl, o7, b7⟩
 rw [← hq] at o7
 obtain ⟨vb, ⟨ax, cx, rfl, rfl⟩, ob⟩ := o7
 exact ⟨ax, cx, rfl, ob, b7⟩
theorem ownBars_at {w : World} {base : Nat} {a : Option Addr} {c : Nat} {bs : List BarT} (h : OwnBars w base (.slice a bs.length c) bs) : BarsAt w a bs.length bs := by
 obtain ⟨a9, c9, e9, i9⟩ := h.form
 simp at e9
 obtain ⟨rfl, rfl⟩ := e9
 exact i9
set_option maxHeartbeats 16000000 in
theorem l6Laman_at (W0 w : World) (g : Nat) (ca : Option Addr) (n cap : Nat) (l : List Int) (hB : BytesAt W0 ca n l) (hn : n ≤ 1099511627776) (h : Drw W0 w g ca n cap l) (P : Nat) (hP : 1 ≤ P ∧ P ≤ 6) :
  Calls Tryz.prog 114 #[.pointer (some ⟨g, 0, none⟩), .int .i64 P] w (RetDg W0 w g ca n cap l fun p bs => p = (P : Int) ∧ isGraphB ((P : Int), bs) = true ∧ bs.length ≤ 18 ∧ (2 ≤ P → 1 ≤ bs.length)) := by
 have HD : Hid (∀ (m : Int) w9, 1 ≤ m ∧ m ≤ 256 → Drw W0 w9 g ca n cap l → Calls Tryz.prog 88 #[.pointer (some ⟨g, 0, none⟩), .int .i64 m] w9 (RetDi W0 w9 g ca n cap l 0 (m - 1))) := Lib.hid fun m w9 hm h9 => l1Below_at W0 w9 g ca n cap l hB hn h9 m hm
 have HON : Hid (∀ (m : Int) w9, 1 ≤ m ∧ m ≤ 256 → Drw W0 w9 g ca n cap l → Calls Tryz.prog 58 #[.pointer (some ⟨g, 0, none⟩), .int .i64 m] w9 (RetDb W0 w9 g ca n cap l)) := Lib.hid fun m w9 hm h9 => l1Once_at W0 w9 g ca n cap l hB hn h9 m hm
 have HTH : Hid (∀ (m x1 x2 o : Int) w9, (1 ≤ m ∧ m ≤ 256) → (0 ≤ o ∧ o ≤ m - 1) → Drw W0 w9 g ca n cap l → Calls Tryz.prog 145 #[.pointer (some ⟨g, 0, none⟩), .int .i64 m, .agg #[.int .i64 x1, .int .i64 x2], .int .i64 o] w9 (RetDi W0 w9 g ca n cap l 0 (m - 1))) := Lib.hid fun m x1 x2 o w9 hm ho h9 => l6Third_at W0 w9 g ca n cap l hB hn h9 m x1 x2 o hm ho
 have LS := Lib.hid (LmS.start h (P : Int))
 clear hB h
 by_cases hP1 : (P : Int) < 2
 ·go_enter Tryz.func114, Tryz.ntmps114
  go_upto_region 2 with (fail)
  generalize (((w.alloc (.cells #[.int .i64 0, .slice none 0 0] 26)).alloc (.cells #[] 70)).alloc (.cells #[.int .i64 (P : Int), .slice (some ⟨w.heap.size + 1, 0, none⟩) 0 0] 26)) = u at *
  obtain ⟨zB, fB0, fB1⟩ := LS.out.bx
  obtain ⟨⟨z1, z2, z3, c0, c1⟩, ⟨f0, f1⟩, gz⟩ := LS.out.rz
  have HF := Lib.hid LS.out.fin
  go_wp2_with fail
  refine bodyPost_ret (v := .agg #[.int .i64 (P : Int), .slice (some ⟨w.heap.size + 1, 0, none⟩) 0 0]) (by simp [results, Tryz.results114, go_sem, gz, c0, c1]) rfl ?_
  exact ⟨(P : Int), _, 0, [], rfl, HF.out.1, ⟨rfl, isGraphB_of (by simp [inB]; omega) (by simp) (fun x hx => by simp at hx) List.Pairwise.nil, by simp, fun h => by omega⟩, HF.out.2.1, HF.out.2.2⟩
 have hP2 : (2 : Int) ≤ (P : Int) := by omega
 go_enter Tryz.func114, Tryz.ntmps114
 go_upto_region 2 with (fail)
 generalize (((w.alloc (.cells #[.int .i64 0, .slice none 0 0] 26)).alloc (.cells #[] 70)).alloc (.cells #[.int .i64 (P : Int), .slice (some ⟨w.heap.size + 1, 0, none⟩) 0 0] 26)) = u at *
 obtain ⟨zB, fB0, fB1⟩ := LS.out.bx
 have HPT := Lib.hid (put_lm u (P : Int) (some ⟨w.heap.size + 1, 0, none⟩) 0 [] LS.out.bars (by simp) 0 1 [(0, 1)] rfl)
 go_wp2_with fail
 clear zB fB0 fB1
 refine HPT.out.mono ?_
 rintro e w1 ⟨a1, c1, rfl, ob, b⟩
 have hzu := LS.out.bx.1
 have hzb := b.size
 have L1 := Lib.hid ((LS.out.below b).set ob hzu)
 obtain ⟨zB, fB0, fB1⟩ := (LS.out.below b).bx
 have q0 := (LS.out.below b).f0
 have q1 := (LS.out.below b).f1
 have LG : Hid (LmG P 2 6 [(0, 1)]) := Lib.hid ⟨isGraphB_of (by simp [inB]; omega) (by simp) (fun x hx => by simp at hx; rw [hx]; dsimp only; omega) (List.pairwise_singleton _ _), by simp, by simp, fun x hx => by simp at hx; rw [hx]; decide⟩
 have hzw : w.heap.size + 1 + 1 < w1.heap.size := by omega
 clear HPT ob b LS
 go_wp2_with fail
 clear zB fB0 fB1 q0 q1
 go_loopw [6] (fun i w9 => ∃ (v : Nat) (a : Option Addr) (c : Nat) (bs : List BarT), 2 ≤ v ∧ v ≤ P ∧ i = .int .i64 v ∧ LmS W0 w w9 g ca n cap l P a c bs ∧ LmG P v (3 * v) bs) (fun i _ => P - (intOf i).toNat)
 case atStart => exact ⟨2, a1, c1, [(0, 1)], by omega, by omega, rfl, L1.out, LG.out⟩
 case round =>
  clear L1 LG hzw hzu hzb
  obtain ⟨v, a, c, bs, hv2, hvP, rfl, hls, hlg⟩ := hrel
  have LS := Lib.hid hls
  have LG := Lib.hid hlg
  clear hls hlg
  by_cases hlt : v < P
  ·have hvi : (v : Int) < (P : Int) := by omega
   go_wp2_with fail
   refine (HD.out v wr (by omega) LS.out.d).mono ?_
   rintro e w2 ⟨x, hx, rfl, d1, k1⟩
   replace LS := Lib.hid (LS.out.draw d1 k1)
   clear d1 k1
   have hw1 := IntWalk.i64_in (x + 1) (by omega)
   have hw2 := IntWalk.i64_in ((v : Int) - 1) (by omega)
   go_wp2_with fail
   refine (HD.out ((v : Int) - 1) w2 (by omega) LS.out.d).mono ?_
   rintro e w3 ⟨y, hy, rfl, d1, k1⟩
   replace LS := Lib.hid (LS.out.draw d1 k1)
   clear d1 k1
   have hw3 := IntWalk.i64_in (x + 1 + y) (by omega)
   have hv0 : ((v : Int) == 0) = false := by rw [beq_eq_false_iff_ne]; omega
   have hs0 : 0 ≤ x + 1 + y := by omega
   go_wp2_with fail
   obtain ⟨z, hzq⟩ : ∃ z, z = (x + 1 + y) % (v : Int) := ⟨_, rfl⟩
   have hzr := emod_rng hs0 (show 0 < (v : Int) by omega)
   rw [← hzq] at hzr
   rw [← hzq]
   clear hzq hs0 hv0 hw1 hw3
   refine (HON.out 2 w3 (by decide) LS.out.d).mono ?_
   rintro e w4 ⟨bq, rfl, d1, k1⟩
   replace LS := Lib.hid (LS.out.draw d1 k1)
   clear d1 k1
   have LGE : Hid (LmG P (v + 1) (3 * (v + 1)) (putL (putL bs (x, (v : Int))) (z, (v : Int)))) := Lib.hid (((LG.out.put (v' := v + 1) (x := (x, (v : Int))) (by omega) (by omega) (by dsimp only; omega) (by dsimp only; omega)).put (v' := v + 1) (x := (z, (v : Int))) (by omega) (by omega) (by dsimp only; omega) (by dsimp only; omega)).le (by omega))
   have hbl := LG.out.hi
   by_cases hq : bq = true ∧ 2 < v
   ·obtain ⟨rfl, hv3⟩ := hq
    have hv3i : (2 : Int) < (v : Int) := by omega
    clear LGE hzr hy
    obtain ⟨zB, fB0, fB1⟩ := LS.out.bx
    go_wp2_with fail
    have hblo := LG.out.lo
    refine (HD.out bs.length w4 (by omega) LS.out.d).mono ?_
    rintro e w5 ⟨kx, hkx, rfl, d1, k1⟩
    replace LS := Lib.hid (LS.out.draw d1 k1)
    clear d1 k1 zB fB0 fB1
    obtain ⟨kk, rfl⟩ : ∃ k : Nat, kx = k := ⟨kx.toNat, by omega⟩
    obtain ⟨zB, fB0, fB1⟩ := LS.out.bx
    obtain ⟨bb, off, ⟨e1, e2⟩, rfl, hbb, hbx, hc0, hc1⟩ := LS.out.bars.2 kk (by omega)
    have her := isGraphB_bar LG.out.g hbx
    have hev := LG.out.lt _ (List.mem_of_getElem? hbx)
    dsimp only at hc0 hc1 her hev
    have hki : (kk : Int) < (bs.length : Int) := by omega
    have hkk0 : (0 : Int) ≤ (kk : Int) := by omega
    have hkn : kk < bs.length := by omega
    have ba := belAl w5 (.cells #[.int .i64 e1, .int .i64 e2] 70)
    have LS6 := Lib.hid (LS.out.below ba)
    have t0 : (w5.alloc (.cells #[.int .i64 e1, .int .i64 e2] 70)).cell? ⟨w5.heap.size, 0, none⟩ = some (.int .i64 e1) := by simp
    have t1 : (w5.alloc (.cells #[.int .i64 e1, .int .i64 e2] 70)).cell? ⟨w5.heap.size, 1, none⟩ = some (.int .i64 e2) := by simp
    have ht : w5.heap.size < (w5.alloc (.cells #[.int .i64 e1, .int .i64 e2] 70)).heap.size := by simp
    have hgt : w.heap.size + 1 + 1 < w5.heap.size := LS.out.bx.1
    clear hkx ba hbx LS
    go_wp2_with fail
    clear zB fB0 fB1 hc0 hc1 hbb
    obtain ⟨gt, hgg⟩ : ∃ g, g = w5.heap.size := ⟨_, rfl⟩
    rw [← hgg] at t0 t1 ht hgt
    try rw [← hgg]
    generalize (w5.alloc (.cells #[.int .i64 e1, .int .i64 e2] 70)) = w6 at *
    clear hgg
    have hwv := hv3i
    obtain ⟨wB, hwB⟩ : ∃ w9, w9 = w6 := ⟨_, rfl⟩
    subst hwB
    go_loopw [11] (fun i w9 => ∃ j : Nat, j ≤ 2 ∧ i = .int .i64 j ∧ (∀ q : Nat, q < j → (q : Int) = e1 ∨ (q : Int) = e2) ∧ wB = w9) (fun i _ => 3 - (intOf i).toNat)
    case atStart => exact ⟨0, by omega, rfl, fun q hq => absurd hq (Nat.not_lt_zero _), rfl⟩
    case round =>
     obtain ⟨j, hj, rfl, hjq, rfl⟩ := hrel
     have hj2 : ((j : Int) = e1 ∨ (j : Int) = e2) → j ≤ 1 := fun hh => by
      by_cases h2 : j = 2
      ·subst h2
       have g1 := hjq 0 (by omega)
       have g2 := hjq 1 (by omega)
       omega
      ·omega
     have HJ := Lib.hid hjq
     have HJ2 := Lib.hid hj2
     clear hjq hj2
     cases h1 : ((j : Int) == e1)
     ·cases h2 : ((j : Int) == e2)
      ·go_wp2_with fail
       refine (HTH.out v e1 e2 j wB (by omega) (by omega) LS6.out.d).mono ?_
       rintro e w7 ⟨t, htr, rfl, d1, k1⟩
       have LS7 := Lib.hid (LS6.out.draw d1 k1)
       have hgg := LS6.out.gl
       have t0' := (k1.cell (o := 0) ht (show ¬ gt = g by omega)).trans t0
       have t1' := (k1.cell (o := 1) ht (show ¬ gt = g by omega)).trans t1
       have ht' := Nat.lt_of_lt_of_le ht k1.size
       clear d1 k1 t0 t1 ht LS6 h1 h2
       obtain ⟨zB, fB0, fB1⟩ := LS7.out.bx
       have hcp := LS7.out.ob.cap
       have HRM := Lib.hid (specRem_at w7 (P : Int) (some ⟨bb, off, none⟩) c bs LS7.out.bars (by omega) LG.out.g kk hkn hcp.1 hcp.2)
       obtain ⟨s0, hs0⟩ : ∃ q, q = cutG bs kk := ⟨_, rfl⟩
       rw [← hs0] at HRM
       have hl0 : s0.length ≤ 3 * v := by rw [hs0, cutG_length hkn]; omega
       have HG0 : Hid (isGraphB ((P : Int), s0) = true ∧ ∀ y ∈ s0, y.2 < v) := Lib.hid ⟨by rw [hs0]; exact isGraphB_sub LG.out.g (cutG_sub _ _), fun y hy => LG.out.lt y (by rw [hs0] at hy; exact (cutG_sub _ _).subset hy)⟩
       clear hcp hs0
       go_wp2_with fail
       clear zB fB0 fB1
       refine HRM.out.mono ?_
       rintro e w8 ⟨v8, rfl, o8, b8⟩
       obtain ⟨vb, ⟨a8, c8, rfl, rfl⟩, ob8⟩ := o8
       dsimp only at ob8
       have hz7 := LS7.out.bx.1
       have LS8 := Lib.hid (LS7.out.below b8)
       have LS9 := Lib.hid (LS8.out.set ob8 hz7)
       have r0 := (b8.cell (p := ⟨gt, 0, none⟩) ht').trans t0'
       have r1 := (b8.cell (p := ⟨gt, 1, none⟩) ht').trans t1'
       have rt := Nat.lt_of_lt_of_le ht' b8.size
       have r0' : ((w8.setCell ⟨w.heap.size + 1 + 1, 0, none⟩ (.int .i64 (P : Int))).setCell ⟨w.heap.size + 1 + 1, 1, none⟩ (.slice a8 s0.length c8)).cell? ⟨gt, 0, none⟩ = some (.int .i64 e1) := (World.cell?_setCell_other _ _ _ _ (by simp <;> omega)).trans ((World.cell?_setCell_other _ _ _ _ (by simp <;> omega)).trans r0)
       have r1' : ((w8.setCell ⟨w.heap.size + 1 + 1, 0, none⟩ (.int .i64 (P : Int))).setCell ⟨w.heap.size + 1 + 1, 1, none⟩ (.slice a8 s0.length c8)).cell? ⟨gt, 1, none⟩ = some (.int .i64 e2) := (World.cell?_setCell_other _ _ _ _ (by simp <;> omega)).trans ((World.cell?_setCell_other _ _ _ _ (by simp <;> omega)).trans r1)
       have rt' : gt < ((w8.setCell ⟨w.heap.size + 1 + 1, 0, none⟩ (.int .i64 (P : Int))).setCell ⟨w.heap.size + 1 + 1, 1, none⟩ (.slice a8 s0.length c8)).heap.size := by simpa using rt
       obtain ⟨zB, fB0, fB1⟩ := LS8.out.bx
       have q0 := LS8.out.f0
       have q1 := LS8.out.f1
       clear HRM ob8 b8 LS7 t0' t1' ht' r0 r1 rt
       go_wp2_with fail
       clear zB fB0 fB1 q0 q1 LS8
       generalize ((w8.setCell ⟨w.heap.size + 1 + 1, 0, none⟩ (.int .i64 (P : Int))).setCell ⟨w.heap.size + 1 + 1, 1, none⟩ (.slice a8 s0.length c8)) = w9 at *
       have LD := Lib.hid (LS9.out.below (w' := w9.drew) (Below.refl _ _).drew)
       have u0 : w9.drew.cell? ⟨gt, 0, none⟩ = some (.int .i64 e1) := r0'
       have u1 : w9.drew.cell? ⟨gt, 1, none⟩ = some (.int .i64 e2) := r1'
       have ut : gt < w9.drew.heap.size := rt'
       refine wp_regionZ (fun w' => w'.cell? ⟨w.heap.size + 1 + 1, 0, none⟩ = some (.int .i64 (P : Int)) ∧ w'.cell? ⟨w.heap.size + 1 + 1, 1, none⟩ = some (.slice a8 s0.length c8) ∧ w'.cell? ⟨gt, 0, none⟩ = some (.int .i64 e1) ∧ w'.cell? ⟨gt, 1, none⟩ = some (.int .i64 e2)) 15 (by kernel_rfl) ?_
       clear LS9 r0' r1' rt'
       generalize w9.drew = wd at *
       have SK : Hid (∀ w', Below wd.heap.size wd w' → w'.cell? ⟨w.heap.size + 1 + 1, 0, none⟩ = some (.int .i64 (P : Int)) ∧ w'.cell? ⟨w.heap.size + 1 + 1, 1, none⟩ = some (.slice a8 s0.length c8) ∧ w'.cell? ⟨gt, 0, none⟩ = some (.int .i64 e1) ∧ w'.cell? ⟨gt, 1, none⟩ = some (.int .i64 e2)) := Lib.hid fun w' hb => ⟨(LD.out.bx.below hb).c0, (LD.out.bx.below hb).c1, (hb.cell (p := ⟨gt, 0, none⟩) ut).trans u0, (hb.cell (p := ⟨gt, 1, none⟩) ut).trans u1⟩
       have sd := SK.out _ (Below.refl _ _)
       obtain ⟨s1, hs1⟩ : ∃ q, q = putL s0 (e1, (v : Int)) := ⟨_, rfl⟩
       obtain ⟨s2, hs2⟩ : ∃ q, q = putL s1 (e2, (v : Int)) := ⟨_, rfl⟩
       obtain ⟨s3, hs3⟩ : ∃ q, q = putL s2 (t, (v : Int)) := ⟨_, rfl⟩
       have hl1 : s1.length ≤ 30 := by rw [hs1, putL_length]; omega
       have hl2 : s2.length ≤ 30 := by rw [hs2, hs1, putL_length, putL_length]; omega
       have LG3 : Hid (LmG P (v + 1) (3 * (v + 1)) s3) := Lib.hid (by
        rw [hs3, hs2, hs1]
        exact ((lmPut HG0.out.1 hl0 HG0.out.2 (v' := v + 1) (x := (e1, (v : Int))) (by omega) (by omega) (by dsimp only; omega) (by dsimp only; omega)).put (v' := v + 1) (x := (e2, (v : Int))) (by omega) (by omega) (by dsimp only; omega) (by dsimp only; omega)).put (v' := v + 1) (x := (t, (v : Int))) (by omega) (by omega) (by dsimp only; omega) (by dsimp only; omega))
       have HS1 := Lib.hid hs1
       have HS2 := Lib.hid hs2
       have HS3 := Lib.hid hs3
       clear hs1 hs2 hs3 u0 u1
       refine wpAnyZ_takeC (i := 0) (v := ?_) [15] rfl (by kernel_rfl) (by kernel_rfl) (by kernel_rfl) (by kernel_rfl) (by kernel_rfl) (by kernel_rfl) (fun _ _ _ h => h) (sd) (by rfl) ?_ ?_
       rotate_left
       · intro x hx; obtain ⟨u1, u2, u3, u4⟩ := hx; go_simp; try (with_reducible rfl)
       try simp only [Act.put, List.setIfInBounds_toArray, List.set_cons_zero, List.set_cons_succ, List.getElem_toArray, List.getElem_cons_zero, List.getElem_cons_succ]
       refine wpAnyZ_takeC (i := 1) (v := ?_) [15] rfl (by kernel_rfl) (by kernel_rfl) (by kernel_rfl) (by kernel_rfl) (by kernel_rfl) (by kernel_rfl) (fun _ _ _ h => h) (sd) (by rfl) ?_ ?_
       rotate_left
       · intro x hx; obtain ⟨u1, u2, u3, u4⟩ := hx; go_simp; try (with_reducible rfl)
       try simp only [Act.put, List.setIfInBounds_toArray, List.set_cons_zero, List.set_cons_succ, List.getElem_toArray, List.getElem_cons_zero, List.getElem_cons_succ]
       refine wpAnyZ_takeC (i := 2) (v := ?_) [15] rfl (by kernel_rfl) (by kernel_rfl) (by kernel_rfl) (by kernel_rfl) (by kernel_rfl) (by kernel_rfl) (fun _ _ _ h => h) (sd) (by rfl) ?_ ?_
       rotate_left
       · intro x hx; obtain ⟨u1, u2, u3, u4⟩ := hx; go_simp; try (with_reducible rfl)
       try simp only [Act.put, List.setIfInBounds_toArray, List.set_cons_zero, List.set_cons_succ, List.getElem_toArray, List.getElem_cons_zero, List.getElem_cons_succ]
       refine wpAnyZ_takeC (i := 3) (v := ?_) [15] rfl (by kernel_rfl) (by kernel_rfl) (by kernel_rfl) (by kernel_rfl) (by kernel_rfl) (by kernel_rfl) (fun _ _ _ h => h) (sd) (by rfl) ?_ ?_
       rotate_left
       · intro x hx; obtain ⟨u1, u2, u3, u4⟩ := hx; go_simp; try (with_reducible rfl)
       try simp only [Act.put, List.setIfInBounds_toArray, List.set_cons_zero, List.set_cons_succ, List.getElem_toArray, List.getElem_cons_zero, List.getElem_cons_succ]
       refine wpAnyZ_takeC (i := 4) (v := ?_) [15] rfl (by kernel_rfl) (by kernel_rfl) (by kernel_rfl) (by kernel_rfl) (by kernel_rfl) (by kernel_rfl) (fun _ _ _ h => h) (sd) (by rfl) ?_ ?_
       rotate_left
       · intro x hx; obtain ⟨u1, u2, u3, u4⟩ := hx; go_simp; try (with_reducible rfl)
       try simp only [Act.put, List.setIfInBounds_toArray, List.set_cons_zero, List.set_cons_succ, List.getElem_toArray, List.getElem_cons_zero, List.getElem_cons_succ]
       refine wpAnyZ_takeC (i := 6) (v := ?_) [15] rfl (by kernel_rfl) (by kernel_rfl) (by kernel_rfl) (by kernel_rfl) (by kernel_rfl) (by kernel_rfl) (fun _ _ _ h => h) (sd) (by rfl) ?_ ?_
       rotate_left
       · intro x hx; obtain ⟨u1, u2, u3, u4⟩ := hx; go_simp; try (with_reducible rfl)
       try simp only [Act.put, List.setIfInBounds_toArray, List.set_cons_zero, List.set_cons_succ, List.getElem_toArray, List.getElem_cons_zero, List.getElem_cons_succ]
       refine wpAnyZ_takeC (i := 7) (v := ?_) [15] rfl (by kernel_rfl) (by kernel_rfl) (by kernel_rfl) (by kernel_rfl) (by kernel_rfl) (by kernel_rfl) (fun _ _ _ h => h) (sd) (by rfl) ?_ ?_
       rotate_left
       · intro x hx; obtain ⟨u1, u2, u3, u4⟩ := hx; go_simp; try (with_reducible rfl)
       try simp only [Act.put, List.setIfInBounds_toArray, List.set_cons_zero, List.set_cons_succ, List.getElem_toArray, List.getElem_cons_zero, List.getElem_cons_succ]
       refine wpAnyZ_takeC (i := 8) (v := ?_) [15] rfl (by kernel_rfl) (by kernel_rfl) (by kernel_rfl) (by kernel_rfl) (by kernel_rfl) (by kernel_rfl) (fun _ _ _ h => h) (sd) (by rfl) ?_ ?_
       rotate_left
       · intro x hx; obtain ⟨u1, u2, u3, u4⟩ := hx; go_simp; try (with_reducible rfl)
       try simp only [Act.put, List.setIfInBounds_toArray, List.set_cons_zero, List.set_cons_succ, List.getElem_toArray, List.getElem_cons_zero, List.getElem_cons_succ]
       refine wpAnyZ_takeC (i := 9) (v := ?_) [15] rfl (by kernel_rfl) (by kernel_rfl) (by kernel_rfl) (by kernel_rfl) (by kernel_rfl) (by kernel_rfl) (fun _ _ _ h => h) (sd) (by rfl) ?_ ?_
       rotate_left
       · intro x hx; obtain ⟨u1, u2, u3, u4⟩ := hx; go_simp; try (with_reducible rfl)
       try simp only [Act.put, List.setIfInBounds_toArray, List.set_cons_zero, List.set_cons_succ, List.getElem_toArray, List.getElem_cons_zero, List.getElem_cons_succ]
       refine wpAnyZ_takeC (i := 11) (v := ?_) [15] rfl (by kernel_rfl) (by kernel_rfl) (by kernel_rfl) (by kernel_rfl) (by kernel_rfl) (by kernel_rfl) (fun _ _ _ h => h) (sd) (by rfl) ?_ ?_
       rotate_left
       · intro x hx; obtain ⟨u1, u2, u3, u4⟩ := hx; go_simp; try (with_reducible rfl)
       try simp only [Act.put, List.setIfInBounds_toArray, List.set_cons_zero, List.set_cons_succ, List.getElem_toArray, List.getElem_cons_zero, List.getElem_cons_succ]
       refine wpAnyZ_takeC (i := 12) (v := ?_) [15] rfl (by kernel_rfl) (by kernel_rfl) (by kernel_rfl) (by kernel_rfl) (by kernel_rfl) (by kernel_rfl) (fun _ _ _ h => h) (sd) (by rfl) ?_ ?_
       rotate_left
       · intro x hx; obtain ⟨u1, u2, u3, u4⟩ := hx; go_simp; try (with_reducible rfl)
       try simp only [Act.put, List.setIfInBounds_toArray, List.set_cons_zero, List.set_cons_succ, List.getElem_toArray, List.getElem_cons_zero, List.getElem_cons_succ]
       refine wpAnyZ_takeC (i := 13) (v := ?_) [15] rfl (by kernel_rfl) (by kernel_rfl) (by kernel_rfl) (by kernel_rfl) (by kernel_rfl) (by kernel_rfl) (fun _ _ _ h => h) (sd) (by rfl) ?_ ?_
       rotate_left
       · intro x hx; obtain ⟨u1, u2, u3, u4⟩ := hx; go_simp; try (with_reducible rfl)
       try simp only [Act.put, List.setIfInBounds_toArray, List.set_cons_zero, List.set_cons_succ, List.getElem_toArray, List.getElem_cons_zero, List.getElem_cons_succ]
       have HP1 := Lib.hid (put_lm wd (P : Int) a8 c8 s0 LD.out.bars (by omega) e1 v s1 HS1.out)
       clear sd
       refine wpAnyZ_step (i := 5) (by kernel_rfl) rfl (by rfl) ?_
       intro KK hKK
       go_simp
       go_at_call 98
       refine HP1.out.mono ?_
       rintro e wp1 ⟨p1, d1, rfl, ob1, bb1⟩
       have B1 := Lib.hid bb1
       have HP2 := Lib.hid (put_lm wp1 (P : Int) p1 d1 s1 (ownBars_at ob1) (by omega) e2 v s2 HS2.out)
       clear HP1 ob1 bb1
       go_wp2_with fail
       refine hKK.out _ _ (.inr (SK.out _ B1.out)) ?_
       clear hKK KK
       try simp only [Act.put, List.setIfInBounds_toArray, List.set_cons_zero, List.set_cons_succ, List.getElem_toArray, List.getElem_cons_zero, List.getElem_cons_succ]
       refine wpAnyZ_step (i := 10) (by kernel_rfl) rfl (by rfl) ?_
       intro KK hKK
       go_simp
       go_at_call 98
       refine HP2.out.mono ?_
       rintro e wp2 ⟨p2, d2, rfl, ob2, bb2⟩
       have B2 := Lib.hid (B1.out.step bb2)
       have HP3 := Lib.hid (put_lm wp2 (P : Int) p2 d2 s2 (ownBars_at ob2) (by omega) t v s3 HS3.out)
       clear HP2 ob2 bb2
       go_wp2_with fail
       refine hKK.out _ _ (.inr (SK.out _ B2.out)) ?_
       clear hKK KK
       try simp only [Act.put, List.setIfInBounds_toArray, List.set_cons_zero, List.set_cons_succ, List.getElem_toArray, List.getElem_cons_zero, List.getElem_cons_succ]
       refine wpAnyZ_step (i := 14) (by kernel_rfl) rfl (by rfl) ?_
       intro KK hKK
       go_simp
       go_at_call 98
       refine HP3.out.mono ?_
       rintro e wp3 ⟨p3, d3, rfl, ob3, bb3⟩
       have B3 := Lib.hid (B2.out.step bb3)
       have hzd := LD.out.bx.1
       have hz2 := B2.out.size
       have LF := Lib.hid ((LD.out.below B3.out).set ob3 (by omega))
       have LE := Lib.hid (LD.out.below B3.out)
       clear HP3 ob3 bb3
       go_wp2_with fail
       refine hKK.out _ _ (.inr (SK.out _ B3.out)) ?_
       clear hKK KK
       try simp only [Act.put, List.setIfInBounds_toArray, List.set_cons_zero, List.set_cons_succ, List.getElem_toArray, List.getElem_cons_zero, List.getElem_cons_succ]
       obtain ⟨zB, fB0, fB1⟩ := LE.out.bx
       have q0 := LE.out.f0
       have q1 := LE.out.f1
       clear SK LD
       refine wpAnyZ_step (i := 15) (by kernel_rfl) rfl (by rfl) ?_
       intro KK hKK
       go_simp
       refine hKK.out _ _ (.inl (by kernel_rfl)) ?_
       clear hKK KK
       try simp only [Act.put, List.setIfInBounds_toArray, List.set_cons_zero, List.set_cons_succ, List.getElem_toArray, List.getElem_cons_zero, List.getElem_cons_succ]
       refine wpAnyZ_done (by kernel_rfl) ?_ _
       clear zB fB0 fB1 q0 q1 LE
       go_wp2_with fail
       go_roundw
       case rel => exact ⟨v + 1, p3, d3, s3, by omega, by omega, by go_num, LF.out, LG3.out⟩
       case measure => simp [intOf]; omega
      ·have he : (j : Int) = e2 := by simpa using h2
       have hj1 := HJ2.out (.inr he)
       go_wp2_with fail
       go_roundw
       case rel => exact ⟨j + 1, by omega, by go_num, fun q hq => by
        by_cases e : q = j
        ·rw [e]; exact .inr he
        ·exact HJ.out q (by omega), trivial⟩
       case measure => simp [intOf]; omega
     ·have he : (j : Int) = e1 := by simpa using h1
      have hj1 := HJ2.out (.inl he)
      go_wp2_with fail
      go_roundw
      case rel => exact ⟨j + 1, by omega, by go_num, fun q hq => by
       by_cases e : q = j
       ·rw [e]; exact .inl he
       ·exact HJ.out q (by omega), trivial⟩
      case measure => simp [intOf]; omega
   ·have hor : bq = false ∨ bq = true ∧ ¬ (2 : Int) < (v : Int) := by
     cases bq
     ·left; rfl
     ·right; exact ⟨rfl, fun h => hq ⟨rfl, by omega⟩⟩
    rcases hor with rfl | ⟨rfl, hv3⟩
    ·obtain ⟨zB, fB0, fB1⟩ := LS.out.bx
     obtain ⟨s1, hs1⟩ : ∃ q, q = putL bs (x, (v : Int)) := ⟨_, rfl⟩
     obtain ⟨s2, hs2⟩ : ∃ q, q = putL s1 (z, (v : Int)) := ⟨_, rfl⟩
     have hl1 : s1.length ≤ 30 := by rw [hs1, putL_length]; omega
     have HP1 := Lib.hid (put_lm w4 (P : Int) a c bs LS.out.bars (by omega) x v s1 hs1)
     have HS2 := Lib.hid hs2
     rw [← hs1, ← hs2] at LGE
     clear hs1 hs2
     go_wp2_with fail
     clear zB fB0 fB1
     refine HP1.out.mono ?_
     rintro e w5 ⟨a5, c5, rfl, ob5, bb5⟩
     have HP2 := Lib.hid (put_lm w5 (P : Int) a5 c5 s1 (ownBars_at ob5) (by omega) z v s2 HS2.out)
     have hzz := LS.out.bx.1
     have hz5 := bb5.size
     replace LS := Lib.hid (LS.out.below bb5)
     clear HP1 ob5 bb5
     go_wp2_with fail
     refine HP2.out.mono ?_
     rintro e w6 ⟨a6, c6, rfl, ob6, bb6⟩
     replace LS := Lib.hid (LS.out.below bb6)
     have LF := Lib.hid (LS.out.set ob6 (by omega))
     obtain ⟨zB, fB0, fB1⟩ := LS.out.bx
     have q0 := LS.out.f0
     have q1 := LS.out.f1
     clear HP2 ob6 bb6
     go_wp2_with fail
     go_roundw
     case rel => exact ⟨v + 1, a6, c6, s2, by omega, by omega, by go_num, LF.out, LGE.out⟩
     case measure => simp [intOf]; omega
    ·obtain ⟨zB, fB0, fB1⟩ := LS.out.bx
     obtain ⟨s1, hs1⟩ : ∃ q, q = putL bs (x, (v : Int)) := ⟨_, rfl⟩
     obtain ⟨s2, hs2⟩ : ∃ q, q = putL s1 (z, (v : Int)) := ⟨_, rfl⟩
     have hl1 : s1.length ≤ 30 := by rw [hs1, putL_length]; omega
     have HP1 := Lib.hid (put_lm w4 (P : Int) a c bs LS.out.bars (by omega) x v s1 hs1)
     have HS2 := Lib.hid hs2
     rw [← hs1, ← hs2] at LGE
     clear hs1 hs2
     go_wp2_with fail
     clear zB fB0 fB1
     refine HP1.out.mono ?_
     rintro e w5 ⟨a5, c5, rfl, ob5, bb5⟩
     have HP2 := Lib.hid (put_lm w5 (P : Int) a5 c5 s1 (ownBars_at ob5) (by omega) z v s2 HS2.out)
     have hzz := LS.out.bx.1
     have hz5 := bb5.size
     replace LS := Lib.hid (LS.out.below bb5)
     clear HP1 ob5 bb5
     go_wp2_with fail
     refine HP2.out.mono ?_
     rintro e w6 ⟨a6, c6, rfl, ob6, bb6⟩
     replace LS := Lib.hid (LS.out.below bb6)
     have LF := Lib.hid (LS.out.set ob6 (by omega))
     obtain ⟨zB, fB0, fB1⟩ := LS.out.bx
     have q0 := LS.out.f0
     have q1 := LS.out.f1
     clear HP2 ob6 bb6
     go_wp2_with fail
     go_roundw
     case rel => exact ⟨v + 1, a6, c6, s2, by omega, by omega, by go_num, LF.out, LGE.out⟩
     case measure => simp [intOf]; omega
  ·have hvi : ¬ (v : Int) < (P : Int) := by omega
   obtain rfl : v = P := by omega
   obtain ⟨zB, fB0, fB1⟩ := LS.out.bx
   obtain ⟨⟨z1, z2, z3, c0, c1x⟩, ⟨f0, f1⟩, gz⟩ := LS.out.rz
   have HF := Lib.hid LS.out.fin
   go_wp2_with fail
   refine bodyPost_ret (v := .agg #[.int .i64 (v : Int), .slice a bs.length c]) (by simp [results, Tryz.results114, go_sem, gz, c0, c1x]) rfl ?_
   exact ⟨(v : Int), a, c, bs, rfl, HF.out.1, ⟨rfl, LG.out.g, by have := LG.out.hi; omega, by first | exact LG.out.lo | exact fun _ => LG.out.lo⟩, HF.out.2.1, HF.out.2.2⟩
end Go.Proofs.YtfbmpkdjhhcnpaaGreat

