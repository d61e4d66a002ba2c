/- AddBar of the reference. Conditions: a valid graph, points in range. -/
import Derived.Test.YtfbmpkdjhhcnpaaGreatSnP22
import Derived.Lib.MinMax
import Derived.Test.YtfbmpkdjhhcnpaaGreatSnQ04
import Derived.Test.YtfbmpkdjhhcnpaaGreatSnP07
import Derived.Deep.QuietTactic
import Derived.BigQuiet
namespace Go.Proofs.YtfbmpkdjhhcnpaaGreat
open Go.RowKit
set_option maxRecDepth 100000
set_option linter.unusedVariables false
set_option linter.unusedSimpArgs false
def addL (l : List BarT) (a b : Int) : List BarT := if ¬ a = b ∧ l.length < 24 then putL l (min a b, max a b) else l
def RetAdd (W : World) (p : Int) (bs : List BarT) (e : Ending) (w' : World) : Prop := ∃ v b, e = .returned (.tuple #[v, .bool b]) ∧ OwnGraph w' W.heap.size v (p, bs) ∧ Below W.heap.size W w'
set_option maxHeartbeats 8000000 in
theorem specAdd_at (W : World) (p : Int) (a : Option Addr) (cap : Nat) (l : List BarT) (h : BarsAt W a l.length l) (hs : l.length ≤ 1048576) (hg : isGraphB (p, l) = true) (x y : Int) (hx : 0 ≤ x ∧ x < p) (hy : 0 ≤ y ∧ y < p) : Calls Tryz.prog 115 #[.agg #[.int .i64 p, .slice a l.length cap], .int .i64 x, .int .i64 y] W (RetAdd W p (addL l x y)) := by
 have hwd := @Wd.cells
 have HGr : Hid (IsGraph W (.agg #[.int .i64 p, .slice a l.length cap]) (p, l)) := Lib.hid ⟨a, cap, rfl, h⟩
 have H1 := Lib.hid h
 clear h
 have hsz : szGraph (p, l) ≤ 1048576 := hs
 have hsz2 : szGraph (p, l) ≤ 1099511627776 := Nat.le_trans hsz (by decide)
 have B : Below W.heap.size W (W.alloc (.cells #[.int .i64 p, .slice a l.length cap] 26)) := (Below.refl _ _).alloc (Nat.le_refl _) _
 have BG : Hid (BoxGr (W.alloc (.cells #[.int .i64 p, .slice a l.length cap] 26)) W.heap.size p a l.length cap) := Lib.hid (BoxGr.at rfl)
 have HG := Lib.hid hg
 clear hg
 have HZ : Hid (Zer2 ((W.alloc (.cells #[.int .i64 p, .slice a l.length cap] 26)).alloc (.cells #[.int .i64 0, .slice none 0 0] 26)) (W.heap.size + 1)) := Lib.hid (by have := Zer2.at (W.alloc (.cells #[.int .i64 p, .slice a l.length cap] 26)) 26; rwa [World.size_alloc] at this)
 have ba := belAl (W.alloc (.cells #[.int .i64 p, .slice a l.length cap] 26)) (.cells #[.int .i64 0, .slice none 0 0] 26)
 have hz : W.heap.size + 2 ≤ ((W.alloc (.cells #[.int .i64 p, .slice a l.length cap] 26)).alloc (.cells #[.int .i64 0, .slice none 0 0] 26)).heap.size := by simp
 replace B := B.step ba
 replace BG := Lib.hid (BG.out.below ba)
 clear ba
 have d1 : ¬ x < 0 := by omega
 have d2 : ¬ y < 0 := by omega
 have d3 : ¬ p ≤ x := by omega
 have d4 : ¬ p ≤ y := by omega
 obtain ⟨bs, hbs⟩ : ∃ bs, bs = addL l x y := ⟨_, rfl⟩
 rw [← hbs]
 have HBS := Lib.hid hbs
 clear hbs
 go_enter Tryz.func115, Tryz.ntmps115
 go_upto_region 1 with (fail)
 generalize ((W.alloc (.cells #[.int .i64 p, .slice a l.length cap] 26)).alloc (.cells #[.int .i64 0, .slice none 0 0] 26)) = u at *
 obtain ⟨zBG, fBG0, fBG1⟩ := BG.out
 go_wp2_with fail
 clear zBG fBG0 fBG1
 refine (specIsGraph_at u p a cap l (H1.out.below B) (by omega)).mono ?_
 rintro e w1 ⟨rfl, b1⟩
 rw [HG.out]
 have hz1 := b1.size
 have B1 := B.step b1
 have BG1 := Lib.hid (BG.out.below b1)
 have Z1 := Lib.hid (HZ.out.below b1)
 have HI1 := Lib.hid (H1.out.below B1)
 clear b1 B BG HZ
 obtain ⟨zBG, fBG0, fBG1⟩ := BG1.out
 have HCOPY : Hid (∀ bs, bs = l → Calls Tryz.prog 78 #[.agg #[.int .i64 p, .slice a l.length cap]] w1 (RetGraph w1 (p, bs))) := Lib.hid fun bs e => by rw [e]; exact specCpG_at w1 p a cap l.length l HI1.out (by omega)
 have HPUT : Hid (∀ bs, bs = putL l (min x y, max x y) → Calls Tryz.prog 98 #[.agg #[.int .i64 p, .slice a l.length cap], .agg #[.int .i64 (min x y), .int .i64 (max x y)]] w1 (RetGraph w1 (p, bs))) := Lib.hid fun bs e => by rw [e]; exact l2Put_at w1 p a cap l HI1.out (by omega) _ _
 by_cases hxy : x = y
 ·have hbe : (x == y) = true := by rw [hxy]; exact beq_self_eq_true y
  have hcp := HCOPY.out bs (by rw [HBS.out]; unfold addL; rw [if_neg fun h => h.1 hxy])
  have HCP := Lib.hid hcp
  clear hcp HCOPY HPUT hxy
  go_wp2_with fail
  clear zBG fBG0 fBG1
  refine HCP.out.mono ?_
  rintro e w2 ⟨v2, rfl, o2, b⟩
  obtain ⟨vb, ⟨a2, c2, rfl, rfl⟩, ob⟩ := o2
  dsimp only at ob
  have hzb := b.size
  replace B1 := B1.step b
  replace Z1 := Lib.hid (Z1.out.below b)
  have HLD := Lib.hid (laid2 (p := p) (g := W.heap.size + 1) ob (by omega) (by omega) (by omega) B1)
  clear b ob HCP
  obtain ⟨⟨r0, r1, r2, q0, q1⟩, ⟨y0, y1⟩, zg⟩ := Z1.out
  go_wp2_with fail
  refine bodyPost_ret (v := .tuple #[.agg #[.int .i64 p, .slice a2 bs.length c2], .bool false]) (by simp [results, Tryz.results115, go_sem, zg, q0, q1]) rfl ?_
  exact ⟨_, _, rfl, HLD.out.1, HLD.out.2⟩
 have hbe : (x == y) = false := by simpa using hxy
 by_cases h24 : l.length < 24
 ·have h24i : ¬ (24 : Int) ≤ (l.length : Int) := by omega
  have hcp := HPUT.out bs (by rw [HBS.out]; unfold addL; rw [if_pos ⟨hxy, h24⟩])
  have HCP := Lib.hid hcp
  clear hcp HCOPY HPUT
  go_wp2_with fail
  clear zBG fBG0 fBG1
  refine HCP.out.mono ?_
  rintro e w2 ⟨v2, rfl, o2, b⟩
  obtain ⟨vb, ⟨a2, c2, rfl, rfl⟩, ob⟩ := o2
  dsimp only at ob
  have hzb := b.size
  replace B1 := B1.step b
  replace Z1 := Lib.hid (Z1.out.below b)
  have HLD := Lib.hid (laid2 (p := p) (g := W.heap.size + 1) ob (by omega) (by omega) (by omega) B1)
  clear b ob HCP
  obtain ⟨⟨r0, r1, r2, q0, q1⟩, ⟨y0, y1⟩, zg⟩ := Z1.out
  go_wp2_with fail
  refine bodyPost_ret (v := .tuple #[.agg #[.int .i64 p, .slice a2 bs.length c2], .bool true]) (by simp [results, Tryz.results115, go_sem, zg, q0, q1]) rfl ?_
  exact ⟨_, _, rfl, HLD.out.1, HLD.out.2⟩
 ·have h24i : (24 : Int) ≤ (l.length : Int) := by omega
  have hcp := HCOPY.out bs (by rw [HBS.out]; unfold addL; rw [if_neg fun h => h24 h.2])
  have HCP := Lib.hid hcp
  clear hcp HCOPY HPUT
  go_wp2_with fail
  clear zBG fBG0 fBG1
  refine HCP.out.mono ?_
  rintro e w2 ⟨v2, rfl, o2, b⟩
  obtain ⟨vb, ⟨a2, c2, rfl, rfl⟩, ob⟩ := o2
  dsimp only at ob
  have hzb := b.size
  replace B1 := B1.step b
  replace Z1 := Lib.hid (Z1.out.below b)
  have HLD := Lib.hid (laid2 (p := p) (g := W.heap.size + 1) ob (by omega) (by omega) (by omega) B1)
  clear b ob HCP
  obtain ⟨⟨r0, r1, r2, q0, q1⟩, ⟨y0, y1⟩, zg⟩ := Z1.out
  go_wp2_with fail
  refine bodyPost_ret (v := .tuple #[.agg #[.int .i64 p, .slice a2 bs.length c2], .bool false]) (by simp [results, Tryz.results115, go_sem, zg, q0, q1]) rfl ?_
  exact ⟨_, _, rfl, HLD.out.1, HLD.out.2⟩
def addX (p : Int) (l : List BarT) (x y : Int) : List BarT := if isGraphB (p, l) = true then addL l x y else l
theorem addX_len {p : Int} {l : List BarT} {x y : Int} (h : l.length ≤ 24) : (addX p l x y).length ≤ 24 := by
 unfold addX addL
 split
 ·split
  ·rw [putL_length]; omega
  ·exact h
 ·exact h
set_option maxHeartbeats 8000000 in
theorem specAddX_at (W : World) (p : Int) (a : Option Addr) (cap : Nat) (l : List BarT) (h : BarsAt W a l.length l) (hs : l.length ≤ 1048576) (x y : Int) (hx : 0 ≤ x ∧ x < p) (hy : 0 ≤ y ∧ y < p) : Calls Tryz.prog 115 #[.agg #[.int .i64 p, .slice a l.length cap], .int .i64 x, .int .i64 y] W (RetAdd W p (addX p l x y)) := by
 cases hg : isGraphB (p, l)
 rotate_left
 ·have := specAdd_at W p a cap l h hs hg x y hx hy
  unfold addX
  rw [if_pos hg]
  exact this
 have he : addX p l x y = l := by unfold addX; rw [hg]; rfl
 rw [he]
 have hwd := @Wd.cells
 have HGr : Hid (IsGraph W (.agg #[.int .i64 p, .slice a l.length cap]) (p, l)) := Lib.hid ⟨a, cap, rfl, h⟩
 have H1 := Lib.hid h
 clear h
 have hsz : szGraph (p, l) ≤ 1048576 := hs
 have hsz2 : szGraph (p, l) ≤ 1099511627776 := Nat.le_trans hsz (by decide)
 have B : Below W.heap.size W (W.alloc (.cells #[.int .i64 p, .slice a l.length cap] 26)) := (Below.refl _ _).alloc (Nat.le_refl _) _
 have BG : Hid (BoxGr (W.alloc (.cells #[.int .i64 p, .slice a l.length cap] 26)) W.heap.size p a l.length cap) := Lib.hid (BoxGr.at rfl)
 have HG := Lib.hid hg
 clear hg he
 have HZ : Hid (Zer2 ((W.alloc (.cells #[.int .i64 p, .slice a l.length cap] 26)).alloc (.cells #[.int .i64 0, .slice none 0 0] 26)) (W.heap.size + 1)) := Lib.hid (by have := Zer2.at (W.alloc (.cells #[.int .i64 p, .slice a l.length cap] 26)) 26; rwa [World.size_alloc] at this)
 have ba := belAl (W.alloc (.cells #[.int .i64 p, .slice a l.length cap] 26)) (.cells #[.int .i64 0, .slice none 0 0] 26)
 have hz : W.heap.size + 2 ≤ ((W.alloc (.cells #[.int .i64 p, .slice a l.length cap] 26)).alloc (.cells #[.int .i64 0, .slice none 0 0] 26)).heap.size := by simp
 replace B := B.step ba
 replace BG := Lib.hid (BG.out.below ba)
 clear ba
 go_enter Tryz.func115, Tryz.ntmps115
 go_upto_region 1 with (fail)
 generalize ((W.alloc (.cells #[.int .i64 p, .slice a l.length cap] 26)).alloc (.cells #[.int .i64 0, .slice none 0 0] 26)) = u at *
 obtain ⟨zBG, fBG0, fBG1⟩ := BG.out
 go_wp2_with fail
 clear zBG fBG0 fBG1
 refine (specIsGraph_at u p a cap l (H1.out.below B) (by omega)).mono ?_
 rintro e w1 ⟨rfl, b1⟩
 rw [HG.out]
 have hz1 := b1.size
 have B1 := B.step b1
 have BG1 := Lib.hid (BG.out.below b1)
 have Z1 := Lib.hid (HZ.out.below b1)
 have HI1 := Lib.hid (H1.out.below B1)
 clear b1 B BG HZ
 obtain ⟨zBG, fBG0, fBG1⟩ := BG1.out
 go_wp2_with fail
 clear zBG fBG0 fBG1
 refine (specCpG_at w1 p a cap l.length l HI1.out (by omega)).mono ?_
 rintro e w2 ⟨v2, rfl, o2, b⟩
 obtain ⟨vb, ⟨a2, c2, rfl, rfl⟩, ob⟩ := o2
 dsimp only at ob
 have hzb := b.size
 replace B1 := B1.step b
 replace Z1 := Lib.hid (Z1.out.below b)
 have HLD := Lib.hid (laid2 (p := p) (g := W.heap.size + 1) ob (by omega) (by omega) (by omega) B1)
 clear b ob
 obtain ⟨⟨r0, r1, r2, q0, q1⟩, ⟨y0, y1⟩, zg⟩ := Z1.out
 go_wp2_with fail
 refine bodyPost_ret (v := .tuple #[.agg #[.int .i64 p, .slice a2 l.length c2], .bool false]) (by simp [results, Tryz.results115, go_sem, zg, q0, q1]) rfl ?_
 exact ⟨_, _, rfl, HLD.out.1, HLD.out.2⟩
structure LnS (W0 w0 w : World) (g gt : Nat) (ca : Option Addr) (n cap : Nat) (l : List Int) (p : Int) (a : Option Addr) (c : Nat) (bs : List BarT) : Prop where
 d : Drw W0 w g ca n cap l
 k : Kept (fun b => b = g) w0 w
 rz : Zer2 w w0.heap.size
 bx : BoxGr w gt p a bs.length c
 f0 : w.frozen? ⟨gt, 0, none⟩ = false
 f1 : w.frozen? ⟨gt, 1, none⟩ = false
 ob : OwnBars w (w0.heap.size + 1) (.slice a bs.length c) bs
 ne : (Value.slice a bs.length c).ownBlock ≠ some gt
 gl : g < w0.heap.size
 gg : w0.heap.size < gt
theorem LnS.below {W0 w0 w w' : World} {g gt : Nat} {ca : Option Addr} {n cap : Nat} {l : List Int} {p : Int} {a : Option Addr} {c : Nat} {bs : List BarT} (h : LnS W0 w0 w g gt ca n cap l p a c bs) (hb : Below w.heap.size w w') : LnS W0 w0 w' g gt ca n cap l p a c bs :=
 ⟨h.d.below hb, h.k.trans (Kept.of_below hb), h.rz.below hb, h.bx.below hb, ((bcell hb).2 _ _ h.bx.1).trans h.f0, ((bcell hb).2 _ _ h.bx.1).trans h.f1, h.ob.below hb, h.ne, h.gl, h.gg⟩
theorem LnS.draw {W0 w0 w w' : World} {g gt : Nat} {ca : Option Addr} {n cap : Nat} {l : List Int} {p : Int} {a : Option Addr} {c : Nat} {bs : List BarT} (h : LnS W0 w0 w g gt ca n cap l p a c bs) (hd : Drw W0 w' g ca n cap l) (hk : Kept (fun b => b = g) w w') : LnS W0 w0 w' g gt ca n cap l p a c bs := by
 have hg := h.gl
 have hgg := h.gg
 exact ⟨hd, h.k.trans hk, h.rz.kept hk (by omega), h.bx.kept hk (by omega), (hk.frozen h.bx.1 (by omega)).trans h.f0, (hk.frozen h.bx.1 (by omega)).trans h.f1, h.ob.on hk (by omega), h.ne, hg, hgg⟩
theorem LnS.set {W0 w0 w : World} {g gt lo : Nat} {ca : Option Addr} {n cap : Nat} {l : List Int} {p : Int} {a a' : Option Addr} {c c' : Nat} {bs bs' : List BarT} (h : LnS W0 w0 w g gt ca n cap l p a c bs) (ho : OwnBars w lo (.slice a' bs'.length c') bs') (hlo : gt < lo) :
  LnS W0 w0 ((w.setCell ⟨gt, 0, none⟩ (.int .i64 p)).setCell ⟨gt, 1, none⟩ (.slice a' bs'.length c')) g gt ca n cap l p a' c' bs' := by
 have hg := h.gl
 have hgg := h.gg
 have hlow := h.d.low
 have k2 : Kept (fun b => b = gt) w ((w.setCell ⟨gt, 0, none⟩ (.int .i64 p)).setCell ⟨gt, 1, none⟩ (.slice a' bs'.length c')) := (keptSet' (S := fun b => b = gt) rfl).trans (keptSet' (S := fun b => b = gt) rfl)
 obtain ⟨hz, c0, c1⟩ := h.bx
 have o01 : (⟨gt, 0, none⟩ : Addr) ≠ ⟨gt, 1, none⟩ := by simp
 exact ⟨h.d.kept k2 (by omega) (fun b hb => by omega), h.k.on k2 fun i h1 h2 => by omega, h.rz.kept k2 (by omega),
  ⟨by simpa using hz, (World.cell?_setCell_other _ _ _ _ o01.symm).trans (World.cell?_setCell_same _ _ _ c0), World.cell?_setCell_same _ _ _ ((World.cell?_setCell_other _ _ _ _ o01).trans c1)⟩,
  (World.frozen?_setCell _ _ _ _).trans ((World.frozen?_setCell _ _ _ _).trans h.f0), (World.frozen?_setCell _ _ _ _).trans ((World.frozen?_setCell _ _ _ _).trans h.f1),
  ((ho.set (by show gt < lo; omega) _).set (by show gt < lo; omega) _).low (by omega), fun e => by have := (ho.lt _ e).1; omega, hg, hgg⟩
theorem LnS.setP {W0 w0 w : World} {g gt : Nat} {ca : Option Addr} {n cap : Nat} {l : List Int} {p q : Int} {a : Option Addr} {c : Nat} {bs : List BarT} (h : LnS W0 w0 w g gt ca n cap l p a c bs) :
  LnS W0 w0 (w.setCell ⟨gt, 0, none⟩ (.int .i64 q)) g gt ca n cap l q a c bs := by
 have hg := h.gl
 have hgg := h.gg
 have hlow := h.d.low
 have k2 : Kept (fun b => b = gt) w (w.setCell ⟨gt, 0, none⟩ (.int .i64 q)) := keptSet' (S := fun b => b = gt) rfl
 obtain ⟨hz, c0, c1⟩ := h.bx
 have o01 : (⟨gt, 0, none⟩ : Addr) ≠ ⟨gt, 1, none⟩ := by simp
 exact ⟨h.d.kept k2 (by omega) (fun b hb => by omega), h.k.on k2 fun i h1 h2 => by omega, h.rz.kept k2 (by omega),
  ⟨by simpa using hz, World.cell?_setCell_same _ _ _ c0, (World.cell?_setCell_other _ _ _ _ o01).trans c1⟩,
  (World.frozen?_setCell _ _ _ _).trans h.f0, (World.frozen?_setCell _ _ _ _).trans h.f1,
  k2.ownsRow h.ob fun b h1 h2 => h.ne (by rw [h1, h2]), h.ne, hg, hgg⟩
theorem LnS.app {W0 w0 w w' : World} {g gt : Nat} {ca : Option Addr} {n cap : Nat} {l : List Int} {p : Int} {a a' : Option Addr} {c c' : Nat} {bs bs' : List BarT} (h : LnS W0 w0 w g gt ca n cap l p a c bs) (ho : OwnBars w' (w0.heap.size + 1) (.slice a' bs'.length c') bs') (hk : Kept (fun k => some k = (Value.slice a bs.length c).ownBlock) w w') (ha : (Value.slice a' bs'.length c').ownBlock = (Value.slice a bs.length c).ownBlock ∨ ∀ b, (Value.slice a' bs'.length c').ownBlock = some b → w.heap.size ≤ b) :
  LnS W0 w0 (w'.setCell ⟨gt, 1, none⟩ (.slice a' bs'.length c')) g gt ca n cap l p a' c' bs' := by
 have hg := h.gl
 have hgg := h.gg
 have hlow := h.d.low
 have nlow : ∀ b, b < w0.heap.size + 1 → ¬ some b = (Value.slice a bs.length c).ownBlock := fun b hb e => by have := (h.ob.lt b e.symm).1; omega
 have ngt : ¬ some gt = (Value.slice a bs.length c).ownBlock := fun e => h.ne e.symm
 have ngt' : (Value.slice a' bs'.length c').ownBlock ≠ some gt := fun e => by
  rcases ha with h1 | h1
  ·exact h.ne (h1.symm.trans e)
  ·have := h1 _ e; have := h.bx.1; omega
 have ks : Kept (fun k => k = gt) w' (w'.setCell ⟨gt, 1, none⟩ (.slice a' bs'.length c')) := keptSet' (S := fun k => k = gt) rfl
 obtain ⟨hz, c0, c1⟩ := h.bx.kept hk ngt
 have o01 : (⟨gt, 0, none⟩ : Addr) ≠ ⟨gt, 1, none⟩ := by simp
 exact ⟨(h.d.kept hk (nlow _ (by omega)) fun b hb => nlow _ (by omega)).kept ks (by omega) (fun b hb => by omega), (h.k.on hk fun i hi e => absurd e (nlow i (by omega))).on ks fun i hi e => by omega, (h.rz.kept hk (nlow _ (by omega))).kept ks (by omega),
  ⟨by simpa using hz, (World.cell?_setCell_other _ _ _ _ o01.symm).trans c0, World.cell?_setCell_same _ _ _ c1⟩,
  (World.frozen?_setCell _ _ _ _).trans ((hk.frozen h.bx.1 ngt).trans h.f0), (World.frozen?_setCell _ _ _ _).trans ((hk.frozen h.bx.1 ngt).trans h.f1),
  ks.ownsRow ho fun b h1 h2 => ngt' (by rw [h1, h2]), ngt', hg, hgg⟩
theorem LnS.fin {W0 w0 w : World} {g gt : Nat} {ca : Option Addr} {n cap : Nat} {l : List Int} {p : Int} {a : Option Addr} {c : Nat} {bs : List BarT} (h : LnS W0 w0 w g gt ca n cap l p a c bs) :
  OwnBars ((w.setCell ⟨w0.heap.size, 0, none⟩ (.int .i64 p)).setCell ⟨w0.heap.size, 1, none⟩ (.slice a bs.length c)) w0.heap.size (.slice a bs.length c) bs ∧ Drw W0 ((w.setCell ⟨w0.heap.size, 0, none⟩ (.int .i64 p)).setCell ⟨w0.heap.size, 1, none⟩ (.slice a bs.length c)) g ca n cap l ∧ Kept (fun b => b = g) w0 ((w.setCell ⟨w0.heap.size, 0, none⟩ (.int .i64 p)).setCell ⟨w0.heap.size, 1, none⟩ (.slice a bs.length c)) := by
 have hg := h.gl
 have hlow := h.d.low
 have k2 : Kept (fun b => b = w0.heap.size) w ((w.setCell ⟨w0.heap.size, 0, none⟩ (.int .i64 p)).setCell ⟨w0.heap.size, 1, none⟩ (.slice a bs.length c)) := (keptSet' (S := fun b => b = w0.heap.size) rfl).trans (keptSet' (S := fun b => b = w0.heap.size) rfl)
 exact ⟨ownsRow_base (k2.ownsRow h.ob fun b h1 h2 => by have := (h.ob.lt b h1).1; omega) (by omega), h.d.kept k2 (by omega) (fun b hb => by omega), h.k.on k2 fun i h1 h2 => by omega⟩
theorem LnS.box {W0 w0 w : World} {g : Nat} {ca : Option Addr} {n cap : Nat} {l : List Int} {p : Int} {a : Option Addr} {c : Nat} {bs : List BarT} (hd : Drw W0 w g ca n cap l) (hk : Kept (fun b => b = g) w0 w) (hz : Zer2 w w0.heap.size) (ho : OwnBars w (w0.heap.size + 1) (.slice a bs.length c) bs) (hgl : g < w0.heap.size) (hlt : w0.heap.size < w.heap.size) :
  LnS W0 w0 (w.alloc (.cells #[.int .i64 p, .slice a bs.length c] 26)) g w.heap.size ca n cap l p a c bs := by
 have ba := belAl w (.cells #[.int .i64 p, .slice a bs.length c] 26)
 have hbx : BoxGr (w.alloc (.cells #[.int .i64 p, .slice a bs.length c] 26)) w.heap.size p a bs.length c := BoxGr.at rfl
 exact ⟨hd.below ba, hk.trans (Kept.of_below ba), hz.below ba, hbx, by simp [World.frozen?_alloc_new], by simp [World.frozen?_alloc_new], OwnBars.below ho ba, fun e => by have := (ho.lt _ e).2; omega, hgl, hlt⟩
set_option maxHeartbeats 16000000 in
theorem l2Graph_at (W0 w : World) (g : Nat) (ca : Option Addr) (n cap : Nat) (l : List Int) (hB : BytesAt W0 ca n l) (hn : n ≤ 1099511627776) (h : Drw W0 w g ca n cap l) :
  Calls Tryz.prog 107 #[.pointer (some ⟨g, 0, none⟩)] w (RetDg W0 w g ca n cap l fun p bs => (2 ≤ p ∧ p ≤ 6) ∧ bs.length ≤ 24) := by
 have HD : Hid (∀ (m : Int) w9, 1 ≤ m ∧ m ≤ 256 → Drw W0 w9 g ca n cap l → Calls Tryz.prog 88 #[.pointer (some ⟨g, 0, none⟩), .int .i64 m] w9 (RetDi W0 w9 g ca n cap l 0 (m - 1))) := Lib.hid fun m w9 hm h9 => l1Below_at W0 w9 g ca n cap l hB hn h9 m hm
 have HS : Hid (∀ (P : Nat) (odd : Int) w9, P ≤ 6 → Drw W0 w9 g ca n cap l → Calls Tryz.prog 140 #[.pointer (some ⟨g, 0, none⟩), .int .i64 P, .int .i64 odd] w9 (RetDg W0 w9 g ca n cap l fun p bs => p = (P : Int) ∧ BIn P 24 bs)) := Lib.hid fun P odd w9 hm h9 => l2Simple_at W0 w9 g ca n cap l hB hn h9 P (by omega) odd
 have ba := belAl w (.cells #[.int .i64 0, .slice none 0 0] 26)
 have Z := Lib.hid (Zer2.at w 26)
 have D := Lib.hid (h.below ba)
 have K := Lib.hid (Kept.of_below (S := fun b => b = g) ba)
 have hgw := h.hi
 have hzu : w.heap.size < (w.alloc (.cells #[.int .i64 0, .slice none 0 0] 26)).heap.size := by simp
 clear hB h ba
 go_enter Tryz.func107, Tryz.ntmps107
 go_wp2_with fail
 generalize (w.alloc (.cells #[.int .i64 0, .slice none 0 0] 26)) = u at *
 refine (HD.out 5 u (by decide) D.out).mono ?_
 rintro e w1 ⟨x, hx, rfl, d1, k1⟩
 replace D := Lib.hid d1
 replace K := Lib.hid (K.out.trans k1)
 replace Z := Lib.hid (Z.out.kept k1 (by omega))
 have hz1 := k1.size
 clear d1 k1
 have hwx := IntWalk.i64_in (2 + x) (by omega)
 go_wp2_with fail
 refine (HD.out 4 w1 (by decide) D.out).mono ?_
 rintro e w2 ⟨y, hy, rfl, d1, k1⟩
 replace D := Lib.hid d1
 replace K := Lib.hid (K.out.trans k1)
 replace Z := Lib.hid (Z.out.kept k1 (by omega))
 have hz2 := k1.size
 clear d1 k1
 have hwy := IntWalk.i64_in (5 + y) (by omega)
 obtain ⟨P, hP⟩ : ∃ P : Nat, 2 + x = P := ⟨(2 + x).toNat, by omega⟩
 have hP2 : 2 ≤ P ∧ P ≤ 6 := by omega
 rw [hP] at hwx
 go_wp2_with fail
 try rw [hP]
 clear hP hwx hx hwy
 refine (HS.out P (5 + y) w2 (by omega) D.out).mono ?_
 rintro e w3 ⟨p, a, c, bs, rfl, ob, ⟨rfl, hbl, -⟩, d1, k1⟩
 have LN := Lib.hid (LnS.box (p := (P : Int)) d1 (K.out.trans k1) (Z.out.kept k1 (by omega)) (OwnBars.low ob (by omega)) hgw (by have := k1.size; omega))
 clear d1 k1 ob D K Z hy
 go_wp2_with fail
 obtain ⟨gt, hgt⟩ : ∃ q, q = w3.heap.size := ⟨_, rfl⟩
 rw [← hgt] at LN
 try rw [← hgt]
 generalize (w3.alloc (.cells #[.int .i64 (P : Int), .slice a bs.length c] 26)) = w4 at *
 clear hgt hz1 hz2
 refine (HD.out 3 w4 (by decide) LN.out.d).mono ?_
 rintro e w5 ⟨x3, hx3, rfl, d1, k1⟩
 replace LN := Lib.hid (LN.out.draw d1 k1)
 clear d1 k1
 go_wp2_with fail
 refine (HD.out 2 w5 (by decide) LN.out.d).mono ?_
 rintro e w6 ⟨x2, hx2, rfl, d1, k1⟩
 replace LN := Lib.hid (LN.out.draw d1 k1)
 clear d1 k1
 obtain ⟨K3, hK3, hK4⟩ : ∃ K3 : Nat, x3 * x2 = (K3 : Int) ∧ K3 ≤ 2 := by
  have e1 : x2 = 0 ∨ x2 = 1 := by omega
  rcases e1 with rfl | rfl
  ·exact ⟨0, by omega, by omega⟩
  ·exact ⟨x3.toNat, by omega, by omega⟩
 have hwm := IntWalk.i64_in (K3 : Int) (by omega)
 go_wp2_with fail
 clear hK3 hwm hx3 hx2
 obtain ⟨wA, hwA⟩ : ∃ w9, w9 = w6 := ⟨_, rfl⟩
 subst hwA
 go_loopw [4] (fun i w9 => ∃ (k : Nat) (a : Option Addr) (c : Nat) (bs : List BarT), k ≤ 2 ∧ i = .int .i64 k ∧ LnS W0 w w9 g gt ca n cap l P a c bs ∧ bs.length ≤ 24) (fun i _ => (intOf i).toNat)
 case atStart => exact ⟨K3, a, c, bs, hK4, rfl, LN.out, hbl⟩
 case round =>
  clear LN hbl
  obtain ⟨k, a, c, bs, hk, rfl, hln, hbl⟩ := hrel
  have LN := Lib.hid hln
  clear hln
  by_cases hlt : 0 < k
  ·have hki : (0 : Int) < (k : Int) := by omega
   obtain ⟨zB, cB0, cB1⟩ := LN.out.bx
   go_wp2_with fail
   clear zB cB0 cB1
   refine (HD.out P wr (by omega) LN.out.d).mono ?_
   rintro e w7 ⟨x7, hx7, rfl, d1, k1⟩
   replace LN := Lib.hid (LN.out.draw d1 k1)
   clear d1 k1
   obtain ⟨zB, cB0, cB1⟩ := LN.out.bx
   go_wp2_with fail
   clear zB cB0 cB1
   refine (HD.out P w7 (by omega) LN.out.d).mono ?_
   rintro e w8 ⟨x8, hx8, rfl, d1, k1⟩
   replace LN := Lib.hid (LN.out.draw d1 k1)
   clear d1 k1
   obtain ⟨zB, cB0, cB1⟩ := LN.out.bx
   go_wp2_with fail
   clear zB cB0 cB1
   refine (specAddX_at w8 (P : Int) a c bs (ownBars_at LN.out.ob) (by omega) x7 x8 (by omega) (by omega)).mono ?_
   rintro e w9 ⟨v9, bo, rfl, ⟨vb, ⟨a9, c9, rfl, rfl⟩, ob9⟩, b9⟩
   dsimp only at ob9
   obtain ⟨s9, hs9⟩ : ∃ q, q = addX (P : Int) bs x7 x8 := ⟨_, rfl⟩
   have h24 : s9.length ≤ 24 := by rw [hs9]; exact addX_len hbl
   rw [← hs9] at ob9
   try rw [← hs9]
   clear hs9
   have hgt8 := LN.out.bx.1
   replace LN := Lib.hid (LN.out.below b9)
   have LN2 := Lib.hid (LN.out.set ob9 hgt8)
   obtain ⟨zB, cB0, cB1⟩ := LN.out.bx
   have q0 := LN.out.f0
   have q1 := LN.out.f1
   have hwk := IntWalk.i64_in ((k : Int) - 1) (by omega)
   clear b9 ob9 hgt8
   go_wp2_with fail
   go_roundw
   case rel => exact ⟨k - 1, a9, c9, s9, by omega, by go_num, LN2.out, h24⟩
   case measure => simp [intOf]; omega
  ·have hki : ¬ (0 : Int) < (k : Int) := by omega
   obtain ⟨zB, cB0, cB1⟩ := LN.out.bx
   obtain ⟨⟨z1, z2, z3, c0, c1⟩, ⟨f0, f1⟩, gz⟩ := LN.out.rz
   have HF := Lib.hid LN.out.fin
   go_wp2_with fail
   refine bodyPost_ret (v := .agg #[.int .i64 (P : Int), .slice a bs.length c]) (by simp [results, Tryz.results107, go_sem, gz, c0, c1]) rfl ?_
   exact ⟨(P : Int), a, c, bs, rfl, HF.out.1, ⟨by omega, hbl⟩, HF.out.2.1, HF.out.2.2⟩
theorem litBarT (w : World) (a b : Int) : BarsAt (w.alloc (.cells #[.int .i64 a, .int .i64 b] 70)) (some ⟨w.heap.size, 0, none⟩) 1 [(a, b)] :=
 ⟨rfl, fun k hk => by
  obtain rfl : k = 0 := by omega
  exact ⟨w.heap.size, 0, (a, b), rfl, by simp, rfl, by simp [World.cell?_alloc_new], by simp [World.cell?_alloc_new]⟩⟩
set_option maxHeartbeats 16000000 in
theorem l2Any_at (W0 w : World) (g : Nat) (ca : Option Addr) (n cap : Nat) (l : List Int) (hB : BytesAt W0 ca n l) (hn : n ≤ 1099511627776) (h : Drw W0 w g ca n cap l) :
  Calls Tryz.prog 57 #[.pointer (some ⟨g, 0, none⟩)] w (RetDg W0 w g ca n cap l fun p bs => bs.length ≤ 25) := by
 have HD : Hid (∀ (m : Int) w9, 1 ≤ m ∧ m ≤ 256 → Drw W0 w9 g ca n cap l → Calls Tryz.prog 88 #[.pointer (some ⟨g, 0, none⟩), .int .i64 m] w9 (RetDi W0 w9 g ca n cap l 0 (m - 1))) := Lib.hid fun m w9 hm h9 => l1Below_at W0 w9 g ca n cap l hB hn h9 m hm
 have HG : Hid (∀ w9, Drw W0 w9 g ca n cap l → Calls Tryz.prog 107 #[.pointer (some ⟨g, 0, none⟩)] w9 (RetDg W0 w9 g ca n cap l fun p bs => (2 ≤ p ∧ p ≤ 6) ∧ bs.length ≤ 24)) := Lib.hid fun w9 h9 => l2Graph_at W0 w9 g ca n cap l hB hn h9
 have HP : Hid (∀ w9, Drw W0 w9 g ca n cap l → ∀ base, g < base → ∀ v xs, OwnInts w9 base v xs → 1 ≤ xs.length → xs.length ≤ 256 → Calls Tryz.prog 108 #[.pointer (some ⟨g, 0, none⟩), v] w9 fun e w' => ∃ x, x ∈ xs ∧ e = .returned (.int .i64 x) ∧ Drw W0 w' g ca n cap l ∧ Kept (fun b => b = g) w9 w') := Lib.hid fun w9 h9 base hg v xs ho h1 h2 => l1PickInt_at W0 w9 g ca n cap l hB hn h9 hg ho h1 h2
 have ba := belAl w (.cells #[.int .i64 0, .slice none 0 0] 26)
 have Z := Lib.hid (Zer2.at w 26)
 have D := Lib.hid (h.below ba)
 have K := Lib.hid (Kept.of_below (S := fun b => b = g) ba)
 have hgw := h.hi
 have hzu : w.heap.size < (w.alloc (.cells #[.int .i64 0, .slice none 0 0] 26)).heap.size := by simp
 clear hB h ba
 go_enter Tryz.func57, Tryz.ntmps57
 go_wp2_with fail
 generalize (w.alloc (.cells #[.int .i64 0, .slice none 0 0] 26)) = u at *
 refine (HG.out u D.out).mono ?_
 rintro e w3 ⟨p, a, c, bs, rfl, ob, ⟨-, hbl⟩, d1, k1⟩
 have LN := Lib.hid (LnS.box (p := p) d1 (K.out.trans k1) (Z.out.kept k1 (by omega)) (OwnBars.low ob (by omega)) hgw (by have := k1.size; omega))
 clear d1 k1 ob D K Z
 go_wp2_with fail
 obtain ⟨gt, hgt⟩ : ∃ q, q = w3.heap.size := ⟨_, rfl⟩
 rw [← hgt] at LN
 try rw [← hgt]
 generalize (w3.alloc (.cells #[.int .i64 p, .slice a bs.length c] 26)) = w4 at *
 clear hgt
 refine (HD.out 16 w4 (by decide) LN.out.d).mono ?_
 rintro e w5 ⟨x, hx, rfl, d1, k1⟩
 replace LN := Lib.hid (LN.out.draw d1 k1)
 clear d1 k1
 cases h0 : (x == 0)
 ·cases h1 : (x == 1)
  ·obtain ⟨zB, cB0, cB1⟩ := LN.out.bx
   obtain ⟨⟨z1, z2, z3, c0, c1⟩, ⟨f0, f1⟩, gz⟩ := LN.out.rz
   have HF := Lib.hid LN.out.fin
   go_wp2_with fail
   refine bodyPost_ret (v := .agg #[.int .i64 p, .slice a bs.length c]) (by simp [results, Tryz.results57, go_sem, gz, c0, c1]) rfl ?_
   exact ⟨p, a, c, bs, rfl, HF.out.1, by omega, HF.out.2.1, HF.out.2.2⟩
  ·obtain ⟨zB, cB0, cB1⟩ := LN.out.bx
   go_wp2_with fail
   clear zB cB0 cB1
   have FD := Lib.hid (LN.out.below (w' := w5.drew) (Below.refl _ _).drew)
   have s0 : w5.drew.cell? ⟨gt, 1, none⟩ = some (.slice a bs.length c) ∧ True := ⟨FD.out.bx.2.2, trivial⟩
   refine wp_regionZ (fun w' => w'.cell? ⟨gt, 1, none⟩ = some (.slice a bs.length c) ∧ True) 10 (by kernel_rfl) ?_
   clear LN
   generalize w5.drew = wd at *
   refine wpAnyZ_takeC (i := 0) (v := ?_) [10] rfl (by kernel_rfl) (by kernel_rfl) (by kernel_rfl) (by kernel_rfl) (by kernel_rfl) (by kernel_rfl) (fun _ _ _ h => h) (s0) (by rfl) ?_ ?_
   rotate_left
   · intro x hx; obtain ⟨u1, u2⟩ := hx; go_simp; try (with_reducible rfl)
   try simp only [Act.put, List.setIfInBounds_toArray, List.set_cons_zero, List.set_cons_succ, List.getElem_toArray, List.getElem_cons_zero, List.getElem_cons_succ]
   refine wpAnyZ_takeC (i := 1) (v := ?_) [10] rfl (by kernel_rfl) (by kernel_rfl) (by kernel_rfl) (by kernel_rfl) (by kernel_rfl) (by kernel_rfl) (fun _ _ _ h => h) (s0) (by rfl) ?_ ?_
   rotate_left
   · intro x hx; obtain ⟨u1, u2⟩ := hx; go_simp; try (with_reducible rfl)
   try simp only [Act.put, List.setIfInBounds_toArray, List.set_cons_zero, List.set_cons_succ, List.getElem_toArray, List.getElem_cons_zero, List.getElem_cons_succ]
   refine wpAnyZ_takeC (i := 2) (v := ?_) [10] rfl (by kernel_rfl) (by kernel_rfl) (by kernel_rfl) (by kernel_rfl) (by kernel_rfl) (by kernel_rfl) (fun _ _ _ h => h) (s0) (by rfl) ?_ ?_
   rotate_left
   · intro x hx; obtain ⟨u1, u2⟩ := hx; go_simp; try (with_reducible rfl)
   try simp only [Act.put, List.setIfInBounds_toArray, List.set_cons_zero, List.set_cons_succ, List.getElem_toArray, List.getElem_cons_zero, List.getElem_cons_succ]
   refine wpAnyZ_takeC (i := 4) (v := ?_) [10] rfl (by kernel_rfl) (by kernel_rfl) (by kernel_rfl) (by kernel_rfl) (by kernel_rfl) (by kernel_rfl) (fun _ _ _ h => h) (s0) (by rfl) ?_ ?_
   rotate_left
   · intro x hx; obtain ⟨u1, u2⟩ := hx; go_simp; try (with_reducible rfl)
   try simp only [Act.put, List.setIfInBounds_toArray, List.set_cons_zero, List.set_cons_succ, List.getElem_toArray, List.getElem_cons_zero, List.getElem_cons_succ]
   refine wpAnyZ_step (i := 3) (by kernel_rfl) rfl (by rfl) ?_
   intro KK hKK
   go_simp
   go_at_call 88
   refine (HD.out 3 wd (by decide) FD.out.d).mono ?_
   rintro e w6 ⟨x6, hx6, rfl, d1, k1⟩
   have F6 := Lib.hid (FD.out.draw d1 k1)
   clear d1 k1 FD s0
   have s6 : w6.cell? ⟨gt, 1, none⟩ = some (.slice a bs.length c) ∧ True := ⟨F6.out.bx.2.2, trivial⟩
   go_wp2_with fail
   refine hKK.out _ _ (.inr s6) ?_
   clear hKK KK
   try simp only [Act.put, List.setIfInBounds_toArray, List.set_cons_zero, List.set_cons_succ, List.getElem_toArray, List.getElem_cons_zero, List.getElem_cons_succ]
   refine wpAnyZ_step (i := 5) (by kernel_rfl) rfl (by rfl) ?_
   intro KK hKK
   go_simp
   go_at_call 88
   refine (HD.out 9 w6 (by decide) F6.out.d).mono ?_
   rintro e w7 ⟨x7, hx7, rfl, d1, k1⟩
   have F7 := Lib.hid (F6.out.draw d1 k1)
   clear d1 k1 F6 s6
   have s7 : w7.cell? ⟨gt, 1, none⟩ = some (.slice a bs.length c) ∧ True := ⟨F7.out.bx.2.2, trivial⟩
   go_wp2_with fail
   refine hKK.out _ _ (.inr s7) ?_
   clear hKK KK
   try simp only [Act.put, List.setIfInBounds_toArray, List.set_cons_zero, List.set_cons_succ, List.getElem_toArray, List.getElem_cons_zero, List.getElem_cons_succ]
   refine wpAnyZ_step (i := 6) (by kernel_rfl) rfl (by rfl) ?_
   intro KK hKK
   go_simp
   refine hKK.out _ _ (.inr s7) ?_
   clear hKK KK
   try simp only [Act.put, List.setIfInBounds_toArray, List.set_cons_zero, List.set_cons_succ, List.getElem_toArray, List.getElem_cons_zero, List.getElem_cons_succ]
   have bl := belAl w7 (.cells #[.int .i64 x6, .int .i64 x7] 70)
   have F8 := Lib.hid (F7.out.below bl)
   have HLI := Lib.hid (litBarT w7 x6 x7)
   have s8 : (w7.alloc (.cells #[.int .i64 x6, .int .i64 x7] 70)).cell? ⟨gt, 1, none⟩ = some (.slice a bs.length c) ∧ True := ⟨F8.out.bx.2.2, trivial⟩
   clear bl F7
   refine wpAnyZ_step (i := 7) (by kernel_rfl) rfl (by rfl) ?_
   intro KK hKK
   go_simp
   refine hKK.out _ _ (.inr s8) ?_
   clear hKK KK
   try simp only [Act.put, List.setIfInBounds_toArray, List.set_cons_zero, List.set_cons_succ, List.getElem_toArray, List.getElem_cons_zero, List.getElem_cons_succ]
   have hz8 := F8.out.d.bel.size
   have hgg := F8.out.gg
   have hgt8 := F8.out.bx.1
   refine wpAnyZ_step (i := 8) (by kernel_rfl) rfl (by rfl) ?_
   intro KK hKK
   refine stepAppBars (by rfl) _ _ (by rfl) (by rfl) F8.out.ob (by rfl) HLI.out (by omega) (by omega) ?_
   intro v9 w9 h9 k9 a9
   obtain ⟨av, cv, rfl, -⟩ := h9.form
   have F9 := Lib.hid (F8.out.app h9 k9 (a9.imp id fun e b hb => by rw [e] at hb; exact Nat.le_of_eq (Option.some.inj hb)))
   have ngt : ¬ some gt = (Value.slice a bs.length c).ownBlock := fun e => F8.out.ne e.symm
   have s9 : w9.cell? ⟨gt, 1, none⟩ = some (.slice a bs.length c) ∧ True := ⟨(k9.cell hgt8 ngt).trans F8.out.bx.2.2, trivial⟩
   have f9 : w9.frozen? ⟨gt, 1, none⟩ = false := (k9.frozen hgt8 ngt).trans F8.out.f1
   clear h9 k9 a9 F8 HLI ngt s8 s7
   refine hKK.out _ _ (.inr s9) ?_
   clear hKK KK
   try simp only [Act.put, List.setIfInBounds_toArray, List.set_cons_zero, List.set_cons_succ, List.getElem_toArray, List.getElem_cons_zero, List.getElem_cons_succ]
   refine wpAnyZ_step (i := 9) (by kernel_rfl) rfl (by rfl) ?_
   intro KK hKK
   go_simp
   refine hKK.out _ _ (.inr s9) ?_
   clear hKK KK
   try simp only [Act.put, List.setIfInBounds_toArray, List.set_cons_zero, List.set_cons_succ, List.getElem_toArray, List.getElem_cons_zero, List.getElem_cons_succ]
   obtain ⟨c9, -⟩ := s9
   refine wpAnyZ_step (i := 10) (by kernel_rfl) rfl (by rfl) ?_
   intro KK hKK
   go_simp
   refine hKK.out _ _ (.inl (by kernel_rfl)) ?_
   clear hKK KK
   try simp only [Act.put, List.setIfInBounds_toArray, List.set_cons_zero, List.set_cons_succ, List.getElem_toArray, List.getElem_cons_zero, List.getElem_cons_succ]
   refine wpAnyZ_done (by kernel_rfl) ?_ _
   clear c9 f9
   have F10 := F9.out
   rw [show (bs ++ [(x6, x7)]).length = bs.length + 1 by simp] at F10
   obtain ⟨zB, cB0, cB1⟩ := F10.bx
   obtain ⟨⟨z1, z2, z3, c0, c1⟩, ⟨f0, f1⟩, gz⟩ := F10.rz
   have HF := Lib.hid F9.out.fin
   rw [show (bs ++ [(x6, x7)]).length = bs.length + 1 by simp] at HF
   clear F9 F10
   go_wp2_with fail
   refine bodyPost_ret (v := .agg #[.int .i64 p, .slice av (bs.length + 1) cv]) (by simp [results, Tryz.results57, go_sem, gz, c0, c1]) rfl ?_
   exact ⟨p, av, cv, bs ++ [(x6, x7)], by simp, by rw [show (bs ++ [(x6, x7)]).length = bs.length + 1 by simp]; exact HF.out.1, by simp; omega, HF.out.2.1, HF.out.2.2⟩
 ·obtain ⟨zB, cB0, cB1⟩ := LN.out.bx
  go_wp2_with fail
  have bl := belAl w5 (.cells #[.int .i64 0, .int .i64 (-1), .int .i64 9, .int .i64 3] 3)
  have HLIT : Hid (OwnInts (w5.alloc (.cells #[.int .i64 0, .int .i64 (-1), .int .i64 9, .int .i64 3] 3)) w5.heap.size (.slice (some ⟨w5.heap.size, 0, none⟩) 4 4) [0, -1, 9, 3]) := Lib.hid ⟨by simp, .inr ⟨w5.heap.size, 4, _, rfl, Nat.le_refl _, heap_alloc_new w5 _, Nat.le_refl _, by decide, rfl, by simp⟩⟩
  have hg5 : g < w5.heap.size := LN.out.d.hi
  replace LN := Lib.hid (LN.out.below bl)
  clear bl zB cB0 cB1
  refine (HP.out _ LN.out.d _ hg5 _ _ HLIT.out (by simp) (by simp)).mono ?_
  rintro e w7 ⟨z, -, rfl, d7, k7⟩
  replace LN := Lib.hid (LN.out.draw d7 k7)
  have LN2 := Lib.hid (LN.out.setP (q := z))
  have q0 := LN.out.f0
  obtain ⟨zB, cB0, cB1⟩ := LN.out.bx
  obtain ⟨zC, cC0, cC1⟩ := LN2.out.bx
  obtain ⟨⟨z1, z2, z3, c0, c1⟩, ⟨f0, f1⟩, gz⟩ := LN2.out.rz
  have HF := Lib.hid LN2.out.fin
  clear d7 k7 HLIT LN LN2
  go_wp2_with fail
  refine bodyPost_ret (v := .agg #[.int .i64 z, .slice a bs.length c]) (by simp [results, Tryz.results57, go_sem, gz, c0, c1]) rfl ?_
  exact ⟨z, a, c, bs, rfl, HF.out.1, by omega, HF.out.2.1, HF.out.2.2⟩
theorem finG {W0 w0 w : World} {g : Nat} {ca : Option Addr} {n cap : Nat} {l : List Int} {p : Int} {a : Option Addr} {c : Nat} {bs : List BarT} (hd : Drw W0 w g ca n cap l) (hk : Kept (fun b => b = g) w0 w) (ho : OwnBars w (w0.heap.size + 1) (.slice a bs.length c) bs) (hg : g < w0.heap.size) :
  OwnBars ((w.setCell ⟨w0.heap.size, 0, none⟩ (.int .i64 p)).setCell ⟨w0.heap.size, 1, none⟩ (.slice a bs.length c)) w0.heap.size (.slice a bs.length c) bs ∧ Drw W0 ((w.setCell ⟨w0.heap.size, 0, none⟩ (.int .i64 p)).setCell ⟨w0.heap.size, 1, none⟩ (.slice a bs.length c)) g ca n cap l ∧ Kept (fun b => b = g) w0 ((w.setCell ⟨w0.heap.size, 0, none⟩ (.int .i64 p)).setCell ⟨w0.heap.size, 1, none⟩ (.slice a bs.length c)) := by
 have hlow := hd.low
 have k2 : Kept (fun b => b = w0.heap.size) w ((w.setCell ⟨w0.heap.size, 0, none⟩ (.int .i64 p)).setCell ⟨w0.heap.size, 1, none⟩ (.slice a bs.length c)) := (keptSet' (S := fun b => b = w0.heap.size) rfl).trans (keptSet' (S := fun b => b = w0.heap.size) rfl)
 exact ⟨ownsRow_base (k2.ownsRow ho fun b h1 h2 => by have := (ho.lt b h1).1; omega) (by omega), hd.kept k2 (by omega) (fun b hb => by omega), hk.on k2 fun i h1 h2 => by omega⟩
theorem LnS.setQ {W0 w0 w : World} {g gt lo : Nat} {ca : Option Addr} {n cap : Nat} {l : List Int} {p q : Int} {a a' : Option Addr} {c c' : Nat} {bs bs' : List BarT} (h : LnS W0 w0 w g gt ca n cap l p a c bs) (ho : OwnBars w lo (.slice a' bs'.length c') bs') (hlo : gt < lo) :
  LnS W0 w0 ((w.setCell ⟨gt, 0, none⟩ (.int .i64 q)).setCell ⟨gt, 1, none⟩ (.slice a' bs'.length c')) g gt ca n cap l q a' c' bs' := by
 have hg := h.gl
 have hgg := h.gg
 have hlow := h.d.low
 have k2 : Kept (fun b => b = gt) w ((w.setCell ⟨gt, 0, none⟩ (.int .i64 q)).setCell ⟨gt, 1, none⟩ (.slice a' bs'.length c')) := (keptSet' (S := fun b => b = gt) rfl).trans (keptSet' (S := fun b => b = gt) rfl)
 obtain ⟨hz, c0, c1⟩ := h.bx
 have o01 : (⟨gt, 0, none⟩ : Addr) ≠ ⟨gt, 1, none⟩ := by simp
 exact ⟨h.d.kept k2 (by omega) (fun b hb => by omega), h.k.on k2 fun i h1 h2 => by omega, h.rz.kept k2 (by omega),
  ⟨by simpa using hz, (World.cell?_setCell_other _ _ _ _ o01.symm).trans (World.cell?_setCell_same _ _ _ c0), World.cell?_setCell_same _ _ _ ((World.cell?_setCell_other _ _ _ _ o01).trans c1)⟩,
  (World.frozen?_setCell _ _ _ _).trans ((World.frozen?_setCell _ _ _ _).trans h.f0), (World.frozen?_setCell _ _ _ _).trans ((World.frozen?_setCell _ _ _ _).trans h.f1),
  ((ho.set (by show gt < lo; omega) _).set (by show gt < lo; omega) _).low (by omega), fun e => by have := (ho.lt _ e).1; omega, hg, hgg⟩
theorem nilBars (w : World) (base : Nat) : OwnBars w base (.slice none ([] : List BarT).length 0) [] := ⟨rfl, .inl ⟨rfl, rfl⟩⟩
theorem cutG_length' {l : List BarT} {k : Nat} (h : k < l.length) : (cutG l k).length ≤ l.length := by rw [cutG_length h]; omega
set_option maxHeartbeats 16000000 in
theorem l6Any_at (W0 w : World) (g : Nat) (ca : Option Addr) (n cap : Nat) (l : List Int) (hB : BytesAt W0 ca n l) (hn : n ≤ 1099511627776) (h : Drw W0 w g ca n cap l) :
  Calls Tryz.prog 74 #[.pointer (some ⟨g, 0, none⟩)] w (RetDg W0 w g ca n cap l fun p bs => bs.length ≤ 25) := by
 have HD : Hid (∀ (m : Int) w9, 1 ≤ m ∧ m ≤ 256 → Drw W0 w9 g ca n cap l → Calls Tryz.prog 88 #[.pointer (some ⟨g, 0, none⟩), .int .i64 m] w9 (RetDi W0 w9 g ca n cap l 0 (m - 1))) := Lib.hid fun m w9 hm h9 => l1Below_at W0 w9 g ca n cap l hB hn h9 m hm
 have HA : Hid (∀ w9, Drw W0 w9 g ca n cap l → Calls Tryz.prog 57 #[.pointer (some ⟨g, 0, none⟩)] w9 (RetDg W0 w9 g ca n cap l fun p bs => bs.length ≤ 25)) := Lib.hid fun w9 h9 => l2Any_at W0 w9 g ca n cap l hB hn h9
 have HLM : Hid (∀ (P : Nat) w9, 1 ≤ P ∧ P ≤ 6 → Drw W0 w9 g ca n cap l → Calls Tryz.prog 114 #[.pointer (some ⟨g, 0, none⟩), .int .i64 P] w9 (RetDg W0 w9 g ca n cap l fun p bs => p = (P : Int) ∧ isGraphB ((P : Int), bs) = true ∧ bs.length ≤ 18 ∧ (2 ≤ P → 1 ≤ bs.length))) := Lib.hid fun P w9 hP h9 => l6Laman_at W0 w9 g ca n cap l hB hn h9 P hP
 have ba := belAl w (.cells #[.int .i64 0, .slice none 0 0] 26)
 have Z := Lib.hid (Zer2.at w 26)
 have D := Lib.hid (h.below ba)
 have K := Lib.hid (Kept.of_below (S := fun b => b = g) ba)
 have hgw := h.hi
 have hzu : w.heap.size < (w.alloc (.cells #[.int .i64 0, .slice none 0 0] 26)).heap.size := by simp
 clear hB h ba
 go_enter Tryz.func74, Tryz.ntmps74
 go_wp2_with fail
 generalize (w.alloc (.cells #[.int .i64 0, .slice none 0 0] 26)) = u at *
 refine (HD.out 4 u (by decide) D.out).mono ?_
 rintro e w1 ⟨x, hx, rfl, d1, k1⟩
 replace D := Lib.hid d1
 replace K := Lib.hid (K.out.trans k1)
 replace Z := Lib.hid (Z.out.kept k1 (by omega))
 have hz1 := k1.size
 clear d1 k1
 cases h0 : (x == 0)
 rotate_left
 ·go_wp2_with fail
  refine (HA.out w1 D.out).mono ?_
  rintro e w3 ⟨p, a, c, bs, rfl, ob, hbl, d1, k1⟩
  have HF := Lib.hid (finG (p := p) d1 (K.out.trans k1) (OwnBars.low ob (by omega)) hgw)
  obtain ⟨⟨z1, z2, z3, c0, c1⟩, ⟨f0, f1⟩, gz⟩ := Z.out.kept k1 (by omega)
  clear d1 k1 ob D K Z
  go_wp2_with fail
  refine bodyPost_ret (v := .agg #[.int .i64 p, .slice a bs.length c]) (by simp [results, Tryz.results74, go_sem, gz, c0, c1]) rfl ?_
  exact ⟨p, a, c, bs, rfl, HF.out.1, by omega, HF.out.2.1, HF.out.2.2⟩
 cases h1 : (x == 1)
 rotate_left
 ·go_wp2_with fail
  refine (HD.out 5 w1 (by decide) D.out).mono ?_
  rintro e w2 ⟨y, hy, rfl, d1, k1⟩
  replace D := Lib.hid d1
  replace K := Lib.hid (K.out.trans k1)
  replace Z := Lib.hid (Z.out.kept k1 (by omega))
  have hz2 := k1.size
  clear d1 k1
  have hwx := IntWalk.i64_in (2 + y) (by omega)
  obtain ⟨P, hP⟩ : ∃ P : Nat, 2 + y = P := ⟨(2 + y).toNat, by omega⟩
  have hP2 : 2 ≤ P ∧ P ≤ 6 := by omega
  rw [hP] at hwx
  go_wp2_with fail
  try rw [hP]
  clear hP hwx hy
  refine (HLM.out P w2 (by omega) D.out).mono ?_
  rintro e w3 ⟨p, a, c, bs, rfl, ob, ⟨rfl, hgr, hbl, hb1⟩, d1, k1⟩
  have LN := Lib.hid (LnS.box (p := (P : Int)) d1 (K.out.trans k1) (Z.out.kept k1 (by omega)) (OwnBars.low ob (by omega)) hgw (by have := k1.size; omega))
  have hb1' := hb1 hP2.1
  have HGR := Lib.hid hgr
  clear d1 k1 ob D K Z hgr hb1
  go_wp2_with fail
  obtain ⟨gt, hgt⟩ : ∃ q, q = w3.heap.size := ⟨_, rfl⟩
  rw [← hgt] at LN
  try rw [← hgt]
  generalize (w3.alloc (.cells #[.int .i64 (P : Int), .slice a bs.length c] 26)) = w4 at *
  clear hgt hz1 hz2
  have HRM : Hid (∀ (k : Nat) w9, LnS W0 w w9 g gt ca n cap l P a c bs → k < bs.length → Calls Tryz.prog 101 #[.agg #[.int .i64 (P : Int), .slice a bs.length c], .int .i64 (k : Int)] w9 (RetGB w9 ((P : Int), cutG bs k) true)) := Lib.hid fun k w9 h9 hk => specRem_at w9 P a c bs (ownBars_at h9.ob) (by omega) HGR.out k hk (OwnBars.cap h9.ob).1 (OwnBars.cap h9.ob).2
  go_cut [4] (fun s wx => ∃ gx a' c' bs', s = .pointer (some ⟨gx, 0, none⟩) ∧ bs'.length ≤ 25 ∧ LnS W0 w wx g gx ca n cap l P a' c' bs')
  case first =>
   have F := Lib.hid (LN.out.below (w' := w4.drew) (Below.refl _ _).drew)
   have s0 : w4.drew.cell? ⟨gt, 0, none⟩ = some (.int .i64 (P : Int)) ∧ w4.drew.cell? ⟨gt, 1, none⟩ = some (.slice a bs.length c) ∧ True := ⟨F.out.bx.2.1, F.out.bx.2.2, trivial⟩
   refine wp_regionZ (fun w9 => w9.cell? ⟨gt, 0, none⟩ = some (.int .i64 (P : Int)) ∧ w9.cell? ⟨gt, 1, none⟩ = some (.slice a bs.length c) ∧ True) 12 (by kernel_rfl) ?_
   clear LN
   generalize w4.drew = wd at *
   have HLO : Hid (w.heap.size + 1 ≤ wd.heap.size) := Lib.hid (Nat.lt_trans F.out.gg F.out.bx.1)
   refine wpAnyZ_takeC (i := 0) (v := ?_) [12] rfl (by kernel_rfl) (by kernel_rfl) (by kernel_rfl) (by kernel_rfl) (by kernel_rfl) (by kernel_rfl) (fun _ _ _ h => h) (s0) (by rfl) ?_ ?_
   rotate_left
   · intro x hx; obtain ⟨u1, u2, u3⟩ := hx; go_simp; try (with_reducible rfl)
   try simp only [Act.put, List.setIfInBounds_toArray, List.set_cons_zero, List.set_cons_succ, List.getElem_toArray, List.getElem_cons_zero, List.getElem_cons_succ]
   refine wpAnyZ_takeC (i := 1) (v := ?_) [12] rfl (by kernel_rfl) (by kernel_rfl) (by kernel_rfl) (by kernel_rfl) (by kernel_rfl) (by kernel_rfl) (fun _ _ _ h => h) (s0) (by rfl) ?_ ?_
   rotate_left
   · intro x hx; obtain ⟨u1, u2, u3⟩ := hx; go_simp; try (with_reducible rfl)
   try simp only [Act.put, List.setIfInBounds_toArray, List.set_cons_zero, List.set_cons_succ, List.getElem_toArray, List.getElem_cons_zero, List.getElem_cons_succ]
   refine wpAnyZ_takeC (i := 2) (v := ?_) [12] rfl (by kernel_rfl) (by kernel_rfl) (by kernel_rfl) (by kernel_rfl) (by kernel_rfl) (by kernel_rfl) (fun _ _ _ h => h) (s0) (by rfl) ?_ ?_
   rotate_left
   · intro x hx; obtain ⟨u1, u2, u3⟩ := hx; go_simp; try (with_reducible rfl)
   try simp only [Act.put, List.setIfInBounds_toArray, List.set_cons_zero, List.set_cons_succ, List.getElem_toArray, List.getElem_cons_zero, List.getElem_cons_succ]
   refine wpAnyZ_takeC (i := 3) (v := ?_) [12] rfl (by kernel_rfl) (by kernel_rfl) (by kernel_rfl) (by kernel_rfl) (by kernel_rfl) (by kernel_rfl) (fun _ _ _ h => h) (s0) (by rfl) ?_ ?_
   rotate_left
   · intro x hx; obtain ⟨u1, u2, u3⟩ := hx; go_simp; try (with_reducible rfl)
   try simp only [Act.put, List.setIfInBounds_toArray, List.set_cons_zero, List.set_cons_succ, List.getElem_toArray, List.getElem_cons_zero, List.getElem_cons_succ]
   refine wpAnyZ_takeC (i := 4) (v := ?_) [12] rfl (by kernel_rfl) (by kernel_rfl) (by kernel_rfl) (by kernel_rfl) (by kernel_rfl) (by kernel_rfl) (fun _ _ _ h => h) (s0) (by rfl) ?_ ?_
   rotate_left
   · intro x hx; obtain ⟨u1, u2, u3⟩ := hx; go_simp; try (with_reducible rfl)
   try simp only [Act.put, List.setIfInBounds_toArray, List.set_cons_zero, List.set_cons_succ, List.getElem_toArray, List.getElem_cons_zero, List.getElem_cons_succ]
   refine wpAnyZ_node [5, 10] (by kernel_rfl) (by decide) ?_
   intro i hi
   simp only [List.mem_cons, List.not_mem_nil, or_false] at hi
   rcases hi with rfl | rfl
   ·refine ⟨_, rfl, by rfl, ?_⟩
    intro KK hKK
    go_simp
    go_at_call 88
    refine (HD.out (bs.length : Int) wd (by omega) F.out.d).mono ?_
    rintro e wb8 ⟨z, hz, rfl, d1, k1⟩
    replace F := Lib.hid (F.out.draw d1 k1)
    have hsz5 : wd.heap.size ≤ wb8.heap.size := k1.size
    clear d1 k1
    obtain ⟨K5, rfl⟩ : ∃ K5 : Nat, z = (K5 : Int) := ⟨z.toNat, by omega⟩
    have s1 : wb8.cell? ⟨gt, 0, none⟩ = some (.int .i64 (P : Int)) ∧ wb8.cell? ⟨gt, 1, none⟩ = some (.slice a bs.length c) ∧ True := ⟨F.out.bx.2.1, F.out.bx.2.2, trivial⟩
    go_wp2_with fail
    refine hKK.out _ _ (.inr s1) ?_
    clear hKK KK
    try simp only [Act.put, List.setIfInBounds_toArray, List.set_cons_zero, List.set_cons_succ, List.getElem_toArray, List.getElem_cons_zero, List.getElem_cons_succ]
    refine wpAnyZ_node [6, 10] (by kernel_rfl) (by decide) ?_
    intro i hi
    simp only [List.mem_cons, List.not_mem_nil, or_false] at hi
    rcases hi with rfl | rfl
    ·refine ⟨_, rfl, by rfl, ?_⟩
     intro KK hKK
     go_simp
     go_at_call 101
     refine (HRM.out K5 wb8 F.out (by omega)).mono ?_
     rintro e wc10 ⟨v6, rfl, ⟨vb, ⟨a6, c6, rfl, rfl⟩, ob6⟩, b6⟩
     replace F := Lib.hid (F.out.below b6)
     have hsz6 : wb8.heap.size ≤ wc10.heap.size := b6.size
     have OB := Lib.hid ob6
     clear ob6 b6
     have s2 : wc10.cell? ⟨gt, 0, none⟩ = some (.int .i64 (P : Int)) ∧ wc10.cell? ⟨gt, 1, none⟩ = some (.slice a bs.length c) ∧ True := ⟨F.out.bx.2.1, F.out.bx.2.2, trivial⟩
     go_wp2_with fail
     refine hKK.out _ _ (.inr s2) ?_
     clear hKK KK
     try simp only [Act.put, List.setIfInBounds_toArray, List.set_cons_zero, List.set_cons_succ, List.getElem_toArray, List.getElem_cons_zero, List.getElem_cons_succ]
     refine wpAnyZ_takeC (i := 7) (v := ?_) [12] rfl (by kernel_rfl) (by kernel_rfl) (by kernel_rfl) (by kernel_rfl) (by kernel_rfl) (by kernel_rfl) (fun _ _ _ h => h) (s2) (by rfl) ?_ ?_
     rotate_left
     · intro x hx; obtain ⟨u1, u2, u3⟩ := hx; go_simp; try (with_reducible rfl)
     try simp only [Act.put, List.setIfInBounds_toArray, List.set_cons_zero, List.set_cons_succ, List.getElem_toArray, List.getElem_cons_zero, List.getElem_cons_succ]
     refine wpAnyZ_takeC (i := 8) (v := ?_) [12] rfl (by kernel_rfl) (by kernel_rfl) (by kernel_rfl) (by kernel_rfl) (by kernel_rfl) (by kernel_rfl) (fun _ _ _ h => h) (s2) (by rfl) ?_ ?_
     rotate_left
     · intro x hx; obtain ⟨u1, u2, u3⟩ := hx; go_simp; try (with_reducible rfl)
     try simp only [Act.put, List.setIfInBounds_toArray, List.set_cons_zero, List.set_cons_succ, List.getElem_toArray, List.getElem_cons_zero, List.getElem_cons_succ]
     refine wpAnyZ_takeC (i := 9) (v := ?_) [12] rfl (by kernel_rfl) (by kernel_rfl) (by kernel_rfl) (by kernel_rfl) (by kernel_rfl) (by kernel_rfl) (fun _ _ _ h => h) (s2) (by rfl) ?_ ?_
     rotate_left
     · intro x hx; obtain ⟨u1, u2, u3⟩ := hx; go_simp; try (with_reducible rfl)
     try simp only [Act.put, List.setIfInBounds_toArray, List.set_cons_zero, List.set_cons_succ, List.getElem_toArray, List.getElem_cons_zero, List.getElem_cons_succ]
     have hlt9 : w.heap.size < wc10.heap.size := Nat.lt_trans F.out.gg F.out.bx.1
     have hlo9 := Nat.lt_trans F.out.gg F.out.bx.1
     have LF : Hid (LnS W0 w (wc10.alloc (.cells #[.int .i64 (P : Int), .slice a6 (cutG bs K5).length c6] 26)) g wc10.heap.size ca n cap l P a6 c6 (cutG bs K5)) := Lib.hid (LnS.box (p := (P : Int)) F.out.d F.out.k F.out.rz (OwnBars.low OB.out (by have := HLO.out; omega)) F.out.gl hlt9)
     have F1 := Lib.hid (F.out.below (belAl wc10 (.cells #[.int .i64 0, .slice none 0 0] 26)))
     have F2 := Lib.hid (F.out.below (belAl wc10 (.cells #[.int .i64 (P : Int), .slice a6 (cutG bs K5).length c6] 26)))
     have s3 : (wc10.alloc (.cells #[.int .i64 0, .slice none 0 0] 26)).cell? ⟨gt, 0, none⟩ = some (.int .i64 (P : Int)) ∧ (wc10.alloc (.cells #[.int .i64 0, .slice none 0 0] 26)).cell? ⟨gt, 1, none⟩ = some (.slice a bs.length c) ∧ True := ⟨F1.out.bx.2.1, F1.out.bx.2.2, trivial⟩
     have s4 : (wc10.alloc (.cells #[.int .i64 (P : Int), .slice a6 (cutG bs K5).length c6] 26)).cell? ⟨gt, 0, none⟩ = some (.int .i64 (P : Int)) ∧ (wc10.alloc (.cells #[.int .i64 (P : Int), .slice a6 (cutG bs K5).length c6] 26)).cell? ⟨gt, 1, none⟩ = some (.slice a bs.length c) ∧ True := ⟨F2.out.bx.2.1, F2.out.bx.2.2, trivial⟩
     have HZ := Zer2.at wc10 26
     clear F1 F2
     refine wpAnyZ_step (i := 10) (by kernel_rfl) rfl (by rfl) ?_
     intro KK hKK
     go_simp
     refine hKK.out _ _ (.inr s3) ?_
     clear hKK KK
     try simp only [Act.put, List.setIfInBounds_toArray, List.set_cons_zero, List.set_cons_succ, List.getElem_toArray, List.getElem_cons_zero, List.getElem_cons_succ]
     obtain ⟨⟨r0, r1, r2, y0, y1⟩, ⟨g0, g1⟩, gz⟩ := HZ
     refine wpAnyZ_step (i := 11) (by kernel_rfl) rfl (by rfl) ?_
     intro KK hKK
     go_simp
     refine hKK.out _ _ (.inr s4) ?_
     clear hKK KK
     try simp only [Act.put, List.setIfInBounds_toArray, List.set_cons_zero, List.set_cons_succ, List.getElem_toArray, List.getElem_cons_zero, List.getElem_cons_succ]
     refine wpAnyZ_step (i := 12) (by kernel_rfl) rfl (by rfl) ?_
     intro KK hKK
     go_simp
     refine hKK.out _ _ (.inl (by kernel_rfl)) ?_
     clear hKK KK
     try simp only [Act.put, List.setIfInBounds_toArray, List.set_cons_zero, List.set_cons_succ, List.getElem_toArray, List.getElem_cons_zero, List.getElem_cons_succ]
     refine wpAnyZ_done (by kernel_rfl) ?_ _
     go_wp2_with fail
     go_meet
     exact ⟨_, _, _, _, rfl, Nat.le_trans (cutG_length' (by omega)) (by omega), LF.out⟩
    ·refine ⟨_, rfl, by rfl, ?_⟩
     intro KK hKK
     have HNE : Hid (¬ gt = wb8.heap.size) := Lib.hid (by have := F.out.bx.1; omega)
     go_simp
     have hlt9 : w.heap.size < wb8.heap.size := Nat.lt_trans F.out.gg F.out.bx.1
     have LB : Hid (LnS W0 w (wb8.alloc (.cells #[.int .i64 0, .slice none 0 0] 26)) g wb8.heap.size ca n cap l 0 none 0 []) := Lib.hid (LnS.box (p := 0) (a := none) (c := 0) (bs := []) F.out.d F.out.k F.out.rz (nilBars wb8 _) F.out.gl hlt9)
     replace F := Lib.hid (F.out.below (belAl wb8 (.cells #[.int .i64 0, .slice none 0 0] 26)))
     obtain ⟨gx, hgx0⟩ : ∃ q, q = wb8.heap.size := ⟨_, rfl⟩
     rw [← hgx0] at LB HNE
     have s5 : (wb8.alloc (.cells #[.int .i64 0, .slice none 0 0] 26)).cell? ⟨gt, 0, none⟩ = some (.int .i64 (P : Int)) ∧ (wb8.alloc (.cells #[.int .i64 0, .slice none 0 0] 26)).cell? ⟨gt, 1, none⟩ = some (.slice a bs.length c) ∧ True := ⟨F.out.bx.2.1, F.out.bx.2.2, trivial⟩
     refine hKK.out _ _ (.inr s5) ?_
     clear hKK KK
     try simp only [Act.put, List.setIfInBounds_toArray, List.set_cons_zero, List.set_cons_succ, List.getElem_toArray, List.getElem_cons_zero, List.getElem_cons_succ]
     try rw [← hgx0]
     generalize (wb8.alloc (.cells #[.int .i64 0, .slice none 0 0] 26)) = wa10 at *
     clear hgx0
     refine wpAnyZ_step (i := 6) (by kernel_rfl) rfl (by rfl) ?_
     intro KK hKK
     go_simp
     go_at_call 101
     refine (HRM.out K5 wa10 F.out (by omega)).mono ?_
     rintro e wc10 ⟨v6, rfl, ⟨vb, ⟨a6, c6, rfl, rfl⟩, ob6⟩, b6⟩
     replace F := Lib.hid (F.out.below b6)
     have hgx : gx < wa10.heap.size := LB.out.bx.1
     replace LB := Lib.hid (LB.out.below b6)
     have hsz6 : wa10.heap.size ≤ wc10.heap.size := b6.size
     have OB := Lib.hid ob6
     clear ob6 b6
     have s6 : wc10.cell? ⟨gt, 0, none⟩ = some (.int .i64 (P : Int)) ∧ wc10.cell? ⟨gt, 1, none⟩ = some (.slice a bs.length c) ∧ True := ⟨F.out.bx.2.1, F.out.bx.2.2, trivial⟩
     go_wp2_with fail
     refine hKK.out _ _ (.inr s6) ?_
     clear hKK KK
     try simp only [Act.put, List.setIfInBounds_toArray, List.set_cons_zero, List.set_cons_succ, List.getElem_toArray, List.getElem_cons_zero, List.getElem_cons_succ]
     refine wpAnyZ_takeC (i := 7) (v := ?_) [12] rfl (by kernel_rfl) (by kernel_rfl) (by kernel_rfl) (by kernel_rfl) (by kernel_rfl) (by kernel_rfl) (fun _ _ _ h => h) (s6) (by rfl) ?_ ?_
     rotate_left
     · intro x hx; obtain ⟨u1, u2, u3⟩ := hx; go_simp; try (with_reducible rfl)
     try simp only [Act.put, List.setIfInBounds_toArray, List.set_cons_zero, List.set_cons_succ, List.getElem_toArray, List.getElem_cons_zero, List.getElem_cons_succ]
     refine wpAnyZ_takeC (i := 8) (v := ?_) [12] rfl (by kernel_rfl) (by kernel_rfl) (by kernel_rfl) (by kernel_rfl) (by kernel_rfl) (by kernel_rfl) (fun _ _ _ h => h) (s6) (by rfl) ?_ ?_
     rotate_left
     · intro x hx; obtain ⟨u1, u2, u3⟩ := hx; go_simp; try (with_reducible rfl)
     try simp only [Act.put, List.setIfInBounds_toArray, List.set_cons_zero, List.set_cons_succ, List.getElem_toArray, List.getElem_cons_zero, List.getElem_cons_succ]
     refine wpAnyZ_takeC (i := 9) (v := ?_) [12] rfl (by kernel_rfl) (by kernel_rfl) (by kernel_rfl) (by kernel_rfl) (by kernel_rfl) (by kernel_rfl) (fun _ _ _ h => h) (s6) (by rfl) ?_ ?_
     rotate_left
     · intro x hx; obtain ⟨u1, u2, u3⟩ := hx; go_simp; try (with_reducible rfl)
     try simp only [Act.put, List.setIfInBounds_toArray, List.set_cons_zero, List.set_cons_succ, List.getElem_toArray, List.getElem_cons_zero, List.getElem_cons_succ]
     have LF := Lib.hid (LB.out.setQ (q := (P : Int)) OB.out hgx)
     have kx : Kept (fun b => b = gx) wc10 ((wc10.setCell ⟨gx, 0, none⟩ (.int .i64 (P : Int))).setCell ⟨gx, 1, none⟩ (.slice a6 (cutG bs K5).length c6)) := (keptSet' (S := fun b => b = gx) rfl).trans (keptSet' (S := fun b => b = gx) rfl)
     have hbx := F.out.bx.kept kx HNE.out
     have s7 : ((wc10.setCell ⟨gx, 0, none⟩ (.int .i64 (P : Int))).setCell ⟨gx, 1, none⟩ (.slice a6 (cutG bs K5).length c6)).cell? ⟨gt, 0, none⟩ = some (.int .i64 (P : Int)) ∧ ((wc10.setCell ⟨gx, 0, none⟩ (.int .i64 (P : Int))).setCell ⟨gx, 1, none⟩ (.slice a6 (cutG bs K5).length c6)).cell? ⟨gt, 1, none⟩ = some (.slice a bs.length c) ∧ True := ⟨hbx.2.1, hbx.2.2, trivial⟩
     obtain ⟨zX, cX0, cX1⟩ := LB.out.bx
     have q0 := LB.out.f0
     have q1 := LB.out.f1
     clear kx hbx
     refine wpAnyZ_step (i := 11) (by kernel_rfl) rfl (by rfl) ?_
     intro KK hKK
     go_simp
     refine hKK.out _ _ (.inr s7) ?_
     clear hKK KK
     try simp only [Act.put, List.setIfInBounds_toArray, List.set_cons_zero, List.set_cons_succ, List.getElem_toArray, List.getElem_cons_zero, List.getElem_cons_succ]
     refine wpAnyZ_step (i := 12) (by kernel_rfl) rfl (by rfl) ?_
     intro KK hKK
     go_simp
     refine hKK.out _ _ (.inl (by kernel_rfl)) ?_
     clear hKK KK
     try simp only [Act.put, List.setIfInBounds_toArray, List.set_cons_zero, List.set_cons_succ, List.getElem_toArray, List.getElem_cons_zero, List.getElem_cons_succ]
     refine wpAnyZ_done (by kernel_rfl) ?_ _
     go_wp2_with fail
     go_meet
     exact ⟨_, _, _, _, rfl, Nat.le_trans (cutG_length' (by omega)) (by omega), LF.out⟩
   ·refine ⟨_, rfl, by rfl, ?_⟩
    intro KK hKK
    have HNE : Hid (¬ gt = wd.heap.size) := Lib.hid (by have := F.out.bx.1; omega)
    go_simp
    have hlt9 : w.heap.size < wd.heap.size := Nat.lt_trans F.out.gg F.out.bx.1
    have LB : Hid (LnS W0 w (wd.alloc (.cells #[.int .i64 0, .slice none 0 0] 26)) g wd.heap.size ca n cap l 0 none 0 []) := Lib.hid (LnS.box (p := 0) (a := none) (c := 0) (bs := []) F.out.d F.out.k F.out.rz (nilBars wd _) F.out.gl hlt9)
    replace F := Lib.hid (F.out.below (belAl wd (.cells #[.int .i64 0, .slice none 0 0] 26)))
    obtain ⟨gx, hgx0⟩ : ∃ q, q = wd.heap.size := ⟨_, rfl⟩
    rw [← hgx0] at LB HNE
    have s8 : (wd.alloc (.cells #[.int .i64 0, .slice none 0 0] 26)).cell? ⟨gt, 0, none⟩ = some (.int .i64 (P : Int)) ∧ (wd.alloc (.cells #[.int .i64 0, .slice none 0 0] 26)).cell? ⟨gt, 1, none⟩ = some (.slice a bs.length c) ∧ True := ⟨F.out.bx.2.1, F.out.bx.2.2, trivial⟩
    refine hKK.out _ _ (.inr s8) ?_
    clear hKK KK
    try simp only [Act.put, List.setIfInBounds_toArray, List.set_cons_zero, List.set_cons_succ, List.getElem_toArray, List.getElem_cons_zero, List.getElem_cons_succ]
    try rw [← hgx0]
    generalize (wd.alloc (.cells #[.int .i64 0, .slice none 0 0] 26)) = wa8 at *
    clear hgx0
    refine wpAnyZ_step (i := 5) (by kernel_rfl) rfl (by rfl) ?_
    intro KK hKK
    go_simp
    go_at_call 88
    refine (HD.out (bs.length : Int) wa8 (by omega) F.out.d).mono ?_
    rintro e wb8 ⟨z, hz, rfl, d1, k1⟩
    replace F := Lib.hid (F.out.draw d1 k1)
    replace LB := Lib.hid (LB.out.draw d1 k1)
    have hsz5 : wa8.heap.size ≤ wb8.heap.size := k1.size
    clear d1 k1
    obtain ⟨K5, rfl⟩ : ∃ K5 : Nat, z = (K5 : Int) := ⟨z.toNat, by omega⟩
    have s9 : wb8.cell? ⟨gt, 0, none⟩ = some (.int .i64 (P : Int)) ∧ wb8.cell? ⟨gt, 1, none⟩ = some (.slice a bs.length c) ∧ True := ⟨F.out.bx.2.1, F.out.bx.2.2, trivial⟩
    go_wp2_with fail
    refine hKK.out _ _ (.inr s9) ?_
    clear hKK KK
    try simp only [Act.put, List.setIfInBounds_toArray, List.set_cons_zero, List.set_cons_succ, List.getElem_toArray, List.getElem_cons_zero, List.getElem_cons_succ]
    refine wpAnyZ_step (i := 6) (by kernel_rfl) rfl (by rfl) ?_
    intro KK hKK
    go_simp
    go_at_call 101
    refine (HRM.out K5 wb8 F.out (by omega)).mono ?_
    rintro e wc8 ⟨v6, rfl, ⟨vb, ⟨a6, c6, rfl, rfl⟩, ob6⟩, b6⟩
    replace F := Lib.hid (F.out.below b6)
    have hgx : gx < wb8.heap.size := LB.out.bx.1
    replace LB := Lib.hid (LB.out.below b6)
    have hsz6 : wb8.heap.size ≤ wc8.heap.size := b6.size
    have OB := Lib.hid ob6
    clear ob6 b6
    have s10 : wc8.cell? ⟨gt, 0, none⟩ = some (.int .i64 (P : Int)) ∧ wc8.cell? ⟨gt, 1, none⟩ = some (.slice a bs.length c) ∧ True := ⟨F.out.bx.2.1, F.out.bx.2.2, trivial⟩
    go_wp2_with fail
    refine hKK.out _ _ (.inr s10) ?_
    clear hKK KK
    try simp only [Act.put, List.setIfInBounds_toArray, List.set_cons_zero, List.set_cons_succ, List.getElem_toArray, List.getElem_cons_zero, List.getElem_cons_succ]
    refine wpAnyZ_takeC (i := 7) (v := ?_) [12] rfl (by kernel_rfl) (by kernel_rfl) (by kernel_rfl) (by kernel_rfl) (by kernel_rfl) (by kernel_rfl) (fun _ _ _ h => h) (s10) (by rfl) ?_ ?_
    rotate_left
    · intro x hx; obtain ⟨u1, u2, u3⟩ := hx; go_simp; try (with_reducible rfl)
    try simp only [Act.put, List.setIfInBounds_toArray, List.set_cons_zero, List.set_cons_succ, List.getElem_toArray, List.getElem_cons_zero, List.getElem_cons_succ]
    refine wpAnyZ_takeC (i := 8) (v := ?_) [12] rfl (by kernel_rfl) (by kernel_rfl) (by kernel_rfl) (by kernel_rfl) (by kernel_rfl) (by kernel_rfl) (fun _ _ _ h => h) (s10) (by rfl) ?_ ?_
    rotate_left
    · intro x hx; obtain ⟨u1, u2, u3⟩ := hx; go_simp; try (with_reducible rfl)
    try simp only [Act.put, List.setIfInBounds_toArray, List.set_cons_zero, List.set_cons_succ, List.getElem_toArray, List.getElem_cons_zero, List.getElem_cons_succ]
    refine wpAnyZ_takeC (i := 9) (v := ?_) [12] rfl (by kernel_rfl) (by kernel_rfl) (by kernel_rfl) (by kernel_rfl) (by kernel_rfl) (by kernel_rfl) (fun _ _ _ h => h) (s10) (by rfl) ?_ ?_
    rotate_left
    · intro x hx; obtain ⟨u1, u2, u3⟩ := hx; go_simp; try (with_reducible rfl)
    try simp only [Act.put, List.setIfInBounds_toArray, List.set_cons_zero, List.set_cons_succ, List.getElem_toArray, List.getElem_cons_zero, List.getElem_cons_succ]
    have LF := Lib.hid (LB.out.setQ (q := (P : Int)) OB.out hgx)
    have kx : Kept (fun b => b = gx) wc8 ((wc8.setCell ⟨gx, 0, none⟩ (.int .i64 (P : Int))).setCell ⟨gx, 1, none⟩ (.slice a6 (cutG bs K5).length c6)) := (keptSet' (S := fun b => b = gx) rfl).trans (keptSet' (S := fun b => b = gx) rfl)
    have hbx := F.out.bx.kept kx HNE.out
    have s11 : ((wc8.setCell ⟨gx, 0, none⟩ (.int .i64 (P : Int))).setCell ⟨gx, 1, none⟩ (.slice a6 (cutG bs K5).length c6)).cell? ⟨gt, 0, none⟩ = some (.int .i64 (P : Int)) ∧ ((wc8.setCell ⟨gx, 0, none⟩ (.int .i64 (P : Int))).setCell ⟨gx, 1, none⟩ (.slice a6 (cutG bs K5).length c6)).cell? ⟨gt, 1, none⟩ = some (.slice a bs.length c) ∧ True := ⟨hbx.2.1, hbx.2.2, trivial⟩
    obtain ⟨zX, cX0, cX1⟩ := LB.out.bx
    have q0 := LB.out.f0
    have q1 := LB.out.f1
    clear kx hbx
    refine wpAnyZ_step (i := 11) (by kernel_rfl) rfl (by rfl) ?_
    intro KK hKK
    go_simp
    refine hKK.out _ _ (.inr s11) ?_
    clear hKK KK
    try simp only [Act.put, List.setIfInBounds_toArray, List.set_cons_zero, List.set_cons_succ, List.getElem_toArray, List.getElem_cons_zero, List.getElem_cons_succ]
    refine wpAnyZ_step (i := 12) (by kernel_rfl) rfl (by rfl) ?_
    intro KK hKK
    go_simp
    refine hKK.out _ _ (.inl (by kernel_rfl)) ?_
    clear hKK KK
    try simp only [Act.put, List.setIfInBounds_toArray, List.set_cons_zero, List.set_cons_succ, List.getElem_toArray, List.getElem_cons_zero, List.getElem_cons_succ]
    refine wpAnyZ_done (by kernel_rfl) ?_ _
    go_wp2_with fail
    go_meet
    exact ⟨_, _, _, _, rfl, Nat.le_trans (cutG_length' (by omega)) (by omega), LF.out⟩
  case rest =>
   clear LN HRM HGR
   obtain ⟨gx, a9, c9, bs9, rfl, hbl9, hln⟩ := hcut
   have LN := Lib.hid hln
   clear hln
   obtain ⟨zB, cB0, cB1⟩ := LN.out.bx
   obtain ⟨⟨z1, z2, z3, c0, c1⟩, ⟨f0, f1⟩, gz⟩ := LN.out.rz
   have HF := Lib.hid LN.out.fin
   go_wp2_with fail
   refine bodyPost_ret (v := .agg #[.int .i64 (P : Int), .slice a9 bs9.length c9]) (by simp [results, Tryz.results74, go_sem, gz, c0, c1]) rfl ?_
   exact ⟨(P : Int), a9, c9, bs9, rfl, HF.out.1, hbl9, HF.out.2.1, HF.out.2.2⟩
 cases h2 : (x == 2)
 rotate_left
 ·go_wp2_with fail
  refine (HD.out 5 w1 (by decide) D.out).mono ?_
  rintro e w2 ⟨y, hy, rfl, d1, k1⟩
  replace D := Lib.hid d1
  replace K := Lib.hid (K.out.trans k1)
  replace Z := Lib.hid (Z.out.kept k1 (by omega))
  have hz2 := k1.size
  clear d1 k1
  have hwx := IntWalk.i64_in (2 + y) (by omega)
  obtain ⟨P, hP⟩ : ∃ P : Nat, 2 + y = P := ⟨(2 + y).toNat, by omega⟩
  have hP2 : 2 ≤ P ∧ P ≤ 6 := by omega
  rw [hP] at hwx
  go_wp2_with fail
  try rw [hP]
  clear hP hwx hy
  refine (HLM.out P w2 (by omega) D.out).mono ?_
  rintro e w3 ⟨p, a, c, bs, rfl, ob, ⟨rfl, hgr, hbl, -⟩, d1, k1⟩
  have LN := Lib.hid (LnS.box (p := (P : Int)) d1 (K.out.trans k1) (Z.out.kept k1 (by omega)) (OwnBars.low ob (by omega)) hgw (by have := k1.size; omega))
  have HGR := Lib.hid hgr
  clear d1 k1 ob D K Z hgr
  go_wp2_with fail
  obtain ⟨gt, hgt⟩ : ∃ q, q = w3.heap.size := ⟨_, rfl⟩
  rw [← hgt] at LN
  try rw [← hgt]
  generalize (w3.alloc (.cells #[.int .i64 (P : Int), .slice a bs.length c] 26)) = w4 at *
  clear hgt hz1 hz2
  have HAD : Hid (∀ (x y : Int) w9, LnS W0 w w9 g gt ca n cap l P a c bs → (0 ≤ x ∧ x < (P : Int)) → (0 ≤ y ∧ y < (P : Int)) → Calls Tryz.prog 115 #[.agg #[.int .i64 (P : Int), .slice a bs.length c], .int .i64 x, .int .i64 y] w9 (RetAdd w9 P (addL bs x y))) := Lib.hid fun x y w9 h9 hx hy => specAdd_at w9 P a c bs (ownBars_at h9.ob) (by omega) HGR.out x y hx hy
  obtain ⟨zB, cB0, cB1⟩ := LN.out.bx
  go_wp2_with fail
  clear zB cB0 cB1
  refine (HD.out P w4 (by omega) LN.out.d).mono ?_
  rintro e w5 ⟨x5, hx5, rfl, d1, k1⟩
  replace LN := Lib.hid (LN.out.draw d1 k1)
  clear d1 k1
  obtain ⟨zB, cB0, cB1⟩ := LN.out.bx
  go_wp2_with fail
  clear zB cB0 cB1
  refine (HD.out P w5 (by omega) LN.out.d).mono ?_
  rintro e w6 ⟨x6, hx6, rfl, d1, k1⟩
  replace LN := Lib.hid (LN.out.draw d1 k1)
  clear d1 k1
  obtain ⟨zB, cB0, cB1⟩ := LN.out.bx
  go_wp2_with fail
  clear zB cB0 cB1
  refine (HAD.out x5 x6 w6 LN.out (by omega) (by omega)).mono ?_
  rintro e w7 ⟨v7, b7, rfl, ⟨vb, ⟨a7, c7, rfl, rfl⟩, ob7⟩, bb7⟩
  have hl7 : (addL bs x5 x6).length ≤ 25 := by unfold addL; split <;> (try rw [putL_length]) <;> omega
  generalize addL bs x5 x6 = bs7 at *
  have hlt7 := Nat.lt_trans LN.out.gg LN.out.bx.1
  replace LN := Lib.hid (LN.out.below bb7)
  have LM := Lib.hid (LnS.box (p := (P : Int)) LN.out.d LN.out.k LN.out.rz (OwnBars.low ob7 (by omega)) hgw (by have := bb7.size; omega))
  obtain ⟨zB, cB0, cB1⟩ := LM.out.bx
  obtain ⟨⟨z1, z2, z3, c0, c1⟩, ⟨f0, f1⟩, gz⟩ := LM.out.rz
  have HF := Lib.hid LM.out.fin
  clear LN HAD HGR ob7 bb7 LM
  go_wp2_with fail
  refine bodyPost_ret (v := .agg #[.int .i64 (P : Int), .slice a7 bs7.length c7]) (by simp [results, Tryz.results74, go_sem, gz, c0, c1]) rfl ?_
  exact ⟨(P : Int), a7, c7, bs7, rfl, HF.out.1, hl7, HF.out.2.1, HF.out.2.2⟩
 ·go_wp2_with fail
  refine (HD.out 6 w1 (by decide) D.out).mono ?_
  rintro e w2 ⟨y, hy, rfl, d1, k1⟩
  replace D := Lib.hid d1
  replace K := Lib.hid (K.out.trans k1)
  replace Z := Lib.hid (Z.out.kept k1 (by omega))
  have hz2 := k1.size
  clear d1 k1
  have hwx := IntWalk.i64_in (1 + y) (by omega)
  obtain ⟨P, hP⟩ : ∃ P : Nat, 1 + y = P := ⟨(1 + y).toNat, by omega⟩
  have hP2 : 1 ≤ P ∧ P ≤ 6 := by omega
  rw [hP] at hwx
  go_wp2_with fail
  try rw [hP]
  clear hP hwx hy
  refine (HLM.out P w2 hP2 D.out).mono ?_
  rintro e w3 ⟨p, a, c, bs, rfl, ob, ⟨rfl, -, hbl, -⟩, d1, k1⟩
  have HF := Lib.hid (finG (p := (P : Int)) d1 (K.out.trans k1) (OwnBars.low ob (by omega)) hgw)
  obtain ⟨⟨z1, z2, z3, c0, c1⟩, ⟨f0, f1⟩, gz⟩ := Z.out.kept k1 (by omega)
  clear d1 k1 ob D K Z
  go_wp2_with fail
  refine bodyPost_ret (v := .agg #[.int .i64 (P : Int), .slice a bs.length c]) (by simp [results, Tryz.results74, go_sem, gz, c0, c1]) rfl ?_
  exact ⟨(P : Int), a, c, bs, rfl, HF.out.1, by omega, HF.out.2.1, HF.out.2.2⟩
end Go.Proofs.YtfbmpkdjhhcnpaaGreat

