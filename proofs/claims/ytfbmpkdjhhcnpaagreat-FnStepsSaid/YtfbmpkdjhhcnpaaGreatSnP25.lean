/- AddBar of the reference. Conditions: a valid graph, points in range. -/
import Derived.Test.YtfbmpkdjhhcnpaaGreatSnP22
import Derived.Lib.MinMax
import Derived.Test.YtfbmpkdjhhcnpaaGreatSnP24
import Derived.Test.YtfbmpkdjhhcnpaaGreatSnP07
import Derived.Deep.QuietTactic
import Derived.BigQuiet
namespace Go.Proofs.YtfbmpkdjhhcnpaaGreat
open Go.RowKit
set_option maxRecDepth 100000
set_option linter.unusedVariables false
set_option linter.unusedSimpArgs false
def addL (l : List BarT) (a b : Int) : List BarT := if ¬ a = b ∧ l.length < 24 then putL l (min a b, max a b) else l
def RetAdd (W : World) (p : Int) (bs : List BarT) (e : Ending) (w' : World) : Prop := ∃ v b, e = .returned (.tuple #[v, .bool b]) ∧ OwnGraph w' W.heap.size v (p, bs) ∧ Below W.heap.size W w'
set_option maxHeartbeats 8000000 in
theorem specAdd_at (W : World) (p : Int) (a : Option Addr) (cap : Nat) (l : List BarT) (h : BarsAt W a l.length l) (hs : l.length ≤ 1048576) (hg : isGraphB (p, l) = true) (x y : Int) (hx : 0 ≤ x ∧ x < p) (hy : 0 ≤ y ∧ y < p) : Calls Tryz.prog 115 #[.agg #[.int .i64 p, .slice a l.length cap], .int .i64 x, .int .i64 y] W (RetAdd W p (addL l x y)) := by
 have hwd := @Wd.cells
 have HGr : Hid (IsGraph W (.agg #[.int .i64 p, .slice a l.length cap]) (p, l)) := Lib.hid ⟨a, cap, rfl, h⟩
 have H1 := Lib.hid h
 clear h
 have hsz : szGraph (p, l) ≤ 1048576 := hs
 have hsz2 : szGraph (p, l) ≤ 1099511627776 := Nat.le_trans hsz (by decide)
 have B : Below W.heap.size W (W.alloc (.cells #[.int .i64 p, .slice a l.length cap] 26)) := (Below.refl _ _).alloc (Nat.le_refl _) _
 have BG : Hid (BoxGr (W.alloc (.cells #[.int .i64 p, .slice a l.length cap] 26)) W.heap.size p a l.length cap) := Lib.hid (BoxGr.at rfl)
 have HG := Lib.hid hg
 clear hg
 have HZ : Hid (Zer2 ((W.alloc (.cells #[.int .i64 p, .slice a l.length cap] 26)).alloc (.cells #[.int .i64 0, .slice none 0 0] 26)) (W.heap.size + 1)) := Lib.hid (by have := Zer2.at (W.alloc (.cells #[.int .i64 p, .slice a l.length cap] 26)) 26; rwa [World.size_alloc] at this)
 have ba := belAl (W.alloc (.cells #[.int .i64 p, .slice a l.length cap] 26)) (.cells #[.int .i64 0, .slice none 0 0] 26)
 have hz : W.heap.size + 2 ≤ ((W.alloc (.cells #[.int .i64 p, .slice a l.length cap] 26)).alloc (.cells #[.int .i64 0, .slice none 0 0] 26)).heap.size := by simp
 replace B := B.step ba
 replace BG := Lib.hid (BG.out.below ba)
 clear ba
 have d1 : ¬ x < 0 := by omega
 have d2 : ¬ y < 0 := by omega
 have d3 : ¬ p ≤ x := by omega
 have d4 : ¬ p ≤ y := by omega
 obtain ⟨bs, hbs⟩ : ∃ bs, bs = addL l x y := ⟨_, rfl⟩
 rw [← hbs]
 have HBS := Lib.hid hbs
 clear hbs
 go_enter Tryz.func115, Tryz.ntmps115
 go_upto_region 1 with (fail)
 generalize ((W.alloc (.cells #[.int .i64 p, .slice a l.length cap] 26)).alloc (.cells #[.int .i64 0, .slice none 0 0] 26)) = u at *
 obtain ⟨zBG, fBG0, fBG1⟩ := BG.out
 go_wp2_with fail
 clear zBG fBG0 fBG1
 refine (specIsGraph_at u p a cap l (H1.out.below B) (by omega)).mono ?_
 rintro e w1 ⟨rfl, b1⟩
 rw [HG.out]
 have hz1 := b1.size
 have B1 := B.step b1
 have BG1 := Lib.hid (BG.out.below b1)
 have Z1 := Lib.hid (HZ.out.below b1)
 have HI1 := Lib.hid (H1.out.below B1)
 clear b1 B BG HZ
 obtain ⟨zBG, fBG0, fBG1⟩ := BG1.out
 have HCOPY : Hid (∀ bs, bs = l → Calls Tryz.prog 78 #[.agg #[.int .i64 p, .slice a l.length cap]] w1 (RetGraph w1 (p, bs))) := Lib.hid fun bs e => by rw [e]; exact specCpG_at w1 p a cap l.length l HI1.out (by omega)
 have HPUT : Hid (∀ bs, bs = putL l (min x y, max x y) → Calls Tryz.prog 98 #[.agg #[.int .i64 p, .slice a l.length cap], .agg #[.int .i64 (min x y), .int .i64 (max x y)]] w1 (RetGraph w1 (p, bs))) := Lib.hid fun bs e => by rw [e]; exact l2Put_at w1 p a cap l HI1.out (by omega) _ _
 by_cases hxy : x = y
 ·have hbe : (x == y) = true := by rw [hxy]; exact beq_self_eq_true y
  have hcp := HCOPY.out bs (by rw [HBS.out]; unfold addL; rw [if_neg fun h => h.1 hxy])
  have HCP := Lib.hid hcp
  clear hcp HCOPY HPUT hxy
  go_wp2_with fail
  clear zBG fBG0 fBG1
  refine HCP.out.mono ?_
  rintro e w2 ⟨v2, rfl, o2, b⟩
  obtain ⟨vb, ⟨a2, c2, rfl, rfl⟩, ob⟩ := o2
  dsimp only at ob
  have hzb := b.size
  replace B1 := B1.step b
  replace Z1 := Lib.hid (Z1.out.below b)
  have HLD := Lib.hid (laid2 (p := p) (g := W.heap.size + 1) ob (by omega) (by omega) (by omega) B1)
  clear b ob HCP
  obtain ⟨⟨r0, r1, r2, q0, q1⟩, ⟨y0, y1⟩, zg⟩ := Z1.out
  go_wp2_with fail
  refine bodyPost_ret (v := .tuple #[.agg #[.int .i64 p, .slice a2 bs.length c2], .bool false]) (by simp [results, Tryz.results115, go_sem, zg, q0, q1]) rfl ?_
  exact ⟨_, _, rfl, HLD.out.1, HLD.out.2⟩
 have hbe : (x == y) = false := by simpa using hxy
 by_cases h24 : l.length < 24
 ·have h24i : ¬ (24 : Int) ≤ (l.length : Int) := by omega
  have hcp := HPUT.out bs (by rw [HBS.out]; unfold addL; rw [if_pos ⟨hxy, h24⟩])
  have HCP := Lib.hid hcp
  clear hcp HCOPY HPUT
  go_wp2_with fail
  clear zBG fBG0 fBG1
  refine HCP.out.mono ?_
  rintro e w2 ⟨v2, rfl, o2, b⟩
  obtain ⟨vb, ⟨a2, c2, rfl, rfl⟩, ob⟩ := o2
  dsimp only at ob
  have hzb := b.size
  replace B1 := B1.step b
  replace Z1 := Lib.hid (Z1.out.below b)
  have HLD := Lib.hid (laid2 (p := p) (g := W.heap.size + 1) ob (by omega) (by omega) (by omega) B1)
  clear b ob HCP
  obtain ⟨⟨r0, r1, r2, q0, q1⟩, ⟨y0, y1⟩, zg⟩ := Z1.out
  go_wp2_with fail
  refine bodyPost_ret (v := .tuple #[.agg #[.int .i64 p, .slice a2 bs.length c2], .bool true]) (by simp [results, Tryz.results115, go_sem, zg, q0, q1]) rfl ?_
  exact ⟨_, _, rfl, HLD.out.1, HLD.out.2⟩
 ·have h24i : (24 : Int) ≤ (l.length : Int) := by omega
  have hcp := HCOPY.out bs (by rw [HBS.out]; unfold addL; rw [if_neg fun h => h24 h.2])
  have HCP := Lib.hid hcp
  clear hcp HCOPY HPUT
  go_wp2_with fail
  clear zBG fBG0 fBG1
  refine HCP.out.mono ?_
  rintro e w2 ⟨v2, rfl, o2, b⟩
  obtain ⟨vb, ⟨a2, c2, rfl, rfl⟩, ob⟩ := o2
  dsimp only at ob
  have hzb := b.size
  replace B1 := B1.step b
  replace Z1 := Lib.hid (Z1.out.below b)
  have HLD := Lib.hid (laid2 (p := p) (g := W.heap.size + 1) ob (by omega) (by omega) (by omega) B1)
  clear b ob HCP
  obtain ⟨⟨r0, r1, r2, q0, q1⟩, ⟨y0, y1⟩, zg⟩ := Z1.out
  go_wp2_with fail
  refine bodyPost_ret (v := .tuple #[.agg #[.int .i64 p, .slice a2 bs.length c2], .bool false]) (by simp [results, Tryz.results115, go_sem, zg, q0, q1]) rfl ?_
  exact ⟨_, _, rfl, HLD.out.1, HLD.out.2⟩
def addX (p : Int) (l : List BarT) (x y : Int) : List BarT := if isGraphB (p, l) = true then addL l x y else l
theorem addX_len {p : Int} {l : List BarT} {x y : Int} (h : l.length ≤ 24) : (addX p l x y).length ≤ 24 := by
 unfold addX addL
 split
 ·split
  ·rw [putL_length]; omega
  ·exact h
 ·exact h
set_option maxHeartbeats 8000000 in
theorem specAddX_at (W : World) (p : Int) (a : Option Addr) (cap : Nat) (l : List BarT) (h : BarsAt W a l.length l) (hs : l.length ≤ 1048576) (x y : Int) (hx : 0 ≤ x ∧ x < p) (hy : 0 ≤ y ∧ y < p) : Calls Tryz.prog 115 #[.agg #[.int .i64 p, .slice a l.length cap], .int .i64 x, .int .i64 y] W (RetAdd W p (addX p l x y)) := by
 cases hg : isGraphB (p, l)
 rotate_left
 ·have := specAdd_at W p a cap l h hs hg x y hx hy
  unfold addX
  rw [if_pos hg]
  exact this
 have he : addX p l x y = l := by unfold addX; rw [hg]; rfl
 rw [he]
 have hwd := @Wd.cells
 have HGr : Hid (IsGraph W (.agg #[.int .i64 p, .slice a l.length cap]) (p, l)) := Lib.hid ⟨a, cap, rfl, h⟩
 have H1 := Lib.hid h
 clear h
 have hsz : szGraph (p, l) ≤ 1048576 := hs
 have hsz2 : szGraph (p, l) ≤ 1099511627776 := Nat.le_trans hsz (by decide)
 have B : Below W.heap.size W (W.alloc (.cells #[.int .i64 p, .slice a l.length cap] 26)) := (Below.refl _ _).alloc (Nat.le_refl _) _
 have BG : Hid (BoxGr (W.alloc (.cells #[.int .i64 p, .slice a l.length cap] 26)) W.heap.size p a l.length cap) := Lib.hid (BoxGr.at rfl)
 have HG := Lib.hid hg
 clear hg he
 have HZ : Hid (Zer2 ((W.alloc (.cells #[.int .i64 p, .slice a l.length cap] 26)).alloc (.cells #[.int .i64 0, .slice none 0 0] 26)) (W.heap.size + 1)) := Lib.hid (by have := Zer2.at (W.alloc (.cells #[.int .i64 p, .slice a l.length cap] 26)) 26; rwa [World.size_alloc] at this)
 have ba := belAl (W.alloc (.cells #[.int .i64 p, .slice a l.length cap] 26)) (.cells #[.int .i64 0, .slice none 0 0] 26)
 have hz : W.heap.size + 2 ≤ ((W.alloc (.cells #[.int .i64 p, .slice a l.length cap] 26)).alloc (.cells #[.int .i64 0, .slice none 0 0] 26)).heap.size := by simp
 replace B := B.step ba
 replace BG := Lib.hid (BG.out.below ba)
 clear ba
 go_enter Tryz.func115, Tryz.ntmps115
 go_upto_region 1 with (fail)
 generalize ((W.alloc (.cells #[.int .i64 p, .slice a l.length cap] 26)).alloc (.cells #[.int .i64 0, .slice none 0 0] 26)) = u at *
 obtain ⟨zBG, fBG0, fBG1⟩ := BG.out
 go_wp2_with fail
 clear zBG fBG0 fBG1
 refine (specIsGraph_at u p a cap l (H1.out.below B) (by omega)).mono ?_
 rintro e w1 ⟨rfl, b1⟩
 rw [HG.out]
 have hz1 := b1.size
 have B1 := B.step b1
 have BG1 := Lib.hid (BG.out.below b1)
 have Z1 := Lib.hid (HZ.out.below b1)
 have HI1 := Lib.hid (H1.out.below B1)
 clear b1 B BG HZ
 obtain ⟨zBG, fBG0, fBG1⟩ := BG1.out
 go_wp2_with fail
 clear zBG fBG0 fBG1
 refine (specCpG_at w1 p a cap l.length l HI1.out (by omega)).mono ?_
 rintro e w2 ⟨v2, rfl, o2, b⟩
 obtain ⟨vb, ⟨a2, c2, rfl, rfl⟩, ob⟩ := o2
 dsimp only at ob
 have hzb := b.size
 replace B1 := B1.step b
 replace Z1 := Lib.hid (Z1.out.below b)
 have HLD := Lib.hid (laid2 (p := p) (g := W.heap.size + 1) ob (by omega) (by omega) (by omega) B1)
 clear b ob
 obtain ⟨⟨r0, r1, r2, q0, q1⟩, ⟨y0, y1⟩, zg⟩ := Z1.out
 go_wp2_with fail
 refine bodyPost_ret (v := .tuple #[.agg #[.int .i64 p, .slice a2 l.length c2], .bool false]) (by simp [results, Tryz.results115, go_sem, zg, q0, q1]) rfl ?_
 exact ⟨_, _, rfl, HLD.out.1, HLD.out.2⟩
structure LnS (W0 w0 w : World) (g gt : Nat) (ca : Option Addr) (n cap : Nat) (l : List Int) (p : Int) (a : Option Addr) (c : Nat) (bs : List BarT) : Prop where
 d : Drw W0 w g ca n cap l
 k : Kept (fun b => b = g) w0 w
 rz : Zer2 w w0.heap.size
 bx : BoxGr w gt p a bs.length c
 f0 : w.frozen? ⟨gt, 0, none⟩ = false
 f1 : w.frozen? ⟨gt, 1, none⟩ = false
 ob : OwnBars w (w0.heap.size + 1) (.slice a bs.length c) bs
 ne : (Value.slice a bs.length c).ownBlock ≠ some gt
 gl : g < w0.heap.size
 gg : w0.heap.size < gt
theorem LnS.below {W0 w0 w w' : World} {g gt : Nat} {ca : Option Addr} {n cap : Nat} {l : List Int} {p : Int} {a : Option Addr} {c : Nat} {bs : List BarT} (h : LnS W0 w0 w g gt ca n cap l p a c bs) (hb : Below w.heap.size w w') : LnS W0 w0 w' g gt ca n cap l p a c bs :=
 ⟨h.d.below hb, h.k.trans (Kept.of_below hb), h.rz.below hb, h.bx.below hb, ((bcell hb).2 _ _ h.bx.1).trans h.f0, ((bcell hb).2 _ _ h.bx.1).trans h.f1, h.ob.below hb, h.ne, h.gl, h.gg⟩
theorem LnS.draw {W0 w0 w w' : World} {g gt : Nat} {ca : Option Addr} {n cap : Nat} {l : List Int} {p : Int} {a : Option Addr} {c : Nat} {bs : List BarT} (h : LnS W0 w0 w g gt ca n cap l p a c bs) (hd : Drw W0 w' g ca n cap l) (hk : Kept (fun b => b = g) w w') : LnS W0 w0 w' g gt ca n cap l p a c bs := by
 have hg := h.gl
 have hgg := h.gg
 exact ⟨hd, h.k.trans hk, h.rz.kept hk (by omega), h.bx.kept hk (by omega), (hk.frozen h.bx.1 (by omega)).trans h.f0, (hk.frozen h.bx.1 (by omega)).trans h.f1, h.ob.on hk (by omega), h.ne, hg, hgg⟩
theorem LnS.set {W0 w0 w : World} {g gt lo : Nat} {ca : Option Addr} {n cap : Nat} {l : List Int} {p : Int} {a a' : Option Addr} {c c' : Nat} {bs bs' : List BarT} (h : LnS W0 w0 w g gt ca n cap l p a c bs) (ho : OwnBars w lo (.slice a' bs'.length c') bs') (hlo : gt < lo) :
  LnS W0 w0 ((w.setCell ⟨gt, 0, none⟩ (.int .i64 p)).setCell ⟨gt, 1, none⟩ (.slice a' bs'.length c')) g gt ca n cap l p a' c' bs' := by
 have hg := h.gl
 have hgg := h.gg
 have hlow := h.d.low
 have k2 : Kept (fun b => b = gt) w ((w.setCell ⟨gt, 0, none⟩ (.int .i64 p)).setCell ⟨gt, 1, none⟩ (.slice a' bs'.length c')) := (keptSet' (S := fun b => b = gt) rfl).trans (keptSet' (S := fun b => b = gt) rfl)
 obtain ⟨hz, c0, c1⟩ := h.bx
 have o01 : (⟨gt, 0, none⟩ : Addr) ≠ ⟨gt, 1, none⟩ := by simp
 exact ⟨h.d.kept k2 (by omega) (fun b hb => by omega), h.k.on k2 fun i h1 h2 => by omega, h.rz.kept k2 (by omega),
  ⟨by simpa using hz, (World.cell?_setCell_other _ _ _ _ o01.symm).trans (World.cell?_setCell_same _ _ _ c0), World.cell?_setCell_same _ _ _ ((World.cell?_setCell_other _ _ _ _ o01).trans c1)⟩,
  (World.frozen?_setCell _ _ _ _).trans ((World.frozen?_setCell _ _ _ _).trans h.f0), (World.frozen?_setCell _ _ _ _).trans ((World.frozen?_setCell _ _ _ _).trans h.f1),
  ((ho.set (by show gt < lo; omega) _).set (by show gt < lo; omega) _).low (by omega), fun e => by have := (ho.lt _ e).1; omega, hg, hgg⟩
theorem LnS.setP {W0 w0 w : World} {g gt : Nat} {ca : Option Addr} {n cap : Nat} {l : List Int} {p q : Int} {a : Option Addr} {c : Nat} {bs : List BarT} (h : LnS W0 w0 w g gt ca n cap l p a c bs) :
  LnS W0 w0 (w.setCell ⟨gt, 0, none⟩ (.int .i64 q)) g gt ca n cap l q a c bs := by
 have hg := h.gl
 have hgg := h.gg
 have hlow := h.d.low
 have k2 : Kept (fun b => b = gt) w (w.setCell ⟨gt, 0, none⟩ (.int .i64 q)) := keptSet' (S := fun b => b = gt) rfl
 obtain ⟨hz, c0, c1⟩ := h.bx
 have o01 : (⟨gt, 0, none⟩ : Addr) ≠ ⟨gt, 1, none⟩ := by simp
 exact ⟨h.d.kept k2 (by omega) (fun b hb => by omega), h.k.on k2 fun i h1 h2 => by omega, h.rz.kept k2 (by omega),
  ⟨by simpa using hz, World.cell?_setCell_same _ _ _ c0, (World.cell?_setCell_other _ _ _ _ o01).trans c1⟩,
  (World.frozen?_setCell _ _ _ _).trans h.f0, (World.frozen?_setCell _ _ _ _).trans h.f1,
  k2.ownsRow h.ob fun b h1 h2 => h.ne (by rw [h1, h2]), h.ne, hg, hgg⟩
theorem LnS.app {W0 w0 w w' : World} {g gt : Nat} {ca : Option Addr} {n cap : Nat} {l : List Int} {p : Int} {a a' : Option Addr} {c c' : Nat} {bs bs' : List BarT} (h : LnS W0 w0 w g gt ca n cap l p a c bs) (ho : OwnBars w' (w0.heap.size + 1) (.slice a' bs'.length c') bs') (hk : Kept (fun k => some k = (Value.slice a bs.length c).ownBlock) w w') (ha : (Value.slice a' bs'.length c').ownBlock = (Value.slice a bs.length c).ownBlock ∨ ∀ b, (Value.slice a' bs'.length c').ownBlock = some b → w.heap.size ≤ b) :
  LnS W0 w0 (w'.setCell ⟨gt, 1, none⟩ (.slice a' bs'.length c')) g gt ca n cap l p a' c' bs' := by
 have hg := h.gl
 have hgg := h.gg
 have hlow := h.d.low
 have nlow : ∀ b, b < w0.heap.size + 1 → ¬ some b = (Value.slice a bs.length c).ownBlock := fun b hb e => by have := (h.ob.lt b e.symm).1; omega
 have ngt : ¬ some gt = (Value.slice a bs.length c).ownBlock := fun e => h.ne e.symm
 have ngt' : (Value.slice a' bs'.length c').ownBlock ≠ some gt := fun e => by
  rcases ha with h1 | h1
  ·exact h.ne (h1.symm.trans e)
  ·have := h1 _ e; have := h.bx.1; omega
 have ks : Kept (fun k => k = gt) w' (w'.setCell ⟨gt, 1, none⟩ (.slice a' bs'.length c')) := keptSet' (S := fun k => k = gt) rfl
 obtain ⟨hz, c0, c1⟩ := h.bx.kept hk ngt
 have o01 : (⟨gt, 0, none⟩ : Addr) ≠ ⟨gt, 1, none⟩ := by simp
 exact ⟨(h.d.kept hk (nlow _ (by omega)) fun b hb => nlow _ (by omega)).kept ks (by omega) (fun b hb => by omega), (h.k.on hk fun i hi e => absurd e (nlow i (by omega))).on ks fun i hi e => by omega, (h.rz.kept hk (nlow _ (by omega))).kept ks (by omega),
  ⟨by simpa using hz, (World.cell?_setCell_other _ _ _ _ o01.symm).trans c0, World.cell?_setCell_same _ _ _ c1⟩,
  (World.frozen?_setCell _ _ _ _).trans ((hk.frozen h.bx.1 ngt).trans h.f0), (World.frozen?_setCell _ _ _ _).trans ((hk.frozen h.bx.1 ngt).trans h.f1),
  ks.ownsRow ho fun b h1 h2 => ngt' (by rw [h1, h2]), ngt', hg, hgg⟩
theorem LnS.fin {W0 w0 w : World} {g gt : Nat} {ca : Option Addr} {n cap : Nat} {l : List Int} {p : Int} {a : Option Addr} {c : Nat} {bs : List BarT} (h : LnS W0 w0 w g gt ca n cap l p a c bs) :
  OwnBars ((w.setCell ⟨w0.heap.size, 0, none⟩ (.int .i64 p)).setCell ⟨w0.heap.size, 1, none⟩ (.slice a bs.length c)) w0.heap.size (.slice a bs.length c) bs ∧ Drw W0 ((w.setCell ⟨w0.heap.size, 0, none⟩ (.int .i64 p)).setCell ⟨w0.heap.size, 1, none⟩ (.slice a bs.length c)) g ca n cap l ∧ Kept (fun b => b = g) w0 ((w.setCell ⟨w0.heap.size, 0, none⟩ (.int .i64 p)).setCell ⟨w0.heap.size, 1, none⟩ (.slice a bs.length c)) := by
 have hg := h.gl
 have hlow := h.d.low
 have k2 : Kept (fun b => b = w0.heap.size) w ((w.setCell ⟨w0.heap.size, 0, none⟩ (.int .i64 p)).setCell ⟨w0.heap.size, 1, none⟩ (.slice a bs.length c)) := (keptSet' (S := fun b => b = w0.heap.size) rfl).trans (keptSet' (S := fun b => b = w0.heap.size) rfl)
 exact ⟨ownsRow_base (k2.ownsRow h.ob fun b h1 h2 => by have := (h.ob.lt b h1).1; omega) (by omega), h.d.kept k2 (by omega) (fun b hb => by omega), h.k.on k2 fun i h1 h2 => by omega⟩
theorem LnS.box {W0 w0 w : World} {g : Nat} {ca : Option Addr} {n cap : Nat} {l : List Int} {p : Int} {a : Option Addr} {c : Nat} {bs : List BarT} (hd : Drw W0 w g ca n cap l) (hk : Kept (fun b => b = g) w0 w) (hz : Zer2 w w0.heap.size) (ho : OwnBars w (w0.heap.size + 1) (.slice a bs.length c) bs) (hgl : g < w0.heap.size) (hlt : w0.heap.size < w.heap.size) :
  LnS W0 w0 (w.alloc (.cells #[.int .i64 p, .slice a bs.length c] 26)) g w.heap.size ca n cap l p a c bs := by
 have ba := belAl w (.cells #[.int .i64 p, .slice a bs.length c] 26)
 have hbx : BoxGr (w.alloc (.cells #[.int .i64 p, .slice a bs.length c] 26)) w.heap.size p a bs.length c := BoxGr.at rfl
 exact ⟨hd.below ba, hk.trans (Kept.of_below ba), hz.below ba, hbx, by simp [World.frozen?_alloc_new], by simp [World.frozen?_alloc_new], OwnBars.below ho ba, fun e => by have := (ho.lt _ e).2; omega, hgl, hlt⟩
set_option maxHeartbeats 16000000 in
theorem l2Graph_at (W0 w : World) (g : Nat) (ca : Option Addr) (n cap : Nat) (l : List Int) (hB : BytesAt W0 ca n l) (hn : n ≤ 1099511627776) (h : Drw W0 w g ca n cap l) :
  Calls Tryz.prog 107 #[.pointer (some ⟨g, 0, none⟩)] w (RetDg W0 w g ca n cap l fun p bs => (2 ≤ p ∧ p ≤ 6) ∧ bs.length ≤ 24) := by
 have HD : Hid (∀ (m : Int) w9, 1 ≤ m ∧ m ≤ 256 → Drw W0 w9 g ca n cap l → Calls Tryz.prog 88 #[.pointer (some ⟨g, 0, none⟩), .int .i64 m] w9 (RetDi W0 w9 g ca n cap l 0 (m - 1))) := Lib.hid fun m w9 hm h9 => l1Below_at W0 w9 g ca n cap l hB hn h9 m hm
 have HS : Hid (∀ (P : Nat) (odd : Int) w9, P ≤ 6 → Drw W0 w9 g ca n cap l → Calls Tryz.prog 140 #[.pointer (some ⟨g, 0, none⟩), .int .i64 P, .int .i64 odd] w9 (RetDg W0 w9 g ca n cap l fun p bs => p = (P : Int) ∧ BIn P 24 bs)) := Lib.hid fun P odd w9 hm h9 => l2Simple_at W0 w9 g ca n cap l hB hn h9 P (by omega) odd
 have ba := belAl w (.cells #[.int .i64 0, .slice none 0 0] 26)
 have Z := Lib.hid (Zer2.at w 26)
 have D := Lib.hid (h.below ba)
 have K := Lib.hid (Kept.of_below (S := fun b => b = g) ba)
 have hgw := h.hi
 have hzu : w.heap.size < (w.alloc (.cells #[.int .i64 0, .slice none 0 0] 26)).heap.size := by simp
 clear hB h ba
 go_enter Tryz.func107, Tryz.ntmps107
 go_wp2_with fail
 generalize (w.alloc (.cells #[.int .i64 0, .slice none 0 0] 26)) = u at *
 refine (HD.out 5 u (by decide) D.out).mono ?_
 rintro e w1 ⟨x, hx, rfl, d1, k1⟩
 replace D := Lib.hid d1
 replace K := Lib.hid (K.out.trans k1)
 replace Z := Lib.hid (Z.out.kept k1 (by omega))
 have hz1 := k1.size
 clear d1 k1
 have hwx := IntWalk.i64_in (2 + x) (by omega)
 go_wp2_with fail
 refine (HD.out 4 w1 (by decide) D.out).mono ?_
 rintro e w2 ⟨y, hy, rfl, d1, k1⟩
 replace D := Lib.hid d1
 replace K := Lib.hid (K.out.trans k1)
 replace Z := Lib.hid (Z.out.kept k1 (by omega))
 have hz2 := k1.size
 clear d1 k1
 have hwy := IntWalk.i64_in (5 + y) (by omega)
 obtain ⟨P, hP⟩ : ∃ P : Nat, 2 + x = P := ⟨(2 + x).toNat, by omega⟩
 have hP2 : 2 ≤ P ∧ P ≤ 6 := by omega
 rw [hP] at hwx
 go_wp2_with fail
 try rw [hP]
 clear hP hwx hx hwy
 refine (HS.out P (5 + y) w2 (by omega) D.out).mono ?_
 rintro e w3 ⟨p, a, c, bs, rfl, ob, ⟨rfl, hbl, -⟩, d1, k1⟩
 have LN := Lib.hid (LnS.box (p := (P : Int)) d1 (K.out.trans k1) (Z.out.kept k1 (by omega)) (OwnBars.low ob (by omega)) hgw (by have := k1.size; omega))
 clear d1 k1 ob D K Z hy
 go_wp2_with fail
 obtain ⟨gt, hgt⟩ : ∃ q, q = w3.heap.size := ⟨_, rfl⟩
 rw [← hgt] at LN
 try rw [← hgt]
 generalize (w3.alloc (.cells #[.int .i64 (P : Int), .slice a bs.length c] 26)) = w4 at *
 clear hgt hz1 hz2
 refine (HD.out 3 w4 (by decide) LN.out.d).mono ?_
 rintro e w5 ⟨x3, hx3, rfl, d1, k1⟩
 replace LN := Lib.hid (LN.out.draw d1 k1)
 clear d1 k1
 go_wp2_with fail
 refine (HD.out 2 w5 (by decide) LN.out.d).mono ?_
 rintro e w6 ⟨x2, hx2, rfl, d1, k1⟩
 replace LN := Lib.hid (LN.out.draw d1 k1)
 clear d1 k1
 obtain ⟨K3, hK3, hK4⟩ : ∃ K3 : Nat, x3 * x2 = (K3 : Int) ∧ K3 ≤ 2 := by
  have e1 : x2 = 0 ∨ x2 = 1 := by omega
  rcases e1 with rfl | rfl
  ·exact ⟨0, by omega, by omega⟩
  ·exact ⟨x3.toNat, by omega, by omega⟩
 have hwm := IntWalk.i64_in (K3 : Int) (by omega)
 go_wp2_with fail
 clear hK3 hwm hx3 hx2
 obtain ⟨wA, hwA⟩ : ∃ w9, w9 = w6 := ⟨_, rfl⟩
 subst hwA
 go_loopw [4] (fun i w9 => ∃ (k : Nat) (a : Option Addr) (c : Nat) (bs : List BarT), k ≤ 2 ∧ i = .int .i64 k ∧ LnS W0 w w9 g gt ca n cap l P a c bs ∧ bs.length ≤ 24) (fun i _ => (intOf i).toNat)
 case atStart => exact ⟨K3, a, c, bs, hK4, rfl, LN.out, hbl⟩
 case round =>
  clear LN hbl
  obtain ⟨k, a, c, bs, hk, rfl, hln, hbl⟩ := hrel
  have LN := Lib.hid hln
  clear hln
  by_cases hlt : 0 < k
  ·have hki : (0 : Int) < (k : Int) := by omega
   obtain ⟨zB, cB0, cB1⟩ := LN.out.bx
   go_wp2_with fail
   clear zB cB0 cB1
   refine (HD.out P wr (by omega) LN.out.d).mono ?_
   rintro e w7 ⟨x7, hx7, rfl, d1, k1⟩
   replace LN := Lib.hid (LN.out.draw d1 k1)
   clear d1 k1
   obtain ⟨zB, cB0, cB1⟩ := LN.out.bx
   go_wp2_with fail
   clear zB cB0 cB1
   refine (HD.out P w7 (by omega) LN.out.d).mono ?_
   rintro e w8 ⟨x8, hx8, rfl, d1, k1⟩
   replace LN := Lib.hid (LN.out.draw d1 k1)
   clear d1 k1
   obtain ⟨zB, cB0, cB1⟩ := LN.out.bx
   go_wp2_with fail
   clear zB cB0 cB1
   refine (specAddX_at w8 (P : Int) a c bs (ownBars_at LN.out.ob) (by omega) x7 x8 (by omega) (by omega)).mono ?_
   rintro e w9 ⟨v9, bo, rfl, ⟨vb, ⟨a9, c9, rfl, rfl⟩, ob9⟩, b9⟩
   dsimp only at ob9
   obtain ⟨s9, hs9⟩ : ∃ q, q = addX (P : Int) bs x7 x8 := ⟨_, rfl⟩
   have h24 : s9.length ≤ 24 := by rw [hs9]; exact addX_len hbl
   rw [← hs9] at ob9
   try rw [← hs9]
   clear hs9
   have hgt8 := LN.out.bx.1
   replace LN := Lib.hid (LN.out.below b9)
   have LN2 := Lib.hid (LN.out.set ob9 hgt8)
   obtain ⟨zB, cB0, cB1⟩ := LN.out.bx
   have q0 := LN.out.f0
   have q1 := LN.out.f1
   have hwk := IntWalk.i64_in ((k : Int) - 1) (by omega)
   clear b9 ob9 hgt8
   go_wp2_with fail
   go_roundw
   case rel => exact ⟨k - 1, a9, c9, s9, by omega, by go_num, LN2.out, h24⟩
   case measure => simp [intOf]; omega
  ·have hki : ¬ (0 : Int) < (k : Int) := by omega
   obtain ⟨zB, cB0, cB1⟩ := LN.out.bx
   obtain ⟨⟨z1, z2, z3, c0, c1⟩, ⟨f0, f1⟩, gz⟩ := LN.out.rz
   have HF := Lib.hid LN.out.fin
   go_wp2_with fail
   refine bodyPost_ret (v := .agg #[.int .i64 (P : Int), .slice a bs.length c]) (by simp [results, Tryz.results107, go_sem, gz, c0, c1]) rfl ?_
   exact ⟨(P : Int), a, c, bs, rfl, HF.out.1, ⟨by omega, hbl⟩, HF.out.2.1, HF.out.2.2⟩
theorem litBarT (w : World) (a b : Int) : BarsAt (w.alloc (.cells #[.int .i64 a, .int .i64 b] 70)) (some ⟨w.heap.size, 0, none⟩) 1 [(a, b)] :=
 ⟨rfl, fun k hk => by
  obtain rfl : k = 0 := by omega
  exact ⟨w.heap.size, 0, (a, b), rfl, by simp, rfl, by simp [World.cell?_alloc_new], by simp [World.cell?_alloc_new]⟩⟩
set_option maxHeartbeats 16000000 in
theorem l2Any_at (W0 w : World) (g : Nat) (ca : Option Addr) (n cap : Nat) (l : List Int) (hB : BytesAt W0 ca n l) (hn : n ≤ 1099511627776) (h : Drw W0 w g ca n cap l) :
  Calls Tryz.prog 57 #[.pointer (some ⟨g, 0, none⟩)] w (RetDg W0 w g ca n cap l fun p bs => bs.length ≤ 25) := by
 have HD : Hid (∀ (m : Int) w9, 1 ≤ m ∧ m ≤ 256 → Drw W0 w9 g ca n cap l → Calls Tryz.prog 88 #[.pointer (some ⟨g, 0, none⟩), .int .i64 m] w9 (RetDi W0 w9 g ca n cap l 0 (m - 1))) := Lib.hid fun m w9 hm h9 => l1Below_at W0 w9 g ca n cap l hB hn h9 m hm
 have HG : Hid (∀ w9, Drw W0 w9 g ca n cap l → Calls Tryz.prog 107 #[.pointer (some ⟨g, 0, none⟩)] w9 (RetDg W0 w9 g ca n cap l fun p bs => (2 ≤ p ∧ p ≤ 6) ∧ bs.length ≤ 24)) := Lib.hid fun w9 h9 => l2Graph_at W0 w9 g ca n cap l hB hn h9
 have HP : Hid (∀ w9, Drw W0 w9 g ca n cap l → ∀ base, g < base → ∀ v xs, OwnInts w9 base v xs → 1 ≤ xs.length → xs.length ≤ 256 → Calls Tryz.prog 108 #[.pointer (some ⟨g, 0, none⟩), v] w9 fun e w' => ∃ x, x ∈ xs ∧ e = .returned (.int .i64 x) ∧ Drw W0 w' g ca n cap l ∧ Kept (fun b => b = g) w9 w') := Lib.hid fun w9 h9 base hg v xs ho h1 h2 => l1PickInt_at W0 w9 g ca n cap l hB hn h9 hg ho h1 h2
 have ba := belAl w (.cells #[.int .i64 0, .slice none 0 0] 26)
 have Z := Lib.hid (Zer2.at w 26)
 have D := Lib.hid (h.below ba)
 have K := Lib.hid (Kept.of_below (S := fun b => b = g) ba)
 have hgw := h.hi
 have hzu : w.heap.size < (w.alloc (.cells #[.int .i64 0, .slice none 0 0] 26)).heap.size := by simp
 clear hB h ba
 go_enter Tryz.func57, Tryz.ntmps57
 go_wp2_with fail
 generalize (w.alloc (.cells #[.int .i64 0, .slice none 0 0] 26)) = u at *
 refine (HG.out u D.out).mono ?_
 rintro e w3 ⟨p, a, c, bs, rfl, ob, ⟨-, hbl⟩, d1, k1⟩
 have LN := Lib.hid (LnS.box (p := p) d1 (K.out.trans k1) (Z.out.kept k1 (by omega)) (OwnBars.low ob (by omega)) hgw (by have := k1.size; omega))
 clear d1 k1 ob D K Z
 go_wp2_with fail
 obtain ⟨gt, hgt⟩ : ∃ q, q = w3.heap.size := ⟨_, rfl⟩
 rw [← hgt] at LN
 try rw [← hgt]
 generalize (w3.alloc (.cells #[.int .i64 p, .slice a bs.length c] 26)) = w4 at *
 clear hgt
 refine (HD.out 16 w4 (by decide) LN.out.d).mono ?_
 rintro e w5 ⟨x, hx, rfl, d1, k1⟩
 replace LN := Lib.hid (LN.out.draw d1 k1)
 clear d1 k1
 cases h0 : (x == 0)
 ·cases h1 : (x == 1)
  ·obtain ⟨zB, cB0, cB1⟩ := LN.out.bx
   obtain ⟨⟨z1, z2, z3, c0, c1⟩, ⟨f0, f1⟩, gz⟩ := LN.out.rz
   have HF := Lib.hid LN.out.fin
   go_wp2_with fail
   refine bodyPost_ret (v := .agg #[.int .i64 p, .slice a bs.length c]) (by simp [results, Tryz.results57, go_sem, gz, c0, c1]) rfl ?_
   exact ⟨p, a, c, bs, rfl, HF.out.1, by omega, HF.out.2.1, HF.out.2.2⟩
  ·obtain ⟨zB, cB0, cB1⟩ := LN.out.bx
   go_wp2_with fail
   clear zB cB0 cB1
   have FD := Lib.hid (LN.out.below (w' := w5.drew) (Below.refl _ _).drew)
   have s0 : w5.drew.cell? ⟨gt, 1, none⟩ = some (.slice a bs.length c) ∧ True := ⟨FD.out.bx.2.2, trivial⟩
   refine wp_regionZ (fun w' => w'.cell? ⟨gt, 1, none⟩ = some (.slice a bs.length c) ∧ True) 10 (by kernel_rfl) ?_
   clear LN
   generalize w5.drew = wd at *
   refine wpAnyZ_takeC (i := 0) (v := ?_) [10] rfl (by kernel_rfl) (by kernel_rfl) (by kernel_rfl) (by kernel_rfl) (by kernel_rfl) (by kernel_rfl) (fun _ _ _ h => h) (s0) (by rfl) ?_ ?_
   rotate_left
   · intro x hx; obtain ⟨u1, u2⟩ := hx; go_simp; try (with_reducible rfl)
   try simp only [Act.put, List.setIfInBounds_toArray, List.set_cons_zero, List.set_cons_succ, List.getElem_toArray, List.getElem_cons_zero, List.getElem_cons_succ]
   refine wpAnyZ_takeC (i := 1) (v := ?_) [10] rfl (by kernel_rfl) (by kernel_rfl) (by kernel_rfl) (by kernel_rfl) (by kernel_rfl) (by kernel_rfl) (fun _ _ _ h => h) (s0) (by rfl) ?_ ?_
   rotate_left
   · intro x hx; obtain ⟨u1, u2⟩ := hx; go_simp; try (with_reducible rfl)
   try simp only [Act.put, List.setIfInBounds_toArray, List.set_cons_zero, List.set_cons_succ, List.getElem_toArray, List.getElem_cons_zero, List.getElem_cons_succ]
   refine wpAnyZ_takeC (i := 2) (v := ?_) [10] rfl (by kernel_rfl) (by kernel_rfl) (by kernel_rfl) (by kernel_rfl) (by kernel_rfl) (by kernel_rfl) (fun _ _ _ h => h) (s0) (by rfl) ?_ ?_
   rotate_left
   · intro x hx; obtain ⟨u1, u2⟩ := hx; go_simp; try (with_reducible rfl)
   try simp only [Act.put, List.setIfInBounds_toArray, List.set_cons_zero, List.set_cons_succ, List.getElem_toArray, List.getElem_cons_zero, List.getElem_cons_succ]
   refine wpAnyZ_takeC (i := 4) (v := ?_) [10] rfl (by kernel_rfl) (by kernel_rfl) (by kernel_rfl) (by kernel_rfl) (by kernel_rfl) (by kernel_rfl) (fun _ _ _ h => h) (s0) (by rfl) ?_ ?_
   rotate_left
   · intro x hx; obtain ⟨u1, u2⟩ := hx; go_simp; try (with_reducible rfl)
   try simp only [Act.put, List.setIfInBounds_toArray, List.set_cons_zero, List.set_cons_succ, List.getElem_toArray, List.getElem_cons_zero, List.getElem_cons_succ]
   refine wpAnyZ_step (i := 3) (by kernel_rfl) rfl (by rfl) ?_
   intro KK hKK
   go_simp
   go_at_call 88
   refine (HD.out 3 wd (by decide) FD.out.d).mono ?_
   rintro e w6 ⟨x6, hx6, rfl, d1, k1⟩
   have F6 := Lib.hid (FD.out.draw d1 k1)
   clear d1 k1 FD s0
   have s6 : w6.cell? ⟨gt, 1, none⟩ = some (.slice a bs.length c) ∧ True := ⟨F6.out.bx.2.2, trivial⟩
   go_wp2_with fail
   refine hKK.out _ _ (.inr s6) ?_
   clear hKK KK
   try simp only [Act.put, List.setIfInBounds_toArray, List.set_cons_zero, List.set_cons_succ, List.getElem_toArray, List.getElem_cons_zero, List.getElem_cons_succ]
   refine wpAnyZ_step (i := 5) (by kernel_rfl) rfl (by rfl) ?_
   intro KK hKK
   go_simp
   go_at_call 88
   refine (HD.out 9 w6 (by decide) F6.out.d).mono ?_
   rintro e w7 ⟨x7, hx7, rfl, d1, k1⟩
   have F7 := Lib.hid (F6.out.draw d1 k1)
   clear d1 k1 F6 s6
   have s7 : w7.cell? ⟨gt, 1, none⟩ = some (.slice a bs.length c) ∧ True := ⟨F7.out.bx.2.2, trivial⟩
   go_wp2_with fail
   refine hKK.out _ _ (.inr s7) ?_
   clear hKK KK
   try simp only [Act.put, List.setIfInBounds_toArray, List.set_cons_zero, List.set_cons_succ, List.getElem_toArray, List.getElem_cons_zero, List.getElem_cons_succ]
   refine wpAnyZ_step (i := 6) (by kernel_rfl) rfl (by rfl) ?_
   intro KK hKK
   go_simp
   refine hKK.out _ _ (.inr s7) ?_
   clear hKK KK
   try simp only [Act.put, List.setIfInBounds_toArray, List.set_cons_zero, List.set_cons_succ, List.getElem_toArray, List.getElem_cons_zero, List.getElem_cons_succ]
   have bl := belAl w7 (.cells #[.int .i64 x6, .int .i64 x7] 70)
   have F8 := Lib.hid (F7.out.below bl)
   have HLI := Lib.hid (litBarT w7 x6 x7)
   have s8 : (w7.alloc (.cells #[.int .i64 x6, .int .i64 x7] 70)).cell? ⟨gt, 1, none⟩ = some (.slice a bs.length c) ∧ True := ⟨F8.out.bx.2.2, trivial⟩
   clear bl F7
   refine wpAnyZ_step (i := 7) (by kernel_rfl) rfl (by rfl) ?_
   intro KK hKK
   go_simp
   refine hKK.out _ _ (.inr s8) ?_
   clear hKK KK
   try simp only [Act.put, List.setIfInBounds_toArray, List.set_cons_zero, List.set_cons_succ, List.getElem_toArray, List.getElem_cons_zero, List.getElem_cons_succ]
   have hz8 := F8.out.d.bel.size
   have hgg := F8.out.gg
   have hgt8 := F8.out.bx.1
   refine wpAnyZ_step (i := 8) (by kernel_rfl) rfl (by rfl) ?_
   intro KK hKK
   refine stepAppBars (by rfl) _ _ (by rfl) (by rfl) F8.out.ob (by rfl) HLI.out (by omega) (by omega) ?_
   intro v9 w9 h9 k9 a9
   obtain ⟨av, cv, rfl, -⟩ := h9.form
   have F9 := Lib.hid (F8.out.app h9 k9 (a9.imp id fun e b hb => by rw [e] at hb; exact Nat.le_of_eq (Option.some.inj hb)))
   have ngt : ¬ some gt = (Value.slice a bs.length c).ownBlock := fun e => F8.out.ne e.symm
   have s9 : w9.cell? ⟨gt, 1, none⟩ = some (.slice a bs.length c) ∧ True := ⟨(k9.cell hgt8 ngt).trans F8.out.bx.2.2, trivial⟩
   have f9 : w9.frozen? ⟨gt, 1, none⟩ = false := (k9.frozen hgt8 ngt).trans F8.out.f1
   clear h9 k9 a9 F8 HLI ngt s8 s7
   refine hKK.out _ _ (.inr s9) ?_
   clear hKK KK
   try simp only [Act.put, List.setIfInBounds_toArray, List.set_cons_zero, List.set_cons_succ, List.getElem_toArray, List.getElem_cons_zero, List.getElem_cons_succ]
   refine wpAnyZ_step (i := 9) (by kernel_rfl) rfl (by rfl) ?_
   intro KK hKK
   go_simp
   refine hKK.out _ _ (.inr s9) ?_
   clear hKK KK
   try simp only [Act.put, List.setIfInBounds_toArray, List.set_cons_zero, List.set_cons_succ, List.getElem_toArray, List.getElem_cons_zero, List.getElem_cons_succ]
   obtain ⟨c9, -⟩ := s9
   refine wpAnyZ_step (i := 10) (by kernel_rfl) rfl (by rfl) ?_
   intro KK hKK
   go_simp
   refine hKK.out _ _ (.inl (by kernel_rfl)) ?_
   clear hKK KK
   try simp only [Act.put, List.setIfInBounds_toArray, List.set_cons_zero, List.set_cons_succ, List.getElem_toArray, List.getElem_cons_zero, List.getElem_cons_succ]
   refine wpAnyZ_done (by kernel_rfl) ?_ _
   clear c9 f9
   have F10 := F9.out
   rw [show (bs ++ [(x6, x7)]).length = bs.length + 1 by simp] at F10
   obtain ⟨zB, cB0, cB1⟩ := F10.bx
   obtain ⟨⟨z1, z2, z3, c0, c1⟩, ⟨f0, f1⟩, gz⟩ := F10.rz
   have HF := Lib.hid F9.out.fin
   rw [show (bs ++ [(x6, x7)]).length = bs.length + 1 by simp] at HF
   clear F9 F10
   go_wp2_with fail
   refine bodyPost_ret (v := .agg #[.int .i64 p, .slice av (bs.length + 1) cv]) (by simp [results, Tryz.results57, go_sem, gz, c0, c1]) rfl ?_
   exact ⟨p, av, cv, bs ++ [(x6, x7)], by simp, by rw [show (bs ++ [(x6, x7)]).length = bs.length + 1 by simp]; exact HF.out.1, by simp; omega, HF.out.2.1, HF.out.2.2⟩
 ·obtain ⟨zB, cB0, cB1⟩ := LN.out.bx
  go_wp2_with fail
  have bl := belAl w5 (.cells #[.int .i64 0, .int .i64 (-1), .int .i64 9, .int .i64 3] 3)
  have HLIT : Hid (OwnInts (w5.alloc (.cells #[.int .i64 0, .int .i64 (-1), .int .i64 9, .int .i64 3] 3)) w5.heap.size (.slice (some ⟨w5.heap.size, 0, none⟩) 4 4) [0, -1, 9, 3]) := Lib.hid ⟨by simp, .inr ⟨w5.heap.size, 4, _, rfl, Nat.le_refl _, heap_alloc_new w5 _, Nat.le_refl _, by decide, rfl, by simp⟩⟩
  have hg5 : g < w5.heap.size := LN.out.d.hi
  replace LN := Lib.hid (LN.out.below bl)
  clear bl zB cB0 cB1
  refine (HP.out _ LN.out.d _ hg5 _ _ HLIT.out (by simp) (by simp)).mono ?_
  rintro e w7 ⟨z, -, rfl, d7, k7⟩
  replace LN := Lib.hid (LN.out.draw d7 k7)
  have LN2 := Lib.hid (LN.out.setP (q := z))
  have q0 := LN.out.f0
  obtain ⟨zB, cB0, cB1⟩ := LN.out.bx
  obtain ⟨zC, cC0, cC1⟩ := LN2.out.bx
  obtain ⟨⟨z1, z2, z3, c0, c1⟩, ⟨f0, f1⟩, gz⟩ := LN2.out.rz
  have HF := Lib.hid LN2.out.fin
  clear d7 k7 HLIT LN LN2
  go_wp2_with fail
  refine bodyPost_ret (v := .agg #[.int .i64 z, .slice a bs.length c]) (by simp [results, Tryz.results57, go_sem, gz, c0, c1]) rfl ?_
  exact ⟨z, a, c, bs, rfl, HF.out.1, by omega, HF.out.2.1, HF.out.2.2⟩
end Go.Proofs.YtfbmpkdjhhcnpaaGreat

