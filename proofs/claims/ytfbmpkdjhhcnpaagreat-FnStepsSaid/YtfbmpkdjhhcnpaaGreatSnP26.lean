/- Drawing graphs that steps build, and near ones: l6Any of the reference. No condition but sizes. -/
import Derived.Test.YtfbmpkdjhhcnpaaGreatSnP25
import Derived.Deep.QuietTactic
import Derived.BigQuiet
import Derived.Test.YtfbmpkdjhhcnpaaGreatSnP07
import Derived.Test.YtfbmpkdjhhcnpaaGreatSnP08
import Derived.Test.YtfbmpkdjhhcnpaaGreatSnP21
import Derived.Test.YtfbmpkdjhhcnpaaGreatSnP23
import Derived.Test.YtfbmpkdjhhcnpaaGreatSnP10
import Derived.Test.YtfbmpkdjhhcnpaaGreatSnP04
namespace Go.Proofs.YtfbmpkdjhhcnpaaGreat
open Go.RowKit
set_option maxRecDepth 100000
set_option linter.unusedVariables false
set_option linter.unusedSimpArgs false
theorem finG {W0 w0 w : World} {g : Nat} {ca : Option Addr} {n cap : Nat} {l : List Int} {p : Int} {a : Option Addr} {c : Nat} {bs : List BarT} (hd : Drw W0 w g ca n cap l) (hk : Kept (fun b => b = g) w0 w) (ho : OwnBars w (w0.heap.size + 1) (.slice a bs.length c) bs) (hg : g < w0.heap.size) :
  OwnBars ((w.setCell ⟨w0.heap.size, 0, none⟩ (.int .i64 p)).setCell ⟨w0.heap.size, 1, none⟩ (.slice a bs.length c)) w0.heap.size (.slice a bs.length c) bs ∧ Drw W0 ((w.setCell ⟨w0.heap.size, 0, none⟩ (.int .i64 p)).setCell ⟨w0.heap.size, 1, none⟩ (.slice a bs.length c)) g ca n cap l ∧ Kept (fun b => b = g) w0 ((w.setCell ⟨w0.heap.size, 0, none⟩ (.int .i64 p)).setCell ⟨w0.heap.size, 1, none⟩ (.slice a bs.length c)) := by
 have hlow := hd.low
 have k2 : Kept (fun b => b = w0.heap.size) w ((w.setCell ⟨w0.heap.size, 0, none⟩ (.int .i64 p)).setCell ⟨w0.heap.size, 1, none⟩ (.slice a bs.length c)) := (keptSet' (S := fun b => b = w0.heap.size) rfl).trans (keptSet' (S := fun b => b = w0.heap.size) rfl)
 exact ⟨ownsRow_base (k2.ownsRow ho fun b h1 h2 => by have := (ho.lt b h1).1; omega) (by omega), hd.kept k2 (by omega) (fun b hb => by omega), hk.on k2 fun i h1 h2 => by omega⟩
theorem LnS.setQ {W0 w0 w : World} {g gt lo : Nat} {ca : Option Addr} {n cap : Nat} {l : List Int} {p q : Int} {a a' : Option Addr} {c c' : Nat} {bs bs' : List BarT} (h : LnS W0 w0 w g gt ca n cap l p a c bs) (ho : OwnBars w lo (.slice a' bs'.length c') bs') (hlo : gt < lo) :
  LnS W0 w0 ((w.setCell ⟨gt, 0, none⟩ (.int .i64 q)).setCell ⟨gt, 1, none⟩ (.slice a' bs'.length c')) g gt ca n cap l q a' c' bs' := by
 have hg := h.gl
 have hgg := h.gg
 have hlow := h.d.low
 have k2 : Kept (fun b => b = gt) w ((w.setCell ⟨gt, 0, none⟩ (.int .i64 q)).setCell ⟨gt, 1, none⟩ (.slice a' bs'.length c')) := (keptSet' (S := fun b => b = gt) rfl).trans (keptSet' (S := fun b => b = gt) rfl)
 obtain ⟨hz, c0, c1⟩ := h.bx
 have o01 : (⟨gt, 0, none⟩ : Addr) ≠ ⟨gt, 1, none⟩ := by simp
 exact ⟨h.d.kept k2 (by omega) (fun b hb => by omega), h.k.on k2 fun i h1 h2 => by omega, h.rz.kept k2 (by omega),
  ⟨by simpa using hz, (World.cell?_setCell_other _ _ _ _ o01.symm).trans (World.cell?_setCell_same _ _ _ c0), World.cell?_setCell_same _ _ _ ((World.cell?_setCell_other _ _ _ _ o01).trans c1)⟩,
  (World.frozen?_setCell _ _ _ _).trans ((World.frozen?_setCell _ _ _ _).trans h.f0), (World.frozen?_setCell _ _ _ _).trans ((World.frozen?_setCell _ _ _ _).trans h.f1),
  ((ho.set (by show gt < lo; omega) _).set (by show gt < lo; omega) _).low (by omega), fun e => by have := (ho.lt _ e).1; omega, hg, hgg⟩
theorem nilBars (w : World) (base : Nat) : OwnBars w base (.slice none ([] : List BarT).length 0) [] := ⟨rfl, .inl ⟨rfl, rfl⟩⟩
theorem cutG_length' {l : List BarT} {k : Nat} (h : k < l.length) : (cutG l k).length ≤ l.length := by rw [cutG_length h]; omega
set_option maxHeartbeats 16000000 in
theorem l6Any_at (W0 w : World) (g : Nat) (ca : Option Addr) (n cap : Nat) (l : List Int) (hB : BytesAt W0 ca n l) (hn : n ≤ 1099511627776) (h : Drw W0 w g ca n cap l) :
  Calls Tryz.prog 74 #[.pointer (some ⟨g, 0, none⟩)] w (RetDg W0 w g ca n cap l fun p bs => bs.length ≤ 25) := by
 have HD : Hid (∀ (m : Int) w9, 1 ≤ m ∧ m ≤ 256 → Drw W0 w9 g ca n cap l → Calls Tryz.prog 88 #[.pointer (some ⟨g, 0, none⟩), .int .i64 m] w9 (RetDi W0 w9 g ca n cap l 0 (m - 1))) := Lib.hid fun m w9 hm h9 => l1Below_at W0 w9 g ca n cap l hB hn h9 m hm
 have HA : Hid (∀ w9, Drw W0 w9 g ca n cap l → Calls Tryz.prog 57 #[.pointer (some ⟨g, 0, none⟩)] w9 (RetDg W0 w9 g ca n cap l fun p bs => bs.length ≤ 25)) := Lib.hid fun w9 h9 => l2Any_at W0 w9 g ca n cap l hB hn h9
 have HLM : Hid (∀ (P : Nat) w9, 1 ≤ P ∧ P ≤ 6 → Drw W0 w9 g ca n cap l → Calls Tryz.prog 114 #[.pointer (some ⟨g, 0, none⟩), .int .i64 P] w9 (RetDg W0 w9 g ca n cap l fun p bs => p = (P : Int) ∧ isGraphB ((P : Int), bs) = true ∧ bs.length ≤ 18 ∧ (2 ≤ P → 1 ≤ bs.length))) := Lib.hid fun P w9 hP h9 => l6Laman_at W0 w9 g ca n cap l hB hn h9 P hP
 have ba := belAl w (.cells #[.int .i64 0, .slice none 0 0] 26)
 have Z := Lib.hid (Zer2.at w 26)
 have D := Lib.hid (h.below ba)
 have K := Lib.hid (Kept.of_below (S := fun b => b = g) ba)
 have hgw := h.hi
 have hzu : w.heap.size < (w.alloc (.cells #[.int .i64 0, .slice none 0 0] 26)).heap.size := by simp
 clear hB h ba
 go_enter Tryz.func74, Tryz.ntmps74
 go_wp2_with fail
 generalize (w.alloc (.cells #[.int .i64 0, .slice none 0 0] 26)) = u at *
 refine (HD.out 4 u (by decide) D.out).mono ?_
 rintro e w1 ⟨x, hx, rfl, d1, k1⟩
 replace D := Lib.hid d1
 replace K := Lib.hid (K.out.trans k1)
 replace Z := Lib.hid (Z.out.kept k1 (by omega))
 have hz1 := k1.size
 clear d1 k1
 cases h0 : (x == 0)
 rotate_left
 ·go_wp2_with fail
  refine (HA.out w1 D.out).mono ?_
  rintro e w3 ⟨p, a, c, bs, rfl, ob, hbl, d1, k1⟩
  have HF := Lib.hid (finG (p := p) d1 (K.out.trans k1) (OwnBars.low ob (by omega)) hgw)
  obtain ⟨⟨z1, z2, z3, c0, c1⟩, ⟨f0, f1⟩, gz⟩ := Z.out.kept k1 (by omega)
  clear d1 k1 ob D K Z
  go_wp2_with fail
  refine bodyPost_ret (v := .agg #[.int .i64 p, .slice a bs.length c]) (by simp [results, Tryz.results74, go_sem, gz, c0, c1]) rfl ?_
  exact ⟨p, a, c, bs, rfl, HF.out.1, by omega, HF.out.2.1, HF.out.2.2⟩
 cases h1 : (x == 1)
 rotate_left
 ·go_wp2_with fail
  refine (HD.out 5 w1 (by decide) D.out).mono ?_
  rintro e w2 ⟨y, hy, rfl, d1, k1⟩
  replace D := Lib.hid d1
  replace K := Lib.hid (K.out.trans k1)
  replace Z := Lib.hid (Z.out.kept k1 (by omega))
  have hz2 := k1.size
  clear d1 k1
  have hwx := IntWalk.i64_in (2 + y) (by omega)
  obtain ⟨P, hP⟩ : ∃ P : Nat, 2 + y = P := ⟨(2 + y).toNat, by omega⟩
  have hP2 : 2 ≤ P ∧ P ≤ 6 := by omega
  rw [hP] at hwx
  go_wp2_with fail
  try rw [hP]
  clear hP hwx hy
  refine (HLM.out P w2 (by omega) D.out).mono ?_
  rintro e w3 ⟨p, a, c, bs, rfl, ob, ⟨rfl, hgr, hbl, hb1⟩, d1, k1⟩
  have LN := Lib.hid (LnS.box (p := (P : Int)) d1 (K.out.trans k1) (Z.out.kept k1 (by omega)) (OwnBars.low ob (by omega)) hgw (by have := k1.size; omega))
  have hb1' := hb1 hP2.1
  have HGR := Lib.hid hgr
  clear d1 k1 ob D K Z hgr hb1
  go_wp2_with fail
  obtain ⟨gt, hgt⟩ : ∃ q, q = w3.heap.size := ⟨_, rfl⟩
  rw [← hgt] at LN
  try rw [← hgt]
  generalize (w3.alloc (.cells #[.int .i64 (P : Int), .slice a bs.length c] 26)) = w4 at *
  clear hgt hz1 hz2
  have HRM : Hid (∀ (k : Nat) w9, LnS W0 w w9 g gt ca n cap l P a c bs → k < bs.length → Calls Tryz.prog 101 #[.agg #[.int .i64 (P : Int), .slice a bs.length c], .int .i64 (k : Int)] w9 (RetGB w9 ((P : Int), cutG bs k) true)) := Lib.hid fun k w9 h9 hk => specRem_at w9 P a c bs (ownBars_at h9.ob) (by omega) HGR.out k hk (OwnBars.cap h9.ob).1 (OwnBars.cap h9.ob).2
  go_cut [4] (fun s wx => ∃ gx a' c' bs', s = .pointer (some ⟨gx, 0, none⟩) ∧ bs'.length ≤ 25 ∧ LnS W0 w wx g gx ca n cap l P a' c' bs')
  case first =>
   have F := Lib.hid (LN.out.below (w' := w4.drew) (Below.refl _ _).drew)
   have s0 : w4.drew.cell? ⟨gt, 0, none⟩ = some (.int .i64 (P : Int)) ∧ w4.drew.cell? ⟨gt, 1, none⟩ = some (.slice a bs.length c) ∧ True := ⟨F.out.bx.2.1, F.out.bx.2.2, trivial⟩
   refine wp_regionZ (fun w9 => w9.cell? ⟨gt, 0, none⟩ = some (.int .i64 (P : Int)) ∧ w9.cell? ⟨gt, 1, none⟩ = some (.slice a bs.length c) ∧ True) 12 (by kernel_rfl) ?_
   clear LN
   generalize w4.drew = wd at *
   have HLO : Hid (w.heap.size + 1 ≤ wd.heap.size) := Lib.hid (Nat.lt_trans F.out.gg F.out.bx.1)
   refine wpAnyZ_takeC (i := 0) (v := ?_) [12] rfl (by kernel_rfl) (by kernel_rfl) (by kernel_rfl) (by kernel_rfl) (by kernel_rfl) (by kernel_rfl) (fun _ _ _ h => h) (s0) (by rfl) ?_ ?_
   rotate_left
   · intro x hx; obtain ⟨u1, u2, u3⟩ := hx; go_simp; try (with_reducible rfl)
   try simp only [Act.put, List.setIfInBounds_toArray, List.set_cons_zero, List.set_cons_succ, List.getElem_toArray, List.getElem_cons_zero, List.getElem_cons_succ]
   refine wpAnyZ_takeC (i := 1) (v := ?_) [12] rfl (by kernel_rfl) (by kernel_rfl) (by kernel_rfl) (by kernel_rfl) (by kernel_rfl) (by kernel_rfl) (fun _ _ _ h => h) (s0) (by rfl) ?_ ?_
   rotate_left
   · intro x hx; obtain ⟨u1, u2, u3⟩ := hx; go_simp; try (with_reducible rfl)
   try simp only [Act.put, List.setIfInBounds_toArray, List.set_cons_zero, List.set_cons_succ, List.getElem_toArray, List.getElem_cons_zero, List.getElem_cons_succ]
   refine wpAnyZ_takeC (i := 2) (v := ?_) [12] rfl (by kernel_rfl) (by kernel_rfl) (by kernel_rfl) (by kernel_rfl) (by kernel_rfl) (by kernel_rfl) (fun _ _ _ h => h) (s0) (by rfl) ?_ ?_
   rotate_left
   · intro x hx; obtain ⟨u1, u2, u3⟩ := hx; go_simp; try (with_reducible rfl)
   try simp only [Act.put, List.setIfInBounds_toArray, List.set_cons_zero, List.set_cons_succ, List.getElem_toArray, List.getElem_cons_zero, List.getElem_cons_succ]
   refine wpAnyZ_takeC (i := 3) (v := ?_) [12] rfl (by kernel_rfl) (by kernel_rfl) (by kernel_rfl) (by kernel_rfl) (by kernel_rfl) (by kernel_rfl) (fun _ _ _ h => h) (s0) (by rfl) ?_ ?_
   rotate_left
   · intro x hx; obtain ⟨u1, u2, u3⟩ := hx; go_simp; try (with_reducible rfl)
   try simp only [Act.put, List.setIfInBounds_toArray, List.set_cons_zero, List.set_cons_succ, List.getElem_toArray, List.getElem_cons_zero, List.getElem_cons_succ]
   refine wpAnyZ_takeC (i := 4) (v := ?_) [12] rfl (by kernel_rfl) (by kernel_rfl) (by kernel_rfl) (by kernel_rfl) (by kernel_rfl) (by kernel_rfl) (fun _ _ _ h => h) (s0) (by rfl) ?_ ?_
   rotate_left
   · intro x hx; obtain ⟨u1, u2, u3⟩ := hx; go_simp; try (with_reducible rfl)
   try simp only [Act.put, List.setIfInBounds_toArray, List.set_cons_zero, List.set_cons_succ, List.getElem_toArray, List.getElem_cons_zero, List.getElem_cons_succ]
   refine wpAnyZ_node [5, 10] (by kernel_rfl) (by decide) ?_
   intro i hi
   simp only [List.mem_cons, List.not_mem_nil, or_false] at hi
   rcases hi with rfl | rfl
   ·refine ⟨_, rfl, by rfl, ?_⟩
    intro KK hKK
    go_simp
    go_at_call 88
    refine (HD.out (bs.length : Int) wd (by omega) F.out.d).mono ?_
    rintro e wb8 ⟨z, hz, rfl, d1, k1⟩
    replace F := Lib.hid (F.out.draw d1 k1)
    have hsz5 : wd.heap.size ≤ wb8.heap.size := k1.size
    clear d1 k1
    obtain ⟨K5, rfl⟩ : ∃ K5 : Nat, z = (K5 : Int) := ⟨z.toNat, by omega⟩
    have s1 : wb8.cell? ⟨gt, 0, none⟩ = some (.int .i64 (P : Int)) ∧ wb8.cell? ⟨gt, 1, none⟩ = some (.slice a bs.length c) ∧ True := ⟨F.out.bx.2.1, F.out.bx.2.2, trivial⟩
    go_wp2_with fail
    refine hKK.out _ _ (.inr s1) ?_
    clear hKK KK
    try simp only [Act.put, List.setIfInBounds_toArray, List.set_cons_zero, List.set_cons_succ, List.getElem_toArray, List.getElem_cons_zero, List.getElem_cons_succ]
    refine wpAnyZ_node [6, 10] (by kernel_rfl) (by decide) ?_
    intro i hi
    simp only [List.mem_cons, List.not_mem_nil, or_false] at hi
    rcases hi with rfl | rfl
    ·refine ⟨_, rfl, by rfl, ?_⟩
     intro KK hKK
     go_simp
     go_at_call 101
     refine (HRM.out K5 wb8 F.out (by omega)).mono ?_
     rintro e wc10 ⟨v6, rfl, ⟨vb, ⟨a6, c6, rfl, rfl⟩, ob6⟩, b6⟩
     replace F := Lib.hid (F.out.below b6)
     have hsz6 : wb8.heap.size ≤ wc10.heap.size := b6.size
     have OB := Lib.hid ob6
     clear ob6 b6
     have s2 : wc10.cell? ⟨gt, 0, none⟩ = some (.int .i64 (P : Int)) ∧ wc10.cell? ⟨gt, 1, none⟩ = some (.slice a bs.length c) ∧ True := ⟨F.out.bx.2.1, F.out.bx.2.2, trivial⟩
     go_wp2_with fail
     refine hKK.out _ _ (.inr s2) ?_
     clear hKK KK
     try simp only [Act.put, List.setIfInBounds_toArray, List.set_cons_zero, List.set_cons_succ, List.getElem_toArray, List.getElem_cons_zero, List.getElem_cons_succ]
     refine wpAnyZ_takeC (i := 7) (v := ?_) [12] rfl (by kernel_rfl) (by kernel_rfl) (by kernel_rfl) (by kernel_rfl) (by kernel_rfl) (by kernel_rfl) (fun _ _ _ h => h) (s2) (by rfl) ?_ ?_
     rotate_left
     · intro x hx; obtain ⟨u1, u2, u3⟩ := hx; go_simp; try (with_reducible rfl)
     try simp only [Act.put, List.setIfInBounds_toArray, List.set_cons_zero, List.set_cons_succ, List.getElem_toArray, List.getElem_cons_zero, List.getElem_cons_succ]
     refine wpAnyZ_takeC (i := 8) (v := ?_) [12] rfl (by kernel_rfl) (by kernel_rfl) (by kernel_rfl) (by kernel_rfl) (by kernel_rfl) (by kernel_rfl) (fun _ _ _ h => h) (s2) (by rfl) ?_ ?_
     rotate_left
     · intro x hx; obtain ⟨u1, u2, u3⟩ := hx; go_simp; try (with_reducible rfl)
     try simp only [Act.put, List.setIfInBounds_toArray, List.set_cons_zero, List.set_cons_succ, List.getElem_toArray, List.getElem_cons_zero, List.getElem_cons_succ]
     refine wpAnyZ_takeC (i := 9) (v := ?_) [12] rfl (by kernel_rfl) (by kernel_rfl) (by kernel_rfl) (by kernel_rfl) (by kernel_rfl) (by kernel_rfl) (fun _ _ _ h => h) (s2) (by rfl) ?_ ?_
     rotate_left
     · intro x hx; obtain ⟨u1, u2, u3⟩ := hx; go_simp; try (with_reducible rfl)
     try simp only [Act.put, List.setIfInBounds_toArray, List.set_cons_zero, List.set_cons_succ, List.getElem_toArray, List.getElem_cons_zero, List.getElem_cons_succ]
     have hlt9 : w.heap.size < wc10.heap.size := Nat.lt_trans F.out.gg F.out.bx.1
     have hlo9 := Nat.lt_trans F.out.gg F.out.bx.1
     have LF : Hid (LnS W0 w (wc10.alloc (.cells #[.int .i64 (P : Int), .slice a6 (cutG bs K5).length c6] 26)) g wc10.heap.size ca n cap l P a6 c6 (cutG bs K5)) := Lib.hid (LnS.box (p := (P : Int)) F.out.d F.out.k F.out.rz (OwnBars.low OB.out (by have := HLO.out; omega)) F.out.gl hlt9)
     have F1 := Lib.hid (F.out.below (belAl wc10 (.cells #[.int .i64 0, .slice none 0 0] 26)))
     have F2 := Lib.hid (F.out.below (belAl wc10 (.cells #[.int .i64 (P : Int), .slice a6 (cutG bs K5).length c6] 26)))
     have s3 : (wc10.alloc (.cells #[.int .i64 0, .slice none 0 0] 26)).cell? ⟨gt, 0, none⟩ = some (.int .i64 (P : Int)) ∧ (wc10.alloc (.cells #[.int .i64 0, .slice none 0 0] 26)).cell? ⟨gt, 1, none⟩ = some (.slice a bs.length c) ∧ True := ⟨F1.out.bx.2.1, F1.out.bx.2.2, trivial⟩
     have s4 : (wc10.alloc (.cells #[.int .i64 (P : Int), .slice a6 (cutG bs K5).length c6] 26)).cell? ⟨gt, 0, none⟩ = some (.int .i64 (P : Int)) ∧ (wc10.alloc (.cells #[.int .i64 (P : Int), .slice a6 (cutG bs K5).length c6] 26)).cell? ⟨gt, 1, none⟩ = some (.slice a bs.length c) ∧ True := ⟨F2.out.bx.2.1, F2.out.bx.2.2, trivial⟩
     have HZ := Zer2.at wc10 26
     clear F1 F2
     refine wpAnyZ_step (i := 10) (by kernel_rfl) rfl (by rfl) ?_
     intro KK hKK
     go_simp
     refine hKK.out _ _ (.inr s3) ?_
     clear hKK KK
     try simp only [Act.put, List.setIfInBounds_toArray, List.set_cons_zero, List.set_cons_succ, List.getElem_toArray, List.getElem_cons_zero, List.getElem_cons_succ]
     obtain ⟨⟨r0, r1, r2, y0, y1⟩, ⟨g0, g1⟩, gz⟩ := HZ
     refine wpAnyZ_step (i := 11) (by kernel_rfl) rfl (by rfl) ?_
     intro KK hKK
     go_simp
     refine hKK.out _ _ (.inr s4) ?_
     clear hKK KK
     try simp only [Act.put, List.setIfInBounds_toArray, List.set_cons_zero, List.set_cons_succ, List.getElem_toArray, List.getElem_cons_zero, List.getElem_cons_succ]
     refine wpAnyZ_step (i := 12) (by kernel_rfl) rfl (by rfl) ?_
     intro KK hKK
     go_simp
     refine hKK.out _ _ (.inl (by kernel_rfl)) ?_
     clear hKK KK
     try simp only [Act.put, List.setIfInBounds_toArray, List.set_cons_zero, List.set_cons_succ, List.getElem_toArray, List.getElem_cons_zero, List.getElem_cons_succ]
     refine wpAnyZ_done (by kernel_rfl) ?_ _
     go_wp2_with fail
     go_meet
     exact ⟨_, _, _, _, rfl, Nat.le_trans (cutG_length' (by omega)) (by omega), LF.out⟩
    ·refine ⟨_, rfl, by rfl, ?_⟩
     intro KK hKK
     have HNE : Hid (¬ gt = wb8.heap.size) := Lib.hid (by have := F.out.bx.1; omega)
     go_simp
     have hlt9 : w.heap.size < wb8.heap.size := Nat.lt_trans F.out.gg F.out.bx.1
     have LB : Hid (LnS W0 w (wb8.alloc (.cells #[.int .i64 0, .slice none 0 0] 26)) g wb8.heap.size ca n cap l 0 none 0 []) := Lib.hid (LnS.box (p := 0) (a := none) (c := 0) (bs := []) F.out.d F.out.k F.out.rz (nilBars wb8 _) F.out.gl hlt9)
     replace F := Lib.hid (F.out.below (belAl wb8 (.cells #[.int .i64 0, .slice none 0 0] 26)))
     obtain ⟨gx, hgx0⟩ : ∃ q, q = wb8.heap.size := ⟨_, rfl⟩
     rw [← hgx0] at LB HNE
     have s5 : (wb8.alloc (.cells #[.int .i64 0, .slice none 0 0] 26)).cell? ⟨gt, 0, none⟩ = some (.int .i64 (P : Int)) ∧ (wb8.alloc (.cells #[.int .i64 0, .slice none 0 0] 26)).cell? ⟨gt, 1, none⟩ = some (.slice a bs.length c) ∧ True := ⟨F.out.bx.2.1, F.out.bx.2.2, trivial⟩
     refine hKK.out _ _ (.inr s5) ?_
     clear hKK KK
     try simp only [Act.put, List.setIfInBounds_toArray, List.set_cons_zero, List.set_cons_succ, List.getElem_toArray, List.getElem_cons_zero, List.getElem_cons_succ]
     try rw [← hgx0]
     generalize (wb8.alloc (.cells #[.int .i64 0, .slice none 0 0] 26)) = wa10 at *
     clear hgx0
     refine wpAnyZ_step (i := 6) (by kernel_rfl) rfl (by rfl) ?_
     intro KK hKK
     go_simp
     go_at_call 101
     refine (HRM.out K5 wa10 F.out (by omega)).mono ?_
     rintro e wc10 ⟨v6, rfl, ⟨vb, ⟨a6, c6, rfl, rfl⟩, ob6⟩, b6⟩
     replace F := Lib.hid (F.out.below b6)
     have hgx : gx < wa10.heap.size := LB.out.bx.1
     replace LB := Lib.hid (LB.out.below b6)
     have hsz6 : wa10.heap.size ≤ wc10.heap.size := b6.size
     have OB := Lib.hid ob6
     clear ob6 b6
     have s6 : wc10.cell? ⟨gt, 0, none⟩ = some (.int .i64 (P : Int)) ∧ wc10.cell? ⟨gt, 1, none⟩ = some (.slice a bs.length c) ∧ True := ⟨F.out.bx.2.1, F.out.bx.2.2, trivial⟩
     go_wp2_with fail
     refine hKK.out _ _ (.inr s6) ?_
     clear hKK KK
     try simp only [Act.put, List.setIfInBounds_toArray, List.set_cons_zero, List.set_cons_succ, List.getElem_toArray, List.getElem_cons_zero, List.getElem_cons_succ]
     refine wpAnyZ_takeC (i := 7) (v := ?_) [12] rfl (by kernel_rfl) (by kernel_rfl) (by kernel_rfl) (by kernel_rfl) (by kernel_rfl) (by kernel_rfl) (fun _ _ _ h => h) (s6) (by rfl) ?_ ?_
     rotate_left
     · intro x hx; obtain ⟨u1, u2, u3⟩ := hx; go_simp; try (with_reducible rfl)
     try simp only [Act.put, List.setIfInBounds_toArray, List.set_cons_zero, List.set_cons_succ, List.getElem_toArray, List.getElem_cons_zero, List.getElem_cons_succ]
     refine wpAnyZ_takeC (i := 8) (v := ?_) [12] rfl (by kernel_rfl) (by kernel_rfl) (by kernel_rfl) (by kernel_rfl) (by kernel_rfl) (by kernel_rfl) (fun _ _ _ h => h) (s6) (by rfl) ?_ ?_
     rotate_left
     · intro x hx; obtain ⟨u1, u2, u3⟩ := hx; go_simp; try (with_reducible rfl)
     try simp only [Act.put, List.setIfInBounds_toArray, List.set_cons_zero, List.set_cons_succ, List.getElem_toArray, List.getElem_cons_zero, List.getElem_cons_succ]
     refine wpAnyZ_takeC (i := 9) (v := ?_) [12] rfl (by kernel_rfl) (by kernel_rfl) (by kernel_rfl) (by kernel_rfl) (by kernel_rfl) (by kernel_rfl) (fun _ _ _ h => h) (s6) (by rfl) ?_ ?_
     rotate_left
     · intro x hx; obtain ⟨u1, u2, u3⟩ := hx; go_simp; try (with_reducible rfl)
     try simp only [Act.put, List.setIfInBounds_toArray, List.set_cons_zero, List.set_cons_succ, List.getElem_toArray, List.getElem_cons_zero, List.getElem_cons_succ]
     have LF := Lib.hid (LB.out.setQ (q := (P : Int)) OB.out hgx)
     have kx : Kept (fun b => b = gx) wc10 ((wc10.setCell ⟨gx, 0, none⟩ (.int .i64 (P : Int))).setCell ⟨gx, 1, none⟩ (.slice a6 (cutG bs K5).length c6)) := (keptSet' (S := fun b => b = gx) rfl).trans (keptSet' (S := fun b => b = gx) rfl)
     have hbx := F.out.bx.kept kx HNE.out
     have s7 : ((wc10.setCell ⟨gx, 0, none⟩ (.int .i64 (P : Int))).setCell ⟨gx, 1, none⟩ (.slice a6 (cutG bs K5).length c6)).cell? ⟨gt, 0, none⟩ = some (.int .i64 (P : Int)) ∧ ((wc10.setCell ⟨gx, 0, none⟩ (.int .i64 (P : Int))).setCell ⟨gx, 1, none⟩ (.slice a6 (cutG bs K5).length c6)).cell? ⟨gt, 1, none⟩ = some (.slice a bs.length c) ∧ True := ⟨hbx.2.1, hbx.2.2, trivial⟩
     obtain ⟨zX, cX0, cX1⟩ := LB.out.bx
     have q0 := LB.out.f0
     have q1 := LB.out.f1
     clear kx hbx
     refine wpAnyZ_step (i := 11) (by kernel_rfl) rfl (by rfl) ?_
     intro KK hKK
     go_simp
     refine hKK.out _ _ (.inr s7) ?_
     clear hKK KK
     try simp only [Act.put, List.setIfInBounds_toArray, List.set_cons_zero, List.set_cons_succ, List.getElem_toArray, List.getElem_cons_zero, List.getElem_cons_succ]
     refine wpAnyZ_step (i := 12) (by kernel_rfl) rfl (by rfl) ?_
     intro KK hKK
     go_simp
     refine hKK.out _ _ (.inl (by kernel_rfl)) ?_
     clear hKK KK
     try simp only [Act.put, List.setIfInBounds_toArray, List.set_cons_zero, List.set_cons_succ, List.getElem_toArray, List.getElem_cons_zero, List.getElem_cons_succ]
     refine wpAnyZ_done (by kernel_rfl) ?_ _
     go_wp2_with fail
     go_meet
     exact ⟨_, _, _, _, rfl, Nat.le_trans (cutG_length' (by omega)) (by omega), LF.out⟩
   ·refine ⟨_, rfl, by rfl, ?_⟩
    intro KK hKK
    have HNE : Hid (¬ gt = wd.heap.size) := Lib.hid (by have := F.out.bx.1; omega)
    go_simp
    have hlt9 : w.heap.size < wd.heap.size := Nat.lt_trans F.out.gg F.out.bx.1
    have LB : Hid (LnS W0 w (wd.alloc (.cells #[.int .i64 0, .slice none 0 0] 26)) g wd.heap.size ca n cap l 0 none 0 []) := Lib.hid (LnS.box (p := 0) (a := none) (c := 0) (bs := []) F.out.d F.out.k F.out.rz (nilBars wd _) F.out.gl hlt9)
    replace F := Lib.hid (F.out.below (belAl wd (.cells #[.int .i64 0, .slice none 0 0] 26)))
    obtain ⟨gx, hgx0⟩ : ∃ q, q = wd.heap.size := ⟨_, rfl⟩
    rw [← hgx0] at LB HNE
    have s8 : (wd.alloc (.cells #[.int .i64 0, .slice none 0 0] 26)).cell? ⟨gt, 0, none⟩ = some (.int .i64 (P : Int)) ∧ (wd.alloc (.cells #[.int .i64 0, .slice none 0 0] 26)).cell? ⟨gt, 1, none⟩ = some (.slice a bs.length c) ∧ True := ⟨F.out.bx.2.1, F.out.bx.2.2, trivial⟩
    refine hKK.out _ _ (.inr s8) ?_
    clear hKK KK
    try simp only [Act.put, List.setIfInBounds_toArray, List.set_cons_zero, List.set_cons_succ, List.getElem_toArray, List.getElem_cons_zero, List.getElem_cons_succ]
    try rw [← hgx0]
    generalize (wd.alloc (.cells #[.int .i64 0, .slice none 0 0] 26)) = wa8 at *
    clear hgx0
    refine wpAnyZ_step (i := 5) (by kernel_rfl) rfl (by rfl) ?_
    intro KK hKK
    go_simp
    go_at_call 88
    refine (HD.out (bs.length : Int) wa8 (by omega) F.out.d).mono ?_
    rintro e wb8 ⟨z, hz, rfl, d1, k1⟩
    replace F := Lib.hid (F.out.draw d1 k1)
    replace LB := Lib.hid (LB.out.draw d1 k1)
    have hsz5 : wa8.heap.size ≤ wb8.heap.size := k1.size
    clear d1 k1
    obtain ⟨K5, rfl⟩ : ∃ K5 : Nat, z = (K5 : Int) := ⟨z.toNat, by omega⟩
    have s9 : wb8.cell? ⟨gt, 0, none⟩ = some (.int .i64 (P : Int)) ∧ wb8.cell? ⟨gt, 1, none⟩ = some (.slice a bs.length c) ∧ True := ⟨F.out.bx.2.1, F.out.bx.2.2, trivial⟩
    go_wp2_with fail
    refine hKK.out _ _ (.inr s9) ?_
    clear hKK KK
    try simp only [Act.put, List.setIfInBounds_toArray, List.set_cons_zero, List.set_cons_succ, List.getElem_toArray, List.getElem_cons_zero, List.getElem_cons_succ]
    refine wpAnyZ_step (i := 6) (by kernel_rfl) rfl (by rfl) ?_
    intro KK hKK
    go_simp
    go_at_call 101
    refine (HRM.out K5 wb8 F.out (by omega)).mono ?_
    rintro e wc8 ⟨v6, rfl, ⟨vb, ⟨a6, c6, rfl, rfl⟩, ob6⟩, b6⟩
    replace F := Lib.hid (F.out.below b6)
    have hgx : gx < wb8.heap.size := LB.out.bx.1
    replace LB := Lib.hid (LB.out.below b6)
    have hsz6 : wb8.heap.size ≤ wc8.heap.size := b6.size
    have OB := Lib.hid ob6
    clear ob6 b6
    have s10 : wc8.cell? ⟨gt, 0, none⟩ = some (.int .i64 (P : Int)) ∧ wc8.cell? ⟨gt, 1, none⟩ = some (.slice a bs.length c) ∧ True := ⟨F.out.bx.2.1, F.out.bx.2.2, trivial⟩
    go_wp2_with fail
    refine hKK.out _ _ (.inr s10) ?_
    clear hKK KK
    try simp only [Act.put, List.setIfInBounds_toArray, List.set_cons_zero, List.set_cons_succ, List.getElem_toArray, List.getElem_cons_zero, List.getElem_cons_succ]
    refine wpAnyZ_takeC (i := 7) (v := ?_) [12] rfl (by kernel_rfl) (by kernel_rfl) (by kernel_rfl) (by kernel_rfl) (by kernel_rfl) (by kernel_rfl) (fun _ _ _ h => h) (s10) (by rfl) ?_ ?_
    rotate_left
    · intro x hx; obtain ⟨u1, u2, u3⟩ := hx; go_simp; try (with_reducible rfl)
    try simp only [Act.put, List.setIfInBounds_toArray, List.set_cons_zero, List.set_cons_succ, List.getElem_toArray, List.getElem_cons_zero, List.getElem_cons_succ]
    refine wpAnyZ_takeC (i := 8) (v := ?_) [12] rfl (by kernel_rfl) (by kernel_rfl) (by kernel_rfl) (by kernel_rfl) (by kernel_rfl) (by kernel_rfl) (fun _ _ _ h => h) (s10) (by rfl) ?_ ?_
    rotate_left
    · intro x hx; obtain ⟨u1, u2, u3⟩ := hx; go_simp; try (with_reducible rfl)
    try simp only [Act.put, List.setIfInBounds_toArray, List.set_cons_zero, List.set_cons_succ, List.getElem_toArray, List.getElem_cons_zero, List.getElem_cons_succ]
    refine wpAnyZ_takeC (i := 9) (v := ?_) [12] rfl (by kernel_rfl) (by kernel_rfl) (by kernel_rfl) (by kernel_rfl) (by kernel_rfl) (by kernel_rfl) (fun _ _ _ h => h) (s10) (by rfl) ?_ ?_
    rotate_left
    · intro x hx; obtain ⟨u1, u2, u3⟩ := hx; go_simp; try (with_reducible rfl)
    try simp only [Act.put, List.setIfInBounds_toArray, List.set_cons_zero, List.set_cons_succ, List.getElem_toArray, List.getElem_cons_zero, List.getElem_cons_succ]
    have LF := Lib.hid (LB.out.setQ (q := (P : Int)) OB.out hgx)
    have kx : Kept (fun b => b = gx) wc8 ((wc8.setCell ⟨gx, 0, none⟩ (.int .i64 (P : Int))).setCell ⟨gx, 1, none⟩ (.slice a6 (cutG bs K5).length c6)) := (keptSet' (S := fun b => b = gx) rfl).trans (keptSet' (S := fun b => b = gx) rfl)
    have hbx := F.out.bx.kept kx HNE.out
    have s11 : ((wc8.setCell ⟨gx, 0, none⟩ (.int .i64 (P : Int))).setCell ⟨gx, 1, none⟩ (.slice a6 (cutG bs K5).length c6)).cell? ⟨gt, 0, none⟩ = some (.int .i64 (P : Int)) ∧ ((wc8.setCell ⟨gx, 0, none⟩ (.int .i64 (P : Int))).setCell ⟨gx, 1, none⟩ (.slice a6 (cutG bs K5).length c6)).cell? ⟨gt, 1, none⟩ = some (.slice a bs.length c) ∧ True := ⟨hbx.2.1, hbx.2.2, trivial⟩
    obtain ⟨zX, cX0, cX1⟩ := LB.out.bx
    have q0 := LB.out.f0
    have q1 := LB.out.f1
    clear kx hbx
    refine wpAnyZ_step (i := 11) (by kernel_rfl) rfl (by rfl) ?_
    intro KK hKK
    go_simp
    refine hKK.out _ _ (.inr s11) ?_
    clear hKK KK
    try simp only [Act.put, List.setIfInBounds_toArray, List.set_cons_zero, List.set_cons_succ, List.getElem_toArray, List.getElem_cons_zero, List.getElem_cons_succ]
    refine wpAnyZ_step (i := 12) (by kernel_rfl) rfl (by rfl) ?_
    intro KK hKK
    go_simp
    refine hKK.out _ _ (.inl (by kernel_rfl)) ?_
    clear hKK KK
    try simp only [Act.put, List.setIfInBounds_toArray, List.set_cons_zero, List.set_cons_succ, List.getElem_toArray, List.getElem_cons_zero, List.getElem_cons_succ]
    refine wpAnyZ_done (by kernel_rfl) ?_ _
    go_wp2_with fail
    go_meet
    exact ⟨_, _, _, _, rfl, Nat.le_trans (cutG_length' (by omega)) (by omega), LF.out⟩
  case rest =>
   clear LN HRM HGR
   obtain ⟨gx, a9, c9, bs9, rfl, hbl9, hln⟩ := hcut
   have LN := Lib.hid hln
   clear hln
   obtain ⟨zB, cB0, cB1⟩ := LN.out.bx
   obtain ⟨⟨z1, z2, z3, c0, c1⟩, ⟨f0, f1⟩, gz⟩ := LN.out.rz
   have HF := Lib.hid LN.out.fin
   go_wp2_with fail
   refine bodyPost_ret (v := .agg #[.int .i64 (P : Int), .slice a9 bs9.length c9]) (by simp [results, Tryz.results74, go_sem, gz, c0, c1]) rfl ?_
   exact ⟨(P : Int), a9, c9, bs9, rfl, HF.out.1, hbl9, HF.out.2.1, HF.out.2.2⟩
 cases h2 : (x == 2)
 rotate_left
 ·go_wp2_with fail
  refine (HD.out 5 w1 (by decide) D.out).mono ?_
  rintro e w2 ⟨y, hy, rfl, d1, k1⟩
  replace D := Lib.hid d1
  replace K := Lib.hid (K.out.trans k1)
  replace Z := Lib.hid (Z.out.kept k1 (by omega))
  have hz2 := k1.size
  clear d1 k1
  have hwx := IntWalk.i64_in (2 + y) (by omega)
  obtain ⟨P, hP⟩ : ∃ P : Nat, 2 + y = P := ⟨(2 + y).toNat, by omega⟩
  have hP2 : 2 ≤ P ∧ P ≤ 6 := by omega
  rw [hP] at hwx
  go_wp2_with fail
  try rw [hP]
  clear hP hwx hy
  refine (HLM.out P w2 (by omega) D.out).mono ?_
  rintro e w3 ⟨p, a, c, bs, rfl, ob, ⟨rfl, hgr, hbl, -⟩, d1, k1⟩
  have LN := Lib.hid (LnS.box (p := (P : Int)) d1 (K.out.trans k1) (Z.out.kept k1 (by omega)) (OwnBars.low ob (by omega)) hgw (by have := k1.size; omega))
  have HGR := Lib.hid hgr
  clear d1 k1 ob D K Z hgr
  go_wp2_with fail
  obtain ⟨gt, hgt⟩ : ∃ q, q = w3.heap.size := ⟨_, rfl⟩
  rw [← hgt] at LN
  try rw [← hgt]
  generalize (w3.alloc (.cells #[.int .i64 (P : Int), .slice a bs.length c] 26)) = w4 at *
  clear hgt hz1 hz2
  have HAD : Hid (∀ (x y : Int) w9, LnS W0 w w9 g gt ca n cap l P a c bs → (0 ≤ x ∧ x < (P : Int)) → (0 ≤ y ∧ y < (P : Int)) → Calls Tryz.prog 115 #[.agg #[.int .i64 (P : Int), .slice a bs.length c], .int .i64 x, .int .i64 y] w9 (RetAdd w9 P (addL bs x y))) := Lib.hid fun x y w9 h9 hx hy => specAdd_at w9 P a c bs (ownBars_at h9.ob) (by omega) HGR.out x y hx hy
  obtain ⟨zB, cB0, cB1⟩ := LN.out.bx
  go_wp2_with fail
  clear zB cB0 cB1
  refine (HD.out P w4 (by omega) LN.out.d).mono ?_
  rintro e w5 ⟨x5, hx5, rfl, d1, k1⟩
  replace LN := Lib.hid (LN.out.draw d1 k1)
  clear d1 k1
  obtain ⟨zB, cB0, cB1⟩ := LN.out.bx
  go_wp2_with fail
  clear zB cB0 cB1
  refine (HD.out P w5 (by omega) LN.out.d).mono ?_
  rintro e w6 ⟨x6, hx6, rfl, d1, k1⟩
  replace LN := Lib.hid (LN.out.draw d1 k1)
  clear d1 k1
  obtain ⟨zB, cB0, cB1⟩ := LN.out.bx
  go_wp2_with fail
  clear zB cB0 cB1
  refine (HAD.out x5 x6 w6 LN.out (by omega) (by omega)).mono ?_
  rintro e w7 ⟨v7, b7, rfl, ⟨vb, ⟨a7, c7, rfl, rfl⟩, ob7⟩, bb7⟩
  have hl7 : (addL bs x5 x6).length ≤ 25 := by unfold addL; split <;> (try rw [putL_length]) <;> omega
  generalize addL bs x5 x6 = bs7 at *
  have hlt7 := Nat.lt_trans LN.out.gg LN.out.bx.1
  replace LN := Lib.hid (LN.out.below bb7)
  have LM := Lib.hid (LnS.box (p := (P : Int)) LN.out.d LN.out.k LN.out.rz (OwnBars.low ob7 (by omega)) hgw (by have := bb7.size; omega))
  obtain ⟨zB, cB0, cB1⟩ := LM.out.bx
  obtain ⟨⟨z1, z2, z3, c0, c1⟩, ⟨f0, f1⟩, gz⟩ := LM.out.rz
  have HF := Lib.hid LM.out.fin
  clear LN HAD HGR ob7 bb7 LM
  go_wp2_with fail
  refine bodyPost_ret (v := .agg #[.int .i64 (P : Int), .slice a7 bs7.length c7]) (by simp [results, Tryz.results74, go_sem, gz, c0, c1]) rfl ?_
  exact ⟨(P : Int), a7, c7, bs7, rfl, HF.out.1, hl7, HF.out.2.1, HF.out.2.2⟩
 ·go_wp2_with fail
  refine (HD.out 6 w1 (by decide) D.out).mono ?_
  rintro e w2 ⟨y, hy, rfl, d1, k1⟩
  replace D := Lib.hid d1
  replace K := Lib.hid (K.out.trans k1)
  replace Z := Lib.hid (Z.out.kept k1 (by omega))
  have hz2 := k1.size
  clear d1 k1
  have hwx := IntWalk.i64_in (1 + y) (by omega)
  obtain ⟨P, hP⟩ : ∃ P : Nat, 1 + y = P := ⟨(1 + y).toNat, by omega⟩
  have hP2 : 1 ≤ P ∧ P ≤ 6 := by omega
  rw [hP] at hwx
  go_wp2_with fail
  try rw [hP]
  clear hP hwx hy
  refine (HLM.out P w2 hP2 D.out).mono ?_
  rintro e w3 ⟨p, a, c, bs, rfl, ob, ⟨rfl, -, hbl, -⟩, d1, k1⟩
  have HF := Lib.hid (finG (p := (P : Int)) d1 (K.out.trans k1) (OwnBars.low ob (by omega)) hgw)
  obtain ⟨⟨z1, z2, z3, c0, c1⟩, ⟨f0, f1⟩, gz⟩ := Z.out.kept k1 (by omega)
  clear d1 k1 ob D K Z
  go_wp2_with fail
  refine bodyPost_ret (v := .agg #[.int .i64 (P : Int), .slice a bs.length c]) (by simp [results, Tryz.results74, go_sem, gz, c0, c1]) rfl ?_
  exact ⟨(P : Int), a, c, bs, rfl, HF.out.1, by omega, HF.out.2.1, HF.out.2.2⟩
