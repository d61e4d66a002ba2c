/- Drawing frameworks: l10Framework of the reference. No condition but sizes. -/
import Derived.Test.YtfbmpkdjhhcnpaaMoP15
import Derived.Test.YtfbmpkdjhhcnpaaMoP07
namespace Go.Proofs.Ytfbmpkdjhhcnpaa
open Go.RowKit
set_option maxRecDepth 100000
set_option linter.unusedVariables false
set_option linter.unusedSimpArgs false
/-- a small framework -/
def SmF (p : Int) (bs : List BarT) (ps : List PlaceT) : Prop := 2 ≤ p ∧ p ≤ 6 ∧ bs.length ≤ 24 ∧ (ps.length : Int) = p
/-- a framework is laid into the result's box -/
theorem lay3 {W0 w w' : World} {g : Nat} {ca : Option Addr} {n cap : Nat} {l : List Int} {p : Int} {a b : Option Addr} {c d : Nat} {bs : List BarT} {ps : List PlaceT} {lo : Nat} (hg : g < w.heap.size) (hlo0 : W0.heap.size ≤ g) (hd : Drw W0 w' g ca n cap l) (hk : Kept (fun b => b = g) w w') (ob : OwnBars w' lo (.slice a bs.length c) bs) (op : OwnPlaces w' lo (.slice b ps.length d) ps) (hlo : w.heap.size < lo) :
    OwnBars (((w'.setCell ⟨w.heap.size, 0, none⟩ (.int .i64 p)).setCell ⟨w.heap.size, 1, none⟩ (.slice a bs.length c)).setCell ⟨w.heap.size, 2, none⟩ (.slice b ps.length d)) w.heap.size (.slice a bs.length c) bs ∧ OwnPlaces (((w'.setCell ⟨w.heap.size, 0, none⟩ (.int .i64 p)).setCell ⟨w.heap.size, 1, none⟩ (.slice a bs.length c)).setCell ⟨w.heap.size, 2, none⟩ (.slice b ps.length d)) w.heap.size (.slice b ps.length d) ps ∧ Drw W0 (((w'.setCell ⟨w.heap.size, 0, none⟩ (.int .i64 p)).setCell ⟨w.heap.size, 1, none⟩ (.slice a bs.length c)).setCell ⟨w.heap.size, 2, none⟩ (.slice b ps.length d)) g ca n cap l ∧ Kept (fun b => b = g) w (((w'.setCell ⟨w.heap.size, 0, none⟩ (.int .i64 p)).setCell ⟨w.heap.size, 1, none⟩ (.slice a bs.length c)).setCell ⟨w.heap.size, 2, none⟩ (.slice b ps.length d)) := by
  have k3 : Kept (fun b => b = w.heap.size) w' (((w'.setCell ⟨w.heap.size, 0, none⟩ (.int .i64 p)).setCell ⟨w.heap.size, 1, none⟩ (.slice a bs.length c)).setCell ⟨w.heap.size, 2, none⟩ (.slice b ps.length d)) := ((keptSet' (S := fun b => b = w.heap.size) rfl).trans (keptSet' (S := fun b => b = w.heap.size) rfl)).trans (keptSet' (S := fun b => b = w.heap.size) rfl)
  exact ⟨ownsRow_base (k3.ownsRow ob fun b h1 h2 => by have := (ob.lt b h1).1; omega) (by omega), ownsRow_base (k3.ownsRow op fun b h1 h2 => by have := (op.lt b h1).1; omega) (by omega), hd.kept k3 (by omega) (fun b hb => by omega), hk.on k3 fun i h1 h2 => by omega⟩
theorem reBoxM {w : World} {g : Nat} {p q : Int} {a a' : Option Addr} {n c n' c' : Nat} (h : BoxGr w g p a n c) (f0 : w.frozen? ⟨g, 0, none⟩ = false) (f1 : w.frozen? ⟨g, 1, none⟩ = false) :
    BoxGr ((w.setCell ⟨g, 0, none⟩ (.int .i64 q)).setCell ⟨g, 1, none⟩ (.slice a' n' c')) g q a' n' c' := by
  obtain ⟨hz, c0, c1⟩ := h
  have o01 : (⟨g, 0, none⟩ : Addr) ≠ ⟨g, 1, none⟩ := by simp
  exact ⟨by simpa using hz, (World.cell?_setCell_other _ _ _ _ o01.symm).trans (World.cell?_setCell_same _ _ _ c0), World.cell?_setCell_same _ _ _ ((World.cell?_setCell_other _ _ _ _ o01).trans c1)⟩
set_option maxHeartbeats 16000000 in
theorem l10Fw_at (W0 w : World) (g : Nat) (ca : Option Addr) (n cap : Nat) (l : List Int) (hB : BytesAt W0 ca n l) (hn : n ≤ 1099511627776) (h : Drw W0 w g ca n cap l) :
    Calls Try.prog 44 #[.pointer (some ⟨g, 0, none⟩)] w (RetDf W0 w g ca n cap l SmF) := by
  have HD : Hid (∀ (m : Int) w9, 1 ≤ m ∧ m ≤ 256 → Drw W0 w9 g ca n cap l → Calls Try.prog 45 #[.pointer (some ⟨g, 0, none⟩), .int .i64 m] w9 (RetDi W0 w9 g ca n cap l 0 (m - 1))) := Lib.hid fun m w9 hm h9 => l1Below_at W0 w9 g ca n cap l hB hn h9 m hm
  have HSI : Hid (∀ (P : Nat) w9, P ≤ 6 → Drw W0 w9 g ca n cap l → Calls Try.prog 60 #[.pointer (some ⟨g, 0, none⟩), .int .i64 P, .int .i64 7] w9 (RetDg W0 w9 g ca n cap l fun p bs => p = (P : Int) ∧ BIn P 24 bs)) := Lib.hid fun P w9 hm h9 => l2Simple_at W0 w9 g ca n cap l hB hn h9 P (by omega) 7
  have HLA : Hid (∀ (P : Nat) w9, 1 ≤ P ∧ P ≤ 6 → Drw W0 w9 g ca n cap l → Calls Try.prog 62 #[.pointer (some ⟨g, 0, none⟩), .int .i64 P] w9 (RetDg W0 w9 g ca n cap l fun p bs => p = (P : Int) ∧ isGraphB ((P : Int), bs) = true ∧ bs.length ≤ 18)) := Lib.hid fun P w9 hm h9 => l6Laman_at W0 w9 g ca n cap l hB hn h9 P hm
  have HOF : Hid (∀ (P : Nat) w9 (ga : Option Addr) (gcap : Nat) (lb : List BarT) (base : Nat), P ≤ 8 → Drw W0 w9 g ca n cap l → g < base → OwnBars w9 base (.slice ga lb.length gcap) lb → BIn P 24 lb → Calls Try.prog 61 #[.pointer (some ⟨g, 0, none⟩), .agg #[.int .i64 P, .slice ga lb.length gcap]] w9 (RetDf W0 w9 g ca n cap l fun p bs ps => p = (P : Int) ∧ bs.length ≤ 24 ∧ ps.length = P)) := Lib.hid fun P w9 ga gcap lb base hP h9 hgb hob hin => l10Of_at W0 w9 g ca n cap l hB hn h9 P hP ga gcap lb base hgb hob hin
  have ba := belAl w (.cells #[.int .i64 0, .slice none 0 0, .slice none 0 0] 29)
  have Z := Lib.hid (Zer3d.at w 29)
  have D := Lib.hid (h.below ba)
  have K := Lib.hid (Kept.of_below (S := fun b => b = g) ba)
  have hgw := h.hi
  have hlo0 := h.low
  have hzu : w.heap.size + 1 ≤ (w.alloc (.cells #[.int .i64 0, .slice none 0 0, .slice none 0 0] 29)).heap.size := by simp
  clear hB h ba
  go_enter Try.func44, Try.ntmps44
  go_wp2_with fail
  generalize (w.alloc (.cells #[.int .i64 0, .slice none 0 0, .slice none 0 0] 29)) = u at *
  refine (HD.out 3 u (by decide) D.out).mono ?_
  rintro e w1 ⟨x, hx, rfl, d1, k1⟩
  replace D := Lib.hid d1
  replace K := Lib.hid (K.out.trans k1)
  replace Z := Lib.hid (Z.out.kept k1 (by omega))
  have hz1 := k1.size
  clear d1 k1
  cases h0 : (x == 0)
  · cases h1 : (x == 1)
    · go_wp2_with fail
      refine (HD.out 5 w1 (by decide) D.out).mono ?_
      rintro e w2 ⟨y, hy, rfl, d1, k1⟩
      replace D := Lib.hid d1
      replace K := Lib.hid (K.out.trans k1)
      replace Z := Lib.hid (Z.out.kept k1 (by omega))
      have hz2 := k1.size
      clear d1 k1
      have hwx := IntWalk.i64_in (2 + y) (by omega)
      obtain ⟨P, hP⟩ : ∃ P : Nat, 2 + y = P := ⟨(2 + y).toNat, by omega⟩
      have hP2 : 2 ≤ P ∧ P ≤ 6 := by omega
      rw [hP] at hwx
      go_wp2_with fail
      try rw [hP]
      clear hP hwx hy
      refine (HLA.out P w2 (by omega) D.out).mono ?_
      rintro e w3 ⟨p, a, c, bs, rfl, ob, ⟨rfl, hgr, hbl⟩, d1, k1⟩
      replace D := Lib.hid d1
      replace K := Lib.hid (K.out.trans k1)
      replace Z := Lib.hid (Z.out.kept k1 (by omega))
      have hz3 := k1.size
      have HOB := Lib.hid ob
      have HIN : Hid (BIn P 24 bs) := Lib.hid ⟨by omega, fun x hx => by
        obtain ⟨k, hk⟩ := List.getElem?_of_mem hx
        exact isGraphB_bar hgr hk⟩
      clear d1 k1 ob hgr
      have ba := belAl w3 (.cells #[.int .i64 (P : Int), .slice a bs.length c] 26)
      have D4 := Lib.hid (D.out.below ba)
      have K4 := Lib.hid (K.out.trans (Kept.of_below (S := fun b => b = g) ba))
      have Z4 := Lib.hid (Z.out.kept (Kept.of_below (S := fun _ => False) ba) id)
      have OB4 := Lib.hid (OwnBars.below HOB.out ba)
      have BX4 := Lib.hid (show BoxGr (w3.alloc (.cells #[.int .i64 (P : Int), .slice a bs.length c] 26)) w3.heap.size P a bs.length c from BoxGr.at rfl)
      have hz4 := ba.size
      clear ba D K Z HOB
      go_wp2_with fail
      refine (HOF.out P _ a c bs w2.heap.size (by omega) D4.out (by omega) OB4.out HIN.out).mono ?_
      rintro e w6 ⟨p6, a6, c6, b6, d6, bs6, ps6, rfl, ob6, op6, ⟨rfl, hl6, hp6⟩, d1, k1⟩
      have HP6 := Lib.hid hp6
      clear hp6
      have K6 := Lib.hid (K4.out.trans k1)
      have hz6 := K4.out.size
      have HF := Lib.hid (lay3 (p := (P : Int)) hgw hlo0 d1 K6.out ob6 op6 (by omega))
      have Z6 := Lib.hid (Z4.out.kept k1 (by omega))
      obtain ⟨⟨z1, z2, z3, c0, c1, c2⟩, ⟨f0, f1, f2⟩, gz⟩ := Z6.out
      clear d1 k1 ob6 op6 BX4 OB4 D4 K4 Z4 Z6
      go_wp2_with fail
      refine bodyPost_ret (v := .agg #[.int .i64 (P : Int), .slice a6 bs6.length c6, .slice b6 ps6.length d6]) (by simp [results, Try.results44, go_sem, gz, c0, c1, c2]) rfl ?_
      exact ⟨(P : Int), a6, c6, b6, d6, bs6, ps6, rfl, HF.out.1, HF.out.2.1, ⟨by omega, by omega, hl6, by have := HP6.out; omega⟩, HF.out.2.2.1, HF.out.2.2.2⟩
    · go_wp2_with fail
      refine (HD.out 4 w1 (by decide) D.out).mono ?_
      rintro e w2 ⟨y, hy, rfl, d1, k1⟩
      replace D := Lib.hid d1
      replace K := Lib.hid (K.out.trans k1)
      replace Z := Lib.hid (Z.out.kept k1 (by omega))
      have hz2 := k1.size
      clear d1 k1
      have hwx := IntWalk.i64_in (2 + y) (by omega)
      obtain ⟨P, hP⟩ : ∃ P : Nat, 2 + y = P := ⟨(2 + y).toNat, by omega⟩
      have hP2 : 2 ≤ P ∧ P ≤ 6 := by omega
      rw [hP] at hwx
      go_wp2_with fail
      try rw [hP]
      clear hP hwx hy
      refine (HLA.out P w2 (by omega) D.out).mono ?_
      rintro e w3 ⟨p, a, c, bs, rfl, ob, ⟨rfl, hgr, hbl⟩, d1, k1⟩
      replace D := Lib.hid d1
      replace K := Lib.hid (K.out.trans k1)
      replace Z := Lib.hid (Z.out.kept k1 (by omega))
      have hz3 := k1.size
      have HGR := Lib.hid hgr
      have ba := belAl w3 (.cells #[.int .i64 (P : Int), .slice a bs.length c] 26)
      have BX := Lib.hid (show BoxGr (w3.alloc (.cells #[.int .i64 (P : Int), .slice a bs.length c] 26)) w3.heap.size P a bs.length c from BoxGr.at rfl)
      have F0 : (w3.alloc (.cells #[.int .i64 (P : Int), .slice a bs.length c] 26)).frozen? ⟨w3.heap.size, 0, none⟩ = false := by simp [World.frozen?_alloc_new]
      have F1 : (w3.alloc (.cells #[.int .i64 (P : Int), .slice a bs.length c] 26)).frozen? ⟨w3.heap.size, 1, none⟩ = false := by simp [World.frozen?_alloc_new]
      have HFZ := Lib.hid (And.intro F0 F1)
      have HOB := Lib.hid (OwnBars.below ob ba)
      replace D := Lib.hid (D.out.below ba)
      replace K := Lib.hid (K.out.trans (Kept.of_below (S := fun b => b = g) ba))
      replace Z := Lib.hid (Z.out.kept (Kept.of_below (S := fun _ => False) ba) id)
      clear d1 k1 ob hgr ba F0 F1
      obtain ⟨gt, hgt⟩ : ∃ q, q = w3.heap.size := ⟨_, rfl⟩
      rw [← hgt] at BX HFZ
      have hgt2 : w.heap.size < gt := by omega
      go_wp2_with fail
      try rw [← hgt]
      generalize (w3.alloc (.cells #[.int .i64 (P : Int), .slice a bs.length c] 26)) = wx at *
      clear hgt hz3
      refine (HD.out P wx (by omega) D.out).mono ?_
      rintro e w4 ⟨p1, hp1, rfl, d1, k1⟩
      replace D := Lib.hid d1
      replace K := Lib.hid (K.out.trans k1)
      replace Z := Lib.hid (Z.out.kept k1 (by omega))
      replace HFZ := Lib.hid (And.intro ((k1.frozen BX.out.1 (by omega)).trans HFZ.out.1) ((k1.frozen BX.out.1 (by omega)).trans HFZ.out.2))
      replace BX := Lib.hid (BX.out.kept k1 (by omega))
      replace HOB := Lib.hid (HOB.out.on k1 (by omega))
      clear d1 k1
      go_wp2_with fail
      refine (HD.out P w4 (by omega) D.out).mono ?_
      rintro e w5 ⟨p2, hp2, rfl, d1, k1⟩
      replace D := Lib.hid d1
      replace K := Lib.hid (K.out.trans k1)
      replace Z := Lib.hid (Z.out.kept k1 (by omega))
      replace HFZ := Lib.hid (And.intro ((k1.frozen BX.out.1 (by omega)).trans HFZ.out.1) ((k1.frozen BX.out.1 (by omega)).trans HFZ.out.2))
      replace BX := Lib.hid (BX.out.kept k1 (by omega))
      replace HOB := Lib.hid (HOB.out.on k1 (by omega))
      clear d1 k1
      obtain ⟨zB, fB0, fB1⟩ := BX.out
      go_wp2_with fail
      clear zB fB0 fB1
      refine (specAdd_at w5 (P : Int) a c bs (ownBars_at HOB.out) (by omega) HGR.out p1 p2 (by omega) (by omega)).mono ?_
      rintro e w6 ⟨v6, bo, rfl, ⟨vb, ⟨a6, c6, rfl, rfl⟩, ob6⟩, b6⟩
      dsimp only at ob6
      obtain ⟨s6, hs6⟩ : ∃ q, q = addL bs p1 p2 := ⟨_, rfl⟩
      have HIN : Hid (BIn P 24 s6) := Lib.hid (by
        rw [hs6]
        unfold addL
        split
        · rename_i hh
          refine ⟨by rw [putL_length]; omega, fun y hy => ?_⟩
          rcases mem_putL.1 hy with rfl | hy
          · dsimp only; omega
          · obtain ⟨k, hk⟩ := List.getElem?_of_mem hy
            exact isGraphB_bar HGR.out hk
        · exact ⟨by omega, fun y hy => by
            obtain ⟨k, hk⟩ := List.getElem?_of_mem hy
            exact isGraphB_bar HGR.out hk⟩)
      rw [← hs6] at ob6
      try rw [← hs6]
      clear hs6
      have hz5 := BX.out.1
      have hz6 := b6.size
      have kS : Kept (fun q => q = gt) w6 ((w6.setCell ⟨gt, 0, none⟩ (.int .i64 (P : Int))).setCell ⟨gt, 1, none⟩ (.slice a6 s6.length c6)) := (keptSet' (S := fun q => q = gt) rfl).trans (keptSet' (S := fun q => q = gt) rfl)
      have BX6 := Lib.hid (BX.out.below b6)
      have HF6 := Lib.hid (And.intro (((bcell b6).2 _ _ BX.out.1).trans HFZ.out.1) (((bcell b6).2 _ _ BX.out.1).trans HFZ.out.2))
      have RB := Lib.hid (reBoxM (q := (P : Int)) (a' := a6) (n' := s6.length) (c' := c6) BX6.out HF6.out.1 HF6.out.2)
      replace D := Lib.hid ((D.out.below b6).kept kS (by omega) (fun q hq => by omega))
      replace K := Lib.hid ((K.out.trans (Kept.of_below (S := fun b => b = g) b6)).on kS fun i h1 h2 => by omega)
      replace Z := Lib.hid ((Z.out.kept (Kept.of_below (S := fun _ => False) b6) id).kept kS (by omega))
      have OBS := Lib.hid (show OwnBars ((w6.setCell ⟨gt, 0, none⟩ (.int .i64 (P : Int))).setCell ⟨gt, 1, none⟩ (.slice a6 s6.length c6)) w5.heap.size (.slice a6 s6.length c6) s6 from kS.ownsRow ob6 fun q h1 h2 => by have := (ob6.lt q h1).1; omega)
      obtain ⟨zB, fB0, fB1⟩ := BX6.out
      obtain ⟨q0, q1⟩ := HF6.out
      obtain ⟨rB, r0, r1⟩ := RB.out
      clear kS ob6 b6 HOB BX HFZ
      go_wp2_with fail
      clear zB fB0 fB1 q0 q1 rB r0 r1
      refine (HOF.out P _ a6 c6 s6 w5.heap.size (by omega) D.out (by omega) OBS.out HIN.out).mono ?_
      have K4 := K
      have Z4 := Z
      clear D K Z OBS RB BX6 HF6
      generalize ((w6.setCell ⟨gt, 0, none⟩ (.int .i64 (P : Int))).setCell ⟨gt, 1, none⟩ (.slice a6 s6.length c6)) = wS at *
      rintro e w7 ⟨p7, a7, c7, b7, d7, bs7, ps7, rfl, ob7, op7, ⟨rfl, hl7, hp7⟩, d1, k1⟩
      have HP7 := Lib.hid hp7
      clear hp7
      have K7 := Lib.hid (K4.out.trans k1)
      have hz7 := K4.out.size
      have Z7 := Lib.hid (Z4.out.kept k1 (by omega))
      have hzS := Z4.out.2.2
      have HF := Lib.hid (lay3 (p := (P : Int)) hgw hlo0 d1 K7.out ob7 op7 hzS)
      obtain ⟨⟨z1, z2, z3, c0, c1, c2⟩, ⟨f0, f1, f2⟩, gz⟩ := Z7.out
      clear d1 k1 ob7 op7 K4 Z4 Z7
      go_wp2_with fail
      refine bodyPost_ret (v := .agg #[.int .i64 (P : Int), .slice a7 bs7.length c7, .slice b7 ps7.length d7]) (by simp [results, Try.results44, go_sem, gz, c0, c1, c2]) rfl ?_
      exact ⟨(P : Int), a7, c7, b7, d7, bs7, ps7, rfl, HF.out.1, HF.out.2.1, ⟨by omega, by omega, hl7, by have := HP7.out; omega⟩, HF.out.2.2.1, HF.out.2.2.2⟩
  · go_wp2_with fail
    refine (HD.out 5 w1 (by decide) D.out).mono ?_
    rintro e w2 ⟨y, hy, rfl, d1, k1⟩
    replace D := Lib.hid d1
    replace K := Lib.hid (K.out.trans k1)
    replace Z := Lib.hid (Z.out.kept k1 (by omega))
    have hz2 := k1.size
    clear d1 k1
    have hwx := IntWalk.i64_in (2 + y) (by omega)
    obtain ⟨P, hP⟩ : ∃ P : Nat, 2 + y = P := ⟨(2 + y).toNat, by omega⟩
    have hP2 : 2 ≤ P ∧ P ≤ 6 := by omega
    rw [hP] at hwx
    go_wp2_with fail
    try rw [hP]
    clear hP hwx hy
    refine (HSI.out P w2 (by omega) D.out).mono ?_
    rintro e w3 ⟨p, a, c, bs, rfl, ob, ⟨rfl, hin⟩, d1, k1⟩
    replace D := Lib.hid d1
    replace K := Lib.hid (K.out.trans k1)
    replace Z := Lib.hid (Z.out.kept k1 (by omega))
    have hz3 := k1.size
    have HOB := Lib.hid ob
    have HIN := Lib.hid hin
    clear d1 k1 ob hin
    have ba := belAl w3 (.cells #[.int .i64 (P : Int), .slice a bs.length c] 26)
    have D4 := Lib.hid (D.out.below ba)
    have K4 := Lib.hid (K.out.trans (Kept.of_below (S := fun b => b = g) ba))
    have Z4 := Lib.hid (Z.out.kept (Kept.of_below (S := fun _ => False) ba) id)
    have OB4 := Lib.hid (OwnBars.below HOB.out ba)
    have BX4 := Lib.hid (show BoxGr (w3.alloc (.cells #[.int .i64 (P : Int), .slice a bs.length c] 26)) w3.heap.size P a bs.length c from BoxGr.at rfl)
    have hz4 := ba.size
    clear ba D K Z HOB
    go_wp2_with fail
    refine (HOF.out P _ a c bs w2.heap.size (by omega) D4.out (by omega) OB4.out HIN.out).mono ?_
    rintro e w6 ⟨p6, a6, c6, b6, d6, bs6, ps6, rfl, ob6, op6, ⟨rfl, hl6, hp6⟩, d1, k1⟩
    have HP6 := Lib.hid hp6
    clear hp6
    have K6 := Lib.hid (K4.out.trans k1)
    have hz6 := K4.out.size
    have HF := Lib.hid (lay3 (p := (P : Int)) hgw hlo0 d1 K6.out ob6 op6 (by omega))
    have Z6 := Lib.hid (Z4.out.kept k1 (by omega))
    obtain ⟨⟨z1, z2, z3, c0, c1, c2⟩, ⟨f0, f1, f2⟩, gz⟩ := Z6.out
    clear d1 k1 ob6 op6 BX4 OB4 D4 K4 Z4 Z6
    go_wp2_with fail
    refine bodyPost_ret (v := .agg #[.int .i64 (P : Int), .slice a6 bs6.length c6, .slice b6 ps6.length d6]) (by simp [results, Try.results44, go_sem, gz, c0, c1, c2]) rfl ?_
    exact ⟨(P : Int), a6, c6, b6, d6, bs6, ps6, rfl, HF.out.1, HF.out.2.1, ⟨by omega, by omega, hl6, by have := HP6.out; omega⟩, HF.out.2.2.1, HF.out.2.2.2⟩
end Go.Proofs.Ytfbmpkdjhhcnpaa

namespace Go.Proofs.Ytfbmpkdjhhcnpaa
open Go.RowKit
set_option maxRecDepth 100000
set_option linter.unusedVariables false
set_option linter.unusedSimpArgs false
theorem flat_setX' : ∀ {l : List PlaceT} {j : Nat} {a : PlaceT} (x : Int), l[j]? = some a → (l.flatMap cellsPlace).set (j * 2) (.int .i64 x) = (l.set j (x, a.2)).flatMap cellsPlace
  | [], j, a, x, h => by simp at h
  | p :: t, 0, a, x, h => by simp at h; subst h; simp [cellsPlace]
  | p :: t, j + 1, a, x, h => by
    have ih := flat_setX' (l := t) (j := j) x (by simpa using h)
    simp only [List.flatMap_cons, List.set_cons_succ, cellsPlace, List.cons_append, List.nil_append, Nat.succ_mul, List.set_cons_succ]
    rw [← ih]
theorem setPlaceX' {W : World} {base g n cap : Nat} {l : List PlaceT} {j : Nat} {a : PlaceT} (h : W.ownsRow base 54 2 (.slice (some ⟨g, 0, none⟩) n cap) n (l.flatMap cellsPlace)) (x : Int) (ha : l[j]? = some a) :
    ((W.setCell ⟨g, j * 2, none⟩ (.int .i64 x))).ownsRow base 54 2 (.slice (some ⟨g, 0, none⟩) n cap) n ((l.set j (x, a.2)).flatMap cellsPlace) := by
  have s0 := World.ownsRow.stored h (j * 2) (.int .i64 x)
  rw [flat_setX' x ha] at s0
  exact s0.1
end Go.Proofs.Ytfbmpkdjhhcnpaa

namespace Go.Proofs.Ytfbmpkdjhhcnpaa
open Go.RowKit
set_option maxRecDepth 100000
set_option linter.unusedVariables false
set_option linter.unusedSimpArgs false
theorem BarsAt.kept {S : Nat → Prop} {W W' : World} {a : Option Addr} {n lo : Nat} {l : List BarT} (h : BarsAt W a n l) (hk : Kept S W W') (hl : ∀ g off, a = some ⟨g, off, none⟩ → lo ≤ g) (hS : ∀ b, lo ≤ b → ¬ S b) : BarsAt W' a n l :=
  ⟨h.1, fun k hkn => by
    obtain ⟨b, off, x, ha, hb, hx, c0, c1⟩ := h.2 k hkn
    exact ⟨b, off, x, ha, Nat.lt_of_lt_of_le hb hk.size, hx, (hk.cell (o := off + k * 2) hb (hS b (hl b off ha))).trans c0, (hk.cell (o := off + k * 2 + 1) hb (hS b (hl b off ha))).trans c1⟩⟩
theorem PlacesAt.kept {S : Nat → Prop} {W W' : World} {a : Option Addr} {n lo : Nat} {l : List PlaceT} (h : PlacesAt W a n l) (hk : Kept S W W') (hl : ∀ g off, a = some ⟨g, off, none⟩ → lo ≤ g) (hS : ∀ b, lo ≤ b → ¬ S b) : PlacesAt W' a n l :=
  ⟨h.1, fun k hkn => by
    obtain ⟨b, off, x, ha, hb, hx, c0, c1⟩ := h.2 k hkn
    exact ⟨b, off, x, ha, Nat.lt_of_lt_of_le hb hk.size, hx, (hk.cell (o := off + k * 2) hb (hS b (hl b off ha))).trans c0, (hk.cell (o := off + k * 2 + 1) hb (hS b (hl b off ha))).trans c1⟩⟩
/-- a framework that is read; its blocks lie from lo on -/
structure FrFw (W : World) (lo : Nat) (a : Option Addr) (l : List BarT) (b : Option Addr) (q : List PlaceT) : Prop where
  ba : BarsAt W a l.length l
  pa : PlacesAt W b q.length q
  la : ∀ g off, a = some ⟨g, off, none⟩ → lo ≤ g
  lb : ∀ g off, b = some ⟨g, off, none⟩ → lo ≤ g
theorem FrFw.kept {S : Nat → Prop} {W W' : World} {lo : Nat} {a b : Option Addr} {l : List BarT} {q : List PlaceT} (h : FrFw W lo a l b q) (hk : Kept S W W') (hS : ∀ b, lo ≤ b → ¬ S b) : FrFw W' lo a l b q :=
  ⟨h.ba.kept hk h.la hS, h.pa.kept hk h.lb hS, h.la, h.lb⟩
theorem FrFw.kept' {S : Nat → Prop} {W W' : World} {lo : Nat} {a b : Option Addr} {l : List BarT} {q : List PlaceT} (h : FrFw W lo a l b q) (hk : Kept S W W') (h1 : ∀ g off, a = some ⟨g, off, none⟩ → ¬ S g) (h2 : ∀ g off, b = some ⟨g, off, none⟩ → ¬ S g) : FrFw W' lo a l b q :=
  ⟨⟨h.ba.1, fun k hkn => by
    obtain ⟨b, off, x, ha, hb, hx, c0, c1⟩ := h.ba.2 k hkn
    exact ⟨b, off, x, ha, Nat.lt_of_lt_of_le hb hk.size, hx, (hk.cell (o := off + k * 2) hb (h1 b off ha)).trans c0, (hk.cell (o := off + k * 2 + 1) hb (h1 b off ha)).trans c1⟩⟩, ⟨h.pa.1, fun k hkn => by
    obtain ⟨b, off, x, ha, hb, hx, c0, c1⟩ := h.pa.2 k hkn
    exact ⟨b, off, x, ha, Nat.lt_of_lt_of_le hb hk.size, hx, (hk.cell (o := off + k * 2) hb (h2 b off ha)).trans c0, (hk.cell (o := off + k * 2 + 1) hb (h2 b off ha)).trans c1⟩⟩, h.la, h.lb⟩
theorem FrFw.below {W W' : World} {lo : Nat} {a b : Option Addr} {l : List BarT} {q : List PlaceT} (h : FrFw W lo a l b q) (hb : Below W.heap.size W W') : FrFw W' lo a l b q := h.kept (Kept.of_below (S := fun _ => False) hb) fun _ _ => id
theorem FrFw.low {W : World} {lo lo' : Nat} {a b : Option Addr} {l : List BarT} {q : List PlaceT} (h : FrFw W lo a l b q) (hl : lo' ≤ lo) : FrFw W lo' a l b q := ⟨h.ba, h.pa, fun g off e => Nat.le_trans hl (h.la g off e), fun g off e => Nat.le_trans hl (h.lb g off e)⟩
theorem FrFw.is {W : World} {lo : Nat} {a b : Option Addr} {l : List BarT} {q : List PlaceT} (h : FrFw W lo a l b q) (p : Int) (c d : Nat) : IsFw W (.agg #[.int .i64 p, .slice a l.length c, .slice b q.length d]) (p, l, q) := ⟨a, c, b, d, rfl, h.ba, h.pa⟩
theorem FrFw.own {W : World} {lo : Nat} {a b : Option Addr} {c d : Nat} {l : List BarT} {q : List PlaceT} (h : OwnBars W lo (.slice a l.length c) l) (h2 : OwnPlaces W lo (.slice b q.length d) q) : FrFw W lo a l b q :=
  ⟨ownBars_at h, ownPlaces_at h2, fun g off e => (h.lt g (by rw [e]; rfl)).1, fun g off e => (h2.lt g (by rw [e]; rfl)).1⟩
theorem FrFw.set {W : World} {lo g i : Nat} {x : Value} {a b : Option Addr} {l : List BarT} {q : List PlaceT} (h : FrFw W lo a l b q) (hg : g < lo) : FrFw (W.setCell ⟨g, i, none⟩ x) lo a l b q :=
  h.kept (keptSet' (S := fun k => k = g) rfl) fun b hb e => by omega
theorem tailPl {W : World} {blk : Nat} {q : List PlaceT} (h : PlacesAt W (some ⟨blk, 0, none⟩) q.length q) : PlacesAt W (some ⟨blk, 2, none⟩) q.tail.length q.tail :=
  ⟨rfl, fun k hk => by
    rw [List.length_tail] at hk
    obtain ⟨b, off, x, ha, hb, hx, c0, c1⟩ := h.2 (k + 1) (by omega)
    simp at ha
    obtain ⟨rfl, rfl⟩ := ha
    refine ⟨blk, 2, x, rfl, hb, by rw [List.getElem?_tail]; exact hx, ?_, ?_⟩
    · rw [show 2 + k * 2 = 0 + (k + 1) * 2 by omega]; exact c0
    · rw [show 2 + k * 2 = 0 + (k + 1) * 2 by omega]; exact c1⟩
theorem rowBlk {w : World} {base s n : Nat} {e : TypeId} {v : Value} {xs : List Value} (h : w.ownsRow base e s v n xs) (hn : 0 < n) : ∃ b c, v = .slice (some ⟨b, 0, none⟩) n c ∧ n ≤ c ∧ c ≤ 9223372036854775807 ∧ base ≤ b ∧ b < w.heap.size := by
  rcases h.2 with ⟨_, h0⟩ | ⟨b, c, cur, rfl, hb, hg, h1, h2, _⟩
  · omega
  · exact ⟨b, c, rfl, h1, by have : maxLen = 9223372036854775807 := rfl; omega, hb, (Array.getElem?_eq_some_iff.1 hg).1⟩
/-- a drawn framework, as it is read -/
def RetDa (W0 w : World) (g : Nat) (ca : Option Addr) (n cap : Nat) (l : List Int) (e : Ending) (w' : World) : Prop :=
  ∃ p a c b d bs ps, e = .returned (.agg #[.int .i64 p, .slice a bs.length c, .slice b ps.length d]) ∧ FrFw w' w.heap.size a bs b ps ∧ (bs.length ≤ 24 ∧ ps.length ≤ 6) ∧ Drw W0 w' g ca n cap l ∧ Kept (fun b => b = g) w w'
theorem layF {W0 w w' : World} {g : Nat} {ca : Option Addr} {n cap : Nat} {l : List Int} {p : Int} {a b : Option Addr} {c d : Nat} {bs : List BarT} {ps : List PlaceT} {lo : Nat} (hg : g < w.heap.size) (hlo0 : W0.heap.size ≤ g) (hd : Drw W0 w' g ca n cap l) (hk : Kept (fun b => b = g) w w') (ho : FrFw w' lo a bs b ps) (hlo : w.heap.size < lo) :
    FrFw (((w'.setCell ⟨w.heap.size, 0, none⟩ (.int .i64 p)).setCell ⟨w.heap.size, 1, none⟩ (.slice a bs.length c)).setCell ⟨w.heap.size, 2, none⟩ (.slice b ps.length d)) w.heap.size a bs b ps ∧ Drw W0 (((w'.setCell ⟨w.heap.size, 0, none⟩ (.int .i64 p)).setCell ⟨w.heap.size, 1, none⟩ (.slice a bs.length c)).setCell ⟨w.heap.size, 2, none⟩ (.slice b ps.length d)) g ca n cap l ∧ Kept (fun b => b = g) w (((w'.setCell ⟨w.heap.size, 0, none⟩ (.int .i64 p)).setCell ⟨w.heap.size, 1, none⟩ (.slice a bs.length c)).setCell ⟨w.heap.size, 2, none⟩ (.slice b ps.length d)) := by
  have k3 : Kept (fun b => b = w.heap.size) w' (((w'.setCell ⟨w.heap.size, 0, none⟩ (.int .i64 p)).setCell ⟨w.heap.size, 1, none⟩ (.slice a bs.length c)).setCell ⟨w.heap.size, 2, none⟩ (.slice b ps.length d)) := ((keptSet' (S := fun b => b = w.heap.size) rfl).trans (keptSet' (S := fun b => b = w.heap.size) rfl)).trans (keptSet' (S := fun b => b = w.heap.size) rfl)
  exact ⟨((ho.kept k3 fun b hb e => by omega)).low (by omega), hd.kept k3 (by omega) (fun b hb => by omega), hk.on k3 fun i h1 h2 => by omega⟩
/-- a framework's box -/
structure BxF (w : World) (g : Nat) (p : Int) (a : Option Addr) (n c : Nat) (b : Option Addr) (m d : Nat) : Prop where
  lt : g < w.heap.size
  c0 : w.cell? ⟨g, 0, none⟩ = some (.int .i64 p)
  c1 : w.cell? ⟨g, 1, none⟩ = some (.slice a n c)
  c2 : w.cell? ⟨g, 2, none⟩ = some (.slice b m d)
  f2 : w.frozen? ⟨g, 2, none⟩ = false
theorem BxF.at (w : World) (p : Int) (a : Option Addr) (n c : Nat) (b : Option Addr) (m d : Nat) (ty : TypeId) : BxF (w.alloc (.cells #[.int .i64 p, .slice a n c, .slice b m d] ty)) w.heap.size p a n c b m d :=
  ⟨by simp, by simp, by simp, by simp, by simp [World.frozen?_alloc_new]⟩
theorem BxF.kept {S : Nat → Prop} {w w' : World} {g : Nat} {p : Int} {a b : Option Addr} {n c m d : Nat} (h : BxF w g p a n c b m d) (hk : Kept S w w') (hs : ¬ S g) : BxF w' g p a n c b m d :=
  ⟨Nat.lt_of_lt_of_le h.lt hk.size, (hk.cell h.lt hs).trans h.c0, (hk.cell h.lt hs).trans h.c1, (hk.cell h.lt hs).trans h.c2, (hk.frozen h.lt hs).trans h.f2⟩
theorem BxF.set {w : World} {g : Nat} {p : Int} {a b b' : Option Addr} {n c m d m' d' : Nat} (h : BxF w g p a n c b m d) : BxF (w.setCell ⟨g, 2, none⟩ (.slice b' m' d')) g p a n c b' m' d' :=
  ⟨by simpa using h.lt, (World.cell?_setCell_other _ _ _ _ (by simp)).trans h.c0, (World.cell?_setCell_other _ _ _ _ (by simp)).trans h.c1, World.cell?_setCell_same _ _ _ h.c2, by rw [World.frozen?_setCell]; exact h.f2⟩
set_option maxHeartbeats 16000000 in
theorem l10Any_at (W0 w : World) (g : Nat) (ca : Option Addr) (n cap : Nat) (l : List Int) (hB : BytesAt W0 ca n l) (hn : n ≤ 1099511627776) (h : Drw W0 w g ca n cap l) :
    Calls Try.prog 28 #[.pointer (some ⟨g, 0, none⟩)] w (RetDa W0 w g ca n cap l) := by
  have HD : Hid (∀ (m : Int) w9, 1 ≤ m ∧ m ≤ 256 → Drw W0 w9 g ca n cap l → Calls Try.prog 45 #[.pointer (some ⟨g, 0, none⟩), .int .i64 m] w9 (RetDi W0 w9 g ca n cap l 0 (m - 1))) := Lib.hid fun m w9 hm h9 => l1Below_at W0 w9 g ca n cap l hB hn h9 m hm
  have HF : Hid (∀ w9, Drw W0 w9 g ca n cap l → Calls Try.prog 44 #[.pointer (some ⟨g, 0, none⟩)] w9 (RetDf W0 w9 g ca n cap l SmF)) := Lib.hid fun w9 h9 => l10Fw_at W0 w9 g ca n cap l hB hn h9
  have HP : Hid (∀ w9, Drw W0 w9 g ca n cap l → ∀ base, g < base → ∀ v xs, OwnInts w9 base v xs → 1 ≤ xs.length → xs.length ≤ 256 → Calls Try.prog 46 #[.pointer (some ⟨g, 0, none⟩), v] w9 fun e w' => ∃ x, x ∈ xs ∧ e = .returned (.int .i64 x) ∧ Drw W0 w' g ca n cap l ∧ Kept (fun b => b = g) w9 w') := Lib.hid fun w9 h9 base hg v xs ho h1 h2 => l1PickInt_at W0 w9 g ca n cap l hB hn h9 hg ho h1 h2
  have ba := belAl w (.cells #[.int .i64 0, .slice none 0 0, .slice none 0 0] 29)
  have Z := Lib.hid (Zer3d.at w 29)
  have D := Lib.hid (h.below ba)
  have K := Lib.hid (Kept.of_below (S := fun b => b = g) ba)
  have hgw := h.hi
  have hlo0 := h.low
  have hzu : w.heap.size + 1 ≤ (w.alloc (.cells #[.int .i64 0, .slice none 0 0, .slice none 0 0] 29)).heap.size := by simp
  clear hB h ba
  go_enter Try.func28, Try.ntmps28
  go_wp2_with fail
  generalize (w.alloc (.cells #[.int .i64 0, .slice none 0 0, .slice none 0 0] 29)) = u at *
  refine (HF.out u D.out).mono ?_
  rintro e w1 ⟨p, a, c, b, d, bs, ps, rfl, ob, op, ⟨hp2, hp6, hbl, hpl⟩, d1, k1⟩
  have hz1 := k1.size
  have hpl2 : 2 ≤ ps.length ∧ ps.length ≤ 6 := by omega
  clear hp2 hp6 hpl
  have ba := belAl w1 (.cells #[.int .i64 p, .slice a bs.length c, .slice b ps.length d] 29)
  have BX := Lib.hid (BxF.at w1 p a bs.length c b ps.length d 29)
  replace D := Lib.hid (d1.below ba)
  replace K := Lib.hid ((K.out.trans k1).trans (Kept.of_below (S := fun b => b = g) ba))
  replace Z := Lib.hid ((Z.out.kept k1 (by omega)).kept (Kept.of_below (S := fun _ => False) ba) id)
  have OB := Lib.hid (OwnBars.below ob ba)
  have OP := Lib.hid (OwnPlaces.below op ba)
  have NB : Hid (∀ k, (Value.slice a bs.length c).ownBlock = some k → k < w1.heap.size) := Lib.hid fun k hk => (ob.lt k hk).2
  have NP : Hid (∀ k, (Value.slice b ps.length d).ownBlock = some k → k < w1.heap.size) := Lib.hid fun k hk => (op.lt k hk).2
  clear d1 k1 ob op ba
  go_wp2_with fail
  obtain ⟨gt, hgt⟩ : ∃ q, q = w1.heap.size := ⟨_, rfl⟩
  rw [← hgt] at BX NB NP
  try rw [← hgt]
  have hgt2 : w.heap.size < gt ∧ u.heap.size ≤ gt := by omega
  generalize (w1.alloc (.cells #[.int .i64 p, .slice a bs.length c, .slice b ps.length d] 29)) = w2 at *
  clear hgt hz1
  refine (HD.out 14 w2 (by decide) D.out).mono ?_
  rintro e w3 ⟨x, hx, rfl, d1, k1⟩
  replace D := Lib.hid d1
  replace K := Lib.hid (K.out.trans k1)
  replace Z := Lib.hid (Z.out.kept k1 (by omega))
  replace BX := Lib.hid (BX.out.kept k1 (by omega))
  replace OB := Lib.hid (OB.out.on k1 (by omega))
  replace OP := Lib.hid (k1.ownsRow OP.out fun b h1 h2 => by have := (OP.out.lt b h1).1; omega)
  clear d1 k1
  cases h0 : (x == 0)
  · cases h1 : (x == 1)
    · obtain ⟨zB, cB0, cB1, cB2, fB2⟩ := BX.out
      have HF := Lib.hid (layF (p := p) (c := c) (d := d) hgw hlo0 D.out K.out (FrFw.own OB.out OP.out) (by omega))
      obtain ⟨⟨z1, z2, z3, c0, c1, c2⟩, ⟨f0, f1, f2⟩, gz⟩ := Z.out
      go_wp2_with fail
      refine bodyPost_ret (v := .agg #[.int .i64 p, .slice a bs.length c, .slice b ps.length d]) (by simp [results, Try.results28, go_sem, gz, c0, c1, c2]) rfl ?_
      exact ⟨p, a, c, b, d, bs, ps, rfl, HF.out.1, ⟨hbl, hpl2.2⟩, HF.out.2.1, HF.out.2.2⟩
    · obtain ⟨blk, d2, e2, hd1, hd2, hbk, hbk2⟩ := rowBlk OP.out (by omega)
      simp at e2
      obtain ⟨rfl, rfl⟩ := e2
      have hcut : ∀ w, (Instr.slice 27 (.slice (some ⟨blk, 0, none⟩) ps.length d) (some (.int .i64 1)) none none).run Try.prog w = .ok (.slice (some ⟨blk, 2, none⟩) (ps.length - 1) (d - 1)) w := fun w => by
        go_simp
        rw [if_pos (by omega), if_neg (by omega)]
      have kS : Kept (fun k => k = gt) w3 (w3.setCell ⟨gt, 2, none⟩ (.slice (some ⟨blk, 2, none⟩) (ps.length - 1) (d - 1))) := keptSet' (S := fun k => k = gt) rfl
      have FR := Lib.hid (FrFw.own OB.out OP.out)
      have FT : Hid (FrFw (w3.setCell ⟨gt, 2, none⟩ (.slice (some ⟨blk, 2, none⟩) (ps.length - 1) (d - 1))) u.heap.size a bs (some ⟨blk, 2, none⟩) ps.tail) := Lib.hid (FrFw.kept' ⟨FR.out.ba, tailPl FR.out.pa, FR.out.la, fun g off e => by
        simp at e
        have := FR.out.lb blk 0 rfl
        omega⟩ kS (fun g off e h9 => by
          have := NB.out g (by rw [e]; rfl)
          omega) fun g off e h9 => by
          simp at e
          have := NP.out blk rfl
          omega)
      replace D := Lib.hid (D.out.kept kS (by omega) fun b hb => by omega)
      replace K := Lib.hid (K.out.on kS fun i h1 h2 => by omega)
      replace Z := Lib.hid (Z.out.kept kS (by omega))
      have BX2 := Lib.hid (BX.out.set (b' := some ⟨blk, 2, none⟩) (m' := ps.length - 1) (d' := d - 1))
      have HL := Lib.hid (layF (p := p) (c := c) (d := d - 1) hgw hlo0 D.out K.out FT.out (by omega))
      obtain ⟨zB, cB0, cB1, cB2, fB2⟩ := BX.out
      obtain ⟨zC, cC0, cC1, cC2, fC2⟩ := BX2.out
      obtain ⟨⟨z1, z2, z3, c0, c1, c2⟩, ⟨f0, f1, f2⟩, gz⟩ := Z.out
      rw [List.length_tail] at HL
      clear kS FR FT OB OP BX BX2 D K Z hbk hbk2
      go_wp2_with fail
      refine bodyPost_ret (v := .agg #[.int .i64 p, .slice a bs.length c, .slice (some ⟨blk, 2, none⟩) (ps.length - 1) (d - 1)]) (by simp [results, Try.results28, go_sem, gz, c0, c1, c2]) rfl ?_
      exact ⟨p, a, c, some ⟨blk, 2, none⟩, d - 1, bs, ps.tail, by rw [List.length_tail], HL.out.1, ⟨hbl, by rw [List.length_tail]; omega⟩, HL.out.2.1, HL.out.2.2⟩
  · obtain ⟨blk, d2, e2, hd1, hd2, hbk, hbk2⟩ := rowBlk OP.out (by omega)
    simp at e2
    obtain ⟨rfl, rfl⟩ := e2
    have h0l : (0 : Int) < (ps.length : Int) := by omega
    have h0n : 0 < ps.length := by omega
    obtain ⟨q0, hq0⟩ : ∃ q0, ps[0]? = some q0 := ⟨_, List.getElem?_eq_getElem h0n⟩
    have HQ := Lib.hid hq0
    clear hq0
    obtain ⟨zB, cB0, cB1, cB2, fB2⟩ := BX.out
    go_wp2_with fail
    clear zB cB0 cB1 cB2 fB2
    have bd : Below w3.heap.size w3 w3.drew := (Below.refl _ _).drew
    have BD := Lib.hid (BX.out.kept (Kept.of_below (S := fun _ => False) bd) id)
    have OBD := Lib.hid (OB.out.below bd)
    have OPD := Lib.hid (OwnPlaces.below OP.out bd)
    have DD := Lib.hid (D.out.below bd)
    have KD := Lib.hid (K.out.trans (Kept.of_below (S := fun b => b = g) bd))
    have ZD := Lib.hid (Z.out.kept (Kept.of_below (S := fun _ => False) bd) id)
    have s0 : w3.drew.cell? ⟨gt, 2, none⟩ = some (.slice (some ⟨blk, 0, none⟩) ps.length d) ∧ True := ⟨BD.out.c2, trivial⟩
    refine wp_regionZ (fun w' => w'.cell? ⟨gt, 2, none⟩ = some (.slice (some ⟨blk, 0, none⟩) ps.length d) ∧ True) 7 (by kernel_rfl) ?_
    clear BX OB OP D K Z bd
    generalize w3.drew = wd at *
    refine wpAnyZ_takeC (i := 0) (v := ?_) [7] rfl (by kernel_rfl) (by kernel_rfl) (by kernel_rfl) (by kernel_rfl) (by kernel_rfl) (by kernel_rfl) (fun _ _ _ h => h) (s0) (by rfl) ?_ ?_
    rotate_left
    · intro x hx; obtain ⟨u1, u2⟩ := hx; go_simp; try (with_reducible rfl)
    try simp only [Act.put, List.setIfInBounds_toArray, List.set_cons_zero, List.set_cons_succ, List.getElem_toArray, List.getElem_cons_zero, List.getElem_cons_succ]
    refine wpAnyZ_takeC (i := 1) (v := ?_) [7] rfl (by kernel_rfl) (by kernel_rfl) (by kernel_rfl) (by kernel_rfl) (by kernel_rfl) (by kernel_rfl) (fun _ _ _ h => h) (s0) (by rfl) ?_ ?_
    rotate_left
    · intro x hx; obtain ⟨u1, u2⟩ := hx; go_simp; try (with_reducible rfl)
    try simp only [Act.put, List.setIfInBounds_toArray, List.set_cons_zero, List.set_cons_succ, List.getElem_toArray, List.getElem_cons_zero, List.getElem_cons_succ]
    refine wpAnyZ_takeC (i := 2) (v := ?_) [7] rfl (by kernel_rfl) (by kernel_rfl) (by kernel_rfl) (by kernel_rfl) (by kernel_rfl) (by kernel_rfl) (fun _ _ _ h => h) (s0) (by rfl) ?_ ?_
    rotate_left
    · intro x hx; obtain ⟨u1, u2⟩ := hx; go_simp; try (with_reducible rfl)
    try simp only [Act.put, List.setIfInBounds_toArray, List.set_cons_zero, List.set_cons_succ, List.getElem_toArray, List.getElem_cons_zero, List.getElem_cons_succ]
    have bl := belAl wd (.cells #[.int .i64 (-1), .int .i64 5, .int .i64 9] 3)
    have HLIT : Hid (OwnInts (wd.alloc (.cells #[.int .i64 (-1), .int .i64 5, .int .i64 9] 3)) wd.heap.size (.slice (some ⟨wd.heap.size, 0, none⟩) 3 3) [-1, 5, 9]) := Lib.hid ⟨by simp, .inr ⟨wd.heap.size, 3, _, rfl, Nat.le_refl _, heap_alloc_new wd _, Nat.le_refl _, by decide, rfl, by simp⟩⟩
    have hgd : g < wd.heap.size := DD.out.hi
    have BA := Lib.hid (BD.out.kept (Kept.of_below (S := fun _ => False) bl) id)
    have OBA := Lib.hid (OBD.out.below bl)
    have OPA := Lib.hid (OwnPlaces.below OPD.out bl)
    have DA := Lib.hid (DD.out.below bl)
    have KA := Lib.hid (KD.out.trans (Kept.of_below (S := fun b => b = g) bl))
    have ZA := Lib.hid (ZD.out.kept (Kept.of_below (S := fun _ => False) bl) id)
    have sA : (wd.alloc (.cells #[.int .i64 (-1), .int .i64 5, .int .i64 9] 3)).cell? ⟨gt, 2, none⟩ = some (.slice (some ⟨blk, 0, none⟩) ps.length d) ∧ True := ⟨BA.out.c2, trivial⟩
    clear bl BD OBD OPD DD KD ZD
    refine wpAnyZ_step (i := 3) (by kernel_rfl) rfl (by rfl) ?_
    intro KK hKK
    go_simp
    refine hKK.out _ _ (.inr sA) ?_
    clear hKK KK
    try simp only [Act.put, List.setIfInBounds_toArray, List.set_cons_zero, List.set_cons_succ, List.getElem_toArray, List.getElem_cons_zero, List.getElem_cons_succ]
    refine wpAnyZ_step (i := 4) (by kernel_rfl) rfl (by rfl) ?_
    intro KK hKK
    go_simp
    go_at_call 46
    refine (HP.out _ DA.out _ hgd _ _ HLIT.out (by simp) (by simp)).mono ?_
    rintro e w7 ⟨z, -, rfl, d7, k7⟩
    have D7 := Lib.hid d7
    have K7 := Lib.hid (KA.out.trans k7)
    have Z7 := Lib.hid (ZA.out.kept k7 (by omega))
    have B7 := Lib.hid (BA.out.kept k7 (by omega))
    have OB7 := Lib.hid (OBA.out.on k7 (by omega))
    have OP7 := Lib.hid (show OwnPlaces w7 u.heap.size _ ps from k7.ownsRow OPA.out fun b h1 h2 => by have := (OPA.out.lt b h1).1; omega)
    have s7 : w7.cell? ⟨gt, 2, none⟩ = some (.slice (some ⟨blk, 0, none⟩) ps.length d) ∧ True := ⟨B7.out.c2, trivial⟩
    clear d7 k7 DA KA ZA BA OBA OPA HLIT sA s0
    go_wp2_with fail
    refine hKK.out _ _ (.inr s7) ?_
    clear hKK KK
    try simp only [Act.put, List.setIfInBounds_toArray, List.set_cons_zero, List.set_cons_succ, List.getElem_toArray, List.getElem_cons_zero, List.getElem_cons_succ]
    refine wpAnyZ_step (i := 5) (by kernel_rfl) rfl (by rfl) ?_
    intro KK hKK
    go_simp
    refine hKK.out _ _ (.inr s7) ?_
    clear hKK KK
    try simp only [Act.put, List.setIfInBounds_toArray, List.set_cons_zero, List.set_cons_succ, List.getElem_toArray, List.getElem_cons_zero, List.getElem_cons_succ]
    refine wpAnyZ_step (i := 6) (by kernel_rfl) rfl (by rfl) ?_
    intro KK hKK
    go_simp
    refine hKK.out _ _ (.inr s7) ?_
    clear hKK KK
    try simp only [Act.put, List.setIfInBounds_toArray, List.set_cons_zero, List.set_cons_succ, List.getElem_toArray, List.getElem_cons_zero, List.getElem_cons_succ]
    have cx : w7.cell? ⟨blk, 0, none⟩ = some (.int .i64 q0.1) := ownPlaces_cell OP7.out HQ.out h0n 0 (by decide)
    have fx : w7.frozen? ⟨blk, 0, none⟩ = false := World.ownsRow.frozenAt OP7.out 0
    clear s7
    refine wpAnyZ_step (i := 7) (by kernel_rfl) rfl (by rfl) ?_
    intro KK hKK
    go_simp
    refine hKK.out _ _ (.inl (by kernel_rfl)) ?_
    clear hKK KK
    try simp only [Act.put, List.setIfInBounds_toArray, List.set_cons_zero, List.set_cons_succ, List.getElem_toArray, List.getElem_cons_zero, List.getElem_cons_succ]
    refine wpAnyZ_done (by kernel_rfl) ?_ _
    have kS : Kept (fun k => k = blk) w7 (w7.setCell ⟨blk, 0, none⟩ (.int .i64 z)) := keptSet' (S := fun k => k = blk) rfl
    have OP8 := Lib.hid (show OwnPlaces (w7.setCell ⟨blk, 0, none⟩ (.int .i64 z)) u.heap.size (.slice (some ⟨blk, 0, none⟩) (ps.set 0 (z, q0.2)).length d) (ps.set 0 (z, q0.2)) by
      have h9 := setPlaceX' OP7.out z HQ.out
      unfold OwnPlaces
      rw [List.length_set]
      rw [Nat.zero_mul] at h9
      exact h9)
    have hne : blk < gt := NP.out blk rfl
    have NBK : Hid (∀ b, (Value.slice a bs.length c).ownBlock = some b → ¬ b = blk) := Lib.hid fun b h1 h2 => apartT (by decide) rfl OB7.out OP7.out b h1 (by rw [h2]; rfl)
    have hub := (OP7.out.lt blk rfl).1
    have OB8 := Lib.hid (show OwnBars (w7.setCell ⟨blk, 0, none⟩ (.int .i64 z)) u.heap.size (.slice a bs.length c) bs from kS.ownsRow OB7.out fun b h1 h2 => NBK.out b h1 h2)
    have D8 := Lib.hid (D7.out.kept kS (by omega) fun b hb => by omega)
    have K8 := Lib.hid (K7.out.on kS fun i h1 h2 => by omega)
    have Z8 := Lib.hid (Z7.out.kept kS (by omega))
    have B8 := Lib.hid (B7.out.kept kS (by omega))
    have HL := Lib.hid (layF (p := p) (c := c) (d := d) hgw hlo0 D8.out K8.out (FrFw.own OB8.out OP8.out) (by omega))
    rw [List.length_set] at HL
    obtain ⟨zC, cC0, cC1, cC2, fC2⟩ := B8.out
    obtain ⟨⟨z1, z2, z3, c0, c1, c2⟩, ⟨f0, f1, f2⟩, gz⟩ := Z8.out
    clear kS OP8 OB8 D8 K8 Z8 B8 NBK D7 K7 Z7 B7 OB7 OP7 cx fx
    go_wp2_with fail
    refine bodyPost_ret (v := .agg #[.int .i64 p, .slice a bs.length c, .slice (some ⟨blk, 0, none⟩) ps.length d]) (by simp [results, Try.results28, go_sem, gz, c0, c1, c2]) rfl ?_
    exact ⟨p, a, c, some ⟨blk, 0, none⟩, d, bs, ps.set 0 (z, q0.2), by rw [List.length_set], HL.out.1, ⟨hbl, by rw [List.length_set]; omega⟩, HL.out.2.1, HL.out.2.2⟩
end Go.Proofs.Ytfbmpkdjhhcnpaa

