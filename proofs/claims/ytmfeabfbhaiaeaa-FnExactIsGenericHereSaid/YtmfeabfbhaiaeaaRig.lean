/- The rigidity matrix: plain facts, and RigidityMatrix of the reference. No condition but sizes. -/
import Derived.Test.YtmfeabfbhaiaeaaPlAt
import Derived.Test.YtmfeabfbhaiaeaaIsf2
import Derived.Test.YtmfeabfbhaiaeaaBox
import Derived.Test.YtmfeabfbhaiaeaaVec
import Derived.Test.YtmfeabfbhaiaeaaNul
import Derived.Deep.RegionHeld3
import Derived.IntWalk
import Derived.BigRegion
import Derived.Deep.QuietTactic
import Derived.BigQuiet
namespace Go.Proofs.Ytmfeabfbhaiaeaa
open Go.RowKit Gr
set_option maxRecDepth 100000
set_option linter.unusedVariables false
set_option linter.unusedSimpArgs false

def rigF (q : List PlaceT) (x : BarT) (k : Nat) : Int :=
  if k = 2 * x.2.toNat + 1 then (plAt q x.2.toNat).2 - (plAt q x.1.toNat).2
  else if k = 2 * x.2.toNat then (plAt q x.2.toNat).1 - (plAt q x.1.toNat).1
  else if k = 2 * x.1.toNat + 1 then (plAt q x.1.toNat).2 - (plAt q x.2.toNat).2
  else if k = 2 * x.1.toNat then (plAt q x.1.toNat).1 - (plAt q x.2.toNat).1 else 0
def rigRow (p : Int) (q : List PlaceT) (x : BarT) : List Int := rowL (2 * p.toNat) (rigF q x)
def rigM (f : FwT) : List (List Int) := if isFwB f then f.2.1.map (rigRow f.1 f.2.2) else []
theorem isFw_facts {p : Int} {l : List BarT} {q : List PlaceT} (h : isFwB (p, l, q) = true) : (1 ≤ p ∧ p ≤ 6) ∧ (q.length : Int) = p ∧ l.length ≤ 15 ∧ isGraphB (p, l) = true ∧ ∀ (i : Nat) x y, q[i]? = some (x, y) → (0 ≤ x ∧ x ≤ 4) ∧ (0 ≤ y ∧ y ≤ 4) := by
  simp only [isFwB, Bool.and_eq_true, decide_eq_true_eq] at h
  obtain ⟨h1, h2, h3, h4, h5, h6⟩ := h
  have hb := isGraphB_bd h1
  refine ⟨⟨hb.1.1, h2⟩, h3, h4, h1, fun i x y hx => ?_⟩
  have h7 := List.all_eq_true.1 h5 _ (List.mem_of_getElem? hx)
  simp [onB, inB] at h7
  omega

theorem some_cell {w : World} {p : Addr} {x : Int} (h : w.cell? p = some (.int .i64 x)) : ∃ z : Int, w.cell? p = some (.int .i64 z) := ⟨x, h⟩
theorem rigRow_eq {P : Nat} {q : List PlaceT} {i1 i2 : Nat} {y1 y2 t1 t2 a b c d : Int} (h1 : plAt q i1 = (y1, y2)) (h2 : plAt q i2 = (t1, t2)) (ha : y1 - t1 = a) (hb : y2 - t2 = b) (hc : t1 - y1 = c) (hd : t2 - y2 = d) :
    (rowL (2 * P) fun q => if q = 2 * i2 + 1 then d else if q = 2 * i2 then c else if q = 2 * i1 + 1 then b else if q = 2 * i1 then a else 0) = rigRow (P : Int) q ((i1 : Int), (i2 : Int)) := by
  unfold rigRow rigF
  simp only [Int.toNat_natCast, h1, h2, ha, hb, hc, hd]
set_option maxHeartbeats 3000000 in
theorem specRig_at (W : World) (p : Int) (a : Option Addr) (cap : Nat) (l : List BarT) (c : Option Addr) (capc : Nat) (q : List PlaceT) (h : BarsAt W a l.length l) (hq : PlacesAt W c q.length q) (hs : l.length + q.length ≤ 1048576) :
    Calls Try.prog 79 #[.agg #[.int .i64 p, .slice a l.length cap, .slice c q.length capc]] W (RetIntss W (rigM (p, l, q))) := by
  obtain ⟨i0, hinfo, hz0, hz1, hz2⟩ := info_parts infoInt
  have H1 := Lib.hid h
  have H2 := Lib.hid hq
  have HFw : Hid (IsFw W (.agg #[.int .i64 p, .slice a l.length cap, .slice c q.length capc]) (p, l, q)) := Lib.hid ⟨a, cap, c, capc, rfl, h, hq⟩
  clear h hq
  have hsz : szFw (p, l, q) ≤ 1048576 := hs
  have hs1 : l.length ≤ 1048576 := by omega
  have hs2 : q.length ≤ 1048576 := by omega
  have B : Below W.heap.size W ((W.alloc (.cells #[.int .i64 p, .slice a l.length cap, .slice c q.length capc] 35)).alloc (.cells #[] 73)) := ((Below.refl _ _).alloc (Nat.le_refl _) _).alloc (by simp) _
  have BX : Hid (BoxFw ((W.alloc (.cells #[.int .i64 p, .slice a l.length cap, .slice c q.length capc] 35)).alloc (.cells #[] 73)) W.heap.size p a l.length cap c q.length capc) := Lib.hid ((BoxFw.at rfl).below ((Below.refl _ _).alloc (Nat.le_refl _) _))
  have HO0 : Hid (OwnIntss ((W.alloc (.cells #[.int .i64 p, .slice a l.length cap, .slice c q.length capc] 35)).alloc (.cells #[] 73)) (W.heap.size + 1) (.slice (some ⟨W.heap.size + 1, 0, none⟩) 0 0) []) := Lib.hid (by
    have h9 : OwnIntss ((W.alloc (.cells #[.int .i64 p, .slice a l.length cap, .slice c q.length capc] 35)).alloc (.cells #[] 73)) (W.heap.size + 1) (.slice (some ⟨(W.alloc (.cells #[.int .i64 p, .slice a l.length cap, .slice c q.length capc] 35)).heap.size, 0, none⟩) 0 0) [] := ⟨[], World.ownsRow_made _ #[] 0 (by simp) (Nat.zero_le _) rfl, IRows.nil _ _⟩
    simpa using h9)
  have hsu : ((W.alloc (.cells #[.int .i64 p, .slice a l.length cap, .slice c q.length capc] 35)).alloc (.cells #[] 73)).heap.size = W.heap.size + 2 := by simp
  cases hf : isFwB (p, l, q)
  · have HE := Lib.hid (show rigM (p, l, q) = [] by simp only [rigM, hf]; rfl)
    go_enter Try.func79, Try.ntmps79
    go_wp2_with fail
    generalize ((W.alloc (.cells #[.int .i64 p, .slice a l.length cap, .slice c q.length capc] 35)).alloc (.cells #[] 73)) = u at *
    go_loopw [3, 4] (fun s i w9 => s = .slice (some ⟨W.heap.size + 1, 0, none⟩) 0 0 ∧ i = .int .i64 0 ∧ u = w9) (fun _ _ _ => 0)
    case atStart => exact ⟨rfl, rfl, rfl⟩
    case round =>
      obtain ⟨rfl, rfl, rfl⟩ := hrel
      obtain ⟨z, f0, f1, f2⟩ := BX.out
      by_cases h0 : 0 < l.length
      · have h0i : (0 : Int) < (l.length : Int) := by omega
        go_wp2_with fail
        refine (spec_IsFramework _ _ (p, l, q) (HFw.out.below B) hsz).mono ?_
        rintro e w1 ⟨rfl, b⟩
        have B1 := B.step b
        have HO1 := Lib.hid (HO0.out.below b)
        clear b
        rw [hf]
        go_wp2_with fail
        go_ret
        refine ⟨_, rfl, ?_, B1⟩
        rw [HE.out]
        exact ownsRow_base' HO1.out (by omega)
      · go_wp2_with fail
        go_ret
        refine ⟨_, rfl, ?_, B⟩
        rw [HE.out]
        exact ownsRow_base' HO0.out (by omega)
  have HE := Lib.hid (show rigM (p, l, q) = l.map (rigRow p q) by simp only [rigM, hf]; rfl)
  obtain ⟨⟨hg1, hg2⟩, hg3, hg4, hg5, hg6⟩ := isFw_facts hf
  have HG5 := Lib.hid hg5
  have HG6 := Lib.hid hg6
  clear hg5 hg6
  obtain ⟨P, rfl⟩ := Int.eq_ofNat_of_zero_le (show 0 ≤ p by omega)
  go_enter Try.func79, Try.ntmps79
  go_wp2_with fail
  generalize ((W.alloc (.cells #[.int .i64 (P : Int), .slice a l.length cap, .slice c q.length capc] 35)).alloc (.cells #[] 73)) = u at *
  go_loopw [3, 4] (fun s i w9 => ∃ k : Nat, k ≤ l.length ∧ i = .int .i64 k ∧ OwnIntss w9 (W.heap.size + 1) s ((l.take k).map (rigRow P q)) ∧ Below (W.heap.size + 1) u w9) (fun _ i _ => l.length - (intOf i).toNat)
  case atStart => exact ⟨0, Nat.zero_le _, rfl, by simpa using HO0.out, Below.refl _ _⟩
  case round =>
    obtain ⟨k, hk, rfl, ho, hb⟩ := hrel
    have HW := Lib.hid ho
    clear ho
    have B1 := B.trans (hb.mono (by omega))
    have hbz := hb.size
    have f0 := (hb.cell (p := ⟨W.heap.size, 0, none⟩) (by simp)).trans BX.out.c0
    have f1 := (hb.cell (p := ⟨W.heap.size, 1, none⟩) (by simp)).trans BX.out.c1
    have f2 := (hb.cell (p := ⟨W.heap.size, 2, none⟩) (by simp)).trans BX.out.c2
    have BX1 : Hid (BoxFw wr W.heap.size P a l.length cap c q.length capc) := Lib.hid ⟨by omega, f0, f1, f2⟩
    by_cases hlt : k < l.length
    · go_wp2_with fail
      refine (spec_IsFramework _ _ ((P : Int), l, q) (HFw.out.below B1) hsz).mono ?_
      rintro e w3 ⟨rfl, b⟩
      have hzw := b.size
      have HW3 := Lib.hid (HW.out.below b)
      have hb3 := hb.trans (b.mono (by omega))
      have B3 := B1.step b
      have BX3 := Lib.hid (BX1.out.below b)
      clear b f0 f1 f2
      obtain ⟨z3, f0, f1, f2⟩ := BX3.out
      obtain ⟨bb, off, ⟨x1, x2⟩, rfl, hbl, hx, hc0, hc1⟩ := (H1.out.below B3).2 k hlt
      dsimp only at hc0 hc1
      have HX := Lib.hid hx
      obtain ⟨hx1, hx2, hx3⟩ := isGraphB_bar HG5.out hx
      dsimp only at hx1 hx2 hx3
      obtain ⟨i1, rfl⟩ := Int.eq_ofNat_of_zero_le hx1
      obtain ⟨i2, rfl⟩ := Int.eq_ofNat_of_zero_le (show 0 ≤ x2 by omega)
      clear hx
      obtain ⟨bq, oq, ⟨y1, y2⟩, rfl, hbq, hy, hya, hyb⟩ := (H2.out.below B3).2 i1 (by omega)
      obtain ⟨bq', oq', ⟨t1, t2⟩, hab, hbq', ht, hta, htb⟩ := (H2.out.below B3).2 i2 (by omega)
      simp only [Option.some.injEq, Addr.mk.injEq, and_true] at hab
      obtain ⟨rfl, rfl⟩ := hab
      dsimp only at hya hyb hta htb
      have HP1 := Lib.hid (show plAt q i1 = (y1, y2) by simp only [plAt, hy, Option.getD_some])
      have HP2 := Lib.hid (show plAt q i2 = (t1, t2) by simp only [plAt, ht, Option.getD_some])
      have hyb1 := HG6.out i1 y1 y2 hy
      have htb1 := HG6.out i2 t1 t2 ht
      obtain ⟨⟨ya, yb⟩, yc, yd⟩ := hyb1
      obtain ⟨⟨ta, tb⟩, tc, td⟩ := htb1
      clear hy ht
      have hP0 : 2 * P ≤ 12 := by omega
      have hk1 : (i1 : Int) < (q.length : Int) := by omega
      have hk2 : (i2 : Int) < (q.length : Int) := by omega
      have q0 : W.heap.size < w3.heap.size := z3
      rw [hf]
      have HG3 := Lib.hid hg3
      clear hg3
      go_wp2_with (at_make; generalize hwB : World.alloc w3 _ = wB; have hzB : w3.heap.size < wB.heap.size := (by rw [← hwB]; simp); have hBB : Below w3.heap.size w3 wB := (by rw [← hwB]; exact (Below.refl _ _).alloc (Nat.le_refl _) _); have hc5 : wB.cell? ⟨w3.heap.size, 0, none⟩ = some (.int .i64 i1) := (by rw [← hwB]; simp [World.cell?_alloc_new]); have hc6 : wB.cell? ⟨w3.heap.size, 1, none⟩ = some (.int .i64 i2) := (by rw [← hwB]; simp [World.cell?_alloc_new]); clear hwB; refine wpList_make_full _ rfl _ _ _ rfl wB.heap.size 3 i0 (.int .i64 0) 1 Try.underlying73 hinfo hz0 hz1 .i64 .i64 _ _ (2 * P) rfl rfl rfl rfl (by rw [hz2]; omega) (by unfold maxLen; omega) (Nat.le_refl _) ?_; intro w4 hown hgrow; have hb4 : Below wB.heap.size wB w4 := Below.of_grown_none hgrow; have ho4 := ownInts_made hown; have hs4 : wB.heap.size < w4.heap.size := (ho4.lt _ rfl).2; have HO4 := Lib.hid ho4; clear hown hgrow ho4)
      have hb34 : Below w3.heap.size w3 w4 := hBB.trans (hb4.mono (by omega))
      have g0 := (hb34.cell (p := ⟨W.heap.size, 0, none⟩) (by simp; omega)).trans f0
      have g1 := (hb34.cell (p := ⟨W.heap.size, 1, none⟩) (by simp; omega)).trans f1
      have g2 := (hb34.cell (p := ⟨W.heap.size, 2, none⟩) (by simp; omega)).trans f2
      have g5 := (hb4.cell (p := ⟨w3.heap.size, 0, none⟩) (by simp; omega)).trans hc5
      have g6 := (hb4.cell (p := ⟨w3.heap.size, 1, none⟩) (by simp; omega)).trans hc6
      have pa := (hb34.cell (by simp; omega)).trans hya
      have pb := (hb34.cell (by simp; omega)).trans hyb
      have pc := (hb34.cell (by simp; omega)).trans hta
      have pd := (hb34.cell (by simp; omega)).trans htb
      go_quiet (fail)
      go_wp2_with fail
      go_quiet (fail)
      generalize hwC : World.drewN (World.drewN w4 _) _ = wC
      have hb5 : Below wB.heap.size wB wC := by rw [← hwC]; exact below_drewN (below_drewN hb4 _) _
      have hb45 : Below w4.heap.size w4 wC := by rw [← hwC]; exact below_drewN (below_drewN (Below.refl _ _) _) _
      have HO5 := Lib.hid (HO4.out.below hb45)
      clear hwC g0 g1 g2 g5 g6 pa pb pc pd hya hyb hta htb f0 f1 f2 hc0 hc1
      have hdxb : -4 ≤ y1 - t1 ∧ y1 - t1 ≤ 4 := by omega
      have hdyb : -4 ≤ y2 - t2 ∧ y2 - t2 ≤ 4 := by omega
      generalize hdx : y1 - t1 = dx at hdxb ⊢
      generalize hdy : y2 - t2 = dy at hdyb ⊢
      have HDX := Lib.hid hdx
      have HDY := Lib.hid hdy
      clear hdx hdy
      have k1 : 2 * i1 < 2 * P := by omega
      have k2 : 2 * i1 + 1 < 2 * P := by omega
      have k3 : 2 * i2 < 2 * P := by omega
      have k4 : 2 * i2 + 1 < 2 * P := by omega
      have O1 := Lib.hid (HO5.out.setRow (2 * i1) dx)
      have O2 := Lib.hid (O1.out.setRow (2 * i1 + 1) dy)
      have O3 := Lib.hid (O2.out.setRow (2 * i2) (-dx))
      have O4 := Lib.hid (O3.out.setRow (2 * i2 + 1) (-dy))
      have b1 : Below wB.heap.size wB _ := hb5.setCell (p := ⟨wB.heap.size, 2 * i1, none⟩) (Nat.le_refl _) (.int .i64 dx)
      have b2 : Below wB.heap.size wB _ := b1.setCell (p := ⟨wB.heap.size, 2 * i1 + 1, none⟩) (Nat.le_refl _) (.int .i64 dy)
      have b3 : Below wB.heap.size wB _ := b2.setCell (p := ⟨wB.heap.size, 2 * i2, none⟩) (Nat.le_refl _) (.int .i64 (-dx))
      have b4 : Below wB.heap.size wB _ := b3.setCell (p := ⟨wB.heap.size, 2 * i2 + 1, none⟩) (Nat.le_refl _) (.int .i64 (-dy))
      have u1 := HO5.out.rowFroz (2 * i1)
      have u2 := O1.out.rowFroz (2 * i1 + 1)
      have u3 := O2.out.rowFroz (2 * i2)
      have u4 := O3.out.rowFroz (2 * i2 + 1)
      obtain ⟨zv1, v1⟩ := some_cell (HO5.out.rowCell k1)
      obtain ⟨zv2, v2⟩ := some_cell (O1.out.rowCell k2)
      obtain ⟨zv3, v3⟩ := some_cell (O2.out.rowCell k3)
      obtain ⟨zv4, v4⟩ := some_cell (O3.out.rowCell k4)
      have c1 := (hb5.cell (p := ⟨w3.heap.size, 0, none⟩) (by simp; omega)).trans hc5
      have c2 := (b1.cell (p := ⟨w3.heap.size, 0, none⟩) (by simp; omega)).trans hc5
      have c3 := (b2.cell (p := ⟨w3.heap.size, 1, none⟩) (by simp; omega)).trans hc6
      have c4 := (b3.cell (p := ⟨w3.heap.size, 1, none⟩) (by simp; omega)).trans hc6
      have hlk : ((l.take k).map (rigRow P q)).length < 1099511627776 := by rw [List.length_map, List.length_take]; omega
      have HB4 := Lib.hid (hBB.trans (b4.mono (by omega)))
      have hz4 := b4.size
      go_upto_region 13 with (fail)
      clear v1 v2 v3 v4 c1 c2 c3 c4 u1 u2 u3 u4 hc5 hc6
      have hOw := O4.out
      have hbW : Below w3.heap.size w3 _ := HB4.out
      clear b1 b2 b3 b4 O1 O2 O3 O4 HB4 HO5
      generalize World.setCell _ _ _ = wD at *
      rw [rigRow_eq HP1.out HP2.out HDX.out HDY.out (by have := HDX.out; omega) (by have := HDY.out; omega)] at hOw
      have HU : Hid (OwnInts wD (W.heap.size + 1) (.slice (some ⟨wB.heap.size, 0, none⟩) (2 * P) (2 * P)) (rigRow (P : Int) q ((i1 : Int), (i2 : Int)))) := Lib.hid (ownsRow_base hOw (by omega))
      have HB := Lib.hid hbW
      have hzD : w3.heap.size ≤ wD.heap.size := hbW.size
      clear hOw hbW
      obtain ⟨vs, hvs, hrs⟩ := HW3.out
      have HV := Lib.hid hvs
      have HVR := Lib.hid hrs
      clear hvs hrs
      go_wp2_with (at_builtin; refine appRow rfl (.tmp 91) (.tmp 93) rfl rfl HU.out HB.out HV.out HVR.out (fun z hz => by simp [Value.ownBlock] at hz; omega) rfl hlk (by omega) ?_; intro v' w8 h8 k8)
      go_roundw
      case rel =>
        refine ⟨k + 1, by omega, by go_num, ?_, ?_⟩
        · rw [take_succ_of HX.out, List.map_append]
          exact h8
        · have hvs := HV.out
          exact hb3.trans ((HB.out.mono (by omega)).trans (k8.below (by omega) fun z h1 h2 => by
            have := (World.ownsRow.lt hvs z h2.symm).1
            omega))
      case measure => simp [intOf]; omega
    · obtain rfl : k = l.length := by omega
      have HW2 := HW.out
      rw [List.take_length] at HW2
      have HW3 := Lib.hid HW2
      clear HW2
      go_wp2_with fail
      go_ret
      refine ⟨_, rfl, ?_, B1⟩
      rw [HE.out]
      exact ownsRow_base' HW3.out (by omega)
end Go.Proofs.Ytmfeabfbhaiaeaa
