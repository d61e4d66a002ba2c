/- RigidityMatrix of the program, and both contracts. No condition but sizes. -/
import Derived.Test.YtfbmpkdjhhcnpaaMoP29
import Derived.Deep.RegionHeld3
import Derived.BigRegion
import Derived.Test.YtfbmpkdjhhcnpaaMoP26
import Derived.Deep.RegionLaw
namespace Go.Proofs.Ytfbmpkdjhhcnpaa
open Go.RowKit Gr
set_option maxRecDepth 100000
set_option linter.unusedVariables false
set_option linter.unusedSimpArgs false

theorem cell_set_ne {w : World} {b c o k : Nat} {v : Value} (h : b ≠ c) : (w.setCell ⟨b, o, none⟩ v).cell? ⟨c, k, none⟩ = w.cell? ⟨c, k, none⟩ := by
  simp [World.cell?, World.setCell, Array.getElem?_modify, h]
theorem two_new {w u : World} {x y z t : Int} {ty1 ty2 : TypeId} (h : ((w.alloc (.cells #[.int .i64 x, .int .i64 y] ty1)).alloc (.cells #[.int .i64 z, .int .i64 t] ty2)).drew = u) :
    Below w.heap.size w u ∧ u.cell? ⟨w.heap.size, 0, none⟩ = some (.int .i64 x) ∧ u.cell? ⟨w.heap.size, 1, none⟩ = some (.int .i64 y) ∧ u.cell? ⟨w.heap.size + 1, 0, none⟩ = some (.int .i64 z) ∧ u.cell? ⟨w.heap.size + 1, 1, none⟩ = some (.int .i64 t) ∧ w.heap.size + 2 ≤ u.heap.size := by
  subst h
  have k0 : (w.alloc (.cells #[.int .i64 x, .int .i64 y] ty1)).cell? ⟨w.heap.size, 0, none⟩ = some (.int .i64 x) := by simp [World.cell?_alloc_new]
  have k1 : (w.alloc (.cells #[.int .i64 x, .int .i64 y] ty1)).cell? ⟨w.heap.size, 1, none⟩ = some (.int .i64 y) := by simp [World.cell?_alloc_new]
  have k2 : ((w.alloc (.cells #[.int .i64 x, .int .i64 y] ty1)).alloc (.cells #[.int .i64 z, .int .i64 t] ty2)).cell? ⟨(w.alloc (.cells #[.int .i64 x, .int .i64 y] ty1)).heap.size, 0, none⟩ = some (.int .i64 z) := by simp [World.cell?_alloc_new]
  have k3 : ((w.alloc (.cells #[.int .i64 x, .int .i64 y] ty1)).alloc (.cells #[.int .i64 z, .int .i64 t] ty2)).cell? ⟨(w.alloc (.cells #[.int .i64 x, .int .i64 y] ty1)).heap.size, 1, none⟩ = some (.int .i64 t) := by simp [World.cell?_alloc_new]
  have b : Below (w.alloc (.cells #[.int .i64 x, .int .i64 y] ty1)).heap.size (w.alloc (.cells #[.int .i64 x, .int .i64 y] ty1)) (((w.alloc (.cells #[.int .i64 x, .int .i64 y] ty1)).alloc (.cells #[.int .i64 z, .int .i64 t] ty2)).drew) := ((Below.refl _ _).alloc (Nat.le_refl _) _).drew
  refine ⟨(((Below.refl _ _).alloc (Nat.le_refl _) _).alloc (by simp) _).drew, (b.cell (by simp)).trans k0, (b.cell (by simp)).trans k1, ?_, ?_, ?_⟩
  · rw [World.size_alloc] at k2; exact k2
  · rw [World.size_alloc] at k3; exact k3
  · show _ ≤ ((w.alloc _).alloc _).heap.size
    simp
def Two (w : World) (g : Nat) (x y : Int) : Prop := w.cell? ⟨g, 0, none⟩ = some (.int .i64 x) ∧ w.cell? ⟨g, 1, none⟩ = some (.int .i64 y)
theorem Two.set {w : World} {g : Nat} {x y : Int} (h : Two w g x y) {b o : Nat} {v : Value} (hne : b ≠ g) : Two (w.setCell ⟨b, o, none⟩ v) g x y := ⟨(cell_set_ne hne).trans h.1, (cell_set_ne hne).trans h.2⟩
theorem Two.drew {w : World} {g : Nat} {x y : Int} (h : Two w g x y) : Two w.drew g x y := h
set_option maxHeartbeats 6000000 in
theorem implRig_at (W : World) (p : Int) (a : Option Addr) (cap : Nat) (l : List BarT) (c : Option Addr) (capc : Nat) (q : List PlaceT) (h : BarsAt W a l.length l) (hq : PlacesAt W c q.length q) (hs : l.length + q.length ≤ 1048576) :
    Calls Try.prog 32 #[.agg #[.int .i64 p, .slice a l.length cap, .slice c q.length capc]] W (RetIntss W (rigM (p, l, q))) := by
  obtain ⟨i0, hinfo, hz0, hz1, hz2⟩ := info_parts infoInt
  have H1 := Lib.hid h
  have H2 := Lib.hid hq
  have HFw : Hid (IsFw W (.agg #[.int .i64 p, .slice a l.length cap, .slice c q.length capc]) (p, l, q)) := Lib.hid ⟨a, cap, c, capc, rfl, h, hq⟩
  clear h hq
  have hsz : szFw (p, l, q) ≤ 1048576 := hs
  have hs1 : l.length ≤ 1048576 := by omega
  have hs2 : q.length ≤ 1048576 := by omega
  have B : Below W.heap.size W ((W.alloc (.cells #[.int .i64 p, .slice a l.length cap, .slice c q.length capc] 29)).alloc (.cells #[] 35)) := ((Below.refl _ _).alloc (Nat.le_refl _) _).alloc (by simp) _
  have BX : Hid (BoxFw ((W.alloc (.cells #[.int .i64 p, .slice a l.length cap, .slice c q.length capc] 29)).alloc (.cells #[] 35)) W.heap.size p a l.length cap c q.length capc) := Lib.hid ((BoxFw.at rfl).below ((Below.refl _ _).alloc (Nat.le_refl _) _))
  have HO0 : Hid (OwnIntss ((W.alloc (.cells #[.int .i64 p, .slice a l.length cap, .slice c q.length capc] 29)).alloc (.cells #[] 35)) (W.heap.size + 1) (.slice (some ⟨W.heap.size + 1, 0, none⟩) 0 0) []) := Lib.hid (by
    have h9 : OwnIntss ((W.alloc (.cells #[.int .i64 p, .slice a l.length cap, .slice c q.length capc] 29)).alloc (.cells #[] 35)) (W.heap.size + 1) (.slice (some ⟨(W.alloc (.cells #[.int .i64 p, .slice a l.length cap, .slice c q.length capc] 29)).heap.size, 0, none⟩) 0 0) [] := ⟨[], World.ownsRow_made _ #[] 0 (by simp) (Nat.zero_le _) rfl, IRows.nil _ _⟩
    simpa using h9)
  have hsu : W.heap.size + 2 ≤ ((W.alloc (.cells #[.int .i64 p, .slice a l.length cap, .slice c q.length capc] 29)).alloc (.cells #[] 35)).heap.size := by simp
  cases hf : isFwB (p, l, q)
  · have HE := Lib.hid (show rigM (p, l, q) = [] by simp only [rigM, hf]; rfl)
    go_enter Try.func32, Try.ntmps32
    go_wp2_with fail
    refine (impl_IsFramework _ _ (p, l, q) (HFw.out.below B) hsz).mono ?_
    rintro e w1 ⟨rfl, b⟩
    have B1 := B.step b
    have HO1 := Lib.hid (HO0.out.below b)
    clear b
    rw [hf]
    go_wp2_with fail
    go_ret
    refine ⟨_, rfl, ?_, B1⟩
    rw [HE.out]
    exact ownsRow_base' HO1.out (by omega)
  have HE := Lib.hid (show rigM (p, l, q) = l.map (rigRow p q) by simp only [rigM, hf]; rfl)
  obtain ⟨⟨hg1, hg2⟩, hg3, hg4, hg5, hg6⟩ := isFw_facts hf
  have HG5 := Lib.hid hg5
  have HG6 := Lib.hid hg6
  clear hg5 hg6
  obtain ⟨P, rfl⟩ := Int.eq_ofNat_of_zero_le (show 0 ≤ p by omega)
  go_enter Try.func32, Try.ntmps32
  go_wp2_with fail
  refine (impl_IsFramework _ _ ((P : Int), l, q) (HFw.out.below B) hsz).mono ?_
  rintro e w1 ⟨rfl, b⟩
  have hb0 := b.size
  have B1 := B.step b
  have HO1 := Lib.hid (HO0.out.below b)
  have BX1 := Lib.hid (BX.out.below b)
  clear b
  rw [hf]
  obtain ⟨z1, f0, f1, f2⟩ := BX1.out
  clear BX B HO0
  go_wp2_with fail
  go_loopg [3, 18] l.length (fun gn s i w9 => ∃ k : Nat, k + gn = l.length ∧ i = .int .i64 k ∧ OwnIntss w9 (W.heap.size + 1) s ((l.take k).map (rigRow P q)) ∧ Below (W.heap.size + 1) w1 w9)
  case atStart => exact ⟨0, by omega, rfl, by simpa using HO1.out, Below.refl _ _⟩
  case round =>
    clear f0 f1 f2
    obtain ⟨k, hk, rfl, ho, hb⟩ := hrel
    have HW3 := Lib.hid ho
    clear ho
    have B3 := B1.trans (hb.mono (by omega))
    have hbz := hb.size
    have f0 := (hb.cell (p := ⟨W.heap.size, 0, none⟩) (by simp)).trans BX1.out.c0
    have f1 := (hb.cell (p := ⟨W.heap.size, 1, none⟩) (by simp)).trans BX1.out.c1
    have f2 := (hb.cell (p := ⟨W.heap.size, 2, none⟩) (by simp)).trans BX1.out.c2
    have HBL := Lib.hid hb
    have HK := Lib.hid hk
    clear hk
    by_cases hlt : k < l.length
    · obtain ⟨w3, hw3⟩ : ∃ w3, w3 = wr := ⟨_, rfl⟩
      subst hw3
      obtain ⟨bb, off, ⟨x1, x2⟩, rfl, hbl, hx, hc0, hc1⟩ := (H1.out.below B3).2 k hlt
      dsimp only at hc0 hc1
      have HX := Lib.hid hx
      obtain ⟨hx1, hx2, hx3⟩ := isGraphB_bar HG5.out hx
      dsimp only at hx1 hx2 hx3
      obtain ⟨i1, rfl⟩ := Int.eq_ofNat_of_zero_le hx1
      obtain ⟨i2, rfl⟩ := Int.eq_ofNat_of_zero_le (show 0 ≤ x2 by omega)
      clear hx
      obtain ⟨bq, oq, ⟨y1, y2⟩, rfl, hbq, hy, hya, hyb⟩ := (H2.out.below B3).2 i1 (by omega)
      obtain ⟨bq', oq', ⟨t1, t2⟩, hab, hbq', ht, hta, htb⟩ := (H2.out.below B3).2 i2 (by omega)
      simp only [Option.some.injEq, Addr.mk.injEq, and_true] at hab
      obtain ⟨rfl, rfl⟩ := hab
      dsimp only at hya hyb hta htb
      have HP1 := Lib.hid (show plAt q i1 = (y1, y2) by simp only [plAt, hy, Option.getD_some])
      have HP2 := Lib.hid (show plAt q i2 = (t1, t2) by simp only [plAt, ht, Option.getD_some])
      have hyb1 := HG6.out i1 y1 y2 hy
      have htb1 := HG6.out i2 t1 t2 ht
      obtain ⟨⟨ya, yb⟩, yc, yd⟩ := hyb1
      obtain ⟨⟨ta, tb⟩, tc, td⟩ := htb1
      clear hy ht
      have hP0 : 2 * P ≤ 12 := by omega
      have hk1 : (i1 : Int) < (q.length : Int) := by omega
      have hk2 : (i2 : Int) < (q.length : Int) := by omega
      have q0 : W.heap.size < w3.heap.size := by omega
      have HG3 := Lib.hid hg3
      clear hg3
      go_wp2_with (at_make; generalize hwB : World.alloc w3 _ = wB; have hzB : w3.heap.size < wB.heap.size := (by rw [← hwB]; simp); have hBB : Below w3.heap.size w3 wB := (by rw [← hwB]; exact (Below.refl _ _).alloc (Nat.le_refl _) _); have hc5 : wB.cell? ⟨w3.heap.size, 0, none⟩ = some (.int .i64 i1) := (by rw [← hwB]; simp [World.cell?_alloc_new]); have hc6 : wB.cell? ⟨w3.heap.size, 1, none⟩ = some (.int .i64 i2) := (by rw [← hwB]; simp [World.cell?_alloc_new]); clear hwB; refine wpList_make_full _ rfl _ _ _ rfl wB.heap.size 3 i0 (.int .i64 0) 1 Try.underlying35 hinfo hz0 hz1 .i64 .i64 _ _ (2 * P) rfl rfl rfl rfl (by rw [hz2]; omega) (by unfold maxLen; omega) (Nat.le_refl _) ?_; intro w4 hown hgrow; have hb4 : Below wB.heap.size wB w4 := Below.of_grown_none hgrow; have ho4 := ownInts_made hown; have hs4 : wB.heap.size < w4.heap.size := (ho4.lt _ rfl).2; have HO4 := Lib.hid ho4; clear hown hgrow ho4)
      have hb34 : Below w3.heap.size w3 w4 := hBB.trans (hb4.mono (by omega))
      have g2 := (hb34.cell (p := ⟨W.heap.size, 2, none⟩) (by simp; omega)).trans f2
      have g5 := (hb4.cell (p := ⟨w3.heap.size, 0, none⟩) (by simp; omega)).trans hc5
      have g6 := (hb4.cell (p := ⟨w3.heap.size, 1, none⟩) (by simp; omega)).trans hc6
      have pa := (hb34.cell (by simp; omega)).trans hya
      have pb := (hb34.cell (by simp; omega)).trans hyb
      have pc := (hb34.cell (by simp; omega)).trans hta
      have pd := (hb34.cell (by simp; omega)).trans htb
      have hz4 := hb34.size
      have m1 : bq < w4.heap.size := by omega
      have m2 : W.heap.size < w4.heap.size := by omega
      have m3 : w3.heap.size < w4.heap.size := by omega
      have m4 : bq < w4.heap.size + 1 := by omega
      have m5 : W.heap.size < w4.heap.size + 1 := by omega
      have m6 : w3.heap.size < w4.heap.size + 1 := by omega
      have m7 : bq < w4.heap.size + 1 + 1 := by omega
      have m8 : W.heap.size < w4.heap.size + 1 + 1 := by omega
      have m9 : w3.heap.size < w4.heap.size + 1 + 1 := by omega
      clear hya hyb hta htb hc0 hc1 f0 f1 f2
      have d2 : w4.drew.cell? ⟨W.heap.size, 2, none⟩ = some (.slice (some ⟨bq, oq, none⟩) q.length capc) := g2
      have d5 : w4.drew.cell? ⟨w3.heap.size, 0, none⟩ = some (.int .i64 i1) := g5
      have d6 : w4.drew.cell? ⟨w3.heap.size, 1, none⟩ = some (.int .i64 i2) := g6
      have da : w4.drew.cell? ⟨bq, oq + i1 * 2, none⟩ = some (.int .i64 y1) := pa
      have db : w4.drew.cell? ⟨bq, oq + i1 * 2 + 1, none⟩ = some (.int .i64 y2) := pb
      have dc : w4.drew.cell? ⟨bq, oq + i2 * 2, none⟩ = some (.int .i64 t1) := pc
      have dd : w4.drew.cell? ⟨bq, oq + i2 * 2 + 1, none⟩ = some (.int .i64 t2) := pd
      go_upto_region 8 with (fail)
      go_cut [7, 8] (fun s7 s8 wx => ∃ g h : Nat, s7 = .pointer (some ⟨g, 0, none⟩) ∧ s8 = .pointer (some ⟨h, 0, none⟩) ∧ Two wx g y1 y2 ∧ Two wx h t1 t2 ∧ w4.heap.size ≤ g ∧ w4.heap.size ≤ h ∧ Below w4.heap.size w4 wx)
      case first =>
        go_region_held3 (fun w' => w'.cell? ⟨W.heap.size, 2, none⟩ = some (.slice (some ⟨bq, oq, none⟩) q.length capc) ∧ w'.cell? ⟨w3.heap.size, 0, none⟩ = some (.int .i64 i1) ∧ w'.cell? ⟨w3.heap.size, 1, none⟩ = some (.int .i64 i2) ∧ w'.cell? ⟨bq, oq + i1 * 2, none⟩ = some (.int .i64 y1) ∧ w'.cell? ⟨bq, oq + i1 * 2 + 1, none⟩ = some (.int .i64 y2) ∧ w'.cell? ⟨bq, oq + i2 * 2, none⟩ = some (.int .i64 t1) ∧ w'.cell? ⟨bq, oq + i2 * 2 + 1, none⟩ = some (.int .i64 t2))
          (first | (with_reducible exact ⟨d2, d5, d6, da, db, dc, dd⟩) | (go_keep)) (fail)
        · generalize hwE : World.drew (World.alloc (World.alloc w4 _) _) = wE
          obtain ⟨hbE, ea0, ea1, eb0, eb1, hzE⟩ := two_new hwE
          clear hwE
          go_wp2_with fail
          go_meet
          exact ⟨_, _, rfl, rfl, ⟨ea0, ea1⟩, ⟨eb0, eb1⟩, Nat.le_refl _, by omega, hbE⟩
        · generalize hwE : World.drew (World.alloc (World.alloc w4 _) _) = wE
          obtain ⟨hbE, eb0, eb1, ea0, ea1, hzE⟩ := two_new hwE
          clear hwE
          go_wp2_with fail
          go_meet
          exact ⟨_, _, rfl, rfl, ⟨ea0, ea1⟩, ⟨eb0, eb1⟩, by omega, Nat.le_refl _, hbE⟩
      case rest =>
        obtain ⟨g, h, rfl, rfl, hg, hh, hgz, hhz, hbE⟩ := hcut
        clear d2 d5 d6 da db dc dd pa pb pc pd g2 g5 g6
        have OA := Lib.hid (HO4.out.below hbE)
        have Ab := hb4.trans (hbE.mono (by omega))
        have zE := hbE.size
        clear hbE
        obtain ⟨wE, hwE⟩ : ∃ wE, wE = wc := ⟨_, rfl⟩
        subst hwE
        go_upto_region 9 with (fail)
        go_cut [6] (fun s6 wx => s6 = .slice (some ⟨wB.heap.size, 0, none⟩) (2 * P) (2 * P) ∧ OwnInts wx wB.heap.size (.slice (some ⟨wB.heap.size, 0, none⟩) (2 * P) (2 * P)) (rowL (2 * P) (fun q => if q = 2 * i1 + 1 then y2 - t2 else if q = 2 * i1 then y1 - t1 else 0)) ∧ Below wB.heap.size wB wx ∧ Two wx g y1 y2 ∧ Two wx h t1 t2 ∧ w4.heap.size ≤ wx.heap.size)
        case first =>
          have zc_9 := Ab.size
          have zd_9 : w4.heap.size ≤ wE.heap.size := by omega
          obtain ⟨ea0, ea1⟩ := hg
          obtain ⟨eb0, eb1⟩ := hh
          have Au1 := OA.out.rowFroz (2 * i1)
          have Au2 := OA.out.rowFroz (2 * i1 + 1)
          obtain ⟨Az1, Av1⟩ := some_cell (OA.out.rowCell (show 2 * i1 < 2 * P by omega))
          obtain ⟨Az2, Av2⟩ := some_cell (OA.out.rowCell (show 2 * i1 + 1 < 2 * P by omega))
          have OAa := Lib.hid (OA.out.setRow (2 * i1) (y1 - t1))
          have Aba : Below wB.heap.size wB _ := Ab.setCell (p := ⟨wB.heap.size, 2 * i1, none⟩) (Nat.le_refl _) (.int .i64 (y1 - t1))
          have Au3 := OAa.out.rowFroz (2 * i1 + 1)
          obtain ⟨Az3, Av3⟩ := some_cell (OAa.out.rowCell (show 2 * i1 + 1 < 2 * P by omega))
          have OAb := Lib.hid (OAa.out.setRow (2 * i1 + 1) (y2 - t2))
          have Abb := Lib.hid (Aba.setCell (p := ⟨wB.heap.size, 2 * i1 + 1, none⟩) (Nat.le_refl _) (.int .i64 (y2 - t2)))
          have Ac1 := (Aba.cell (p := ⟨w3.heap.size, 0, none⟩) (by simp; omega)).trans hc5
          have Ac0 := (Ab.cell (p := ⟨w3.heap.size, 0, none⟩) (by simp; omega)).trans hc5
          have n1 : wB.heap.size ≠ g := by omega
          have n2 : wB.heap.size ≠ h := by omega
          have ea0' := (cell_set_ne (o := 2 * i1) (v := .int .i64 (y1 - t1)) n1).trans ea0
          have ea1' := (cell_set_ne (o := 2 * i1) (v := .int .i64 (y1 - t1)) n1).trans ea1
          have eb0' := (cell_set_ne (o := 2 * i1) (v := .int .i64 (y1 - t1)) n2).trans eb0
          have eb1' := (cell_set_ne (o := 2 * i1) (v := .int .i64 (y1 - t1)) n2).trans eb1
          have HG2 : Hid (Two ((wE.setCell ⟨wB.heap.size, 2 * i1, none⟩ (.int .i64 (y1 - t1))).setCell ⟨wB.heap.size, 2 * i1 + 1, none⟩ (.int .i64 (y2 - t2))) g y1 y2) := Lib.hid (Two.set (Two.set ⟨ea0, ea1⟩ n1) n1)
          have HH2 : Hid (Two ((wE.setCell ⟨wB.heap.size, 2 * i1, none⟩ (.int .i64 (y1 - t1))).setCell ⟨wB.heap.size, 2 * i1 + 1, none⟩ (.int .i64 (y2 - t2))) h t1 t2) := Lib.hid (Two.set (Two.set ⟨eb0, eb1⟩ n2) n2)
          have HSZ := Lib.hid (Nat.le_trans zd_9 (((Below.refl wB.heap.size wE).setCell (p := ⟨wB.heap.size, 2 * i1, none⟩) (Nat.le_refl _) (.int .i64 (y1 - t1))).setCell (p := ⟨wB.heap.size, 2 * i1 + 1, none⟩) (Nat.le_refl _) (.int .i64 (y2 - t2))).drew.size)
          clear n1 n2
          go_wp2_with fail
          have hw1 := IntWalk.i64_in (2 * (i1 : Int)) (by omega)
          have hw2 := IntWalk.i64_in (2 * (i1 : Int) + 1) (by omega)
          have hw3 := IntWalk.i64_in (y1 - t1) (by omega)
          have hw4 := IntWalk.i64_in (y2 - t2) (by omega)
          have hj1 : (2 * (i1 : Int)).toNat = 2 * i1 := by omega
          have hj2 : (2 * (i1 : Int) + 1).toNat = 2 * i1 + 1 := by omega
          have hm1 : (2 * (i1 : Int)) < ((2 * P : Nat) : Int) := by omega
          have hm2 : (2 * (i1 : Int) + 1) < ((2 * P : Nat) : Int) := by omega
          have hm5 : 0 ≤ (2 * (i1 : Int)) := by omega
          have hm6 : 0 ≤ (2 * (i1 : Int) + 1) := by omega
          go_region
          go_wp2_with fail
          go_meet
          exact ⟨rfl, OAb.out.below (Below.refl _ _).drew, Abb.out.drew, HG2.out, HH2.out, HSZ.out⟩
        case rest =>
          obtain ⟨rfl, OB, Bb, hg, hh, zF⟩ := hcut
          have OBH := Lib.hid OB
          clear OB OA Ab
          obtain ⟨wF, hwF⟩ : ∃ wF, wF = wc := ⟨_, rfl⟩
          subst hwF
          go_upto_region 10 with (fail)
          go_cut [6] (fun s6 wx => s6 = .slice (some ⟨wB.heap.size, 0, none⟩) (2 * P) (2 * P) ∧ OwnInts wx wB.heap.size (.slice (some ⟨wB.heap.size, 0, none⟩) (2 * P) (2 * P)) (rowL (2 * P) (fun q => if q = 2 * i2 + 1 then t2 - y2 else if q = 2 * i2 then t1 - y1 else if q = 2 * i1 + 1 then y2 - t2 else if q = 2 * i1 then y1 - t1 else 0)) ∧ Below wB.heap.size wB wx)
          case first =>
            have zc_10 := Bb.size
            have zd_10 : w4.heap.size ≤ wF.heap.size := by omega
            obtain ⟨ea0, ea1⟩ := hg
            obtain ⟨eb0, eb1⟩ := hh
            have Au1 := OBH.out.rowFroz (2 * i2)
            have Au2 := OBH.out.rowFroz (2 * i2 + 1)
            obtain ⟨Az1, Av1⟩ := some_cell (OBH.out.rowCell (show 2 * i2 < 2 * P by omega))
            obtain ⟨Az2, Av2⟩ := some_cell (OBH.out.rowCell (show 2 * i2 + 1 < 2 * P by omega))
            have OAa := Lib.hid (OBH.out.setRow (2 * i2) (t1 - y1))
            have Aba : Below wB.heap.size wB _ := Bb.setCell (p := ⟨wB.heap.size, 2 * i2, none⟩) (Nat.le_refl _) (.int .i64 (t1 - y1))
            have Au3 := OAa.out.rowFroz (2 * i2 + 1)
            obtain ⟨Az3, Av3⟩ := some_cell (OAa.out.rowCell (show 2 * i2 + 1 < 2 * P by omega))
            have OAb := Lib.hid (OAa.out.setRow (2 * i2 + 1) (t2 - y2))
            have Abb := Lib.hid (Aba.setCell (p := ⟨wB.heap.size, 2 * i2 + 1, none⟩) (Nat.le_refl _) (.int .i64 (t2 - y2)))
            have Ac1 := (Aba.cell (p := ⟨w3.heap.size, 1, none⟩) (by simp; omega)).trans hc6
            have Ac0 := (Bb.cell (p := ⟨w3.heap.size, 1, none⟩) (by simp; omega)).trans hc6
            have n1 : wB.heap.size ≠ g := by omega
            have n2 : wB.heap.size ≠ h := by omega
            have ea0' := (cell_set_ne (o := 2 * i2) (v := .int .i64 (t1 - y1)) n1).trans ea0
            have ea1' := (cell_set_ne (o := 2 * i2) (v := .int .i64 (t1 - y1)) n1).trans ea1
            have eb0' := (cell_set_ne (o := 2 * i2) (v := .int .i64 (t1 - y1)) n2).trans eb0
            have eb1' := (cell_set_ne (o := 2 * i2) (v := .int .i64 (t1 - y1)) n2).trans eb1
            have HG2 : Hid (Two ((wF.setCell ⟨wB.heap.size, 2 * i2, none⟩ (.int .i64 (t1 - y1))).setCell ⟨wB.heap.size, 2 * i2 + 1, none⟩ (.int .i64 (t2 - y2))) g y1 y2) := Lib.hid (Two.set (Two.set ⟨ea0, ea1⟩ n1) n1)
            have HH2 : Hid (Two ((wF.setCell ⟨wB.heap.size, 2 * i2, none⟩ (.int .i64 (t1 - y1))).setCell ⟨wB.heap.size, 2 * i2 + 1, none⟩ (.int .i64 (t2 - y2))) h t1 t2) := Lib.hid (Two.set (Two.set ⟨eb0, eb1⟩ n2) n2)
            clear n1 n2
            go_wp2_with fail
            have hw1 := IntWalk.i64_in (2 * (i2 : Int)) (by omega)
            have hw2 := IntWalk.i64_in (2 * (i2 : Int) + 1) (by omega)
            have hw3 := IntWalk.i64_in (t1 - y1) (by omega)
            have hw4 := IntWalk.i64_in (t2 - y2) (by omega)
            have hj1 : (2 * (i2 : Int)).toNat = 2 * i2 := by omega
            have hj2 : (2 * (i2 : Int) + 1).toNat = 2 * i2 + 1 := by omega
            have hm1 : (2 * (i2 : Int)) < ((2 * P : Nat) : Int) := by omega
            have hm2 : (2 * (i2 : Int) + 1) < ((2 * P : Nat) : Int) := by omega
            have hm5 : 0 ≤ (2 * (i2 : Int)) := by omega
            have hm6 : 0 ≤ (2 * (i2 : Int) + 1) := by omega
            go_region
            go_wp2_with fail
            go_meet
            exact ⟨rfl, OAb.out.below (Below.refl _ _).drew, Abb.out.drew⟩
          case rest =>
            obtain ⟨rfl, OC, Cb⟩ := hcut
            clear Bb hg hh OBH hc5 hc6
            rw [rigRow_eq HP1.out HP2.out rfl rfl rfl rfl] at OC
            have HU : Hid (OwnInts wc (W.heap.size + 1) (.slice (some ⟨wB.heap.size, 0, none⟩) (2 * P) (2 * P)) (rigRow (P : Int) q ((i1 : Int), (i2 : Int)))) := Lib.hid (ownsRow_base OC (by omega))
            clear OC
            have hbW : Below w3.heap.size w3 wc := hBB.trans (Cb.mono (show w3.heap.size ≤ wB.heap.size by omega))
            have HB := Lib.hid hbW
            have hzD : w3.heap.size ≤ wc.heap.size := hbW.size
            clear hbW Cb
            obtain ⟨vs, hvs, hrs⟩ := HW3.out
            have HV := Lib.hid hvs
            have HVR := Lib.hid hrs
            clear hvs hrs
            have hlk : ((l.take k).map (rigRow P q)).length < 1099511627776 := by rw [List.length_map, List.length_take]; omega
            have HLK := Lib.hid hlk
            clear hlk
            go_wp2_with (at_builtin; refine appRow rfl (.tmp 81) (.tmp 83) rfl rfl HU.out HB.out HV.out HVR.out (fun z hz => by simp [Value.ownBlock] at hz; omega) rfl HLK.out (by omega) ?_; intro v' w8 h8 k8)
            go_roundg (gk - 1)
            case measure => have := HK.out; omega
            case rel =>
              refine ⟨k + 1, by have := HK.out; omega, by go_num, ?_, ?_⟩
              · rw [take_succ_of HX.out, List.map_append]
                exact h8
              · have hvs := HV.out
                exact HBL.out.trans ((HB.out.mono (by omega)).trans (k8.below (by omega) fun z h1 h2 => by
                  have := (World.ownsRow.lt hvs z h2.symm).1
                  omega))
    · obtain rfl : k = l.length := by have := HK.out; omega
      have HW2 := HW3.out
      rw [List.take_length] at HW2
      have HW4 := Lib.hid HW2
      clear HW2
      go_wp2_with fail
      go_ret
      refine ⟨_, rfl, ?_, B3⟩
      rw [HE.out]
      exact ownsRow_base' HW4.out (by omega)
theorem spec_RigidityMatrix (W : World) (v : Value) (f : FwT) (h : IsFw W v f) (hn : szFw f ≤ 1048576) : Calls Try.prog 34 #[v] W (RetIntss W (rigM f)) := by
  obtain ⟨p, l, q⟩ := f
  obtain ⟨a, cap, c, capc, rfl, hi, hj⟩ := h
  exact specRig_at _ _ _ _ _ _ _ _ hi hj hn
theorem impl_RigidityMatrix (W : World) (v : Value) (f : FwT) (h : IsFw W v f) (hn : szFw f ≤ 1048576) : Calls Try.prog 32 #[v] W (RetIntss W (rigM f)) := by
  obtain ⟨p, l, q⟩ := f
  obtain ⟨a, cap, c, capc, rfl, hi, hj⟩ := h
  exact implRig_at _ _ _ _ _ _ _ _ hi hj hn
end Go.Proofs.Ytfbmpkdjhhcnpaa

namespace Go.Proofs.Ytfbmpkdjhhcnpaa
open Go.RowKit Gr
set_option maxRecDepth 100000
set_option linter.unusedVariables false
set_option linter.unusedSimpArgs false

def plX (q : List PlaceT) : List Int := q.flatMap fun _ => [1, 0]
def plY (q : List PlaceT) : List Int := q.flatMap fun _ => [0, 1]
def plT (q : List PlaceT) : List Int := q.flatMap fun x => [-x.2, x.1]
def plR (q : List PlaceT) : List (List Int) := [plX q, plY q, plT q]
def plmL (f : FwT) : List (List Int) := if isFwB f = true then plR f.2.2 else []
theorem plR_len (q : List PlaceT) : (plX q).length = 2 * q.length ∧ (plY q).length = 2 * q.length ∧ (plT q).length = 2 * q.length := by
  induction q with
  | nil => decide
  | cons x q ih =>
    obtain ⟨h1, h2, h3⟩ := ih
    simp only [plX, plY, plT, List.flatMap_cons, List.length_append, List.length_cons, List.length_nil] at h1 h2 h3 ⊢
    omega
theorem plX_succ {q : List PlaceT} {k : Nat} {x : PlaceT} (h : q[k]? = some x) : plX (q.take (k + 1)) = plX (q.take k) ++ [1, 0] := by rw [take_succ_of h]; simp [plX]
theorem plY_succ {q : List PlaceT} {k : Nat} {x : PlaceT} (h : q[k]? = some x) : plY (q.take (k + 1)) = plY (q.take k) ++ [0, 1] := by rw [take_succ_of h]; simp [plY]
theorem plT_succ {q : List PlaceT} {k : Nat} {x : PlaceT} (h : q[k]? = some x) : plT (q.take (k + 1)) = plT (q.take k) ++ [-x.2, x.1] := by rw [take_succ_of h]; simp [plT]
theorem plR_sz (f : FwT) : szIntss (plmL f) ≤ 1048576 := by
  obtain ⟨p, l, q⟩ := f
  unfold plmL
  split
  · rename_i h
    have := plR_len q
    have h3 := (isFw_facts h).2.1
    have h1 := (isFw_facts h).1
    unfold szIntss
    show 3 + sumLen (plR q) ≤ _
    simp only [plR, sumLen, List.map_cons, List.map_nil, List.sum_cons, List.sum_nil]
    omega
  · decide

theorem IRows.app {W W' : World} {base : Nat} {vs : List Value} {ll : List (List Int)} (h : IRows W base vs ll) {k : Nat} {v u : Value} {r : List Int} (hv : vs[k]? = some v) (hk : Kept (fun b => some b = v.ownBlock) W W') (ho : OwnInts W' base u r)
    (hfresh : u.ownBlock = v.ownBlock ∨ ∀ b, u.ownBlock = some b → W.heap.size ≤ b) : IRows W' base (vs.set k u) (ll.set k r) :=
  h.put hv hk ho fun j q hq hj b h1 h2 => by
    rcases hfresh with hf | hf
    · rw [hf] at h2
      exact h.ne hq hv hj b h1 h2
    · have := hf b h2
      have := (h.lt q (List.mem_of_getElem? hq) b h1).2
      omega
theorem rows3 (w : World) : IRows (((w.alloc (.cells #[] 3)).alloc (.cells #[] 3)).alloc (.cells #[] 3)) w.heap.size
    [.slice (some ⟨w.heap.size, 0, none⟩) 0 0, .slice (some ⟨w.heap.size + 1, 0, none⟩) 0 0, .slice (some ⟨w.heap.size + 1 + 1, 0, none⟩) 0 0] [[], [], []] := by
  have b := fun (w : World) => (Below.refl w.heap.size w).alloc (Nat.le_refl _) (.cells #[] 3)
  have h1 : OwnInts (w.alloc (.cells #[] 3)) w.heap.size (.slice (some ⟨w.heap.size, 0, none⟩) 0 0) [] := OwnInts.made w _ (Nat.le_refl _)
  have h2 := OwnInts.made (w.alloc (.cells #[] 3)) w.heap.size (by simp)
  have h3 := OwnInts.made ((w.alloc (.cells #[] 3)).alloc (.cells #[] 3)) w.heap.size (by simp; omega)
  simp only [World.size_alloc] at h2 h3
  have r1 := IRows.own1 ((h1.below (b _)).below (b _))
  have r2 := r1.snoc (h2.below (b _)) (fun u hu => by simp at hu; subst hu; intro k e1 e2; simp [Value.ownBlock] at e1 e2; omega)
  have r3 := r2.snoc h3 (fun u hu => by simp at hu; rcases hu with rfl | rfl <;> (intro k e1 e2; simp [Value.ownBlock] at e1 e2; omega))
  exact r3
theorem MatO.made {w : World} {base n : Nat} {vs : List Value} {ll : List (List Int)} (h : IRows w base vs ll) (hn : vs.length = n) (hb : base ≤ w.heap.size) (h1 : n ≤ 1000) : MatO (w.alloc (.cells vs.toArray 35)) base w.heap.size n n vs ll :=
  ⟨⟨by rw [hn, Nat.mul_one], .inr ⟨w.heap.size, n, vs.toArray, rfl, hb, heap_alloc_new w _, Nat.le_refl _, by unfold maxLen; omega, by simp [hn], by simp [← hn]⟩⟩, h.below ((Below.refl _ _).alloc (Nat.le_refl _) _)⟩
theorem MatO.cel {W : World} {base g n cap : Nat} {vs : List Value} {ll : List (List Int)} (h : MatO W base g n cap vs ll) {k : Nat} (hk : k < n) : ∃ v, vs[k]? = some v ∧ W.cell? ⟨g, k, none⟩ = some v ∧ W.frozen? ⟨g, k, none⟩ = false := by
  have h1 := h.len.1
  have h2 := World.ownsRow.cellAt h.out k (by omega)
  rw [List.getElem?_eq_getElem (show k < vs.length by omega)] at h2
  exact ⟨_, List.getElem?_eq_getElem (show k < vs.length by omega), h2, h.froz k⟩

set_option maxHeartbeats 4000000 in
theorem specPlm_at (W : World) (p : Int) (a : Option Addr) (cap : Nat) (l : List BarT) (c : Option Addr) (capc : Nat) (q : List PlaceT) (h : BarsAt W a l.length l) (hq : PlacesAt W c q.length q) (hs : l.length + q.length ≤ 1048576) :
    Calls Try.prog 10 #[.agg #[.int .i64 p, .slice a l.length cap, .slice c q.length capc]] W (RetIntss W (plmL (p, l, q))) := by
  have hwd := @Wd.cells
  have HFw : Hid (IsFw W (.agg #[.int .i64 p, .slice a l.length cap, .slice c q.length capc]) (p, l, q)) := Lib.hid ⟨a, cap, c, capc, rfl, h, hq⟩
  have H1 := Lib.hid h
  have H2 := Lib.hid hq
  clear h hq
  have hsz : szFw (p, l, q) ≤ 1048576 := hs
  have hs1 : l.length ≤ 1048576 := by omega
  have hs2 : q.length ≤ 1048576 := by omega
  have B : Below W.heap.size W (W.alloc (.cells #[.int .i64 p, .slice a l.length cap, .slice c q.length capc] 29)) := (Below.refl _ _).alloc (Nat.le_refl _) _
  have BX : Hid (BoxFw (W.alloc (.cells #[.int .i64 p, .slice a l.length cap, .slice c q.length capc] 29)) W.heap.size p a l.length cap c q.length capc) := Lib.hid (BoxFw.at rfl)
  have hba : Below (W.alloc (.cells #[.int .i64 p, .slice a l.length cap, .slice c q.length capc] 29)).heap.size (W.alloc (.cells #[.int .i64 p, .slice a l.length cap, .slice c q.length capc] 29)) ((W.alloc (.cells #[.int .i64 p, .slice a l.length cap, .slice c q.length capc] 29)).alloc (.cells #[] 35)) := (Below.refl _ _).alloc (Nat.le_refl _) _
  have HO0 : Hid (OwnIntss ((W.alloc (.cells #[.int .i64 p, .slice a l.length cap, .slice c q.length capc] 29)).alloc (.cells #[] 35)) (W.heap.size + 1) (.slice (some ⟨W.heap.size + 1, 0, none⟩) 0 0) []) := Lib.hid (by have h9 := made_intss (W.alloc (.cells #[.int .i64 p, .slice a l.length cap, .slice c q.length capc] 29)); simpa using h9)
  replace B := B.step hba
  replace BX := Lib.hid (BX.out.below hba)
  clear hba
  cases hf : isFwB (p, l, q)
  · have HE := Lib.hid (show plmL (p, l, q) = [] by unfold plmL; rw [hf]; rfl)
    go_enter Try.func10, Try.ntmps10
    go_wp2_with fail
    generalize ((W.alloc (.cells #[.int .i64 p, .slice a l.length cap, .slice c q.length capc] 29)).alloc (.cells #[] 35)) = u at *
    refine (spec_IsFramework _ _ (p, l, q) (HFw.out.below B) hsz).mono ?_
    rintro e w1 ⟨rfl, b⟩
    have HO1 := Lib.hid (HO0.out.below b)
    replace B := B.step b
    rw [hf]
    go_wp2_with fail
    go_ret
    exact ⟨_, rfl, by rw [HE.out]; exact ownsRow_base' HO1.out (by omega), B⟩
  have HE := Lib.hid (show plmL (p, l, q) = plR q by unfold plmL; rw [hf]; rfl)
  obtain ⟨⟨hg1, hg2⟩, hg3, hg4, _, hg6⟩ := isFw_facts hf
  have HG6 := Lib.hid hg6
  clear hg6 hg4
  go_enter Try.func10, Try.ntmps10
  go_wp2_with fail
  generalize ((W.alloc (.cells #[.int .i64 p, .slice a l.length cap, .slice c q.length capc] 29)).alloc (.cells #[] 35)) = u at *
  refine (spec_IsFramework _ _ (p, l, q) (HFw.out.below B) hsz).mono ?_
  rintro e w1 ⟨rfl, b⟩
  have hz_w1 := b.size
  replace B := B.step b
  replace BX := Lib.hid (BX.out.below b)
  clear b
  rw [hf]
  have HR0 := Lib.hid (rows3 w1)
  have hb0 : Below w1.heap.size w1 (((w1.alloc (.cells #[] 3)).alloc (.cells #[] 3)).alloc (.cells #[] 3)) := (((Below.refl _ w1).alloc (Nat.le_refl _) _).alloc (by simp) _).alloc (by simp; omega) _
  go_wp2_with fail
  generalize ((w1.alloc (.cells #[] 3)).alloc (.cells #[] 3)).alloc (.cells #[] 3) = w2 at *
  go_loopw [4, 5, 6, 7] (fun x y t i w9 => ∃ k : Nat, k ≤ q.length ∧ i = .int .i64 k ∧ IRows w9 w1.heap.size [x, y, t] (plR (q.take k)) ∧ Below w1.heap.size w1 w9) (fun _ _ _ i _ => q.length - (intOf i).toNat)
  case atStart => exact ⟨0, Nat.zero_le _, rfl, HR0.out, hb0⟩
  case round =>
    clear hb0 HR0
    obtain ⟨k, hk, rfl, hr, hb⟩ := hrel
    have HR := Lib.hid hr
    clear hr
    have hbz := hb.size
    have BX1 := Lib.hid (BX.out.below hb)
    obtain ⟨zBX, fBX0, fBX1, fBX2⟩ := BX1.out
    have hlen := plR_len (q.take k)
    rw [List.length_take, Nat.min_eq_left hk] at hlen
    obtain ⟨hl1, hl2, hl3⟩ := hlen
    by_cases hlt : k < q.length
    · go_upto_region 11 with (at_builtin; refine app2At rfl (.tmp 23) (.tmp 24) rfl rfl (HR.out.own 0 _ _ rfl rfl) 1 0 rfl (by omega) hbz ?_; intro v5 w5 h5 k5 a5)
      clear zBX fBX0 fBX1 fBX2
      have HR5 : Hid (IRows w5 w1.heap.size _ _) := Lib.hid (HR.out.app (k := 0) rfl k5 h5 a5)
      have hb5 := hb.trans (k5.setOwn (HR.out.own 0 _ _ rfl rfl) (Nat.le_refl _) hbz)
      have hbz5 := hb5.size
      clear h5 k5 a5
      go_upto_region 12 with (at_builtin; refine app2At rfl (.tmp 26) (.tmp 27) rfl rfl (HR5.out.own 1 _ _ rfl rfl) 0 1 rfl (by omega) hbz5 ?_; intro v6 w6 h6 k6 a6)
      have HR6 : Hid (IRows w6 w1.heap.size _ _) := Lib.hid (HR5.out.app (k := 1) rfl k6 h6 a6)
      have hb6 := hb5.trans (k6.setOwn (HR5.out.own 1 _ _ rfl rfl) (Nat.le_refl _) hbz5)
      have hbz6 := hb6.size
      clear h6 k6 a6
      have BX6 := Lib.hid (BX.out.below hb6)
      obtain ⟨zBX, fBX0, fBX1, fBX2⟩ := BX6.out
      obtain ⟨bq, oq, ⟨y1, y2⟩, rfl, hbq, hy, hya, hyb⟩ := (H2.out.below (B.step hb6)).2 k hlt
      dsimp only at hya hyb
      have hyy := HG6.out k y1 y2 hy
      obtain ⟨⟨n1, n2⟩, n3, n4⟩ := hyy
      have HY := Lib.hid hy
      clear hy
      have hkl : (k : Int) < (q.length : Int) := by omega
      have bu : Below w6.heap.size w6 (w6.alloc (.cells #[.int .i64 (-y2), .int .i64 y1] 3)).drew := ((Below.refl _ w6).alloc (Nat.le_refl _) _).drew
      have d1 : w6.drew.cell? ⟨W.heap.size, 2, none⟩ = _ := fBX2
      have d2 : w6.drew.cell? ⟨bq, oq + k * 2, none⟩ = _ := hya
      have d3 : w6.drew.cell? ⟨bq, oq + k * 2 + 1, none⟩ = _ := hyb
      have e1 : W.heap.size < w6.drew.heap.size := zBX
      have e2 : bq < w6.drew.heap.size := hbq
      have s0 : (w6.alloc (.cells #[.int .i64 (-y2), .int .i64 y1] 3)).drew.cell? ⟨w6.heap.size, 0, none⟩ = some (.int .i64 (-y2)) := by show (w6.alloc _).cell? _ = _; simp [World.cell?_alloc_new]
      have s1 : (w6.alloc (.cells #[.int .i64 (-y2), .int .i64 y1] 3)).drew.cell? ⟨w6.heap.size, 1, none⟩ = some (.int .i64 y1) := by show (w6.alloc _).cell? _ = _; simp [World.cell?_alloc_new]
      have HR7 : Hid (IRows _ w1.heap.size _ _) := Lib.hid (HR6.out.below bu)
      have hzd : w1.heap.size ≤ (w6.alloc (.cells #[.int .i64 (-y2), .int .i64 y1] 3)).drew.heap.size := by have := bu.size; omega
      have hw := IntWalk.i64_in (-y2) (by omega)
      go_region_law (first
          | (refine stepInts2 (by rfl) (.tmp 29) (.tmp 43) (by rfl) (by rfl) (HR7.out.own 2 _ _ rfl rfl) (-y2) y1 w6.heap.size (by rfl) s0 s1 (by omega) hzd ?_
             intro v7 w7 h7 k7 a7)
          | fail)
      all_goals
        have HR8 : Hid (IRows w7 w1.heap.size _ _) := Lib.hid (HR7.out.app (k := 2) rfl k7 h7 a7)
        have hb7 := (hb6.trans (bu.mono hbz6)).trans (k7.setOwn (HR7.out.own 2 _ _ rfl rfl) (Nat.le_refl _) hzd)
        clear h7 k7 a7 d1 d2 d3 s0 s1
        go_wp2_with fail
        go_roundw
        case rel =>
          refine ⟨k + 1, by omega, by go_num, ?_, hb7⟩
          have h9 := HR8.out
          unfold plR at h9 ⊢
          rw [plX_succ HY.out, plY_succ HY.out, plT_succ HY.out]
          exact h9
        case measure => simp [intOf]; omega
    · obtain rfl : k = q.length := by omega
      have hr := HR.out
      rw [List.take_length] at hr
      obtain ⟨ax, cx, rfl, _⟩ := (hr.own 0 _ _ rfl rfl).form
      obtain ⟨ay, cy, rfl, _⟩ := (hr.own 1 _ _ rfl rfl).form
      obtain ⟨at', ct, rfl, _⟩ := (hr.own 2 _ _ rfl rfl).form
      have HRE := Lib.hid hr
      clear hr
      go_wp2_with (at_builtin; refine appRowsNew (n := 3) rfl (.tmp 45) (.tmp 49) rfl (W.heap.size + 1) rfl HRE.out rfl (by decide) (by decide) rfl hbz ?_; intro v' w8 h8 b8)
      go_ret
      exact ⟨_, rfl, by rw [HE.out]; exact ownsRow_base' h8 B.size, (B.step hb).step b8⟩

end Go.Proofs.Ytfbmpkdjhhcnpaa

