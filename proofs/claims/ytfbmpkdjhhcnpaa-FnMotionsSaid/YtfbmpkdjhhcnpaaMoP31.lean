/- PlaneMotions of the program, and both contracts. No condition but sizes. -/
import Derived.Test.YtfbmpkdjhhcnpaaMoP30
import Derived.Deep.RegionHeld3
import Derived.Deep.RegionLaw
import Derived.Test.YtfbmpkdjhhcnpaaMoP29
import Derived.BigRegion
namespace Go.Proofs.Ytfbmpkdjhhcnpaa
open Go.RowKit Gr
set_option maxRecDepth 100000
set_option linter.unusedVariables false
set_option linter.unusedSimpArgs false

theorem nb_set {vs : List Value} {k g0 s : Nat} {v u : Value} (h : ∀ x ∈ vs, x.ownBlock ≠ some g0) (hv : vs[k]? = some v) (hf : u.ownBlock = v.ownBlock ∨ ∀ b, u.ownBlock = some b → s ≤ b) (hs : g0 < s) : ∀ x ∈ vs.set k u, x.ownBlock ≠ some g0 := by
  intro x hx
  rcases List.mem_or_eq_of_mem_set hx with h1 | rfl
  · exact h x h1
  · rcases hf with hf | hf
    · rw [hf]; exact h v (List.mem_of_getElem? hv)
    · intro e
      have := hf _ e
      omega
theorem BoxPl.put {u w5 : World} {v x : Value} {g g0 k : Nat} {y1 y2 : Int} (h : BoxPl u g0 y1 y2) (hk : Kept (fun b => some b = v.ownBlock) u w5) (hne : v.ownBlock ≠ some g0) (hg : g ≠ g0) : BoxPl (w5.setCell ⟨g, k, none⟩ x) g0 y1 y2 := by
  have h1 := h.kept hk (fun e => hne e.symm)
  exact ⟨by simpa using h1.1, (cell_set_ne hg).trans h1.2.1, (cell_set_ne hg).trans h1.2.2⟩

set_option maxHeartbeats 4000000 in
theorem implPlm_at (W : World) (p : Int) (a : Option Addr) (cap : Nat) (l : List BarT) (c : Option Addr) (capc : Nat) (q : List PlaceT) (h : BarsAt W a l.length l) (hq : PlacesAt W c q.length q) (hs : l.length + q.length ≤ 1048576) :
    Calls Try.prog 7 #[.agg #[.int .i64 p, .slice a l.length cap, .slice c q.length capc]] W (RetIntss W (plmL (p, l, q))) := by
  have hwd := @Wd.cells
  have HFw : Hid (IsFw W (.agg #[.int .i64 p, .slice a l.length cap, .slice c q.length capc]) (p, l, q)) := Lib.hid ⟨a, cap, c, capc, rfl, h, hq⟩
  have H1 := Lib.hid h
  have H2 := Lib.hid hq
  clear h hq
  have hsz : szFw (p, l, q) ≤ 1048576 := hs
  have hs1 : l.length ≤ 1048576 := by omega
  have hs2 : q.length ≤ 1048576 := by omega
  have B : Below W.heap.size W (W.alloc (.cells #[.int .i64 p, .slice a l.length cap, .slice c q.length capc] 29)) := (Below.refl _ _).alloc (Nat.le_refl _) _
  have BX : Hid (BoxFw (W.alloc (.cells #[.int .i64 p, .slice a l.length cap, .slice c q.length capc] 29)) W.heap.size p a l.length cap c q.length capc) := Lib.hid (BoxFw.at rfl)
  cases hf : isFwB (p, l, q)
  · have HE := Lib.hid (show plmL (p, l, q) = [] by unfold plmL; rw [hf]; rfl)
    go_enter Try.func7, Try.ntmps7
    go_wp2_with fail
    refine (impl_IsFramework _ _ (p, l, q) (HFw.out.below B) hsz).mono ?_
    rintro e w1 ⟨rfl, b⟩
    have hz_w1 := b.size
    replace B := B.step b
    replace BX := Lib.hid (BX.out.below b)
    clear b
    rw [hf]
    have HO1 := Lib.hid (made_intss w1)
    go_wp2_with fail
    go_ret
    exact ⟨_, rfl, by rw [HE.out]; exact ownsRow_base' HO1.out B.size, B.step ((Below.refl _ _).alloc (Nat.le_refl _) _)⟩
  have HE := Lib.hid (show plmL (p, l, q) = plR q by unfold plmL; rw [hf]; rfl)
  obtain ⟨⟨hg1, hg2⟩, hg3, hg4, _, hg6⟩ := isFw_facts hf
  have HG6 := Lib.hid hg6
  clear hg6 hg4
  go_enter Try.func7, Try.ntmps7
  go_wp2_with fail
  refine (impl_IsFramework _ _ (p, l, q) (HFw.out.below B) hsz).mono ?_
  rintro e w1 ⟨rfl, b⟩
  have hz_w1 := b.size
  replace B := B.step b
  replace BX := Lib.hid (BX.out.below b)
  clear b
  rw [hf]
  have HR0 := Lib.hid (MatO.made (n := 3) (rows3 w1) rfl (by simp; omega) (by decide))
  have hb0 : Below w1.heap.size w1 ((((w1.alloc (.cells #[] 3)).alloc (.cells #[] 3)).alloc (.cells #[] 3)).alloc (.cells #[.slice (some ⟨w1.heap.size, 0, none⟩) 0 0, .slice (some ⟨w1.heap.size + 1, 0, none⟩) 0 0, .slice (some ⟨w1.heap.size + 1 + 1, 0, none⟩) 0 0] 35)) := ((((Below.refl _ w1).alloc (Nat.le_refl _) _).alloc (by simp) _).alloc (by simp; omega) _).alloc (by simp; omega) _
  have BX0 := Lib.hid (BX.out.below hb0)
  obtain ⟨zBX, fBX0, fBX1, fBX2⟩ := BX0.out
  go_wp2_with fail
  simp only [World.size_alloc] at HR0
  generalize (((w1.alloc (.cells #[] 3)).alloc (.cells #[] 3)).alloc (.cells #[] 3)).alloc (.cells #[.slice (some ⟨w1.heap.size, 0, none⟩) 0 0, .slice (some ⟨w1.heap.size + 1, 0, none⟩) 0 0, .slice (some ⟨w1.heap.size + 1 + 1, 0, none⟩) 0 0] 35) = w2 at *
  clear zBX fBX0 fBX1 fBX2 BX0
  go_loopw [17] (fun i w9 => ∃ k : Nat, ∃ vs, k ≤ q.length ∧ i = .int .i64 k ∧ MatO w9 w1.heap.size (w1.heap.size + 1 + 1 + 1) 3 3 vs (plR (q.take k)) ∧ Below w1.heap.size w1 w9) (fun i _ => q.length - (intOf i).toNat)
  case atStart => exact ⟨0, _, Nat.zero_le _, rfl, HR0.out, hb0⟩
  case round =>
    clear hb0 HR0
    obtain ⟨k, vs, hk, rfl, hr, hb⟩ := hrel
    have HM := Lib.hid hr
    clear hr
    have hbz := hb.size
    have hlen := plR_len (q.take k)
    rw [List.length_take, Nat.min_eq_left hk] at hlen
    obtain ⟨hl1, hl2, hl3⟩ := hlen
    by_cases hlt : k < q.length
    · obtain ⟨bq, oq, ⟨y1, y2⟩, rfl, hbq, hy, hya, hyb⟩ := (H2.out.below (B.step hb)).2 k hlt
      dsimp only at hya hyb
      have hyy := HG6.out k y1 y2 hy
      obtain ⟨⟨n1, n2⟩, n3, n4⟩ := hyy
      have HY := Lib.hid hy
      clear hy
      have hkl : (k : Int) < (q.length : Int) := by omega
      have bpl : Below wr.heap.size wr (wr.alloc (.cells #[.int .i64 y1, .int .i64 y2] 54)) := (Below.refl _ _).alloc (Nat.le_refl _) _
      have HP : Hid (BoxPl (wr.alloc (.cells #[.int .i64 y1, .int .i64 y2] 54)) wr.heap.size y1 y2) := Lib.hid (BoxPl.at rfl)
      go_upto_region 7 with (fail)
      have NB0 := Lib.hid (fun x hx e => Nat.lt_irrefl _ (HM.out.rows.lt x hx wr.heap.size e).2 : ∀ x ∈ vs, Value.ownBlock x ≠ some wr.heap.size)
      have hgne : w1.heap.size + 1 + 1 + 1 ≠ wr.heap.size := by have := HM.out.blk.1; omega
      have HM1 := Lib.hid (HM.out.below bpl)
      have hb1 := hb.step bpl
      generalize (wr.alloc (.cells #[.int .i64 y1, .int .i64 y2] 54)) = u1 at *
      clear hya hyb bpl
      have hbz0 := hb1.size
      obtain ⟨v0, e0, c0, z0⟩ := HM1.out.cel (k := 0) (by decide)
      have hg0 := HM1.out.blk.1
      have HV0 : Hid (OwnInts u1 w1.heap.size v0 (plX (q.take k))) := Lib.hid (HM1.out.rows.own 0 _ _ e0 rfl)
      go_upto_region 8 with (at_builtin; refine app2At rfl (.tmp 24) (.tmp 25) rfl rfl HV0.out 1 0 rfl (by omega) hbz0 ?_; intro v5 w5 h5 k5 a5; obtain ⟨av0, cv0, rfl, hiv⟩ := h5.form; clear hiv; have e9 : (plX (q.take k) ++ [1, 0]).length = 2 * k + 2 := (by rw [List.length_append, hl1]; rfl); rw [e9] at h5 a5 ⊢; clear e9; have t1 := (k5.cell (b := w1.heap.size + 1 + 1 + 1) (o := 0) hg0 (fun e => outer_apart HM1.out.out HV0.out _ rfl e.symm)).trans c0; have t3 := (k5.frozen (b := w1.heap.size + 1 + 1 + 1) (o := 0) hg0 (fun e => outer_apart HM1.out.out HV0.out _ rfl e.symm)).trans z0)
      have HM2 : Hid (MatO (w5.setCell ⟨w1.heap.size + 1 + 1 + 1, 0, none⟩ (.slice av0 (2 * k + 2) cv0)) w1.heap.size (w1.heap.size + 1 + 1 + 1) 3 3 _ _) := Lib.hid (HM1.out.put e0 rfl k5 h5 a5)
      have bs0 : Below w1.heap.size u1 (w5.setCell ⟨w1.heap.size + 1 + 1 + 1, 0, none⟩ (.slice av0 (2 * k + 2) cv0)) := (k5.setOwn HV0.out (Nat.le_refl _) hbz0).setCell (p := ⟨w1.heap.size + 1 + 1 + 1, 0, none⟩) (by simp; omega) _
      have NB1 := Lib.hid (nb_set NB0.out e0 a5 HP.out.1)
      replace HP : Hid (BoxPl (w5.setCell ⟨w1.heap.size + 1 + 1 + 1, 0, none⟩ (.slice av0 (2 * k + 2) cv0)) wr.heap.size y1 y2) := Lib.hid (HP.out.put k5 (NB0.out _ (List.mem_of_getElem? e0)) hgne)
      have hb2 := hb1.trans bs0
      generalize (w5.setCell ⟨w1.heap.size + 1 + 1 + 1, 0, none⟩ (.slice av0 (2 * k + 2) cv0)) = u2 at *
      clear t1 t3 h5 k5 a5 c0 z0 hg0 HV0 HM1 bs0 hb1
      have hbz1 := hb2.size
      obtain ⟨v1, e1, c1, z1⟩ := HM2.out.cel (k := 1) (by decide)
      have hg1 := HM2.out.blk.1
      have HV1 : Hid (OwnInts u2 w1.heap.size v1 (plY (q.take k))) := Lib.hid (HM2.out.rows.own 1 _ _ e1 rfl)
      go_upto_region 9 with (at_builtin; refine app2At rfl (.tmp 31) (.tmp 32) rfl rfl HV1.out 0 1 rfl (by omega) hbz1 ?_; intro v5 w5 h5 k5 a5; obtain ⟨av1, cv1, rfl, hiv⟩ := h5.form; clear hiv; have e9 : (plY (q.take k) ++ [0, 1]).length = 2 * k + 2 := (by rw [List.length_append, hl2]; rfl); rw [e9] at h5 a5 ⊢; clear e9; have t1 := (k5.cell (b := w1.heap.size + 1 + 1 + 1) (o := 1) hg1 (fun e => outer_apart HM2.out.out HV1.out _ rfl e.symm)).trans c1; have t3 := (k5.frozen (b := w1.heap.size + 1 + 1 + 1) (o := 1) hg1 (fun e => outer_apart HM2.out.out HV1.out _ rfl e.symm)).trans z1)
      have HM3 : Hid (MatO (w5.setCell ⟨w1.heap.size + 1 + 1 + 1, 1, none⟩ (.slice av1 (2 * k + 2) cv1)) w1.heap.size (w1.heap.size + 1 + 1 + 1) 3 3 _ _) := Lib.hid (HM2.out.put e1 rfl k5 h5 a5)
      have bs1 : Below w1.heap.size u2 (w5.setCell ⟨w1.heap.size + 1 + 1 + 1, 1, none⟩ (.slice av1 (2 * k + 2) cv1)) := (k5.setOwn HV1.out (Nat.le_refl _) hbz1).setCell (p := ⟨w1.heap.size + 1 + 1 + 1, 1, none⟩) (by simp; omega) _
      have NB2 := Lib.hid (nb_set NB1.out e1 a5 HP.out.1)
      replace HP : Hid (BoxPl (w5.setCell ⟨w1.heap.size + 1 + 1 + 1, 1, none⟩ (.slice av1 (2 * k + 2) cv1)) wr.heap.size y1 y2) := Lib.hid (HP.out.put k5 (NB1.out _ (List.mem_of_getElem? e1)) hgne)
      have hb3 := hb2.trans bs1
      generalize (w5.setCell ⟨w1.heap.size + 1 + 1 + 1, 1, none⟩ (.slice av1 (2 * k + 2) cv1)) = u3 at *
      clear t1 t3 h5 k5 a5 c1 z1 hg1 HV1 HM2 bs1 hb2
      have hbz2 := hb3.size
      obtain ⟨zP, p0, p1⟩ := HP.out
      obtain ⟨v2, e2, c2, z2⟩ := HM3.out.cel (k := 2) (by decide)
      have hg2 := HM3.out.blk.1
      have bu : Below u3.heap.size u3 (u3.alloc (.cells #[.int .i64 (-y2), .int .i64 y1] 3)).drew := ((Below.refl _ u3).alloc (Nat.le_refl _) _).drew
      have d1 : u3.drew.cell? ⟨w1.heap.size + 1 + 1 + 1, 2, none⟩ = _ := c2
      have d2 : u3.drew.cell? ⟨wr.heap.size, 0, none⟩ = _ := p0
      have d3 : u3.drew.cell? ⟨wr.heap.size, 1, none⟩ = _ := p1
      have r1 : (u3.alloc (.cells #[.int .i64 (-y2), .int .i64 y1] 3)).drew.cell? ⟨w1.heap.size + 1 + 1 + 1, 2, none⟩ = _ := ((bcell bu).1 _ _ hg2).trans c2
      have s0 : (u3.alloc (.cells #[.int .i64 (-y2), .int .i64 y1] 3)).drew.cell? ⟨u3.heap.size, 0, none⟩ = some (.int .i64 (-y2)) := by show (u3.alloc _).cell? _ = _; simp [World.cell?_alloc_new]
      have s1 : (u3.alloc (.cells #[.int .i64 (-y2), .int .i64 y1] 3)).drew.cell? ⟨u3.heap.size, 1, none⟩ = some (.int .i64 y1) := by show (u3.alloc _).cell? _ = _; simp [World.cell?_alloc_new]
      have q1 : wr.heap.size < u3.drew.heap.size := zP
      have q2 : w1.heap.size + 1 + 1 + 1 < u3.drew.heap.size := hg2
      have HM4 := Lib.hid (HM3.out.below bu)
      have HV2 : Hid (OwnInts _ w1.heap.size v2 (plT (q.take k))) := Lib.hid (HM4.out.rows.own 2 _ _ e2 rfl)
      have hzd : w1.heap.size ≤ (u3.alloc (.cells #[.int .i64 (-y2), .int .i64 y1] 3)).drew.heap.size := by have := bu.size; omega
      have hzg : w1.heap.size + 1 + 1 + 1 < (u3.alloc (.cells #[.int .i64 (-y2), .int .i64 y1] 3)).drew.heap.size := by have := bu.size; omega
      have hw := IntWalk.i64_in (-y2) (by omega)
      go_region_law (first
          | (refine stepInts2 (by rfl) (.tmp 38) (.tmp 44) (by rfl) (by rfl) HV2.out (-y2) y1 u3.heap.size (by rfl) s0 s1 (by omega) hzd ?_
             intro v5 w5 h5 k5 a5
             obtain ⟨av, cv, rfl, hiv⟩ := h5.form
             clear hiv
             have e9 : (plT (q.take k) ++ [-y2, y1]).length = 2 * k + 2 := (by rw [List.length_append, hl3]; rfl)
             rw [e9] at h5 a5 ⊢
             clear e9
             have t1 := (k5.cell (b := w1.heap.size + 1 + 1 + 1) (o := 2) hzg (fun e => outer_apart HM4.out.out HV2.out _ rfl e.symm)).trans r1
             have t3 := (k5.frozen (b := w1.heap.size + 1 + 1 + 1) (o := 2) hzg (fun e => outer_apart HM4.out.out HV2.out _ rfl e.symm)).trans (HM4.out.froz 2))
          | fail)
      all_goals
        have HM5 : Hid (MatO (w5.setCell ⟨w1.heap.size + 1 + 1 + 1, 2, none⟩ (.slice av (2 * k + 2) cv)) w1.heap.size (w1.heap.size + 1 + 1 + 1) 3 3 _ _) := Lib.hid (HM4.out.put e2 rfl k5 h5 a5)
        have hb4 : Below w1.heap.size w1 (w5.setCell ⟨w1.heap.size + 1 + 1 + 1, 2, none⟩ (.slice av (2 * k + 2) cv)) := ((hb3.trans (bu.mono hbz2)).trans (k5.setOwn HV2.out (Nat.le_refl _) hzd)).setCell (p := ⟨w1.heap.size + 1 + 1 + 1, 2, none⟩) (by simp; omega) _
        go_wp2_with fail
        go_roundw
        case rel =>
          have e9 : plR (q.take (k + 1)) = [plX (q.take k) ++ [1, 0], plY (q.take k) ++ [0, 1], plT (q.take k) ++ [-y2, y1]] := by unfold plR; rw [plX_succ HY.out, plY_succ HY.out, plT_succ HY.out]
          have h9 : ∃ vs5, MatO (w5.setCell ⟨w1.heap.size + 1 + 1 + 1, 2, none⟩ (.slice av (2 * k + 2) cv)) w1.heap.size (w1.heap.size + 1 + 1 + 1) 3 3 vs5 (plR (q.take (k + 1))) := by rw [e9]; exact ⟨_, HM5.out⟩
          obtain ⟨vs5, h9⟩ := h9
          exact ⟨k + 1, vs5, by omega, by go_num, h9, hb4⟩
        case measure => simp [intOf]; omega
    · obtain rfl : k = q.length := by omega
      have hr := HM.out
      rw [List.take_length] at hr
      have HRE := Lib.hid hr
      clear hr
      go_wp2_with fail
      go_ret
      exact ⟨_, rfl, by rw [HE.out]; exact ownsRow_base' HRE.out.own B.size, B.step hb⟩

theorem spec_PlaneMotions (W : World) (v : Value) (f : FwT) (h : IsFw W v f) (hn : szFw f ≤ 1048576) : Calls Try.prog 10 #[v] W (RetIntss W (plmL f)) := by
  obtain ⟨p, l, q⟩ := f
  obtain ⟨a, cap, c, capc, rfl, hi, hj⟩ := h
  exact specPlm_at _ _ _ _ _ _ _ _ hi hj hn
theorem impl_PlaneMotions (W : World) (v : Value) (f : FwT) (h : IsFw W v f) (hn : szFw f ≤ 1048576) : Calls Try.prog 7 #[v] W (RetIntss W (plmL f)) := by
  obtain ⟨p, l, q⟩ := f
  obtain ⟨a, cap, c, capc, rfl, hi, hj⟩ := h
  exact implPlm_at _ _ _ _ _ _ _ _ hi hj hn
end Go.Proofs.Ytfbmpkdjhhcnpaa

namespace Go.Proofs.Ytfbmpkdjhhcnpaa
open Go.RowKit Gr
set_option maxRecDepth 100000
set_option linter.unusedVariables false
set_option linter.unusedSimpArgs false

def vAt (v : List Int) (k : Nat) : Int := v[k]?.getD 0
/-- the first k joints' numbers are less those of joint a -/
def fixTo (v : List Int) (a k : Nat) (i : Nat) : Int := if i < 2 * k then vAt v i - vAt v (2 * a + i % 2) else vAt v i
def fixL (v : List Int) (a n : Nat) : List Int := rowL (2 * n) (fixTo v a n)
def fixF (f : FwT) (v : List Int) (a : Int) : List Int := if motB f v && (decide (0 ≤ a) && decide (a < f.1)) then fixL v a.toNat f.1.toNat else []
def fixOk (f : FwT) (v : List Int) (a : Int) : Bool := motB f v && (decide (0 ≤ a) && decide (a < f.1))
theorem fixF_no {f : FwT} {v : List Int} {a : Int} (h : fixOk f v a = false) : fixF f v a = [] := by
  unfold fixOk at h; unfold fixF; rw [h]; rfl
theorem fixF_yes {f : FwT} {v : List Int} {a : Int} (h : fixOk f v a = true) : fixF f v a = fixL v a.toNat f.1.toNat := by
  unfold fixOk at h; unfold fixF; rw [h]; rfl
theorem fixF_len (f : FwT) (v : List Int) (a : Int) : (fixF f v a).length ≤ 12 := by
  unfold fixF
  split
  · rename_i h
    simp only [Bool.and_eq_true, motB] at h
    obtain ⟨p, l, q⟩ := f
    have := velB_bd h.1.1
    unfold fixL
    rw [rowL_length]; simp only; omega
  · simp
theorem fixTo_zero (v : List Int) (a i : Nat) : fixTo v a 0 i = vAt v i := by unfold fixTo; rw [if_neg (by omega)]
theorem fixTo_succ {v : List Int} {a k i : Nat} : fixTo v a (k + 1) i = if i = 2 * k + 1 then vAt v (2 * k + 1) - vAt v (2 * a + 1) else if i = 2 * k then vAt v (2 * k) - vAt v (2 * a) else fixTo v a k i := by
  by_cases e1 : i = 2 * k + 1
  · subst e1
    rw [if_pos rfl]
    unfold fixTo
    rw [if_pos (by omega), show (2 * k + 1) % 2 = 1 by omega]
  · rw [if_neg e1]
    by_cases e2 : i = 2 * k
    · subst e2
      rw [if_pos rfl]
      unfold fixTo
      rw [if_pos (by omega), show (2 * k) % 2 = 0 by omega, Nat.add_zero]
    · rw [if_neg e2]
      unfold fixTo
      by_cases e3 : i < 2 * k
      · rw [if_pos e3, if_pos (by omega)]
      · rw [if_neg e3, if_neg (by omega)]
theorem rowL_copy {v : List Int} {n : Nat} (h : v.length = n) : rowL n (vAt v) = v := by
  subst h
  refine List.ext_getElem (by rw [rowL_length]) fun i h1 h2 => ?_
  simp [rowL, vAt, h2]
theorem fix_snoc (v : List Int) (a k : Nat) : fixL v a (k + 1) = fixL v a k ++ [vAt v (2 * k) - vAt v (2 * a), vAt v (2 * k + 1) - vAt v (2 * a + 1)] := by
  unfold fixL rowL
  rw [show 2 * (k + 1) = 2 * k + 1 + 1 by omega, List.range_succ, List.range_succ, List.map_append, List.map_append, List.append_assoc]
  congr 1
  · refine List.map_congr_left fun i hi => ?_
    have hi := List.mem_range.1 hi
    rw [fixTo_succ, if_neg (by omega), if_neg (by omega)]
  · simp only [List.map_cons, List.map_nil, List.singleton_append]
    rw [fixTo_succ, if_neg (by omega), if_pos rfl, fixTo_succ, if_pos rfl]
theorem vAt_get {v : List Int} {k : Nat} {x : Int} (h : v[k]? = some x) : vAt v k = x := by simp [vAt, h]
theorem motB_small {p : Int} {l : List BarT} {q : List PlaceT} {v : List Int} (h : motB (p, l, q) v = true) : ∀ x ∈ v, -10000000000 ≤ x ∧ x ≤ 10000000000 := by
  intro x hx
  simp only [motB, velB, Bool.and_eq_true] at h
  have := List.all_eq_true.1 h.1.1 x hx
  simpa [smallV, inB] using this
theorem motB_vel {f : FwT} {v : List Int} (h : motB f v = true) : velB f v = true := by
  simp only [motB, Bool.and_eq_true] at h; exact h.1

set_option maxHeartbeats 4000000 in
theorem specFix_at (W : World) (p : Int) (a : Option Addr) (cap : Nat) (l : List BarT) (c : Option Addr) (capc : Nat) (q : List PlaceT) (h : BarsAt W a l.length l) (hq : PlacesAt W c q.length q) (hs : l.length + q.length ≤ 1048576) (va : Option Addr) (n vcap : Nat) (v : List Int) (hv : IntsAt W va n v) (hvn : n ≤ 1048576) (i : Int) :
    Calls Try.prog 17 #[.agg #[.int .i64 p, .slice a l.length cap, .slice c q.length capc], .slice va n vcap, .int .i64 i] W fun e w' => ∃ vo, e = .returned (.tuple #[vo, .bool (fixOk (p, l, q) v i)]) ∧ OwnInts w' W.heap.size vo (fixF (p, l, q) v i) ∧ Below W.heap.size W w' := by
  have hwd := @Wd.cells
  have HFw : Hid (IsFw W (.agg #[.int .i64 p, .slice a l.length cap, .slice c q.length capc]) (p, l, q)) := Lib.hid ⟨a, cap, c, capc, rfl, h, hq⟩
  have H1 := Lib.hid h
  have H2 := Lib.hid hq
  clear h hq
  have hsz : szFw (p, l, q) ≤ 1048576 := hs
  have hs1 : l.length ≤ 1048576 := by omega
  have hs2 : q.length ≤ 1048576 := by omega
  have B : Below W.heap.size W (W.alloc (.cells #[.int .i64 p, .slice a l.length cap, .slice c q.length capc] 29)) := (Below.refl _ _).alloc (Nat.le_refl _) _
  have BX : Hid (BoxFw (W.alloc (.cells #[.int .i64 p, .slice a l.length cap, .slice c q.length capc] 29)) W.heap.size p a l.length cap c q.length capc) := Lib.hid (BoxFw.at rfl)
  obtain rfl := hv.1
  have HV := Lib.hid hv
  clear hv
  have cM := fun (w1 : World) (b : Below W.heap.size W w1) => spec_IsMotion w1 _ (p, l, q) (HFw.out.below b) (.slice va v.length vcap) v ⟨_, _, rfl, HV.out.below b⟩ hsz hvn
  cases hm : motB (p, l, q) v
  · have HE := Lib.hid (show fixOk (p, l, q) v i = false by simp only [fixOk, hm, Bool.false_and])
    rw [hm] at cM
    have HC := Lib.hid cM
    clear cM
    go_enter Try.func17, Try.ntmps17
    go_wp2_with fail
    refine (HC.out _ B).mono ?_
    rintro e w1 ⟨rfl, b⟩
    have B1 := B.step b
    clear b
    go_wp2_with fail
    go_ret2
    exact ⟨_, by rw [HE.out]; rfl, by rw [fixF_no HE.out]; exact ownsRow_base (OwnInts.made w1 _ (Nat.le_refl _)) B1.size, B1.step ((Below.refl _ _).alloc (Nat.le_refl _) _)⟩
  rw [hm] at cM
  have HC := Lib.hid cM
  clear cM
  obtain ⟨hp1, hp2, hp3, hp4, hp5, hp6⟩ := velB_bd (motB_vel hm)
  have HSM := Lib.hid (motB_small hm)
  obtain ⟨P, rfl⟩ := Int.eq_ofNat_of_zero_le (show 0 ≤ p by omega)
  have HVL := Lib.hid (show v.length = 2 * P by omega)
  clear hp3 hp4 hp6
  by_cases h1 : i < 0
  · have HE := Lib.hid (show fixOk ((P : Int), l, q) v i = false by simp only [fixOk, hm, Bool.true_and]; simp; omega)
    have hd1 : decide (i < 0) = true := decide_eq_true h1
    clear hm
    go_enter Try.func17, Try.ntmps17
    go_wp2_with fail
    refine (HC.out _ B).mono ?_
    rintro e w1 ⟨rfl, b⟩
    have B1 := B.step b
    clear b
    go_wp2_with fail
    go_ret2
    exact ⟨_, by rw [HE.out]; rfl, by rw [fixF_no HE.out]; exact ownsRow_base (OwnInts.made w1 _ (Nat.le_refl _)) B1.size, B1.step ((Below.refl _ _).alloc (Nat.le_refl _) _)⟩
  have hd1 : decide (i < 0) = false := decide_eq_false h1
  by_cases h2 : (P : Int) ≤ i
  · have HE := Lib.hid (show fixOk ((P : Int), l, q) v i = false by simp only [fixOk, hm, Bool.true_and]; simp; omega)
    have hd2 : decide ((P : Int) ≤ i) = true := decide_eq_true h2
    clear hm
    go_enter Try.func17, Try.ntmps17
    go_wp2_with fail
    refine (HC.out _ B).mono ?_
    rintro e w1 ⟨rfl, b⟩
    have B1 := B.step b
    have BX1 := Lib.hid (BX.out.below b)
    clear b
    obtain ⟨zBX, fBX0, fBX1, fBX2⟩ := BX1.out
    go_wp2_with fail
    go_ret2
    exact ⟨_, by rw [HE.out]; rfl, by rw [fixF_no HE.out]; exact ownsRow_base (OwnInts.made w1 _ (Nat.le_refl _)) B1.size, B1.step ((Below.refl _ _).alloc (Nat.le_refl _) _)⟩
  have hd2 : decide ((P : Int) ≤ i) = false := decide_eq_false h2
  obtain ⟨I, rfl⟩ := Int.eq_ofNat_of_zero_le (show 0 ≤ i by omega)
  have HE := Lib.hid (show fixOk ((P : Int), l, q) v I = true by simp only [fixOk, hm, Bool.true_and]; simp; omega)
  have HFX := Lib.hid (fixF_yes HE.out)
  have hIP : I < P := by omega
  have hd3 : decide (P ≤ I) = false := decide_eq_false (by omega)
  clear hm h1 h2
  go_enter Try.func17, Try.ntmps17
  go_wp2_with fail
  refine (HC.out _ B).mono ?_
  rintro e w1 ⟨rfl, b⟩
  replace B := B.step b
  replace BX := Lib.hid (BX.out.below b)
  clear b
  obtain ⟨zBX, fBX0, fBX1, fBX2⟩ := BX.out
  have hb0 : Below w1.heap.size w1 (w1.alloc (.cells #[] 3)) := (Below.refl _ _).alloc (Nat.le_refl _) _
  have HO0 := Lib.hid (OwnInts.made w1 w1.heap.size (Nat.le_refl _))
  go_wp2_with fail
  clear zBX fBX0 fBX1 fBX2
  generalize w1.alloc (.cells #[] 3) = u at *
  go_loopw [8, 9] (fun s i w9 => ∃ k : Nat, k ≤ P ∧ i = .int .i64 k ∧ OwnInts w9 w1.heap.size s (fixL v I k) ∧ Below w1.heap.size w1 w9) (fun _ i _ => P - (intOf i).toNat)
  case atStart => exact ⟨0, Nat.zero_le _, rfl, HO0.out, hb0⟩
  case round =>
    clear HO0 hb0
    obtain ⟨k, hk, rfl, ho, hb⟩ := hrel
    have HO := Lib.hid ho
    clear ho
    have hbz := hb.size
    have BX1 := Lib.hid (BX.out.below hb)
    obtain ⟨zBX, fBX0, fBX1, fBX2⟩ := BX1.out
    by_cases hlt : k < P
    · have hvl := HVL.out
      obtain ⟨bv, ov, u1, rfl, hbv, hu1, hc1⟩ := (HV.out.below B).2 (2 * k) (by omega)
      obtain ⟨bv', ov', t1, hab, hbv', ht1, hc2⟩ := (HV.out.below B).2 (2 * k + 1) (by omega)
      simp only [Option.some.injEq, Addr.mk.injEq, and_true] at hab
      obtain ⟨rfl, rfl⟩ := hab
      obtain ⟨bv', ov', u2, hab, hbv', hu2, hc3⟩ := (HV.out.below B).2 (2 * I) (by omega)
      simp only [Option.some.injEq, Addr.mk.injEq, and_true] at hab
      obtain ⟨rfl, rfl⟩ := hab
      obtain ⟨bv', ov', t2, hab, hbv', ht2, hc4⟩ := (HV.out.below B).2 (2 * I + 1) (by omega)
      simp only [Option.some.injEq, Addr.mk.injEq, and_true] at hab
      obtain ⟨rfl, rfl⟩ := hab
      have HS := Lib.hid (show fixL v I (k + 1) = fixL v I k ++ [u1 - u2, t1 - t2] by rw [fix_snoc, vAt_get hu1, vAt_get hu2, vAt_get ht1, vAt_get ht2])
      have n1 := HSM.out u1 (List.mem_of_getElem? hu1)
      have n2 := HSM.out u2 (List.mem_of_getElem? hu2)
      have n3 := HSM.out t1 (List.mem_of_getElem? ht1)
      have n4 := HSM.out t2 (List.mem_of_getElem? ht2)
      clear hu1 hu2 ht1 ht2
      have hj1 : (2 * (k : Int)).toNat = 2 * k := by omega
      have hj2 : (2 * (k : Int) + 1).toNat = 2 * k + 1 := by omega
      have hj3 : (2 * (I : Int)).toNat = 2 * I := by omega
      have hj4 : (2 * (I : Int) + 1).toNat = 2 * I + 1 := by omega
      have hm1 : (2 * (k : Int)) < (v.length : Int) := by omega
      have hm2 : (2 * (k : Int) + 1) < (v.length : Int) := by omega
      have hm3 : (2 * (I : Int)) < (v.length : Int) := by omega
      have hm4 : (2 * (I : Int) + 1) < (v.length : Int) := by omega
      have hm5 : 0 ≤ (2 * (k : Int)) := by omega
      have hm6 : 0 ≤ (2 * (k : Int) + 1) := by omega
      have hm7 : 0 ≤ (2 * (I : Int)) := by omega
      have hm8 : 0 ≤ (2 * (I : Int) + 1) := by omega
      have hw1 := IntWalk.i64_in (2 * (k : Int)) (by omega)
      have hw2 := IntWalk.i64_in (2 * (k : Int) + 1) (by omega)
      have hw3 := IntWalk.i64_in (2 * (I : Int)) (by omega)
      have hw4 := IntWalk.i64_in (2 * (I : Int) + 1) (by omega)
      have hw5 := IntWalk.i64_in (u1 - u2) (by omega)
      have hw6 := IntWalk.i64_in (t1 - t2) (by omega)
      have hkP : (k : Int) < (P : Int) := by omega
      have hll : (fixL v I k).length < 1099511627776 := by unfold fixL; rw [rowL_length]; omega
      clear hvl
      go_upto_region 7 with (fail)
      clear zBX fBX0 fBX1 fBX2
      have bd : Below w1.heap.size w1 wr.drew := hb.drew
      have bu : Below w1.heap.size w1 (wr.alloc (.cells #[.int .i64 (u1 - u2), .int .i64 (t1 - t2)] 3)).drew := (hb.alloc hbz _).drew
      have bw : Below wr.heap.size wr (wr.alloc (.cells #[.int .i64 (u1 - u2), .int .i64 (t1 - t2)] 3)).drew := ((Below.refl _ wr).alloc (Nat.le_refl _) _).drew
      have KEEP := Lib.hid (show ∀ w', Below w1.heap.size w1 w' → w'.cell? ⟨bv, ov + 2 * k, none⟩ = some (.int .i64 u1) ∧ w'.cell? ⟨bv, ov + (2 * k + 1), none⟩ = some (.int .i64 t1) ∧ w'.cell? ⟨bv, ov + 2 * I, none⟩ = some (.int .i64 u2) ∧ w'.cell? ⟨bv, ov + (2 * I + 1), none⟩ = some (.int .i64 t2) from fun w' hb => ⟨((bcell hb).1 _ _ hbv).trans hc1, ((bcell hb).1 _ _ hbv).trans hc2, ((bcell hb).1 _ _ hbv).trans hc3, ((bcell hb).1 _ _ hbv).trans hc4⟩)
      have e1 : bv < wr.drew.heap.size := by show bv < wr.heap.size; omega
      have s0 : (wr.alloc (.cells #[.int .i64 (u1 - u2), .int .i64 (t1 - t2)] 3)).drew.cell? ⟨wr.heap.size, 0, none⟩ = some (.int .i64 (u1 - u2)) := by show (wr.alloc _).cell? _ = _; simp [World.cell?_alloc_new]
      have s1 : (wr.alloc (.cells #[.int .i64 (u1 - u2), .int .i64 (t1 - t2)] 3)).drew.cell? ⟨wr.heap.size, 1, none⟩ = some (.int .i64 (t1 - t2)) := by show (wr.alloc _).cell? _ = _; simp [World.cell?_alloc_new]
      have HO2 := Lib.hid (HO.out.below bw)
      have hzd : w1.heap.size ≤ (wr.alloc (.cells #[.int .i64 (u1 - u2), .int .i64 (t1 - t2)] 3)).drew.heap.size := by have := bw.size; omega
      clear hc1 hc2 hc3 hc4
      go_region_held3 (fun w' => w'.cell? ⟨bv, ov + 2 * k, none⟩ = some (.int .i64 u1) ∧ w'.cell? ⟨bv, ov + (2 * k + 1), none⟩ = some (.int .i64 t1) ∧ w'.cell? ⟨bv, ov + 2 * I, none⟩ = some (.int .i64 u2) ∧ w'.cell? ⟨bv, ov + (2 * I + 1), none⟩ = some (.int .i64 t2))
        (first | (with_reducible exact KEEP.out _ bd) | (with_reducible exact KEEP.out _ bu) | (with_reducible exact KEEP.out _ hb7) | (go_keep))
        (first
          | (refine stepInts2 (by rfl) (.tmp 34) (.tmp 59) (by rfl) (by rfl) HO2.out (u1 - u2) (t1 - t2) wr.heap.size (by rfl) s0 s1 hll hzd ?_
             intro v7 w7 h7 k7 a7
             have hb7 := bu.trans (k7.setOwn HO2.out (Nat.le_refl _) hzd))
          | fail)
      all_goals
        have H7 := Lib.hid h7
        clear h7 k7 a7 s0 s1
        go_wp2_with fail
        go_roundw
        case rel => exact ⟨k + 1, by omega, by go_num, by rw [HS.out]; exact H7.out, hb7⟩
        case measure => simp [intOf]; omega
    · obtain rfl : k = P := by omega
      have hnl : decide ((k : Int) < (k : Int)) = false := by simp
      go_wp2_with fail
      go_ret2
      exact ⟨_, by rw [HE.out]; rfl, by rw [HFX.out]; exact ownsRow_base HO.out B.size, B.step hb⟩
end Go.Proofs.Ytfbmpkdjhhcnpaa

