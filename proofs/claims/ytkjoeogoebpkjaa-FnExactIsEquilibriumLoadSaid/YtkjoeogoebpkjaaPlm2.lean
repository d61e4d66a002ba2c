/- PlaneMotions of the program, and both contracts. No condition but sizes. -/
import Derived.Test.YtkjoeogoebpkjaaPlm
import Derived.Deep.RegionHeld3
import Derived.Deep.RegionLaw
namespace Go.Proofs.Ytkjoeogoebpkjaa
open Go.RowKit Gr
set_option maxRecDepth 100000
set_option linter.unusedVariables false
set_option linter.unusedSimpArgs false

theorem nb_set {vs : List Value} {k g0 s : Nat} {v u : Value} (h : ∀ x ∈ vs, x.ownBlock ≠ some g0) (hv : vs[k]? = some v) (hf : u.ownBlock = v.ownBlock ∨ ∀ b, u.ownBlock = some b → s ≤ b) (hs : g0 < s) : ∀ x ∈ vs.set k u, x.ownBlock ≠ some g0 := by
  intro x hx
  rcases List.mem_or_eq_of_mem_set hx with h1 | rfl
  · exact h x h1
  · rcases hf with hf | hf
    · rw [hf]; exact h v (List.mem_of_getElem? hv)
    · intro e
      have := hf _ e
      omega
theorem BoxPl.put {u w5 : World} {v x : Value} {g g0 k : Nat} {y1 y2 : Int} (h : BoxPl u g0 y1 y2) (hk : Kept (fun b => some b = v.ownBlock) u w5) (hne : v.ownBlock ≠ some g0) (hg : g ≠ g0) : BoxPl (w5.setCell ⟨g, k, none⟩ x) g0 y1 y2 := by
  have h1 := h.kept hk (fun e => hne e.symm)
  exact ⟨by simpa using h1.1, (cell_set_ne hg).trans h1.2.1, (cell_set_ne hg).trans h1.2.2⟩

set_option maxHeartbeats 4000000 in
theorem implPlm_at (W : World) (p : Int) (a : Option Addr) (cap : Nat) (l : List BarT) (c : Option Addr) (capc : Nat) (q : List PlaceT) (h : BarsAt W a l.length l) (hq : PlacesAt W c q.length q) (hs : l.length + q.length ≤ 1048576) :
    Calls Try.prog 45 #[.agg #[.int .i64 p, .slice a l.length cap, .slice c q.length capc]] W (RetIntss W (plmL (p, l, q))) := by
  have hwd := @Wd.cells
  have HFw : Hid (IsFw W (.agg #[.int .i64 p, .slice a l.length cap, .slice c q.length capc]) (p, l, q)) := Lib.hid ⟨a, cap, c, capc, rfl, h, hq⟩
  have H1 := Lib.hid h
  have H2 := Lib.hid hq
  clear h hq
  have hsz : szFw (p, l, q) ≤ 1048576 := hs
  have hs1 : l.length ≤ 1048576 := by omega
  have hs2 : q.length ≤ 1048576 := by omega
  have B : Below W.heap.size W (W.alloc (.cells #[.int .i64 p, .slice a l.length cap, .slice c q.length capc] 42)) := (Below.refl _ _).alloc (Nat.le_refl _) _
  have BX : Hid (BoxFw (W.alloc (.cells #[.int .i64 p, .slice a l.length cap, .slice c q.length capc] 42)) W.heap.size p a l.length cap c q.length capc) := Lib.hid (BoxFw.at rfl)
  cases hf : isFwB (p, l, q)
  · have HE := Lib.hid (show plmL (p, l, q) = [] by unfold plmL; rw [hf]; rfl)
    go_enter Try.func45, Try.ntmps45
    go_wp2_with fail
    refine (impl_IsFramework _ _ (p, l, q) (HFw.out.below B) hsz).mono ?_
    rintro e w1 ⟨rfl, b⟩
    have hz_w1 := b.size
    replace B := B.step b
    replace BX := Lib.hid (BX.out.below b)
    clear b
    rw [hf]
    have HO1 := Lib.hid (made_intss w1)
    go_wp2_with fail
    go_ret
    exact ⟨_, rfl, by rw [HE.out]; exact ownsRow_base' HO1.out B.size, B.step ((Below.refl _ _).alloc (Nat.le_refl _) _)⟩
  have HE := Lib.hid (show plmL (p, l, q) = plR q by unfold plmL; rw [hf]; rfl)
  obtain ⟨⟨hg1, hg2⟩, hg3, hg4, _, hg6⟩ := isFw_facts hf
  have HG6 := Lib.hid hg6
  clear hg6 hg4
  go_enter Try.func45, Try.ntmps45
  go_wp2_with fail
  refine (impl_IsFramework _ _ (p, l, q) (HFw.out.below B) hsz).mono ?_
  rintro e w1 ⟨rfl, b⟩
  have hz_w1 := b.size
  replace B := B.step b
  replace BX := Lib.hid (BX.out.below b)
  clear b
  rw [hf]
  have HR0 := Lib.hid (MatO.made (n := 3) (rows3 w1) rfl (by simp; omega) (by decide))
  have hb0 : Below w1.heap.size w1 ((((w1.alloc (.cells #[] 3)).alloc (.cells #[] 3)).alloc (.cells #[] 3)).alloc (.cells #[.slice (some ⟨w1.heap.size, 0, none⟩) 0 0, .slice (some ⟨w1.heap.size + 1, 0, none⟩) 0 0, .slice (some ⟨w1.heap.size + 1 + 1, 0, none⟩) 0 0] 33)) := ((((Below.refl _ w1).alloc (Nat.le_refl _) _).alloc (by simp) _).alloc (by simp; omega) _).alloc (by simp; omega) _
  have BX0 := Lib.hid (BX.out.below hb0)
  obtain ⟨zBX, fBX0, fBX1, fBX2⟩ := BX0.out
  go_wp2_with fail
  simp only [World.size_alloc] at HR0
  generalize (((w1.alloc (.cells #[] 3)).alloc (.cells #[] 3)).alloc (.cells #[] 3)).alloc (.cells #[.slice (some ⟨w1.heap.size, 0, none⟩) 0 0, .slice (some ⟨w1.heap.size + 1, 0, none⟩) 0 0, .slice (some ⟨w1.heap.size + 1 + 1, 0, none⟩) 0 0] 33) = w2 at *
  clear zBX fBX0 fBX1 fBX2 BX0
  go_loopw [17] (fun i w9 => ∃ k : Nat, ∃ vs, k ≤ q.length ∧ i = .int .i64 k ∧ MatO w9 w1.heap.size (w1.heap.size + 1 + 1 + 1) 3 3 vs (plR (q.take k)) ∧ Below w1.heap.size w1 w9) (fun i _ => q.length - (intOf i).toNat)
  case atStart => exact ⟨0, _, Nat.zero_le _, rfl, HR0.out, hb0⟩
  case round =>
    clear hb0 HR0
    obtain ⟨k, vs, hk, rfl, hr, hb⟩ := hrel
    have HM := Lib.hid hr
    clear hr
    have hbz := hb.size
    have hlen := plR_len (q.take k)
    rw [List.length_take, Nat.min_eq_left hk] at hlen
    obtain ⟨hl1, hl2, hl3⟩ := hlen
    by_cases hlt : k < q.length
    · obtain ⟨bq, oq, ⟨y1, y2⟩, rfl, hbq, hy, hya, hyb⟩ := (H2.out.below (B.step hb)).2 k hlt
      dsimp only at hya hyb
      have hyy := HG6.out k y1 y2 hy
      obtain ⟨⟨n1, n2⟩, n3, n4⟩ := hyy
      have HY := Lib.hid hy
      clear hy
      have hkl : (k : Int) < (q.length : Int) := by omega
      have bpl : Below wr.heap.size wr (wr.alloc (.cells #[.int .i64 y1, .int .i64 y2] 57)) := (Below.refl _ _).alloc (Nat.le_refl _) _
      have HP : Hid (BoxPl (wr.alloc (.cells #[.int .i64 y1, .int .i64 y2] 57)) wr.heap.size y1 y2) := Lib.hid (BoxPl.at rfl)
      go_upto_region 7 with (fail)
      have NB0 := Lib.hid (fun x hx e => Nat.lt_irrefl _ (HM.out.rows.lt x hx wr.heap.size e).2 : ∀ x ∈ vs, Value.ownBlock x ≠ some wr.heap.size)
      have hgne : w1.heap.size + 1 + 1 + 1 ≠ wr.heap.size := by have := HM.out.blk.1; omega
      have HM1 := Lib.hid (HM.out.below bpl)
      have hb1 := hb.step bpl
      generalize (wr.alloc (.cells #[.int .i64 y1, .int .i64 y2] 57)) = u1 at *
      clear hya hyb bpl
      have hbz0 := hb1.size
      obtain ⟨v0, e0, c0, z0⟩ := HM1.out.cel (k := 0) (by decide)
      have hg0 := HM1.out.blk.1
      have HV0 : Hid (OwnInts u1 w1.heap.size v0 (plX (q.take k))) := Lib.hid (HM1.out.rows.own 0 _ _ e0 rfl)
      go_upto_region 8 with (at_builtin; refine app2At rfl (.tmp 24) (.tmp 25) rfl rfl HV0.out 1 0 rfl (by omega) hbz0 ?_; intro v5 w5 h5 k5 a5; obtain ⟨av0, cv0, rfl, hiv⟩ := h5.form; clear hiv; have e9 : (plX (q.take k) ++ [1, 0]).length = 2 * k + 2 := (by rw [List.length_append, hl1]; rfl); rw [e9] at h5 a5 ⊢; clear e9; have t1 := (k5.cell (b := w1.heap.size + 1 + 1 + 1) (o := 0) hg0 (fun e => outer_apart HM1.out.out HV0.out _ rfl e.symm)).trans c0; have t3 := (k5.frozen (b := w1.heap.size + 1 + 1 + 1) (o := 0) hg0 (fun e => outer_apart HM1.out.out HV0.out _ rfl e.symm)).trans z0)
      have HM2 : Hid (MatO (w5.setCell ⟨w1.heap.size + 1 + 1 + 1, 0, none⟩ (.slice av0 (2 * k + 2) cv0)) w1.heap.size (w1.heap.size + 1 + 1 + 1) 3 3 _ _) := Lib.hid (HM1.out.put e0 rfl k5 h5 a5)
      have bs0 : Below w1.heap.size u1 (w5.setCell ⟨w1.heap.size + 1 + 1 + 1, 0, none⟩ (.slice av0 (2 * k + 2) cv0)) := (k5.setOwn HV0.out (Nat.le_refl _) hbz0).setCell (p := ⟨w1.heap.size + 1 + 1 + 1, 0, none⟩) (by simp; omega) _
      have NB1 := Lib.hid (nb_set NB0.out e0 a5 HP.out.1)
      replace HP : Hid (BoxPl (w5.setCell ⟨w1.heap.size + 1 + 1 + 1, 0, none⟩ (.slice av0 (2 * k + 2) cv0)) wr.heap.size y1 y2) := Lib.hid (HP.out.put k5 (NB0.out _ (List.mem_of_getElem? e0)) hgne)
      have hb2 := hb1.trans bs0
      generalize (w5.setCell ⟨w1.heap.size + 1 + 1 + 1, 0, none⟩ (.slice av0 (2 * k + 2) cv0)) = u2 at *
      clear t1 t3 h5 k5 a5 c0 z0 hg0 HV0 HM1 bs0 hb1
      have hbz1 := hb2.size
      obtain ⟨v1, e1, c1, z1⟩ := HM2.out.cel (k := 1) (by decide)
      have hg1 := HM2.out.blk.1
      have HV1 : Hid (OwnInts u2 w1.heap.size v1 (plY (q.take k))) := Lib.hid (HM2.out.rows.own 1 _ _ e1 rfl)
      go_upto_region 9 with (at_builtin; refine app2At rfl (.tmp 31) (.tmp 32) rfl rfl HV1.out 0 1 rfl (by omega) hbz1 ?_; intro v5 w5 h5 k5 a5; obtain ⟨av1, cv1, rfl, hiv⟩ := h5.form; clear hiv; have e9 : (plY (q.take k) ++ [0, 1]).length = 2 * k + 2 := (by rw [List.length_append, hl2]; rfl); rw [e9] at h5 a5 ⊢; clear e9; have t1 := (k5.cell (b := w1.heap.size + 1 + 1 + 1) (o := 1) hg1 (fun e => outer_apart HM2.out.out HV1.out _ rfl e.symm)).trans c1; have t3 := (k5.frozen (b := w1.heap.size + 1 + 1 + 1) (o := 1) hg1 (fun e => outer_apart HM2.out.out HV1.out _ rfl e.symm)).trans z1)
      have HM3 : Hid (MatO (w5.setCell ⟨w1.heap.size + 1 + 1 + 1, 1, none⟩ (.slice av1 (2 * k + 2) cv1)) w1.heap.size (w1.heap.size + 1 + 1 + 1) 3 3 _ _) := Lib.hid (HM2.out.put e1 rfl k5 h5 a5)
      have bs1 : Below w1.heap.size u2 (w5.setCell ⟨w1.heap.size + 1 + 1 + 1, 1, none⟩ (.slice av1 (2 * k + 2) cv1)) := (k5.setOwn HV1.out (Nat.le_refl _) hbz1).setCell (p := ⟨w1.heap.size + 1 + 1 + 1, 1, none⟩) (by simp; omega) _
      have NB2 := Lib.hid (nb_set NB1.out e1 a5 HP.out.1)
      replace HP : Hid (BoxPl (w5.setCell ⟨w1.heap.size + 1 + 1 + 1, 1, none⟩ (.slice av1 (2 * k + 2) cv1)) wr.heap.size y1 y2) := Lib.hid (HP.out.put k5 (NB1.out _ (List.mem_of_getElem? e1)) hgne)
      have hb3 := hb2.trans bs1
      generalize (w5.setCell ⟨w1.heap.size + 1 + 1 + 1, 1, none⟩ (.slice av1 (2 * k + 2) cv1)) = u3 at *
      clear t1 t3 h5 k5 a5 c1 z1 hg1 HV1 HM2 bs1 hb2
      have hbz2 := hb3.size
      obtain ⟨zP, p0, p1⟩ := HP.out
      obtain ⟨v2, e2, c2, z2⟩ := HM3.out.cel (k := 2) (by decide)
      have hg2 := HM3.out.blk.1
      have bu : Below u3.heap.size u3 (u3.alloc (.cells #[.int .i64 (-y2), .int .i64 y1] 3)).drew := ((Below.refl _ u3).alloc (Nat.le_refl _) _).drew
      have d1 : u3.drew.cell? ⟨w1.heap.size + 1 + 1 + 1, 2, none⟩ = _ := c2
      have d2 : u3.drew.cell? ⟨wr.heap.size, 0, none⟩ = _ := p0
      have d3 : u3.drew.cell? ⟨wr.heap.size, 1, none⟩ = _ := p1
      have r1 : (u3.alloc (.cells #[.int .i64 (-y2), .int .i64 y1] 3)).drew.cell? ⟨w1.heap.size + 1 + 1 + 1, 2, none⟩ = _ := ((bcell bu).1 _ _ hg2).trans c2
      have s0 : (u3.alloc (.cells #[.int .i64 (-y2), .int .i64 y1] 3)).drew.cell? ⟨u3.heap.size, 0, none⟩ = some (.int .i64 (-y2)) := by show (u3.alloc _).cell? _ = _; simp [World.cell?_alloc_new]
      have s1 : (u3.alloc (.cells #[.int .i64 (-y2), .int .i64 y1] 3)).drew.cell? ⟨u3.heap.size, 1, none⟩ = some (.int .i64 y1) := by show (u3.alloc _).cell? _ = _; simp [World.cell?_alloc_new]
      have q1 : wr.heap.size < u3.drew.heap.size := zP
      have q2 : w1.heap.size + 1 + 1 + 1 < u3.drew.heap.size := hg2
      have HM4 := Lib.hid (HM3.out.below bu)
      have HV2 : Hid (OwnInts _ w1.heap.size v2 (plT (q.take k))) := Lib.hid (HM4.out.rows.own 2 _ _ e2 rfl)
      have hzd : w1.heap.size ≤ (u3.alloc (.cells #[.int .i64 (-y2), .int .i64 y1] 3)).drew.heap.size := by have := bu.size; omega
      have hzg : w1.heap.size + 1 + 1 + 1 < (u3.alloc (.cells #[.int .i64 (-y2), .int .i64 y1] 3)).drew.heap.size := by have := bu.size; omega
      have hw := IntWalk.i64_in (-y2) (by omega)
      go_region_law (first
          | (refine stepInts2 (by rfl) (.tmp 38) (.tmp 44) (by rfl) (by rfl) HV2.out (-y2) y1 u3.heap.size (by rfl) s0 s1 (by omega) hzd ?_
             intro v5 w5 h5 k5 a5
             obtain ⟨av, cv, rfl, hiv⟩ := h5.form
             clear hiv
             have e9 : (plT (q.take k) ++ [-y2, y1]).length = 2 * k + 2 := (by rw [List.length_append, hl3]; rfl)
             rw [e9] at h5 a5 ⊢
             clear e9
             have t1 := (k5.cell (b := w1.heap.size + 1 + 1 + 1) (o := 2) hzg (fun e => outer_apart HM4.out.out HV2.out _ rfl e.symm)).trans r1
             have t3 := (k5.frozen (b := w1.heap.size + 1 + 1 + 1) (o := 2) hzg (fun e => outer_apart HM4.out.out HV2.out _ rfl e.symm)).trans (HM4.out.froz 2))
          | fail)
      all_goals
        have HM5 : Hid (MatO (w5.setCell ⟨w1.heap.size + 1 + 1 + 1, 2, none⟩ (.slice av (2 * k + 2) cv)) w1.heap.size (w1.heap.size + 1 + 1 + 1) 3 3 _ _) := Lib.hid (HM4.out.put e2 rfl k5 h5 a5)
        have hb4 : Below w1.heap.size w1 (w5.setCell ⟨w1.heap.size + 1 + 1 + 1, 2, none⟩ (.slice av (2 * k + 2) cv)) := ((hb3.trans (bu.mono hbz2)).trans (k5.setOwn HV2.out (Nat.le_refl _) hzd)).setCell (p := ⟨w1.heap.size + 1 + 1 + 1, 2, none⟩) (by simp; omega) _
        go_wp2_with fail
        go_roundw
        case rel =>
          have e9 : plR (q.take (k + 1)) = [plX (q.take k) ++ [1, 0], plY (q.take k) ++ [0, 1], plT (q.take k) ++ [-y2, y1]] := by unfold plR; rw [plX_succ HY.out, plY_succ HY.out, plT_succ HY.out]
          have h9 : ∃ vs5, MatO (w5.setCell ⟨w1.heap.size + 1 + 1 + 1, 2, none⟩ (.slice av (2 * k + 2) cv)) w1.heap.size (w1.heap.size + 1 + 1 + 1) 3 3 vs5 (plR (q.take (k + 1))) := by rw [e9]; exact ⟨_, HM5.out⟩
          obtain ⟨vs5, h9⟩ := h9
          exact ⟨k + 1, vs5, by omega, by go_num, h9, hb4⟩
        case measure => simp [intOf]; omega
    · obtain rfl : k = q.length := by omega
      have hr := HM.out
      rw [List.take_length] at hr
      have HRE := Lib.hid hr
      clear hr
      go_wp2_with fail
      go_ret
      exact ⟨_, rfl, by rw [HE.out]; exact ownsRow_base' HRE.out.own B.size, B.step hb⟩

theorem spec_PlaneMotions (W : World) (v : Value) (f : FwT) (h : IsFw W v f) (hn : szFw f ≤ 1048576) : Calls Try.prog 44 #[v] W (RetIntss W (plmL f)) := by
  obtain ⟨p, l, q⟩ := f
  obtain ⟨a, cap, c, capc, rfl, hi, hj⟩ := h
  exact specPlm_at _ _ _ _ _ _ _ _ hi hj hn
theorem impl_PlaneMotions (W : World) (v : Value) (f : FwT) (h : IsFw W v f) (hn : szFw f ≤ 1048576) : Calls Try.prog 45 #[v] W (RetIntss W (plmL f)) := by
  obtain ⟨p, l, q⟩ := f
  obtain ⟨a, cap, c, capc, rfl, hi, hj⟩ := h
  exact implPlm_at _ _ _ _ _ _ _ _ hi hj hn
end Go.Proofs.Ytkjoeogoebpkjaa
