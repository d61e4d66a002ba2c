/- SquareLengths of the reference. -/
import Derived.Test.YtjaaccdedffbcaaSq
import Derived.Deep.RegionHeld3
namespace Go.Proofs.Ytjaaccdedffbcaa
open Go.RowKit
set_option linter.unusedVariables false
set_option linter.unusedSimpArgs false

set_option maxHeartbeats 8000000 in
theorem specSq_at (W : World) (p : Int) (a : Option Addr) (cap : Nat) (l : List BarT) (c : Option Addr) (capc : Nat) (q : List PlaceT) (h : BarsAt W a l.length l) (hq : PlacesAt W c q.length q) (hs : l.length + q.length ≤ 1048576) :
    Calls Try.prog 43 #[.agg #[.int .i64 p, .slice a l.length cap, .slice c q.length capc]] W (RetInts W (squares (p, l, q))) := by
  have H1 := Lib.hid h
  have H2 := Lib.hid hq
  have HFw : Hid (IsFw W (.agg #[.int .i64 p, .slice a l.length cap, .slice c q.length capc]) (p, l, q)) := Lib.hid ⟨a, cap, c, capc, rfl, h, hq⟩
  clear h hq
  have hsz : szFw (p, l, q) ≤ 1048576 := hs
  have hs1 : l.length ≤ 1048576 := by omega
  have hs2 : q.length ≤ 1048576 := by omega
  have B : Below W.heap.size W ((W.alloc (.cells #[.int .i64 p, .slice a l.length cap, .slice c q.length capc] 47)).alloc (.cells #[] 3)) := ((Below.refl _ _).alloc (Nat.le_refl _) _).alloc (by simp) _
  have BX : Hid (BoxFw ((W.alloc (.cells #[.int .i64 p, .slice a l.length cap, .slice c q.length capc] 47)).alloc (.cells #[] 3)) W.heap.size p a l.length cap c q.length capc) := Lib.hid ((BoxFw.at rfl).below ((Below.refl _ _).alloc (Nat.le_refl _) _))
  have HO : Hid (OwnInts ((W.alloc (.cells #[.int .i64 p, .slice a l.length cap, .slice c q.length capc] 47)).alloc (.cells #[] 3)) (W.heap.size + 1) (.slice (some ⟨W.heap.size + 1, 0, none⟩) 0 0) []) := Lib.hid (by have h9 := OwnInts.made (W.alloc (.cells #[.int .i64 p, .slice a l.length cap, .slice c q.length capc] 47)) (W.heap.size + 1) (by simp); simpa using h9)
  have hsu : ((W.alloc (.cells #[.int .i64 p, .slice a l.length cap, .slice c q.length capc] 47)).alloc (.cells #[] 3)).heap.size = W.heap.size + 2 := by simp
  cases hf : isFwB (p, l, q)
  · have HE := Lib.hid (show squares (p, l, q) = [] by simp only [squares, hf]; rfl)
    go_enter Try.func43, Try.ntmps43
    go_wp2_with fail
    generalize ((W.alloc (.cells #[.int .i64 p, .slice a l.length cap, .slice c q.length capc] 47)).alloc (.cells #[] 3)) = u at *
    go_loopw [3, 4] (fun s i w9 => s = .slice (some ⟨W.heap.size + 1, 0, none⟩) 0 0 ∧ i = .int .i64 0 ∧ u = w9) (fun _ _ _ => 0)
    case atStart => exact ⟨rfl, rfl, rfl⟩
    case round =>
      obtain ⟨rfl, rfl, rfl⟩ := hrel
      obtain ⟨z, f0, f1, f2⟩ := BX.out
      by_cases h0 : 0 < l.length
      · have h0i : (0 : Int) < (l.length : Int) := by omega
        go_wp2_with fail
        refine (spec_IsFramework _ _ (p, l, q) (HFw.out.below B) hsz).mono ?_
        rintro e w1 ⟨rfl, b⟩
        have B1 := B.step b
        have HO1 := HO.out.below b
        clear b
        rw [hf]
        go_wp2_with fail
        go_ret
        refine ⟨_, rfl, ?_, B1⟩
        rw [HE.out]
        exact ownsRow_base HO1 (by omega)
      · go_wp2_with fail
        go_ret
        refine ⟨_, rfl, ?_, B⟩
        rw [HE.out]
        exact ownsRow_base HO.out (by omega)
  have HE := Lib.hid (show squares (p, l, q) = l.map (sqOf q) by simp only [squares, hf]; rfl)
  obtain ⟨hg1, hg2, hg3⟩ : isGraphB (p, l) = true ∧ (q.length : Int) = p ∧ l.length ≤ 15 := by
    have h1 := hf
    simp only [isFwB, Bool.and_eq_true, decide_eq_true_eq] at h1
    exact ⟨h1.1, h1.2.2.1, h1.2.2.2.1⟩
  go_enter Try.func43, Try.ntmps43
  go_wp2_with fail
  generalize ((W.alloc (.cells #[.int .i64 p, .slice a l.length cap, .slice c q.length capc] 47)).alloc (.cells #[] 3)) = u at *
  go_loopw [3, 4] (fun s i w9 => ∃ k : Nat, k ≤ l.length ∧ i = .int .i64 k ∧ OwnInts w9 (W.heap.size + 1) s ((l.take k).map (sqOf q)) ∧ Below (W.heap.size + 1) u w9) (fun _ i _ => l.length - (intOf i).toNat)
  case atStart => exact ⟨0, Nat.zero_le _, rfl, by simpa using HO.out, Below.refl _ _⟩
  case round =>
    obtain ⟨k, hk, rfl, ho, hb⟩ := hrel
    have HW := Lib.hid ho
    clear ho
    have B1 := B.trans (hb.mono (by omega))
    have hbz := hb.size
    have f0 := (hb.cell (p := ⟨W.heap.size, 0, none⟩) (by simp)).trans BX.out.c0
    have f1 := (hb.cell (p := ⟨W.heap.size, 1, none⟩) (by simp)).trans BX.out.c1
    have f2 := (hb.cell (p := ⟨W.heap.size, 2, none⟩) (by simp)).trans BX.out.c2
    have BX1 : Hid (BoxFw wr W.heap.size p a l.length cap c q.length capc) := Lib.hid ⟨by omega, f0, f1, f2⟩
    by_cases hlt : k < l.length
    · go_wp2_with fail
      refine (spec_IsFramework _ _ (p, l, q) (HFw.out.below B1) hsz).mono ?_
      rintro e w3 ⟨rfl, b⟩
      have hzw := b.size
      have HW3 := Lib.hid (HW.out.below b)
      have hb3 := hb.trans (b.mono (by omega))
      have B3 := B1.step b
      have BX3 := Lib.hid (BX1.out.below b)
      clear b f0 f1 f2
      obtain ⟨bb, off, ⟨x1, x2⟩, rfl, hbl, hx, hc0, hc1⟩ := (H1.out.below B3).2 k hlt
      dsimp only at hc0 hc1
      have HX := Lib.hid hx
      obtain ⟨hx1, hx2, hx3⟩ := isGraphB_bar hg1 hx
      dsimp only at hx1 hx2 hx3
      obtain ⟨i1, rfl⟩ := Int.eq_ofNat_of_zero_le hx1
      obtain ⟨i2, rfl⟩ := Int.eq_ofNat_of_zero_le (show 0 ≤ x2 by omega)
      clear hx
      obtain ⟨bq, oq, ⟨y1, y2⟩, rfl, hbq, hy, hya, hyb⟩ := (H2.out.below B3).2 i1 (by omega)
      obtain ⟨bq', oq', ⟨t1, t2⟩, hab, hbq', ht, hta, htb⟩ := (H2.out.below B3).2 i2 (by omega)
      simp only [Option.some.injEq, Addr.mk.injEq, and_true] at hab
      obtain ⟨rfl, rfl⟩ := hab
      dsimp only at hya hyb hta htb
      have HSQ := Lib.hid (show sqOf q ((i1 : Int), (i2 : Int)) = sqr y1 y2 t1 t2 by simp only [sqOf, plAt, Int.toNat_natCast, hy, ht, Option.getD_some])
      clear hy ht
      have hk1 : (i1 : Int) < (q.length : Int) := by omega
      have hk2 : (i2 : Int) < (q.length : Int) := by omega
      rw [hf]
      go_wp2_with fail
      have p1 : (0 : Int) ≤ (i1 : Int) := by omega
      have HG2 := Lib.hid hg2
      clear hg2
      have p2 : (0 : Int) ≤ (i2 : Int) := by omega
      have q0 : W.heap.size < w3.heap.size := BX3.out.1
      have e0 : W.heap.size < w3.drew.heap.size := BX3.out.1
      have e1 : bb < w3.drew.heap.size := hbl
      have e2 : bq < w3.drew.heap.size := hbq
      have e3 : W.heap.size < w3.drew.heap.size + 1 := by omega
      have e4 : bb < w3.drew.heap.size + 1 := by omega
      have e5 : bq < w3.drew.heap.size + 1 := by omega
      have g1 := BX3.out.c1
      have g2 := BX3.out.c2
      have d1 : w3.drew.cell? ⟨W.heap.size, 1, none⟩ = _ := g1
      have d2 : w3.drew.cell? ⟨W.heap.size, 2, none⟩ = _ := g2
      have d3 : w3.drew.cell? ⟨bb, off + k * 2, none⟩ = _ := hc0
      have d4 : w3.drew.cell? ⟨bb, off + k * 2 + 1, none⟩ = _ := hc1
      have d5 : w3.drew.cell? ⟨bq, oq + i1 * 2, none⟩ = _ := hya
      have d6 : w3.drew.cell? ⟨bq, oq + i1 * 2 + 1, none⟩ = _ := hyb
      go_region_held3 (fun w' => w'.cell? ⟨W.heap.size, 1, none⟩ = some (.slice (some ⟨bb, off, none⟩) l.length cap) ∧ w'.cell? ⟨W.heap.size, 2, none⟩ = some (.slice (some ⟨bq, oq, none⟩) q.length capc) ∧ w'.cell? ⟨bb, off + k * 2, none⟩ = some (.int .i64 i1) ∧ w'.cell? ⟨bb, off + k * 2 + 1, none⟩ = some (.int .i64 i2) ∧ w'.cell? ⟨bq, oq + i1 * 2, none⟩ = some (.int .i64 y1) ∧ w'.cell? ⟨bq, oq + i1 * 2 + 1, none⟩ = some (.int .i64 y2))
        (first | (with_reducible exact ⟨d1, d2, d3, d4, d5, d6⟩) | (go_keep)) (fail)
      have ba : Below w3.heap.size w3 (w3.alloc (.cells #[.int .i64 y1, .int .i64 y2] 63)).drew := ((Below.refl _ _).alloc (Nat.le_refl _) _).drew
      have BP : Hid (BoxPl (w3.alloc (.cells #[.int .i64 y1, .int .i64 y2] 63)).drew w3.heap.size y1 y2) := Lib.hid ((BoxPl.at rfl).below (Below.refl _ _).drew)
      have hz4 : (w3.alloc (.cells #[.int .i64 y1, .int .i64 y2] 63)).drew.heap.size = w3.heap.size + 1 := by simp [World.drew]
      generalize (w3.alloc (.cells #[.int .i64 y1, .int .i64 y2] 63)).drew = w4 at *
      have B4 := B3.step ba
      have HW4 := Lib.hid (HW3.out.below ba)
      have hb4 := hb3.trans (ba.mono (by omega))
      have BX4 := Lib.hid (BX3.out.below ba)
      have m3 := ((bcell ba).1 bb (off + k * 2) hbl).trans hc0
      have m4 := ((bcell ba).1 bb (off + k * 2 + 1) hbl).trans hc1
      have m5 := ((bcell ba).1 bq (oq + i2 * 2) hbq).trans hta
      have m6 := ((bcell ba).1 bq (oq + i2 * 2 + 1) hbq).trans htb
      have g3 := BX4.out.c1
      have g4 := BX4.out.c2
      clear d1 d2 d3 d4 d5 d6 g1 g2 hc0 hc1 hya hyb hta htb e0 e1 e2 e3 e4 e5
      have hbl4 : bb < w4.heap.size := by omega
      have hbq4 : bq < w4.heap.size := by omega
      have q4 : W.heap.size < w4.heap.size := by omega
      have e0 : W.heap.size < w4.drew.heap.size := q4
      have e1 : bb < w4.drew.heap.size := hbl4
      have e2 : bq < w4.drew.heap.size := hbq4
      have e3 : W.heap.size < w4.drew.heap.size + 1 := by omega
      have e4 : bb < w4.drew.heap.size + 1 := by omega
      have e5 : bq < w4.drew.heap.size + 1 := by omega
      have d1 : w4.drew.cell? ⟨W.heap.size, 1, none⟩ = _ := g3
      have d2 : w4.drew.cell? ⟨W.heap.size, 2, none⟩ = _ := g4
      have d3 : w4.drew.cell? ⟨bb, off + k * 2, none⟩ = _ := m3
      have d4 : w4.drew.cell? ⟨bb, off + k * 2 + 1, none⟩ = _ := m4
      have d5 : w4.drew.cell? ⟨bq, oq + i2 * 2, none⟩ = _ := m5
      have d6 : w4.drew.cell? ⟨bq, oq + i2 * 2 + 1, none⟩ = _ := m6
      have HZ4 := Lib.hid hz4
      clear hz4
      go_wp2_with fail
      go_region_held3 (fun w' => w'.cell? ⟨W.heap.size, 1, none⟩ = some (.slice (some ⟨bb, off, none⟩) l.length cap) ∧ w'.cell? ⟨W.heap.size, 2, none⟩ = some (.slice (some ⟨bq, oq, none⟩) q.length capc) ∧ w'.cell? ⟨bb, off + k * 2, none⟩ = some (.int .i64 i1) ∧ w'.cell? ⟨bb, off + k * 2 + 1, none⟩ = some (.int .i64 i2) ∧ w'.cell? ⟨bq, oq + i2 * 2, none⟩ = some (.int .i64 t1) ∧ w'.cell? ⟨bq, oq + i2 * 2 + 1, none⟩ = some (.int .i64 t2))
        (first | (with_reducible exact ⟨d1, d2, d3, d4, d5, d6⟩) | (go_keep)) (fail)
      have hz4 := HZ4.out
      have bc : Below w4.heap.size w4 (w4.alloc (.cells #[.int .i64 t1, .int .i64 t2] 63)).drew := ((Below.refl _ _).alloc (Nat.le_refl _) _).drew
      have BQ : Hid (BoxPl (w4.alloc (.cells #[.int .i64 t1, .int .i64 t2] 63)).drew w4.heap.size t1 t2) := Lib.hid ((BoxPl.at rfl).below (Below.refl _ _).drew)
      have BP5 := Lib.hid (BP.out.below bc)
      have HW5 := Lib.hid (HW4.out.below bc)
      have hb5 := hb4.trans (bc.mono (by omega))
      have hz5 : W.heap.size + 1 ≤ (w4.alloc (.cells #[.int .i64 t1, .int .i64 t2] 63)).drew.heap.size := by have := bc.size; omega
      clear d1 d2 d3 d4 d5 d6 g3 g4 m3 m4 m5 m6 e0 e1 e2 e3 e4 e5
      generalize (w4.alloc (.cells #[.int .i64 t1, .int .i64 t2] 63)).drew = w5 at *
      clear hz4
      obtain ⟨r0, r1, r2⟩ := BP5.out
      obtain ⟨r3, r4, r5⟩ := BQ.out
      go_wp2_with (at_builtin; refine app1 rfl _ _ rfl rfl HW5.out _ rfl (by simp only [List.length_map, List.length_take]; omega) hz5 ?_; intro v' w6 ho6 hk6)
      go_roundw
      case rel => exact ⟨k + 1, by omega, by go_num, by rw [take_succ_of HX.out, List.map_append, List.map_cons, List.map_nil, HSQ.out]; exact ho6, hb5.trans (hk6.setOwn HW5.out (Nat.le_refl _) hz5)⟩
      case measure => simp [intOf]; omega
    · obtain rfl : k = l.length := by omega
      have HW2 := HW.out
      rw [List.take_length] at HW2
      have HW3 := Lib.hid HW2
      clear HW2
      go_wp2_with fail
      go_ret
      refine ⟨_, rfl, ?_, B1⟩
      rw [HE.out]
      exact ownsRow_base HW3.out (by omega)

theorem spec_SquareLengths (W : World) (v : Value) (f : FwT) (h : IsFw W v f) (hn : szFw f ≤ 1048576) : Calls Try.prog 43 #[v] W (RetInts W (squares f)) := by
  obtain ⟨p, l, q⟩ := f
  obtain ⟨a, cap, c, capc, rfl, hi, hj⟩ := h
  exact specSq_at _ _ _ _ _ _ _ _ hi hj hn
theorem impl_SquareLengths (W : World) (v : Value) (f : FwT) (h : IsFw W v f) (hn : szFw f ≤ 1048576) : Calls Try.prog 44 #[v] W (RetInts W (squares f)) := by
  obtain ⟨p, l, q⟩ := f
  obtain ⟨a, cap, c, capc, rfl, hi, hj⟩ := h
  exact implSq_at _ _ _ _ _ _ _ _ hi hj hn
theorem squares_le (f : FwT) : (squares f).length ≤ szFw f := by
  unfold squares; split
  · rw [List.length_map]; unfold szFw; omega
  · simp
end Go.Proofs.Ytjaaccdedffbcaa
