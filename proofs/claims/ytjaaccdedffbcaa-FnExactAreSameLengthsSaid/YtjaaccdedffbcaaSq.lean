/- SquareLengths of the program. -/
import Derived.Test.YtjaaccdedffbcaaChg2
namespace Go.Proofs.Ytjaaccdedffbcaa
open Go.RowKit
set_option linter.unusedVariables false
set_option linter.unusedSimpArgs false

def sqr (x1 y1 x2 y2 : Int) : Int := wrap64 (wrap64 (wrap64 (x1 - x2) * wrap64 (x1 - x2)) + wrap64 (wrap64 (y1 - y2) * wrap64 (y1 - y2)))
def sqOf (q : List PlaceT) (x : BarT) : Int := sqr (plAt q x.1.toNat).1 (plAt q x.1.toNat).2 (plAt q x.2.toNat).1 (plAt q x.2.toNat).2
def squares (f : FwT) : List Int := if isFwB f then f.2.1.map (sqOf f.2.2) else []

set_option maxHeartbeats 8000000 in
theorem square_at (W : World) (p : Int) (a : Option Addr) (n cap : Nat) (c : Option Addr) (capc : Nat) (q : List PlaceT) (hq : PlacesAt W c q.length q) (i1 i2 : Nat) (hi1 : i1 < q.length) (hi2 : i2 < q.length) (hs : q.length ≤ 1048576) :
    Calls Try.prog 80 #[.agg #[.int .i64 p, .slice a n cap, .slice c q.length capc], .int .i64 i1, .int .i64 i2] W fun e w' => e = .returned (.int .i64 (sqOf q ((i1 : Int), (i2 : Int)))) ∧ Below W.heap.size W w' := by
  have B : Below W.heap.size W (W.alloc (.cells #[.int .i64 p, .slice a n cap, .slice c q.length capc] 47)) := (Below.refl _ _).alloc (Nat.le_refl _) _
  obtain ⟨bq, oq, ⟨x1, y1⟩, rfl, hbq, hx1, hxa, hya⟩ := hq.2 i1 hi1
  obtain ⟨bq', oq', ⟨x2, y2⟩, hab, hbq', hx2, hxb, hyb⟩ := hq.2 i2 hi2
  simp only [Option.some.injEq, Addr.mk.injEq, and_true] at hab
  obtain ⟨rfl, rfl⟩ := hab
  dsimp only at hxa hya hxb hyb
  have HE := Lib.hid (ret_int (k := .i64) (show sqOf q ((i1 : Int), (i2 : Int)) = sqr x1 y1 x2 y2 by
    simp only [sqOf, plAt, Int.toNat_natCast, hx1, hx2, Option.getD_some]))
  clear hx1 hx2 hq
  have z1 : bq ≤ W.heap.size := by omega
  have z2 : bq < W.heap.size + 1 := by omega
  have hk1 : (i1 : Int) < (q.length : Int) := by omega
  have hk2 : (i2 : Int) < (q.length : Int) := by omega
  go_enter Try.func80, Try.ntmps80
  go_wp2_with fail
  go_quiet (fail)
  go_wp2_with fail
  go_ret
  exact ⟨HE.out.symm, below_drewN B _⟩

set_option maxHeartbeats 8000000 in
theorem implSq_at (W : World) (p : Int) (a : Option Addr) (cap : Nat) (l : List BarT) (c : Option Addr) (capc : Nat) (q : List PlaceT) (h : BarsAt W a l.length l) (hq : PlacesAt W c q.length q) (hs : l.length + q.length ≤ 1048576) :
    Calls Try.prog 44 #[.agg #[.int .i64 p, .slice a l.length cap, .slice c q.length capc]] W (RetInts W (squares (p, l, q))) := by
  have H1 := Lib.hid h
  have H2 := Lib.hid hq
  have HFw : Hid (IsFw W (.agg #[.int .i64 p, .slice a l.length cap, .slice c q.length capc]) (p, l, q)) := Lib.hid ⟨a, cap, c, capc, rfl, h, hq⟩
  clear h hq
  have hsz : szFw (p, l, q) ≤ 1048576 := hs
  have hs1 : l.length ≤ 1048576 := by omega
  have hs2 : q.length ≤ 1048576 := by omega
  have B : Below W.heap.size W ((W.alloc (.cells #[.int .i64 p, .slice a l.length cap, .slice c q.length capc] 47)).alloc (.cells #[] 3)) := ((Below.refl _ _).alloc (Nat.le_refl _) _).alloc (by simp) _
  have BX : Hid (BoxFw ((W.alloc (.cells #[.int .i64 p, .slice a l.length cap, .slice c q.length capc] 47)).alloc (.cells #[] 3)) W.heap.size p a l.length cap c q.length capc) := Lib.hid ((BoxFw.at rfl).below ((Below.refl _ _).alloc (Nat.le_refl _) _))
  have HO : Hid (OwnInts ((W.alloc (.cells #[.int .i64 p, .slice a l.length cap, .slice c q.length capc] 47)).alloc (.cells #[] 3)) (W.heap.size + 1) (.slice (some ⟨W.heap.size + 1, 0, none⟩) 0 0) []) := Lib.hid (by have h9 := OwnInts.made (W.alloc (.cells #[.int .i64 p, .slice a l.length cap, .slice c q.length capc] 47)) (W.heap.size + 1) (by simp); simpa using h9)
  have hsu : ((W.alloc (.cells #[.int .i64 p, .slice a l.length cap, .slice c q.length capc] 47)).alloc (.cells #[] 3)).heap.size = W.heap.size + 2 := by simp
  cases hf : isFwB (p, l, q)
  · have HE := Lib.hid (show squares (p, l, q) = [] by simp only [squares, hf]; rfl)
    go_enter Try.func44, Try.ntmps44
    go_wp2_with fail
    refine (impl_IsFramework _ _ (p, l, q) (HFw.out.below B) hsz).mono ?_
    rintro e w1 ⟨rfl, b⟩
    have B1 := B.step b
    have HO1 := HO.out.below b
    clear b
    rw [hf]
    go_wp2_with fail
    go_ret
    refine ⟨_, rfl, ?_, B1⟩
    rw [HE.out]
    exact ownsRow_base HO1 (by omega)
  have HE := Lib.hid (show squares (p, l, q) = l.map (sqOf q) by simp only [squares, hf]; rfl)
  obtain ⟨hg1, hg2, hg3⟩ : isGraphB (p, l) = true ∧ (q.length : Int) = p ∧ l.length ≤ 15 := by
    have h1 := hf
    simp only [isFwB, Bool.and_eq_true, decide_eq_true_eq] at h1
    exact ⟨h1.1, h1.2.2.1, h1.2.2.2.1⟩
  go_enter Try.func44, Try.ntmps44
  go_wp2_with fail
  refine (impl_IsFramework _ _ (p, l, q) (HFw.out.below B) hsz).mono ?_
  rintro e u ⟨rfl, b⟩
  have hsb : W.heap.size + 2 ≤ u.heap.size := by have := b.size; omega
  replace B := B.step b
  replace BX := Lib.hid (BX.out.below b)
  replace HO := Lib.hid (HO.out.below b)
  clear b hsu
  rw [hf]
  obtain ⟨z, f0, f1, f2⟩ := BX.out
  go_wp2_with fail
  clear z f0 f1 f2
  go_loopw [3, 15] (fun s i w9 => ∃ k : Nat, k ≤ l.length ∧ i = .int .i64 k ∧ OwnInts w9 (W.heap.size + 1) s ((l.take k).map (sqOf q)) ∧ Below (W.heap.size + 1) u w9) (fun _ i _ => l.length - (intOf i).toNat)
  case atStart => exact ⟨0, Nat.zero_le _, rfl, by simpa using HO.out, Below.refl _ _⟩
  case round =>
    obtain ⟨k, hk, rfl, ho, hb⟩ := hrel
    have HW := Lib.hid ho
    clear ho
    have B1 := B.trans (hb.mono (by omega))
    have hbz := hb.size
    have f0 := (hb.cell (p := ⟨W.heap.size, 0, none⟩) (by simp)).trans BX.out.c0
    have f1 := (hb.cell (p := ⟨W.heap.size, 1, none⟩) (by simp)).trans BX.out.c1
    have f2 := (hb.cell (p := ⟨W.heap.size, 2, none⟩) (by simp)).trans BX.out.c2
    by_cases hlt : k < l.length
    · obtain ⟨bb, off, ⟨x1, x2⟩, rfl, hbl, hx, hc0, hc1⟩ := (H1.out.below B1).2 k hlt
      dsimp only at hc0 hc1
      have HX := Lib.hid hx
      obtain ⟨hx1, hx2, hx3⟩ := isGraphB_bar hg1 hx
      dsimp only at hx1 hx2 hx3
      obtain ⟨i1, rfl⟩ := Int.eq_ofNat_of_zero_le hx1
      obtain ⟨i2, rfl⟩ := Int.eq_ofNat_of_zero_le (show 0 ≤ x2 by omega)
      clear hx
      have z1 : W.heap.size < wr.heap.size := by omega
      have z2 : W.heap.size < wr.heap.size + 1 := by omega
      have z3 : bb ≤ wr.heap.size := by omega
      have z4 : bb < wr.heap.size + 1 := by omega
      have ba : ∀ o, Below wr.heap.size wr (wr.alloc o) := fun o => (Below.refl _ _).alloc (Nat.le_refl _) o
      go_wp2_with fail
      refine (square_at _ _ _ _ _ _ _ _ (H2.out.below (B1.step (ba _))) i1 i2 (by omega) (by omega) hs2).mono ?_
      rintro e w3 ⟨rfl, b⟩
      have HW3 := Lib.hid ((HW.out.below (ba _)).below b)
      have hb3 := (hb.trans ((ba _).mono (by omega))).trans (b.mono (by simp; omega))
      have hz3 : W.heap.size + 1 ≤ w3.heap.size := by have := b.size; simp at this; omega
      clear b
      go_wp2_with (at_builtin; refine app1 rfl _ _ rfl rfl HW3.out _ rfl (by simp only [List.length_map, List.length_take]; omega) hz3 ?_; intro v' w4 ho4 hk4)
      go_roundw
      case rel => exact ⟨k + 1, by omega, by go_num, by rw [take_succ_of HX.out, List.map_append]; exact ho4, hb3.trans (hk4.setOwn HW3.out (Nat.le_refl _) hz3)⟩
      case measure => simp [intOf]; omega
    · obtain rfl : k = l.length := by omega
      have HW2 := HW.out
      rw [List.take_length] at HW2
      have HW3 := Lib.hid HW2
      clear HW2
      go_wp2_with fail
      go_ret
      refine ⟨_, rfl, ?_, B1⟩
      rw [HE.out]
      exact ownsRow_base HW3.out (by omega)
end Go.Proofs.Ytjaaccdedffbcaa
