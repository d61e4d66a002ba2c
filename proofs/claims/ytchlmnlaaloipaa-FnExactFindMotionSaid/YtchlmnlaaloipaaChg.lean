/- ChangeOf of the reference and of the program. -/
import Derived.Test.YtchlmnlaaloipaaPlAt
import Derived.Test.YtchlmnlaaloipaaVec
namespace Go.Proofs.Ytchlmnlaaloipaa
open Go.RowKit
set_option maxRecDepth 100000
set_option linter.unusedVariables false
set_option linter.unusedSimpArgs false

theorem below_drewN {B : Nat} {a w : World} (h : Below B a w) (n : Nat) : Below B a (w.drewN n) := h.trans ⟨rfl, rfl, rfl, Nat.le_refl _, fun _ _ => rfl⟩
def chg (x1 y1 x2 y2 u1 t1 u2 t2 : Int) : Int :=
  wrap64 (wrap64 (wrap64 (x1 - x2) * wrap64 (u1 - u2)) + wrap64 (wrap64 (y1 - y2) * wrap64 (t1 - t2)))
def changeF (f : FwT) (v : List Int) (a b : Int) : Int :=
  if velB f v && (decide (0 ≤ a) && (decide (0 ≤ b) && (decide (a < f.1) && decide (b < f.1)))) then
    chg (plAt f.2.2 a.toNat).1 (plAt f.2.2 a.toNat).2 (plAt f.2.2 b.toNat).1 (plAt f.2.2 b.toNat).2 (v[2 * a.toNat]?.getD 0) (v[2 * a.toNat + 1]?.getD 0) (v[2 * b.toNat]?.getD 0) (v[2 * b.toNat + 1]?.getD 0)
  else 0
theorem changeF_no {f : FwT} {v : List Int} {a b : Int} (h : (velB f v && (decide (0 ≤ a) && (decide (0 ≤ b) && (decide (a < f.1) && decide (b < f.1))))) = false) : changeF f v a b = 0 := by
  unfold changeF; rw [h]; rfl
theorem velB_bd {p : Int} {l : List BarT} {q : List PlaceT} {v : List Int} (h : velB (p, l, q) v = true) : 1 ≤ p ∧ p ≤ 6 ∧ (q.length : Int) = p ∧ (v.length : Int) = 2 * p ∧ l.length ≤ 15 ∧ isGraphB (p, l) = true := by
  simp only [velB, isFwB, Bool.and_eq_true, decide_eq_true_eq] at h
  exact ⟨(isGraphB_bd h.2.1.1).1.1, h.2.1.2.1, h.2.1.2.2.1, h.2.2, h.2.1.2.2.2.1, h.2.1.1⟩

set_option maxHeartbeats 8000000 in
theorem specChange_at (W : World) (p : Int) (a : Option Addr) (cap : Nat) (l : List BarT) (c : Option Addr) (capc : Nat) (q : List PlaceT) (h : BarsAt W a l.length l) (hq : PlacesAt W c q.length q) (hs : l.length + q.length ≤ 1048576)
    (va : Option Addr) (n vcap : Nat) (v : List Int) (hv : IntsAt W va n v) (hvn : n ≤ 1099511627776) (i j : Int) :
    Calls Try.prog 63 #[.agg #[.int .i64 p, .slice a l.length cap, .slice c q.length capc], .slice va n vcap, .int .i64 i, .int .i64 j] W fun e w' => e = .returned (.int .i64 (changeF (p, l, q) v i j)) ∧ Below W.heap.size W w' := by
  have H1 := Lib.hid h
  have H2 := Lib.hid hq
  have HV := Lib.hid hv
  clear h hq hv
  have hs1 : l.length ≤ 1048576 := by omega
  have hs2 : q.length ≤ 1048576 := by omega
  have B : Below W.heap.size W (W.alloc (.cells #[.int .i64 p, .slice a l.length cap, .slice c q.length capc] 36)) := (Below.refl _ _).alloc (Nat.le_refl _) _
  have BX : Hid (BoxFw (W.alloc (.cells #[.int .i64 p, .slice a l.length cap, .slice c q.length capc] 36)) W.heap.size p a l.length cap c q.length capc) := Lib.hid (BoxFw.at rfl)
  cases hf : velB (p, l, q) v
  · have HE := Lib.hid (ret_int (k := .i64) (changeF_no (a := i) (b := j) (show (velB (p, l, q) v && _) = false by rw [hf, Bool.false_and])))
    go_enter Try.func63, Try.ntmps63
    go_wp2_with fail
    refine (l12Vector_at _ _ _ _ _ _ _ _ (H1.out.below B) (H2.out.below B) hs1 hs2 hs _ _ _ _ (HV.out.below B) hvn).mono ?_
    rintro e w1 ⟨rfl, b⟩
    replace B := B.step b
    clear b
    rw [hf]
    go_wp2_with fail
    go_ret
    exact ⟨HE.out.symm, B⟩
  obtain ⟨hp1, hp2, hp3, hp4, hp5, hp6⟩ := velB_bd hf
  clear hp6
  by_cases h1 : i < 0
  · have HE := Lib.hid (ret_int (k := .i64) (changeF_no (a := i) (b := j) (f := (p, l, q)) (v := v) (by simp; omega)))
    have hd1 : decide (i < 0) = true := decide_eq_true h1
    go_enter Try.func63, Try.ntmps63
    go_wp2_with fail
    refine (l12Vector_at _ _ _ _ _ _ _ _ (H1.out.below B) (H2.out.below B) hs1 hs2 hs _ _ _ _ (HV.out.below B) hvn).mono ?_
    rintro e w1 ⟨rfl, b⟩
    replace B := B.step b
    clear b
    rw [hf]
    go_wp2_with fail
    go_ret
    exact ⟨HE.out.symm, B⟩
  by_cases h2 : j < 0
  · have HE := Lib.hid (ret_int (k := .i64) (changeF_no (a := i) (b := j) (f := (p, l, q)) (v := v) (by simp; omega)))
    have hd1 : decide (i < 0) = false := decide_eq_false h1
    have hd2 : decide (j < 0) = true := decide_eq_true h2
    go_enter Try.func63, Try.ntmps63
    go_wp2_with fail
    refine (l12Vector_at _ _ _ _ _ _ _ _ (H1.out.below B) (H2.out.below B) hs1 hs2 hs _ _ _ _ (HV.out.below B) hvn).mono ?_
    rintro e w1 ⟨rfl, b⟩
    replace B := B.step b
    clear b
    rw [hf]
    go_wp2_with fail
    go_ret
    exact ⟨HE.out.symm, B⟩
  have hd1 : decide (i < 0) = false := decide_eq_false h1
  have hd2 : decide (j < 0) = false := decide_eq_false h2
  by_cases h3 : p ≤ i
  · have HE := Lib.hid (ret_int (k := .i64) (changeF_no (a := i) (b := j) (f := (p, l, q)) (v := v) (by simp; omega)))
    have hd3 : decide (p ≤ i) = true := decide_eq_true h3
    go_enter Try.func63, Try.ntmps63
    go_wp2_with fail
    refine (l12Vector_at _ _ _ _ _ _ _ _ (H1.out.below B) (H2.out.below B) hs1 hs2 hs _ _ _ _ (HV.out.below B) hvn).mono ?_
    rintro e w1 ⟨rfl, b⟩
    replace B := B.step b
    replace BX := Lib.hid (BX.out.below b)
    clear b
    rw [hf]
    obtain ⟨z, f0, f1, f2⟩ := BX.out
    go_wp2_with fail
    go_ret
    exact ⟨HE.out.symm, B⟩
  have hd3 : decide (p ≤ i) = false := decide_eq_false h3
  by_cases h4 : p ≤ j
  · have HE := Lib.hid (ret_int (k := .i64) (changeF_no (a := i) (b := j) (f := (p, l, q)) (v := v) (by simp; omega)))
    have hd4 : decide (p ≤ j) = true := decide_eq_true h4
    go_enter Try.func63, Try.ntmps63
    go_wp2_with fail
    refine (l12Vector_at _ _ _ _ _ _ _ _ (H1.out.below B) (H2.out.below B) hs1 hs2 hs _ _ _ _ (HV.out.below B) hvn).mono ?_
    rintro e w1 ⟨rfl, b⟩
    replace B := B.step b
    replace BX := Lib.hid (BX.out.below b)
    clear b
    rw [hf]
    obtain ⟨z, f0, f1, f2⟩ := BX.out
    go_wp2_with fail
    go_ret
    exact ⟨HE.out.symm, B⟩
  have hd4 : decide (p ≤ j) = false := decide_eq_false h4
  obtain ⟨i1, rfl⟩ := Int.eq_ofNat_of_zero_le (show 0 ≤ i by omega)
  obtain ⟨i2, rfl⟩ := Int.eq_ofNat_of_zero_le (show 0 ≤ j by omega)
  have hi1 : i1 < q.length := by omega
  have hi2 : i2 < q.length := by omega
  have hvl : v.length = n := HV.out.1
  have hb1 : 2 * i1 < n := by omega
  have hb2 : 2 * i1 + 1 < n := by omega
  have hb3 : 2 * i2 < n := by omega
  have hb4 : 2 * i2 + 1 < n := by omega
  clear hvl hd1 hd2 h1 h2
  go_enter Try.func63, Try.ntmps63
  go_wp2_with fail
  refine (l12Vector_at _ _ _ _ _ _ _ _ (H1.out.below B) (H2.out.below B) hs1 hs2 hs _ _ _ _ (HV.out.below B) hvn).mono ?_
  rintro e w1 ⟨rfl, b⟩
  replace B := B.step b
  replace BX := Lib.hid (BX.out.below b)
  clear b
  rw [hf]
  obtain ⟨z, f0, f1, f2⟩ := BX.out
  obtain ⟨bq, oq, ⟨x1, y1⟩, rfl, hbq, hx1, hxa, hya⟩ := (H2.out.below B).2 i1 hi1
  obtain ⟨bq', oq', ⟨x2, y2⟩, hab, hbq', hx2, hxb, hyb⟩ := (H2.out.below B).2 i2 hi2
  simp only [Option.some.injEq, Addr.mk.injEq, and_true] at hab
  obtain ⟨rfl, rfl⟩ := hab
  dsimp only at hxa hya hxb hyb
  obtain ⟨bv, ov, u1, rfl, hbv, hu1, hc1⟩ := (HV.out.below B).2 _ hb1
  obtain ⟨bv', ov', t1, hab, hbv', ht1, hc2⟩ := (HV.out.below B).2 _ hb2
  simp only [Option.some.injEq, Addr.mk.injEq, and_true] at hab
  obtain ⟨rfl, rfl⟩ := hab
  obtain ⟨bv'', ov'', u2, hab, hbv'', hu2, hc3⟩ := (HV.out.below B).2 _ hb3
  simp only [Option.some.injEq, Addr.mk.injEq, and_true] at hab
  obtain ⟨rfl, rfl⟩ := hab
  obtain ⟨bv''', ov''', t2, hab, hbv''', ht2, hc4⟩ := (HV.out.below B).2 _ hb4
  simp only [Option.some.injEq, Addr.mk.injEq, and_true] at hab
  obtain ⟨rfl, rfl⟩ := hab
  have HE := Lib.hid (ret_int (k := .i64) (show changeF (p, l, q) v (i1 : Int) (i2 : Int) = chg x1 y1 x2 y2 u1 t1 u2 t2 by
    have ha : decide ((0 : Int) ≤ (i1 : Int)) = true := decide_eq_true (by omega)
    have hb : decide ((0 : Int) ≤ (i2 : Int)) = true := decide_eq_true (by omega)
    have hc : decide ((i1 : Int) < p) = true := decide_eq_true (by omega)
    have hd : decide ((i2 : Int) < p) = true := decide_eq_true (by omega)
    simp only [changeF, hf, ha, hb, hc, hd, Bool.and_self, if_true, Int.toNat_natCast, plAt, hx1, hx2, hu1, ht1, hu2, ht2, Option.getD_some]))
  clear hx1 hx2 hu1 ht1 hu2 ht2
  have hj1 : (2 * (i1 : Int)).toNat = 2 * i1 := by omega
  have hj2 : (2 * (i1 : Int) + 1).toNat = 2 * i1 + 1 := by omega
  have hj3 : (2 * (i2 : Int)).toNat = 2 * i2 := by omega
  have hj4 : (2 * (i2 : Int) + 1).toNat = 2 * i2 + 1 := by omega
  have hm1 : (2 * (i1 : Int)) < (n : Int) := by omega
  have hm2 : (2 * (i1 : Int) + 1) < (n : Int) := by omega
  have hm3 : (2 * (i2 : Int)) < (n : Int) := by omega
  have hm4 : (2 * (i2 : Int) + 1) < (n : Int) := by omega
  have hm5 : 0 ≤ (2 * (i1 : Int)) := by omega
  have hm6 : 0 ≤ (2 * (i1 : Int) + 1) := by omega
  have hm7 : 0 ≤ (2 * (i2 : Int)) := by omega
  have hm8 : 0 ≤ (2 * (i2 : Int) + 1) := by omega
  have hk1 : (i1 : Int) < (q.length : Int) := by omega
  have hk2 : (i2 : Int) < (q.length : Int) := by omega
  have hw1 := IntWalk.i64_in (2 * (i1 : Int)) (by omega)
  have hw2 := IntWalk.i64_in (2 * (i1 : Int) + 1) (by omega)
  have hw3 := IntWalk.i64_in (2 * (i2 : Int)) (by omega)
  have hw4 := IntWalk.i64_in (2 * (i2 : Int) + 1) (by omega)
  go_wp2_with fail
  go_quiet (fail)
  go_wp2_with fail
  go_ret
  exact ⟨HE.out.symm, below_drewN B _⟩
end Go.Proofs.Ytchlmnlaaloipaa
