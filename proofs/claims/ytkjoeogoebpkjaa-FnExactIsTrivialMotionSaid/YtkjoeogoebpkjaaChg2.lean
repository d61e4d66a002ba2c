/- ChangeOf of the program. -/
import Derived.Test.YtkjoeogoebpkjaaChg
import Derived.Deep.RegionHeld3
namespace Go.Proofs.Ytkjoeogoebpkjaa
open Go.RowKit
set_option maxRecDepth 100000
set_option linter.unusedVariables false
set_option linter.unusedSimpArgs false

set_option maxHeartbeats 1000000 in
theorem has_any (W : World) (p : Int) (s : Value) (hs : ∃ a n cap, s = .slice a n cap) (x : Int) (hp1 : 1 ≤ p) (hp2 : p ≤ 8) :
    Calls Try.prog 86 #[.agg #[.int .i64 p, s], .int .i64 x] W fun e w' => e = .returned (.bool (inB x 0 (p - 1))) ∧ Below W.heap.size W w' := by
  obtain ⟨a, n, cap, rfl⟩ := hs
  go_enter Try.func86, Try.ntmps86
  go_wp2_with (go_at_call 94; refine (within_any _ _ _ _).mono ?_; rintro e w' ⟨rfl, rfl⟩)
  go_ret
  exact ⟨rfl, (Below.refl _ _).alloc (Nat.le_refl _) _⟩

set_option maxHeartbeats 8000000 in
theorem implChange_at (W : World) (p : Int) (a : Option Addr) (cap : Nat) (l : List BarT) (c : Option Addr) (capc : Nat) (q : List PlaceT) (h : BarsAt W a l.length l) (hq : PlacesAt W c q.length q) (hs : l.length + q.length ≤ 1048576)
    (va : Option Addr) (n vcap : Nat) (v : List Int) (hv : IntsAt W va n v) (hvn : n ≤ 1099511627776) (i j : Int) :
    Calls Try.prog 108 #[.agg #[.int .i64 p, .slice a l.length cap, .slice c q.length capc], .slice va n vcap, .int .i64 i, .int .i64 j] W fun e w' => e = .returned (.int .i64 (changeF (p, l, q) v i j)) ∧ Below W.heap.size W w' := by
  have H1 := Lib.hid h
  have H2 := Lib.hid hq
  have HV := Lib.hid hv
  clear h hq hv
  have hs1 : l.length ≤ 1048576 := by omega
  have hs2 : q.length ≤ 1048576 := by omega
  have B : Below W.heap.size W (W.alloc (.cells #[.int .i64 p, .slice a l.length cap, .slice c q.length capc] 42)) := (Below.refl _ _).alloc (Nat.le_refl _) _
  have BX : Hid (BoxFw (W.alloc (.cells #[.int .i64 p, .slice a l.length cap, .slice c q.length capc] 42)) W.heap.size p a l.length cap c q.length capc) := Lib.hid (BoxFw.at rfl)
  cases hf : velB (p, l, q) v
  · have HE := Lib.hid (ret_int (k := .i64) (changeF_no (a := i) (b := j) (show (velB (p, l, q) v && _) = false by rw [hf, Bool.false_and])))
    go_enter Try.func108, Try.ntmps108
    go_wp2_with fail
    refine (isVelocity_at _ _ _ _ _ _ _ _ (H1.out.below B) (H2.out.below B) hs1 hs2 hs _ _ _ _ (HV.out.below B) hvn).mono ?_
    rintro e w1 ⟨rfl, b⟩
    replace B := B.step b
    clear b
    rw [hf]
    go_wp2_with fail
    go_ret
    exact ⟨HE.out.symm, B⟩
  obtain ⟨hp1, hp2, hp3, hp4, hp5, hp6⟩ := velB_bd hf
  clear hp6
  cases h1 : inB i 0 (p - 1)
  · have HE := Lib.hid (ret_int (k := .i64) (changeF_no (a := i) (b := j) (f := (p, l, q)) (v := v) (by simp [inB] at h1; simp; omega)))
    go_enter Try.func108, Try.ntmps108
    go_wp2_with fail
    refine (isVelocity_at _ _ _ _ _ _ _ _ (H1.out.below B) (H2.out.below B) hs1 hs2 hs _ _ _ _ (HV.out.below B) hvn).mono ?_
    rintro e w1 ⟨rfl, b⟩
    replace B := B.step b
    replace BX := Lib.hid (BX.out.below b)
    clear b
    rw [hf]
    obtain ⟨z, f0, f1, f2⟩ := BX.out
    go_wp2_with fail
    refine (has_any _ _ _ ⟨_, _, _, rfl⟩ _ hp1 (by omega)).mono ?_
    rintro e w2 ⟨rfl, b⟩
    replace B := B.step b
    clear b
    rw [h1]
    go_wp2_with fail
    go_ret
    exact ⟨HE.out.symm, B⟩
  cases h2 : inB j 0 (p - 1)
  · have HE := Lib.hid (ret_int (k := .i64) (changeF_no (a := i) (b := j) (f := (p, l, q)) (v := v) (by simp [inB] at h2; simp; omega)))
    go_enter Try.func108, Try.ntmps108
    go_wp2_with fail
    refine (isVelocity_at _ _ _ _ _ _ _ _ (H1.out.below B) (H2.out.below B) hs1 hs2 hs _ _ _ _ (HV.out.below B) hvn).mono ?_
    rintro e w1 ⟨rfl, b⟩
    replace B := B.step b
    replace BX := Lib.hid (BX.out.below b)
    clear b
    rw [hf]
    obtain ⟨z, f0, f1, f2⟩ := BX.out
    go_wp2_with fail
    refine (has_any _ _ _ ⟨_, _, _, rfl⟩ _ hp1 (by omega)).mono ?_
    rintro e w2 ⟨rfl, b⟩
    replace B := B.step b
    clear z f0 f1 f2
    replace BX := Lib.hid (BX.out.below b)
    clear b
    obtain ⟨z, f0, f1, f2⟩ := BX.out
    rw [h1]
    go_wp2_with fail
    refine (has_any _ _ _ ⟨_, _, _, rfl⟩ _ hp1 (by omega)).mono ?_
    rintro e w3 ⟨rfl, b⟩
    replace B := B.step b
    clear b
    rw [h2]
    go_wp2_with fail
    go_ret
    exact ⟨HE.out.symm, B⟩
  have hh : 0 ≤ i ∧ i < p ∧ 0 ≤ j ∧ j < p := by simp [inB] at h1 h2; omega
  obtain ⟨hh1, hh2, hh3, hh4⟩ := hh
  obtain ⟨i1, rfl⟩ := Int.eq_ofNat_of_zero_le (show 0 ≤ i by omega)
  obtain ⟨i2, rfl⟩ := Int.eq_ofNat_of_zero_le (show 0 ≤ j by omega)
  have hi1 : i1 < q.length := by omega
  have hi2 : i2 < q.length := by omega
  have hvl : v.length = n := HV.out.1
  have hb1 : 2 * i1 < n := by omega
  have hb2 : 2 * i1 + 1 < n := by omega
  have hb3 : 2 * i2 < n := by omega
  have hb4 : 2 * i2 + 1 < n := by omega
  clear hvl
  go_enter Try.func108, Try.ntmps108
  go_wp2_with fail
  refine (isVelocity_at _ _ _ _ _ _ _ _ (H1.out.below B) (H2.out.below B) hs1 hs2 hs _ _ _ _ (HV.out.below B) hvn).mono ?_
  rintro e w1 ⟨rfl, b⟩
  replace B := B.step b
  replace BX := Lib.hid (BX.out.below b)
  clear b
  rw [hf]
  obtain ⟨z, f0, f1, f2⟩ := BX.out
  go_wp2_with fail
  refine (has_any _ _ _ ⟨_, _, _, rfl⟩ _ hp1 (by omega)).mono ?_
  rintro e w2 ⟨rfl, b⟩
  replace B := B.step b
  clear z f0 f1 f2
  replace BX := Lib.hid (BX.out.below b)
  clear b
  obtain ⟨z, f0, f1, f2⟩ := BX.out
  rw [h1]
  go_wp2_with fail
  refine (has_any _ _ _ ⟨_, _, _, rfl⟩ _ hp1 (by omega)).mono ?_
  rintro e w3 ⟨rfl, b⟩
  replace B := B.step b
  clear z f0 f1 f2
  replace BX := Lib.hid (BX.out.below b)
  clear b
  obtain ⟨z, f0, f1, f2⟩ := BX.out
  rw [h2]
  obtain ⟨bq, oq, ⟨x1, y1⟩, rfl, hbq, hx1, hxa, hya⟩ := (H2.out.below B).2 i1 hi1
  obtain ⟨bq', oq', ⟨x2, y2⟩, hab, hbq', hx2, hxb, hyb⟩ := (H2.out.below B).2 i2 hi2
  simp only [Option.some.injEq, Addr.mk.injEq, and_true] at hab
  obtain ⟨rfl, rfl⟩ := hab
  dsimp only at hxa hya hxb hyb
  obtain ⟨bv, ov, u1, rfl, hbv, hu1, hc1⟩ := (HV.out.below B).2 _ hb1
  obtain ⟨bv', ov', t1, hab, hbv', ht1, hc2⟩ := (HV.out.below B).2 _ hb2
  simp only [Option.some.injEq, Addr.mk.injEq, and_true] at hab
  obtain ⟨rfl, rfl⟩ := hab
  obtain ⟨bv'', ov'', u2, hab, hbv'', hu2, hc3⟩ := (HV.out.below B).2 _ hb3
  simp only [Option.some.injEq, Addr.mk.injEq, and_true] at hab
  obtain ⟨rfl, rfl⟩ := hab
  obtain ⟨bv''', ov''', t2, hab, hbv''', ht2, hc4⟩ := (HV.out.below B).2 _ hb4
  simp only [Option.some.injEq, Addr.mk.injEq, and_true] at hab
  obtain ⟨rfl, rfl⟩ := hab
  have HE := Lib.hid (ret_int (k := .i64) (show changeF (p, l, q) v (i1 : Int) (i2 : Int) = chg x1 y1 x2 y2 u1 t1 u2 t2 by
    have ha : decide ((0 : Int) ≤ (i1 : Int)) = true := decide_eq_true (by omega)
    have hb : decide ((0 : Int) ≤ (i2 : Int)) = true := decide_eq_true (by omega)
    have hc : decide ((i1 : Int) < p) = true := decide_eq_true (by omega)
    have hd : decide ((i2 : Int) < p) = true := decide_eq_true (by omega)
    simp only [changeF, hf, ha, hb, hc, hd, Bool.and_self, if_true, Int.toNat_natCast, plAt, hx1, hx2, hu1, ht1, hu2, ht2, Option.getD_some]))
  clear hx1 hx2 hu1 ht1 hu2 ht2
  have hj1 : (2 * (i1 : Int)).toNat = 2 * i1 := by omega
  have hj2 : (2 * (i1 : Int) + 1).toNat = 2 * i1 + 1 := by omega
  have hj3 : (2 * (i2 : Int)).toNat = 2 * i2 := by omega
  have hj4 : (2 * (i2 : Int) + 1).toNat = 2 * i2 + 1 := by omega
  have hm1 : (2 * (i1 : Int)) < (n : Int) := by omega
  have hm2 : (2 * (i1 : Int) + 1) < (n : Int) := by omega
  have hm3 : (2 * (i2 : Int)) < (n : Int) := by omega
  have hm4 : (2 * (i2 : Int) + 1) < (n : Int) := by omega
  have hm5 : 0 ≤ (2 * (i1 : Int)) := by omega
  have hm6 : 0 ≤ (2 * (i1 : Int) + 1) := by omega
  have hm7 : 0 ≤ (2 * (i2 : Int)) := by omega
  have hm8 : 0 ≤ (2 * (i2 : Int) + 1) := by omega
  have hk1 : (i1 : Int) < (q.length : Int) := by omega
  have hk2 : (i2 : Int) < (q.length : Int) := by omega
  have hw1 := IntWalk.i64_in (2 * (i1 : Int)) (by omega)
  have hw2 := IntWalk.i64_in (2 * (i1 : Int) + 1) (by omega)
  have hw3 := IntWalk.i64_in (2 * (i2 : Int)) (by omega)
  have hw4 := IntWalk.i64_in (2 * (i2 : Int) + 1) (by omega)
  go_wp2_with fail
  have e1 : bq < w3.drew.heap.size := hbq
  have e2 : W.heap.size < w3.drew.heap.size := z
  have e3 : bq < w3.drew.heap.size + 1 := by omega
  have e4 : W.heap.size < w3.drew.heap.size + 1 := by omega
  have e5 : bq < w3.drew.heap.size + 1 + 1 := by omega
  have e6 : W.heap.size < w3.drew.heap.size + 1 + 1 := by omega
  have d2 : w3.drew.cell? ⟨W.heap.size, 2, none⟩ = some (.slice (some ⟨bq, oq, none⟩) q.length capc) := f2
  have dxa : w3.drew.cell? ⟨bq, oq + i1 * 2, none⟩ = some (.int .i64 x1) := hxa
  have dya : w3.drew.cell? ⟨bq, oq + i1 * 2 + 1, none⟩ = some (.int .i64 y1) := hya
  have dxb : w3.drew.cell? ⟨bq, oq + i2 * 2, none⟩ = some (.int .i64 x2) := hxb
  have dyb : w3.drew.cell? ⟨bq, oq + i2 * 2 + 1, none⟩ = some (.int .i64 y2) := hyb
  go_region_held3 (fun w' => w'.cell? ⟨W.heap.size, 2, none⟩ = some (.slice (some ⟨bq, oq, none⟩) q.length capc) ∧ w'.cell? ⟨bq, oq + i1 * 2, none⟩ = some (.int .i64 x1) ∧ w'.cell? ⟨bq, oq + i1 * 2 + 1, none⟩ = some (.int .i64 y1) ∧ w'.cell? ⟨bq, oq + i2 * 2, none⟩ = some (.int .i64 x2) ∧ w'.cell? ⟨bq, oq + i2 * 2 + 1, none⟩ = some (.int .i64 y2))
    (first | (with_reducible exact ⟨d2, dxa, dya, dxb, dyb⟩) | (go_keep)) (fail)
  all_goals
    have B2 := fun o1 o2 => ((B.alloc (Nat.le_of_lt z) o1).alloc (show W.heap.size ≤ (w3.alloc o1).heap.size by simp; omega) o2).drew
    have g1 : bv < w3.heap.size + 1 := by omega
    have g2 : bv < w3.heap.size + 1 + 1 := by omega
    go_wp2_with fail
    go_quiet (fail)
    go_wp2_with fail
    go_ret
    exact ⟨HE.out.symm, below_drewN (B2 _ _) _⟩

theorem spec_ChangeOf (W : World) (v0 : Value) (f : FwT) (h : IsFw W v0 f) (v1 : Value) (v : List Int) (hv : IsInts W v1 v) (i j : Int) (hn : szFw f ≤ 1048576) (hvn : v.length ≤ 1048576) :
    Calls Try.prog 70 #[v0, v1, .int .i64 i, .int .i64 j] W fun e w' => e = .returned (.int .i64 (changeF f v i j)) ∧ Below W.heap.size W w' := by
  obtain ⟨p, l, q⟩ := f
  obtain ⟨a, cap, c, capc, rfl, hi, hj⟩ := h
  obtain ⟨va, vc, rfl, hvi⟩ := hv
  exact specChange_at _ _ _ _ _ _ _ _ hi hj hn _ _ _ _ hvi (by omega) i j
theorem impl_ChangeOf (W : World) (v0 : Value) (f : FwT) (h : IsFw W v0 f) (v1 : Value) (v : List Int) (hv : IsInts W v1 v) (i j : Int) (hn : szFw f ≤ 1048576) (hvn : v.length ≤ 1048576) :
    Calls Try.prog 108 #[v0, v1, .int .i64 i, .int .i64 j] W fun e w' => e = .returned (.int .i64 (changeF f v i j)) ∧ Below W.heap.size W w' := by
  obtain ⟨p, l, q⟩ := f
  obtain ⟨a, cap, c, capc, rfl, hi, hj⟩ := h
  obtain ⟨va, vc, rfl, hvi⟩ := hv
  exact implChange_at _ _ _ _ _ _ _ _ hi hj hn _ _ _ _ hvi (by omega) i j
end Go.Proofs.Ytkjoeogoebpkjaa
