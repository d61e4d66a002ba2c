/- Velocities: l12Vector of the reference, isVelocity and areSmall of the program. -/
import Derived.Test.YtfbmpkdjhhcnpaaMoP27
import Derived.Test.YtfbmpkdjhhcnpaaMoP12
import Derived.Test.YtfbmpkdjhhcnpaaMoP02
import Derived.Deep.RegionHeld3
namespace Go.Proofs.Ytfbmpkdjhhcnpaa
open Go.RowKit
set_option maxRecDepth 100000
set_option linter.unusedVariables false
set_option linter.unusedSimpArgs false

def smallV (x : Int) : Bool := inB x (-10000000000) 10000000000
def velB (f : FwT) (v : List Int) : Bool := v.all smallV && (isFwB f && decide ((v.length : Int) = 2 * f.1))
theorem velB_small {f : FwT} {v : List Int} {k : Nat} {x : Int} (hx : v[k]? = some x) (h : smallV x = false) : velB f v = false := by
  have : v.all smallV = false := List.all_eq_false.2 ⟨_, List.mem_of_getElem? hx, by simp [h]⟩
  simp only [velB, this, Bool.false_and]

set_option maxHeartbeats 4000000 in
theorem areSmall_any (W : World) (va : Option Addr) (n cap : Nat) (v : List Int) (m : Int) (h : IntsAt W va n v) (hn : n ≤ 1099511627776) :
    Calls Try.prog 54 #[.slice va n cap, .int .i64 m] W fun e w' => e = .returned (.bool (v.all smallV && decide ((v.length : Int) = m))) ∧ W = w' := by
  have HL := Lib.hid h.1
  have HC := Lib.hid h.2
  clear h
  go_enter Try.func54, Try.ntmps54
  go_wp2_with fail
  go_loop [9] (fun i => ∃ k : Nat, k ≤ n ∧ i = .int .i64 k ∧ (v.take k).all smallV = true) (fun i => n - (intOf i).toNat)
  case atStart => exact ⟨0, Nat.zero_le _, rfl, by simp⟩
  case round =>
    obtain ⟨k, hk, rfl, hall⟩ := hrel
    have HA := Lib.hid hall
    clear hall
    by_cases hlt : k < n
    · obtain ⟨b, off, x, rfl, hbl, hx, hcell⟩ := HC.out k hlt
      have HX := Lib.hid hx
      clear hx
      cases hs : inB x (-10000000000) 10000000000
      · have HF := Lib.hid (ret_bool (show (v.all smallV && decide ((v.length : Int) = m)) = false by
          have : v.all smallV = false := List.all_eq_false.2 ⟨_, List.mem_of_getElem? HX.out, by simp [smallV, hs]⟩
          rw [this, Bool.false_and]))
        go_wp2_with (go_at_call 59; refine (within_any _ _ _ _).mono ?_; rintro e w' ⟨rfl, rfl⟩)
        go_ret
        exact ⟨HF.out.symm, rfl⟩
      · go_wp2_with (go_at_call 59; refine (within_any _ _ _ _).mono ?_; rintro e w' ⟨rfl, rfl⟩)
        go_round
        case rel => exact ⟨k + 1, by omega, by go_num, all_take_succ HX.out HA.out hs⟩
        case measure => simp [intOf]; omega
    · obtain rfl : k = n := by omega
      have hall : v.all smallV = true := by have h1 := HA.out; rwa [List.take_of_length_le (by have := HL.out; omega)] at h1
      have HF := Lib.hid (show (v.all smallV && decide ((v.length : Int) = m)) = ((k : Int) == m) by rw [hall, HL.out, Bool.true_and]; rfl)
      clear hall
      go_wp2_with fail
      go_ret
      exact ⟨by rw [HF.out]; try rfl, rfl⟩

set_option maxHeartbeats 4000000 in
theorem isVelocity_at (W : World) (p : Int) (a : Option Addr) (cap : Nat) (l : List BarT) (c : Option Addr) (capc : Nat) (q : List PlaceT) (h : BarsAt W a l.length l) (hq : PlacesAt W c q.length q) (hn : l.length ≤ 1048576) (hnq : q.length ≤ 1048576) (hs : l.length + q.length ≤ 1048576)
    (va : Option Addr) (n vcap : Nat) (v : List Int) (hv : IntsAt W va n v) (hvn : n ≤ 1099511627776) :
    Calls Try.prog 35 #[.agg #[.int .i64 p, .slice a l.length cap, .slice c q.length capc], .slice va n vcap] W fun e w' => e = .returned (.bool (velB (p, l, q) v)) ∧ Below W.heap.size W w' := by
  have HF : Hid (IsFw W (.agg #[.int .i64 p, .slice a l.length cap, .slice c q.length capc]) (p, l, q)) := Lib.hid ⟨a, cap, c, capc, rfl, h, hq⟩
  have HV := Lib.hid hv
  clear h hq hv
  have hsz : szFw (p, l, q) ≤ 1048576 := hs
  have B : Below W.heap.size W (W.alloc (.cells #[.int .i64 p, .slice a l.length cap, .slice c q.length capc] 29)) := (Below.refl _ _).alloc (Nat.le_refl _) _
  have BX : Hid (BoxFw (W.alloc (.cells #[.int .i64 p, .slice a l.length cap, .slice c q.length capc] 29)) W.heap.size p a l.length cap c q.length capc) := Lib.hid (BoxFw.at rfl)
  cases hf : isFwB (p, l, q)
  · have HE := Lib.hid (ret_bool (show velB (p, l, q) v = false by simp only [velB, hf, Bool.false_and, Bool.and_false]))
    go_enter Try.func35, Try.ntmps35
    go_wp2_with fail
    refine (impl_IsFramework _ _ (p, l, q) (HF.out.below B) hsz).mono ?_
    rintro e w1 ⟨rfl, b⟩
    replace B := B.step b
    clear b
    rw [hf]
    go_wp2_with fail
    go_ret
    exact ⟨HE.out.symm, B⟩
  · have HE := Lib.hid (ret_bool (show velB (p, l, q) v = (v.all smallV && decide ((v.length : Int) = 2 * p)) by simp only [velB, hf, Bool.true_and]))
    have hp : 1 ≤ p ∧ p ≤ 8 := by
      have h1 := hf
      simp only [isFwB, Bool.and_eq_true] at h1
      exact (isGraphB_bd h1.1).1
    obtain ⟨hp1, hp2⟩ := hp
    go_enter Try.func35, Try.ntmps35
    go_wp2_with fail
    refine (impl_IsFramework _ _ (p, l, q) (HF.out.below B) hsz).mono ?_
    rintro e w1 ⟨rfl, b⟩
    replace B := B.step b
    replace BX := Lib.hid (BX.out.below b)
    clear b
    rw [hf]
    obtain ⟨z, f0, f1, f2⟩ := BX.out
    go_wp2_with fail
    refine (areSmall_any _ _ _ _ _ _ (HV.out.below B) (by omega)).mono ?_
    rintro e w2 ⟨rfl, rfl⟩
    go_wp2_with fail
    go_ret
    exact ⟨HE.out.symm, B⟩

set_option maxHeartbeats 4000000 in
theorem l12Vector_at (W : World) (p : Int) (a : Option Addr) (cap : Nat) (l : List BarT) (c : Option Addr) (capc : Nat) (q : List PlaceT) (h : BarsAt W a l.length l) (hq : PlacesAt W c q.length q) (hn : l.length ≤ 1048576) (hnq : q.length ≤ 1048576) (hs : l.length + q.length ≤ 1048576)
    (va : Option Addr) (n vcap : Nat) (v : List Int) (hv : IntsAt W va n v) (hvn : n ≤ 1099511627776) :
    Calls Try.prog 42 #[.agg #[.int .i64 p, .slice a l.length cap, .slice c q.length capc], .slice va n vcap] W fun e w' => e = .returned (.bool (velB (p, l, q) v)) ∧ Below W.heap.size W w' := by
  have HF : Hid (IsFw W (.agg #[.int .i64 p, .slice a l.length cap, .slice c q.length capc]) (p, l, q)) := Lib.hid ⟨a, cap, c, capc, rfl, h, hq⟩
  have hsz : szFw (p, l, q) ≤ 1048576 := hs
  have B : Below W.heap.size W (W.alloc (.cells #[.int .i64 p, .slice a l.length cap, .slice c q.length capc] 29)) := (Below.refl _ _).alloc (Nat.le_refl _) _
  have HL := Lib.hid hv.1
  have HC := Lib.hid (hv.below B).2
  clear h hq hv
  have BX : Hid (BoxFw (W.alloc (.cells #[.int .i64 p, .slice a l.length cap, .slice c q.length capc] 29)) W.heap.size p a l.length cap c q.length capc) := Lib.hid (BoxFw.at rfl)
  go_enter Try.func42, Try.ntmps42
  go_wp2_with fail
  generalize (W.alloc (.cells #[.int .i64 p, .slice a l.length cap, .slice c q.length capc] 29)) = u at *
  go_loop [5] (fun i => ∃ k : Nat, k ≤ n ∧ i = .int .i64 k ∧ (v.take k).all smallV = true) (fun i => n - (intOf i).toNat)
  case atStart => exact ⟨0, Nat.zero_le _, rfl, by simp⟩
  case round =>
    obtain ⟨k, hk, rfl, hall⟩ := hrel
    have HA := Lib.hid hall
    clear hall
    by_cases hlt : k < n
    · obtain ⟨b, off, x, rfl, hbl, hx, hcell⟩ := HC.out k hlt
      have HX := Lib.hid hx
      clear hx
      cases hs : inB x (-10000000000) 10000000000
      · have HE := Lib.hid (ret_bool (velB_small (f := (p, l, q)) HX.out hs))
        go_wp2_with (go_at_call 37; refine (l1In_any _ _ _ _).mono ?_; rintro e w' ⟨rfl, rfl⟩)
        go_ret
        exact ⟨HE.out.symm, B⟩
      · go_wp2_with (go_at_call 37; refine (l1In_any _ _ _ _).mono ?_; rintro e w' ⟨rfl, rfl⟩)
        go_round
        case rel => exact ⟨k + 1, by omega, by go_num, all_take_succ HX.out HA.out hs⟩
        case measure => simp [intOf]; omega
    · obtain rfl : k = n := by omega
      have hall : v.all smallV = true := by have h1 := HA.out; rwa [List.take_of_length_le (by have := HL.out; omega)] at h1
      cases hf : isFwB (p, l, q)
      · have HE := Lib.hid (ret_bool (show velB (p, l, q) v = false by simp only [velB, hf, Bool.false_and, Bool.and_false]))
        clear hall
        obtain ⟨z, f0, f1, f2⟩ := BX.out
        go_wp2_with fail
        refine (spec_IsFramework _ _ (p, l, q) (HF.out.below B) hsz).mono ?_
        rintro e w1 ⟨rfl, b⟩
        replace B := B.step b
        clear b
        rw [hf]
        go_wp2_with fail
        go_ret
        exact ⟨HE.out.symm, B⟩
      · have HE := Lib.hid (ret_bool (show velB (p, l, q) v = ((k : Int) == 2 * p) by simp only [velB, hf, hall, Bool.true_and, HL.out]; rfl))
        have hp : 1 ≤ p ∧ p ≤ 8 := by
          have h1 := hf
          simp only [isFwB, Bool.and_eq_true] at h1
          exact (isGraphB_bd h1.1).1
        obtain ⟨hp1, hp2⟩ := hp
        clear hall
        obtain ⟨z, f0, f1, f2⟩ := BX.out
        go_wp2_with fail
        refine (spec_IsFramework _ _ (p, l, q) (HF.out.below B) hsz).mono ?_
        rintro e w1 ⟨rfl, b⟩
        replace B := B.step b
        clear z f0 f1 f2
        replace BX := Lib.hid (BX.out.below b)
        clear b
        rw [hf]
        obtain ⟨z, f0, f1, f2⟩ := BX.out
        go_wp2_with fail
        go_ret
        exact ⟨HE.out.symm, B⟩
end Go.Proofs.Ytfbmpkdjhhcnpaa

namespace Go.Proofs.Ytfbmpkdjhhcnpaa
open Go.RowKit
set_option maxRecDepth 100000
set_option linter.unusedVariables false
set_option linter.unusedSimpArgs false

theorem below_drewN {B : Nat} {a w : World} (h : Below B a w) (n : Nat) : Below B a (w.drewN n) := h.trans ⟨rfl, rfl, rfl, Nat.le_refl _, fun _ _ => rfl⟩
def chg (x1 y1 x2 y2 u1 t1 u2 t2 : Int) : Int :=
  wrap64 (wrap64 (wrap64 (x1 - x2) * wrap64 (u1 - u2)) + wrap64 (wrap64 (y1 - y2) * wrap64 (t1 - t2)))
def changeF (f : FwT) (v : List Int) (a b : Int) : Int :=
  if velB f v && (decide (0 ≤ a) && (decide (0 ≤ b) && (decide (a < f.1) && decide (b < f.1)))) then
    chg (plAt f.2.2 a.toNat).1 (plAt f.2.2 a.toNat).2 (plAt f.2.2 b.toNat).1 (plAt f.2.2 b.toNat).2 (v[2 * a.toNat]?.getD 0) (v[2 * a.toNat + 1]?.getD 0) (v[2 * b.toNat]?.getD 0) (v[2 * b.toNat + 1]?.getD 0)
  else 0
theorem changeF_no {f : FwT} {v : List Int} {a b : Int} (h : (velB f v && (decide (0 ≤ a) && (decide (0 ≤ b) && (decide (a < f.1) && decide (b < f.1))))) = false) : changeF f v a b = 0 := by
  unfold changeF; rw [h]; rfl
theorem velB_bd {p : Int} {l : List BarT} {q : List PlaceT} {v : List Int} (h : velB (p, l, q) v = true) : 1 ≤ p ∧ p ≤ 6 ∧ (q.length : Int) = p ∧ (v.length : Int) = 2 * p ∧ l.length ≤ 15 ∧ isGraphB (p, l) = true := by
  simp only [velB, isFwB, Bool.and_eq_true, decide_eq_true_eq] at h
  exact ⟨(isGraphB_bd h.2.1.1).1.1, h.2.1.2.1, h.2.1.2.2.1, h.2.2, h.2.1.2.2.2.1, h.2.1.1⟩

set_option maxHeartbeats 8000000 in
theorem specChange_at (W : World) (p : Int) (a : Option Addr) (cap : Nat) (l : List BarT) (c : Option Addr) (capc : Nat) (q : List PlaceT) (h : BarsAt W a l.length l) (hq : PlacesAt W c q.length q) (hs : l.length + q.length ≤ 1048576)
    (va : Option Addr) (n vcap : Nat) (v : List Int) (hv : IntsAt W va n v) (hvn : n ≤ 1099511627776) (i j : Int) :
    Calls Try.prog 25 #[.agg #[.int .i64 p, .slice a l.length cap, .slice c q.length capc], .slice va n vcap, .int .i64 i, .int .i64 j] W fun e w' => e = .returned (.int .i64 (changeF (p, l, q) v i j)) ∧ Below W.heap.size W w' := by
  have H1 := Lib.hid h
  have H2 := Lib.hid hq
  have HV := Lib.hid hv
  clear h hq hv
  have hs1 : l.length ≤ 1048576 := by omega
  have hs2 : q.length ≤ 1048576 := by omega
  have B : Below W.heap.size W (W.alloc (.cells #[.int .i64 p, .slice a l.length cap, .slice c q.length capc] 29)) := (Below.refl _ _).alloc (Nat.le_refl _) _
  have BX : Hid (BoxFw (W.alloc (.cells #[.int .i64 p, .slice a l.length cap, .slice c q.length capc] 29)) W.heap.size p a l.length cap c q.length capc) := Lib.hid (BoxFw.at rfl)
  cases hf : velB (p, l, q) v
  · have HE := Lib.hid (ret_int (k := .i64) (changeF_no (a := i) (b := j) (show (velB (p, l, q) v && _) = false by rw [hf, Bool.false_and])))
    go_enter Try.func25, Try.ntmps25
    go_wp2_with fail
    refine (l12Vector_at _ _ _ _ _ _ _ _ (H1.out.below B) (H2.out.below B) hs1 hs2 hs _ _ _ _ (HV.out.below B) hvn).mono ?_
    rintro e w1 ⟨rfl, b⟩
    replace B := B.step b
    clear b
    rw [hf]
    go_wp2_with fail
    go_ret
    exact ⟨HE.out.symm, B⟩
  obtain ⟨hp1, hp2, hp3, hp4, hp5, hp6⟩ := velB_bd hf
  clear hp6
  by_cases h1 : i < 0
  · have HE := Lib.hid (ret_int (k := .i64) (changeF_no (a := i) (b := j) (f := (p, l, q)) (v := v) (by simp; omega)))
    have hd1 : decide (i < 0) = true := decide_eq_true h1
    go_enter Try.func25, Try.ntmps25
    go_wp2_with fail
    refine (l12Vector_at _ _ _ _ _ _ _ _ (H1.out.below B) (H2.out.below B) hs1 hs2 hs _ _ _ _ (HV.out.below B) hvn).mono ?_
    rintro e w1 ⟨rfl, b⟩
    replace B := B.step b
    clear b
    rw [hf]
    go_wp2_with fail
    go_ret
    exact ⟨HE.out.symm, B⟩
  by_cases h2 : j < 0
  · have HE := Lib.hid (ret_int (k := .i64) (changeF_no (a := i) (b := j) (f := (p, l, q)) (v := v) (by simp; omega)))
    have hd1 : decide (i < 0) = false := decide_eq_false h1
    have hd2 : decide (j < 0) = true := decide_eq_true h2
    go_enter Try.func25, Try.ntmps25
    go_wp2_with fail
    refine (l12Vector_at _ _ _ _ _ _ _ _ (H1.out.below B) (H2.out.below B) hs1 hs2 hs _ _ _ _ (HV.out.below B) hvn).mono ?_
    rintro e w1 ⟨rfl, b⟩
    replace B := B.step b
    clear b
    rw [hf]
    go_wp2_with fail
    go_ret
    exact ⟨HE.out.symm, B⟩
  have hd1 : decide (i < 0) = false := decide_eq_false h1
  have hd2 : decide (j < 0) = false := decide_eq_false h2
  by_cases h3 : p ≤ i
  · have HE := Lib.hid (ret_int (k := .i64) (changeF_no (a := i) (b := j) (f := (p, l, q)) (v := v) (by simp; omega)))
    have hd3 : decide (p ≤ i) = true := decide_eq_true h3
    go_enter Try.func25, Try.ntmps25
    go_wp2_with fail
    refine (l12Vector_at _ _ _ _ _ _ _ _ (H1.out.below B) (H2.out.below B) hs1 hs2 hs _ _ _ _ (HV.out.below B) hvn).mono ?_
    rintro e w1 ⟨rfl, b⟩
    replace B := B.step b
    replace BX := Lib.hid (BX.out.below b)
    clear b
    rw [hf]
    obtain ⟨z, f0, f1, f2⟩ := BX.out
    go_wp2_with fail
    go_ret
    exact ⟨HE.out.symm, B⟩
  have hd3 : decide (p ≤ i) = false := decide_eq_false h3
  by_cases h4 : p ≤ j
  · have HE := Lib.hid (ret_int (k := .i64) (changeF_no (a := i) (b := j) (f := (p, l, q)) (v := v) (by simp; omega)))
    have hd4 : decide (p ≤ j) = true := decide_eq_true h4
    go_enter Try.func25, Try.ntmps25
    go_wp2_with fail
    refine (l12Vector_at _ _ _ _ _ _ _ _ (H1.out.below B) (H2.out.below B) hs1 hs2 hs _ _ _ _ (HV.out.below B) hvn).mono ?_
    rintro e w1 ⟨rfl, b⟩
    replace B := B.step b
    replace BX := Lib.hid (BX.out.below b)
    clear b
    rw [hf]
    obtain ⟨z, f0, f1, f2⟩ := BX.out
    go_wp2_with fail
    go_ret
    exact ⟨HE.out.symm, B⟩
  have hd4 : decide (p ≤ j) = false := decide_eq_false h4
  obtain ⟨i1, rfl⟩ := Int.eq_ofNat_of_zero_le (show 0 ≤ i by omega)
  obtain ⟨i2, rfl⟩ := Int.eq_ofNat_of_zero_le (show 0 ≤ j by omega)
  have hi1 : i1 < q.length := by omega
  have hi2 : i2 < q.length := by omega
  have hvl : v.length = n := HV.out.1
  have hb1 : 2 * i1 < n := by omega
  have hb2 : 2 * i1 + 1 < n := by omega
  have hb3 : 2 * i2 < n := by omega
  have hb4 : 2 * i2 + 1 < n := by omega
  clear hvl hd1 hd2 h1 h2
  go_enter Try.func25, Try.ntmps25
  go_wp2_with fail
  refine (l12Vector_at _ _ _ _ _ _ _ _ (H1.out.below B) (H2.out.below B) hs1 hs2 hs _ _ _ _ (HV.out.below B) hvn).mono ?_
  rintro e w1 ⟨rfl, b⟩
  replace B := B.step b
  replace BX := Lib.hid (BX.out.below b)
  clear b
  rw [hf]
  obtain ⟨z, f0, f1, f2⟩ := BX.out
  obtain ⟨bq, oq, ⟨x1, y1⟩, rfl, hbq, hx1, hxa, hya⟩ := (H2.out.below B).2 i1 hi1
  obtain ⟨bq', oq', ⟨x2, y2⟩, hab, hbq', hx2, hxb, hyb⟩ := (H2.out.below B).2 i2 hi2
  simp only [Option.some.injEq, Addr.mk.injEq, and_true] at hab
  obtain ⟨rfl, rfl⟩ := hab
  dsimp only at hxa hya hxb hyb
  obtain ⟨bv, ov, u1, rfl, hbv, hu1, hc1⟩ := (HV.out.below B).2 _ hb1
  obtain ⟨bv', ov', t1, hab, hbv', ht1, hc2⟩ := (HV.out.below B).2 _ hb2
  simp only [Option.some.injEq, Addr.mk.injEq, and_true] at hab
  obtain ⟨rfl, rfl⟩ := hab
  obtain ⟨bv'', ov'', u2, hab, hbv'', hu2, hc3⟩ := (HV.out.below B).2 _ hb3
  simp only [Option.some.injEq, Addr.mk.injEq, and_true] at hab
  obtain ⟨rfl, rfl⟩ := hab
  obtain ⟨bv''', ov''', t2, hab, hbv''', ht2, hc4⟩ := (HV.out.below B).2 _ hb4
  simp only [Option.some.injEq, Addr.mk.injEq, and_true] at hab
  obtain ⟨rfl, rfl⟩ := hab
  have HE := Lib.hid (ret_int (k := .i64) (show changeF (p, l, q) v (i1 : Int) (i2 : Int) = chg x1 y1 x2 y2 u1 t1 u2 t2 by
    have ha : decide ((0 : Int) ≤ (i1 : Int)) = true := decide_eq_true (by omega)
    have hb : decide ((0 : Int) ≤ (i2 : Int)) = true := decide_eq_true (by omega)
    have hc : decide ((i1 : Int) < p) = true := decide_eq_true (by omega)
    have hd : decide ((i2 : Int) < p) = true := decide_eq_true (by omega)
    simp only [changeF, hf, ha, hb, hc, hd, Bool.and_self, if_true, Int.toNat_natCast, plAt, hx1, hx2, hu1, ht1, hu2, ht2, Option.getD_some]))
  clear hx1 hx2 hu1 ht1 hu2 ht2
  have hj1 : (2 * (i1 : Int)).toNat = 2 * i1 := by omega
  have hj2 : (2 * (i1 : Int) + 1).toNat = 2 * i1 + 1 := by omega
  have hj3 : (2 * (i2 : Int)).toNat = 2 * i2 := by omega
  have hj4 : (2 * (i2 : Int) + 1).toNat = 2 * i2 + 1 := by omega
  have hm1 : (2 * (i1 : Int)) < (n : Int) := by omega
  have hm2 : (2 * (i1 : Int) + 1) < (n : Int) := by omega
  have hm3 : (2 * (i2 : Int)) < (n : Int) := by omega
  have hm4 : (2 * (i2 : Int) + 1) < (n : Int) := by omega
  have hm5 : 0 ≤ (2 * (i1 : Int)) := by omega
  have hm6 : 0 ≤ (2 * (i1 : Int) + 1) := by omega
  have hm7 : 0 ≤ (2 * (i2 : Int)) := by omega
  have hm8 : 0 ≤ (2 * (i2 : Int) + 1) := by omega
  have hk1 : (i1 : Int) < (q.length : Int) := by omega
  have hk2 : (i2 : Int) < (q.length : Int) := by omega
  have hw1 := IntWalk.i64_in (2 * (i1 : Int)) (by omega)
  have hw2 := IntWalk.i64_in (2 * (i1 : Int) + 1) (by omega)
  have hw3 := IntWalk.i64_in (2 * (i2 : Int)) (by omega)
  have hw4 := IntWalk.i64_in (2 * (i2 : Int) + 1) (by omega)
  go_wp2_with fail
  go_quiet (fail)
  go_wp2_with fail
  go_ret
  exact ⟨HE.out.symm, below_drewN B _⟩
end Go.Proofs.Ytfbmpkdjhhcnpaa

namespace Go.Proofs.Ytfbmpkdjhhcnpaa
open Go.RowKit
set_option maxRecDepth 100000
set_option linter.unusedVariables false
set_option linter.unusedSimpArgs false

set_option maxHeartbeats 1000000 in
theorem has_any (W : World) (p : Int) (s : Value) (hs : ∃ a n cap, s = .slice a n cap) (x : Int) (hp1 : 1 ≤ p) (hp2 : p ≤ 8) :
    Calls Try.prog 40 #[.agg #[.int .i64 p, s], .int .i64 x] W fun e w' => e = .returned (.bool (inB x 0 (p - 1))) ∧ Below W.heap.size W w' := by
  obtain ⟨a, n, cap, rfl⟩ := hs
  go_enter Try.func40, Try.ntmps40
  go_wp2_with (go_at_call 59; refine (within_any _ _ _ _).mono ?_; rintro e w' ⟨rfl, rfl⟩)
  go_ret
  exact ⟨rfl, (Below.refl _ _).alloc (Nat.le_refl _) _⟩

set_option maxHeartbeats 8000000 in
theorem implChange_at (W : World) (p : Int) (a : Option Addr) (cap : Nat) (l : List BarT) (c : Option Addr) (capc : Nat) (q : List PlaceT) (h : BarsAt W a l.length l) (hq : PlacesAt W c q.length q) (hs : l.length + q.length ≤ 1048576)
    (va : Option Addr) (n vcap : Nat) (v : List Int) (hv : IntsAt W va n v) (hvn : n ≤ 1099511627776) (i j : Int) :
    Calls Try.prog 24 #[.agg #[.int .i64 p, .slice a l.length cap, .slice c q.length capc], .slice va n vcap, .int .i64 i, .int .i64 j] W fun e w' => e = .returned (.int .i64 (changeF (p, l, q) v i j)) ∧ Below W.heap.size W w' := by
  have H1 := Lib.hid h
  have H2 := Lib.hid hq
  have HV := Lib.hid hv
  clear h hq hv
  have hs1 : l.length ≤ 1048576 := by omega
  have hs2 : q.length ≤ 1048576 := by omega
  have B : Below W.heap.size W (W.alloc (.cells #[.int .i64 p, .slice a l.length cap, .slice c q.length capc] 29)) := (Below.refl _ _).alloc (Nat.le_refl _) _
  have BX : Hid (BoxFw (W.alloc (.cells #[.int .i64 p, .slice a l.length cap, .slice c q.length capc] 29)) W.heap.size p a l.length cap c q.length capc) := Lib.hid (BoxFw.at rfl)
  cases hf : velB (p, l, q) v
  · have HE := Lib.hid (ret_int (k := .i64) (changeF_no (a := i) (b := j) (show (velB (p, l, q) v && _) = false by rw [hf, Bool.false_and])))
    go_enter Try.func24, Try.ntmps24
    go_wp2_with fail
    refine (isVelocity_at _ _ _ _ _ _ _ _ (H1.out.below B) (H2.out.below B) hs1 hs2 hs _ _ _ _ (HV.out.below B) hvn).mono ?_
    rintro e w1 ⟨rfl, b⟩
    replace B := B.step b
    clear b
    rw [hf]
    go_wp2_with fail
    go_ret
    exact ⟨HE.out.symm, B⟩
  obtain ⟨hp1, hp2, hp3, hp4, hp5, hp6⟩ := velB_bd hf
  clear hp6
  cases h1 : inB i 0 (p - 1)
  · have HE := Lib.hid (ret_int (k := .i64) (changeF_no (a := i) (b := j) (f := (p, l, q)) (v := v) (by simp [inB] at h1; simp; omega)))
    go_enter Try.func24, Try.ntmps24
    go_wp2_with fail
    refine (isVelocity_at _ _ _ _ _ _ _ _ (H1.out.below B) (H2.out.below B) hs1 hs2 hs _ _ _ _ (HV.out.below B) hvn).mono ?_
    rintro e w1 ⟨rfl, b⟩
    replace B := B.step b
    replace BX := Lib.hid (BX.out.below b)
    clear b
    rw [hf]
    obtain ⟨z, f0, f1, f2⟩ := BX.out
    go_wp2_with fail
    refine (has_any _ _ _ ⟨_, _, _, rfl⟩ _ hp1 (by omega)).mono ?_
    rintro e w2 ⟨rfl, b⟩
    replace B := B.step b
    clear b
    rw [h1]
    go_wp2_with fail
    go_ret
    exact ⟨HE.out.symm, B⟩
  cases h2 : inB j 0 (p - 1)
  · have HE := Lib.hid (ret_int (k := .i64) (changeF_no (a := i) (b := j) (f := (p, l, q)) (v := v) (by simp [inB] at h2; simp; omega)))
    go_enter Try.func24, Try.ntmps24
    go_wp2_with fail
    refine (isVelocity_at _ _ _ _ _ _ _ _ (H1.out.below B) (H2.out.below B) hs1 hs2 hs _ _ _ _ (HV.out.below B) hvn).mono ?_
    rintro e w1 ⟨rfl, b⟩
    replace B := B.step b
    replace BX := Lib.hid (BX.out.below b)
    clear b
    rw [hf]
    obtain ⟨z, f0, f1, f2⟩ := BX.out
    go_wp2_with fail
    refine (has_any _ _ _ ⟨_, _, _, rfl⟩ _ hp1 (by omega)).mono ?_
    rintro e w2 ⟨rfl, b⟩
    replace B := B.step b
    clear z f0 f1 f2
    replace BX := Lib.hid (BX.out.below b)
    clear b
    obtain ⟨z, f0, f1, f2⟩ := BX.out
    rw [h1]
    go_wp2_with fail
    refine (has_any _ _ _ ⟨_, _, _, rfl⟩ _ hp1 (by omega)).mono ?_
    rintro e w3 ⟨rfl, b⟩
    replace B := B.step b
    clear b
    rw [h2]
    go_wp2_with fail
    go_ret
    exact ⟨HE.out.symm, B⟩
  have hh : 0 ≤ i ∧ i < p ∧ 0 ≤ j ∧ j < p := by simp [inB] at h1 h2; omega
  obtain ⟨hh1, hh2, hh3, hh4⟩ := hh
  obtain ⟨i1, rfl⟩ := Int.eq_ofNat_of_zero_le (show 0 ≤ i by omega)
  obtain ⟨i2, rfl⟩ := Int.eq_ofNat_of_zero_le (show 0 ≤ j by omega)
  have hi1 : i1 < q.length := by omega
  have hi2 : i2 < q.length := by omega
  have hvl : v.length = n := HV.out.1
  have hb1 : 2 * i1 < n := by omega
  have hb2 : 2 * i1 + 1 < n := by omega
  have hb3 : 2 * i2 < n := by omega
  have hb4 : 2 * i2 + 1 < n := by omega
  clear hvl
  go_enter Try.func24, Try.ntmps24
  go_wp2_with fail
  refine (isVelocity_at _ _ _ _ _ _ _ _ (H1.out.below B) (H2.out.below B) hs1 hs2 hs _ _ _ _ (HV.out.below B) hvn).mono ?_
  rintro e w1 ⟨rfl, b⟩
  replace B := B.step b
  replace BX := Lib.hid (BX.out.below b)
  clear b
  rw [hf]
  obtain ⟨z, f0, f1, f2⟩ := BX.out
  go_wp2_with fail
  refine (has_any _ _ _ ⟨_, _, _, rfl⟩ _ hp1 (by omega)).mono ?_
  rintro e w2 ⟨rfl, b⟩
  replace B := B.step b
  clear z f0 f1 f2
  replace BX := Lib.hid (BX.out.below b)
  clear b
  obtain ⟨z, f0, f1, f2⟩ := BX.out
  rw [h1]
  go_wp2_with fail
  refine (has_any _ _ _ ⟨_, _, _, rfl⟩ _ hp1 (by omega)).mono ?_
  rintro e w3 ⟨rfl, b⟩
  replace B := B.step b
  clear z f0 f1 f2
  replace BX := Lib.hid (BX.out.below b)
  clear b
  obtain ⟨z, f0, f1, f2⟩ := BX.out
  rw [h2]
  obtain ⟨bq, oq, ⟨x1, y1⟩, rfl, hbq, hx1, hxa, hya⟩ := (H2.out.below B).2 i1 hi1
  obtain ⟨bq', oq', ⟨x2, y2⟩, hab, hbq', hx2, hxb, hyb⟩ := (H2.out.below B).2 i2 hi2
  simp only [Option.some.injEq, Addr.mk.injEq, and_true] at hab
  obtain ⟨rfl, rfl⟩ := hab
  dsimp only at hxa hya hxb hyb
  obtain ⟨bv, ov, u1, rfl, hbv, hu1, hc1⟩ := (HV.out.below B).2 _ hb1
  obtain ⟨bv', ov', t1, hab, hbv', ht1, hc2⟩ := (HV.out.below B).2 _ hb2
  simp only [Option.some.injEq, Addr.mk.injEq, and_true] at hab
  obtain ⟨rfl, rfl⟩ := hab
  obtain ⟨bv'', ov'', u2, hab, hbv'', hu2, hc3⟩ := (HV.out.below B).2 _ hb3
  simp only [Option.some.injEq, Addr.mk.injEq, and_true] at hab
  obtain ⟨rfl, rfl⟩ := hab
  obtain ⟨bv''', ov''', t2, hab, hbv''', ht2, hc4⟩ := (HV.out.below B).2 _ hb4
  simp only [Option.some.injEq, Addr.mk.injEq, and_true] at hab
  obtain ⟨rfl, rfl⟩ := hab
  have HE := Lib.hid (ret_int (k := .i64) (show changeF (p, l, q) v (i1 : Int) (i2 : Int) = chg x1 y1 x2 y2 u1 t1 u2 t2 by
    have ha : decide ((0 : Int) ≤ (i1 : Int)) = true := decide_eq_true (by omega)
    have hb : decide ((0 : Int) ≤ (i2 : Int)) = true := decide_eq_true (by omega)
    have hc : decide ((i1 : Int) < p) = true := decide_eq_true (by omega)
    have hd : decide ((i2 : Int) < p) = true := decide_eq_true (by omega)
    simp only [changeF, hf, ha, hb, hc, hd, Bool.and_self, if_true, Int.toNat_natCast, plAt, hx1, hx2, hu1, ht1, hu2, ht2, Option.getD_some]))
  clear hx1 hx2 hu1 ht1 hu2 ht2
  have hj1 : (2 * (i1 : Int)).toNat = 2 * i1 := by omega
  have hj2 : (2 * (i1 : Int) + 1).toNat = 2 * i1 + 1 := by omega
  have hj3 : (2 * (i2 : Int)).toNat = 2 * i2 := by omega
  have hj4 : (2 * (i2 : Int) + 1).toNat = 2 * i2 + 1 := by omega
  have hm1 : (2 * (i1 : Int)) < (n : Int) := by omega
  have hm2 : (2 * (i1 : Int) + 1) < (n : Int) := by omega
  have hm3 : (2 * (i2 : Int)) < (n : Int) := by omega
  have hm4 : (2 * (i2 : Int) + 1) < (n : Int) := by omega
  have hm5 : 0 ≤ (2 * (i1 : Int)) := by omega
  have hm6 : 0 ≤ (2 * (i1 : Int) + 1) := by omega
  have hm7 : 0 ≤ (2 * (i2 : Int)) := by omega
  have hm8 : 0 ≤ (2 * (i2 : Int) + 1) := by omega
  have hk1 : (i1 : Int) < (q.length : Int) := by omega
  have hk2 : (i2 : Int) < (q.length : Int) := by omega
  have hw1 := IntWalk.i64_in (2 * (i1 : Int)) (by omega)
  have hw2 := IntWalk.i64_in (2 * (i1 : Int) + 1) (by omega)
  have hw3 := IntWalk.i64_in (2 * (i2 : Int)) (by omega)
  have hw4 := IntWalk.i64_in (2 * (i2 : Int) + 1) (by omega)
  go_wp2_with fail
  have e1 : bq < w3.drew.heap.size := hbq
  have e2 : W.heap.size < w3.drew.heap.size := z
  have e3 : bq < w3.drew.heap.size + 1 := by omega
  have e4 : W.heap.size < w3.drew.heap.size + 1 := by omega
  have e5 : bq < w3.drew.heap.size + 1 + 1 := by omega
  have e6 : W.heap.size < w3.drew.heap.size + 1 + 1 := by omega
  have d2 : w3.drew.cell? ⟨W.heap.size, 2, none⟩ = some (.slice (some ⟨bq, oq, none⟩) q.length capc) := f2
  have dxa : w3.drew.cell? ⟨bq, oq + i1 * 2, none⟩ = some (.int .i64 x1) := hxa
  have dya : w3.drew.cell? ⟨bq, oq + i1 * 2 + 1, none⟩ = some (.int .i64 y1) := hya
  have dxb : w3.drew.cell? ⟨bq, oq + i2 * 2, none⟩ = some (.int .i64 x2) := hxb
  have dyb : w3.drew.cell? ⟨bq, oq + i2 * 2 + 1, none⟩ = some (.int .i64 y2) := hyb
  go_region_held3 (fun w' => w'.cell? ⟨W.heap.size, 2, none⟩ = some (.slice (some ⟨bq, oq, none⟩) q.length capc) ∧ w'.cell? ⟨bq, oq + i1 * 2, none⟩ = some (.int .i64 x1) ∧ w'.cell? ⟨bq, oq + i1 * 2 + 1, none⟩ = some (.int .i64 y1) ∧ w'.cell? ⟨bq, oq + i2 * 2, none⟩ = some (.int .i64 x2) ∧ w'.cell? ⟨bq, oq + i2 * 2 + 1, none⟩ = some (.int .i64 y2))
    (first | (with_reducible exact ⟨d2, dxa, dya, dxb, dyb⟩) | (go_keep)) (fail)
  all_goals
    have B2 := fun o1 o2 => ((B.alloc (Nat.le_of_lt z) o1).alloc (show W.heap.size ≤ (w3.alloc o1).heap.size by simp; omega) o2).drew
    have g1 : bv < w3.heap.size + 1 := by omega
    have g2 : bv < w3.heap.size + 1 + 1 := by omega
    go_wp2_with fail
    go_quiet (fail)
    go_wp2_with fail
    go_ret
    exact ⟨HE.out.symm, below_drewN (B2 _ _) _⟩

theorem spec_ChangeOf (W : World) (v0 : Value) (f : FwT) (h : IsFw W v0 f) (v1 : Value) (v : List Int) (hv : IsInts W v1 v) (i j : Int) (hn : szFw f ≤ 1048576) (hvn : v.length ≤ 1048576) :
    Calls Try.prog 25 #[v0, v1, .int .i64 i, .int .i64 j] W fun e w' => e = .returned (.int .i64 (changeF f v i j)) ∧ Below W.heap.size W w' := by
  obtain ⟨p, l, q⟩ := f
  obtain ⟨a, cap, c, capc, rfl, hi, hj⟩ := h
  obtain ⟨va, vc, rfl, hvi⟩ := hv
  exact specChange_at _ _ _ _ _ _ _ _ hi hj hn _ _ _ _ hvi (by omega) i j
theorem impl_ChangeOf (W : World) (v0 : Value) (f : FwT) (h : IsFw W v0 f) (v1 : Value) (v : List Int) (hv : IsInts W v1 v) (i j : Int) (hn : szFw f ≤ 1048576) (hvn : v.length ≤ 1048576) :
    Calls Try.prog 24 #[v0, v1, .int .i64 i, .int .i64 j] W fun e w' => e = .returned (.int .i64 (changeF f v i j)) ∧ Below W.heap.size W w' := by
  obtain ⟨p, l, q⟩ := f
  obtain ⟨a, cap, c, capc, rfl, hi, hj⟩ := h
  obtain ⟨va, vc, rfl, hvi⟩ := hv
  exact implChange_at _ _ _ _ _ _ _ _ hi hj hn _ _ _ _ hvi (by omega) i j
end Go.Proofs.Ytfbmpkdjhhcnpaa

