/- FixMotion of the program, and both contracts. No condition but sizes. -/
import Derived.Test.YtfbmpkdjhhcnpaaMoP31
import Derived.Test.YtfbmpkdjhhcnpaaMoP30
import Derived.Deep.RegionHeld3
import Derived.BigRegion
import Derived.Test.YtfbmpkdjhhcnpaaMoP26
namespace Go.Proofs.Ytfbmpkdjhhcnpaa
open Go.RowKit Gr
set_option maxRecDepth 100000
set_option linter.unusedVariables false
set_option linter.unusedSimpArgs false

set_option maxHeartbeats 4000000 in
theorem implFix_at (W : World) (p : Int) (a : Option Addr) (cap : Nat) (l : List BarT) (c : Option Addr) (capc : Nat) (q : List PlaceT) (h : BarsAt W a l.length l) (hq : PlacesAt W c q.length q) (hs : l.length + q.length ≤ 1048576) (va : Option Addr) (n vcap : Nat) (v : List Int) (hv : IntsAt W va n v) (hvn : n ≤ 1048576) (i : Int) :
    Calls Try.prog 16 #[.agg #[.int .i64 p, .slice a l.length cap, .slice c q.length capc], .slice va n vcap, .int .i64 i] W fun e w' => ∃ vo, e = .returned (.tuple #[vo, .bool (fixOk (p, l, q) v i)]) ∧ OwnInts w' W.heap.size vo (fixF (p, l, q) v i) ∧ Below W.heap.size W w' := by
  have hwd := @Wd.cells
  have HFw : Hid (IsFw W (.agg #[.int .i64 p, .slice a l.length cap, .slice c q.length capc]) (p, l, q)) := Lib.hid ⟨a, cap, c, capc, rfl, h, hq⟩
  have H1 := Lib.hid h
  have H2 := Lib.hid hq
  clear h hq
  have hsz : szFw (p, l, q) ≤ 1048576 := hs
  have hs1 : l.length ≤ 1048576 := by omega
  have hs2 : q.length ≤ 1048576 := by omega
  have B : Below W.heap.size W (W.alloc (.cells #[.int .i64 p, .slice a l.length cap, .slice c q.length capc] 29)) := (Below.refl _ _).alloc (Nat.le_refl _) _
  have BX : Hid (BoxFw (W.alloc (.cells #[.int .i64 p, .slice a l.length cap, .slice c q.length capc] 29)) W.heap.size p a l.length cap c q.length capc) := Lib.hid (BoxFw.at rfl)
  obtain rfl := hv.1
  have HV := Lib.hid hv
  clear hv
  have cM := fun (w1 : World) (b : Below W.heap.size W w1) => impl_IsMotion w1 _ (p, l, q) (HFw.out.below b) (.slice va v.length vcap) v ⟨_, _, rfl, HV.out.below b⟩ hsz hvn
  cases hm : motB (p, l, q) v
  · have HE := Lib.hid (show fixOk (p, l, q) v i = false by simp only [fixOk, hm, Bool.false_and])
    rw [hm] at cM
    have HC := Lib.hid cM
    clear cM
    go_enter Try.func16, Try.ntmps16
    go_wp2_with fail
    refine (HC.out _ B).mono ?_
    rintro e w1 ⟨rfl, b⟩
    have B1 := B.step b
    clear b
    go_wp2_with fail
    go_ret2
    exact ⟨_, by rw [HE.out]; rfl, by rw [fixF_no HE.out]; exact ownsRow_base (OwnInts.made _ _ (Nat.le_refl _)) B1.size, B1.step ((Below.refl _ _).alloc (Nat.le_refl _) _)⟩
  rw [hm] at cM
  have HC := Lib.hid cM
  clear cM
  obtain ⟨hp1, hp2, hp3, hp4, hp5, hp6⟩ := velB_bd (motB_vel hm)
  have HSM := Lib.hid (motB_small hm)
  obtain ⟨P, rfl⟩ := Int.eq_ofNat_of_zero_le (show 0 ≤ p by omega)
  have HVL := Lib.hid (show v.length = 2 * P by omega)
  have HQL := Lib.hid (show q.length = P by omega)
  clear hp3 hp4 hp6
  cases h1 : inB i 0 ((P : Int) - 1)
  · have HE := Lib.hid (show fixOk ((P : Int), l, q) v i = false by simp only [fixOk, hm, Bool.true_and]; simp [inB] at h1; simp; omega)
    clear hm
    go_enter Try.func16, Try.ntmps16
    go_wp2_with fail
    refine (HC.out _ B).mono ?_
    rintro e w1 ⟨rfl, b⟩
    have B1 := B.step b
    have BX1 := Lib.hid (BX.out.below b)
    clear b
    obtain ⟨zBX, fBX0, fBX1, fBX2⟩ := BX1.out
    go_wp2_with fail
    refine (has_any _ _ _ ⟨_, _, _, rfl⟩ _ hp1 (by omega)).mono ?_
    rintro e w2 ⟨rfl, b⟩
    replace B1 := B1.step b
    clear b
    rw [h1]
    go_wp2_with fail
    go_ret2
    exact ⟨_, by rw [HE.out]; rfl, by rw [fixF_no HE.out]; exact ownsRow_base (OwnInts.made _ _ (Nat.le_refl _)) B1.size, B1.step ((Below.refl _ _).alloc (Nat.le_refl _) _)⟩
  have hh : 0 ≤ i ∧ i < P := by simp [inB] at h1; omega
  obtain ⟨I, rfl⟩ := Int.eq_ofNat_of_zero_le hh.1
  have HE := Lib.hid (show fixOk ((P : Int), l, q) v I = true by simp only [fixOk, hm, Bool.true_and]; simp; omega)
  have HFX := Lib.hid (fixF_yes HE.out)
  have hIP : I < P := by omega
  clear hm hh
  go_enter Try.func16, Try.ntmps16
  go_wp2_with fail
  refine (HC.out _ B).mono ?_
  rintro e w1 ⟨rfl, b⟩
  replace B := B.step b
  replace BX := Lib.hid (BX.out.below b)
  clear b
  obtain ⟨zBX, fBX0, fBX1, fBX2⟩ := BX.out
  go_wp2_with fail
  refine (has_any _ _ _ ⟨_, _, _, rfl⟩ _ hp1 (by omega)).mono ?_
  rintro e w2 ⟨rfl, b⟩
  replace B := B.step b
  clear zBX fBX0 fBX1 fBX2
  replace BX := Lib.hid (BX.out.below b)
  clear b
  rw [h1]
  go_wp2_with fail
  refine (copyInts_any _ _ _ v w2 (HV.out.below B) (by omega)).mono ?_
  rintro e u ⟨vo, rfl, ho, b⟩
  replace BX := Lib.hid (BX.out.below b)
  have hvl := HVL.out
  have ho2 : ∃ g cg, vo = .slice (some ⟨g, 0, none⟩) (2 * P) cg ∧ OwnInts u w2.heap.size (.slice (some ⟨g, 0, none⟩) (2 * P) cg) (rowL (2 * P) (fixTo v I 0)) ∧ w2.heap.size ≤ g := by
    have e1 : rowL (2 * P) (fixTo v I 0) = v := by
      rw [← rowL_copy hvl]
      refine rowL_congr fun k _ => ?_
      rw [fixTo_zero, rowL_copy hvl]
    rw [e1]
    have h2 := ho.2
    rcases h2 with ⟨_, h0⟩ | ⟨g, cg, cur, rfl, hb, hg, _⟩
    · omega
    · exact ⟨g, cg, by rw [hvl], by rw [← hvl]; exact ho, hb⟩
  obtain ⟨g, cg, rfl, hO, hgb⟩ := ho2
  have HO := Lib.hid hO
  clear hO ho hvl
  obtain ⟨zBX, fBX0, fBX1, fBX2⟩ := BX.out
  have hzb := b.size
  have HB2 := Lib.hid b
  clear b
  go_wp2_with fail
  clear zBX fBX0 fBX1 fBX2
  go_loopw [27] (fun i w9 => ∃ k : Nat, k ≤ q.length ∧ i = .int .i64 k ∧ OwnInts w9 w2.heap.size (.slice (some ⟨g, 0, none⟩) (2 * P) cg) (rowL (2 * P) (fixTo v I k)) ∧ Below w2.heap.size w2 w9) (fun i _ => q.length - (intOf i).toNat)
  case atStart => exact ⟨0, Nat.zero_le _, rfl, HO.out, HB2.out⟩
  case round =>
    clear HO HB2
    obtain ⟨k, hk, rfl, ho, hb⟩ := hrel
    have HO := Lib.hid ho
    clear ho
    have hbz := hb.size
    by_cases hlt : k < q.length
    · have hvl := HVL.out
      have hql := HQL.out
      obtain ⟨bv, ov, u2, rfl, hbv, hu2, hc3⟩ := (HV.out.below B).2 (2 * I) (by omega)
      obtain ⟨bv', ov', t2, hab, hbv', ht2, hc4⟩ := (HV.out.below B).2 (2 * I + 1) (by omega)
      simp only [Option.some.injEq, Addr.mk.injEq, and_true] at hab
      obtain ⟨rfl, rfl⟩ := hab
      obtain ⟨u1, hu1⟩ : ∃ x, v[2 * k]? = some x := ⟨_, List.getElem?_eq_getElem (by omega)⟩
      obtain ⟨t1, ht1⟩ : ∃ x, v[2 * k + 1]? = some x := ⟨_, List.getElem?_eq_getElem (by omega)⟩
      have HU := Lib.hid (And.intro (And.intro (vAt_get hu1) (vAt_get hu2)) (And.intro (vAt_get ht1) (vAt_get ht2)))
      have n1 := HSM.out u1 (List.mem_of_getElem? hu1)
      have n2 := HSM.out u2 (List.mem_of_getElem? hu2)
      have n3 := HSM.out t1 (List.mem_of_getElem? ht1)
      have n4 := HSM.out t2 (List.mem_of_getElem? ht2)
      clear hu1 hu2 ht1 ht2
      have e1 : fixTo v I k (2 * k) = u1 := by unfold fixTo; rw [if_neg (by omega), HU.out.1.1]
      have e2 : fixTo v I k (2 * k + 1) = t1 := by unfold fixTo; rw [if_neg (by omega), HU.out.2.1]
      have k1 : 2 * k < 2 * P := by omega
      have k2 : 2 * k + 1 < 2 * P := by omega
      have hc1 := HO.out.rowCell k1
      rw [e1] at hc1
      have hf1 := HO.out.rowFroz (2 * k)
      have O1 := Lib.hid (HO.out.setRow (2 * k) (u1 - u2))
      have hc2 := O1.out.rowCell k2
      rw [if_neg (by omega), e2] at hc2
      have hf2 := O1.out.rowFroz (2 * k + 1)
      have O2 := Lib.hid (O1.out.setRow (2 * k + 1) (t1 - t2))
      have hne : g ≠ bv := by omega
      have hb1 : Below w2.heap.size w2 _ := hb.setCell (p := ⟨g, 2 * k, none⟩) hgb (.int .i64 (u1 - u2))
      have hb2 := Lib.hid (hb1.setCell (p := ⟨g, 2 * k + 1, none⟩) hgb (.int .i64 (t1 - t2)))
      have hv3 := (hb.cell (p := ⟨bv, ov + 2 * I, none⟩) hbv).trans hc3
      have hv4 := (hb1.cell (p := ⟨bv, ov + (2 * I + 1), none⟩) hbv).trans hc4
      have hgz : g < wr.heap.size := (HO.out.lt g rfl).2
      have hj1 : (2 * (k : Int)).toNat = 2 * k := by omega
      have hj2 : (2 * (k : Int) + 1).toNat = 2 * k + 1 := by omega
      have hj3 : (2 * (I : Int)).toNat = 2 * I := by omega
      have hj4 : (2 * (I : Int) + 1).toNat = 2 * I + 1 := by omega
      have hm1 : (2 * (k : Int)) < 2 * (P : Int) := by omega
      have hm2 : (2 * (k : Int) + 1) < 2 * (P : Int) := by omega
      have hm3 : (2 * (I : Int)) < (v.length : Int) := by omega
      have hm4 : (2 * (I : Int) + 1) < (v.length : Int) := by omega
      have hm5 : 0 ≤ (2 * (k : Int)) := by omega
      have hm6 : 0 ≤ (2 * (k : Int) + 1) := by omega
      have hm7 : 0 ≤ (2 * (I : Int)) := by omega
      have hm8 : 0 ≤ (2 * (I : Int) + 1) := by omega
      have hw1 := IntWalk.i64_in (2 * (k : Int)) (by omega)
      have hw2 := IntWalk.i64_in (2 * (k : Int) + 1) (by omega)
      have hw3 := IntWalk.i64_in (2 * (I : Int)) (by omega)
      have hw4 := IntWalk.i64_in (2 * (I : Int) + 1) (by omega)
      have hw5 := IntWalk.i64_in (u1 - u2) (by omega)
      have hw6 := IntWalk.i64_in (t1 - t2) (by omega)
      clear hvl hql e1 e2
      go_upto_region 7 with (fail)
      go_region
      all_goals
        go_upto_region 8 with (fail)
        go_region
      all_goals
        go_wp2_with fail
        go_roundw
        case rel =>
          refine ⟨k + 1, by omega, by go_num, ?_, hb2.out.drew.drew⟩
          have h9 := O2.out
          rw [show (fun q => if q = 2 * k + 1 then t1 - t2 else if q = 2 * k then u1 - u2 else fixTo v I k q) = fixTo v I (k + 1) from funext fun q => by rw [fixTo_succ, HU.out.1.1, HU.out.1.2, HU.out.2.1, HU.out.2.2]] at h9
          exact h9
        case measure => simp [intOf]; omega
    · obtain rfl : k = q.length := by omega
      have hql := HQL.out
      have HLL := Lib.hid (show (fixL v I P).length = 2 * P by unfold fixL; rw [rowL_length])
      go_wp2_with fail
      go_ret2
      refine ⟨_, by rw [HE.out]; rfl, ?_, B.step hb⟩
      rw [HFX.out]
      simp only [Int.toNat_natCast]
      have h9 := ownsRow_base HO.out B.size
      rw [hql] at h9
      exact h9

theorem spec_FixMotion (W : World) (v0 : Value) (f : FwT) (h : IsFw W v0 f) (v1 : Value) (w : List Int) (hv : IsInts W v1 w) (i : Int) (hn : szFw f ≤ 1048576) (hvn : w.length ≤ 1048576) :
    Calls Try.prog 17 #[v0, v1, .int .i64 i] W fun e w' => ∃ vo, e = .returned (.tuple #[vo, .bool (fixOk f w i)]) ∧ OwnInts w' W.heap.size vo (fixF f w i) ∧ Below W.heap.size W w' := by
  obtain ⟨p, l, q⟩ := f
  obtain ⟨a, cap, c, capc, rfl, hi, hj⟩ := h
  obtain ⟨va, vc, rfl, hvi⟩ := hv
  exact specFix_at _ _ _ _ _ _ _ _ hi hj hn _ _ _ _ hvi hvn i
theorem impl_FixMotion (W : World) (v0 : Value) (f : FwT) (h : IsFw W v0 f) (v1 : Value) (w : List Int) (hv : IsInts W v1 w) (i : Int) (hn : szFw f ≤ 1048576) (hvn : w.length ≤ 1048576) :
    Calls Try.prog 16 #[v0, v1, .int .i64 i] W fun e w' => ∃ vo, e = .returned (.tuple #[vo, .bool (fixOk f w i)]) ∧ OwnInts w' W.heap.size vo (fixF f w i) ∧ Below W.heap.size W w' := by
  obtain ⟨p, l, q⟩ := f
  obtain ⟨a, cap, c, capc, rfl, hi, hj⟩ := h
  obtain ⟨va, vc, rfl, hvi⟩ := hv
  exact implFix_at _ _ _ _ _ _ _ _ hi hj hn _ _ _ _ hvi hvn i
end Go.Proofs.Ytfbmpkdjhhcnpaa

namespace Gr
set_option linter.unusedVariables false
theorem dt_zero (n : Nat) (t : Nat → Int) : dt n t (fun _ => 0) = 0 := by
  induction n with
  | zero => rfl
  | succ n ih => simp only [dt, ih, Int.mul_zero, Int.add_zero]
theorem dt_ne {n p : Nat} (h : n ≤ p) (t f : Nat → Int) (v : Int) : dt n t (fun k => if k = p then v else f k) = dt n t f := by
  induction n with
  | zero => rfl
  | succ n ih => simp only [dt, ih (by omega), if_neg (show ¬ n = p by omega)]
theorem dt_upd {n p : Nat} (h : p < n) (t f : Nat → Int) (v : Int) : dt n t (fun k => if k = p then v else f k) = dt n t f - t p * f p + t p * v := by
  induction n with
  | zero => omega
  | succ n ih =>
    by_cases e : n = p
    · subst e
      simp only [dt, dt_ne (Nat.le_refl n), if_pos]
      omega
    · simp only [dt, ih (by omega), if_neg e]
      omega
theorem sq_zero (n : Nat) : sq n (fun _ => 0) = 0 := by
  induction n with
  | zero => rfl
  | succ n ih => simp only [sq, ih]; rfl
theorem sq_ne {n p : Nat} (h : n ≤ p) (f : Nat → Int) (v : Int) : sq n (fun k => if k = p then v else f k) = sq n f := by
  induction n with
  | zero => rfl
  | succ n ih => simp only [sq, ih (by omega), if_neg (show ¬ n = p by omega)]
theorem sq_upd {n p : Nat} (h : p < n) (f : Nat → Int) (v : Int) : sq n (fun k => if k = p then v else f k) = sq n f - f p * f p + v * v := by
  induction n with
  | zero => omega
  | succ n ih =>
    by_cases e : n = p
    · subst e
      simp only [sq, sq_ne (Nat.le_refl n), if_pos]
      omega
    · simp only [sq, ih (by omega), if_neg e]
      omega
theorem sq_ext {n : Nat} {f g : Nat → Int} (h : ∀ k, k < n → f k = g k) : sq n f = sq n g := by
  induction n with
  | zero => rfl
  | succ n ih => simp only [sq, ih (fun k hk => h k (by omega)), h n (by omega)]
theorem dt_ext {n : Nat} {t f g : Nat → Int} (h : ∀ k, k < n → f k = g k) : dt n t f = dt n t g := by
  induction n with
  | zero => rfl
  | succ n ih => simp only [dt, ih (fun k hk => h k (by omega)), h n (by omega)]
def tr0 (k : Nat) : Int := if k % 2 = 0 then 1 else 0
def tr1 (k : Nat) : Int := if k % 2 = 0 then 0 else 1
theorem tr0_even (k : Nat) : tr0 (2 * k) = 1 := by unfold tr0; rw [if_pos (by omega)]
theorem tr0_odd (k : Nat) : tr0 (2 * k + 1) = 0 := by unfold tr0; rw [if_neg (by omega)]
theorem tr1_even (k : Nat) : tr1 (2 * k) = 0 := by unfold tr1; rw [if_pos (by omega)]
theorem tr1_odd (k : Nat) : tr1 (2 * k + 1) = 1 := by unfold tr1; rw [if_neg (by omega)]
theorem sq_nonneg (n : Nat) (x : Nat → Int) : 0 ≤ sq n x := by
  induction n with
  | zero => exact Int.le_refl _
  | succ n ih => simp only [sq]; have := mul_self_nonneg' (x n); omega
theorem sq_at {n p : Nat} (h : p < n) (x : Nat → Int) : x p * x p ≤ sq n x := by
  induction n with
  | zero => omega
  | succ n ih =>
    simp only [sq]
    by_cases e : p = n
    · subst e; have := sq_nonneg p x; omega
    · have := ih (by omega); have := mul_self_nonneg' (x n); omega
theorem tr_dt (n : Nat) : dt n tr0 tr1 = 0 := by
  induction n with
  | zero => rfl
  | succ n ih =>
    simp only [dt, ih, tr0, tr1]
    by_cases e : n % 2 = 0
    · rw [if_pos e, if_pos e]; rfl
    · rw [if_neg e, if_neg e]; rfl
end Gr
namespace Go.Proofs.Ytfbmpkdjhhcnpaa
open Go.RowKit Gr
set_option maxRecDepth 100000
set_option linter.unusedVariables false
set_option linter.unusedSimpArgs false

theorem sq4 {x : Int} (h1 : -4 ≤ x) (h2 : x ≤ 4) : x * x ≤ 16 := by
  have h : x = -4 ∨ x = -3 ∨ x = -2 ∨ x = -1 ∨ x = 0 ∨ x = 1 ∨ x = 2 ∨ x = 3 ∨ x = 4 := by omega
  rcases h with rfl | rfl | rfl | rfl | rfl | rfl | rfl | rfl | rfl <;> decide
theorem plAt_bd {p : Int} {l : List BarT} {q : List PlaceT} (h : isFwB (p, l, q) = true) {i : Nat} (hi : (i : Int) < p) : ∃ x y, plAt q i = (x, y) ∧ (0 ≤ x ∧ x ≤ 4) ∧ (0 ≤ y ∧ y ≤ 4) := by
  obtain ⟨_, h2, _, _, h5⟩ := isFw_facts h
  have hlt : i < q.length := by omega
  refine ⟨q[i].1, q[i].2, ?_, h5 i _ _ (List.getElem?_eq_getElem hlt)⟩
  simp only [plAt, List.getElem?_eq_getElem hlt, Option.getD_some]
theorem rigF_eq (q : List PlaceT) {x : BarT} {x1 y1 x2 y2 : Int} (h1 : plAt q x.1.toNat = (x1, y1)) (h2 : plAt q x.2.toNat = (x2, y2)) :
    rigF q x = fun k => if k = 2 * x.2.toNat + 1 then y2 - y1 else if k = 2 * x.2.toNat then x2 - x1 else if k = 2 * x.1.toNat + 1 then y1 - y2 else if k = 2 * x.1.toNat then x1 - x2 else 0 := by
  funext k; unfold rigF; rw [h1, h2]
theorem rig_sq {p : Int} {l : List BarT} {q : List PlaceT} (h : isFwB (p, l, q) = true) {x : BarT} (hx : x ∈ l) : Gr.sq (2 * p.toNat) (rigF q x) ≤ 64 ∧ dt (2 * p.toNat) tr0 (rigF q x) = 0 ∧ dt (2 * p.toNat) tr1 (rigF q x) = 0 := by
  obtain ⟨_, _, _, h4, _⟩ := isFw_facts h
  obtain ⟨i, hi⟩ := List.getElem?_of_mem hx
  obtain ⟨a1, a2, a3⟩ := isGraphB_bar h4 hi
  obtain ⟨x1, y1, e1, ⟨b1, b2⟩, b3, b4⟩ := plAt_bd h (i := x.1.toNat) (by omega)
  obtain ⟨x2, y2, e2, ⟨c1, c2⟩, c3, c4⟩ := plAt_bd h (i := x.2.toNat) (by omega)
  rw [rigF_eq q e1 e2]
  have n1 : x.1.toNat < x.2.toNat := by omega
  have n2 : x.2.toNat < p.toNat := by omega
  generalize x.1.toNat = i1 at *
  generalize x.2.toNat = i2 at *
  generalize p.toNat = P at *
  have s1 := sq4 (x := y2 - y1) (by omega) (by omega)
  have s2 := sq4 (x := x2 - x1) (by omega) (by omega)
  have s3 := sq4 (x := y1 - y2) (by omega) (by omega)
  have s4 := sq4 (x := x1 - x2) (by omega) (by omega)
  refine ⟨?_, ?_, ?_⟩
  · rw [sq_upd (by omega), sq_upd (by omega), sq_upd (by omega), sq_upd (by omega), sq_zero]
    rw [if_neg (by omega), if_neg (by omega), if_neg (by omega), if_neg (by omega), if_neg (by omega), if_neg (by omega)]
    omega
  · rw [dt_upd (by omega), dt_upd (by omega), dt_upd (by omega), dt_upd (by omega), dt_zero, tr0_even, tr0_even, tr0_odd, tr0_odd]
    rw [if_neg (by omega), if_neg (by omega), if_neg (by omega), if_neg (by omega), if_neg (by omega), if_neg (by omega)]
    omega
  · rw [dt_upd (by omega), dt_upd (by omega), dt_upd (by omega), dt_upd (by omega), dt_zero, tr1_even, tr1_even, tr1_odd, tr1_odd]
    rw [if_neg (by omega), if_neg (by omega), if_neg (by omega), if_neg (by omega), if_neg (by omega), if_neg (by omega)]
    omega
theorem entF_rowL {M : List (List Int)} {n i k : Nat} {f : Nat → Int} (h : M[i]? = some (rowL n f)) (hk : k < n) : entF M i k = f k := by
  simp only [entF, h, Option.getD_some, rowL_get hk]
theorem fit_rig {f : FwT} (h : isFwB f = true) : Fit (rigM f) (2 * f.1.toNat) (64 ^ 10) := by
  obtain ⟨p, l, q⟩ := f
  have e : rigM (p, l, q) = l.map (rigRow p q) := by simp only [rigM, h]; rfl
  obtain ⟨⟨h1, h2⟩, h3, h4, h5, h6⟩ := isFw_facts h
  dsimp only
  have hrow : ∀ i, i < l.length → ∃ x, x ∈ l ∧ (rigM (p, l, q))[i]? = some (rowL (2 * p.toNat) (rigF q x)) := fun i hi => ⟨l[i], List.getElem_mem hi, by rw [e, List.getElem?_map, List.getElem?_eq_getElem hi]; rfl⟩
  have hlen : (rigM (p, l, q)).length = l.length := by rw [e, List.length_map]
  refine ⟨fun r hr => ?_, by omega, by omega, by omega, ?_, by decide⟩
  · rw [e] at hr
    obtain ⟨x, _, rfl⟩ := List.mem_map.1 hr
    simp [rigRow, rowL_length]
  · refine Bnd.mono (Bnd.byRowsT (B := 64) (by decide) (fun i hi => ?_) [tr0, tr1] (fun t ht i hi => ?_) ?_ (fun t ht => ?_)) (pow_mono (B := 64) (by decide) (show 2 * p.toNat - [tr0, tr1].length ≤ 10 by simp; omega))
    · obtain ⟨x, hx, hr⟩ := hrow i (by omega)
      rw [sq_ext fun k hk => entF_rowL hr hk]
      exact (rig_sq h hx).1
    · obtain ⟨x, hx, hr⟩ := hrow i (by omega)
      rw [dt_ext fun k hk => entF_rowL hr hk]
      simp only [List.mem_cons, List.not_mem_nil, or_false] at ht
      rcases ht with rfl | rfl
      · exact (rig_sq h hx).2.1
      · exact (rig_sq h hx).2.2
    · simp [tr_dt]
    · simp only [List.mem_cons, List.not_mem_nil, or_false] at ht
      rcases ht with rfl | rfl
      · have := sq_at (show 0 < 2 * p.toNat by omega) tr0
        have e2 : tr0 0 * tr0 0 = 1 := rfl
        omega
      · have := sq_at (show 1 < 2 * p.toNat by omega) tr1
        have e2 : tr1 1 * tr1 1 = 1 := rfl
        omega
end Go.Proofs.Ytfbmpkdjhhcnpaa

namespace Go.Proofs.Ytfbmpkdjhhcnpaa
open Go.RowKit Gr
set_option maxRecDepth 100000
set_option linter.unusedVariables false
set_option linter.unusedSimpArgs false

def frkF (f : FwT) : Int := if isFwB f = true then (rankN (rigM f) (2 * f.1.toNat) : Int) else -1

set_option maxHeartbeats 4000000 in
theorem specFrk_at (W : World) (p : Int) (a : Option Addr) (cap : Nat) (l : List BarT) (c : Option Addr) (capc : Nat) (q : List PlaceT) (h : BarsAt W a l.length l) (hq : PlacesAt W c q.length q) (hs : l.length + q.length ≤ 1048576) :
    Calls Try.prog 14 #[.agg #[.int .i64 p, .slice a l.length cap, .slice c q.length capc]] W fun e w' => e = .returned (.int .i64 (frkF (p, l, q))) ∧ Below W.heap.size W w' := by
  have HFw : Hid (IsFw W (.agg #[.int .i64 p, .slice a l.length cap, .slice c q.length capc]) (p, l, q)) := Lib.hid ⟨a, cap, c, capc, rfl, h, hq⟩
  clear h hq
  have hsz : szFw (p, l, q) ≤ 1048576 := hs
  have hs1 : l.length ≤ 1048576 := by omega
  have hs2 : q.length ≤ 1048576 := by omega
  have B : Below W.heap.size W (W.alloc (.cells #[.int .i64 p, .slice a l.length cap, .slice c q.length capc] 29)) := (Below.refl _ _).alloc (Nat.le_refl _) _
  have BX : Hid (BoxFw (W.alloc (.cells #[.int .i64 p, .slice a l.length cap, .slice c q.length capc] 29)) W.heap.size p a l.length cap c q.length capc) := Lib.hid (BoxFw.at rfl)
  cases hf : isFwB (p, l, q)
  · have HE := Lib.hid (ret_int (k := .i64) (show frkF (p, l, q) = -1 by unfold frkF; rw [hf]; rfl))
    go_enter Try.func14, Try.ntmps14
    go_wp2_with fail
    refine (spec_IsFramework _ _ (p, l, q) (HFw.out.below B) hsz).mono ?_
    rintro e w1 ⟨rfl, b⟩
    replace B := B.step b
    clear b
    rw [hf]
    go_wp2_with fail
    go_ret
    exact ⟨HE.out.symm, B⟩
  have HE := Lib.hid (ret_int (k := .i64) (show frkF (p, l, q) = (rankN (rigM (p, l, q)) (2 * p.toNat) : Int) by unfold frkF; rw [hf]; rfl))
  have HFIT := Lib.hid (fit_rig hf)
  go_enter Try.func14, Try.ntmps14
  go_wp2_with fail
  refine (spec_IsFramework _ _ (p, l, q) (HFw.out.below B) hsz).mono ?_
  rintro e w1 ⟨rfl, b⟩
  replace B := B.step b
  replace BX := Lib.hid (BX.out.below b)
  clear b
  rw [hf]
  obtain ⟨z, f0, f1, f2⟩ := BX.out
  go_wp2_with fail
  refine (spec_RigidityMatrix _ _ (p, l, q) (HFw.out.below B) hsz).mono ?_
  rintro e w2 ⟨v, rfl, ho, b⟩
  replace B := B.step b
  clear b z f0 f1 f2
  obtain ⟨am, cm, rfl, hi⟩ := ho.form
  have HI := Lib.hid hi
  clear hi ho
  go_wp2_with fail
  refine (l9Reduced_fit (rigM (p, l, q)) (2 * p.toNat) _ HFIT.out _ _ _ HI.out).mono ?_
  rintro e w3 ⟨va, vp, rfl, h1, h2, hb⟩
  obtain ⟨ap, cp, rfl, hi⟩ := h2.form
  have hl : ((redS (rigM (p, l, q)).length (2 * p.toNat) (entF (rigM (p, l, q))) (2 * p.toNat)).P.map Int.ofNat).length = rankN (rigM (p, l, q)) (2 * p.toNat) := by rw [List.length_map]; exact rankS _ _
  clear h1 h2 hi
  rw [hl]
  clear hl
  replace B := B.step hb
  clear hb
  go_wp2_with fail
  go_ret
  exact ⟨HE.out.symm, B⟩

theorem spec_FrameworkRank (W : World) (v : Value) (f : FwT) (h : IsFw W v f) (hn : szFw f ≤ 1048576) : Calls Try.prog 14 #[v] W fun e w' => e = .returned (.int .i64 (frkF f)) ∧ Below W.heap.size W w' := by
  obtain ⟨p, l, q⟩ := f
  obtain ⟨a, cap, c, capc, rfl, hi, hj⟩ := h
  exact specFrk_at _ _ _ _ _ _ _ _ hi hj hn
end Go.Proofs.Ytfbmpkdjhhcnpaa

namespace Go.Proofs.Ytfbmpkdjhhcnpaa
open Go.RowKit Gr
set_option maxRecDepth 100000
set_option linter.unusedVariables false
set_option linter.unusedSimpArgs false

def motL (f : FwT) : List (List Int) := if isFwB f = true then nullL (rigM f) (2 * f.1.toNat) else []
theorem motL_sz (f : FwT) : szIntss (motL f) ≤ 1048576 := by
  unfold motL
  split
  · rename_i h
    have h1 := (fit_rig h).n64
    have h2 := nullL_len (rigM f) (2 * f.1.toNat)
    have h3 := nullL_sum (rigM f) (2 * f.1.toNat)
    have h4 : (2 * f.1.toNat) * (2 * f.1.toNat) ≤ 64 * 64 := Nat.mul_le_mul h1 h1
    unfold szIntss; omega
  · decide

set_option maxHeartbeats 4000000 in
theorem specMot0_at (W : World) (p : Int) (a : Option Addr) (cap : Nat) (l : List BarT) (c : Option Addr) (capc : Nat) (q : List PlaceT) (h : BarsAt W a l.length l) (hq : PlacesAt W c q.length q) (hs : l.length + q.length ≤ 1048576) :
    Calls Try.prog 9 #[.agg #[.int .i64 p, .slice a l.length cap, .slice c q.length capc]] W (RetIntss W (motL (p, l, q))) := by
  have hwd := @Wd.cells
  have HFw : Hid (IsFw W (.agg #[.int .i64 p, .slice a l.length cap, .slice c q.length capc]) (p, l, q)) := Lib.hid ⟨a, cap, c, capc, rfl, h, hq⟩
  have H1 := Lib.hid h
  have H2 := Lib.hid hq
  clear h hq
  have hsz : szFw (p, l, q) ≤ 1048576 := hs
  have hs1 : l.length ≤ 1048576 := by omega
  have hs2 : q.length ≤ 1048576 := by omega
  have B : Below W.heap.size W (W.alloc (.cells #[.int .i64 p, .slice a l.length cap, .slice c q.length capc] 29)) := (Below.refl _ _).alloc (Nat.le_refl _) _
  have BX : Hid (BoxFw (W.alloc (.cells #[.int .i64 p, .slice a l.length cap, .slice c q.length capc] 29)) W.heap.size p a l.length cap c q.length capc) := Lib.hid (BoxFw.at rfl)
  cases hf : isFwB (p, l, q)
  · have HE := Lib.hid (show motL (p, l, q) = [] by unfold motL; rw [hf]; rfl)
    go_enter Try.func9, Try.ntmps9
    go_wp2_with fail
    refine (spec_IsFramework _ _ (p, l, q) (HFw.out.below B) hsz).mono ?_
    rintro e w1 ⟨rfl, b⟩
    have hz_w1 := b.size
    replace B := B.step b
    replace BX := Lib.hid (BX.out.below b)
    clear b
    rw [hf]
    have HO := Lib.hid (made_intss w1)
    go_wp2_with fail
    go_ret
    exact ⟨_, rfl, by rw [HE.out]; exact ownsRow_base' HO.out B.size, B.step ((Below.refl _ _).alloc (Nat.le_refl _) _)⟩
  have HE := Lib.hid (show motL (p, l, q) = nullL (rigM (p, l, q)) (2 * p.toNat) by unfold motL; rw [hf]; rfl)
  have HFIT := Lib.hid (fit_rig hf)
  obtain ⟨⟨hg1, hg2⟩, _, _, _, _⟩ := isFw_facts hf
  have cR : ∀ (w : World) (am : Option Addr) (cm : Nat), IntssAt w am (rigM (p, l, q)).length (rigM (p, l, q)) → Calls Try.prog 33 #[.slice am (rigM (p, l, q)).length cm, .int .i64 (2 * p)] w (RetIntss w (nullL (rigM (p, l, q)) (2 * p.toNat))) := fun w am cm hi => by
    have := l9Null_fit (rigM (p, l, q)) (2 * p.toNat) _ _ HFIT.out w am cm hi
    rwa [show ((2 * p.toNat : Nat) : Int) = 2 * p by omega] at this
  have HR := Lib.hid cR
  clear cR
  go_enter Try.func9, Try.ntmps9
  go_wp2_with fail
  refine (spec_IsFramework _ _ (p, l, q) (HFw.out.below B) hsz).mono ?_
  rintro e w1 ⟨rfl, b⟩
  have hz_w1 := b.size
  replace B := B.step b
  replace BX := Lib.hid (BX.out.below b)
  clear b
  rw [hf]
  obtain ⟨zBX, fBX0, fBX1, fBX2⟩ := BX.out
  go_wp2_with fail
  have hw := IntWalk.i64_in (2 * p) (by omega)
  have bd : Below w1.heap.size w1 w1.drew := (Below.refl _ _).drew
  replace B := B.step bd
  replace BX := Lib.hid (BX.out.below bd)
  clear bd
  clear zBX fBX0 fBX1 fBX2
  have tk1 := True.intro
  have tk2 := True.intro
  go_region_held3 (fun w' => w'.cell? ⟨W.heap.size, 0, none⟩ = some (.int .i64 p) ∧ w'.cell? ⟨W.heap.size, 1, none⟩ = some (.slice a l.length cap) ∧ w'.cell? ⟨W.heap.size, 2, none⟩ = some (.slice c q.length capc))
    (with_reducible exact ⟨BX.out.c0, BX.out.c1, BX.out.c2⟩)
    (first
      | (clear tk1; go_at_call 34; refine (spec_RigidityMatrix _ _ (p, l, q) (HFw.out.below B) hsz).mono ?_; rintro e w4 ⟨v, rfl, ho, b⟩; have hz4 := b.size; replace B := B.step b; replace BX := Lib.hid (BX.out.below b); clear b; obtain ⟨am, cm, rfl, hi⟩ := ho.form; have HI := Lib.hid hi; clear hi ho)
      | (clear tk2; go_at_call 33; refine (HR.out _ _ _ HI.out).mono ?_; rintro e w6 ⟨v, rfl, ho, b⟩; have hz6 := B.size; have HOV := Lib.hid ho; clear ho; replace B := B.step b; replace BX := Lib.hid (BX.out.below b); clear b)
      | fail)
  all_goals
    go_wp2_with fail
    go_ret
    exact ⟨_, rfl, by rw [HE.out]; exact ownsRow_base' HOV.out (by omega), B⟩
theorem spec_MotionsOf (W : World) (v : Value) (f : FwT) (h : IsFw W v f) (hn : szFw f ≤ 1048576) : Calls Try.prog 9 #[v] W (RetIntss W (motL f)) := by
  obtain ⟨p, l, q⟩ := f
  obtain ⟨a, cap, c, capc, rfl, hi, hj⟩ := h
  exact specMot0_at _ _ _ _ _ _ _ _ hi hj hn

set_option maxHeartbeats 4000000 in
theorem implMot0_at (W : World) (p : Int) (a : Option Addr) (cap : Nat) (l : List BarT) (c : Option Addr) (capc : Nat) (q : List PlaceT) (h : BarsAt W a l.length l) (hq : PlacesAt W c q.length q) (hs : l.length + q.length ≤ 1048576) :
    Calls Try.prog 6 #[.agg #[.int .i64 p, .slice a l.length cap, .slice c q.length capc]] W (RetIntss W (motL (p, l, q))) := by
  have hwd := @Wd.cells
  have HFw : Hid (IsFw W (.agg #[.int .i64 p, .slice a l.length cap, .slice c q.length capc]) (p, l, q)) := Lib.hid ⟨a, cap, c, capc, rfl, h, hq⟩
  have H1 := Lib.hid h
  have H2 := Lib.hid hq
  clear h hq
  have hsz : szFw (p, l, q) ≤ 1048576 := hs
  have hs1 : l.length ≤ 1048576 := by omega
  have hs2 : q.length ≤ 1048576 := by omega
  have B : Below W.heap.size W (W.alloc (.cells #[.int .i64 p, .slice a l.length cap, .slice c q.length capc] 29)) := (Below.refl _ _).alloc (Nat.le_refl _) _
  have BX : Hid (BoxFw (W.alloc (.cells #[.int .i64 p, .slice a l.length cap, .slice c q.length capc] 29)) W.heap.size p a l.length cap c q.length capc) := Lib.hid (BoxFw.at rfl)
  cases hf : isFwB (p, l, q)
  · have HE := Lib.hid (show motL (p, l, q) = [] by unfold motL; rw [hf]; rfl)
    go_enter Try.func6, Try.ntmps6
    go_wp2_with fail
    refine (impl_IsFramework _ _ (p, l, q) (HFw.out.below B) hsz).mono ?_
    rintro e w1 ⟨rfl, b⟩
    have hz_w1 := b.size
    replace B := B.step b
    replace BX := Lib.hid (BX.out.below b)
    clear b
    rw [hf]
    have HO := Lib.hid (made_intss w1)
    go_wp2_with fail
    go_ret
    exact ⟨_, rfl, by rw [HE.out]; exact ownsRow_base' HO.out B.size, B.step ((Below.refl _ _).alloc (Nat.le_refl _) _)⟩
  have HE := Lib.hid (show motL (p, l, q) = nullL (rigM (p, l, q)) (2 * p.toNat) by unfold motL; rw [hf]; rfl)
  have HFIT := Lib.hid (fit_rig hf)
  obtain ⟨⟨hg1, hg2⟩, _, _, _, _⟩ := isFw_facts hf
  have cR : ∀ (w : World) (am : Option Addr) (cm : Nat), IntssAt w am (rigM (p, l, q)).length (rigM (p, l, q)) → Calls Try.prog 31 #[.slice am (rigM (p, l, q)).length cm, .int .i64 (2 * p)] w (RetIntss w (nullL (rigM (p, l, q)) (2 * p.toNat))) := fun w am cm hi => by
    have := nullspace_fit (rigM (p, l, q)) (2 * p.toNat) _ _ HFIT.out w am cm hi
    rwa [show ((2 * p.toNat : Nat) : Int) = 2 * p by omega] at this
  have HR := Lib.hid cR
  clear cR
  go_enter Try.func6, Try.ntmps6
  go_wp2_with fail
  refine (impl_IsFramework _ _ (p, l, q) (HFw.out.below B) hsz).mono ?_
  rintro e w1 ⟨rfl, b⟩
  have hz_w1 := b.size
  replace B := B.step b
  replace BX := Lib.hid (BX.out.below b)
  clear b
  rw [hf]
  obtain ⟨zBX, fBX0, fBX1, fBX2⟩ := BX.out
  go_wp2_with fail
  have hw := IntWalk.i64_in (2 * p) (by omega)
  have bd : Below w1.heap.size w1 w1.drew := (Below.refl _ _).drew
  replace B := B.step bd
  replace BX := Lib.hid (BX.out.below bd)
  clear bd
  clear zBX fBX0 fBX1 fBX2
  have tk1 := True.intro
  have tk2 := True.intro
  go_region_held3 (fun w' => w'.cell? ⟨W.heap.size, 0, none⟩ = some (.int .i64 p) ∧ w'.cell? ⟨W.heap.size, 1, none⟩ = some (.slice a l.length cap) ∧ w'.cell? ⟨W.heap.size, 2, none⟩ = some (.slice c q.length capc))
    (with_reducible exact ⟨BX.out.c0, BX.out.c1, BX.out.c2⟩)
    (first
      | (clear tk1; go_at_call 32; refine (impl_RigidityMatrix _ _ (p, l, q) (HFw.out.below B) hsz).mono ?_; rintro e w4 ⟨v, rfl, ho, b⟩; have hz4 := b.size; replace B := B.step b; replace BX := Lib.hid (BX.out.below b); clear b; obtain ⟨am, cm, rfl, hi⟩ := ho.form; have HI := Lib.hid hi; clear hi ho)
      | (clear tk2; go_at_call 31; refine (HR.out _ _ _ HI.out).mono ?_; rintro e w6 ⟨v, rfl, ho, b⟩; have hz6 := B.size; have HOV := Lib.hid ho; clear ho; replace B := B.step b; replace BX := Lib.hid (BX.out.below b); clear b)
      | fail)
  all_goals
    go_wp2_with fail
    go_ret
    exact ⟨_, rfl, by rw [HE.out]; exact ownsRow_base' HOV.out (by omega), B⟩
theorem impl_MotionsOf (W : World) (v : Value) (f : FwT) (h : IsFw W v f) (hn : szFw f ≤ 1048576) : Calls Try.prog 6 #[v] W (RetIntss W (motL f)) := by
  obtain ⟨p, l, q⟩ := f
  obtain ⟨a, cap, c, capc, rfl, hi, hj⟩ := h
  exact implMot0_at _ _ _ _ _ _ _ _ hi hj hn
end Go.Proofs.Ytfbmpkdjhhcnpaa

