/- FixMotion of the program, and both contracts. No condition but sizes. -/
import Derived.Test.YtkjoeogoebpkjaaFix
import Derived.Test.YtkjoeogoebpkjaaRig2
import Derived.Deep.RegionHeld3
import Derived.BigRegion
namespace Go.Proofs.Ytkjoeogoebpkjaa
open Go.RowKit Gr
set_option maxRecDepth 100000
set_option linter.unusedVariables false
set_option linter.unusedSimpArgs false

set_option maxHeartbeats 4000000 in
theorem implFix_at (W : World) (p : Int) (a : Option Addr) (cap : Nat) (l : List BarT) (c : Option Addr) (capc : Nat) (q : List PlaceT) (h : BarsAt W a l.length l) (hq : PlacesAt W c q.length q) (hs : l.length + q.length ≤ 1048576) (va : Option Addr) (n vcap : Nat) (v : List Int) (hv : IntsAt W va n v) (hvn : n ≤ 1048576) (i : Int) :
    Calls Try.prog 51 #[.agg #[.int .i64 p, .slice a l.length cap, .slice c q.length capc], .slice va n vcap, .int .i64 i] W fun e w' => ∃ vo, e = .returned (.tuple #[vo, .bool (fixOk (p, l, q) v i)]) ∧ OwnInts w' W.heap.size vo (fixF (p, l, q) v i) ∧ Below W.heap.size W w' := by
  have hwd := @Wd.cells
  have HFw : Hid (IsFw W (.agg #[.int .i64 p, .slice a l.length cap, .slice c q.length capc]) (p, l, q)) := Lib.hid ⟨a, cap, c, capc, rfl, h, hq⟩
  have H1 := Lib.hid h
  have H2 := Lib.hid hq
  clear h hq
  have hsz : szFw (p, l, q) ≤ 1048576 := hs
  have hs1 : l.length ≤ 1048576 := by omega
  have hs2 : q.length ≤ 1048576 := by omega
  have B : Below W.heap.size W (W.alloc (.cells #[.int .i64 p, .slice a l.length cap, .slice c q.length capc] 42)) := (Below.refl _ _).alloc (Nat.le_refl _) _
  have BX : Hid (BoxFw (W.alloc (.cells #[.int .i64 p, .slice a l.length cap, .slice c q.length capc] 42)) W.heap.size p a l.length cap c q.length capc) := Lib.hid (BoxFw.at rfl)
  obtain rfl := hv.1
  have HV := Lib.hid hv
  clear hv
  have cM := fun (w1 : World) (b : Below W.heap.size W w1) => impl_IsMotion w1 _ (p, l, q) (HFw.out.below b) (.slice va v.length vcap) v ⟨_, _, rfl, HV.out.below b⟩ hsz hvn
  cases hm : motB (p, l, q) v
  · have HE := Lib.hid (show fixOk (p, l, q) v i = false by simp only [fixOk, hm, Bool.false_and])
    rw [hm] at cM
    have HC := Lib.hid cM
    clear cM
    go_enter Try.func51, Try.ntmps51
    go_wp2_with fail
    refine (HC.out _ B).mono ?_
    rintro e w1 ⟨rfl, b⟩
    have B1 := B.step b
    clear b
    go_wp2_with fail
    go_ret2
    exact ⟨_, by rw [HE.out]; rfl, by rw [fixF_no HE.out]; exact ownsRow_base (OwnInts.made _ _ (Nat.le_refl _)) B1.size, B1.step ((Below.refl _ _).alloc (Nat.le_refl _) _)⟩
  rw [hm] at cM
  have HC := Lib.hid cM
  clear cM
  obtain ⟨hp1, hp2, hp3, hp4, hp5, hp6⟩ := velB_bd (motB_vel hm)
  have HSM := Lib.hid (motB_small hm)
  obtain ⟨P, rfl⟩ := Int.eq_ofNat_of_zero_le (show 0 ≤ p by omega)
  have HVL := Lib.hid (show v.length = 2 * P by omega)
  have HQL := Lib.hid (show q.length = P by omega)
  clear hp3 hp4 hp6
  cases h1 : inB i 0 ((P : Int) - 1)
  · have HE := Lib.hid (show fixOk ((P : Int), l, q) v i = false by simp only [fixOk, hm, Bool.true_and]; simp [inB] at h1; simp; omega)
    clear hm
    go_enter Try.func51, Try.ntmps51
    go_wp2_with fail
    refine (HC.out _ B).mono ?_
    rintro e w1 ⟨rfl, b⟩
    have B1 := B.step b
    have BX1 := Lib.hid (BX.out.below b)
    clear b
    obtain ⟨zBX, fBX0, fBX1, fBX2⟩ := BX1.out
    go_wp2_with fail
    refine (has_any _ _ _ ⟨_, _, _, rfl⟩ _ hp1 (by omega)).mono ?_
    rintro e w2 ⟨rfl, b⟩
    replace B1 := B1.step b
    clear b
    rw [h1]
    go_wp2_with fail
    go_ret2
    exact ⟨_, by rw [HE.out]; rfl, by rw [fixF_no HE.out]; exact ownsRow_base (OwnInts.made _ _ (Nat.le_refl _)) B1.size, B1.step ((Below.refl _ _).alloc (Nat.le_refl _) _)⟩
  have hh : 0 ≤ i ∧ i < P := by simp [inB] at h1; omega
  obtain ⟨I, rfl⟩ := Int.eq_ofNat_of_zero_le hh.1
  have HE := Lib.hid (show fixOk ((P : Int), l, q) v I = true by simp only [fixOk, hm, Bool.true_and]; simp; omega)
  have HFX := Lib.hid (fixF_yes HE.out)
  have hIP : I < P := by omega
  clear hm hh
  go_enter Try.func51, Try.ntmps51
  go_wp2_with fail
  refine (HC.out _ B).mono ?_
  rintro e w1 ⟨rfl, b⟩
  replace B := B.step b
  replace BX := Lib.hid (BX.out.below b)
  clear b
  obtain ⟨zBX, fBX0, fBX1, fBX2⟩ := BX.out
  go_wp2_with fail
  refine (has_any _ _ _ ⟨_, _, _, rfl⟩ _ hp1 (by omega)).mono ?_
  rintro e w2 ⟨rfl, b⟩
  replace B := B.step b
  clear zBX fBX0 fBX1 fBX2
  replace BX := Lib.hid (BX.out.below b)
  clear b
  rw [h1]
  go_wp2_with fail
  refine (copyInts_any _ _ _ v w2 (HV.out.below B) (by omega)).mono ?_
  rintro e u ⟨vo, rfl, ho, b⟩
  replace BX := Lib.hid (BX.out.below b)
  have hvl := HVL.out
  have ho2 : ∃ g cg, vo = .slice (some ⟨g, 0, none⟩) (2 * P) cg ∧ OwnInts u w2.heap.size (.slice (some ⟨g, 0, none⟩) (2 * P) cg) (rowL (2 * P) (fixTo v I 0)) ∧ w2.heap.size ≤ g := by
    have e1 : rowL (2 * P) (fixTo v I 0) = v := by
      rw [← rowL_copy hvl]
      refine rowL_congr fun k _ => ?_
      rw [fixTo_zero, rowL_copy hvl]
    rw [e1]
    have h2 := ho.2
    rcases h2 with ⟨_, h0⟩ | ⟨g, cg, cur, rfl, hb, hg, _⟩
    · omega
    · exact ⟨g, cg, by rw [hvl], by rw [← hvl]; exact ho, hb⟩
  obtain ⟨g, cg, rfl, hO, hgb⟩ := ho2
  have HO := Lib.hid hO
  clear hO ho hvl
  obtain ⟨zBX, fBX0, fBX1, fBX2⟩ := BX.out
  have hzb := b.size
  have HB2 := Lib.hid b
  clear b
  go_wp2_with fail
  clear zBX fBX0 fBX1 fBX2
  go_loopw [27] (fun i w9 => ∃ k : Nat, k ≤ q.length ∧ i = .int .i64 k ∧ OwnInts w9 w2.heap.size (.slice (some ⟨g, 0, none⟩) (2 * P) cg) (rowL (2 * P) (fixTo v I k)) ∧ Below w2.heap.size w2 w9) (fun i _ => q.length - (intOf i).toNat)
  case atStart => exact ⟨0, Nat.zero_le _, rfl, HO.out, HB2.out⟩
  case round =>
    clear HO HB2
    obtain ⟨k, hk, rfl, ho, hb⟩ := hrel
    have HO := Lib.hid ho
    clear ho
    have hbz := hb.size
    by_cases hlt : k < q.length
    · have hvl := HVL.out
      have hql := HQL.out
      obtain ⟨bv, ov, u2, rfl, hbv, hu2, hc3⟩ := (HV.out.below B).2 (2 * I) (by omega)
      obtain ⟨bv', ov', t2, hab, hbv', ht2, hc4⟩ := (HV.out.below B).2 (2 * I + 1) (by omega)
      simp only [Option.some.injEq, Addr.mk.injEq, and_true] at hab
      obtain ⟨rfl, rfl⟩ := hab
      obtain ⟨u1, hu1⟩ : ∃ x, v[2 * k]? = some x := ⟨_, List.getElem?_eq_getElem (by omega)⟩
      obtain ⟨t1, ht1⟩ : ∃ x, v[2 * k + 1]? = some x := ⟨_, List.getElem?_eq_getElem (by omega)⟩
      have HU := Lib.hid (And.intro (And.intro (vAt_get hu1) (vAt_get hu2)) (And.intro (vAt_get ht1) (vAt_get ht2)))
      have n1 := HSM.out u1 (List.mem_of_getElem? hu1)
      have n2 := HSM.out u2 (List.mem_of_getElem? hu2)
      have n3 := HSM.out t1 (List.mem_of_getElem? ht1)
      have n4 := HSM.out t2 (List.mem_of_getElem? ht2)
      clear hu1 hu2 ht1 ht2
      have e1 : fixTo v I k (2 * k) = u1 := by unfold fixTo; rw [if_neg (by omega), HU.out.1.1]
      have e2 : fixTo v I k (2 * k + 1) = t1 := by unfold fixTo; rw [if_neg (by omega), HU.out.2.1]
      have k1 : 2 * k < 2 * P := by omega
      have k2 : 2 * k + 1 < 2 * P := by omega
      have hc1 := HO.out.rowCell k1
      rw [e1] at hc1
      have hf1 := HO.out.rowFroz (2 * k)
      have O1 := Lib.hid (HO.out.setRow (2 * k) (u1 - u2))
      have hc2 := O1.out.rowCell k2
      rw [if_neg (by omega), e2] at hc2
      have hf2 := O1.out.rowFroz (2 * k + 1)
      have O2 := Lib.hid (O1.out.setRow (2 * k + 1) (t1 - t2))
      have hne : g ≠ bv := by omega
      have hb1 : Below w2.heap.size w2 _ := hb.setCell (p := ⟨g, 2 * k, none⟩) hgb (.int .i64 (u1 - u2))
      have hb2 := Lib.hid (hb1.setCell (p := ⟨g, 2 * k + 1, none⟩) hgb (.int .i64 (t1 - t2)))
      have hv3 := (hb.cell (p := ⟨bv, ov + 2 * I, none⟩) hbv).trans hc3
      have hv4 := (hb1.cell (p := ⟨bv, ov + (2 * I + 1), none⟩) hbv).trans hc4
      have hgz : g < wr.heap.size := (HO.out.lt g rfl).2
      have hj1 : (2 * (k : Int)).toNat = 2 * k := by omega
      have hj2 : (2 * (k : Int) + 1).toNat = 2 * k + 1 := by omega
      have hj3 : (2 * (I : Int)).toNat = 2 * I := by omega
      have hj4 : (2 * (I : Int) + 1).toNat = 2 * I + 1 := by omega
      have hm1 : (2 * (k : Int)) < 2 * (P : Int) := by omega
      have hm2 : (2 * (k : Int) + 1) < 2 * (P : Int) := by omega
      have hm3 : (2 * (I : Int)) < (v.length : Int) := by omega
      have hm4 : (2 * (I : Int) + 1) < (v.length : Int) := by omega
      have hm5 : 0 ≤ (2 * (k : Int)) := by omega
      have hm6 : 0 ≤ (2 * (k : Int) + 1) := by omega
      have hm7 : 0 ≤ (2 * (I : Int)) := by omega
      have hm8 : 0 ≤ (2 * (I : Int) + 1) := by omega
      have hw1 := IntWalk.i64_in (2 * (k : Int)) (by omega)
      have hw2 := IntWalk.i64_in (2 * (k : Int) + 1) (by omega)
      have hw3 := IntWalk.i64_in (2 * (I : Int)) (by omega)
      have hw4 := IntWalk.i64_in (2 * (I : Int) + 1) (by omega)
      have hw5 := IntWalk.i64_in (u1 - u2) (by omega)
      have hw6 := IntWalk.i64_in (t1 - t2) (by omega)
      clear hvl hql e1 e2
      go_upto_region 7 with (fail)
      go_region
      all_goals
        go_upto_region 8 with (fail)
        go_region
      all_goals
        go_wp2_with fail
        go_roundw
        case rel =>
          refine ⟨k + 1, by omega, by go_num, ?_, hb2.out.drew.drew⟩
          have h9 := O2.out
          rw [show (fun q => if q = 2 * k + 1 then t1 - t2 else if q = 2 * k then u1 - u2 else fixTo v I k q) = fixTo v I (k + 1) from funext fun q => by rw [fixTo_succ, HU.out.1.1, HU.out.1.2, HU.out.2.1, HU.out.2.2]] at h9
          exact h9
        case measure => simp [intOf]; omega
    · obtain rfl : k = q.length := by omega
      have hql := HQL.out
      have HLL := Lib.hid (show (fixL v I P).length = 2 * P by unfold fixL; rw [rowL_length])
      go_wp2_with fail
      go_ret2
      refine ⟨_, by rw [HE.out]; rfl, ?_, B.step hb⟩
      rw [HFX.out]
      simp only [Int.toNat_natCast]
      have h9 := ownsRow_base HO.out B.size
      rw [hql] at h9
      exact h9

theorem spec_FixMotion (W : World) (v0 : Value) (f : FwT) (h : IsFw W v0 f) (v1 : Value) (w : List Int) (hv : IsInts W v1 w) (i : Int) (hn : szFw f ≤ 1048576) (hvn : w.length ≤ 1048576) :
    Calls Try.prog 50 #[v0, v1, .int .i64 i] W fun e w' => ∃ vo, e = .returned (.tuple #[vo, .bool (fixOk f w i)]) ∧ OwnInts w' W.heap.size vo (fixF f w i) ∧ Below W.heap.size W w' := by
  obtain ⟨p, l, q⟩ := f
  obtain ⟨a, cap, c, capc, rfl, hi, hj⟩ := h
  obtain ⟨va, vc, rfl, hvi⟩ := hv
  exact specFix_at _ _ _ _ _ _ _ _ hi hj hn _ _ _ _ hvi hvn i
theorem impl_FixMotion (W : World) (v0 : Value) (f : FwT) (h : IsFw W v0 f) (v1 : Value) (w : List Int) (hv : IsInts W v1 w) (i : Int) (hn : szFw f ≤ 1048576) (hvn : w.length ≤ 1048576) :
    Calls Try.prog 51 #[v0, v1, .int .i64 i] W fun e w' => ∃ vo, e = .returned (.tuple #[vo, .bool (fixOk f w i)]) ∧ OwnInts w' W.heap.size vo (fixF f w i) ∧ Below W.heap.size W w' := by
  obtain ⟨p, l, q⟩ := f
  obtain ⟨a, cap, c, capc, rfl, hi, hj⟩ := h
  obtain ⟨va, vc, rfl, hvi⟩ := hv
  exact implFix_at _ _ _ _ _ _ _ _ hi hj hn _ _ _ _ hvi hvn i
end Go.Proofs.Ytkjoeogoebpkjaa
