/- IsStress of the program and of the reference. No condition but sizes. -/
import Derived.Test.YtkjoeogoebpkjaaFrc2
namespace Go.Proofs.Ytkjoeogoebpkjaa
open Go.RowKit
set_option maxRecDepth 100000
set_option linter.unusedVariables false
set_option linter.unusedSimpArgs false

def calmAt (f : FwT) (w : List Int) (v : Nat) : Bool := decide (forceF f w v = (0, 0))
def strsB (f : FwT) (w : List Int) : Bool := forB f w && (List.range f.1.toNat).all (calmAt f w)
theorem strsB_not {f : FwT} {w : List Int} {v : Nat} (hv : v < f.1.toNat) (h : calmAt f w v = false) : strsB f w = false := by
  have : (List.range f.1.toNat).all (calmAt f w) = false := List.all_eq_false.2 ⟨v, List.mem_range.2 hv, by simp [h]⟩
  simp only [strsB, this, Bool.and_false]

set_option maxHeartbeats 4000000 in
theorem specIst_at (W : World) (p : Int) (a : Option Addr) (cap : Nat) (l : List BarT) (c : Option Addr) (capc : Nat) (q : List PlaceT) (h : BarsAt W a l.length l) (hq : PlacesAt W c q.length q) (hs : l.length + q.length ≤ 1048576) (va : Option Addr) (n vcap : Nat) (w : List Int) (hv : IntsAt W va n w) (hvn : n ≤ 1048576) :
    Calls Try.prog 29 #[.agg #[.int .i64 p, .slice a l.length cap, .slice c q.length capc], .slice va n vcap] W fun e w' => e = .returned (.bool (strsB (p, l, q) w)) ∧ Below W.heap.size W w' := by
  have hwd := @Wd.cells
  have HFw : Hid (IsFw W (.agg #[.int .i64 p, .slice a l.length cap, .slice c q.length capc]) (p, l, q)) := Lib.hid ⟨a, cap, c, capc, rfl, h, hq⟩
  have H1 := Lib.hid h
  have H2 := Lib.hid hq
  clear h hq
  have hsz : szFw (p, l, q) ≤ 1048576 := hs
  have hs1 : l.length ≤ 1048576 := by omega
  have hs2 : q.length ≤ 1048576 := by omega
  have B : Below W.heap.size W (W.alloc (.cells #[.int .i64 p, .slice a l.length cap, .slice c q.length capc] 42)) := (Below.refl _ _).alloc (Nat.le_refl _) _
  have BX : Hid (BoxFw (W.alloc (.cells #[.int .i64 p, .slice a l.length cap, .slice c q.length capc] 42)) W.heap.size p a l.length cap c q.length capc) := Lib.hid (BoxFw.at rfl)
  obtain rfl := hv.1
  have HV := Lib.hid hv
  clear hv
  have cV := fun (w1 : World) (b : Below W.heap.size W w1) => l13Vector_at w1 p a cap l c capc q (H1.out.below b) (H2.out.below b) hs1 hs2 hs va w.length vcap w (HV.out.below b) (by omega)
  cases hf : forB (p, l, q) w
  · have HE := Lib.hid (ret_bool (show strsB (p, l, q) w = false by simp only [strsB, hf, Bool.false_and]))
    rw [hf] at cV
    have HC := Lib.hid cV
    clear cV
    go_enter Try.func29, Try.ntmps29
    go_wp2_with fail
    generalize (W.alloc (.cells #[.int .i64 p, .slice a l.length cap, .slice c q.length capc] 42)) = u at *
    go_loopw [5] (fun i w9 => i = .int .i64 0 ∧ u = w9) (fun _ _ => 0)
    case atStart => exact ⟨rfl, rfl⟩
    case round =>
      obtain ⟨rfl, rfl⟩ := hrel
      obtain ⟨zBX, fBX0, fBX1, fBX2⟩ := BX.out
      by_cases h0 : 0 < p
      · go_wp2_with fail
        refine (HC.out _ B).mono ?_
        rintro e w1 ⟨rfl, b⟩
        replace B := B.step b
        clear zBX fBX0 fBX1 fBX2
        replace BX := Lib.hid (BX.out.below b)
        clear b
        obtain ⟨zBX, fBX0, fBX1, fBX2⟩ := BX.out
        go_wp2_with fail
        refine (HC.out _ B).mono ?_
        rintro e w2 ⟨rfl, b⟩
        replace B := B.step b
        clear b
        go_wp2_with fail
        go_ret
        exact ⟨HE.out.symm, B⟩
      · go_wp2_with fail
        refine (HC.out _ B).mono ?_
        rintro e w1 ⟨rfl, b⟩
        replace B := B.step b
        clear b
        go_wp2_with fail
        go_ret
        exact ⟨HE.out.symm, B⟩
  rw [hf] at cV
  have HC := Lib.hid cV
  clear cV
  obtain ⟨hfw, hwl, _⟩ := forB_facts hf
  obtain ⟨⟨hg1, hg2⟩, hg3, hg4, hg5, _⟩ := isFw_facts hfw
  obtain ⟨P, rfl⟩ := Int.eq_ofNat_of_zero_le (show 0 ≤ p by omega)
  have HF := Lib.hid hf
  clear hg5 hg3 hwl hf hfw
  go_enter Try.func29, Try.ntmps29
  go_wp2_with fail
  generalize (W.alloc (.cells #[.int .i64 (P : Int), .slice a l.length cap, .slice c q.length capc] 42)) = u at *
  go_loopw [5] (fun i w9 => ∃ k : Nat, k ≤ P ∧ i = .int .i64 k ∧ (List.range k).all (calmAt ((P : Int), l, q) w) = true ∧ Below u.heap.size u w9) (fun i _ => P - (intOf i).toNat)
  case atStart => exact ⟨0, Nat.zero_le _, rfl, by simp, Below.refl _ _⟩
  case round =>
    obtain ⟨k, hk, rfl, hall, hb⟩ := hrel
    have HA := Lib.hid hall
    clear hall
    have B1 := B.step hb
    have BX1 := Lib.hid (BX.out.below hb)
    obtain ⟨zBX, fBX0, fBX1, fBX2⟩ := BX1.out
    by_cases hlt : k < P
    · go_wp2_with fail
      refine (HC.out _ B1).mono ?_
      rintro e w1 ⟨rfl, b⟩
      replace B1 := B1.step b
      replace hb := hb.step b
      clear zBX fBX0 fBX1 fBX2
      replace BX1 := Lib.hid (BX1.out.below b)
      clear b
      obtain ⟨zBX, fBX0, fBX1, fBX2⟩ := BX1.out
      go_wp2_with fail
      refine (spec_ForceAt _ _ ((P : Int), l, q) (HFw.out.below B1) _ w ⟨_, _, rfl, HV.out.below B1⟩ (k : Int) hsz hvn).mono ?_
      rintro e w2 ⟨rfl, b⟩
      replace B1 := B1.step b
      replace hb := hb.step b
      clear zBX fBX0 fBX1 fBX2
      replace BX1 := Lib.hid (BX1.out.below b)
      clear b
      generalize hxy : forceF ((P : Int), l, q) w (k : Int) = xy
      obtain ⟨x, y⟩ := xy
      have HXY := Lib.hid hxy
      clear hxy
      dsimp only
      by_cases hx : x = 0
      · subst hx
        by_cases hy : y = 0
        · subst hy
          have HK := Lib.hid (show calmAt ((P : Int), l, q) w k = true by unfold calmAt; rw [HXY.out]; rfl)
          go_wp2_with fail
          go_roundw
          case rel => exact ⟨k + 1, by omega, by go_num, range_all_succ HA.out HK.out, hb⟩
          case measure => simp [intOf]; omega
        · have HE := Lib.hid (ret_bool (strsB_not (f := ((P : Int), l, q)) (w := w) (v := k) (by simpa using hlt) (by unfold calmAt; rw [HXY.out]; simpa using hy)))
          have hyb : (y != 0) = true := by simpa using hy
          have B := B1
          go_wp2_with fail
          go_ret
          exact ⟨HE.out.symm, B⟩
      · have HE := Lib.hid (ret_bool (strsB_not (f := ((P : Int), l, q)) (w := w) (v := k) (by simpa using hlt) (by unfold calmAt; rw [HXY.out]; simp [hx])))
        have hxb : (x != 0) = true := by simpa using hx
        have B := B1
        go_wp2_with fail
        go_ret
        exact ⟨HE.out.symm, B⟩
    · obtain rfl : k = P := by omega
      have HE := Lib.hid (ret_bool (show strsB ((k : Int), l, q) w = true by
        have h1 := HA.out
        have h2 := HF.out
        simp only [strsB, Int.toNat_natCast, h1, h2, Bool.and_self]))
      have hnl : decide ((k : Int) < (k : Int)) = false := by simp
      go_wp2_with fail
      refine (HC.out _ B1).mono ?_
      rintro e w1 ⟨rfl, b⟩
      have B := B1.step b
      clear b
      go_wp2_with fail
      go_ret
      exact ⟨HE.out.symm, B⟩

set_option maxHeartbeats 4000000 in
theorem implIst_at (W : World) (p : Int) (a : Option Addr) (cap : Nat) (l : List BarT) (c : Option Addr) (capc : Nat) (q : List PlaceT) (h : BarsAt W a l.length l) (hq : PlacesAt W c q.length q) (hs : l.length + q.length ≤ 1048576) (va : Option Addr) (n vcap : Nat) (w : List Int) (hv : IntsAt W va n w) (hvn : n ≤ 1048576) :
    Calls Try.prog 30 #[.agg #[.int .i64 p, .slice a l.length cap, .slice c q.length capc], .slice va n vcap] W fun e w' => e = .returned (.bool (strsB (p, l, q) w)) ∧ Below W.heap.size W w' := by
  have hwd := @Wd.cells
  have HFw : Hid (IsFw W (.agg #[.int .i64 p, .slice a l.length cap, .slice c q.length capc]) (p, l, q)) := Lib.hid ⟨a, cap, c, capc, rfl, h, hq⟩
  have H1 := Lib.hid h
  have H2 := Lib.hid hq
  clear h hq
  have hsz : szFw (p, l, q) ≤ 1048576 := hs
  have hs1 : l.length ≤ 1048576 := by omega
  have hs2 : q.length ≤ 1048576 := by omega
  have B : Below W.heap.size W (W.alloc (.cells #[.int .i64 p, .slice a l.length cap, .slice c q.length capc] 42)) := (Below.refl _ _).alloc (Nat.le_refl _) _
  have BX : Hid (BoxFw (W.alloc (.cells #[.int .i64 p, .slice a l.length cap, .slice c q.length capc] 42)) W.heap.size p a l.length cap c q.length capc) := Lib.hid (BoxFw.at rfl)
  obtain rfl := hv.1
  have HV := Lib.hid hv
  clear hv
  have cV := fun (w1 : World) (b : Below W.heap.size W w1) => areForces_at w1 p a cap l c capc q (H1.out.below b) (H2.out.below b) hs1 hs2 hs va w.length vcap w (HV.out.below b) (by omega)
  cases hf : forB (p, l, q) w
  · have HE := Lib.hid (ret_bool (show strsB (p, l, q) w = false by simp only [strsB, hf, Bool.false_and]))
    rw [hf] at cV
    have HC := Lib.hid cV
    clear cV
    go_enter Try.func30, Try.ntmps30
    go_wp2_with fail
    refine (HC.out _ B).mono ?_
    rintro e w1 ⟨rfl, b⟩
    replace B := B.step b
    clear b
    go_wp2_with fail
    go_ret
    exact ⟨HE.out.symm, B⟩
  rw [hf] at cV
  have HC := Lib.hid cV
  clear cV
  obtain ⟨hfw, hwl, _⟩ := forB_facts hf
  obtain ⟨⟨hg1, hg2⟩, hg3, hg4, hg5, _⟩ := isFw_facts hfw
  obtain ⟨P, rfl⟩ := Int.eq_ofNat_of_zero_le (show 0 ≤ p by omega)
  have HF := Lib.hid hf
  have hqP : q.length = P := by omega
  have HQ := Lib.hid hqP
  clear hg5 hg3 hwl hf hfw hqP
  go_enter Try.func30, Try.ntmps30
  go_wp2_with fail
  refine (HC.out _ B).mono ?_
  rintro e u ⟨rfl, b⟩
  replace B := B.step b
  replace BX := Lib.hid (BX.out.below b)
  clear b
  obtain ⟨zBX, fBX0, fBX1, fBX2⟩ := BX.out
  go_wp2_with fail
  clear zBX fBX0 fBX1 fBX2
  go_loopw [15] (fun i w9 => ∃ k : Nat, k ≤ q.length ∧ i = .int .i64 k ∧ (List.range k).all (calmAt ((P : Int), l, q) w) = true ∧ Below u.heap.size u w9) (fun i _ => q.length - (intOf i).toNat)
  case atStart => exact ⟨0, Nat.zero_le _, rfl, by simp, Below.refl _ _⟩
  case round =>
    obtain ⟨k, hk, rfl, hall, hb⟩ := hrel
    have HA := Lib.hid hall
    clear hall
    have B1 := B.step hb
    have BX1 := Lib.hid (BX.out.below hb)
    by_cases hlt : k < q.length
    · obtain ⟨zBX, fBX0, fBX1, fBX2⟩ := BX1.out
      go_wp2_with fail
      refine (impl_ForceAt _ _ ((P : Int), l, q) (HFw.out.below B1) _ w ⟨_, _, rfl, HV.out.below B1⟩ (k : Int) hsz hvn).mono ?_
      rintro e w2 ⟨rfl, b⟩
      replace B1 := B1.step b
      replace hb := hb.step b
      clear zBX fBX0 fBX1 fBX2
      replace BX1 := Lib.hid (BX1.out.below b)
      clear b
      generalize hxy : forceF ((P : Int), l, q) w (k : Int) = xy
      obtain ⟨x, y⟩ := xy
      have HXY := Lib.hid hxy
      clear hxy
      dsimp only
      by_cases hx : x = 0
      · subst hx
        by_cases hy : y = 0
        · subst hy
          have HK := Lib.hid (show calmAt ((P : Int), l, q) w k = true by unfold calmAt; rw [HXY.out]; rfl)
          go_wp2_with fail
          go_roundw
          case rel => exact ⟨k + 1, by omega, by go_num, range_all_succ HA.out HK.out, hb⟩
          case measure => simp [intOf]; omega
        · have HE := Lib.hid (ret_bool (strsB_not (f := ((P : Int), l, q)) (w := w) (v := k) (by have := HQ.out; simp; omega) (by unfold calmAt; rw [HXY.out]; simpa using hy)))
          have hyb : (y != 0) = true := by simpa using hy
          have B := B1
          go_wp2_with fail
          go_ret
          exact ⟨HE.out.symm, B⟩
      · have HE := Lib.hid (ret_bool (strsB_not (f := ((P : Int), l, q)) (w := w) (v := k) (by have := HQ.out; simp; omega) (by unfold calmAt; rw [HXY.out]; simp [hx])))
        have hxb : (x != 0) = true := by simpa using hx
        have B := B1
        go_wp2_with fail
        go_ret
        exact ⟨HE.out.symm, B⟩
    · obtain rfl : k = q.length := by omega
      have HE := Lib.hid (ret_bool (show strsB ((P : Int), l, q) w = true by
        have h1 := HA.out
        have h2 := HF.out
        rw [HQ.out] at h1
        simp only [strsB, Int.toNat_natCast, h1, h2, Bool.and_self]))
      have B := B1
      go_wp2_with fail
      go_ret
      exact ⟨HE.out.symm, B⟩

theorem spec_IsStress (W : World) (v0 : Value) (f : FwT) (h : IsFw W v0 f) (v1 : Value) (w : List Int) (hv : IsInts W v1 w) (hn : szFw f ≤ 1048576) (hvn : w.length ≤ 1048576) :
    Calls Try.prog 29 #[v0, v1] W fun e w' => e = .returned (.bool (strsB f w)) ∧ Below W.heap.size W w' := by
  obtain ⟨p, l, q⟩ := f
  obtain ⟨a, cap, c, capc, rfl, hi, hj⟩ := h
  obtain ⟨va, vc, rfl, hvi⟩ := hv
  exact specIst_at _ _ _ _ _ _ _ _ hi hj hn _ _ _ _ hvi hvn
theorem impl_IsStress (W : World) (v0 : Value) (f : FwT) (h : IsFw W v0 f) (v1 : Value) (w : List Int) (hv : IsInts W v1 w) (hn : szFw f ≤ 1048576) (hvn : w.length ≤ 1048576) :
    Calls Try.prog 30 #[v0, v1] W fun e w' => e = .returned (.bool (strsB f w)) ∧ Below W.heap.size W w' := by
  obtain ⟨p, l, q⟩ := f
  obtain ⟨a, cap, c, capc, rfl, hi, hj⟩ := h
  obtain ⟨va, vc, rfl, hvi⟩ := hv
  exact implIst_at _ _ _ _ _ _ _ _ hi hj hn _ _ _ _ hvi hvn
end Go.Proofs.Ytkjoeogoebpkjaa
