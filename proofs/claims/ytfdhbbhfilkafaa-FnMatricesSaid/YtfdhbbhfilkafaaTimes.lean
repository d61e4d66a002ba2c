/- TimesVector of the program and of the reference. -/
import Derived.Test.YtfdhbbhfilkafaaMat2
import Derived.Test.YtfdhbbhfilkafaaApp
namespace Go.Proofs.Ytfdhbbhfilkafaa
open Go.RowKit
set_option maxRecDepth 100000
set_option linter.unusedVariables false
set_option linter.unusedSimpArgs false

def dotTo (r v : List Int) : Nat → Int
  | 0 => 0
  | j + 1 => wrap64 (dotTo r v j + wrap64 (r[j]?.getD 0 * v[j]?.getD 0))
def dot (v r : List Int) : Int := dotTo r v r.length
def timesV (ll : List (List Int)) (v : List Int) : List Int := if isMat ll = true ∧ v.length = width ll then ll.map (dot v) else []
theorem isMat_len {ll : List (List Int)} (h : isMat ll = true) : 1 ≤ ll.length ∧ ll.length ≤ 9 := by
  simp [isMat, inB] at h; omega
theorem isMat_get {ll : List (List Int)} (h : isMat ll = true) {k : Nat} {r : List Int} (hr : ll[k]? = some r) : r.length = width ll ∧ r.length ≤ 12 ∧ 1 ≤ r.length ∧ smallRow r = true ∧ sq r ≤ 64 := by
  simp only [isMat, Bool.and_eq_true, List.all_eq_true] at h
  have h1 := h.2 r (List.mem_of_getElem? hr)
  simp [rowOk, inB] at h1
  exact ⟨h1.1, by omega, by omega, h1.2.2.1, h1.2.2.2⟩
theorem timesV_len (ll : List (List Int)) (v : List Int) : (timesV ll v).length ≤ ll.length := by unfold timesV; split <;> simp

set_option maxHeartbeats 8000000 in
theorem implTimes_any (a : Option Addr) (n cap : Nat) (ll : List (List Int)) (a' : Option Addr) (n' cap' : Nat) (v : List Int) (W : World) (h : IntssAt W a n ll) (h' : IntsAt W a' n' v) (hn : n ≤ 1048576) (hs : sumLen ll ≤ 1048576) (hn' : n' ≤ 1048576) :
    Calls Try.prog 48 #[.slice a n cap, .slice a' n' cap'] W (RetInts W (timesV ll v)) := by
  have H := Lib.hid h
  have HL := Lib.hid h.1
  have HC := Lib.hid h.2
  have HL' := Lib.hid h'.1
  have HC' := Lib.hid h'.2
  clear h h'
  have hb0 : Below W.heap.size W (W.alloc (.cells #[] 3)) := (Below.refl _ _).alloc (Nat.le_refl _) _
  cases hm : isMat ll
  · have hfin : timesV ll v = [] := by simp [timesV, hm]
    have HF := Lib.hid hfin
    have HM := Lib.hid hm
    clear hfin hm
    go_enter Try.func48, Try.ntmps48
    go_wp2_with fail
    refine (implMat_any _ _ _ _ _ (H.out.below hb0) hn hs).mono ?_
    rintro e w1 ⟨rfl, rfl⟩
    rw [HM.out]
    go_wp2_with fail
    go_ret
    exact ⟨_, rfl, by rw [HF.out]; exact OwnInts.made W _ (Nat.le_refl _), hb0⟩
  · have hlen := isMat_len hm
    rw [HL.out] at hlen
    obtain ⟨hlen1, hlen2⟩ := hlen
    obtain ⟨b0, off0, a0, c0, r0, rfl, hbl0, hx0, hcell0, hi0⟩ := HC.out 0 (by omega)
    simp only [Nat.add_zero] at hcell0
    have hw0 : r0.length = width ll := (isMat_get hm hx0).1
    have HW := Lib.hid hw0
    have HM := Lib.hid hm
    clear hw0 hx0 hi0 hm
    have h0n : (0 : Int) < (n : Int) := by omega
    by_cases hv : n' = r0.length
    · have hfin : timesV ll v = ll.map (dot v) := by have h1 := HM.out; have h2 := HW.out; have h3 := HL'.out; unfold timesV; rw [if_pos ⟨h1, by omega⟩]
      have HF := Lib.hid hfin
      have hq1 : (n' != r0.length) = false := by simpa using hv
      have hq2 : ((n' : Int) != (r0.length : Int)) = false := by simp; omega
      have HV := Lib.hid hv
      clear hfin hv
      go_enter Try.func48, Try.ntmps48
      go_wp2_with fail
      refine (implMat_any _ _ _ _ _ (H.out.below hb0) hn hs).mono ?_
      rintro e w1 ⟨rfl, rfl⟩
      rw [HM.out]
      go_wp2_with fail
      go_loopw [5, 27] (fun u i wr => ∃ k : Nat, k ≤ n ∧ i = .int .i64 k ∧ OwnInts wr W.heap.size u ((ll.take k).map (dot v)) ∧ Below W.heap.size W wr) (fun _ i _ => n - (intOf i).toNat)
      case atStart => exact ⟨0, Nat.zero_le _, rfl, by simpa using OwnInts.made W _ (Nat.le_refl _), hb0⟩
      case round =>
        obtain ⟨k, hk, rfl, ho, hbw⟩ := hrel
        have HO := Lib.hid ho
        clear ho
        have htl : (ll.take k).length ≤ k := List.length_take_le _ _
        by_cases hlt : k < n
        · obtain ⟨b, off, ar, cr, r, hab, hbl, hx, hcell, hi⟩ := HC.out k hlt
          simp only [Option.some.injEq, Addr.mk.injEq, and_true] at hab
          obtain ⟨rfl, rfl⟩ := hab
          obtain ⟨hr1, hr2, hr3, hr4, hr5⟩ := isMat_get HM.out hx
          have hrn : r.length = n' := by have h1 := HW.out; have h2 := HV.out; omega
          have HRN := Lib.hid hrn
          have hrn1 : r.length ≤ n' := by omega
          have hcw : wr.cell? ⟨b0, off0 + k, none⟩ = some (.slice ar r.length cr) := (hbw.cell (p := ⟨b0, off0 + k, none⟩) hbl).trans hcell
          have HX := Lib.hid hx
          have HI := Lib.hid hi
          clear hx hi hcell hr1 hr4 hr5 hrn
          go_wp2_with fail
          go_loopw [8, 33] (fun s i w2 => ∃ j : Nat, j ≤ r.length ∧ i = .int .i64 j ∧ s = .int .i64 (dotTo r v j) ∧ w2 = wr) (fun _ i _ => r.length - (intOf i).toNat)
          case atStart => exact ⟨0, Nat.zero_le _, rfl, rfl, rfl⟩
          case round =>
            obtain ⟨j, hj, rfl, rfl, rfl⟩ := hrel
            by_cases hjl : j < r.length
            · obtain ⟨b1, off1, x, rfl, hb1, hxx, hcx⟩ := HI.out.2 j hjl
              obtain ⟨b2, off2, y, rfl, hb2, hyy, hcy⟩ := HC'.out j (by omega)
              have hdt : dotTo r v (j + 1) = wrap64 (dotTo r v j + wrap64 (x * y)) := by simp [dotTo, hxx, hyy]
              have HDT := Lib.hid hdt
              have hcx' := (hbw.cell (p := ⟨b1, off1 + j, none⟩) hb1).trans hcx
              have hcy' := (hbw.cell (p := ⟨b2, off2 + j, none⟩) hb2).trans hcy
              clear hxx hyy hdt hcx hcy
              go_wp2_with fail
              go_roundw
              case rel => exact ⟨j + 1, by omega, by go_num, by rw [HDT.out], by first | rfl | trivial⟩
              case measure => simp [intOf]; omega
            · obtain rfl : j = r.length := by omega
              go_wp2_with (at_builtin; refine app1 rfl _ _ rfl rfl HO.out _ rfl (by simp only [List.length_map]; omega) hbw.size ?_; intro v' w1 ho1 hk1)
              go_roundw
              case rel => exact ⟨k + 1, by omega, by go_num, by rw [take_succ_of HX.out, List.map_append]; exact ho1, hbw.trans (hk1.setOwn HO.out (Nat.le_refl _) hbw.size)⟩
              case measure => simp [intOf]; omega
        · obtain rfl : k = n := by omega
          go_wp2_with fail
          go_ret
          refine ⟨_, rfl, ?_, hbw⟩
          have h3 := HO.out
          rw [List.take_of_length_le (by have := HL.out; omega)] at h3
          rw [HF.out]
          exact h3
    · have hfin : timesV ll v = [] := by have h2 := HW.out; have h3 := HL'.out; unfold timesV; rw [if_neg (fun hh => hv (by omega))]
      have HF := Lib.hid hfin
      have hq1 : (n' != r0.length) = true := by simpa using hv
      have hq2 : ((n' : Int) != (r0.length : Int)) = true := by simp; omega
      clear hfin hv
      go_enter Try.func48, Try.ntmps48
      go_wp2_with fail
      refine (implMat_any _ _ _ _ _ (H.out.below hb0) hn hs).mono ?_
      rintro e w1 ⟨rfl, rfl⟩
      rw [HM.out]
      go_wp2_with fail
      go_ret
      exact ⟨_, rfl, by rw [HF.out]; exact OwnInts.made W _ (Nat.le_refl _), hb0⟩

set_option maxHeartbeats 8000000 in
theorem specTimes_any (a : Option Addr) (n cap : Nat) (ll : List (List Int)) (a' : Option Addr) (n' cap' : Nat) (v : List Int) (W : World) (h : IntssAt W a n ll) (h' : IntsAt W a' n' v) (hn : n ≤ 1048576) (hs : sumLen ll ≤ 1048576) (hn' : n' ≤ 1048576) :
    Calls Try.prog 53 #[.slice a n cap, .slice a' n' cap'] W (RetInts W (timesV ll v)) := by
  have H := Lib.hid h
  have HL := Lib.hid h.1
  have HC := Lib.hid h.2
  have HL' := Lib.hid h'.1
  have HC' := Lib.hid h'.2
  clear h h'
  have hb0 : Below W.heap.size W (W.alloc (.cells #[] 3)) := (Below.refl _ _).alloc (Nat.le_refl _) _
  cases hm : isMat ll
  · have hfin : timesV ll v = [] := by simp [timesV, hm]
    have HF := Lib.hid hfin
    have HM := Lib.hid hm
    clear hfin hm
    go_enter Try.func53, Try.ntmps53
    go_wp2_with fail
    go_loopw [5, 6] (fun u i wr => u = .slice (some ⟨W.heap.size, 0, none⟩) 0 0 ∧ i = .int .i64 0 ∧ wr = W.alloc (.cells #[] 3)) (fun _ i _ => 0)
    case atStart => exact ⟨rfl, rfl, rfl⟩
    case round =>
      obtain ⟨rfl, rfl, rfl⟩ := hrel
      go_wp2_with fail
      refine (specMat_any _ _ _ _ _ (H.out.below hb0) hn hs).mono ?_
      rintro e w1 ⟨rfl, m, rfl⟩
      rw [HM.out]
      go_wp2_with fail
      go_ret
      exact ⟨_, rfl, by rw [HF.out]; exact OwnInts.made W _ (Nat.le_refl _), below_drewN hb0 _⟩
  · have hlen := isMat_len hm
    rw [HL.out] at hlen
    obtain ⟨hlen1, hlen2⟩ := hlen
    obtain ⟨b0, off0, a0, c0, r0, rfl, hbl0, hx0, hcell0, hi0⟩ := HC.out 0 (by omega)
    simp only [Nat.add_zero] at hcell0
    have hw0 : r0.length = width ll := (isMat_get hm hx0).1
    have HW := Lib.hid hw0
    have HM := Lib.hid hm
    clear hw0 hx0 hi0 hm
    have h0n : (0 : Int) < (n : Int) := by omega
    by_cases hv : n' = r0.length
    · have hfin : timesV ll v = ll.map (dot v) := by have h1 := HM.out; have h2 := HW.out; have h3 := HL'.out; unfold timesV; rw [if_pos ⟨h1, by omega⟩]
      have HF := Lib.hid hfin
      have hq1 : (n' == r0.length) = true := by simpa using hv
      have hq2 : ((n' : Int) == (r0.length : Int)) = true := by simp; omega
      have HV := Lib.hid hv
      clear hfin hv
      go_enter Try.func53, Try.ntmps53
      go_wp2_with fail
      go_loopw [5, 6] (fun u i wr => ∃ k : Nat, k ≤ n ∧ i = .int .i64 k ∧ OwnInts wr W.heap.size u ((ll.take k).map (dot v)) ∧ Below W.heap.size W wr) (fun _ i _ => n - (intOf i).toNat)
      case atStart => exact ⟨0, Nat.zero_le _, rfl, by simpa using OwnInts.made W _ (Nat.le_refl _), hb0⟩
      case round =>
        obtain ⟨k, hk, rfl, ho, hbw⟩ := hrel
        have HO := Lib.hid ho
        clear ho
        have htl : (ll.take k).length ≤ k := List.length_take_le _ _
        have hcw0 : wr.cell? ⟨b0, off0, none⟩ = some (.slice a0 r0.length c0) := (hbw.cell (p := ⟨b0, off0, none⟩) hbl0).trans hcell0
        by_cases hlt : k < n
        · obtain ⟨b, off, ar, cr, r, hab, hbl, hx, hcell, hi⟩ := HC.out k hlt
          simp only [Option.some.injEq, Addr.mk.injEq, and_true] at hab
          obtain ⟨rfl, rfl⟩ := hab
          obtain ⟨hr1, hr2, hr3, hr4, hr5⟩ := isMat_get HM.out hx
          have hrn : r.length = n' := by have h1 := HW.out; have h2 := HV.out; omega
          have HRN := Lib.hid hrn
          have hrn1 : r.length ≤ n' := by omega
          have hrn2 : n' ≤ r.length := by omega
          have hcw : wr.cell? ⟨b0, off0 + k, none⟩ = some (.slice ar r.length cr) := (hbw.cell (p := ⟨b0, off0 + k, none⟩) hbl).trans hcell
          have HX := Lib.hid hx
          have HI := Lib.hid hi
          clear hx hi hcell hr1 hr4 hr5 hrn
          go_wp2_with fail
          refine (specMat_any _ _ _ _ _ (H.out.below hbw) hn hs).mono ?_
          rintro e w1 ⟨rfl, m, rfl⟩
          rw [HM.out]
          go_wp2_with fail
          go_loopw [7, 8] (fun s i w2 => ∃ j : Nat, j ≤ n' ∧ i = .int .i64 j ∧ s = .int .i64 (dotTo r v j) ∧ ∃ m, w2 = wr.drewN m) (fun _ i _ => n' - (intOf i).toNat)
          case atStart => exact ⟨0, Nat.zero_le _, rfl, rfl, by first | exact ⟨_, rfl⟩ | exact ⟨_, World.drewN_drewN _ _ _⟩⟩
          case round =>
            obtain ⟨j, hj, rfl, rfl, m2, rfl⟩ := hrel
            by_cases hjl : j < n'
            · obtain ⟨b1, off1, x, rfl, hb1, hxx, hcx⟩ := HI.out.2 j (by omega)
              obtain ⟨b2, off2, y, rfl, hb2, hyy, hcy⟩ := HC'.out j (by omega)
              have hjr : j < r.length := by omega
              have hdt : dotTo r v (j + 1) = wrap64 (dotTo r v j + wrap64 (x * y)) := by simp [dotTo, hxx, hyy]
              have HDT := Lib.hid hdt
              have hcx' := (hbw.cell (p := ⟨b1, off1 + j, none⟩) hb1).trans hcx
              have hcy' := (hbw.cell (p := ⟨b2, off2 + j, none⟩) hb2).trans hcy
              clear hxx hyy hdt hcx hcy
              go_wp2_with fail
              go_quiet (fail)
              go_wp2_with fail
              go_roundw
              case rel => exact ⟨j + 1, by omega, by go_num, by rw [HDT.out], by first | exact ⟨_, rfl⟩ | exact ⟨_, World.drewN_drewN _ _ _⟩⟩
              case measure => simp [intOf]; omega
            · obtain rfl : j = n' := by omega
              have HO2 : Hid (OwnInts (wr.drewN m2) W.heap.size _ ((ll.take k).map (dot v))) := HO.out
              go_wp2_with (at_builtin; refine app1 rfl _ _ rfl rfl HO2.out _ rfl (by simp only [List.length_map]; omega) hbw.size ?_; intro v' w1 ho1 hk1)
              go_roundw
              case rel => exact ⟨k + 1, by omega, by go_num, by rw [take_succ_of HX.out, List.map_append]; have := HRN.out; simp only [List.map_cons, List.map_nil, dot, this]; exact ho1, (below_drewN hbw m2).trans (hk1.setOwn HO2.out (Nat.le_refl _) hbw.size)⟩
              case measure => simp [intOf]; omega
        · obtain rfl : k = n := by omega
          go_wp2_with fail
          refine (specMat_any _ _ _ _ _ (H.out.below hbw) hn hs).mono ?_
          rintro e w1 ⟨rfl, m, rfl⟩
          rw [HM.out]
          go_wp2_with fail
          go_ret
          refine ⟨_, rfl, ?_, below_drewN hbw _⟩
          have h3 := HO.out
          rw [List.take_of_length_le (by have := HL.out; omega)] at h3
          rw [HF.out]
          exact h3
    · have hfin : timesV ll v = [] := by have h2 := HW.out; have h3 := HL'.out; unfold timesV; rw [if_neg (fun hh => hv (by omega))]
      have HF := Lib.hid hfin
      have hq1 : (n' == r0.length) = false := by simpa using hv
      have hq2 : ((n' : Int) == (r0.length : Int)) = false := by simp; omega
      clear hfin hv
      go_enter Try.func53, Try.ntmps53
      go_wp2_with fail
      go_loopw [5, 6] (fun u i wr => u = .slice (some ⟨W.heap.size, 0, none⟩) 0 0 ∧ i = .int .i64 0 ∧ wr = W.alloc (.cells #[] 3)) (fun _ i _ => 0)
      case atStart => exact ⟨rfl, rfl, rfl⟩
      case round =>
        obtain ⟨rfl, rfl, rfl⟩ := hrel
        go_wp2_with fail
        refine (specMat_any _ _ _ _ _ (H.out.below hb0) hn hs).mono ?_
        rintro e w1 ⟨rfl, m, rfl⟩
        rw [HM.out]
        go_wp2_with fail
        go_ret
        exact ⟨_, rfl, by rw [HF.out]; exact OwnInts.made W _ (Nat.le_refl _), below_drewN hb0 _⟩

theorem spec_TimesVector (W : World) (v : Value) (ll : List (List Int)) (h : IsIntss W v ll) (v' : Value) (l : List Int) (h' : IsInts W v' l) (hn : szIntss ll ≤ 1048576) (hn' : l.length ≤ 1048576) : Calls Try.prog 53 #[v, v'] W (RetInts W (timesV ll l)) := by
  obtain ⟨a, cap, rfl, hi⟩ := h
  obtain ⟨a', cap', rfl, hi'⟩ := h'
  unfold szIntss at hn
  exact specTimes_any _ _ _ _ _ _ _ _ _ hi hi' (by omega) (by omega) hn'
theorem impl_TimesVector (W : World) (v : Value) (ll : List (List Int)) (h : IsIntss W v ll) (v' : Value) (l : List Int) (h' : IsInts W v' l) (hn : szIntss ll ≤ 1048576) (hn' : l.length ≤ 1048576) : Calls Try.prog 48 #[v, v'] W (RetInts W (timesV ll l)) := by
  obtain ⟨a, cap, rfl, hi⟩ := h
  obtain ⟨a', cap', rfl, hi'⟩ := h'
  unfold szIntss at hn
  exact implTimes_any _ _ _ _ _ _ _ _ _ hi hi' (by omega) (by omega) hn'
end Go.Proofs.Ytfdhbbhfilkafaa
