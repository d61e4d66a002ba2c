/- BearingForces and CanBear of the reference and of the program. No condition but sizes. -/
import Derived.Test.YtchlmnlaaloipaaBea
import Derived.Test.YtchlmnlaaloipaaFwM
import Derived.Test.YtchlmnlaaloipaaRdFw
import Derived.Test.YtchlmnlaaloipaaRdInts
import Derived.Deep.RegionHeld3
import Derived.WalkKit
import Derived.ProofKit
import Derived.OpenShut
import Derived.ShutString
import Derived.ChangeOld
import Derived.Below
namespace Go.Proofs.Ytchlmnlaaloipaa
open Go.RowKit Gr
set_option maxRecDepth 100000
set_option linter.unusedVariables false
set_option linter.unusedSimpArgs false


set_option maxHeartbeats 8000000 in
theorem specBear_at (W : World) (p : Int) (a : Option Addr) (cap : Nat) (l : List BarT) (c : Option Addr) (capc : Nat) (q : List PlaceT) (h : BarsAt W a l.length l) (hq : PlacesAt W c q.length q) (hs : l.length + q.length ≤ 1048576) (va : Option Addr) (n vcap : Nat) (v : List Int) (hv : IntsAt W va n v) (hvn : n ≤ 1048576) :
    Calls Try.prog 22 #[.agg #[.int .i64 p, .slice a l.length cap, .slice c q.length capc], .slice va n vcap] W (RetBear W (bearB (p, l, q) v)) := by
  have hwd := @Wd.cells
  have HFw : Hid (IsFw W (.agg #[.int .i64 p, .slice a l.length cap, .slice c q.length capc]) (p, l, q)) := Lib.hid ⟨a, cap, c, capc, rfl, h, hq⟩
  have H1 := Lib.hid h
  have H2 := Lib.hid hq
  clear h hq
  have hsz : szFw (p, l, q) ≤ 1048576 := hs
  have hs1 : l.length ≤ 1048576 := by omega
  have hs2 : q.length ≤ 1048576 := by omega
  have B : Below W.heap.size W (W.alloc (.cells #[.int .i64 p, .slice a l.length cap, .slice c q.length capc] 36)) := (Below.refl _ _).alloc (Nat.le_refl _) _
  have BX : Hid (BoxFw (W.alloc (.cells #[.int .i64 p, .slice a l.length cap, .slice c q.length capc] 36)) W.heap.size p a l.length cap c q.length capc) := Lib.hid (BoxFw.at rfl)
  have HV := Lib.hid (hv.below B)
  have HV0 := Lib.hid hv
  have HVL := Lib.hid hv.1
  clear hv
  cases hlb : loadB (p, l, q) v
  · have HE := Lib.hid (bear_no hlb)
    go_enter Try.func22, Try.ntmps22
    go_wp2_with fail
    generalize (W.alloc (.cells #[.int .i64 p, .slice a l.length cap, .slice c q.length capc] 36)) = u at *
    obtain ⟨zBX, fBX0, fBX1, fBX2⟩ := BX.out
    refine (l13Load_at _ _ _ _ _ _ _ _ (H1.out.below B) (H2.out.below B) hs1 hs2 hs _ _ _ _ HV.out (by omega)).mono ?_
    rintro e w1 ⟨rfl, b⟩
    rw [hlb]
    go_wp2_with fail
    go_ret3
    exact ⟨_, _, by rw [HE.out]; rfl, (B.step b).step ((Below.refl _ _).alloc (Nat.le_refl _) _)⟩
  obtain ⟨hf, hvl, hv4⟩ := loadB_facts hlb
  have HVL2 := HVL.out
  obtain ⟨⟨hg1, hg2⟩, hg3, hg4, _, hg6⟩ := isFw_facts hf
  have hl24 : l.length ≤ 24 := by omega
  have HLB := Lib.hid hlb
  have HRW : Hid (∀ r ∈ bearL (p, l, q) v, r.length = l.length + 1) := Lib.hid fun r hr => bearL_row hr
  have HAT : Hid (∀ (k : Nat) (r : List Int) (d : Int), (bearL (p, l, q) v)[k]? = some r → r[l.length]? = some d → (d == 0) = false → bearB (p, l, q) v = true) := Lib.hid fun k r d h1 h2 h3 => bear_at HLB.out h1 h2 h3
  have HNO : Hid ((∀ x ∈ bearL (p, l, q) v, x[l.length]?.getD 0 = 0) → bearB (p, l, q) v = false) := Lib.hid fun h => bear_none h
  have hlen := bearL_len (p, l, q) v
  have hll25 : (bearL (p, l, q) v).length ≤ 25 := by dsimp only at hlen; omega
  clear hlen
  have HSV : Hid (∀ w1, Below W.heap.size W w1 → Calls Try.prog 42 #[.agg #[.int .i64 p, .slice a l.length cap, .slice c q.length capc], .slice va n vcap] w1 (RetIntss w1 (bearL (p, l, q) v))) := Lib.hid fun w1 b => l13Solve_at _ p a cap l c capc q (H1.out.below b) (H2.out.below b) hs va n vcap v (HV0.out.below b) HLB.out
  go_enter Try.func22, Try.ntmps22
  go_wp2_with fail
  generalize (W.alloc (.cells #[.int .i64 p, .slice a l.length cap, .slice c q.length capc] 36)) = u at *
  obtain ⟨zBX, fBX0, fBX1, fBX2⟩ := BX.out
  refine (l13Load_at _ _ _ _ _ _ _ _ (H1.out.below B) (H2.out.below B) hs1 hs2 hs _ _ _ _ HV.out (by omega)).mono ?_
  rintro e w1 ⟨rfl, b⟩
  have B1 := B.step b
  clear zBX fBX0 fBX1 fBX2
  have BX1 := Lib.hid (BX.out.below b)
  rw [hlb]
  clear b hlb
  obtain ⟨zBX, fBX0, fBX1, fBX2⟩ := BX1.out
  go_wp2_with fail
  refine (HSV.out _ B1).mono ?_
  rintro e w2 ⟨vm, rfl, ho, b⟩
  have B2 := B1.step b
  clear zBX fBX0 fBX1 fBX2
  have BX2 := Lib.hid (BX1.out.below b)
  have hz2 := b.size
  clear b HSV
  generalize bearL (p, l, q) v = ll at *
  obtain ⟨am, cm, rfl, hi⟩ := ho.form
  have HI := Lib.hid hi
  clear ho hi
  obtain ⟨zBX, fBX0, fBX1, fBX2⟩ := BX2.out
  go_wp2_with fail
  clear zBX fBX0 fBX1 fBX2
  go_loopw [9] (fun i w9 => ∃ k : Nat, k ≤ ll.length ∧ i = .int .i64 k ∧ (∀ x ∈ ll.take k, x[l.length]?.getD 0 = 0) ∧ Below w2.heap.size w2 w9) (fun i _ => ll.length - (intOf i).toNat)
  case atStart => exact ⟨0, Nat.zero_le _, rfl, fun x hx => by simp at hx, Below.refl _ _⟩
  case round =>
    obtain ⟨k, hkn, rfl, hall, hb⟩ := hrel
    have HA := Lib.hid hall
    clear hall
    have B3 := B2.step hb
    have hbz := hb.size
    by_cases hlt : k < ll.length
    · have hlti : (k : Int) < (ll.length : Int) := by omega
      obtain ⟨bm, om, ar, cr, r, rfl, hbm, hr, hcm, hir⟩ := (HI.out.below hb).2 k hlt
      have hrl := HRW.out r (List.mem_of_getElem? hr)
      obtain ⟨br, or', d, rfl, hbr, hd, hcd⟩ := hir.2 l.length (by omega)
      have hli : (l.length : Int) < (r.length : Int) := by omega
      have HRL := Lib.hid hrl
      have HIR := Lib.hid hir
      have HRR := Lib.hid hr
      have HD := Lib.hid hd
      clear hir hr hd
      cases hd0 : (d == 0)
      · have HE := Lib.hid (HAT.out k r d HRR.out HD.out hd0)
        go_wp2_with fail
        have hr0 := OwnInts.made wr wr.heap.size (Nat.le_refl _)
        have hrb : Below wr.heap.size wr (wr.alloc (.cells #[] 3)) := (Below.refl _ _).alloc (Nat.le_refl _) _
        have HR0 := Lib.hid hr0
        clear hr0
        obtain ⟨wo, hwo⟩ : ∃ wo, wo = wr := ⟨_, rfl⟩
        subst hwo
        generalize wo.alloc (.cells #[] 3) = w3 at *
        go_loopw [11, 12] (fun o i w9 => ∃ (j : Nat) (l2 : List Int), j ≤ l.length ∧ i = .int .i64 j ∧ l2.length = j ∧ OwnInts w9 wo.heap.size o l2 ∧ Below wo.heap.size wo w9) (fun _ i _ => l.length - (intOf i).toNat)
        case atStart => exact ⟨0, [], Nat.zero_le _, rfl, rfl, HR0.out, hrb⟩
        case round =>
          clear hrb HR0
          obtain ⟨j, l2, hj, rfl, hl2, hor, hbr2⟩ := hrel
          have HU := Lib.hid hor
          have HL2 := Lib.hid hl2
          clear hor hl2
          have hbz2 := hbr2.size
          by_cases hjl : j < l.length
          · have hjli : (j : Int) < (l.length : Int) := by omega
            obtain ⟨b', o', y, hab, hb', hy, hcy⟩ := (HIR.out.below hbr2).2 j (by omega)
            simp only [Option.some.injEq, Addr.mk.injEq, and_true] at hab
            obtain ⟨rfl, rfl⟩ := hab
            have hcm2 := ((bcell hbr2).1 _ _ hbm).trans hcm
            have hjr : (j : Int) < (r.length : Int) := by omega
            clear hy
            by_cases hpos : 0 < d
            · have hpd : decide (0 < d) = true := decide_eq_true hpos
              go_wp2_with (at_builtin; refine app1 rfl (.tmp 48) (.tmp 57) rfl rfl HU.out _ rfl (by rw [HL2.out]; omega) hbz2 ?_; intro v' w5 h5 k5)
              go_roundw
              case rel => exact ⟨j + 1, _, by omega, by go_num, by rw [List.length_append, HL2.out]; rfl, h5, hbr2.trans (k5.setOwn HU.out (Nat.le_refl _) hbz2)⟩
              case measure => simp [intOf]; omega
            · have hpd : decide (0 < d) = false := decide_eq_false hpos
              go_wp2_with (at_builtin; refine app1 rfl (.tmp 59) (.tmp 67) rfl rfl HU.out _ rfl (by rw [HL2.out]; omega) hbz2 ?_; intro v' w5 h5 k5)
              go_roundw
              case rel => exact ⟨j + 1, _, by omega, by go_num, by rw [List.length_append, HL2.out]; rfl, h5, hbr2.trans (k5.setOwn HU.out (Nat.le_refl _) hbz2)⟩
              case measure => simp [intOf]; omega
          · have hjli : ¬ (j : Int) < (l.length : Int) := by omega
            go_wp2_with fail
            all_goals
              go_ret3
              exact ⟨_, _, by rw [HE.out]; rfl, B3.step hbr2⟩
      · have HD0 := Lib.hid (eq_of_beq hd0)
        go_wp2_with fail
        go_roundw
        case rel => exact ⟨k + 1, by omega, by go_num, fun x hx => (by
          rw [take_succ_of HRR.out] at hx
          rcases List.mem_append.1 hx with h | h
          · exact HA.out x h
          · simp at h; subst h; rw [HD.out]; exact HD0.out), hb⟩
        case measure => simp [intOf]; omega
    · obtain rfl : k = ll.length := by omega
      have hlti : ¬ (ll.length : Int) < (ll.length : Int) := by omega
      have HE := Lib.hid (HNO.out (by have h := HA.out; rwa [List.take_length] at h))
      go_wp2_with fail
      go_ret3
      exact ⟨_, _, by rw [HE.out]; rfl, B3.step ((Below.refl _ _).alloc (Nat.le_refl _) _)⟩

set_option maxHeartbeats 4000000 in
theorem spec_canAt (W : World) (p : Int) (a : Option Addr) (cap : Nat) (l : List BarT) (c : Option Addr) (capc : Nat) (q : List PlaceT) (h : BarsAt W a l.length l) (hq : PlacesAt W c q.length q) (hs : l.length + q.length ≤ 1048576) (va : Option Addr) (n vcap : Nat) (v : List Int) (hv : IntsAt W va n v) (hvn : n ≤ 1048576) :
    Calls Try.prog 7 #[.agg #[.int .i64 p, .slice a l.length cap, .slice c q.length capc], .slice va n vcap] W fun e w' => e = .returned (.bool (bearB (p, l, q) v)) ∧ Below W.heap.size W w' := by
  have hwd := @Wd.cells
  have HFw : Hid (IsFw W (.agg #[.int .i64 p, .slice a l.length cap, .slice c q.length capc]) (p, l, q)) := Lib.hid ⟨a, cap, c, capc, rfl, h, hq⟩
  have H1 := Lib.hid h
  have H2 := Lib.hid hq
  clear h hq
  have hsz : szFw (p, l, q) ≤ 1048576 := hs
  have hs1 : l.length ≤ 1048576 := by omega
  have hs2 : q.length ≤ 1048576 := by omega
  have B : Below W.heap.size W (W.alloc (.cells #[.int .i64 p, .slice a l.length cap, .slice c q.length capc] 36)) := (Below.refl _ _).alloc (Nat.le_refl _) _
  have BX : Hid (BoxFw (W.alloc (.cells #[.int .i64 p, .slice a l.length cap, .slice c q.length capc] 36)) W.heap.size p a l.length cap c q.length capc) := Lib.hid (BoxFw.at rfl)
  have HV := Lib.hid (hv.below B)
  clear hv
  go_enter Try.func7, Try.ntmps7
  go_wp2_with fail
  generalize (W.alloc (.cells #[.int .i64 p, .slice a l.length cap, .slice c q.length capc] 36)) = u at *
  obtain ⟨zBX, fBX0, fBX1, fBX2⟩ := BX.out
  refine (specBear_at _ _ _ _ _ _ _ _ (H1.out.below B) (H2.out.below B) hs _ _ _ _ HV.out hvn).mono ?_
  rintro e w1 ⟨vo, d, rfl, b⟩
  go_wp2_with fail
  go_ret
  exact ⟨rfl, B.step b⟩
theorem spec_CanBear (W : World) (v0 : Value) (f : FwT) (h : IsFw W v0 f) (v1 : Value) (v : List Int) (hv : IsInts W v1 v) (hn : szFw f ≤ 1048576) (hvn : v.length ≤ 1048576) :
    Calls Try.prog 7 #[v0, v1] W fun e w' => e = .returned (.bool (bearB f v)) ∧ Below W.heap.size W w' := by
  obtain ⟨p, l, q⟩ := f
  obtain ⟨a, cap, c, capc, rfl, hi, hj⟩ := h
  obtain ⟨va, vc, rfl, hvi⟩ := hv
  exact spec_canAt _ _ _ _ _ _ _ _ hi hj hn _ _ _ _ hvi hvn
end Go.Proofs.Ytchlmnlaaloipaa

namespace Go.Proofs.Ytchlmnlaaloipaa
open Go.RowKit Gr
set_option maxRecDepth 100000
set_option linter.unusedVariables false
set_option linter.unusedSimpArgs false


set_option maxHeartbeats 8000000 in
theorem implBear_at (W : World) (p : Int) (a : Option Addr) (cap : Nat) (l : List BarT) (c : Option Addr) (capc : Nat) (q : List PlaceT) (h : BarsAt W a l.length l) (hq : PlacesAt W c q.length q) (hs : l.length + q.length ≤ 1048576) (va : Option Addr) (n vcap : Nat) (v : List Int) (hv : IntsAt W va n v) (hvn : n ≤ 1048576) :
    Calls Try.prog 25 #[.agg #[.int .i64 p, .slice a l.length cap, .slice c q.length capc], .slice va n vcap] W (RetBear W (bearB (p, l, q) v)) := by
  have hwd := @Wd.cells
  have HFw : Hid (IsFw W (.agg #[.int .i64 p, .slice a l.length cap, .slice c q.length capc]) (p, l, q)) := Lib.hid ⟨a, cap, c, capc, rfl, h, hq⟩
  have H1 := Lib.hid h
  have H2 := Lib.hid hq
  clear h hq
  have hsz : szFw (p, l, q) ≤ 1048576 := hs
  have hs1 : l.length ≤ 1048576 := by omega
  have hs2 : q.length ≤ 1048576 := by omega
  have B : Below W.heap.size W (W.alloc (.cells #[.int .i64 p, .slice a l.length cap, .slice c q.length capc] 36)) := (Below.refl _ _).alloc (Nat.le_refl _) _
  have BX : Hid (BoxFw (W.alloc (.cells #[.int .i64 p, .slice a l.length cap, .slice c q.length capc] 36)) W.heap.size p a l.length cap c q.length capc) := Lib.hid (BoxFw.at rfl)
  have HV := Lib.hid (hv.below B)
  have B0 := B
  have HVL := Lib.hid hv.1
  clear hv
  cases hlb : loadB (p, l, q) v
  · have HE := Lib.hid (bear_no hlb)
    go_enter Try.func25, Try.ntmps25
    go_wp2_with fail
    generalize (W.alloc (.cells #[.int .i64 p, .slice a l.length cap, .slice c q.length capc] 36)) = u at *
    obtain ⟨zBX, fBX0, fBX1, fBX2⟩ := BX.out
    refine (isLoad_at _ _ _ _ _ _ _ _ (H1.out.below B) (H2.out.below B) hs1 hs2 hs _ _ _ _ HV.out (by omega)).mono ?_
    rintro e w1 ⟨rfl, b⟩
    rw [hlb]
    go_wp2_with fail
    go_ret3
    exact ⟨_, _, by rw [HE.out]; rfl, (B.step b).step ((Below.refl _ _).alloc (Nat.le_refl _) _)⟩
  obtain ⟨hf, hvl, hv4⟩ := loadB_facts hlb
  have HVL2 := HVL.out
  obtain ⟨⟨hg1, hg2⟩, hg3, hg4, _, hg6⟩ := isFw_facts hf
  have hl24 : l.length ≤ 24 := by omega
  have HLB := Lib.hid hlb
  have HRW : Hid (∀ r ∈ bearL (p, l, q) v, r.length = l.length + 1) := Lib.hid fun r hr => bearL_row hr
  have HAT : Hid (∀ (k : Nat) (r : List Int) (d : Int), (bearL (p, l, q) v)[k]? = some r → r[l.length]? = some d → (d == 0) = false → bearB (p, l, q) v = true) := Lib.hid fun k r d h1 h2 h3 => bear_at HLB.out h1 h2 h3
  have HNO : Hid ((∀ x ∈ bearL (p, l, q) v, x[l.length]?.getD 0 = 0) → bearB (p, l, q) v = false) := Lib.hid fun h => bear_none h
  have hlen := bearL_len (p, l, q) v
  have hll25 : (bearL (p, l, q) v).length ≤ 25 := by dsimp only at hlen; omega
  clear hlen
  have hvn2 := HVL.out
  have hN : 2 * p.toNat = n := by omega
  have hn0 : 0 < n := by omega
  have hn16 : n ≤ 16 := by omega
  have hml := rigM_len hf
  have HF0 := Lib.hid (fit_rig hf)
  have HFIT := Lib.hid (fit_aug hf hv4)
  rw [hN] at HFIT
  have HLLE : Hid (bearL (p, l, q) v = nullL (augL (rigM (p, l, q)) n v) (l.length + 1)) := Lib.hid (by unfold bearL; rw [show 2 * ((p, l, q) : FwT).1.toNat = n from hN])
  have cT : ∀ (w : World) (am : Option Addr) (cm : Nat), IntssAt w am (rigM (p, l, q)).length (rigM (p, l, q)) → Calls Try.prog 46 #[.slice am (rigM (p, l, q)).length cm, .int .i64 (2 * p)] w (RetIntss w (turnL (rigM (p, l, q)) n)) := fun w am cm hi => by
    have := transposed_at (rigM (p, l, q)) (2 * p.toNat) _ HF0.out.rect HF0.out.n0 HF0.out.n64 HF0.out.m64 w am cm hi
    rw [show ((2 * p.toNat : Nat) : Int) = 2 * p by omega] at this
    rwa [hN] at this
  have HT := Lib.hid cT
  clear cT
  have cRM : ∀ w1, Below W.heap.size W w1 → Calls Try.prog 47 #[.agg #[.int .i64 p, .slice a l.length cap, .slice c q.length capc]] w1 (RetIntss w1 (rigM (p, l, q))) := fun w1 b => impl_RigidityMatrix _ _ (p, l, q) (HFw.out.below b) hsz
  have HRM := Lib.hid cRM
  clear cRM
  have cR : ∀ (w : World) (am : Option Addr) (cm : Nat), IntssAt w am (augL (rigM (p, l, q)) n v).length (augL (rigM (p, l, q)) n v) → Calls Try.prog 48 #[.slice am (augL (rigM (p, l, q)) n v).length cm, .int .i64 ((l.length : Int) + 1)] w (RetIntss w (nullL (augL (rigM (p, l, q)) n v) (l.length + 1))) := fun w am cm hi =>
    nullspace_fit (augL (rigM (p, l, q)) n v) (l.length + 1) _ _ HFIT.out w am cm hi
  rw [augL_length] at cR
  have HR := Lib.hid cR
  clear cR
  have HML := Lib.hid hml
  have hM24 : (rigM (p, l, q)).length ≤ 24 := by omega
  have hw := IntWalk.i64_in (2 * p) (by omega)
  have HPN : Hid (2 * p = (n : Int)) := Lib.hid (by omega)
  clear hml hvl hg3 hvn2 HVL2
  generalize rigM (p, l, q) = M at *
  clear HF0 HFIT hf
  go_enter Try.func25, Try.ntmps25
  go_wp2_with fail
  generalize hu : (W.alloc (.cells #[.int .i64 p, .slice a l.length cap, .slice c q.length capc] 36)) = u at *
  have hub : W.heap.size < u.heap.size := by rw [← hu]; simp
  clear hu
  obtain ⟨zBX, fBX0, fBX1, fBX2⟩ := BX.out
  refine (isLoad_at _ _ _ _ _ _ _ _ (H1.out.below B) (H2.out.below B) hs1 hs2 hs _ _ _ _ HV.out (by omega)).mono ?_
  rintro e w1 ⟨rfl, b⟩
  have BU := b
  replace B := B.step b
  clear zBX fBX0 fBX1 fBX2
  replace BX := Lib.hid (BX.out.below b)
  rw [hlb]
  clear b hlb
  obtain ⟨zBX, fBX0, fBX1, fBX2⟩ := BX.out
  go_wp2_with fail
  have bd : Below w1.heap.size w1 w1.drew := (Below.refl _ _).drew
  replace B := B.step bd
  replace BU := BU.step bd
  replace BX := Lib.hid (BX.out.below bd)
  clear bd
  clear zBX fBX0 fBX1 fBX2
  have tk1 := True.intro
  have tk2 := True.intro
  go_region_held3 (fun w' => w'.cell? ⟨W.heap.size, 0, none⟩ = some (.int .i64 p) ∧ w'.cell? ⟨W.heap.size, 1, none⟩ = some (.slice a l.length cap) ∧ w'.cell? ⟨W.heap.size, 2, none⟩ = some (.slice c q.length capc))
    (with_reducible exact ⟨BX.out.c0, BX.out.c1, BX.out.c2⟩)
    (first
      | (clear tk1; go_at_call 47; refine (HRM.out _ B).mono ?_; rintro e w4 ⟨v, rfl, ho, b⟩; have hz4 := b.size; replace B := B.step b; replace BU := BU.step b; replace BX := Lib.hid (BX.out.below b); clear b; obtain ⟨am, cm, rfl, hi⟩ := ho.form; have HI := Lib.hid hi; clear hi ho)
      | (clear tk2; go_at_call 46; refine (HT.out _ _ _ HI.out).mono ?_; rintro e w5 ⟨v5, rfl, ho, b⟩; have hz5 := BU.size; have HOT := Lib.hid (ownsRow_base' ho hz5); replace B := B.step b; replace BU := BU.step b; replace BX := Lib.hid (BX.out.below b); clear b ho)
      | fail)
  all_goals
    obtain ⟨g, cg, vs0, rfl, hmo⟩ := HOT.out.mat (by rw [turnL_length]; exact hn0)
    simp only [turnL_length] at hmo ⊢
    rw [← stB_zero M v n] at hmo
    have HM0 := Lib.hid hmo
    clear hmo
    go_wp2_with fail
    go_loopw [33] (fun cv w9 => ∃ (k : Nat) (vs : List Value), k ≤ n ∧ cv = .int .i64 k ∧ MatO w9 u.heap.size g n cg vs (stB M v n k) ∧ Below u.heap.size u w9) (fun cv _ => n - (intOf cv).toNat)
    case atStart => exact ⟨0, _, Nat.zero_le _, rfl, HM0.out, BU⟩
    case round =>
      obtain ⟨k, vs, hk, rfl, hmo, hb⟩ := hrel
      have HM := Lib.hid hmo
      have hg := hmo.blk.1
      have hgb := hmo.blk.2
      clear hmo
      have hz9 := hb.size
      by_cases hlt : k < n
      · obtain ⟨bl, ol, x, rfl, hbl, hx, hcu⟩ := HV.out.2 k hlt
        have hcx := ((bcell hb).1 _ (ol + k) hbl).trans hcu
        have HX := Lib.hid hx
        clear hx
        have hvl := HM.out.len.1
        have hv : vs[k]? = some vs[k] := List.getElem?_eq_getElem (by omega)
        have hcc := World.ownsRow.cellAt HM.out.out k (by omega)
        rw [hv] at hcc
        have hfz := HM.out.froz k
        generalize vs[k] = vk at hv hcc
        have HVK := Lib.hid hv
        have HO := Lib.hid (HM.out.rows.own k _ _ hv (stB_get hlt))
        clear hv hvl
        have hlc : (k : Int) < (n : Int) := by omega
        have hlc2 : (0 : Int) ≤ (k : Int) := by omega
        have bu : Below wr.heap.size wr (wr.alloc (.cells #[.int .i64 x] 3)).drew := ((Below.refl _ wr).alloc (Nat.le_refl _) _).drew
        have d1 : wr.drew.cell? ⟨g, k, none⟩ = _ := hcc
        have d2 : wr.drew.cell? ⟨bl, ol + k, none⟩ = _ := hcx
        have s1 : (wr.alloc (.cells #[.int .i64 x] 3)).drew.cell? ⟨g, k, none⟩ = _ := ((bcell bu).1 _ _ (by omega)).trans hcc
        have s2 : (wr.alloc (.cells #[.int .i64 x] 3)).drew.cell? ⟨bl, ol + k, none⟩ = _ := ((bcell bu).1 _ _ (by omega)).trans hcx
        have s3 : (wr.alloc (.cells #[.int .i64 x] 3)).drew.cell? ⟨wr.heap.size, 0, none⟩ = some (.int .i64 x) := by show (wr.alloc _).cell? _ = _; simp [World.cell?_alloc_new]
        have HM2 := Lib.hid (HM.out.below bu)
        have HO2 := Lib.hid (HO.out.below bu)
        have hzd : u.heap.size ≤ (wr.alloc (.cells #[.int .i64 x] 3)).drew.heap.size := by have := bu.size; omega
        have hzd2 : wr.heap.size < (wr.alloc (.cells #[.int .i64 x] 3)).drew.heap.size := by show _ < (wr.alloc _).heap.size; simp
        go_wp2_with fail
        go_region_law (first
            | (refine stepInts1 (by rfl) (.tmp 41) (.tmp 46) (by rfl) (by rfl) HO2.out x wr.heap.size (by rfl) s3 (by rw [colL_length]; omega) hzd ?_
               intro v' w5 h5 k5 ha5
               obtain ⟨av, cv, rfl, hiv⟩ := h5.form
               clear hiv
               have H5 := Lib.hid h5
               clear h5
               have t1 := (k5.cell (b := g) (o := k) (by omega) (fun e => outer_apart HM2.out.out HO2.out _ rfl e.symm)).trans s1
               have t2 := (k5.cell (b := bl) (o := ol + k) (by omega) (fun e => by have := (HO2.out.lt bl e.symm).1; omega)).trans s2
               have t3 := (k5.frozen (b := g) (o := k) (by omega) (fun e => outer_apart HM2.out.out HO2.out _ rfl e.symm)).trans (HM2.out.froz k))
            | fail)
        all_goals
          go_wp2_with fail
          go_roundw
          case rel =>
            refine ⟨k + 1, vs.set k (.slice av ((colL M M.length k).length + 1) cv), by omega, by go_num, ?_, ?_⟩
            · have h1 := HM2.out.put HVK.out (stB_get hlt) k5 H5.out (ha5.imp id fun h b hb => by rw [h] at hb; exact Nat.le_of_eq (Option.some.inj hb))
              have e2 : (colL M M.length k ++ [x]).length = (colL M M.length k).length + 1 := by simp
              rw [stB_set HX.out, e2] at h1
              exact h1
            · exact ((hb.trans (bu.mono (by omega))).trans (k5.setOwn HO2.out (Nat.le_refl _) hzd)).setCell (p := ⟨g, k, none⟩) hgb _
          case measure => simp [intOf]; omega
      · obtain rfl : k = n := by omega
        have HIM : Hid (IntssAt wr (some ⟨g, 0, none⟩) k (augL M k v)) := Lib.hid (by
          have h1 := HM.out.own
          rw [stB_done] at h1
          obtain ⟨a9, c9, e9, h9⟩ := h1.form
          rw [augL_length] at e9 h9
          simp only [Value.slice.injEq, true_and] at e9
          obtain ⟨rfl, rfl⟩ := e9
          exact h9)
        go_wp2_with fail
        refine (HR.out _ _ _ HIM.out).mono ?_
        rintro e w6 ⟨v6, rfl, ho, b⟩
        rw [← HLLE.out] at ho
        have B6 := B0.trans ((hb.mono (by omega : W.heap.size ≤ _)).trans (b.mono (by omega)))
        clear b
        generalize bearL (p, l, q) v = ll at *
        obtain ⟨am6, cm6, rfl, _⟩ := ho.form
        have HO6 := Lib.hid ho
        clear ho HR HT HRM
        go_wp2_with fail
        go_loopw [55] (fun i w9 => ∃ k : Nat, k ≤ ll.length ∧ i = .int .i64 k ∧ (∀ x ∈ ll.take k, x[l.length]?.getD 0 = 0) ∧ Below w6.heap.size w6 w9) (fun i _ => ll.length - (intOf i).toNat)
        case atStart => exact ⟨0, Nat.zero_le _, rfl, fun x hx => by simp at hx, Below.refl _ _⟩
        case round =>
          obtain ⟨k, hkn, rfl, hall, hb7⟩ := hrel
          have HA := Lib.hid hall
          clear hall
          have B7 := B6.step hb7
          have HO7 := Lib.hid (HO6.out.below hb7)
          by_cases hlt : k < ll.length
          · have hlti : (k : Int) < (ll.length : Int) := by omega
            obtain ⟨g7, cap7, br, cr, r, hv9, hg7, hcm, hr, hir, hcr⟩ := HO7.out.rowIn hlt (fun r hr => by rw [HRW.out r hr]; omega)
            simp only [Value.slice.injEq, true_and] at hv9
            obtain ⟨rfl, rfl⟩ := hv9
            have hrl := HRW.out r (List.mem_of_getElem? hr)
            obtain ⟨b', o', d, hab, hbr, hd, hcd⟩ := hir.2 l.length (by omega)
            simp only [Option.some.injEq, Addr.mk.injEq, and_true] at hab
            obtain ⟨rfl, rfl⟩ := hab
            rw [Nat.zero_add] at hcd
            have hli : (l.length : Int) < (r.length : Int) := by omega
            have hcr0 : ¬ cr = 0 := by omega
            have hcri : (l.length : Int) ≤ (cr : Int) := by omega
            have hcrn : l.length ≤ cr := by omega
            have HIT := Lib.hid (hir.takeN (show l.length ≤ r.length by omega))
            have HRL := Lib.hid hrl
            have HRR := Lib.hid hr
            have HD := Lib.hid hd
            clear hir hr hd hcr hrl
            cases hd0 : (d == 0)
            · have HE := Lib.hid (HAT.out k r d HRR.out HD.out hd0)
              go_wp2_with fail
              refine (copyInts_any _ _ _ _ _ HIT.out (by omega)).mono ?_
              rintro e w8 ⟨v8, rfl, ho8, b8⟩
              have hl8 : (r.take l.length).length = l.length := by rw [List.length_take, HRL.out]; omega
              have B8 := B7.step b8
              have hz8 := b8.size
              obtain ⟨a8, c8, e8, _⟩ := ho8.form
              rw [hl8] at e8
              subst e8
              have HO8 := Lib.hid ho8
              have HL8 := Lib.hid hl8
              clear ho8 hl8 b8
              obtain ⟨w9, hw9⟩ : ∃ w9, w9 = w8 := ⟨_, rfl⟩
              subst hw9
              obtain ⟨wo, hwo⟩ : ∃ wo, wo = wr := ⟨_, rfl⟩
              subst hwo
              by_cases hpos : 0 < d
              · have hpd : decide (0 < d) = true := decide_eq_true hpos
                go_wp2_with fail
                go_loopw [73] (fun i wx => ∃ (j : Nat) (l2 : List Int), j ≤ l.length ∧ i = .int .i64 j ∧ l2.length = l.length ∧ OwnInts wx wo.heap.size (.slice a8 l.length c8) l2 ∧ Below wo.heap.size w9 wx) (fun i _ => l.length - (intOf i).toNat)
                case atStart => exact ⟨0, _, Nat.zero_le _, rfl, HL8.out, HO8.out, (Below.refl _ _).mono hz8⟩
                case round =>
                  obtain ⟨j, l2, hj, rfl, hl2, hor, hbr2⟩ := hrel
                  have HU := Lib.hid hor
                  have HL2 := Lib.hid hl2
                  clear hor hl2
                  by_cases hjl : j < l.length
                  · have hjli : (j : Int) < (l.length : Int) := by omega
                    obtain ⟨g8, rfl, _⟩ := HU.out.blk (by rw [HL2.out]; omega)
                    have hou : OwnInts wr wo.heap.size (.slice (some ⟨g8, 0, none⟩) l2.length c8) l2 := by rw [HL2.out]; exact HU.out
                    obtain ⟨y, hy⟩ : ∃ y, l2[j]? = some y := ⟨_, List.getElem?_eq_getElem (by rw [HL2.out]; exact hjl)⟩
                    have e1 := hou.cellAt hy
                    have e2 := hou.frozAt j
                    have hst := fun z => hou.setAt (j := j) z
                    have hg8 := hou.lt g8 rfl
                    have HST := Lib.hid hst
                    clear hst hou hy
                    go_wp2_with fail
                    go_roundw
                    case rel =>
                      have h9 := HST.out (wrap64 (-y))
                      rw [HL2.out] at h9
                      exact ⟨j + 1, _, by omega, by go_num, by rw [List.length_set, HL2.out], h9, hbr2.setCell (p := ⟨g8, j, none⟩) hg8.1 _⟩
                    case measure => simp [intOf]; omega
                  · have hjli : ¬ (j : Int) < (l.length : Int) := by omega
                    go_wp2_with fail
                    all_goals
                      go_ret3
                      exact ⟨_, _, by rw [HE.out]; rfl, B8.trans (hbr2.mono (by have := B7.size; omega))⟩
              · have hpd : decide (0 < d) = false := decide_eq_false hpos
                go_wp2_with fail
                all_goals
                  go_ret3
                  exact ⟨_, _, by rw [HE.out]; rfl, B8⟩
            · have HD0 := Lib.hid (eq_of_beq hd0)
              go_wp2_with fail
              go_roundw
              case rel => exact ⟨k + 1, by omega, by go_num, fun x hx => (by
                rw [take_succ_of HRR.out] at hx
                rcases List.mem_append.1 hx with h | h
                · exact HA.out x h
                · simp at h; subst h; rw [HD.out]; exact HD0.out), hb7⟩
              case measure => simp [intOf]; omega
          · obtain rfl : k = ll.length := by omega
            have hlti : ¬ (ll.length : Int) < (ll.length : Int) := by omega
            have HE := Lib.hid (HNO.out (by have h := HA.out; rwa [List.take_length] at h))
            go_wp2_with fail
            go_ret3
            exact ⟨_, _, by rw [HE.out]; rfl, B7.step ((Below.refl _ _).alloc (Nat.le_refl _) _)⟩

set_option maxHeartbeats 4000000 in
theorem impl_canAt (W : World) (p : Int) (a : Option Addr) (cap : Nat) (l : List BarT) (c : Option Addr) (capc : Nat) (q : List PlaceT) (h : BarsAt W a l.length l) (hq : PlacesAt W c q.length q) (hs : l.length + q.length ≤ 1048576) (va : Option Addr) (n vcap : Nat) (v : List Int) (hv : IntsAt W va n v) (hvn : n ≤ 1048576) :
    Calls Try.prog 10 #[.agg #[.int .i64 p, .slice a l.length cap, .slice c q.length capc], .slice va n vcap] W fun e w' => e = .returned (.bool (bearB (p, l, q) v)) ∧ Below W.heap.size W w' := by
  have hwd := @Wd.cells
  have HFw : Hid (IsFw W (.agg #[.int .i64 p, .slice a l.length cap, .slice c q.length capc]) (p, l, q)) := Lib.hid ⟨a, cap, c, capc, rfl, h, hq⟩
  have H1 := Lib.hid h
  have H2 := Lib.hid hq
  clear h hq
  have hsz : szFw (p, l, q) ≤ 1048576 := hs
  have hs1 : l.length ≤ 1048576 := by omega
  have hs2 : q.length ≤ 1048576 := by omega
  have B : Below W.heap.size W (W.alloc (.cells #[.int .i64 p, .slice a l.length cap, .slice c q.length capc] 36)) := (Below.refl _ _).alloc (Nat.le_refl _) _
  have BX : Hid (BoxFw (W.alloc (.cells #[.int .i64 p, .slice a l.length cap, .slice c q.length capc] 36)) W.heap.size p a l.length cap c q.length capc) := Lib.hid (BoxFw.at rfl)
  have HV := Lib.hid (hv.below B)
  clear hv
  go_enter Try.func10, Try.ntmps10
  go_wp2_with fail
  generalize (W.alloc (.cells #[.int .i64 p, .slice a l.length cap, .slice c q.length capc] 36)) = u at *
  obtain ⟨zBX, fBX0, fBX1, fBX2⟩ := BX.out
  refine (implBear_at _ _ _ _ _ _ _ _ (H1.out.below B) (H2.out.below B) hs _ _ _ _ HV.out hvn).mono ?_
  rintro e w1 ⟨vo, d, rfl, b⟩
  go_wp2_with fail
  go_ret
  exact ⟨rfl, B.step b⟩
theorem impl_CanBear (W : World) (v0 : Value) (f : FwT) (h : IsFw W v0 f) (v1 : Value) (v : List Int) (hv : IsInts W v1 v) (hn : szFw f ≤ 1048576) (hvn : v.length ≤ 1048576) :
    Calls Try.prog 10 #[v0, v1] W fun e w' => e = .returned (.bool (bearB f v)) ∧ Below W.heap.size W w' := by
  obtain ⟨p, l, q⟩ := f
  obtain ⟨a, cap, c, capc, rfl, hi, hj⟩ := h
  obtain ⟨va, vc, rfl, hvi⟩ := hv
  exact impl_canAt _ _ _ _ _ _ _ _ hi hj hn _ _ _ _ hvi hvn
end Go.Proofs.Ytchlmnlaaloipaa

namespace Go.Proofs.Ytchlmnlaaloipaa
open Go.RowKit
set_option maxRecDepth 100000
set_option linter.unusedVariables false
set_option linter.unusedSimpArgs false

set_option maxHeartbeats 8000000 in
theorem walkFnExactCanBear (W : World) (v0 : Value) (x0 : FwT) (r0 : IsFw W v0 x0) (ok0 : OkFw x0) (v1 : Value) (x1 : List Int) (r1 : IsInts W v1 x1) (ok1 : OkInts x1) :
    Calls Try.prog 3 #[v0, v1] W fun e w' => e = .returned (.bool true) ∧ Below W.heap.size W w' := by
  obtain ⟨p0, l0, q0⟩ := x0
  obtain ⟨a0, cap0, c0, capc0, rfl, hi0, hj0⟩ := r0
  dsimp only at hi0 hj0
  have R0 : Hid (IsFw W (.agg #[.int .i64 p0, .slice a0 l0.length cap0, .slice c0 q0.length capc0]) (p0, l0, q0)) := Lib.hid ⟨a0, cap0, c0, capc0, rfl, hi0, hj0⟩
  clear hi0 hj0
  obtain ⟨a1, cap1, rfl, hi1⟩ := r1
  have R1 : Hid (IsInts W (.slice a1 x1.length cap1) x1) := Lib.hid ⟨a1, cap1, rfl, hi1⟩
  clear hi1
  have hle1 := ok1.1
  dsimp only
  have BP0 : Hid (BoxFw (W.alloc (.cells #[.int .i64 p0, .slice a0 l0.length cap0, .slice c0 q0.length capc0] 27)) (W.heap.size) p0 a0 l0.length cap0 c0 q0.length capc0) := Lib.hid (BoxFw.at (by simp))
  have BB : Below W.heap.size W (W.alloc (.cells #[.int .i64 p0, .slice a0 l0.length cap0, .slice c0 q0.length capc0] 27)) := (Below.refl W.heap.size W).alloc (by simp <;> omega) _
  have hzu : (W.alloc (.cells #[.int .i64 p0, .slice a0 l0.length cap0, .slice c0 q0.length capc0] 27)).heap.size = W.heap.size + 1 := by simp
  by_cases hbig0 : 1048576 < x1.length
  · go_enter Try.func3, Try.ntmps3
    have B := BB
    go_wp2_with fail
    go_ret
    exact ⟨rfl, B⟩
  by_cases hbig1 : 1048576 < szFw (p0, l0, q0)
  · go_enter Try.func3, Try.ntmps3
    have B := BB
    go_wp2_with fail
    generalize (W.alloc (.cells #[.int .i64 p0, .slice a0 l0.length cap0, .slice c0 q0.length capc0] 27)) = u0 at *
    obtain ⟨zBP0, fBP00, fBP01, fBP02⟩ := BP0.out
    refine (szFw_h _ _ (p0, l0, q0) (1048576) (R0.out.below B) ok0 (by omega) (by omega)).mono ?_
    rintro e w1 ⟨rfl, b⟩
    have hzw1 := b.size
    clear zBP0 fBP00 fBP01 fBP02
    replace B := B.step b
    replace BP0 := Lib.hid (BP0.out.below b)
    clear b
    obtain ⟨zBP0, fBP00, fBP01, fBP02⟩ := BP0.out
    rw [szRes_pos (by omega)]
    go_wp2_with fail
    go_ret
    exact ⟨rfl, B⟩
  have hsm1 : x1.length ≤ 1048576 := by omega
  have hsm0 : szFw (p0, l0, q0) ≤ 1048576 := by omega
  go_enter Try.func3, Try.ntmps3
  have B := BB
  go_wp2_with fail
  generalize (W.alloc (.cells #[.int .i64 p0, .slice a0 l0.length cap0, .slice c0 q0.length capc0] 27)) = u0 at *
  obtain ⟨zBP0, fBP00, fBP01, fBP02⟩ := BP0.out
  refine (szFw_h _ _ (p0, l0, q0) (1048576) (R0.out.below B) ok0 (by omega) (by omega)).mono ?_
  rintro e w1 ⟨rfl, b⟩
  have hzw1 := b.size
  clear zBP0 fBP00 fBP01 fBP02
  replace B := B.step b
  replace BP0 := Lib.hid (BP0.out.below b)
  clear b
  obtain ⟨zBP0, fBP00, fBP01, fBP02⟩ := BP0.out
  rw [szRes_neg (by omega)]
  go_wp2_with fail
  refine (toFw_h _ _ (p0, l0, q0) (R0.out.below B) hsm0).mono ?_
  rintro e w2 ⟨ya0, rfl, o0, b⟩
  have hzw2 := b.size
  clear zBP0 fBP00 fBP01 fBP02
  replace B := B.step b
  replace BP0 := Lib.hid (BP0.out.below b)
  clear b
  have oa0 := o0.h
  clear o0
  obtain ⟨zBP0, fBP00, fBP01, fBP02⟩ := BP0.out
  go_wp2_with fail
  refine (toInts_h _ _ x1 (R1.out.below B) hsm1).mono ?_
  rintro e w3 ⟨ya1, rfl, o0, b⟩
  have hzw3 := b.size
  clear zBP0 fBP00 fBP01 fBP02
  replace B := B.step b
  replace BP0 := Lib.hid (BP0.out.below b)
  replace oa0 := oa0.below b
  clear b
  have oa1 := o0.h
  clear o0
  obtain ⟨zBP0, fBP00, fBP01, fBP02⟩ := BP0.out
  go_wp2_with fail
  refine (spec_CanBear _ _ (p0, l0, q0) oa0.is _ x1 oa1.is hsm0 hsm1).mono ?_
  rintro e w4 ⟨rfl, b⟩
  have hzw4 := b.size
  clear zBP0 fBP00 fBP01 fBP02
  replace B := B.step b
  replace BP0 := Lib.hid (BP0.out.below b)
  replace oa0 := oa0.below b
  replace oa1 := oa1.below b
  clear b
  obtain ⟨zBP0, fBP00, fBP01, fBP02⟩ := BP0.out
  clear oa0
  clear oa1
  go_wp2_with fail
  refine (toFw_h _ _ (p0, l0, q0) (R0.out.below B) hsm0).mono ?_
  rintro e w5 ⟨yx, rfl, o0, b⟩
  obtain ⟨vb, vp, ⟨ab0, cb0, ap0, cp0, rfl, rfl, rfl⟩, ob, op⟩ := o0.h
  clear o0
  have hzw5 := b.size
  clear zBP0 fBP00 fBP01 fBP02
  replace B := B.step b
  replace BP0 := Lib.hid (BP0.out.below b)
  clear b
  have ox0 : HFw w5 w4.heap.size w5.heap.size (.agg #[.int .i64 p0, .slice ab0 l0.length cb0, .slice ap0 q0.length cp0]) (p0, l0, q0) := ⟨_, _, ⟨ab0, cb0, ap0, cp0, rfl, rfl, rfl⟩, ob, op⟩
  clear ob op
  dsimp only
  obtain ⟨zBP0, fBP00, fBP01, fBP02⟩ := BP0.out
  go_wp2_with fail
  clear zBP0 fBP00 fBP01 fBP02
  have ba : Below w5.heap.size w5 (w5.alloc (.cells #[.int .i64 p0, .slice ab0 l0.length cb0, .slice ap0 q0.length cp0] 36)) := (Below.refl _ _).alloc (Nat.le_refl _) _
  have hzu5 : (w5.alloc (.cells #[.int .i64 p0, .slice ab0 l0.length cb0, .slice ap0 q0.length cp0] 36)).heap.size ≤ w5.heap.size + 1 := by simp
  have hyu5 : w5.heap.size + 1 ≤ (w5.alloc (.cells #[.int .i64 p0, .slice ab0 l0.length cb0, .slice ap0 q0.length cp0] 36)).heap.size := by simp
  replace B := B.step ba
  replace BP0 := Lib.hid (BP0.out.below ba)
  replace ox0 := ox0.below ba
  clear ba
  have BX0 : Hid (BoxFw (w5.alloc (.cells #[.int .i64 p0, .slice ab0 l0.length cb0, .slice ap0 q0.length cp0] 36)) (w5.heap.size) p0 ab0 l0.length cb0 ap0 q0.length cp0) := Lib.hid (BoxFw.at rfl)
  generalize (w5.alloc (.cells #[.int .i64 p0, .slice ab0 l0.length cb0, .slice ap0 q0.length cp0] 36)) = u5 at *
  obtain ⟨zBP0, fBP00, fBP01, fBP02⟩ := BP0.out
  obtain ⟨zBX0, fBX00, fBX01, fBX02⟩ := BX0.out
  refine (toInts_h _ _ x1 (R1.out.below B) hsm1).mono ?_
  rintro e w6 ⟨yx1, rfl, o0, b⟩
  have hzw6 := b.size
  clear zBP0 fBP00 fBP01 fBP02 zBX0 fBX00 fBX01 fBX02
  replace B := B.step b
  replace BP0 := Lib.hid (BP0.out.below b)
  replace BX0 := Lib.hid (BX0.out.below b)
  replace ox0 := ox0.below b
  clear b
  have ox1 := o0.h
  clear o0
  obtain ⟨zBP0, fBP00, fBP01, fBP02⟩ := BP0.out
  obtain ⟨zBX0, fBX00, fBX01, fBX02⟩ := BX0.out
  go_wp2_with fail
  refine (impl_CanBear _ _ (p0, l0, q0) ox0.is _ x1 ox1.is hsm0 hsm1).mono ?_
  rintro e w7 ⟨rfl, b⟩
  have hzw7 := b.size
  clear zBP0 fBP00 fBP01 fBP02 zBX0 fBX00 fBX01 fBX02
  replace B := B.step b
  replace BP0 := Lib.hid (BP0.out.below b)
  replace BX0 := Lib.hid (BX0.out.below b)
  replace ox0 := ox0.below b
  replace ox1 := ox1.below b
  clear b
  obtain ⟨zBP0, fBP00, fBP01, fBP02⟩ := BP0.out
  obtain ⟨zBX0, fBX00, fBX01, fBX02⟩ := BX0.out
  go_wp2_with fail
  have bd : Below w7.heap.size w7 w7.drew := (Below.refl _ _).drew
  have hzd7 := bd.size
  clear zBP0 fBP00 fBP01 fBP02 zBX0 fBX00 fBX01 fBX02
  replace B := B.step bd
  replace BP0 := Lib.hid (BP0.out.below bd)
  replace BX0 := Lib.hid (BX0.out.below bd)
  replace ox0 := ox0.below bd
  replace ox1 := ox1.below bd
  clear bd
  have tk1 := True.intro
  have tk2 := True.intro
  go_region_held3 (fun w' => w'.cell? ⟨W.heap.size, 0, none⟩ = some (.int .i64 p0) ∧ w'.cell? ⟨W.heap.size, 1, none⟩ = some (.slice a0 l0.length cap0) ∧ w'.cell? ⟨W.heap.size, 2, none⟩ = some (.slice c0 q0.length capc0) ∧ w'.cell? ⟨w5.heap.size, 0, none⟩ = some (.int .i64 p0) ∧ w'.cell? ⟨w5.heap.size, 1, none⟩ = some (.slice ab0 l0.length cb0) ∧ w'.cell? ⟨w5.heap.size, 2, none⟩ = some (.slice ap0 q0.length cp0))
    (with_reducible exact ⟨BP0.out.c0, BP0.out.c1, BP0.out.c2, BX0.out.c0, BX0.out.c1, BX0.out.c2⟩)
    (first
      | (clear tk1; go_at_call 8; refine (toFw_h _ _ (p0, l0, q0) (R0.out.below B) hsm0).mono ?_; rintro e w8 ⟨yz0, rfl, o0, b⟩; have hzw8 := b.size; replace B := B.step b; replace BP0 := Lib.hid (BP0.out.below b); replace BX0 := Lib.hid (BX0.out.below b); replace ox0 := ox0.below b; replace ox1 := ox1.below b; clear b; have oz0 := o0.h; clear o0)
      | (clear tk2; go_at_call 11; refine (eqFw_h _ _ _ _ ox0.is oz0.is (by omega)).mono ?_; rintro e w9 ⟨rfl, b⟩; have hzw9 := b.size; replace B := B.step b; replace BP0 := Lib.hid (BP0.out.below b); replace BX0 := Lib.hid (BX0.out.below b); replace ox0 := ox0.below b; replace ox1 := ox1.below b; replace oz0 := oz0.below b; clear b))
  obtain ⟨zBP0, fBP00, fBP01, fBP02⟩ := BP0.out
  obtain ⟨zBX0, fBX00, fBX01, fBX02⟩ := BX0.out
  clear oz0
  go_wp2_with fail
  refine (toInts_h _ _ x1 (R1.out.below B) hsm1).mono ?_
  rintro e w10 ⟨yz1, rfl, o0, b⟩
  have hzw10 := b.size
  clear zBP0 fBP00 fBP01 fBP02 zBX0 fBX00 fBX01 fBX02
  replace B := B.step b
  replace BP0 := Lib.hid (BP0.out.below b)
  replace BX0 := Lib.hid (BX0.out.below b)
  replace ox0 := ox0.below b
  replace ox1 := ox1.below b
  clear b
  have oz1 := o0.h
  clear o0
  obtain ⟨zBP0, fBP00, fBP01, fBP02⟩ := BP0.out
  obtain ⟨zBX0, fBX00, fBX01, fBX02⟩ := BX0.out
  go_wp2_with fail
  refine (eqInts_h _ _ _ _ ox1.is oz1.is (by omega)).mono ?_
  rintro e w11 ⟨rfl, b⟩
  have hzw11 := b.size
  clear zBP0 fBP00 fBP01 fBP02 zBX0 fBX00 fBX01 fBX02
  replace B := B.step b
  replace BP0 := Lib.hid (BP0.out.below b)
  replace BX0 := Lib.hid (BX0.out.below b)
  replace ox0 := ox0.below b
  replace ox1 := ox1.below b
  replace oz1 := oz1.below b
  clear b
  obtain ⟨zBP0, fBP00, fBP01, fBP02⟩ := BP0.out
  obtain ⟨zBX0, fBX00, fBX01, fBX02⟩ := BX0.out
  clear oz1
  go_wp2_with fail
  go_ret
  exact ⟨rfl, B⟩
end Go.Proofs.Ytchlmnlaaloipaa

namespace Go.Proofs.Ytchlmnlaaloipaa
open Go.ChangeShapes Go.WideShapes Go.ChangeAt Go.RowKit
set_option linter.unusedVariables false

theorem ownFnExactCanBear : ownKnob Try.prog.godebug = none := by kernel_rfl
theorem laidOutFnExactCanBear : laidOutB Try.prog = true := by kernel_rfl

set_option maxRecDepth 100000 in
theorem liftedFnExactCanBear (os : Os) (started : os.Started) (H : Type) (enc : TypeId × Value → H) :
    ReturnsInHanded {} Try.checked os 3 .any (Rows.fnExactCanBearSpec.pre6 enc Try.prog Try.f3 Rows.fnExactCanBearRow.domain false) (Rows.fnExactCanBearSpec.post enc Try.prog Try.f3 false true false false) := by
  refine returnsInHanded_of_change (C := Try.checked) ownFnExactCanBear started (by kernel_rfl) Try.func3
    (ChangeSpec.witness6 (enc := enc) (C := Try.checked) false ⟨#[], #[.agg #[.int .i64 0, .slice none 0 0, .slice none 0 0], .slice none 0 0], []⟩ 8 (by kernel_rfl) (by kernel_rfl) (by kernel_rfl) (by kernel_rfl)) ?_
  intro W base args ds gs before hval0 hW hcnd _
  have hval : ∀ (j : Nat) t v, Try.f3.params[j]? = some t → args[j]? = some v → Value.okWide Try.prog W .any base t v := hval0
  have hW' := hW
  obtain ⟨p, q, hA0, hV, rfl, hfz, hnd⟩ := hW
  have hA : DataW.TrodAll enc Try.prog W 0 (fun _ => true) true Try.f3.params.toList args.toList ds p := hA0
  rw [Try.params3] at hA hval
  obtain ⟨v0, vs0, d0, ds0, p0, q0, hargs, rfl, rfl, h0, r0⟩ := trodAll_cons hA
  obtain ⟨v1, vs1, d1, ds1, p1, q1, rfl, rfl, rfl, h1, r1⟩ := trodAll_cons r0
  obtain ⟨rfl, rfl, rfl⟩ := trodAll_nil r1
  obtain rfl : args = #[v0, v1] := by cases args; simp_all
  obtain ⟨rfl, rfl⟩ := trodVars_none hV
  have lt0 : ∀ x ∈ p0, x.block < W.heap.size := by obtain ⟨m, hm⟩ := h0; exact DataW.trod_lt m _ _ _ hm
  obtain ⟨x0, rd0, ok0⟩ := rd_fw (hval 0 27 v0 rfl rfl) h0
  have lt1 : ∀ x ∈ p1, x.block < W.heap.size := by obtain ⟨m, hm⟩ := h1; exact DataW.trod_lt m _ _ _ hm
  obtain ⟨x1, rd1, ok1⟩ := rd_ints (hval 1 28 v1 rfl rfl) h1
  clear hA0 hval0
  refine (walkFnExactCanBear W _ _ rd0 ok0 _ _ rd1 ok1).mono fun e W' ⟨he, bel⟩ => ?_
  subst he
  exact ⟨_, rfl, _, _, _, [], _, [], hW', trodAll_mk1 (shut_bool Try.underlying4 _), (trodAll_cons_mk (Below.trod laidOutFnExactCanBear (by kernel_rfl) (of_decide_eq_true (by kernel_rfl)) h0 bel lt0) (trodAll_cons_mk (Below.trod laidOutFnExactCanBear (by kernel_rfl) (of_decide_eq_true (by kernel_rfl)) h1 bel lt1) trodAll_mk0)), rfl, bel.frame _, fun h => by cases h⟩

theorem holdsFnExactCanBear : Rows.FnExactCanBearSaid :=
  OpenClaim.holds_of_wide 3 Try.f3 rfl rfl rfl rfl rfl rfl rfl ⟨rfl, rfl, rfl, rfl, rfl⟩ rfl rfl rfl rfl rfl (by kernel_rfl) Try.func3 (by kernel_rfl)
    (of_decide_eq_true (by kernel_rfl)) (by unfold Func.isWrapper; rw [if_neg (of_decide_eq_false (by kernel_rfl))]; exact ⟨rfl, rfl⟩)
    (fun os started H enc _ => liftedFnExactCanBear os started H enc)

#print axioms holdsFnExactCanBear
end Go.Proofs.Ytchlmnlaaloipaa

