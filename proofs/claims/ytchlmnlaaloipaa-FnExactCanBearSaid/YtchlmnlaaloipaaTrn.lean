/- The rigidity matrix with rows and columns exchanged, in the reference: l13Turned. No condition but sizes. -/
import Derived.Test.YtchlmnlaaloipaaTrp
import Derived.Test.YtchlmnlaaloipaaFrk
namespace Go.Proofs.Ytchlmnlaaloipaa
open Go.RowKit Gr
set_option maxRecDepth 100000
set_option linter.unusedVariables false
set_option linter.unusedSimpArgs false

def turnR (f : FwT) : List (List Int) := if (rigM f).length = 0 then [] else turnL (rigM f) (2 * f.1.toNat)
def turnTo (M : List (List Int)) (k : Nat) : List (List Int) := (List.range k).map (colL M M.length)
theorem turnTo_succ (M : List (List Int)) (k : Nat) : turnTo M (k + 1) = turnTo M k ++ [colL M M.length k] := by simp [turnTo, List.range_succ]
theorem rigM_len {p : Int} {l : List BarT} {q : List PlaceT} (h : isFwB (p, l, q) = true) : (rigM (p, l, q)).length = l.length := by
  have e : rigM (p, l, q) = l.map (rigRow p q) := by simp only [rigM, h]; rfl
  rw [e, List.length_map]

set_option maxHeartbeats 8000000 in
theorem l13Turned_at (W : World) (p : Int) (a : Option Addr) (cap : Nat) (l : List BarT) (c : Option Addr) (capc : Nat) (q : List PlaceT) (h : BarsAt W a l.length l) (hq : PlacesAt W c q.length q) (hs : l.length + q.length ≤ 1048576) (hf : isFwB (p, l, q) = true) :
    Calls Try.prog 67 #[.agg #[.int .i64 p, .slice a l.length cap, .slice c q.length capc]] W (RetIntss W (turnR (p, l, q))) := by
  have hwd := @Wd.cells
  have HFw : Hid (IsFw W (.agg #[.int .i64 p, .slice a l.length cap, .slice c q.length capc]) (p, l, q)) := Lib.hid ⟨a, cap, c, capc, rfl, h, hq⟩
  have H1 := Lib.hid h
  have H2 := Lib.hid hq
  clear h hq
  have hsz : szFw (p, l, q) ≤ 1048576 := hs
  have hs1 : l.length ≤ 1048576 := by omega
  have hs2 : q.length ≤ 1048576 := by omega
  have B : Below W.heap.size W (W.alloc (.cells #[.int .i64 p, .slice a l.length cap, .slice c q.length capc] 36)) := (Below.refl _ _).alloc (Nat.le_refl _) _
  have BX : Hid (BoxFw (W.alloc (.cells #[.int .i64 p, .slice a l.length cap, .slice c q.length capc] 36)) W.heap.size p a l.length cap c q.length capc) := Lib.hid (BoxFw.at rfl)
  have HFIT := Lib.hid (fit_rig hf)
  have hml := rigM_len hf
  obtain ⟨⟨hg1, hg2⟩, hg3, hg4, _, _⟩ := isFw_facts hf
  obtain ⟨P, rfl⟩ := Int.eq_ofNat_of_zero_le (show 0 ≤ p by omega)
  have HML : Hid ((rigM ((P : Int), l, q)).length = l.length) := Lib.hid hml
  clear hml hg3
  have HRD : Hid (turnR ((P : Int), l, q) = if (rigM ((P : Int), l, q)).length = 0 then [] else turnL (rigM ((P : Int), l, q)) (2 * P)) := Lib.hid rfl
  have HRG := Lib.hid (spec_RigidityMatrix (W := (W.alloc (.cells #[.int .i64 (P : Int), .slice a l.length cap, .slice c q.length capc] 36))) (v := .agg #[.int .i64 (P : Int), .slice a l.length cap, .slice c q.length capc]) (f := ((P : Int), l, q)) (HFw.out.below B) hsz)
  have hrect := HFIT.out.rect
  have hm64 := HFIT.out.m64
  have HRECT := Lib.hid hrect
  clear hrect
  generalize rigM ((P : Int), l, q) = M at *
  go_enter Try.func67, Try.ntmps67
  go_wp2_with fail
  refine HRG.out.mono ?_
  rintro e w1 ⟨v, rfl, ho, b⟩
  have hz1 := B.size
  replace B := B.step b
  replace BX := Lib.hid (BX.out.below b)
  clear b HRG
  obtain ⟨am, cm, rfl, hi⟩ := ho.form
  have HI := Lib.hid hi
  clear hi ho
  have HO0 := Lib.hid (made_intss w1)
  have hb0 : Below w1.heap.size w1 (w1.alloc (.cells #[] 28)) := (Below.refl _ _).alloc (Nat.le_refl _) _
  go_wp2_with fail
  generalize w1.alloc (.cells #[] 28) = w2 at *
  by_cases hm0 : M.length = 0
  · have HE : Hid (turnR ((P : Int), l, q) = []) := Lib.hid (by rw [HRD.out, if_pos hm0])
    have BX2 := Lib.hid (BX.out.below hb0)
    obtain ⟨zBX, fBX0, fBX1, fBX2⟩ := BX2.out
    have hm0i : decide ((0 : Int) < (M.length : Int)) = false := by rw [hm0]; rfl
    have hm0n : decide (0 < M.length) = false := by rw [hm0]; rfl
    have hPi : decide ((0 : Int) < 2 * (P : Int)) = true := by simp; omega
    go_loopw [4, 5] (fun o i w9 => o = .slice (some ⟨w1.heap.size, 0, none⟩) 0 0 ∧ i = .int .i64 0 ∧ w2 = w9) (fun _ _ _ => 0)
    case atStart => exact ⟨rfl, rfl, rfl⟩
    case round =>
      obtain ⟨rfl, rfl, rfl⟩ := hrel
      go_wp2_with fail
      go_ret
      exact ⟨_, rfl, by rw [HE.out]; exact ownsRow_base' HO0.out B.size, B.step hb0⟩
  have HE : Hid (turnR ((P : Int), l, q) = turnTo M (2 * P)) := Lib.hid (by rw [HRD.out, if_neg hm0]; rfl)
  have hmp : 0 < M.length := by omega
  have hmpi : (0 : Int) < (M.length : Int) := by omega
  have HZ := Lib.hid hm0
  clear hm0
  go_loopw [4, 5] (fun o j w9 => ∃ k : Nat, k ≤ 2 * P ∧ j = .int .i64 k ∧ OwnIntss w9 w1.heap.size o (turnTo M k) ∧ Below w1.heap.size w1 w9) (fun _ j _ => 2 * P - (intOf j).toNat)
  case atStart => exact ⟨0, Nat.zero_le _, rfl, HO0.out, hb0⟩
  case round =>
    clear hb0 HO0
    obtain ⟨k, hk, rfl, ho, hb⟩ := hrel
    have HO := Lib.hid ho
    clear ho
    have hbz := hb.size
    have BX1 := Lib.hid (BX.out.below hb)
    obtain ⟨zBX, fBX0, fBX1, fBX2⟩ := BX1.out
    by_cases hlt : k < 2 * P
    · have hlti : (k : Int) < 2 * (P : Int) := by omega
      have hr0 := OwnInts.made wr wr.heap.size (Nat.le_refl _)
      have hrb : Below wr.heap.size wr (wr.alloc (.cells #[] 3)) := (Below.refl _ _).alloc (Nat.le_refl _) _
      have HR0 := Lib.hid hr0
      clear hr0
      go_wp2_with fail
      generalize wr.alloc (.cells #[] 3) = w3 at *
      obtain ⟨wo, hwo⟩ : ∃ wo, wo = wr := ⟨_, rfl⟩
      subst hwo
      clear zBX fBX0 fBX1 fBX2
      go_loopw [6, 7] (fun o i w9 => ∃ j : Nat, j ≤ M.length ∧ i = .int .i64 j ∧ OwnInts w9 wo.heap.size o (colL M j k) ∧ Below wo.heap.size wo w9) (fun _ i _ => M.length - (intOf i).toNat)
      case atStart => exact ⟨0, Nat.zero_le _, rfl, HR0.out, hrb⟩
      case round =>
        clear hrb HR0
        obtain ⟨j, hj, rfl, hor, hbr⟩ := hrel
        have HU := Lib.hid hor
        clear hor
        have hbz2 := hbr.size
        by_cases hjl : j < M.length
        · obtain ⟨bm, om, ar, cr, r, rfl, hbm, hx, hcell, hi2⟩ := (HI.out.below (hb.step hbr)).2 j hjl
          have hrl := HRECT.out r (List.mem_of_getElem? hx)
          obtain ⟨br, or, x, rfl, hbr3, hrx, hrc⟩ := hi2.2 k (by rw [hrl]; exact hlt)
          have HX := Lib.hid (entF_get hx hrx)
          clear hx hrx hi2
          have hkr : (k : Int) < (r.length : Int) := by rw [hrl]; simp; omega
          have HCL := Lib.hid (show (colL M j k).length < 17592186044416 by rw [colL_length]; omega)
          clear hrl
          go_wp2_with (at_builtin; refine app1 rfl (.tmp 31) (.tmp 39) rfl rfl HU.out x rfl HCL.out hbz2 ?_; intro v' w5 h5 k5)
          go_roundw
          case rel =>
            refine ⟨j + 1, by omega, by go_num, ?_, hbr.trans (k5.below hbz2 fun z h1 h2 => by have := (HU.out.lt z h2.symm).1; omega)⟩
            rw [colL_succ, HX.out]
            exact h5
          case measure => simp [intOf]; omega
        · obtain rfl : j = M.length := by omega
          obtain ⟨au, cu, rfl, hiu⟩ := HU.out.form
          clear hiu
          obtain ⟨vs, hvs, hrs⟩ := HO.out
          have HV := Lib.hid hvs
          have HVR := Lib.hid hrs
          clear hvs hrs
          have hlk : (turnTo M k).length < 1099511627776 := by simp [turnTo]; omega
          have HLK := Lib.hid hlk
          clear hlk
          have HB := Lib.hid hbr
          go_wp2_with (at_builtin; refine appRow (by rfl) (.tmp 41) (.tmp 43) (by rfl) (by rfl) (ownsRow_base HU.out hbz) HB.out HV.out HVR.out (fun q hq => (HU.out.lt q hq).1) (by rfl) HLK.out (by omega) ?_; intro v' w8 h8 k8)
          go_roundw
          case rel =>
            refine ⟨k + 1, by omega, by go_num, by rw [turnTo_succ]; exact h8, hb.trans ?_⟩
            have hvs := HV.out
            exact (HB.out.mono hbz).trans (k8.below (by omega) fun z h1 h2 => by
              have := (World.ownsRow.lt hvs z h2.symm).1
              omega)
          case measure => simp [intOf]; omega
    · obtain rfl : k = 2 * P := by omega
      have hnl : decide (((2 * P : Nat) : Int) < 2 * (P : Int)) = false := by simp
      go_wp2_with fail
      go_ret
      exact ⟨_, rfl, by rw [HE.out]; exact ownsRow_base' HO.out B.size, B.step hb⟩
end Go.Proofs.Ytchlmnlaaloipaa
