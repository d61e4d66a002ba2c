/- IsMotion of the reference and of the program. -/
import Derived.Test.YtkjoeogoebpkjaaChg2
namespace Go.Proofs.Ytkjoeogoebpkjaa
open Go.RowKit
set_option maxRecDepth 100000
set_option linter.unusedVariables false
set_option linter.unusedSimpArgs false

def motOk (f : FwT) (v : List Int) (x : BarT) : Bool := changeF f v x.1 x.2 == 0
def motB (f : FwT) (v : List Int) : Bool := velB f v && f.2.1.all (motOk f v)
theorem motB_bar {p : Int} {l : List BarT} {q : List PlaceT} {v : List Int} {k : Nat} {x : BarT} (hx : l[k]? = some x) (h : motOk (p, l, q) v x = false) : motB (p, l, q) v = false := by
  have : l.all (motOk (p, l, q) v) = false := List.all_eq_false.2 ⟨_, List.mem_of_getElem? hx, by simp [h]⟩
  simp only [motB, this, Bool.and_false]

set_option maxHeartbeats 8000000 in
theorem specMot_at (W : World) (p : Int) (a : Option Addr) (cap : Nat) (l : List BarT) (c : Option Addr) (capc : Nat) (q : List PlaceT) (h : BarsAt W a l.length l) (hq : PlacesAt W c q.length q) (hs : l.length + q.length ≤ 1048576)
    (va : Option Addr) (n vcap : Nat) (v : List Int) (hv : IntsAt W va n v) (hvn : n ≤ 1099511627776) :
    Calls Try.prog 89 #[.agg #[.int .i64 p, .slice a l.length cap, .slice c q.length capc], .slice va n vcap] W fun e w' => e = .returned (.bool (motB (p, l, q) v)) ∧ Below W.heap.size W w' := by
  have hwd := @Wd.cells
  have H1 := Lib.hid h
  have H2 := Lib.hid hq
  have HV := Lib.hid hv
  clear h hq hv
  have hs1 : l.length ≤ 1048576 := by omega
  have hs2 : q.length ≤ 1048576 := by omega
  have B : Below W.heap.size W (W.alloc (.cells #[.int .i64 p, .slice a l.length cap, .slice c q.length capc] 42)) := (Below.refl _ _).alloc (Nat.le_refl _) _
  have BX : Hid (BoxFw (W.alloc (.cells #[.int .i64 p, .slice a l.length cap, .slice c q.length capc] 42)) W.heap.size p a l.length cap c q.length capc) := Lib.hid (BoxFw.at rfl)
  cases hf : velB (p, l, q) v
  · have HE := Lib.hid (ret_bool (show motB (p, l, q) v = false by simp only [motB, hf, Bool.false_and]))
    go_enter Try.func89, Try.ntmps89
    go_wp2_with fail
    generalize (W.alloc (.cells #[.int .i64 p, .slice a l.length cap, .slice c q.length capc] 42)) = u at *
    go_loopw [5] (fun i w9 => i = .int .i64 0 ∧ u = w9) (fun _ _ => 0)
    case atStart => exact ⟨rfl, rfl⟩
    case round =>
      obtain ⟨rfl, rfl⟩ := hrel
      obtain ⟨z, f0, f1, f2⟩ := BX.out
      by_cases h0 : 0 < l.length
      · have h0i : (0 : Int) < (l.length : Int) := by omega
        go_wp2_with fail
        refine (l12Vector_at _ _ _ _ _ _ _ _ (H1.out.below B) (H2.out.below B) hs1 hs2 hs _ _ _ _ (HV.out.below B) hvn).mono ?_
        rintro e w1 ⟨rfl, b⟩
        replace B := B.step b
        clear z f0 f1 f2
        replace BX := Lib.hid (BX.out.below b)
        clear b
        obtain ⟨z, f0, f1, f2⟩ := BX.out
        rw [hf]
        go_wp2_with fail
        refine (l12Vector_at _ _ _ _ _ _ _ _ (H1.out.below B) (H2.out.below B) hs1 hs2 hs _ _ _ _ (HV.out.below B) hvn).mono ?_
        rintro e w2 ⟨rfl, b⟩
        replace B := B.step b
        clear b
        rw [hf]
        go_wp2_with fail
        go_ret
        exact ⟨HE.out.symm, B⟩
      · go_wp2_with fail
        refine (l12Vector_at _ _ _ _ _ _ _ _ (H1.out.below B) (H2.out.below B) hs1 hs2 hs _ _ _ _ (HV.out.below B) hvn).mono ?_
        rintro e w2 ⟨rfl, b⟩
        replace B := B.step b
        clear b
        rw [hf]
        go_wp2_with fail
        go_ret
        exact ⟨HE.out.symm, B⟩
  have HF := Lib.hid hf
  go_enter Try.func89, Try.ntmps89
  go_wp2_with fail
  generalize (W.alloc (.cells #[.int .i64 p, .slice a l.length cap, .slice c q.length capc] 42)) = u at *
  go_loopw [5] (fun i w9 => ∃ k : Nat, k ≤ l.length ∧ i = .int .i64 k ∧ (l.take k).all (motOk (p, l, q) v) = true ∧ Below u.heap.size u w9) (fun i _ => l.length - (intOf i).toNat)
  case atStart => exact ⟨0, Nat.zero_le _, rfl, by simp, Below.refl _ _⟩
  case round =>
    obtain ⟨k, hk, rfl, hall, hb⟩ := hrel
    have HA := Lib.hid hall
    clear hall
    have B1 := B.step hb
    have BX1 := Lib.hid (BX.out.below hb)
    obtain ⟨z, f0, f1, f2⟩ := BX1.out
    by_cases hlt : k < l.length
    · go_wp2_with fail
      refine (l12Vector_at _ _ _ _ _ _ _ _ (H1.out.below B1) (H2.out.below B1) hs1 hs2 hs _ _ _ _ (HV.out.below B1) hvn).mono ?_
      rintro e w1 ⟨rfl, b⟩
      have B2 := B1.step b
      have hb2 := hb.step b
      clear z f0 f1 f2
      have BX2 := Lib.hid (BX1.out.below b)
      clear b
      obtain ⟨z, f0, f1, f2⟩ := BX2.out
      obtain ⟨bb, off, ⟨x1, x2⟩, rfl, hbl, hx, hc0, hc1⟩ := (H1.out.below B2).2 k hlt
      dsimp only at hc0 hc1
      have HX := Lib.hid hx
      clear hx
      have z1 : W.heap.size ≤ w1.heap.size := by omega
      have z2 : W.heap.size < w1.heap.size + 1 := by omega
      have z3 : bb ≤ w1.heap.size := by omega
      have z4 : bb < w1.heap.size + 1 := by omega
      rw [hf]
      cases hc : motOk (p, l, q) v (x1, x2)
      · have HE := Lib.hid (ret_bool (motB_bar HX.out hc))
        have hne : (changeF (p, l, q) v x1 x2 != 0) = true := by simpa [motOk] using hc
        go_wp2_with fail
        refine wp_region_wd (by kernel_rfl) (by kernel_rfl) ?_
        repeat (go_big_quiet_step ((first | (go_at_call 70; exact Calls.wd_of (specChange_at _ _ _ _ _ _ _ _ (H1.out.below (B2.step (Wd.h _))) (H2.out.below (B2.step (Wd.h _))) hs _ _ _ _ (HV.out.below (B2.step (Wd.h _))) hvn _ _)))))
        refine wpQuiet_nil ?_
        intro n1
        have B3 := B2.step n1.h
        go_wp2_with fail
        go_ret
        exact ⟨HE.out.symm, B3⟩
      · have hne : (changeF (p, l, q) v x1 x2 != 0) = false := by simpa [motOk] using hc
        have HC := Lib.hid hc
        go_wp2_with fail
        refine wp_region_wd (by kernel_rfl) (by kernel_rfl) ?_
        repeat (go_big_quiet_step ((first | (go_at_call 70; exact Calls.wd_of (specChange_at _ _ _ _ _ _ _ _ (H1.out.below (B2.step (Wd.h _))) (H2.out.below (B2.step (Wd.h _))) hs _ _ _ _ (HV.out.below (B2.step (Wd.h _))) hvn _ _)))))
        refine wpQuiet_nil ?_
        intro n1
        have hb3 := hb2.step n1.h
        go_wp2_with fail
        go_roundw
        case rel => exact ⟨k + 1, by omega, by go_num, all_take_succ HX.out HA.out HC.out, hb3⟩
        case measure => simp [intOf]; omega
    · obtain rfl : k = l.length := by omega
      have HE := Lib.hid (ret_bool (show motB (p, l, q) v = true by have h1 := HA.out; rw [List.take_length] at h1; simp only [motB, HF.out, h1, Bool.and_self]))
      go_wp2_with fail
      refine (l12Vector_at _ _ _ _ _ _ _ _ (H1.out.below B1) (H2.out.below B1) hs1 hs2 hs _ _ _ _ (HV.out.below B1) hvn).mono ?_
      rintro e w1 ⟨rfl, b⟩
      have B2 := B1.step b
      clear b
      rw [hf]
      go_wp2_with fail
      go_ret
      exact ⟨HE.out.symm, B2⟩
end Go.Proofs.Ytkjoeogoebpkjaa
