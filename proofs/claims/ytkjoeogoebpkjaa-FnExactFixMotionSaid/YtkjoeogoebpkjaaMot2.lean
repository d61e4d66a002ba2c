/- IsMotion of the program. -/
import Derived.Test.YtkjoeogoebpkjaaMot
namespace Go.Proofs.Ytkjoeogoebpkjaa
open Go.RowKit
set_option maxRecDepth 100000
set_option linter.unusedVariables false
set_option linter.unusedSimpArgs false

set_option maxHeartbeats 8000000 in
theorem implMot_at (W : World) (p : Int) (a : Option Addr) (cap : Nat) (l : List BarT) (c : Option Addr) (capc : Nat) (q : List PlaceT) (h : BarsAt W a l.length l) (hq : PlacesAt W c q.length q) (hs : l.length + q.length ≤ 1048576)
    (va : Option Addr) (n vcap : Nat) (v : List Int) (hv : IntsAt W va n v) (hvn : n ≤ 1099511627776) :
    Calls Try.prog 90 #[.agg #[.int .i64 p, .slice a l.length cap, .slice c q.length capc], .slice va n vcap] W fun e w' => e = .returned (.bool (motB (p, l, q) v)) ∧ Below W.heap.size W w' := by
  have hwd := @Wd.cells
  have H1 := Lib.hid h
  have H2 := Lib.hid hq
  have HV := Lib.hid hv
  clear h hq hv
  have hs1 : l.length ≤ 1048576 := by omega
  have hs2 : q.length ≤ 1048576 := by omega
  have B : Below W.heap.size W (W.alloc (.cells #[.int .i64 p, .slice a l.length cap, .slice c q.length capc] 42)) := (Below.refl _ _).alloc (Nat.le_refl _) _
  have BX : Hid (BoxFw (W.alloc (.cells #[.int .i64 p, .slice a l.length cap, .slice c q.length capc] 42)) W.heap.size p a l.length cap c q.length capc) := Lib.hid (BoxFw.at rfl)
  cases hf : velB (p, l, q) v
  · have HE := Lib.hid (ret_bool (show motB (p, l, q) v = false by simp only [motB, hf, Bool.false_and]))
    go_enter Try.func90, Try.ntmps90
    go_wp2_with fail
    refine (isVelocity_at _ _ _ _ _ _ _ _ (H1.out.below B) (H2.out.below B) hs1 hs2 hs _ _ _ _ (HV.out.below B) hvn).mono ?_
    rintro e w1 ⟨rfl, b⟩
    replace B := B.step b
    clear b
    rw [hf]
    go_wp2_with fail
    go_ret
    exact ⟨HE.out.symm, B⟩
  have HF := Lib.hid hf
  go_enter Try.func90, Try.ntmps90
  go_wp2_with fail
  refine (isVelocity_at _ _ _ _ _ _ _ _ (H1.out.below B) (H2.out.below B) hs1 hs2 hs _ _ _ _ (HV.out.below B) hvn).mono ?_
  rintro e u ⟨rfl, b⟩
  replace B := B.step b
  replace BX := Lib.hid (BX.out.below b)
  clear b
  rw [hf]
  obtain ⟨z, f0, f1, f2⟩ := BX.out
  go_wp2_with fail
  clear z f0 f1 f2
  go_loopw [15] (fun i w9 => ∃ k : Nat, k ≤ l.length ∧ i = .int .i64 k ∧ (l.take k).all (motOk (p, l, q) v) = true ∧ Below u.heap.size u w9) (fun i _ => l.length - (intOf i).toNat)
  case atStart => exact ⟨0, Nat.zero_le _, rfl, by simp, Below.refl _ _⟩
  case round =>
    obtain ⟨k, hk, rfl, hall, hb⟩ := hrel
    have HA := Lib.hid hall
    clear hall
    have B1 := B.step hb
    have BX1 := Lib.hid (BX.out.below hb)
    obtain ⟨z, f0, f1, f2⟩ := BX1.out
    by_cases hlt : k < l.length
    · obtain ⟨bb, off, ⟨x1, x2⟩, rfl, hbl, hx, hc0, hc1⟩ := (H1.out.below B1).2 k hlt
      dsimp only at hc0 hc1
      have HX := Lib.hid hx
      clear hx
      have z1 : W.heap.size ≤ wr.heap.size := by omega
      have z2 : W.heap.size < wr.heap.size + 1 := by omega
      have z3 : bb ≤ wr.heap.size := by omega
      have z4 : bb < wr.heap.size + 1 := by omega
      have ba : ∀ o, Below wr.heap.size wr (wr.alloc o) := fun o => (Below.refl _ _).alloc (Nat.le_refl _) o
      cases hc : motOk (p, l, q) v (x1, x2)
      · have HE := Lib.hid (ret_bool (motB_bar HX.out hc))
        have hne : (changeF (p, l, q) v x1 x2 != 0) = true := by simpa [motOk] using hc
        clear hc
        go_wp2_with fail
        refine (implChange_at _ _ _ _ _ _ _ _ (H1.out.below (B1.step (ba _))) (H2.out.below (B1.step (ba _))) hs _ _ _ _ (HV.out.below (B1.step (ba _))) hvn _ _).mono ?_
        rintro e w3 ⟨rfl, b⟩
        have B3 := (B1.step (ba _)).step b
        clear b
        go_wp2_with fail
        go_ret
        exact ⟨HE.out.symm, B3⟩
      · have hne : (changeF (p, l, q) v x1 x2 != 0) = false := by simpa [motOk] using hc
        have HC := Lib.hid hc
        clear hc
        go_wp2_with fail
        refine (implChange_at _ _ _ _ _ _ _ _ (H1.out.below (B1.step (ba _))) (H2.out.below (B1.step (ba _))) hs _ _ _ _ (HV.out.below (B1.step (ba _))) hvn _ _).mono ?_
        rintro e w3 ⟨rfl, b⟩
        have hb3 := (hb.step (ba _)).step b
        clear b
        go_wp2_with fail
        go_roundw
        case rel => exact ⟨k + 1, by omega, by go_num, all_take_succ HX.out HA.out HC.out, hb3⟩
        case measure => simp [intOf]; omega
    · obtain rfl : k = l.length := by omega
      have HE := Lib.hid (ret_bool (show motB (p, l, q) v = true by have h1 := HA.out; rw [List.take_length] at h1; simp only [motB, HF.out, h1, Bool.and_self]))
      go_wp2_with fail
      go_ret
      exact ⟨HE.out.symm, B1⟩

theorem spec_IsMotion (W : World) (v0 : Value) (f : FwT) (h : IsFw W v0 f) (v1 : Value) (v : List Int) (hv : IsInts W v1 v) (hn : szFw f ≤ 1048576) (hvn : v.length ≤ 1048576) :
    Calls Try.prog 89 #[v0, v1] W fun e w' => e = .returned (.bool (motB f v)) ∧ Below W.heap.size W w' := by
  obtain ⟨p, l, q⟩ := f
  obtain ⟨a, cap, c, capc, rfl, hi, hj⟩ := h
  obtain ⟨va, vc, rfl, hvi⟩ := hv
  exact specMot_at _ _ _ _ _ _ _ _ hi hj hn _ _ _ _ hvi (by omega)
theorem impl_IsMotion (W : World) (v0 : Value) (f : FwT) (h : IsFw W v0 f) (v1 : Value) (v : List Int) (hv : IsInts W v1 v) (hn : szFw f ≤ 1048576) (hvn : v.length ≤ 1048576) :
    Calls Try.prog 90 #[v0, v1] W fun e w' => e = .returned (.bool (motB f v)) ∧ Below W.heap.size W w' := by
  obtain ⟨p, l, q⟩ := f
  obtain ⟨a, cap, c, capc, rfl, hi, hj⟩ := h
  obtain ⟨va, vc, rfl, hvi⟩ := hv
  exact implMot_at _ _ _ _ _ _ _ _ hi hj hn _ _ _ _ hvi (by omega)
end Go.Proofs.Ytkjoeogoebpkjaa
