/- Loads: l13Load of the reference, isLoad of the program. -/
import Derived.Test.YtchlmnlaaloipaaVec
namespace Go.Proofs.Ytchlmnlaaloipaa
open Go.RowKit
set_option maxRecDepth 100000
set_option linter.unusedVariables false
set_option linter.unusedSimpArgs false

def load4 (x : Int) : Bool := inB x (-4) 4
def loadB (f : FwT) (v : List Int) : Bool := v.all load4 && (isFwB f && decide ((v.length : Int) = 2 * f.1))
theorem loadB_small {f : FwT} {v : List Int} {k : Nat} {x : Int} (hx : v[k]? = some x) (h : load4 x = false) : loadB f v = false := by
  have : v.all load4 = false := List.all_eq_false.2 ⟨_, List.mem_of_getElem? hx, by simp [h]⟩
  simp only [loadB, this, Bool.false_and]
theorem loadB_facts {p : Int} {l : List BarT} {q : List PlaceT} {v : List Int} (h : loadB (p, l, q) v = true) : isFwB (p, l, q) = true ∧ (v.length : Int) = 2 * p ∧ ∀ x ∈ v, -4 ≤ x ∧ x ≤ 4 := by
  simp only [loadB, Bool.and_eq_true, decide_eq_true_eq] at h
  refine ⟨h.2.1, h.2.2, fun x hx => ?_⟩
  have := List.all_eq_true.1 h.1 x hx
  simpa [load4, inB] using this

set_option maxHeartbeats 4000000 in
theorem l13Load_at (W : World) (p : Int) (a : Option Addr) (cap : Nat) (l : List BarT) (c : Option Addr) (capc : Nat) (q : List PlaceT) (h : BarsAt W a l.length l) (hq : PlacesAt W c q.length q) (hn : l.length ≤ 1048576) (hnq : q.length ≤ 1048576) (hs : l.length + q.length ≤ 1048576)
    (va : Option Addr) (n vcap : Nat) (v : List Int) (hv : IntsAt W va n v) (hvn : n ≤ 1099511627776) :
    Calls Try.prog 41 #[.agg #[.int .i64 p, .slice a l.length cap, .slice c q.length capc], .slice va n vcap] W fun e w' => e = .returned (.bool (loadB (p, l, q) v)) ∧ Below W.heap.size W w' := by
  have HF : Hid (IsFw W (.agg #[.int .i64 p, .slice a l.length cap, .slice c q.length capc]) (p, l, q)) := Lib.hid ⟨a, cap, c, capc, rfl, h, hq⟩
  have hsz : szFw (p, l, q) ≤ 1048576 := hs
  have B : Below W.heap.size W (W.alloc (.cells #[.int .i64 p, .slice a l.length cap, .slice c q.length capc] 36)) := (Below.refl _ _).alloc (Nat.le_refl _) _
  have HL := Lib.hid hv.1
  have HC := Lib.hid (hv.below B).2
  clear h hq hv
  have BX : Hid (BoxFw (W.alloc (.cells #[.int .i64 p, .slice a l.length cap, .slice c q.length capc] 36)) W.heap.size p a l.length cap c q.length capc) := Lib.hid (BoxFw.at rfl)
  go_enter Try.func41, Try.ntmps41
  go_wp2_with fail
  generalize (W.alloc (.cells #[.int .i64 p, .slice a l.length cap, .slice c q.length capc] 36)) = u at *
  go_loop [5] (fun i => ∃ k : Nat, k ≤ n ∧ i = .int .i64 k ∧ (v.take k).all load4 = true) (fun i => n - (intOf i).toNat)
  case atStart => exact ⟨0, Nat.zero_le _, rfl, by simp⟩
  case round =>
    obtain ⟨k, hk, rfl, hall⟩ := hrel
    have HA := Lib.hid hall
    clear hall
    by_cases hlt : k < n
    · obtain ⟨b, off, x, rfl, hbl, hx, hcell⟩ := HC.out k hlt
      have HX := Lib.hid hx
      clear hx
      cases hs : inB x (-4) 4
      · have HE := Lib.hid (ret_bool (loadB_small (f := (p, l, q)) HX.out hs))
        go_wp2_with (go_at_call 53; refine (l1In_any _ _ _ _).mono ?_; rintro e w' ⟨rfl, rfl⟩)
        go_ret
        exact ⟨HE.out.symm, B⟩
      · go_wp2_with (go_at_call 53; refine (l1In_any _ _ _ _).mono ?_; rintro e w' ⟨rfl, rfl⟩)
        go_round
        case rel => exact ⟨k + 1, by omega, by go_num, all_take_succ HX.out HA.out hs⟩
        case measure => simp [intOf]; omega
    · obtain rfl : k = n := by omega
      have hall : v.all load4 = true := by have h1 := HA.out; rwa [List.take_of_length_le (by have := HL.out; omega)] at h1
      cases hf : isFwB (p, l, q)
      · have HE := Lib.hid (ret_bool (show loadB (p, l, q) v = false by simp only [loadB, hf, Bool.false_and, Bool.and_false]))
        clear hall
        obtain ⟨z, f0, f1, f2⟩ := BX.out
        go_wp2_with fail
        refine (spec_IsFramework _ _ (p, l, q) (HF.out.below B) hsz).mono ?_
        rintro e w1 ⟨rfl, b⟩
        replace B := B.step b
        clear b
        rw [hf]
        go_wp2_with fail
        go_ret
        exact ⟨HE.out.symm, B⟩
      · have HE := Lib.hid (ret_bool (show loadB (p, l, q) v = ((k : Int) == 2 * p) by simp only [loadB, hf, hall, Bool.true_and, HL.out]; rfl))
        have hp : 1 ≤ p ∧ p ≤ 8 := by
          have h1 := hf
          simp only [isFwB, Bool.and_eq_true] at h1
          exact (isGraphB_bd h1.1).1
        obtain ⟨hp1, hp2⟩ := hp
        clear hall
        obtain ⟨z, f0, f1, f2⟩ := BX.out
        go_wp2_with fail
        refine (spec_IsFramework _ _ (p, l, q) (HF.out.below B) hsz).mono ?_
        rintro e w1 ⟨rfl, b⟩
        replace B := B.step b
        clear z f0 f1 f2
        replace BX := Lib.hid (BX.out.below b)
        clear b
        rw [hf]
        obtain ⟨z, f0, f1, f2⟩ := BX.out
        go_wp2_with fail
        go_ret
        exact ⟨HE.out.symm, B⟩

set_option maxHeartbeats 4000000 in
theorem isLoad_at (W : World) (p : Int) (a : Option Addr) (cap : Nat) (l : List BarT) (c : Option Addr) (capc : Nat) (q : List PlaceT) (h : BarsAt W a l.length l) (hq : PlacesAt W c q.length q) (hn : l.length ≤ 1048576) (hnq : q.length ≤ 1048576) (hs : l.length + q.length ≤ 1048576)
    (va : Option Addr) (n vcap : Nat) (v : List Int) (hv : IntsAt W va n v) (hvn : n ≤ 1099511627776) :
    Calls Try.prog 45 #[.agg #[.int .i64 p, .slice a l.length cap, .slice c q.length capc], .slice va n vcap] W fun e w' => e = .returned (.bool (loadB (p, l, q) v)) ∧ Below W.heap.size W w' := by
  have HF : Hid (IsFw W (.agg #[.int .i64 p, .slice a l.length cap, .slice c q.length capc]) (p, l, q)) := Lib.hid ⟨a, cap, c, capc, rfl, h, hq⟩
  have hsz : szFw (p, l, q) ≤ 1048576 := hs
  have B : Below W.heap.size W (W.alloc (.cells #[.int .i64 p, .slice a l.length cap, .slice c q.length capc] 36)) := (Below.refl _ _).alloc (Nat.le_refl _) _
  have HL := Lib.hid hv.1
  have HC := Lib.hid (hv.below B).2
  clear h hq hv
  have BX : Hid (BoxFw (W.alloc (.cells #[.int .i64 p, .slice a l.length cap, .slice c q.length capc] 36)) W.heap.size p a l.length cap c q.length capc) := Lib.hid (BoxFw.at rfl)
  go_enter Try.func45, Try.ntmps45
  go_wp2_with fail
  generalize (W.alloc (.cells #[.int .i64 p, .slice a l.length cap, .slice c q.length capc] 36)) = u at *
  go_loop [9] (fun i => ∃ k : Nat, k ≤ n ∧ i = .int .i64 k ∧ (v.take k).all load4 = true) (fun i => n - (intOf i).toNat)
  case atStart => exact ⟨0, Nat.zero_le _, rfl, by simp⟩
  case round =>
    obtain ⟨k, hk, rfl, hall⟩ := hrel
    have HA := Lib.hid hall
    clear hall
    by_cases hlt : k < n
    · obtain ⟨b, off, x, rfl, hbl, hx, hcell⟩ := HC.out k hlt
      have HX := Lib.hid hx
      clear hx
      cases hs : inB x (-4) 4
      · have HE := Lib.hid (ret_bool (loadB_small (f := (p, l, q)) HX.out hs))
        go_wp2_with (go_at_call 69; refine (within_any _ _ _ _).mono ?_; rintro e w' ⟨rfl, rfl⟩)
        go_ret
        exact ⟨HE.out.symm, B⟩
      · go_wp2_with (go_at_call 69; refine (within_any _ _ _ _).mono ?_; rintro e w' ⟨rfl, rfl⟩)
        go_round
        case rel => exact ⟨k + 1, by omega, by go_num, all_take_succ HX.out HA.out hs⟩
        case measure => simp [intOf]; omega
    · obtain rfl : k = n := by omega
      have hall : v.all load4 = true := by have h1 := HA.out; rwa [List.take_of_length_le (by have := HL.out; omega)] at h1
      cases hf : isFwB (p, l, q)
      · have HE := Lib.hid (ret_bool (show loadB (p, l, q) v = false by simp only [loadB, hf, Bool.false_and, Bool.and_false]))
        clear hall
        obtain ⟨z, f0, f1, f2⟩ := BX.out
        go_wp2_with fail
        refine (impl_IsFramework _ _ (p, l, q) (HF.out.below B) hsz).mono ?_
        rintro e w1 ⟨rfl, b⟩
        replace B := B.step b
        clear b
        rw [hf]
        go_wp2_with fail
        go_ret
        exact ⟨HE.out.symm, B⟩
      · have HE := Lib.hid (ret_bool (show loadB (p, l, q) v = ((k : Int) == 2 * p) by simp only [loadB, hf, hall, Bool.true_and, HL.out]; rfl))
        have hp : 1 ≤ p ∧ p ≤ 8 := by
          have h1 := hf
          simp only [isFwB, Bool.and_eq_true] at h1
          exact (isGraphB_bd h1.1).1
        obtain ⟨hp1, hp2⟩ := hp
        clear hall
        obtain ⟨z, f0, f1, f2⟩ := BX.out
        go_wp2_with fail
        refine (impl_IsFramework _ _ (p, l, q) (HF.out.below B) hsz).mono ?_
        rintro e w1 ⟨rfl, b⟩
        replace B := B.step b
        clear z f0 f1 f2
        replace BX := Lib.hid (BX.out.below b)
        clear b
        rw [hf]
        obtain ⟨z, f0, f1, f2⟩ := BX.out
        go_wp2_with fail
        go_ret
        exact ⟨HE.out.symm, B⟩

end Go.Proofs.Ytchlmnlaaloipaa
