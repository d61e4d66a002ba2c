/- FrameworkFreedom, IsStiff, CountStresses, IsIndependentFramework of the program and of the reference. No condition but sizes. -/
import Derived.Test.YtjmclkikkmhmjaaFrk
import Derived.Deep.QuietTactic
import Derived.BigQuiet
namespace Go.Proofs.Ytjmclkikkmhmjaa
open Go.RowKit Gr
set_option maxRecDepth 100000
set_option linter.unusedVariables false
set_option linter.unusedSimpArgs false

def samAt (q : List PlaceT) (i : Nat) : Bool := decide (q[i]? = q[0]?)
def sameB (q : List PlaceT) : Bool := (List.range q.length).all (samAt q)
def trivF (q : List PlaceT) : Int := if sameB q then 2 else 3
theorem samAt_not {q : List PlaceT} {i : Nat} (hi : i < q.length) (h : samAt q i = false) : trivF q = 3 := by
  have : sameB q = false := List.all_eq_false.2 ⟨i, List.mem_range.2 hi, by simp [h]⟩
  simp [trivF, this]
theorem samAll_not {q : List PlaceT} {k : Nat} (hk : k ≤ q.length) (h : (List.range k).all (samAt q) = false) : trivF q = 3 := by
  obtain ⟨i, hi, h2⟩ := List.all_eq_false.1 h
  exact samAt_not (Nat.lt_of_lt_of_le (List.mem_range.1 hi) hk) (by simpa using h2)
theorem trivF_bd (q : List PlaceT) : 2 ≤ trivF q ∧ trivF q ≤ 3 := by unfold trivF; split <;> omega

set_option maxHeartbeats 4000000 in
theorem l11Trivial_at (W : World) (p : Int) (a : Option Addr) (cap : Nat) (l : List BarT) (c : Option Addr) (capc : Nat) (q : List PlaceT) (h : BarsAt W a l.length l) (hq : PlacesAt W c q.length q) (hs : l.length + q.length ≤ 1048576) (hp : 0 < q.length) :
    Calls Try.prog 69 #[.agg #[.int .i64 p, .slice a l.length cap, .slice c q.length capc]] W fun e w' => e = .returned (.int .i64 (trivF q)) ∧ Below W.heap.size W w' := by
  have hwd := @Wd.cells
  have HFw : Hid (IsFw W (.agg #[.int .i64 p, .slice a l.length cap, .slice c q.length capc]) (p, l, q)) := Lib.hid ⟨a, cap, c, capc, rfl, h, hq⟩
  have H1 := Lib.hid h
  have H2 := Lib.hid hq
  clear h hq
  have hsz : szFw (p, l, q) ≤ 1048576 := hs
  have hs1 : l.length ≤ 1048576 := by omega
  have hs2 : q.length ≤ 1048576 := by omega
  have B : Below W.heap.size W (W.alloc (.cells #[.int .i64 p, .slice a l.length cap, .slice c q.length capc] 41)) := (Below.refl _ _).alloc (Nat.le_refl _) _
  have BX : Hid (BoxFw (W.alloc (.cells #[.int .i64 p, .slice a l.length cap, .slice c q.length capc] 41)) W.heap.size p a l.length cap c q.length capc) := Lib.hid (BoxFw.at rfl)
  go_enter Try.func69, Try.ntmps69
  go_wp2_with fail
  generalize (W.alloc (.cells #[.int .i64 p, .slice a l.length cap, .slice c q.length capc] 41)) = u at *
  go_loopw [3] (fun i w9 => ∃ k : Nat, 1 ≤ k ∧ k ≤ q.length ∧ i = .int .i64 k ∧ (List.range k).all (samAt q) = true ∧ Below u.heap.size u w9) (fun i _ => q.length - (intOf i).toNat)
  case atStart => exact ⟨1, Nat.le_refl _, hp, rfl, by simp [List.range_succ, samAt], Below.refl _ _⟩
  case round =>
    obtain ⟨k, hk1, hk, rfl, hall, hb⟩ := hrel
    have HA := Lib.hid hall
    clear hall
    have B1 := B.step hb
    have BX1 := Lib.hid (BX.out.below hb)
    obtain ⟨zBX, fBX0, fBX1, fBX2⟩ := BX1.out
    by_cases hlt : k < q.length
    · obtain ⟨bq, oq, ⟨y1, y2⟩, rfl, hbq, hy, hya, hyb⟩ := (H2.out.below B1).2 k hlt
      obtain ⟨bq', oq', ⟨t1, t2⟩, hab, hbq', ht, hta, htb⟩ := (H2.out.below B1).2 0 hp
      simp only [Option.some.injEq, Addr.mk.injEq, and_true] at hab
      obtain ⟨rfl, rfl⟩ := hab
      dsimp only at hya hyb hta htb
      simp only [Nat.zero_mul, Nat.add_zero] at hta htb
      have HY := Lib.hid hy
      have HT := Lib.hid ht
      clear hy ht
      have hlti : (k : Int) < (q.length : Int) := by omega
      have hp0 : (0 : Int) < (q.length : Int) := by omega
      by_cases hpq : (((y1, y2) : PlaceT) = (t1, t2))
      · have HPQ := Lib.hid (show samAt q k = true by simp only [samAt, HY.out, HT.out, hpq]; simp)
        have hcp := fun w => eqlPlace_t hpq w
        have hcn := fun w => neqPlace_t hpq w
        clear hpq
        go_wp2_with fail
        refine wp_region_wd (by kernel_rfl) (by kernel_rfl) ?_
        repeat (go_big_quiet_step (fail))
        refine wpQuiet_nil ?_
        intro n1
        have hbn := hb.step n1.h
        go_wp2_with fail
        go_roundw
        case rel => exact ⟨k + 1, by omega, by omega, by go_num, range_all_succ HA.out HPQ.out, hbn⟩
        case measure => simp [intOf]; omega
      · have HE := Lib.hid (ret_int (k := .i64) (samAt_not hlt (show samAt q k = false by simp only [samAt, HY.out, HT.out]; simpa using hpq)))
        have hcp := fun w => eqlPlace_f hpq w
        have hcn := fun w => neqPlace_f hpq w
        clear hpq
        go_wp2_with fail
        refine wp_region_wd (by kernel_rfl) (by kernel_rfl) ?_
        repeat (go_big_quiet_step (fail))
        refine wpQuiet_nil ?_
        intro n1
        have B := B1.step n1.h
        go_wp2_with fail
        go_ret
        exact ⟨HE.out.symm, B⟩
    · obtain rfl : k = q.length := by omega
      have B := B1
      have HE := Lib.hid (ret_int (k := .i64) (show trivF q = 2 by have h := HA.out; simp only [trivF, sameB, h, if_pos]))
      go_wp2_with fail
      go_ret
      exact ⟨HE.out.symm, B⟩

def freeF (f : FwT) : Int := if isFwB f = true then 2 * f.1 - trivF f.2.2 - (rankN (rigM f) (2 * f.1.toNat) : Int) else -1
theorem rankN_rig {p : Int} {l : List BarT} {q : List PlaceT} (h : isFwB (p, l, q) = true) : rankN (rigM (p, l, q)) (2 * p.toNat) ≤ 15 := by
  have h1 := rankN_le (rigM (p, l, q)) (2 * p.toNat)
  have e : rigM (p, l, q) = l.map (rigRow p q) := by simp only [rigM, h]; rfl
  rw [e, List.length_map] at h1
  rw [e]
  have := (isFw_facts h).2.2.1
  omega
theorem frkF_t {p : Int} {l : List BarT} {q : List PlaceT} (h : isFwB (p, l, q) = true) : frkF (p, l, q) = (rankN (rigM (p, l, q)) (2 * p.toNat) : Int) := by unfold frkF; rw [h]; rfl

set_option maxHeartbeats 4000000 in
theorem specFree_at (W : World) (p : Int) (a : Option Addr) (cap : Nat) (l : List BarT) (c : Option Addr) (capc : Nat) (q : List PlaceT) (h : BarsAt W a l.length l) (hq : PlacesAt W c q.length q) (hs : l.length + q.length ≤ 1048576) :
    Calls Try.prog 29 #[.agg #[.int .i64 p, .slice a l.length cap, .slice c q.length capc]] W fun e w' => e = .returned (.int .i64 (freeF (p, l, q))) ∧ Below W.heap.size W w' := by
  have hwd := @Wd.cells
  have HFw : Hid (IsFw W (.agg #[.int .i64 p, .slice a l.length cap, .slice c q.length capc]) (p, l, q)) := Lib.hid ⟨a, cap, c, capc, rfl, h, hq⟩
  have H1 := Lib.hid h
  have H2 := Lib.hid hq
  clear h hq
  have hsz : szFw (p, l, q) ≤ 1048576 := hs
  have hs1 : l.length ≤ 1048576 := by omega
  have hs2 : q.length ≤ 1048576 := by omega
  have B : Below W.heap.size W (W.alloc (.cells #[.int .i64 p, .slice a l.length cap, .slice c q.length capc] 41)) := (Below.refl _ _).alloc (Nat.le_refl _) _
  have BX : Hid (BoxFw (W.alloc (.cells #[.int .i64 p, .slice a l.length cap, .slice c q.length capc] 41)) W.heap.size p a l.length cap c q.length capc) := Lib.hid (BoxFw.at rfl)
  cases hf : isFwB (p, l, q)
  · have HE := Lib.hid (ret_int (k := .i64) (show freeF (p, l, q) = -1 by unfold freeF; rw [hf]; rfl))
    go_enter Try.func29, Try.ntmps29
    go_wp2_with fail
    refine (spec_IsFramework _ _ (p, l, q) (HFw.out.below B) hsz).mono ?_
    rintro e w1 ⟨rfl, b⟩
    have hz_w1 := b.size
    replace B := B.step b
    replace BX := Lib.hid (BX.out.below b)
    clear b
    rw [hf]
    go_wp2_with fail
    go_ret
    exact ⟨HE.out.symm, B⟩
  have HE := Lib.hid (ret_int (k := .i64) (show freeF (p, l, q) = 2 * p - trivF q - (rankN (rigM (p, l, q)) (2 * p.toNat) : Int) by unfold freeF; rw [hf]; rfl))
  have hrk := rankN_rig hf
  have HRK := Lib.hid (frkF_t hf)
  have htr := trivF_bd q
  obtain ⟨⟨hg1, hg2⟩, hg3, _, _, _⟩ := isFw_facts hf
  have hq0 : 0 < q.length := by omega
  clear hg3
  generalize hR : (rankN (rigM (p, l, q)) (2 * p.toNat) : Nat) = R at hrk HE HRK
  clear hR
  go_enter Try.func29, Try.ntmps29
  go_wp2_with fail
  refine (spec_IsFramework _ _ (p, l, q) (HFw.out.below B) hsz).mono ?_
  rintro e w1 ⟨rfl, b⟩
  have hz_w1 := b.size
  replace B := B.step b
  replace BX := Lib.hid (BX.out.below b)
  clear b
  rw [hf]
  obtain ⟨zBX, fBX0, fBX1, fBX2⟩ := BX.out
  go_wp2_with fail
  have hw1 := IntWalk.i64_in (2 * p) (by omega)
  have hw2 := IntWalk.i64_in (2 * p - trivF q) (by omega)
  have hw3 := IntWalk.i64_in (2 * p - trivF q - (R : Int)) (by omega)
  refine wp_region_wd (by kernel_rfl) (by kernel_rfl) ?_
  repeat (go_big_quiet_step (first | (go_at_call 69; exact Calls.wd_of (l11Trivial_at _ _ _ _ _ _ _ _ (H1.out.below (B.step (Wd.h _))) (H2.out.below (B.step (Wd.h _))) hs hq0)) | (go_at_call 25; exact Calls.wd_of ((specFrk_at _ _ _ _ _ _ _ _ (H1.out.below (B.step (Wd.h _))) (H2.out.below (B.step (Wd.h _))) hs).mono fun _ _ h => ⟨h.1.trans (by rw [HRK.out]), h.2⟩))))
  refine wpQuiet_nil ?_
  intro n1
  have B := B.step n1.h
  go_wp2_with fail
  go_ret
  exact ⟨HE.out.symm, B⟩

set_option maxHeartbeats 4000000 in
theorem implFree_at (W : World) (p : Int) (a : Option Addr) (cap : Nat) (l : List BarT) (c : Option Addr) (capc : Nat) (q : List PlaceT) (h : BarsAt W a l.length l) (hq : PlacesAt W c q.length q) (hs : l.length + q.length ≤ 1048576) :
    Calls Try.prog 30 #[.agg #[.int .i64 p, .slice a l.length cap, .slice c q.length capc]] W fun e w' => e = .returned (.int .i64 (freeF (p, l, q))) ∧ Below W.heap.size W w' := by
  have hwd := @Wd.cells
  have HFw : Hid (IsFw W (.agg #[.int .i64 p, .slice a l.length cap, .slice c q.length capc]) (p, l, q)) := Lib.hid ⟨a, cap, c, capc, rfl, h, hq⟩
  have H1 := Lib.hid h
  have H2 := Lib.hid hq
  clear h hq
  have hsz : szFw (p, l, q) ≤ 1048576 := hs
  have hs1 : l.length ≤ 1048576 := by omega
  have hs2 : q.length ≤ 1048576 := by omega
  have B : Below W.heap.size W (W.alloc (.cells #[.int .i64 p, .slice a l.length cap, .slice c q.length capc] 41)) := (Below.refl _ _).alloc (Nat.le_refl _) _
  have BX : Hid (BoxFw (W.alloc (.cells #[.int .i64 p, .slice a l.length cap, .slice c q.length capc] 41)) W.heap.size p a l.length cap c q.length capc) := Lib.hid (BoxFw.at rfl)
  cases hf : isFwB (p, l, q)
  · have HE := Lib.hid (ret_int (k := .i64) (show freeF (p, l, q) = -1 by unfold freeF; rw [hf]; rfl))
    go_enter Try.func30, Try.ntmps30
    go_wp2_with fail
    refine (impl_IsFramework _ _ (p, l, q) (HFw.out.below B) hsz).mono ?_
    rintro e w1 ⟨rfl, b⟩
    have hz_w1 := b.size
    replace B := B.step b
    replace BX := Lib.hid (BX.out.below b)
    clear b
    rw [hf]
    go_wp2_with fail
    go_ret
    exact ⟨HE.out.symm, B⟩
  have HE := Lib.hid (show freeF (p, l, q) = 2 * p - trivF q - (rankN (rigM (p, l, q)) (2 * p.toNat) : Int) by unfold freeF; rw [hf]; rfl)
  have hrk := rankN_rig hf
  have HRK := Lib.hid (frkF_t hf)
  obtain ⟨⟨hg1, hg2⟩, hg3, _, _, _⟩ := isFw_facts hf
  have hq0 : 0 < q.length := by omega
  clear hg3
  generalize hR : (rankN (rigM (p, l, q)) (2 * p.toNat) : Nat) = R at hrk HE HRK
  clear hR
  go_enter Try.func30, Try.ntmps30
  go_wp2_with fail
  refine (impl_IsFramework _ _ (p, l, q) (HFw.out.below B) hsz).mono ?_
  rintro e w1 ⟨rfl, b⟩
  have hz_w1 := b.size
  replace B := B.step b
  replace BX := Lib.hid (BX.out.below b)
  clear b
  rw [hf]
  obtain ⟨zBX, fBX0, fBX1, fBX2⟩ := BX.out
  go_wp2_with fail
  clear zBX fBX0 fBX1 fBX2
  go_loopw [4, 13] (fun s i w9 => ∃ k : Nat, k ≤ q.length ∧ i = .int .i64 k ∧ s = .bool ((List.range k).all (samAt q)) ∧ Below w1.heap.size w1 w9) (fun _ i _ => q.length - (intOf i).toNat)
  case atStart => exact ⟨0, Nat.zero_le _, rfl, rfl, Below.refl _ _⟩
  case round =>
    obtain ⟨k, hk, rfl, rfl, hb⟩ := hrel
    have B1 := B.step hb
    have BX1 := Lib.hid (BX.out.below hb)
    obtain ⟨zBX, fBX0, fBX1, fBX2⟩ := BX1.out
    by_cases hlt : k < q.length
    · obtain ⟨bq, oq, ⟨y1, y2⟩, rfl, hbq, hy, hya, hyb⟩ := (H2.out.below B1).2 k hlt
      obtain ⟨bq', oq', ⟨t1, t2⟩, hab, hbq', ht, hta, htb⟩ := (H2.out.below B1).2 0 hq0
      simp only [Option.some.injEq, Addr.mk.injEq, and_true] at hab
      obtain ⟨rfl, rfl⟩ := hab
      dsimp only at hya hyb hta htb
      simp only [Nat.zero_mul, Nat.add_zero] at hta htb
      have HY := Lib.hid hy
      have HT := Lib.hid ht
      clear hy ht
      have hp0 : (0 : Int) < (q.length : Int) := by omega
      have z1 : W.heap.size ≤ wr.heap.size := by omega
      have z2 : W.heap.size < wr.heap.size + 1 := by omega
      have z3 : bq ≤ wr.heap.size := by omega
      have z4 : bq < wr.heap.size + 1 := by omega
      have ba : ∀ o, Below wr.heap.size wr (wr.alloc o) := fun o => (Below.refl _ _).alloc (Nat.le_refl _) o
      have HBA := Lib.hid ba
      clear ba
      cases hs4 : (List.range k).all (samAt q)
      · have HS := Lib.hid (show (List.range (k + 1)).all (samAt q) = false by rw [List.range_succ, List.all_append, hs4]; rfl)
        clear hs4
        go_wp2_with fail
        refine wp_region_wd (by kernel_rfl) (by kernel_rfl) ?_
        repeat (go_big_quiet_step (fail))
        refine wpQuiet_nil ?_
        intro n1
        have hbn := (hb.step (HBA.out _)).step n1.h
        go_wp2_with fail
        go_roundw
        case rel => exact ⟨k + 1, by omega, by go_num, by rw [HS.out], hbn⟩
        case measure => simp [intOf]; omega
      · by_cases hpq : (((y1, y2) : PlaceT) = (t1, t2))
        · have HPQ := Lib.hid (show (List.range (k + 1)).all (samAt q) = true from range_all_succ hs4 (show samAt q k = true by simp only [samAt, HY.out, HT.out, hpq]; simp))
          have hcp := fun w => eqlPlace_t hpq w
          clear hpq hs4
          go_wp2_with fail
          refine wp_region_wd (by kernel_rfl) (by kernel_rfl) ?_
          repeat (go_big_quiet_step (fail))
          refine wpQuiet_nil ?_
          intro n1
          have hbn := (hb.step (HBA.out _)).step n1.h
          go_wp2_with fail
          go_roundw
          case rel => exact ⟨k + 1, by omega, by go_num, by rw [HPQ.out], hbn⟩
          case measure => simp [intOf]; omega
        · have HPQ := Lib.hid (show (List.range (k + 1)).all (samAt q) = false by rw [List.range_succ, List.all_append, show [k].all (samAt q) = false by simp only [List.all_cons, samAt, HY.out, HT.out]; simpa using hpq, Bool.and_false])
          have hcp := fun w => eqlPlace_f hpq w
          clear hpq hs4
          go_wp2_with fail
          refine wp_region_wd (by kernel_rfl) (by kernel_rfl) ?_
          repeat (go_big_quiet_step (fail))
          refine wpQuiet_nil ?_
          intro n1
          have hbn := (hb.step (HBA.out _)).step n1.h
          go_wp2_with fail
          go_roundw
          case rel => exact ⟨k + 1, by omega, by go_num, by rw [HPQ.out], hbn⟩
          case measure => simp [intOf]; omega
    · obtain rfl : k = q.length := by omega
      have hw1 := IntWalk.i64_in (2 * p) (by omega)
      have hw2 := IntWalk.i64_in (2 * p - 2) (by omega)
      have hw3 := IntWalk.i64_in (2 * p - 3) (by omega)
      have hw4 := IntWalk.i64_in (2 * p - 2 - (R : Int)) (by omega)
      have hw5 := IntWalk.i64_in (2 * p - 3 - (R : Int)) (by omega)
      cases hs4 : (List.range q.length).all (samAt q)
      · have HE2 := Lib.hid (ret_int (k := .i64) (show freeF (p, l, q) = 2 * p - 3 - (R : Int) by rw [HE.out]; simp only [trivF, sameB, hs4]; simp))
        clear hs4
        go_wp2_with fail
        refine wp_region_wd (by kernel_rfl) (by kernel_rfl) ?_
        repeat (go_big_quiet_step (first | (go_at_call 27; exact Calls.wd_of ((implFrk_at _ _ _ _ _ _ _ _ (H1.out.below (B1.step (Wd.h _))) (H2.out.below (B1.step (Wd.h _))) hs).mono fun _ _ h => ⟨h.1.trans (by rw [HRK.out]), h.2⟩))))
        refine wpQuiet_nil ?_
        intro n1
        have B := B1.step n1.h
        go_wp2_with fail
        go_ret
        exact ⟨HE2.out.symm, B⟩
      · have HE2 := Lib.hid (ret_int (k := .i64) (show freeF (p, l, q) = 2 * p - 2 - (R : Int) by rw [HE.out]; simp only [trivF, sameB, hs4]; simp))
        clear hs4
        go_wp2_with fail
        refine wp_region_wd (by kernel_rfl) (by kernel_rfl) ?_
        repeat (go_big_quiet_step (first | (go_at_call 27; exact Calls.wd_of ((implFrk_at _ _ _ _ _ _ _ _ (H1.out.below (B1.step (Wd.h _))) (H2.out.below (B1.step (Wd.h _))) hs).mono fun _ _ h => ⟨h.1.trans (by rw [HRK.out]), h.2⟩))))
        refine wpQuiet_nil ?_
        intro n1
        have B := B1.step n1.h
        go_wp2_with fail
        go_ret
        exact ⟨HE2.out.symm, B⟩

def cntF (f : FwT) : Int := if isFwB f = true then (f.2.1.length : Int) - (rankN (rigM f) (2 * f.1.toNat) : Int) else -1
def indB (f : FwT) : Bool := isFwB f && ((rankN (rigM f) (2 * f.1.toNat) : Int) == (f.2.1.length : Int))

set_option maxHeartbeats 4000000 in
theorem specStiff_at (W : World) (p : Int) (a : Option Addr) (cap : Nat) (l : List BarT) (c : Option Addr) (capc : Nat) (q : List PlaceT) (h : BarsAt W a l.length l) (hq : PlacesAt W c q.length q) (hs : l.length + q.length ≤ 1048576) :
    Calls Try.prog 31 #[.agg #[.int .i64 p, .slice a l.length cap, .slice c q.length capc]] W fun e w' => e = .returned (.bool (freeF (p, l, q) == 0)) ∧ Below W.heap.size W w' := by
  have hwd := @Wd.cells
  have HFw : Hid (IsFw W (.agg #[.int .i64 p, .slice a l.length cap, .slice c q.length capc]) (p, l, q)) := Lib.hid ⟨a, cap, c, capc, rfl, h, hq⟩
  have H1 := Lib.hid h
  have H2 := Lib.hid hq
  clear h hq
  have hsz : szFw (p, l, q) ≤ 1048576 := hs
  have hs1 : l.length ≤ 1048576 := by omega
  have hs2 : q.length ≤ 1048576 := by omega
  have B : Below W.heap.size W (W.alloc (.cells #[.int .i64 p, .slice a l.length cap, .slice c q.length capc] 41)) := (Below.refl _ _).alloc (Nat.le_refl _) _
  have BX : Hid (BoxFw (W.alloc (.cells #[.int .i64 p, .slice a l.length cap, .slice c q.length capc] 41)) W.heap.size p a l.length cap c q.length capc) := Lib.hid (BoxFw.at rfl)
  generalize hF : freeF (p, l, q) = F at *
  have HF := Lib.hid hF
  clear hF
  go_enter Try.func31, Try.ntmps31
  go_wp2_with fail
  refine (specFree_at _ _ _ _ _ _ _ _ (H1.out.below B) (H2.out.below B) hs).mono ?_
  rintro e w1 ⟨rfl, b⟩
  replace B := B.step b
  clear b
  rw [HF.out]
  go_wp2_with fail
  go_ret
  exact ⟨rfl, B⟩

set_option maxHeartbeats 4000000 in
theorem specCountS_at (W : World) (p : Int) (a : Option Addr) (cap : Nat) (l : List BarT) (c : Option Addr) (capc : Nat) (q : List PlaceT) (h : BarsAt W a l.length l) (hq : PlacesAt W c q.length q) (hs : l.length + q.length ≤ 1048576) :
    Calls Try.prog 35 #[.agg #[.int .i64 p, .slice a l.length cap, .slice c q.length capc]] W fun e w' => e = .returned (.int .i64 (cntF (p, l, q))) ∧ Below W.heap.size W w' := by
  have hwd := @Wd.cells
  have HFw : Hid (IsFw W (.agg #[.int .i64 p, .slice a l.length cap, .slice c q.length capc]) (p, l, q)) := Lib.hid ⟨a, cap, c, capc, rfl, h, hq⟩
  have H1 := Lib.hid h
  have H2 := Lib.hid hq
  clear h hq
  have hsz : szFw (p, l, q) ≤ 1048576 := hs
  have hs1 : l.length ≤ 1048576 := by omega
  have hs2 : q.length ≤ 1048576 := by omega
  have B : Below W.heap.size W (W.alloc (.cells #[.int .i64 p, .slice a l.length cap, .slice c q.length capc] 41)) := (Below.refl _ _).alloc (Nat.le_refl _) _
  have BX : Hid (BoxFw (W.alloc (.cells #[.int .i64 p, .slice a l.length cap, .slice c q.length capc] 41)) W.heap.size p a l.length cap c q.length capc) := Lib.hid (BoxFw.at rfl)
  cases hf : isFwB (p, l, q)
  · have HE := Lib.hid (ret_int (k := .i64) (show cntF (p, l, q) = -1 by unfold cntF; rw [hf]; rfl))
    go_enter Try.func35, Try.ntmps35
    go_wp2_with fail
    refine (spec_IsFramework _ _ (p, l, q) (HFw.out.below B) hsz).mono ?_
    rintro e w1 ⟨rfl, b⟩
    have hz_w1 := b.size
    replace B := B.step b
    replace BX := Lib.hid (BX.out.below b)
    clear b
    rw [hf]
    go_wp2_with fail
    go_ret
    exact ⟨HE.out.symm, B⟩
  have HE := Lib.hid (ret_int (k := .i64) (show cntF (p, l, q) = (l.length : Int) - (rankN (rigM (p, l, q)) (2 * p.toNat) : Int) by unfold cntF; rw [hf]; rfl))
  have hrk := rankN_rig hf
  have HRK := Lib.hid (frkF_t hf)
  obtain ⟨⟨hg1, hg2⟩, hg3, hg4, _, _⟩ := isFw_facts hf
  clear hg3
  generalize hR : (rankN (rigM (p, l, q)) (2 * p.toNat) : Nat) = R at hrk HE HRK
  clear hR
  go_enter Try.func35, Try.ntmps35
  go_wp2_with fail
  refine (spec_IsFramework _ _ (p, l, q) (HFw.out.below B) hsz).mono ?_
  rintro e w1 ⟨rfl, b⟩
  have hz_w1 := b.size
  replace B := B.step b
  replace BX := Lib.hid (BX.out.below b)
  clear b
  rw [hf]
  obtain ⟨zBX, fBX0, fBX1, fBX2⟩ := BX.out
  go_wp2_with fail
  have hw1 := IntWalk.i64_in ((l.length : Int) - (R : Int)) (by omega)
  refine wp_region_wd (by kernel_rfl) (by kernel_rfl) ?_
  repeat (go_big_quiet_step (first | (go_at_call 25; exact Calls.wd_of ((specFrk_at _ _ _ _ _ _ _ _ (H1.out.below (B.step (Wd.h _))) (H2.out.below (B.step (Wd.h _))) hs).mono fun _ _ h => ⟨h.1.trans (by rw [HRK.out]), h.2⟩))))
  refine wpQuiet_nil ?_
  intro n1
  have B := B.step n1.h
  go_wp2_with fail
  go_ret
  exact ⟨HE.out.symm, B⟩

set_option maxHeartbeats 4000000 in
theorem specIndep_at (W : World) (p : Int) (a : Option Addr) (cap : Nat) (l : List BarT) (c : Option Addr) (capc : Nat) (q : List PlaceT) (h : BarsAt W a l.length l) (hq : PlacesAt W c q.length q) (hs : l.length + q.length ≤ 1048576) :
    Calls Try.prog 33 #[.agg #[.int .i64 p, .slice a l.length cap, .slice c q.length capc]] W fun e w' => e = .returned (.bool (indB (p, l, q))) ∧ Below W.heap.size W w' := by
  have hwd := @Wd.cells
  have HFw : Hid (IsFw W (.agg #[.int .i64 p, .slice a l.length cap, .slice c q.length capc]) (p, l, q)) := Lib.hid ⟨a, cap, c, capc, rfl, h, hq⟩
  have H1 := Lib.hid h
  have H2 := Lib.hid hq
  clear h hq
  have hsz : szFw (p, l, q) ≤ 1048576 := hs
  have hs1 : l.length ≤ 1048576 := by omega
  have hs2 : q.length ≤ 1048576 := by omega
  have B : Below W.heap.size W (W.alloc (.cells #[.int .i64 p, .slice a l.length cap, .slice c q.length capc] 41)) := (Below.refl _ _).alloc (Nat.le_refl _) _
  have BX : Hid (BoxFw (W.alloc (.cells #[.int .i64 p, .slice a l.length cap, .slice c q.length capc] 41)) W.heap.size p a l.length cap c q.length capc) := Lib.hid (BoxFw.at rfl)
  cases hf : isFwB (p, l, q)
  · have HE := Lib.hid (ret_bool (show indB (p, l, q) = false by unfold indB; rw [hf]; rfl))
    obtain ⟨zBX, fBX0, fBX1, fBX2⟩ := BX.out
    have cF : ∀ n : Wd (W.alloc (.cells #[.int .i64 p, .slice a l.length cap, .slice c q.length capc] 41)), Calls Try.prog 61 #[.agg #[.int .i64 p, .slice a l.length cap, .slice c q.length capc]] n.w fun e w' => e = .returned (.bool false) ∧ Below n.w.heap.size n.w w' := fun n => by
      have := spec_IsFramework _ _ (p, l, q) (HFw.out.below (B.step n.h)) hsz
      rwa [hf] at this
    have HC := Lib.hid cF
    clear cF
    go_enter Try.func33, Try.ntmps33
    go_wp2_with fail
    refine wp_region_wd (by kernel_rfl) (by kernel_rfl) ?_
    repeat (go_big_quiet_step (first | (go_at_call 61; exact Calls.wd_of (HC.out _))))
    refine wpQuiet_nil ?_
    intro n1
    have B := B.step n1.h
    go_wp2_with fail
    go_ret
    exact ⟨HE.out.symm, B⟩
  have HE := Lib.hid (ret_bool (show indB (p, l, q) = ((rankN (rigM (p, l, q)) (2 * p.toNat) : Int) == (l.length : Int)) by unfold indB; rw [hf, Bool.true_and]))
  have hrk := rankN_rig hf
  have HRK := Lib.hid (frkF_t hf)
  generalize hR : (rankN (rigM (p, l, q)) (2 * p.toNat) : Nat) = R at hrk HE HRK
  clear hR
  obtain ⟨zBX, fBX0, fBX1, fBX2⟩ := BX.out
  have cF : ∀ n : Wd (W.alloc (.cells #[.int .i64 p, .slice a l.length cap, .slice c q.length capc] 41)), Calls Try.prog 61 #[.agg #[.int .i64 p, .slice a l.length cap, .slice c q.length capc]] n.w fun e w' => e = .returned (.bool true) ∧ Below n.w.heap.size n.w w' := fun n => by
    have := spec_IsFramework _ _ (p, l, q) (HFw.out.below (B.step n.h)) hsz
    rwa [hf] at this
  have HC := Lib.hid cF
  clear cF
  go_enter Try.func33, Try.ntmps33
  go_wp2_with fail
  refine wp_region_wd (by kernel_rfl) (by kernel_rfl) ?_
  repeat (go_big_quiet_step (first | (go_at_call 61; exact Calls.wd_of (HC.out _)) | (go_at_call 25; exact Calls.wd_of ((specFrk_at _ _ _ _ _ _ _ _ (H1.out.below (B.step (Wd.h _))) (H2.out.below (B.step (Wd.h _))) hs).mono fun _ _ h => ⟨h.1.trans (by rw [HRK.out]), h.2⟩))))
  refine wpQuiet_nil ?_
  intro n1
  have B := B.step n1.h
  go_wp2_with fail
  go_ret
  exact ⟨HE.out.symm, B⟩

set_option maxHeartbeats 4000000 in
theorem implStiff_at (W : World) (p : Int) (a : Option Addr) (cap : Nat) (l : List BarT) (c : Option Addr) (capc : Nat) (q : List PlaceT) (h : BarsAt W a l.length l) (hq : PlacesAt W c q.length q) (hs : l.length + q.length ≤ 1048576) :
    Calls Try.prog 32 #[.agg #[.int .i64 p, .slice a l.length cap, .slice c q.length capc]] W fun e w' => e = .returned (.bool (freeF (p, l, q) == 0)) ∧ Below W.heap.size W w' := by
  have hwd := @Wd.cells
  have HFw : Hid (IsFw W (.agg #[.int .i64 p, .slice a l.length cap, .slice c q.length capc]) (p, l, q)) := Lib.hid ⟨a, cap, c, capc, rfl, h, hq⟩
  have H1 := Lib.hid h
  have H2 := Lib.hid hq
  clear h hq
  have hsz : szFw (p, l, q) ≤ 1048576 := hs
  have hs1 : l.length ≤ 1048576 := by omega
  have hs2 : q.length ≤ 1048576 := by omega
  have B : Below W.heap.size W (W.alloc (.cells #[.int .i64 p, .slice a l.length cap, .slice c q.length capc] 41)) := (Below.refl _ _).alloc (Nat.le_refl _) _
  have BX : Hid (BoxFw (W.alloc (.cells #[.int .i64 p, .slice a l.length cap, .slice c q.length capc] 41)) W.heap.size p a l.length cap c q.length capc) := Lib.hid (BoxFw.at rfl)
  generalize hF : freeF (p, l, q) = F at *
  have HF := Lib.hid hF
  clear hF
  go_enter Try.func32, Try.ntmps32
  go_wp2_with fail
  refine (implFree_at _ _ _ _ _ _ _ _ (H1.out.below B) (H2.out.below B) hs).mono ?_
  rintro e w1 ⟨rfl, b⟩
  replace B := B.step b
  clear b
  rw [HF.out]
  go_wp2_with fail
  go_ret
  exact ⟨rfl, B⟩

set_option maxHeartbeats 4000000 in
theorem implCountS_at (W : World) (p : Int) (a : Option Addr) (cap : Nat) (l : List BarT) (c : Option Addr) (capc : Nat) (q : List PlaceT) (h : BarsAt W a l.length l) (hq : PlacesAt W c q.length q) (hs : l.length + q.length ≤ 1048576) :
    Calls Try.prog 36 #[.agg #[.int .i64 p, .slice a l.length cap, .slice c q.length capc]] W fun e w' => e = .returned (.int .i64 (cntF (p, l, q))) ∧ Below W.heap.size W w' := by
  have hwd := @Wd.cells
  have HFw : Hid (IsFw W (.agg #[.int .i64 p, .slice a l.length cap, .slice c q.length capc]) (p, l, q)) := Lib.hid ⟨a, cap, c, capc, rfl, h, hq⟩
  have H1 := Lib.hid h
  have H2 := Lib.hid hq
  clear h hq
  have hsz : szFw (p, l, q) ≤ 1048576 := hs
  have hs1 : l.length ≤ 1048576 := by omega
  have hs2 : q.length ≤ 1048576 := by omega
  have B : Below W.heap.size W (W.alloc (.cells #[.int .i64 p, .slice a l.length cap, .slice c q.length capc] 41)) := (Below.refl _ _).alloc (Nat.le_refl _) _
  have BX : Hid (BoxFw (W.alloc (.cells #[.int .i64 p, .slice a l.length cap, .slice c q.length capc] 41)) W.heap.size p a l.length cap c q.length capc) := Lib.hid (BoxFw.at rfl)
  cases hf : isFwB (p, l, q)
  · have HE := Lib.hid (ret_int (k := .i64) (show cntF (p, l, q) = -1 by unfold cntF; rw [hf]; rfl))
    go_enter Try.func36, Try.ntmps36
    go_wp2_with fail
    refine (impl_IsFramework _ _ (p, l, q) (HFw.out.below B) hsz).mono ?_
    rintro e w1 ⟨rfl, b⟩
    have hz_w1 := b.size
    replace B := B.step b
    replace BX := Lib.hid (BX.out.below b)
    clear b
    rw [hf]
    go_wp2_with fail
    go_ret
    exact ⟨HE.out.symm, B⟩
  have HE := Lib.hid (ret_int (k := .i64) (show cntF (p, l, q) = (l.length : Int) - (rankN (rigM (p, l, q)) (2 * p.toNat) : Int) by unfold cntF; rw [hf]; rfl))
  have hrk := rankN_rig hf
  have HRK := Lib.hid (frkF_t hf)
  obtain ⟨⟨hg1, hg2⟩, hg3, hg4, _, _⟩ := isFw_facts hf
  clear hg3
  generalize hR : (rankN (rigM (p, l, q)) (2 * p.toNat) : Nat) = R at hrk HE HRK
  clear hR
  go_enter Try.func36, Try.ntmps36
  go_wp2_with fail
  refine (impl_IsFramework _ _ (p, l, q) (HFw.out.below B) hsz).mono ?_
  rintro e w1 ⟨rfl, b⟩
  have hz_w1 := b.size
  replace B := B.step b
  replace BX := Lib.hid (BX.out.below b)
  clear b
  rw [hf]
  obtain ⟨zBX, fBX0, fBX1, fBX2⟩ := BX.out
  go_wp2_with fail
  have hw1 := IntWalk.i64_in ((l.length : Int) - (R : Int)) (by omega)
  refine wp_region_wd (by kernel_rfl) (by kernel_rfl) ?_
  repeat (go_big_quiet_step (first | (go_at_call 27; exact Calls.wd_of ((implFrk_at _ _ _ _ _ _ _ _ (H1.out.below (B.step (Wd.h _))) (H2.out.below (B.step (Wd.h _))) hs).mono fun _ _ h => ⟨h.1.trans (by rw [HRK.out]), h.2⟩))))
  refine wpQuiet_nil ?_
  intro n1
  have B := B.step n1.h
  go_wp2_with fail
  go_ret
  exact ⟨HE.out.symm, B⟩

set_option maxHeartbeats 4000000 in
theorem implIndep_at (W : World) (p : Int) (a : Option Addr) (cap : Nat) (l : List BarT) (c : Option Addr) (capc : Nat) (q : List PlaceT) (h : BarsAt W a l.length l) (hq : PlacesAt W c q.length q) (hs : l.length + q.length ≤ 1048576) :
    Calls Try.prog 34 #[.agg #[.int .i64 p, .slice a l.length cap, .slice c q.length capc]] W fun e w' => e = .returned (.bool (indB (p, l, q))) ∧ Below W.heap.size W w' := by
  have hwd := @Wd.cells
  have HFw : Hid (IsFw W (.agg #[.int .i64 p, .slice a l.length cap, .slice c q.length capc]) (p, l, q)) := Lib.hid ⟨a, cap, c, capc, rfl, h, hq⟩
  have H1 := Lib.hid h
  have H2 := Lib.hid hq
  clear h hq
  have hsz : szFw (p, l, q) ≤ 1048576 := hs
  have hs1 : l.length ≤ 1048576 := by omega
  have hs2 : q.length ≤ 1048576 := by omega
  have B : Below W.heap.size W (W.alloc (.cells #[.int .i64 p, .slice a l.length cap, .slice c q.length capc] 41)) := (Below.refl _ _).alloc (Nat.le_refl _) _
  have BX : Hid (BoxFw (W.alloc (.cells #[.int .i64 p, .slice a l.length cap, .slice c q.length capc] 41)) W.heap.size p a l.length cap c q.length capc) := Lib.hid (BoxFw.at rfl)
  cases hf : isFwB (p, l, q)
  · have HE := Lib.hid (ret_bool (show indB (p, l, q) = false by unfold indB; rw [hf]; rfl))
    obtain ⟨zBX, fBX0, fBX1, fBX2⟩ := BX.out
    have cF : ∀ n : Wd (W.alloc (.cells #[.int .i64 p, .slice a l.length cap, .slice c q.length capc] 41)), Calls Try.prog 65 #[.agg #[.int .i64 p, .slice a l.length cap, .slice c q.length capc]] n.w fun e w' => e = .returned (.bool false) ∧ Below n.w.heap.size n.w w' := fun n => by
      have := impl_IsFramework _ _ (p, l, q) (HFw.out.below (B.step n.h)) hsz
      rwa [hf] at this
    have HC := Lib.hid cF
    clear cF
    go_enter Try.func34, Try.ntmps34
    go_wp2_with fail
    refine wp_region_wd (by kernel_rfl) (by kernel_rfl) ?_
    repeat (go_big_quiet_step (first | (go_at_call 65; exact Calls.wd_of (HC.out _))))
    refine wpQuiet_nil ?_
    intro n1
    have B := B.step n1.h
    go_wp2_with fail
    go_ret
    exact ⟨HE.out.symm, B⟩
  have HE := Lib.hid (ret_bool (show indB (p, l, q) = ((rankN (rigM (p, l, q)) (2 * p.toNat) : Int) == (l.length : Int)) by unfold indB; rw [hf, Bool.true_and]))
  have hrk := rankN_rig hf
  have HRK := Lib.hid (frkF_t hf)
  generalize hR : (rankN (rigM (p, l, q)) (2 * p.toNat) : Nat) = R at hrk HE HRK
  clear hR
  obtain ⟨zBX, fBX0, fBX1, fBX2⟩ := BX.out
  have cF : ∀ n : Wd (W.alloc (.cells #[.int .i64 p, .slice a l.length cap, .slice c q.length capc] 41)), Calls Try.prog 65 #[.agg #[.int .i64 p, .slice a l.length cap, .slice c q.length capc]] n.w fun e w' => e = .returned (.bool true) ∧ Below n.w.heap.size n.w w' := fun n => by
    have := impl_IsFramework _ _ (p, l, q) (HFw.out.below (B.step n.h)) hsz
    rwa [hf] at this
  have HC := Lib.hid cF
  clear cF
  go_enter Try.func34, Try.ntmps34
  go_wp2_with fail
  refine wp_region_wd (by kernel_rfl) (by kernel_rfl) ?_
  repeat (go_big_quiet_step (first | (go_at_call 65; exact Calls.wd_of (HC.out _)) | (go_at_call 27; exact Calls.wd_of ((implFrk_at _ _ _ _ _ _ _ _ (H1.out.below (B.step (Wd.h _))) (H2.out.below (B.step (Wd.h _))) hs).mono fun _ _ h => ⟨h.1.trans (by rw [HRK.out]), h.2⟩))))
  refine wpQuiet_nil ?_
  intro n1
  have B := B.step n1.h
  go_wp2_with fail
  go_ret
  exact ⟨HE.out.symm, B⟩
theorem spec_FrameworkFreedom (W : World) (v : Value) (f : FwT) (h : IsFw W v f) (hn : szFw f ≤ 1048576) : Calls Try.prog 29 #[v] W fun e w' => e = .returned (.int .i64 (freeF f)) ∧ Below W.heap.size W w' := by
  obtain ⟨p, l, q⟩ := f
  obtain ⟨a, cap, c, capc, rfl, hi, hj⟩ := h
  exact specFree_at _ _ _ _ _ _ _ _ hi hj hn
theorem impl_FrameworkFreedom (W : World) (v : Value) (f : FwT) (h : IsFw W v f) (hn : szFw f ≤ 1048576) : Calls Try.prog 30 #[v] W fun e w' => e = .returned (.int .i64 (freeF f)) ∧ Below W.heap.size W w' := by
  obtain ⟨p, l, q⟩ := f
  obtain ⟨a, cap, c, capc, rfl, hi, hj⟩ := h
  exact implFree_at _ _ _ _ _ _ _ _ hi hj hn
theorem spec_IsStiff (W : World) (v : Value) (f : FwT) (h : IsFw W v f) (hn : szFw f ≤ 1048576) : Calls Try.prog 31 #[v] W fun e w' => e = .returned (.bool (freeF f == 0)) ∧ Below W.heap.size W w' := by
  obtain ⟨p, l, q⟩ := f
  obtain ⟨a, cap, c, capc, rfl, hi, hj⟩ := h
  exact specStiff_at _ _ _ _ _ _ _ _ hi hj hn
theorem impl_IsStiff (W : World) (v : Value) (f : FwT) (h : IsFw W v f) (hn : szFw f ≤ 1048576) : Calls Try.prog 32 #[v] W fun e w' => e = .returned (.bool (freeF f == 0)) ∧ Below W.heap.size W w' := by
  obtain ⟨p, l, q⟩ := f
  obtain ⟨a, cap, c, capc, rfl, hi, hj⟩ := h
  exact implStiff_at _ _ _ _ _ _ _ _ hi hj hn
theorem spec_CountStresses (W : World) (v : Value) (f : FwT) (h : IsFw W v f) (hn : szFw f ≤ 1048576) : Calls Try.prog 35 #[v] W fun e w' => e = .returned (.int .i64 (cntF f)) ∧ Below W.heap.size W w' := by
  obtain ⟨p, l, q⟩ := f
  obtain ⟨a, cap, c, capc, rfl, hi, hj⟩ := h
  exact specCountS_at _ _ _ _ _ _ _ _ hi hj hn
theorem impl_CountStresses (W : World) (v : Value) (f : FwT) (h : IsFw W v f) (hn : szFw f ≤ 1048576) : Calls Try.prog 36 #[v] W fun e w' => e = .returned (.int .i64 (cntF f)) ∧ Below W.heap.size W w' := by
  obtain ⟨p, l, q⟩ := f
  obtain ⟨a, cap, c, capc, rfl, hi, hj⟩ := h
  exact implCountS_at _ _ _ _ _ _ _ _ hi hj hn
theorem spec_IsIndependentFramework (W : World) (v : Value) (f : FwT) (h : IsFw W v f) (hn : szFw f ≤ 1048576) : Calls Try.prog 33 #[v] W fun e w' => e = .returned (.bool (indB f)) ∧ Below W.heap.size W w' := by
  obtain ⟨p, l, q⟩ := f
  obtain ⟨a, cap, c, capc, rfl, hi, hj⟩ := h
  exact specIndep_at _ _ _ _ _ _ _ _ hi hj hn
theorem impl_IsIndependentFramework (W : World) (v : Value) (f : FwT) (h : IsFw W v f) (hn : szFw f ≤ 1048576) : Calls Try.prog 34 #[v] W fun e w' => e = .returned (.bool (indB f)) ∧ Below W.heap.size W w' := by
  obtain ⟨p, l, q⟩ := f
  obtain ⟨a, cap, c, capc, rfl, hi, hj⟩ := h
  exact implIndep_at _ _ _ _ _ _ _ _ hi hj hn
end Go.Proofs.Ytjmclkikkmhmjaa
