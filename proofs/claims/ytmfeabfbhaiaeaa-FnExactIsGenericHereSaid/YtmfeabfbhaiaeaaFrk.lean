/- FrameworkRank of the program and of the reference. No condition but sizes. -/
import Derived.Test.YtmfeabfbhaiaeaaRigFit
import Derived.Deep.RegionHeld3
namespace Go.Proofs.Ytmfeabfbhaiaeaa
open Go.RowKit Gr
set_option maxRecDepth 100000
set_option linter.unusedVariables false
set_option linter.unusedSimpArgs false

def frkF (f : FwT) : Int := if isFwB f = true then (rankN (rigM f) (2 * f.1.toNat) : Int) else -1

set_option maxHeartbeats 4000000 in
theorem specFrk_at (W : World) (p : Int) (a : Option Addr) (cap : Nat) (l : List BarT) (c : Option Addr) (capc : Nat) (q : List PlaceT) (h : BarsAt W a l.length l) (hq : PlacesAt W c q.length q) (hs : l.length + q.length ≤ 1048576) :
    Calls Try.prog 36 #[.agg #[.int .i64 p, .slice a l.length cap, .slice c q.length capc]] W fun e w' => e = .returned (.int .i64 (frkF (p, l, q))) ∧ Below W.heap.size W w' := by
  have HFw : Hid (IsFw W (.agg #[.int .i64 p, .slice a l.length cap, .slice c q.length capc]) (p, l, q)) := Lib.hid ⟨a, cap, c, capc, rfl, h, hq⟩
  clear h hq
  have hsz : szFw (p, l, q) ≤ 1048576 := hs
  have hs1 : l.length ≤ 1048576 := by omega
  have hs2 : q.length ≤ 1048576 := by omega
  have B : Below W.heap.size W (W.alloc (.cells #[.int .i64 p, .slice a l.length cap, .slice c q.length capc] 35)) := (Below.refl _ _).alloc (Nat.le_refl _) _
  have BX : Hid (BoxFw (W.alloc (.cells #[.int .i64 p, .slice a l.length cap, .slice c q.length capc] 35)) W.heap.size p a l.length cap c q.length capc) := Lib.hid (BoxFw.at rfl)
  cases hf : isFwB (p, l, q)
  · have HE := Lib.hid (ret_int (k := .i64) (show frkF (p, l, q) = -1 by unfold frkF; rw [hf]; rfl))
    go_enter Try.func36, Try.ntmps36
    go_wp2_with fail
    refine (spec_IsFramework _ _ (p, l, q) (HFw.out.below B) hsz).mono ?_
    rintro e w1 ⟨rfl, b⟩
    replace B := B.step b
    clear b
    rw [hf]
    go_wp2_with fail
    go_ret
    exact ⟨HE.out.symm, B⟩
  have HE := Lib.hid (ret_int (k := .i64) (show frkF (p, l, q) = (rankN (rigM (p, l, q)) (2 * p.toNat) : Int) by unfold frkF; rw [hf]; rfl))
  have HFIT := Lib.hid (fit_rig hf)
  go_enter Try.func36, Try.ntmps36
  go_wp2_with fail
  refine (spec_IsFramework _ _ (p, l, q) (HFw.out.below B) hsz).mono ?_
  rintro e w1 ⟨rfl, b⟩
  replace B := B.step b
  replace BX := Lib.hid (BX.out.below b)
  clear b
  rw [hf]
  obtain ⟨z, f0, f1, f2⟩ := BX.out
  go_wp2_with fail
  refine (spec_RigidityMatrix _ _ (p, l, q) (HFw.out.below B) hsz).mono ?_
  rintro e w2 ⟨v, rfl, ho, b⟩
  replace B := B.step b
  clear b z f0 f1 f2
  obtain ⟨am, cm, rfl, hi⟩ := ho.form
  have HI := Lib.hid hi
  clear hi ho
  go_wp2_with fail
  refine (l9Reduced_fit (rigM (p, l, q)) (2 * p.toNat) _ HFIT.out _ _ _ HI.out).mono ?_
  rintro e w3 ⟨va, vp, rfl, h1, h2, hb⟩
  obtain ⟨ap, cp, rfl, hi⟩ := h2.form
  have hl : ((redS (rigM (p, l, q)).length (2 * p.toNat) (entF (rigM (p, l, q))) (2 * p.toNat)).P.map Int.ofNat).length = rankN (rigM (p, l, q)) (2 * p.toNat) := by rw [List.length_map]; exact rankS _ _
  clear h1 h2 hi
  rw [hl]
  clear hl
  replace B := B.step hb
  clear hb
  go_wp2_with fail
  go_ret
  exact ⟨HE.out.symm, B⟩

set_option maxHeartbeats 4000000 in
theorem implFrk_at (W : World) (p : Int) (a : Option Addr) (cap : Nat) (l : List BarT) (c : Option Addr) (capc : Nat) (q : List PlaceT) (h : BarsAt W a l.length l) (hq : PlacesAt W c q.length q) (hs : l.length + q.length ≤ 1048576) :
    Calls Try.prog 40 #[.agg #[.int .i64 p, .slice a l.length cap, .slice c q.length capc]] W fun e w' => e = .returned (.int .i64 (frkF (p, l, q))) ∧ Below W.heap.size W w' := by
  have HFw : Hid (IsFw W (.agg #[.int .i64 p, .slice a l.length cap, .slice c q.length capc]) (p, l, q)) := Lib.hid ⟨a, cap, c, capc, rfl, h, hq⟩
  clear h hq
  have hsz : szFw (p, l, q) ≤ 1048576 := hs
  have hs1 : l.length ≤ 1048576 := by omega
  have hs2 : q.length ≤ 1048576 := by omega
  have B : Below W.heap.size W (W.alloc (.cells #[.int .i64 p, .slice a l.length cap, .slice c q.length capc] 35)) := (Below.refl _ _).alloc (Nat.le_refl _) _
  have BX : Hid (BoxFw (W.alloc (.cells #[.int .i64 p, .slice a l.length cap, .slice c q.length capc] 35)) W.heap.size p a l.length cap c q.length capc) := Lib.hid (BoxFw.at rfl)
  cases hf : isFwB (p, l, q)
  · have HE := Lib.hid (ret_int (k := .i64) (show frkF (p, l, q) = -1 by unfold frkF; rw [hf]; rfl))
    go_enter Try.func40, Try.ntmps40
    go_wp2_with fail
    refine (impl_IsFramework _ _ (p, l, q) (HFw.out.below B) hsz).mono ?_
    rintro e w1 ⟨rfl, b⟩
    replace B := B.step b
    clear b
    rw [hf]
    go_wp2_with fail
    go_ret
    exact ⟨HE.out.symm, B⟩
  have HE := Lib.hid (ret_int (k := .i64) (show frkF (p, l, q) = (rankN (rigM (p, l, q)) (2 * p.toNat) : Int) by unfold frkF; rw [hf]; rfl))
  have HFIT := Lib.hid (fit_rig hf)
  obtain ⟨⟨hg1, hg2⟩, _, _, _, _⟩ := isFw_facts hf
  have cR : ∀ (w : World) (am : Option Addr) (cm : Nat), IntssAt w am (rigM (p, l, q)).length (rigM (p, l, q)) → Calls Try.prog 83 #[.slice am (rigM (p, l, q)).length cm, .int .i64 (2 * p)] w fun e w' => e = .returned (.int .i64 (rankN (rigM (p, l, q)) (2 * p.toNat))) ∧ Below w.heap.size w w' := fun w am cm hi => by
    have := implRank_fit (rigM (p, l, q)) (2 * p.toNat) _ HFIT.out w am cm _ hi
    rwa [show ((2 * p.toNat : Nat) : Int) = 2 * p by omega] at this
  have HR := Lib.hid cR
  clear cR
  go_enter Try.func40, Try.ntmps40
  go_wp2_with fail
  refine (impl_IsFramework _ _ (p, l, q) (HFw.out.below B) hsz).mono ?_
  rintro e w1 ⟨rfl, b⟩
  replace B := B.step b
  replace BX := Lib.hid (BX.out.below b)
  clear b
  rw [hf]
  obtain ⟨z, f0, f1, f2⟩ := BX.out
  go_wp2_with fail
  have hw := IntWalk.i64_in (2 * p) (by omega)
  have bd : Below w1.heap.size w1 w1.drew := (Below.refl _ _).drew
  replace B := B.step bd
  replace BX := Lib.hid (BX.out.below bd)
  clear bd z f0 f1 f2
  have tk1 := True.intro
  have tk2 := True.intro
  go_region_held3 (fun w' => w'.cell? ⟨W.heap.size, 0, none⟩ = some (.int .i64 p) ∧ w'.cell? ⟨W.heap.size, 1, none⟩ = some (.slice a l.length cap) ∧ w'.cell? ⟨W.heap.size, 2, none⟩ = some (.slice c q.length capc))
    (with_reducible exact ⟨BX.out.c0, BX.out.c1, BX.out.c2⟩)
    (first
      | (clear tk1; go_at_call 84; refine (impl_RigidityMatrix _ _ (p, l, q) (HFw.out.below B) hsz).mono ?_; rintro e w4 ⟨v, rfl, ho, b⟩; have hz4 := b.size; replace B := B.step b; replace BX := Lib.hid (BX.out.below b); clear b; obtain ⟨am, cm, rfl, hi⟩ := ho.form; have HI := Lib.hid hi; clear hi ho)
      | (clear tk2; go_at_call 83; refine (HR.out _ _ _ HI.out).mono ?_; rintro e w6 ⟨rfl, b⟩; have hz6 := b.size; replace B := B.step b; replace BX := Lib.hid (BX.out.below b); clear b)
      | fail)
  all_goals
    go_wp2_with fail
    go_ret
    exact ⟨HE.out.symm, B⟩

theorem spec_FrameworkRank (W : World) (v : Value) (f : FwT) (h : IsFw W v f) (hn : szFw f ≤ 1048576) : Calls Try.prog 36 #[v] W fun e w' => e = .returned (.int .i64 (frkF f)) ∧ Below W.heap.size W w' := by
  obtain ⟨p, l, q⟩ := f
  obtain ⟨a, cap, c, capc, rfl, hi, hj⟩ := h
  exact specFrk_at _ _ _ _ _ _ _ _ hi hj hn
theorem impl_FrameworkRank (W : World) (v : Value) (f : FwT) (h : IsFw W v f) (hn : szFw f ≤ 1048576) : Calls Try.prog 40 #[v] W fun e w' => e = .returned (.int .i64 (frkF f)) ∧ Below W.heap.size W w' := by
  obtain ⟨p, l, q⟩ := f
  obtain ⟨a, cap, c, capc, rfl, hi, hj⟩ := h
  exact implFrk_at _ _ _ _ _ _ _ _ hi hj hn
end Go.Proofs.Ytmfeabfbhaiaeaa
