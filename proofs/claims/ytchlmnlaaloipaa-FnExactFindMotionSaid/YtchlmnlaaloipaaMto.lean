/- MotionsOf of the program and of the reference. No condition but sizes. -/
import Derived.Test.YtchlmnlaaloipaaFrk
import Derived.Test.YtchlmnlaaloipaaNulM
import Derived.Deep.RegionHeld3
namespace Go.Proofs.Ytchlmnlaaloipaa
open Go.RowKit Gr
set_option maxRecDepth 100000
set_option linter.unusedVariables false
set_option linter.unusedSimpArgs false

def motL (f : FwT) : List (List Int) := if isFwB f = true then nullL (rigM f) (2 * f.1.toNat) else []
theorem motL_sz (f : FwT) : szIntss (motL f) ≤ 1048576 := by
  unfold motL
  split
  · rename_i h
    have h1 := (fit_rig h).n64
    have h2 := nullL_len (rigM f) (2 * f.1.toNat)
    have h3 := nullL_sum (rigM f) (2 * f.1.toNat)
    have h4 : (2 * f.1.toNat) * (2 * f.1.toNat) ≤ 64 * 64 := Nat.mul_le_mul h1 h1
    unfold szIntss; omega
  · decide

set_option maxHeartbeats 4000000 in
theorem specMot0_at (W : World) (p : Int) (a : Option Addr) (cap : Nat) (l : List BarT) (c : Option Addr) (capc : Nat) (q : List PlaceT) (h : BarsAt W a l.length l) (hq : PlacesAt W c q.length q) (hs : l.length + q.length ≤ 1048576) :
    Calls Try.prog 34 #[.agg #[.int .i64 p, .slice a l.length cap, .slice c q.length capc]] W (RetIntss W (motL (p, l, q))) := by
  have hwd := @Wd.cells
  have HFw : Hid (IsFw W (.agg #[.int .i64 p, .slice a l.length cap, .slice c q.length capc]) (p, l, q)) := Lib.hid ⟨a, cap, c, capc, rfl, h, hq⟩
  have H1 := Lib.hid h
  have H2 := Lib.hid hq
  clear h hq
  have hsz : szFw (p, l, q) ≤ 1048576 := hs
  have hs1 : l.length ≤ 1048576 := by omega
  have hs2 : q.length ≤ 1048576 := by omega
  have B : Below W.heap.size W (W.alloc (.cells #[.int .i64 p, .slice a l.length cap, .slice c q.length capc] 36)) := (Below.refl _ _).alloc (Nat.le_refl _) _
  have BX : Hid (BoxFw (W.alloc (.cells #[.int .i64 p, .slice a l.length cap, .slice c q.length capc] 36)) W.heap.size p a l.length cap c q.length capc) := Lib.hid (BoxFw.at rfl)
  cases hf : isFwB (p, l, q)
  · have HE := Lib.hid (show motL (p, l, q) = [] by unfold motL; rw [hf]; rfl)
    go_enter Try.func34, Try.ntmps34
    go_wp2_with fail
    refine (spec_IsFramework _ _ (p, l, q) (HFw.out.below B) hsz).mono ?_
    rintro e w1 ⟨rfl, b⟩
    have hz_w1 := b.size
    replace B := B.step b
    replace BX := Lib.hid (BX.out.below b)
    clear b
    rw [hf]
    have HO := Lib.hid (made_intss w1)
    go_wp2_with fail
    go_ret
    exact ⟨_, rfl, by rw [HE.out]; exact ownsRow_base' HO.out B.size, B.step ((Below.refl _ _).alloc (Nat.le_refl _) _)⟩
  have HE := Lib.hid (show motL (p, l, q) = nullL (rigM (p, l, q)) (2 * p.toNat) by unfold motL; rw [hf]; rfl)
  have HFIT := Lib.hid (fit_rig hf)
  obtain ⟨⟨hg1, hg2⟩, _, _, _, _⟩ := isFw_facts hf
  have cR : ∀ (w : World) (am : Option Addr) (cm : Nat), IntssAt w am (rigM (p, l, q)).length (rigM (p, l, q)) → Calls Try.prog 61 #[.slice am (rigM (p, l, q)).length cm, .int .i64 (2 * p)] w (RetIntss w (nullL (rigM (p, l, q)) (2 * p.toNat))) := fun w am cm hi => by
    have := l9Null_fit (rigM (p, l, q)) (2 * p.toNat) _ _ HFIT.out w am cm hi
    rwa [show ((2 * p.toNat : Nat) : Int) = 2 * p by omega] at this
  have HR := Lib.hid cR
  clear cR
  go_enter Try.func34, Try.ntmps34
  go_wp2_with fail
  refine (spec_IsFramework _ _ (p, l, q) (HFw.out.below B) hsz).mono ?_
  rintro e w1 ⟨rfl, b⟩
  have hz_w1 := b.size
  replace B := B.step b
  replace BX := Lib.hid (BX.out.below b)
  clear b
  rw [hf]
  obtain ⟨zBX, fBX0, fBX1, fBX2⟩ := BX.out
  go_wp2_with fail
  have hw := IntWalk.i64_in (2 * p) (by omega)
  have bd : Below w1.heap.size w1 w1.drew := (Below.refl _ _).drew
  replace B := B.step bd
  replace BX := Lib.hid (BX.out.below bd)
  clear bd
  clear zBX fBX0 fBX1 fBX2
  have tk1 := True.intro
  have tk2 := True.intro
  go_region_held3 (fun w' => w'.cell? ⟨W.heap.size, 0, none⟩ = some (.int .i64 p) ∧ w'.cell? ⟨W.heap.size, 1, none⟩ = some (.slice a l.length cap) ∧ w'.cell? ⟨W.heap.size, 2, none⟩ = some (.slice c q.length capc))
    (with_reducible exact ⟨BX.out.c0, BX.out.c1, BX.out.c2⟩)
    (first
      | (clear tk1; go_at_call 55; refine (spec_RigidityMatrix _ _ (p, l, q) (HFw.out.below B) hsz).mono ?_; rintro e w4 ⟨v, rfl, ho, b⟩; have hz4 := b.size; replace B := B.step b; replace BX := Lib.hid (BX.out.below b); clear b; obtain ⟨am, cm, rfl, hi⟩ := ho.form; have HI := Lib.hid hi; clear hi ho)
      | (clear tk2; go_at_call 61; refine (HR.out _ _ _ HI.out).mono ?_; rintro e w6 ⟨v, rfl, ho, b⟩; have hz6 := B.size; have HOV := Lib.hid ho; clear ho; replace B := B.step b; replace BX := Lib.hid (BX.out.below b); clear b)
      | fail)
  all_goals
    go_wp2_with fail
    go_ret
    exact ⟨_, rfl, by rw [HE.out]; exact ownsRow_base' HOV.out (by omega), B⟩
theorem spec_MotionsOf (W : World) (v : Value) (f : FwT) (h : IsFw W v f) (hn : szFw f ≤ 1048576) : Calls Try.prog 34 #[v] W (RetIntss W (motL f)) := by
  obtain ⟨p, l, q⟩ := f
  obtain ⟨a, cap, c, capc, rfl, hi, hj⟩ := h
  exact specMot0_at _ _ _ _ _ _ _ _ hi hj hn

set_option maxHeartbeats 4000000 in
theorem implMot0_at (W : World) (p : Int) (a : Option Addr) (cap : Nat) (l : List BarT) (c : Option Addr) (capc : Nat) (q : List PlaceT) (h : BarsAt W a l.length l) (hq : PlacesAt W c q.length q) (hs : l.length + q.length ≤ 1048576) :
    Calls Try.prog 36 #[.agg #[.int .i64 p, .slice a l.length cap, .slice c q.length capc]] W (RetIntss W (motL (p, l, q))) := by
  have hwd := @Wd.cells
  have HFw : Hid (IsFw W (.agg #[.int .i64 p, .slice a l.length cap, .slice c q.length capc]) (p, l, q)) := Lib.hid ⟨a, cap, c, capc, rfl, h, hq⟩
  have H1 := Lib.hid h
  have H2 := Lib.hid hq
  clear h hq
  have hsz : szFw (p, l, q) ≤ 1048576 := hs
  have hs1 : l.length ≤ 1048576 := by omega
  have hs2 : q.length ≤ 1048576 := by omega
  have B : Below W.heap.size W (W.alloc (.cells #[.int .i64 p, .slice a l.length cap, .slice c q.length capc] 36)) := (Below.refl _ _).alloc (Nat.le_refl _) _
  have BX : Hid (BoxFw (W.alloc (.cells #[.int .i64 p, .slice a l.length cap, .slice c q.length capc] 36)) W.heap.size p a l.length cap c q.length capc) := Lib.hid (BoxFw.at rfl)
  cases hf : isFwB (p, l, q)
  · have HE := Lib.hid (show motL (p, l, q) = [] by unfold motL; rw [hf]; rfl)
    go_enter Try.func36, Try.ntmps36
    go_wp2_with fail
    refine (impl_IsFramework _ _ (p, l, q) (HFw.out.below B) hsz).mono ?_
    rintro e w1 ⟨rfl, b⟩
    have hz_w1 := b.size
    replace B := B.step b
    replace BX := Lib.hid (BX.out.below b)
    clear b
    rw [hf]
    have HO := Lib.hid (made_intss w1)
    go_wp2_with fail
    go_ret
    exact ⟨_, rfl, by rw [HE.out]; exact ownsRow_base' HO.out B.size, B.step ((Below.refl _ _).alloc (Nat.le_refl _) _)⟩
  have HE := Lib.hid (show motL (p, l, q) = nullL (rigM (p, l, q)) (2 * p.toNat) by unfold motL; rw [hf]; rfl)
  have HFIT := Lib.hid (fit_rig hf)
  obtain ⟨⟨hg1, hg2⟩, _, _, _, _⟩ := isFw_facts hf
  have cR : ∀ (w : World) (am : Option Addr) (cm : Nat), IntssAt w am (rigM (p, l, q)).length (rigM (p, l, q)) → Calls Try.prog 48 #[.slice am (rigM (p, l, q)).length cm, .int .i64 (2 * p)] w (RetIntss w (nullL (rigM (p, l, q)) (2 * p.toNat))) := fun w am cm hi => by
    have := nullspace_fit (rigM (p, l, q)) (2 * p.toNat) _ _ HFIT.out w am cm hi
    rwa [show ((2 * p.toNat : Nat) : Int) = 2 * p by omega] at this
  have HR := Lib.hid cR
  clear cR
  go_enter Try.func36, Try.ntmps36
  go_wp2_with fail
  refine (impl_IsFramework _ _ (p, l, q) (HFw.out.below B) hsz).mono ?_
  rintro e w1 ⟨rfl, b⟩
  have hz_w1 := b.size
  replace B := B.step b
  replace BX := Lib.hid (BX.out.below b)
  clear b
  rw [hf]
  obtain ⟨zBX, fBX0, fBX1, fBX2⟩ := BX.out
  go_wp2_with fail
  have hw := IntWalk.i64_in (2 * p) (by omega)
  have bd : Below w1.heap.size w1 w1.drew := (Below.refl _ _).drew
  replace B := B.step bd
  replace BX := Lib.hid (BX.out.below bd)
  clear bd
  clear zBX fBX0 fBX1 fBX2
  have tk1 := True.intro
  have tk2 := True.intro
  go_region_held3 (fun w' => w'.cell? ⟨W.heap.size, 0, none⟩ = some (.int .i64 p) ∧ w'.cell? ⟨W.heap.size, 1, none⟩ = some (.slice a l.length cap) ∧ w'.cell? ⟨W.heap.size, 2, none⟩ = some (.slice c q.length capc))
    (with_reducible exact ⟨BX.out.c0, BX.out.c1, BX.out.c2⟩)
    (first
      | (clear tk1; go_at_call 47; refine (impl_RigidityMatrix _ _ (p, l, q) (HFw.out.below B) hsz).mono ?_; rintro e w4 ⟨v, rfl, ho, b⟩; have hz4 := b.size; replace B := B.step b; replace BX := Lib.hid (BX.out.below b); clear b; obtain ⟨am, cm, rfl, hi⟩ := ho.form; have HI := Lib.hid hi; clear hi ho)
      | (clear tk2; go_at_call 48; refine (HR.out _ _ _ HI.out).mono ?_; rintro e w6 ⟨v, rfl, ho, b⟩; have hz6 := B.size; have HOV := Lib.hid ho; clear ho; replace B := B.step b; replace BX := Lib.hid (BX.out.below b); clear b)
      | fail)
  all_goals
    go_wp2_with fail
    go_ret
    exact ⟨_, rfl, by rw [HE.out]; exact ownsRow_base' HOV.out (by omega), B⟩
theorem impl_MotionsOf (W : World) (v : Value) (f : FwT) (h : IsFw W v f) (hn : szFw f ≤ 1048576) : Calls Try.prog 36 #[v] W (RetIntss W (motL f)) := by
  obtain ⟨p, l, q⟩ := f
  obtain ⟨a, cap, c, capc, rfl, hi, hj⟩ := h
  exact implMot0_at _ _ _ _ _ _ _ _ hi hj hn
end Go.Proofs.Ytchlmnlaaloipaa
