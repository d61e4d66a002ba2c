/- ForceAt of the program and of the reference. No condition but sizes. -/
import Derived.Test.YtkjoeogoebpkjaaFcs
import Derived.Test.YtkjoeogoebpkjaaChg2
import Derived.Test.YtkjoeogoebpkjaaIsf2
import Derived.Test.YtkjoeogoebpkjaaRig
import Derived.Deep.RegionHeld3
namespace Go.Proofs.Ytkjoeogoebpkjaa
open Go.RowKit
set_option maxRecDepth 100000
set_option linter.unusedVariables false
set_option linter.unusedSimpArgs false

def othN (x : BarT) (v : Int) : Int := if x.1 = v then x.2 else x.1
def fTo (g : PlaceT → Int) (l : List BarT) (q : List PlaceT) (w : List Int) (v : Int) : Nat → Int
  | 0 => 0
  | i + 1 => match l[i]? with
    | some x => if x.1 = v ∨ x.2 = v then wrap64 (fTo g l q w v i + wrap64 (w[i]?.getD 0 * wrap64 (g (plAt q v.toNat) - g (plAt q (othN x v).toNat)))) else fTo g l q w v i
    | none => fTo g l q w v i
theorem fTo_hit {g : PlaceT → Int} {l : List BarT} {q : List PlaceT} {w : List Int} {v : Int} {i : Nat} {x : BarT} {y : Int} {a b : PlaceT} (hx : l[i]? = some x) (hy : w[i]? = some y) (hv : x.1 = v ∨ x.2 = v) (ha : q[v.toNat]? = some a) (hb : q[(othN x v).toNat]? = some b) :
    fTo g l q w v (i + 1) = wrap64 (fTo g l q w v i + wrap64 (y * wrap64 (g a - g b))) := by
  simp only [fTo, hx, if_pos hv, hy, plAt, ha, hb, Option.getD_some]
theorem fTo_miss {g : PlaceT → Int} {l : List BarT} {q : List PlaceT} {w : List Int} {v : Int} {i : Nat} {x : BarT} (hx : l[i]? = some x) (hv : ¬ (x.1 = v ∨ x.2 = v)) : fTo g l q w v (i + 1) = fTo g l q w v i := by
  simp only [fTo, hx, if_neg hv]
def forceF (f : FwT) (w : List Int) (v : Int) : Int × Int := if forB f w = true then (fTo Prod.fst f.2.1 f.2.2 w v f.2.1.length, fTo Prod.snd f.2.1 f.2.2 w v f.2.1.length) else (0, 0)

set_option maxHeartbeats 1000000 in
theorem l4Other_at (W : World) (a b v : Int) (ha : 0 ≤ a ∧ a ≤ 100) (hb : 0 ≤ b ∧ b ≤ 100) (hv : 0 ≤ v ∧ v ≤ 100) :
    Calls Try.prog 61 #[.agg #[.int .i64 a, .int .i64 b], .int .i64 v] W fun e w' => e = .returned (.int .i64 (a + b - v)) ∧ Below W.heap.size W w' := by
  have h1 := IntWalk.i64_in (a + b) (by omega)
  have h2 := IntWalk.i64_in (a + b - v) (by omega)
  go_enter Try.func61, Try.ntmps61
  go_wp2_with fail
  go_ret
  exact ⟨rfl, (Below.refl _ _).alloc (Nat.le_refl _) _⟩
set_option maxHeartbeats 1000000 in
theorem barHas_at (W : World) (a b v : Int) :
    Calls Try.prog 65 #[.agg #[.int .i64 a, .int .i64 b], .int .i64 v] W fun e w' => e = .returned (.bool (decide (a = v ∨ b = v))) ∧ Below W.heap.size W w' := by
  by_cases h1 : a = v <;> by_cases h2 : b = v
  all_goals
    have h3 : (a == v) = decide (a = v) := rfl
    have h4 : (b == v) = decide (b = v) := rfl
    simp only [h1, h2, decide_true, decide_false] at h3 h4
    go_enter Try.func65, Try.ntmps65
    go_wp2_with fail
    go_ret
    exact ⟨by simp [h1, h2], (Below.refl _ _).alloc (Nat.le_refl _) _⟩
set_option maxHeartbeats 1000000 in
theorem barOther_at (W : World) (a b v : Int) :
    Calls Try.prog 66 #[.agg #[.int .i64 a, .int .i64 b], .int .i64 v] W fun e w' => e = .returned (.int .i64 (othN (a, b) v)) ∧ Below W.heap.size W w' := by
  by_cases h1 : a = v
  all_goals
    have h3 : (a == v) = decide (a = v) := rfl
    simp only [h1, decide_true, decide_false] at h3
    go_enter Try.func66, Try.ntmps66
    go_wp2_with fail
    go_ret
    exact ⟨by simp [othN, h1], (Below.refl _ _).alloc (Nat.le_refl _) _⟩

set_option maxHeartbeats 4000000 in
theorem specFrc_at (W : World) (p : Int) (a : Option Addr) (cap : Nat) (l : List BarT) (c : Option Addr) (capc : Nat) (q : List PlaceT) (h : BarsAt W a l.length l) (hq : PlacesAt W c q.length q) (hs : l.length + q.length ≤ 1048576) (va : Option Addr) (n vcap : Nat) (w : List Int) (hv : IntsAt W va n w) (hvn : n ≤ 1048576) (v : Int) :
    Calls Try.prog 23 #[.agg #[.int .i64 p, .slice a l.length cap, .slice c q.length capc], .slice va n vcap, .int .i64 v] W fun e w' => e = .returned (.tuple #[.int .i64 (forceF (p, l, q) w v).1, .int .i64 (forceF (p, l, q) w v).2]) ∧ Below W.heap.size W w' := by
  have hwd := @Wd.cells
  have HFw : Hid (IsFw W (.agg #[.int .i64 p, .slice a l.length cap, .slice c q.length capc]) (p, l, q)) := Lib.hid ⟨a, cap, c, capc, rfl, h, hq⟩
  have H1 := Lib.hid h
  have H2 := Lib.hid hq
  clear h hq
  have hsz : szFw (p, l, q) ≤ 1048576 := hs
  have hs1 : l.length ≤ 1048576 := by omega
  have hs2 : q.length ≤ 1048576 := by omega
  have B : Below W.heap.size W (W.alloc (.cells #[.int .i64 p, .slice a l.length cap, .slice c q.length capc] 42)) := (Below.refl _ _).alloc (Nat.le_refl _) _
  have BX : Hid (BoxFw (W.alloc (.cells #[.int .i64 p, .slice a l.length cap, .slice c q.length capc] 42)) W.heap.size p a l.length cap c q.length capc) := Lib.hid (BoxFw.at rfl)
  obtain rfl := hv.1
  have HV := Lib.hid hv
  clear hv
  cases hf : forB (p, l, q) w
  · have HE := Lib.hid (show forceF (p, l, q) w v = (0, 0) by unfold forceF; rw [hf]; rfl)
    go_enter Try.func23, Try.ntmps23
    go_wp2_with fail
    generalize (W.alloc (.cells #[.int .i64 p, .slice a l.length cap, .slice c q.length capc] 42)) = u at *
    go_loopw [8, 9, 10] (fun x y i w9 => x = .int .i64 0 ∧ y = .int .i64 0 ∧ i = .int .i64 0 ∧ u = w9) (fun _ _ _ _ => 0)
    case atStart => exact ⟨rfl, rfl, rfl, rfl⟩
    case round =>
      obtain ⟨rfl, rfl, rfl, rfl⟩ := hrel
      obtain ⟨zBX, fBX0, fBX1, fBX2⟩ := BX.out
      by_cases h0 : 0 < w.length
      · have h0i : (0 : Int) < (w.length : Int) := by omega
        go_wp2_with fail
        refine (l13Vector_at _ _ _ _ _ _ _ _ (H1.out.below B) (H2.out.below B) hs1 hs2 hs _ _ _ _ (HV.out.below B) (by omega)).mono ?_
        rintro e w1 ⟨rfl, b⟩
        have B1 := B.step b
        rw [hf]
        go_wp2_with fail
        go_ret2
        exact ⟨by rw [HE.out]; rfl, B1⟩
      · go_wp2_with fail
        go_ret2
        exact ⟨by rw [HE.out]; rfl, B⟩
  have HE := Lib.hid (show forceF (p, l, q) w v = (fTo Prod.fst l q w v l.length, fTo Prod.snd l q w v l.length) by unfold forceF; rw [hf]; rfl)
  obtain ⟨hfw, hwl, _⟩ := forB_facts hf
  obtain ⟨⟨hg1, hg2⟩, hg3, hg4, hg5, _⟩ := isFw_facts hfw
  have HG5 := Lib.hid hg5
  have HWL := Lib.hid hwl
  clear hg5 hwl
  go_enter Try.func23, Try.ntmps23
  go_wp2_with fail
  generalize (W.alloc (.cells #[.int .i64 p, .slice a l.length cap, .slice c q.length capc] 42)) = u at *
  go_loopw [8, 9, 10] (fun x y i w9 => ∃ k : Nat, k ≤ l.length ∧ i = .int .i64 k ∧ x = .int .i64 (fTo Prod.fst l q w v k) ∧ y = .int .i64 (fTo Prod.snd l q w v k) ∧ Below u.heap.size u w9) (fun _ _ i _ => l.length - (intOf i).toNat)
  case atStart => exact ⟨0, Nat.zero_le _, rfl, rfl, rfl, Below.refl _ _⟩
  case round =>
    obtain ⟨k, hk, rfl, rfl, rfl, hb⟩ := hrel
    generalize hX : fTo Prod.fst l q w v k = X
    generalize hY : fTo Prod.snd l q w v k = Y
    have HXX := Lib.hid hX
    have HYY := Lib.hid hY
    clear hX hY
    have B1 := B.step hb
    have BX1 := Lib.hid (BX.out.below hb)
    obtain ⟨zBX, fBX0, fBX1, fBX2⟩ := BX1.out
    by_cases hlt : k < l.length
    · have hlti : (k : Int) < (w.length : Int) := by have := HWL.out; omega
      have hkw : k < w.length := by omega
      obtain ⟨⟨x1, x2⟩, hx⟩ : ∃ x : BarT, l[k]? = some x := ⟨_, List.getElem?_eq_getElem hlt⟩
      have HX := Lib.hid hx
      obtain ⟨hx1, hx2, hx3⟩ := isGraphB_bar HG5.out hx
      dsimp only at hx1 hx2 hx3
      obtain ⟨i1, rfl⟩ := Int.eq_ofNat_of_zero_le hx1
      obtain ⟨i2, rfl⟩ := Int.eq_ofNat_of_zero_le (show 0 ≤ x2 by omega)
      clear hx
      go_wp2_with fail
      refine (l13Vector_at _ _ _ _ _ _ _ _ (H1.out.below B1) (H2.out.below B1) hs1 hs2 hs _ _ _ _ (HV.out.below B1) (by omega)).mono ?_
      rintro e w3 ⟨rfl, b⟩
      have hb3 := hb.step b
      replace B1 := B1.step b
      clear zBX fBX0 fBX1 fBX2
      replace BX1 := Lib.hid (BX1.out.below b)
      clear b
      rw [hf]
      obtain ⟨zBX, fBX0, fBX1, fBX2⟩ := BX1.out
      obtain ⟨bb, off, ⟨x1', x2'⟩, rfl, hbl, hx', hc0, hc1⟩ := (H1.out.below B1).2 k hlt
      have hxe := HX.out
      rw [hx'] at hxe
      obtain ⟨rfl, rfl⟩ : x1' = (i1 : Int) ∧ x2' = (i2 : Int) := by simpa using hxe
      dsimp only at hc0 hc1
      clear hx' hxe
      have hll : (k : Int) < (l.length : Int) := by omega
      have bpl : Below w3.heap.size w3 (w3.alloc (.cells #[.int .i64 i1, .int .i64 i2] 68)) := (Below.refl _ _).alloc (Nat.le_refl _) _
      have p0 : (w3.alloc (.cells #[.int .i64 i1, .int .i64 i2] 68)).cell? ⟨w3.heap.size, 0, none⟩ = some (.int .i64 i1) := by simp [World.cell?_alloc_new]
      have p1 : (w3.alloc (.cells #[.int .i64 i1, .int .i64 i2] 68)).cell? ⟨w3.heap.size, 1, none⟩ = some (.int .i64 i2) := by simp [World.cell?_alloc_new]
      have pz : w3.heap.size < (w3.alloc (.cells #[.int .i64 i1, .int .i64 i2] 68)).heap.size := by simp
      go_upto_region 7 with (fail)
      clear zBX fBX0 fBX1 fBX2 hc0 hc1
      replace BX1 := Lib.hid (BX1.out.below bpl)
      replace B1 := B1.step bpl
      have hb4 := hb3.step bpl
      generalize (w3.alloc (.cells #[.int .i64 i1, .int .i64 i2] 68)) = w4 at *
      clear bpl
      by_cases hv1 : (i1 : Int) = v
      · subst hv1
        have hq1 : (i1 : Int) < (q.length : Int) := by omega
        have hq2 : (i2 : Int) < (q.length : Int) := by omega
        go_wp2_with fail
        refine (l4Other_at _ _ _ _ (by omega) (by omega) (by omega)).mono ?_
        rintro e w5 ⟨rfl, b⟩
        rw [show (i1 : Int) + i2 - i1 = (i2 : Int) from by omega]
        replace BX1 := Lib.hid (BX1.out.below b)
        replace B1 := B1.step b
        have hb5 := hb4.step b
        clear b p0 p1
        obtain ⟨zBX, fBX0, fBX1, fBX2⟩ := BX1.out
        obtain ⟨bq, oq, ⟨y1, y2⟩, rfl, hbq, hy, hya, hyb⟩ := (H2.out.below B1).2 i1 (by omega)
        obtain ⟨bq', oq', ⟨t1, t2⟩, hab, hbq', ht, hta, htb⟩ := (H2.out.below B1).2 i2 (by omega)
        simp only [Option.some.injEq, Addr.mk.injEq, and_true] at hab
        obtain ⟨rfl, rfl⟩ := hab
        dsimp only at hya hyb hta htb
        obtain ⟨bv, ov, z, rfl, hbv, hz, hcz⟩ := (HV.out.below B1).2 k (by have := HWL.out; omega)
        have HFX := Lib.hid (fTo_hit (g := Prod.fst) HX.out hz (.inl rfl) (by rw [Int.toNat_natCast]; exact hy) (by simp only [othN, if_true, Int.toNat_natCast]; exact ht))
        have HFY := Lib.hid (fTo_hit (g := Prod.snd) HX.out hz (.inl rfl) (by rw [Int.toNat_natCast]; exact hy) (by simp only [othN, if_true, Int.toNat_natCast]; exact ht))
        rw [HXX.out] at HFX
        rw [HYY.out] at HFY
        clear hy ht hz
        go_wp2_with fail
        go_quiet (fail)
        go_wp2_with fail
        go_quiet (fail)
        go_wp2_with fail
        go_roundw
        case rel => exact ⟨k + 1, by omega, by go_num, by rw [HFX.out], by rw [HFY.out], below_drewN hb5 _⟩
        case measure => simp [intOf]; omega
      have hv1b : ((i1 : Int) == v) = false := by rw [beq_eq_false_iff_ne]; exact hv1
      by_cases hv2 : (i2 : Int) = v
      · subst hv2
        have hq1 : (i1 : Int) < (q.length : Int) := by omega
        have hq2 : (i2 : Int) < (q.length : Int) := by omega
        go_wp2_with fail
        refine (l4Other_at _ _ _ _ (by omega) (by omega) (by omega)).mono ?_
        rintro e w5 ⟨rfl, b⟩
        rw [show (i1 : Int) + i2 - i2 = (i1 : Int) from by omega]
        replace BX1 := Lib.hid (BX1.out.below b)
        replace B1 := B1.step b
        have hb5 := hb4.step b
        clear b p0 p1
        obtain ⟨zBX, fBX0, fBX1, fBX2⟩ := BX1.out
        obtain ⟨bq, oq, ⟨y1, y2⟩, rfl, hbq, hy, hya, hyb⟩ := (H2.out.below B1).2 i1 (by omega)
        obtain ⟨bq', oq', ⟨t1, t2⟩, hab, hbq', ht, hta, htb⟩ := (H2.out.below B1).2 i2 (by omega)
        simp only [Option.some.injEq, Addr.mk.injEq, and_true] at hab
        obtain ⟨rfl, rfl⟩ := hab
        dsimp only at hya hyb hta htb
        obtain ⟨bv, ov, z, rfl, hbv, hz, hcz⟩ := (HV.out.below B1).2 k (by have := HWL.out; omega)
        have HFX := Lib.hid (fTo_hit (g := Prod.fst) HX.out hz (.inr rfl) (by rw [Int.toNat_natCast]; exact ht) (by simp only [othN, if_neg hv1, Int.toNat_natCast]; exact hy))
        have HFY := Lib.hid (fTo_hit (g := Prod.snd) HX.out hz (.inr rfl) (by rw [Int.toNat_natCast]; exact ht) (by simp only [othN, if_neg hv1, Int.toNat_natCast]; exact hy))
        rw [HXX.out] at HFX
        rw [HYY.out] at HFY
        clear hy ht hz
        go_wp2_with fail
        go_quiet (fail)
        go_wp2_with fail
        go_quiet (fail)
        go_wp2_with fail
        go_roundw
        case rel => exact ⟨k + 1, by omega, by go_num, by rw [HFX.out], by rw [HFY.out], below_drewN hb5 _⟩
        case measure => simp [intOf]; omega
      have hv2b : ((i2 : Int) == v) = false := by rw [beq_eq_false_iff_ne]; exact hv2
      have HFX := Lib.hid (fTo_miss (g := Prod.fst) (q := q) (w := w) HX.out (fun h => h.elim hv1 hv2))
      have HFY := Lib.hid (fTo_miss (g := Prod.snd) (q := q) (w := w) HX.out (fun h => h.elim hv1 hv2))
      rw [HXX.out] at HFX
      rw [HYY.out] at HFY
      go_wp2_with fail
      go_roundw
      case rel => exact ⟨k + 1, by omega, by go_num, by rw [HFX.out], by rw [HFY.out], hb4⟩
      case measure => simp [intOf]; omega
    · obtain rfl : k = l.length := by omega
      have hli : ¬ ((l.length : Int) < (w.length : Int)) := by have := HWL.out; omega
      have hln : ¬ (l.length < w.length) := by have := HWL.out; omega
      go_wp2_with fail
      go_ret2
      exact ⟨by rw [HE.out, HXX.out, HYY.out]; rfl, B1⟩
end Go.Proofs.Ytkjoeogoebpkjaa
