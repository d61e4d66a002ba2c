/- When a velocity is a motion of the plane: two ways to say it, in plain integers. No condition. -/
import Derived.Test.YtfbmpkdjhhcnpaaMoP28
import Derived.Test.YtfbmpkdjhhcnpaaMoP29
import Derived.Deep.QuietTactic
import Derived.BigQuiet
import Derived.Test.YtfbmpkdjhhcnpaaMoP09
namespace Gr
set_option linter.unusedVariables false

/-- as the reference says it -/
structure TrS (p : Nat) (dx dy ux uy : Nat → Int) : Prop where
  s1 : ∀ a, a < p → ∀ b, b < a → (dx a - dx b) * (ux a - ux b) + (dy a - dy b) * (uy a - uy b) = 0
  s2 : ∀ a, a < p → ∀ b, b < a → dx a = dx b → dy a = dy b → ux a = ux b ∧ uy a = uy b
  s3 : ∀ a, a < p → ∀ b, b < a → 1 ≤ b → dx a * dy b = dy a * dx b → dx b * ux a + dy b * uy a = dx a * ux b + dy a * uy b ∧ dx b * uy a - dy b * ux a = dx a * uy b - dy a * ux b
/-- as the program says it, num / den told -/
def TrI (p : Nat) (dx dy ux uy : Nat → Int) (num den : Int) : Prop := ∀ i, i < p → ux i * den = -num * dy i ∧ uy i * den = num * dx i

theorem eq_of_mul {d x y : Int} (hd : d ≠ 0) (h : d * x = d * y) : x = y := Int.eq_of_mul_eq_mul_left hd h
theorem trS_of_trI {p : Nat} {dx dy ux uy : Nat → Int} {num den : Int} (hd : den ≠ 0) (h : TrI p dx dy ux uy num den) : TrS p dx dy ux uy := by
  refine ⟨fun a ha b hb => ?_, fun a ha b hb e1 e2 => ?_, fun a ha b hb h1 hc => ?_⟩
  · obtain ⟨a1, a2⟩ := h a ha
    obtain ⟨b1, b2⟩ := h b (by omega)
    refine eq_of_mul hd ?_
    generalize dx a = x at *; generalize dy a = y at *; generalize ux a = u at *; generalize uy a = v at *
    generalize dx b = x' at *; generalize dy b = y' at *; generalize ux b = u' at *; generalize uy b = v' at *
    clear h
    grind
  · obtain ⟨a1, a2⟩ := h a ha
    obtain ⟨b1, b2⟩ := h b (by omega)
    refine ⟨eq_of_mul hd ?_, eq_of_mul hd ?_⟩
    · rw [Int.mul_comm, a1, e2, ← b1, Int.mul_comm]
    · rw [Int.mul_comm, a2, e1, ← b2, Int.mul_comm]
  · obtain ⟨a1, a2⟩ := h a ha
    obtain ⟨b1, b2⟩ := h b (by omega)
    clear h
    generalize dx a = x at *; generalize dy a = y at *; generalize ux a = u at *; generalize uy a = v at *
    generalize dx b = x' at *; generalize dy b = y' at *; generalize ux b = u' at *; generalize uy b = v' at *
    refine ⟨eq_of_mul hd ?_, eq_of_mul hd ?_⟩ <;> grind
theorem trI_none {p : Nat} {dx dy ux uy : Nat → Int} (z1 : ux 0 = 0) (z2 : uy 0 = 0) (z3 : dx 0 = 0) (z4 : dy 0 = 0) (hn : ∀ i, i < p → dx i = 0 ∧ dy i = 0) (h : TrS p dx dy ux uy) : TrI p dx dy ux uy 0 1 := by
  intro i hi
  by_cases e : i = 0
  · subst e; rw [z1, z2]; simp
  · have := h.s2 i hi 0 (by omega) (by rw [z3]; exact (hn i hi).1) (by rw [z4]; exact (hn i hi).2)
    rw [this.1, this.2, z1, z2]; simp
theorem trI_at {p : Nat} {dx dy ux uy : Nat → Int} (z1 : ux 0 = 0) (z2 : uy 0 = 0) (z3 : dx 0 = 0) (z4 : dy 0 = 0) {k : Nat} (hk : k < p) (hne : dx k ≠ 0 ∨ dy k ≠ 0) (h : TrS p dx dy ux uy) :
    TrI p dx dy ux uy (uy k * dx k - ux k * dy k) (dx k * dx k + dy k * dy k) := by
  have hk0 : 0 < k := by
    refine Nat.pos_of_ne_zero fun e => ?_
    subst e; omega
  have ek := h.s1 k hk 0 hk0
  rw [z1, z2, z3, z4] at ek
  simp only [Int.sub_zero] at ek
  have k1 : ux k * (dx k * dx k + dy k * dy k) = -(uy k * dx k - ux k * dy k) * dy k ∧ uy k * (dx k * dx k + dy k * dy k) = (uy k * dx k - ux k * dy k) * dx k := by
    generalize dx k = x at *; generalize dy k = y at *; generalize ux k = u at *; generalize uy k = v at *
    clear h
    constructor <;> grind
  intro i hi
  by_cases e0 : i = 0
  · subst e0; rw [z1, z2, z3, z4]; simp
  by_cases eik : i = k
  · subst eik; exact k1
  have ei := h.s1 i hi 0 (by omega)
  rw [z1, z2, z3, z4] at ei
  simp only [Int.sub_zero] at ei
  by_cases hc : dx i * dy k = dy i * dx k
  · have e3 : dx k * ux i + dy k * uy i = dx i * ux k + dy i * uy k ∧ dx k * uy i - dy k * ux i = dx i * uy k - dy i * ux k := by
      rcases Nat.lt_or_gt_of_ne eik with hlt | hlt
      · have := h.s3 k hk i hlt (by omega) (by grind)
        exact ⟨this.1.symm, this.2.symm⟩
      · exact h.s3 i hi k hlt (by omega) hc
    obtain ⟨e1, e2⟩ := e3
    clear h
    generalize dx k = x at *; generalize dy k = y at *; generalize ux k = u at *; generalize uy k = v at *
    generalize dx i = x' at *; generalize dy i = y' at *; generalize ux i = u' at *; generalize uy i = v' at *
    clear k1 hne ei
    constructor <;> grind
  · have e1 : (dx i - dx k) * (ux i - ux k) + (dy i - dy k) * (uy i - uy k) = 0 := by
      rcases Nat.lt_or_gt_of_ne eik with hlt | hlt
      · have := h.s1 k hk i hlt
        grind
      · exact h.s1 i hi k hlt
    obtain ⟨k1, k2⟩ := k1
    clear h
    have hD : dx i * dy k - dy i * dx k ≠ 0 := by omega
    generalize hden : dx k * dx k + dy k * dy k = den at *
    generalize hnum : uy k * dx k - ux k * dy k = num at *
    have r1 : dx k * ux i + dy k * uy i = -(dx i * ux k + dy i * uy k) := by grind
    have r2 : den * (dx k * ux i + dy k * uy i) = num * (dx i * dy k - dy i * dx k) := by
      rw [r1]
      have t1 : den * ux k = -num * dy k := by rw [Int.mul_comm]; exact k1
      have t2 : den * uy k = num * dx k := by rw [Int.mul_comm]; exact k2
      have : den * -(dx i * ux k + dy i * uy k) = -(dx i * (den * ux k) + dy i * (den * uy k)) := by grind
      rw [this, t1, t2]; grind
    refine ⟨eq_of_mul hD ?_, eq_of_mul hD ?_⟩
    · have : (dx i * dy k - dy i * dx k) * ux i = dy k * (dx i * ux i + dy i * uy i) - dy i * (dx k * ux i + dy k * uy i) := by grind
      have t : (dx i * dy k - dy i * dx k) * (ux i * den) = dy k * (dx i * ux i + dy i * uy i) * den - dy i * (den * (dx k * ux i + dy k * uy i)) := by grind
      rw [t, ei, r2]; grind
    · have t : (dx i * dy k - dy i * dx k) * (uy i * den) = dx i * (den * (dx k * ux i + dy k * uy i)) - dx k * (dx i * ux i + dy i * uy i) * den := by grind
      rw [t, ei, r2]; grind
end Gr

namespace Go.Proofs.Ytfbmpkdjhhcnpaa
open Go.RowKit Gr
set_option maxRecDepth 100000
set_option linter.unusedVariables false
set_option linter.unusedSimpArgs false

def pX (q : List PlaceT) (i : Nat) : Int := (plAt q i).1
def pY (q : List PlaceT) (i : Nat) : Int := (plAt q i).2
def vN (v : List Int) (k : Nat) : Int := v[k]?.getD 0
def dX (q : List PlaceT) (i : Nat) : Int := pX q i - pX q 0
def dY (q : List PlaceT) (i : Nat) : Int := pY q i - pY q 0
def uX (v : List Int) (i : Nat) : Int := vN v (2 * i) - vN v 0
def uY (v : List Int) (i : Nat) : Int := vN v (2 * i + 1) - vN v 1
def PairAt (q : List PlaceT) (v : List Int) (a b : Nat) : Prop := ((dX q a - dX q b) * (uX v a - uX v b) + (dY q a - dY q b) * (uY v a - uY v b) = 0) ∧ (dX q a = dX q b → dY q a = dY q b → uX v a = uX v b ∧ uY v a = uY v b)
def FlatAt (q : List PlaceT) (v : List Int) (a b : Nat) : Prop := dX q a * dY q b = dY q a * dX q b → dX q b * uX v a + dY q b * uY v a = dX q a * uX v b + dY q a * uY v b ∧ dX q b * uY v a - dY q b * uX v a = dX q a * uY v b - dY q a * uX v b
instance (q : List PlaceT) (v : List Int) (a b : Nat) : Decidable (PairAt q v a b) := by unfold PairAt; infer_instance
instance (q : List PlaceT) (v : List Int) (a b : Nat) : Decidable (FlatAt q v a b) := by unfold FlatAt; infer_instance
def flatB (q : List PlaceT) (v : List Int) : Bool := decide (∀ a, a < q.length → ∀ b, b < a → 1 ≤ b → FlatAt q v a b)
def pairB (q : List PlaceT) (v : List Int) : Bool := decide (∀ a, a < q.length → ∀ b, b < a → PairAt q v a b)
def trivB (f : FwT) (v : List Int) : Bool := velB f v && (pairB f.2.2 v && flatB f.2.2 v)
theorem triv_iff (q : List PlaceT) (v : List Int) : (pairB q v && flatB q v) = true ↔ TrS q.length (dX q) (dY q) (uX v) (uY v) := by
  simp only [pairB, flatB, Bool.and_eq_true, decide_eq_true_eq]
  constructor
  · rintro ⟨h1, h2⟩
    exact ⟨fun a ha b hb => (h1 a ha b hb).1, fun a ha b hb => (h1 a ha b hb).2, fun a ha b hb h => h2 a ha b hb h⟩
  · intro h
    exact ⟨fun a ha b hb => ⟨h.s1 a ha b hb, h.s2 a ha b hb⟩, fun a ha b hb h1 => h.s3 a ha b hb h1⟩
theorem placesAll {W : World} {c : Option Addr} {q : List PlaceT} (h : PlacesAt W c q.length q) (h0 : 0 < q.length) :
    ∃ bq oq, c = some ⟨bq, oq, none⟩ ∧ bq < W.heap.size ∧ ∀ i, i < q.length → W.cell? ⟨bq, oq + i * 2, none⟩ = some (.int .i64 (pX q i)) ∧ W.cell? ⟨bq, oq + i * 2 + 1, none⟩ = some (.int .i64 (pY q i)) := by
  obtain ⟨bq, oq, x0, rfl, hb0, _⟩ := h.2 0 h0
  refine ⟨bq, oq, rfl, hb0, fun i hi => ?_⟩
  obtain ⟨b', o', x, hab, _, hx, h1, h2⟩ := h.2 i hi
  simp only [Option.some.injEq, Addr.mk.injEq, and_true] at hab
  obtain ⟨rfl, rfl⟩ := hab
  have e : plAt q i = x := by simp only [plAt, hx, Option.getD_some]
  unfold pX pY
  rw [e]
  exact ⟨h1, h2⟩
theorem intsAll {W : World} {c : Option Addr} {n : Nat} {v : List Int} (h : IntsAt W c n v) (h0 : 0 < n) :
    ∃ bv ov, c = some ⟨bv, ov, none⟩ ∧ bv < W.heap.size ∧ ∀ k, k < n → W.cell? ⟨bv, ov + k, none⟩ = some (.int .i64 (vN v k)) := by
  obtain ⟨bq, oq, x0, rfl, hb0, _⟩ := h.2 0 h0
  refine ⟨bq, oq, rfl, hb0, fun i hi => ?_⟩
  obtain ⟨b', o', x, hab, _, hx, h1⟩ := h.2 i hi
  simp only [Option.some.injEq, Addr.mk.injEq, and_true] at hab
  obtain ⟨rfl, rfl⟩ := hab
  have e : vN v i = x := by simp only [vN, hx, Option.getD_some]
  rw [e]
  exact h1
theorem mul4 {x y M : Int} (h1 : -4 ≤ x) (h2 : x ≤ 4) (h3 : -M ≤ y) (h4 : y ≤ M) : -(4 * M) ≤ x * y ∧ x * y ≤ 4 * M := by
  have hx : x = -4 ∨ x = -3 ∨ x = -2 ∨ x = -1 ∨ x = 0 ∨ x = 1 ∨ x = 2 ∨ x = 3 ∨ x = 4 := by omega
  rcases hx with rfl | rfl | rfl | rfl | rfl | rfl | rfl | rfl | rfl <;> omega
theorem velB_facts {p : Int} {l : List BarT} {q : List PlaceT} {v : List Int} (h : velB (p, l, q) v = true) :
    (1 ≤ p ∧ p ≤ 6) ∧ (q.length : Int) = p ∧ v.length = 2 * q.length ∧ isFwB (p, l, q) = true ∧ (∀ i, i < q.length → (0 ≤ pX q i ∧ pX q i ≤ 4) ∧ (0 ≤ pY q i ∧ pY q i ≤ 4)) ∧ ∀ k, k < v.length → -10000000000 ≤ vN v k ∧ vN v k ≤ 10000000000 := by
  have hf : isFwB (p, l, q) = true := by
    simp only [velB, Bool.and_eq_true] at h
    exact h.2.1
  obtain ⟨h1, h2, h3, h4, h5, h6⟩ := velB_bd h
  obtain ⟨_, g2, _, _, g6⟩ := isFw_facts hf
  refine ⟨⟨h1, h2⟩, g2, by omega, hf, fun i hi => ?_, fun k hk => ?_⟩
  · have := g6 i q[i].1 q[i].2 (List.getElem?_eq_getElem hi)
    simpa only [pX, pY, plAt, List.getElem?_eq_getElem hi, Option.getD_some] using this
  · have h7 : v.all smallV = true := by
      simp only [velB, Bool.and_eq_true] at h
      exact h.1
    have h8 := List.all_eq_true.1 h7 _ (List.getElem_mem hk)
    simp only [vN, List.getElem?_eq_getElem hk, Option.getD_some]
    simpa [smallV, inB] using h8

set_option maxHeartbeats 8000000 in
theorem specFlat_at (W : World) (p : Int) (a : Option Addr) (cap : Nat) (l : List BarT) (c : Option Addr) (capc : Nat) (q : List PlaceT) (h : BarsAt W a l.length l) (hq : PlacesAt W c q.length q) (hs : l.length + q.length ≤ 1048576) (va : Option Addr) (n vcap : Nat) (v : List Int) (hv : IntsAt W va n v) (hvn : n ≤ 1048576) (hvel : velB (p, l, q) v = true) :
    Calls Try.prog 43 #[.agg #[.int .i64 p, .slice a l.length cap, .slice c q.length capc], .slice va n vcap] W fun e w' => e = .returned (.bool (flatB q v)) ∧ Below W.heap.size W w' := by
  have hwd := @Wd.cells
  have HFw : Hid (IsFw W (.agg #[.int .i64 p, .slice a l.length cap, .slice c q.length capc]) (p, l, q)) := Lib.hid ⟨a, cap, c, capc, rfl, h, hq⟩
  have H1 := Lib.hid h
  have H2 := Lib.hid hq
  clear h hq
  have hsz : szFw (p, l, q) ≤ 1048576 := hs
  have hs1 : l.length ≤ 1048576 := by omega
  have hs2 : q.length ≤ 1048576 := by omega
  have B : Below W.heap.size W (W.alloc (.cells #[.int .i64 p, .slice a l.length cap, .slice c q.length capc] 29)) := (Below.refl _ _).alloc (Nat.le_refl _) _
  have BX : Hid (BoxFw (W.alloc (.cells #[.int .i64 p, .slice a l.length cap, .slice c q.length capc] 29)) W.heap.size p a l.length cap c q.length capc) := Lib.hid (BoxFw.at rfl)
  obtain rfl := hv.1
  have HV := Lib.hid hv
  clear hv
  obtain ⟨⟨hg1, hg2⟩, hqp, hvl, hf, hpq, hvv⟩ := velB_facts hvel
  have HQP := Lib.hid hqp
  have hq0 : 0 < q.length := by omega
  have HVL := Lib.hid hvl
  have HPQ := Lib.hid hpq
  have HVV := Lib.hid hvv
  clear hf hpq hvv hvl hvel hqp
  go_enter Try.func43, Try.ntmps43
  go_wp2_with fail
  generalize (W.alloc (.cells #[.int .i64 p, .slice a l.length cap, .slice c q.length capc] 29)) = u at *
  go_loopw [5] (fun i w9 => ∃ a : Nat, 1 ≤ a ∧ a ≤ q.length ∧ i = .int .i64 a ∧ (∀ a', a' < a → ∀ b, b < a' → 1 ≤ b → FlatAt q v a' b) ∧ Below u.heap.size u w9) (fun i _ => q.length - (intOf i).toNat)
  case atStart => exact ⟨1, Nat.le_refl _, by omega, rfl, fun a' h1 b h2 h3 => by omega, Below.refl _ _⟩
  case round =>
    obtain ⟨a, ha1, han, rfl, hall, hb⟩ := hrel
    have HA := Lib.hid hall
    clear hall
    have B1 := B.step hb
    have BX1 := Lib.hid (BX.out.below hb)
    obtain ⟨zBX, fBX0, fBX1, fBX2⟩ := BX1.out
    by_cases hlt : a < q.length
    · have hlti : (a : Int) < p := by have := HQP.out; omega
      go_wp2_with fail
      clear zBX fBX0 fBX1 fBX2
      obtain ⟨wo, hwo⟩ : ∃ wo, wo = wr := ⟨_, rfl⟩
      subst hwo
      have HBU := Lib.hid hb
      go_loopw [6] (fun i w9 => ∃ b : Nat, 1 ≤ b ∧ b ≤ a ∧ i = .int .i64 b ∧ (∀ b', b' < b → 1 ≤ b' → FlatAt q v a b') ∧ Below wo.heap.size wo w9) (fun i _ => a - (intOf i).toNat)
      case atStart => exact ⟨1, Nat.le_refl _, ha1, rfl, fun b' h1 h2 => by omega, Below.refl _ _⟩
      case round =>
        obtain ⟨b, hb1, hba, rfl, hall, hb⟩ := hrel
        have HB := Lib.hid hall
        clear hall
        have B2 := B1.step hb
        have hbo := hb
        have BX2 := Lib.hid (BX1.out.below hb)
        by_cases hlb : b < a
        · have hlbi : (b : Int) < (a : Int) := by omega
          obtain ⟨bq, oq, rfl, hbq, hcq⟩ := placesAll (H2.out.below B2) (by omega)
          obtain ⟨bv, ov, rfl, hbv, hcv⟩ := intsAll (HV.out.below B2) (by have := HVL.out; omega)
          obtain ⟨q0x, q0y⟩ := hcq 0 (by omega)
          obtain ⟨qax, qay⟩ := hcq a hlt
          obtain ⟨qbx, qby⟩ := hcq b (by omega)
          have v0 := hcv 0 (by have := HVL.out; omega)
          have v1 := hcv 1 (by have := HVL.out; omega)
          have va0 := hcv (2 * a) (by have := HVL.out; omega)
          have va1 := hcv (2 * a + 1) (by have := HVL.out; omega)
          have vb0 := hcv (2 * b) (by have := HVL.out; omega)
          have vb1 := hcv (2 * b + 1) (by have := HVL.out; omega)
          simp only [Nat.zero_mul, Nat.add_zero] at q0x q0y v0
          clear hcq hcv
          obtain ⟨⟨bx01, bx02⟩, by01, by02⟩ := HPQ.out 0 (by omega)
          obtain ⟨⟨bxa1, bxa2⟩, bya1, bya2⟩ := HPQ.out a hlt
          obtain ⟨⟨bxb1, bxb2⟩, byb1, byb2⟩ := HPQ.out b (by omega)
          have bv0 := HVV.out 0 (by have := HVL.out; omega)
          have bv1 := HVV.out 1 (by have := HVL.out; omega)
          have bva0 := HVV.out (2 * a) (by have := HVL.out; omega)
          have bva1 := HVV.out (2 * a + 1) (by have := HVL.out; omega)
          have bvb0 := HVV.out (2 * b) (by have := HVL.out; omega)
          have bvb1 := HVV.out (2 * b + 1) (by have := HVL.out; omega)
          obtain ⟨ax, eax⟩ : ∃ x, x = dX q a := ⟨_, rfl⟩
          obtain ⟨ay, eay⟩ : ∃ x, x = dY q a := ⟨_, rfl⟩
          obtain ⟨bx, ebx⟩ : ∃ x, x = dX q b := ⟨_, rfl⟩
          obtain ⟨by', eby⟩ : ∃ x, x = dY q b := ⟨_, rfl⟩
          obtain ⟨vx, evx⟩ : ∃ x, x = uX v a := ⟨_, rfl⟩
          obtain ⟨vy, evy⟩ : ∃ x, x = uY v a := ⟨_, rfl⟩
          obtain ⟨wx, ewx⟩ : ∃ x, x = uX v b := ⟨_, rfl⟩
          obtain ⟨wy, ewy⟩ : ∃ x, x = uY v b := ⟨_, rfl⟩
          have HFA := Lib.hid (show FlatAt q v a b ↔ (ax * by' = ay * bx → bx * vx + by' * vy = ax * wx + ay * wy ∧ bx * vy - by' * vx = ax * wy - ay * wx) by unfold FlatAt; rw [eax, eay, ebx, eby, evx, evy, ewx, ewy])
          unfold dX at eax ebx
          unfold dY at eay eby
          unfold uX at evx ewx
          unfold uY at evy ewy
          have g1 : -4 ≤ ax ∧ ax ≤ 4 := by omega
          have g2 : -4 ≤ ay ∧ ay ≤ 4 := by omega
          have g3 : -4 ≤ bx ∧ bx ≤ 4 := by omega
          have g4 : -4 ≤ by' ∧ by' ≤ 4 := by omega
          have g5 : -20000000000 ≤ vx ∧ vx ≤ 20000000000 := by omega
          have g6 : -20000000000 ≤ vy ∧ vy ≤ 20000000000 := by omega
          have g7 : -20000000000 ≤ wx ∧ wx ≤ 20000000000 := by omega
          have g8 : -20000000000 ≤ wy ∧ wy ≤ 20000000000 := by omega
          have wr1 : IntKind.i64.wrap (pX q a - pX q 0) = ax := by rw [eax]; exact IntWalk.i64_in _ (by omega)
          have wr2 : IntKind.i64.wrap (pY q a - pY q 0) = ay := by rw [eay]; exact IntWalk.i64_in _ (by omega)
          have wr3 : IntKind.i64.wrap (pX q b - pX q 0) = bx := by rw [ebx]; exact IntWalk.i64_in _ (by omega)
          have wr4 : IntKind.i64.wrap (pY q b - pY q 0) = by' := by rw [eby]; exact IntWalk.i64_in _ (by omega)
          have wr5 : IntKind.i64.wrap (vN v (2 * a) - vN v 0) = vx := by rw [evx]; exact IntWalk.i64_in _ (by omega)
          have wr6 : IntKind.i64.wrap (vN v (2 * a + 1) - vN v 1) = vy := by rw [evy]; exact IntWalk.i64_in _ (by omega)
          have wr7 : IntKind.i64.wrap (vN v (2 * b) - vN v 0) = wx := by rw [ewx]; exact IntWalk.i64_in _ (by omega)
          have wr8 : IntKind.i64.wrap (vN v (2 * b + 1) - vN v 1) = wy := by rw [ewy]; exact IntWalk.i64_in _ (by omega)
          clear eax eay ebx eby evx evy ewx ewy bx01 bx02 by01 by02 bxa1 bxa2 bya1 bya2 bxb1 bxb2 byb1 byb2 bv0 bv1 bva0 bva1 bvb0 bvb1
          have m1 := mul4 g1.1 g1.2 g4.1 g4.2
          have m2 := mul4 g2.1 g2.2 g3.1 g3.2
          have m3 := mul4 g3.1 g3.2 g5.1 g5.2
          have m4 := mul4 g4.1 g4.2 g6.1 g6.2
          have m5 := mul4 g1.1 g1.2 g7.1 g7.2
          have m6 := mul4 g2.1 g2.2 g8.1 g8.2
          have m7 := mul4 g3.1 g3.2 g6.1 g6.2
          have m8 := mul4 g4.1 g4.2 g5.1 g5.2
          have m9 := mul4 g1.1 g1.2 g8.1 g8.2
          have m10 := mul4 g2.1 g2.2 g7.1 g7.2
          obtain ⟨t1, et1⟩ : ∃ t, t = ax * by' := ⟨_, rfl⟩
          rw [← et1] at m1
          have wm1 : IntKind.i64.wrap (ax * by') = t1 := by rw [← et1]; exact IntWalk.i64_in _ (by omega)
          obtain ⟨t2, et2⟩ : ∃ t, t = ay * bx := ⟨_, rfl⟩
          rw [← et2] at m2
          have wm2 : IntKind.i64.wrap (ay * bx) = t2 := by rw [← et2]; exact IntWalk.i64_in _ (by omega)
          obtain ⟨t3, et3⟩ : ∃ t, t = bx * vx := ⟨_, rfl⟩
          rw [← et3] at m3
          have wm3 : IntKind.i64.wrap (bx * vx) = t3 := by rw [← et3]; exact IntWalk.i64_in _ (by omega)
          obtain ⟨t4, et4⟩ : ∃ t, t = by' * vy := ⟨_, rfl⟩
          rw [← et4] at m4
          have wm4 : IntKind.i64.wrap (by' * vy) = t4 := by rw [← et4]; exact IntWalk.i64_in _ (by omega)
          obtain ⟨t5, et5⟩ : ∃ t, t = ax * wx := ⟨_, rfl⟩
          rw [← et5] at m5
          have wm5 : IntKind.i64.wrap (ax * wx) = t5 := by rw [← et5]; exact IntWalk.i64_in _ (by omega)
          obtain ⟨t6, et6⟩ : ∃ t, t = ay * wy := ⟨_, rfl⟩
          rw [← et6] at m6
          have wm6 : IntKind.i64.wrap (ay * wy) = t6 := by rw [← et6]; exact IntWalk.i64_in _ (by omega)
          obtain ⟨t7, et7⟩ : ∃ t, t = bx * vy := ⟨_, rfl⟩
          rw [← et7] at m7
          have wm7 : IntKind.i64.wrap (bx * vy) = t7 := by rw [← et7]; exact IntWalk.i64_in _ (by omega)
          obtain ⟨t8, et8⟩ : ∃ t, t = by' * vx := ⟨_, rfl⟩
          rw [← et8] at m8
          have wm8 : IntKind.i64.wrap (by' * vx) = t8 := by rw [← et8]; exact IntWalk.i64_in _ (by omega)
          obtain ⟨t9, et9⟩ : ∃ t, t = ax * wy := ⟨_, rfl⟩
          rw [← et9] at m9
          have wm9 : IntKind.i64.wrap (ax * wy) = t9 := by rw [← et9]; exact IntWalk.i64_in _ (by omega)
          obtain ⟨t10, et10⟩ : ∃ t, t = ay * wx := ⟨_, rfl⟩
          rw [← et10] at m10
          have wm10 : IntKind.i64.wrap (ay * wx) = t10 := by rw [← et10]; exact IntWalk.i64_in _ (by omega)
          replace HFA := Lib.hid (show FlatAt q v a b ↔ (t1 = t2 → t3 + t4 = t5 + t6 ∧ t7 - t8 = t9 - t10) by rw [et1, et2, et3, et4, et5, et6, et7, et8, et9, et10]; exact HFA.out)
          clear et1 et2 et3 et4 et5 et6 et7 et8 et9 et10
          obtain ⟨s1, es1⟩ : ∃ t, t = t3 + t4 := ⟨_, rfl⟩
          have ws1 : IntKind.i64.wrap (t3 + t4) = s1 := by rw [es1]; exact IntWalk.i64_in _ (by omega)
          obtain ⟨s2, es2⟩ : ∃ t, t = t5 + t6 := ⟨_, rfl⟩
          have ws2 : IntKind.i64.wrap (t5 + t6) = s2 := by rw [es2]; exact IntWalk.i64_in _ (by omega)
          obtain ⟨s3, es3⟩ : ∃ t, t = t7 - t8 := ⟨_, rfl⟩
          have ws3 : IntKind.i64.wrap (t7 - t8) = s3 := by rw [es3]; exact IntWalk.i64_in _ (by omega)
          obtain ⟨s4, es4⟩ : ∃ t, t = t9 - t10 := ⟨_, rfl⟩
          have ws4 : IntKind.i64.wrap (t9 - t10) = s4 := by rw [es4]; exact IntWalk.i64_in _ (by omega)
          replace HFA := Lib.hid (show FlatAt q v a b ↔ (t1 = t2 → s1 = s2 ∧ s3 = s4) by rw [es1, es2, es3, es4]; exact HFA.out)
          clear es1 es2 es3 es4 m1 m2 m3 m4 m5 m6 m7 m8 m9 m10
          have hj1 : (2 * (a : Int)).toNat = 2 * a := by omega
          have hj2 : (2 * (a : Int) + 1).toNat = 2 * a + 1 := by omega
          have hj3 : (2 * (b : Int)).toNat = 2 * b := by omega
          have hj4 : (2 * (b : Int) + 1).toNat = 2 * b + 1 := by omega
          have hvl := HVL.out
          have hm1 : (2 * (a : Int)) < (v.length : Int) := by omega
          have hm2 : (2 * (a : Int) + 1) < (v.length : Int) := by omega
          have hm3 : (2 * (b : Int)) < (v.length : Int) := by omega
          have hm4 : (2 * (b : Int) + 1) < (v.length : Int) := by omega
          have hm5 : 0 ≤ (2 * (a : Int)) := by omega
          have hm6 : 0 ≤ (2 * (a : Int) + 1) := by omega
          have hm7 : 0 ≤ (2 * (b : Int)) := by omega
          have hm8 : 0 ≤ (2 * (b : Int) + 1) := by omega
          have hm9 : (0 : Int) < (v.length : Int) := by omega
          have hm10 : (1 : Int) < (v.length : Int) := by omega
          have hk1 : (a : Int) < (q.length : Int) := by omega
          have hk2 : (b : Int) < (q.length : Int) := by omega
          have hk3 : (0 : Int) < (q.length : Int) := by omega
          have hk4 : (0 : Int) ≤ (a : Int) := by omega
          have hk5 : (0 : Int) ≤ (b : Int) := by omega
          have hw1 := IntWalk.i64_in (2 * (a : Int)) (by omega)
          have hw2 := IntWalk.i64_in (2 * (a : Int) + 1) (by omega)
          have hw3 := IntWalk.i64_in (2 * (b : Int)) (by omega)
          have hw4 := IntWalk.i64_in (2 * (b : Int) + 1) (by omega)
          clear hvl
          obtain ⟨zBX, fBX0, fBX1, fBX2⟩ := BX2.out
          go_wp2_with fail
          go_quiet (fail)
          go_wp2_with fail
          go_quiet (fail)
          go_wp2_with fail
          go_quiet (fail)
          go_wp2_with fail
          go_quiet (fail)
          go_wp2_with fail
          go_quiet (fail)
          go_wp2_with fail
          go_quiet (fail)
          go_wp2_with fail
          go_quiet (fail)
          go_wp2_with fail
          go_quiet (fail)
          by_cases e0 : t1 = t2
          · subst e0
            by_cases e1 : s1 = s2
            · subst e1
              by_cases e2 : s3 = s4
              · subst e2
                have HF1 := Lib.hid (HFA.out.2 fun _ => ⟨rfl, rfl⟩)
                clear HFA
                go_wp2_with fail
                go_roundw
                case rel => exact ⟨b + 1, by omega, by omega, by go_num, fun b' h1 h2 => (by
                  rcases Nat.lt_succ_iff_lt_or_eq.1 h1 with h | rfl
                  · exact HB.out b' h h2
                  · exact HF1.out), (by repeat' (first | (with_reducible exact hbo) | (with_reducible refine below_drewN ?_ _)))⟩
                case measure => simp [intOf]; omega
              · have HE := Lib.hid (ret_bool (show flatB q v = false from decide_eq_false fun h => e2 (HFA.out.1 (h a hlt b hlb hb1) rfl).2))
                clear HFA
                go_wp2_with fail
                go_ret
                exact ⟨HE.out.symm, B1.step (by repeat' (first | (with_reducible exact hbo) | (with_reducible refine below_drewN ?_ _)))⟩
            · have HE := Lib.hid (ret_bool (show flatB q v = false from decide_eq_false fun h => e1 (HFA.out.1 (h a hlt b hlb hb1) rfl).1))
              clear HFA
              go_wp2_with fail
              go_ret
              exact ⟨HE.out.symm, B1.step (by repeat' (first | (with_reducible exact hbo) | (with_reducible refine below_drewN ?_ _)))⟩
          · have HF1 := Lib.hid (HFA.out.2 fun h => absurd h e0)
            clear HFA
            go_wp2_with fail
            go_roundw
            case rel => exact ⟨b + 1, by omega, by omega, by go_num, fun b' h1 h2 => (by
              rcases Nat.lt_succ_iff_lt_or_eq.1 h1 with h | rfl
              · exact HB.out b' h h2
              · exact HF1.out), (by repeat' (first | (with_reducible exact hbo) | (with_reducible refine below_drewN ?_ _)))⟩
            case measure => simp [intOf]; omega
        · obtain rfl : b = a := by omega
          have hlbi : ¬ (b : Int) < (b : Int) := by omega
          have hbi0 : (0 : Int) ≤ (b : Int) := by omega
          go_wp2_with fail
          go_roundw
          case rel => exact ⟨b + 1, by omega, by omega, by go_num, fun a' h1 b' h2 h3 => (by
            rcases Nat.lt_succ_iff_lt_or_eq.1 h1 with h | rfl
            · exact HA.out a' h b' h2 h3
            · exact HB.out b' h2 h3), HBU.out.step hbo⟩
          case measure => simp [intOf]; omega
    · obtain rfl : a = q.length := by omega
      have hlti : ¬ (q.length : Int) < p := by have := HQP.out; omega
      have HE := Lib.hid (ret_bool (show flatB q v = true from decide_eq_true HA.out))
      go_wp2_with fail
      go_ret
      exact ⟨HE.out.symm, B1⟩
end Go.Proofs.Ytfbmpkdjhhcnpaa

namespace Go.Proofs.Ytfbmpkdjhhcnpaa
open Go.RowKit
set_option maxRecDepth 100000
set_option linter.unusedVariables false
set_option linter.unusedSimpArgs false


end Go.Proofs.Ytfbmpkdjhhcnpaa

