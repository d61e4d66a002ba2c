/- IsTrivialMotion of the program. No condition but sizes. -/
import Derived.Test.YtkjoeogoebpkjaaTrw
namespace Go.Proofs.Ytkjoeogoebpkjaa
open Go.RowKit Gr
set_option maxRecDepth 100000
set_option linter.unusedVariables false
set_option linter.unusedSimpArgs false

theorem mulB {x y A B : Int} (h1 : -A ≤ x) (h2 : x ≤ A) (h3 : -B ≤ y) (h4 : y ≤ B) : -(A * B) ≤ x * y ∧ x * y ≤ A * B := by
  have p1 := Int.mul_nonneg (show 0 ≤ A - x by omega) (show 0 ≤ B + y by omega)
  have p2 := Int.mul_nonneg (show 0 ≤ A + x by omega) (show 0 ≤ B - y by omega)
  have p3 := Int.mul_nonneg (show 0 ≤ A - x by omega) (show 0 ≤ B - y by omega)
  have p4 := Int.mul_nonneg (show 0 ≤ A + x by omega) (show 0 ≤ B + y by omega)
  have e1 : (A - x) * (B + y) = A * B + A * y - x * B - x * y := by grind
  have e2 : (A + x) * (B - y) = A * B - A * y + x * B - x * y := by grind
  have e3 : (A - x) * (B - y) = A * B - A * y - x * B + x * y := by grind
  have e4 : (A + x) * (B + y) = A * B + A * y + x * B + x * y := by grind
  omega
def TrAt (q : List PlaceT) (v : List Int) (num den : Int) (i : Nat) : Prop := uX v i * den = -num * dY q i ∧ uY v i * den = num * dX q i
def Good (q : List PlaceT) (v : List Int) (num den : Int) : Prop := (den ≠ 0 ∧ (0 ≤ den ∧ den ≤ 32)) ∧ (-160000000000 ≤ num ∧ num ≤ 160000000000) ∧ (TrS q.length (dX q) (dY q) (uX v) (uY v) → ∀ i, i < q.length → TrAt q v num den i)
theorem z0 (q : List PlaceT) (v : List Int) : uX v 0 = 0 ∧ uY v 0 = 0 ∧ dX q 0 = 0 ∧ dY q 0 = 0 := by
  simp [uX, uY, dX, dY]
theorem good_none {q : List PlaceT} {v : List Int} (h : ∀ i, i < q.length → dX q i = 0 ∧ dY q i = 0) : Good q v 0 1 := by
  obtain ⟨z1, z2, z3, z4⟩ := z0 q v
  exact ⟨⟨by decide, by decide⟩, by decide, fun hs => trI_none z1 z2 z3 z4 h hs⟩
theorem good_at {q : List PlaceT} {v : List Int} {k : Nat} (hk : k < q.length) (hne : dX q k ≠ 0 ∨ dY q k ≠ 0) (b1 : -4 ≤ dX q k ∧ dX q k ≤ 4) (b2 : -4 ≤ dY q k ∧ dY q k ≤ 4) (b3 : -20000000000 ≤ uX v k ∧ uX v k ≤ 20000000000) (b4 : -20000000000 ≤ uY v k ∧ uY v k ≤ 20000000000) :
    Good q v (uY v k * dX q k - uX v k * dY q k) (dX q k * dX q k + dY q k * dY q k) := by
  obtain ⟨z1, z2, z3, z4⟩ := z0 q v
  have hs : ∀ z : Int, -4 ≤ z → z ≤ 4 → 0 ≤ z * z ∧ z * z ≤ 16 ∧ (z ≠ 0 → 1 ≤ z * z) := fun z h1 h2 => by
    have hx : z = -4 ∨ z = -3 ∨ z = -2 ∨ z = -1 ∨ z = 0 ∨ z = 1 ∨ z = 2 ∨ z = 3 ∨ z = 4 := by omega
    rcases hx with rfl | rfl | rfl | rfl | rfl | rfl | rfl | rfl | rfl <;> decide
  have s1 := hs _ b1.1 b1.2
  have s2 := hs _ b2.1 b2.2
  have m1 := mulB b4.1 b4.2 b1.1 b1.2
  have m2 := mulB b3.1 b3.2 b2.1 b2.2
  refine ⟨⟨?_, by omega, by omega⟩, ⟨by omega, by omega⟩, fun h => trI_at z1 z2 z3 z4 hk hne h⟩
  rcases hne with h | h
  · have := s1.2.2 h; omega
  · have := s2.2.2 h; omega
theorem triv_yes {q : List PlaceT} {v : List Int} {num den : Int} (hg : Good q v num den) (h : ∀ i, i < q.length → TrAt q v num den i) : (pairB q v && flatB q v) = true :=
  (triv_iff q v).2 (trS_of_trI hg.1.1 h)
theorem triv_no {q : List PlaceT} {v : List Int} {num den : Int} (hg : Good q v num den) {i : Nat} (hi : i < q.length) (h : ¬ TrAt q v num den i) : (pairB q v && flatB q v) = false := by
  cases e : (pairB q v && flatB q v)
  · rfl
  · exact absurd (hg.2.2 ((triv_iff q v).1 e) i hi) h

set_option maxHeartbeats 8000000 in
theorem implTrv_at (W : World) (p : Int) (a : Option Addr) (cap : Nat) (l : List BarT) (c : Option Addr) (capc : Nat) (q : List PlaceT) (h : BarsAt W a l.length l) (hq : PlacesAt W c q.length q) (hs : l.length + q.length ≤ 1048576) (va : Option Addr) (n vcap : Nat) (v : List Int) (hv : IntsAt W va n v) (hvn : n ≤ 1048576) :
    Calls Try.prog 32 #[.agg #[.int .i64 p, .slice a l.length cap, .slice c q.length capc], .slice va n vcap] W fun e w' => e = .returned (.bool (trivB (p, l, q) v)) ∧ Below W.heap.size W w' := by
  have hwd := @Wd.cells
  have HFw : Hid (IsFw W (.agg #[.int .i64 p, .slice a l.length cap, .slice c q.length capc]) (p, l, q)) := Lib.hid ⟨a, cap, c, capc, rfl, h, hq⟩
  have H1 := Lib.hid h
  have H2 := Lib.hid hq
  clear h hq
  have hsz : szFw (p, l, q) ≤ 1048576 := hs
  have hs1 : l.length ≤ 1048576 := by omega
  have hs2 : q.length ≤ 1048576 := by omega
  have B : Below W.heap.size W (W.alloc (.cells #[.int .i64 p, .slice a l.length cap, .slice c q.length capc] 42)) := (Below.refl _ _).alloc (Nat.le_refl _) _
  have BX : Hid (BoxFw (W.alloc (.cells #[.int .i64 p, .slice a l.length cap, .slice c q.length capc] 42)) W.heap.size p a l.length cap c q.length capc) := Lib.hid (BoxFw.at rfl)
  obtain rfl := hv.1
  have HV := Lib.hid hv
  clear hv
  have hvn2 : v.length ≤ 1099511627776 := by omega
  have HC := Lib.hid (fun (w1 : World) (b : Below W.heap.size W w1) => isVelocity_at w1 p a cap l c capc q (H1.out.below b) (H2.out.below b) hs1 hs2 hs va v.length vcap v (HV.out.below b) hvn2)
  cases hvel : velB (p, l, q) v
  · have HE := Lib.hid (ret_bool (show trivB (p, l, q) v = false by simp only [trivB, hvel, Bool.false_and]))
    rw [hvel] at HC
    go_enter Try.func32, Try.ntmps32
    go_wp2_with fail
    refine (HC.out _ B).mono ?_
    rintro e w1 ⟨rfl, b⟩
    replace B := B.step b
    clear b
    go_wp2_with fail
    go_ret
    exact ⟨HE.out.symm, B⟩
  rw [hvel] at HC
  have HT := Lib.hid (show trivB (p, l, q) v = (pairB q v && flatB q v) by simp only [trivB, hvel, Bool.true_and])
  obtain ⟨⟨hg1, hg2⟩, hqp, hvl, hf, hpq, hvv⟩ := velB_facts hvel
  have hq0 : 0 < q.length := by omega
  have HVL := Lib.hid hvl
  have HPQ := Lib.hid hpq
  have HVV := Lib.hid hvv
  clear hf hpq hvv hvl hvel hqp
  obtain ⟨aa, haa⟩ : ∃ x, x = a := ⟨_, rfl⟩
  subst haa
  go_enter Try.func32, Try.ntmps32
  go_wp2_with fail
  refine (HC.out _ B).mono ?_
  rintro e u ⟨rfl, b⟩
  replace B := B.step b
  replace BX := Lib.hid (BX.out.below b)
  clear b
  obtain ⟨zBX, fBX0, fBX1, fBX2⟩ := BX.out
  go_wp2_with fail
  clear zBX fBX0 fBX1 fBX2
  go_loopw [5, 6, 22] (fun s5 s6 i w9 => ∃ (m0 d0 : Int) (k : Nat), (s5 = .int .i64 m0 ∧ s6 = .int .i64 d0 ∧ m0 = 0 ∧ d0 = 1) ∧ k ≤ q.length ∧ i = .int .i64 k ∧ (∀ i', i' < k → dX q i' = 0 ∧ dY q i' = 0) ∧ Below u.heap.size u w9) (fun _ _ i _ => q.length - (intOf i).toNat)
  case atStart => exact ⟨0, 1, 0, ⟨rfl, rfl, rfl, rfl⟩, Nat.zero_le _, rfl, fun i' h => by omega, Below.refl _ _⟩
  case round =>
    obtain ⟨m0, d0, k, ⟨rfl, rfl, hm0, hd0⟩, hkn, rfl, hall, hb⟩ := hrel
    have HMD := Lib.hid (And.intro hm0 hd0)
    clear hm0 hd0
    have HA := Lib.hid hall
    clear hall
    have B1 := B.step hb
    have BX1 := Lib.hid (BX.out.below hb)
    by_cases hlt : k < q.length
    · have hlti : (k : Int) < (q.length : Int) := by omega
      obtain ⟨bq, oq, rfl, hbq, hcq⟩ := placesAll (H2.out.below B1) (by omega)
      obtain ⟨bv, ov, rfl, hbv, hcv⟩ := intsAll (HV.out.below B1) (by have := HVL.out; omega)
      obtain ⟨q0x, q0y⟩ := hcq 0 (by omega)
      obtain ⟨qax, qay⟩ := hcq k hlt
      have v0 := hcv 0 (by have := HVL.out; omega)
      have v1 := hcv 1 (by have := HVL.out; omega)
      have va0 := hcv (2 * k) (by have := HVL.out; omega)
      have va1 := hcv (2 * k + 1) (by have := HVL.out; omega)
      simp only [Nat.zero_mul, Nat.add_zero] at q0x q0y v0
      clear hcq hcv
      obtain ⟨⟨bx01, bx02⟩, by01, by02⟩ := HPQ.out 0 (by omega)
      obtain ⟨⟨bxa1, bxa2⟩, bya1, bya2⟩ := HPQ.out k hlt
      have bv0 := HVV.out 0 (by have := HVL.out; omega)
      have bv1 := HVV.out 1 (by have := HVL.out; omega)
      have bva0 := HVV.out (2 * k) (by have := HVL.out; omega)
      have bva1 := HVV.out (2 * k + 1) (by have := HVL.out; omega)
      obtain ⟨dx, edx⟩ : ∃ x, x = dX q k := ⟨_, rfl⟩
      obtain ⟨dy, edy⟩ : ∃ x, x = dY q k := ⟨_, rfl⟩
      obtain ⟨ux, eux⟩ : ∃ x, x = uX v k := ⟨_, rfl⟩
      obtain ⟨uy, euy⟩ : ∃ x, x = uY v k := ⟨_, rfl⟩
      have HD := Lib.hid (And.intro edx (And.intro edy (And.intro eux euy)))
      unfold dX at edx
      unfold dY at edy
      unfold uX at eux
      unfold uY at euy
      have g1 : -4 ≤ dx ∧ dx ≤ 4 := by omega
      have g2 : -4 ≤ dy ∧ dy ≤ 4 := by omega
      have g3 : -20000000000 ≤ ux ∧ ux ≤ 20000000000 := by omega
      have g4 : -20000000000 ≤ uy ∧ uy ≤ 20000000000 := by omega
      have wr1 : IntKind.i64.wrap (pX q k - pX q 0) = dx := by rw [edx]; exact IntWalk.i64_in _ (by omega)
      have wr2 : IntKind.i64.wrap (pY q k - pY q 0) = dy := by rw [edy]; exact IntWalk.i64_in _ (by omega)
      have wr3 : IntKind.i64.wrap (vN v (2 * k) - vN v 0) = ux := by rw [eux]; exact IntWalk.i64_in _ (by omega)
      have wr4 : IntKind.i64.wrap (vN v (2 * k + 1) - vN v 1) = uy := by rw [euy]; exact IntWalk.i64_in _ (by omega)
      clear edx edy eux euy bx01 bx02 by01 by02 bxa1 bxa2 bya1 bya2 bv0 bv1 bva0 bva1
      have m1 := mulB (A := 20000000000) (B := 4) g4.1 g4.2 g1.1 g1.2
      have m2 := mulB (A := 20000000000) (B := 4) g3.1 g3.2 g2.1 g2.2
      have m3 := mulB (A := 4) (B := 4) g1.1 g1.2 g1.1 g1.2
      have m4 := mulB (A := 4) (B := 4) g2.1 g2.2 g2.1 g2.2
      obtain ⟨num, en⟩ : ∃ t, t = uy * dx - ux * dy := ⟨_, rfl⟩
      obtain ⟨den, ed⟩ : ∃ t, t = dx * dx + dy * dy := ⟨_, rfl⟩
      have wm1 : IntKind.i64.wrap (uy * dx) = uy * dx := IntWalk.i64_in _ (by omega)
      have wm2 : IntKind.i64.wrap (ux * dy) = ux * dy := IntWalk.i64_in _ (by omega)
      have wm3 : IntKind.i64.wrap (dx * dx) = dx * dx := IntWalk.i64_in _ (by omega)
      have wm4 : IntKind.i64.wrap (dy * dy) = dy * dy := IntWalk.i64_in _ (by omega)
      have wm5 : IntKind.i64.wrap (uy * dx - ux * dy) = num := by rw [en]; exact IntWalk.i64_in _ (by omega)
      have wm6 : IntKind.i64.wrap (dx * dx + dy * dy) = den := by rw [ed]; exact IntWalk.i64_in _ (by omega)
      have HGD0 : Hid ((dx ≠ 0 ∨ dy ≠ 0) → Good q v num den) := Lib.hid fun hne => by
        rw [en, ed, HD.out.1, HD.out.2.1, HD.out.2.2.1, HD.out.2.2.2]
        rw [HD.out.1, HD.out.2.1] at hne
        refine good_at hlt hne ?_ ?_ ?_ ?_
        · rw [← HD.out.1]; exact g1
        · rw [← HD.out.2.1]; exact g2
        · rw [← HD.out.2.2.1]; exact g3
        · rw [← HD.out.2.2.2]; exact g4
      clear en ed m1 m2 m3 m4
      have hj1 : (2 * (k : Int)).toNat = 2 * k := by omega
      have hj2 : (2 * (k : Int) + 1).toNat = 2 * k + 1 := by omega
      have hvl := HVL.out
      have hm1 : (2 * (k : Int)) < (v.length : Int) := by omega
      have hm2 : (2 * (k : Int) + 1) < (v.length : Int) := by omega
      have hm5 : 0 ≤ (2 * (k : Int)) := by omega
      have hm6 : 0 ≤ (2 * (k : Int) + 1) := by omega
      have hm9 : (0 : Int) < (v.length : Int) := by omega
      have hm10 : (1 : Int) < (v.length : Int) := by omega
      have hk1 : (k : Int) < (q.length : Int) := by omega
      have hk3 : (0 : Int) < (q.length : Int) := by omega
      have hk4 : (0 : Int) ≤ (k : Int) := by omega
      have hw1 := IntWalk.i64_in (2 * (k : Int)) (by omega)
      have hw2 := IntWalk.i64_in (2 * (k : Int) + 1) (by omega)
      clear hvl
      obtain ⟨zBX, fBX0, fBX1, fBX2⟩ := BX1.out
      go_wp2_with fail
      have ba : Below wr.heap.size wr (wr.alloc (.cells #[.int .i64 (pX q k), .int .i64 (pY q k)] 57)) := (Below.refl _ _).alloc (Nat.le_refl _) _
      have BPq : Hid (BoxPl (wr.alloc (.cells #[.int .i64 (pX q k), .int .i64 (pY q k)] 57)) wr.heap.size (pX q k) (pY q k)) := Lib.hid (BoxPl.at rfl)
      have BX2 := Lib.hid (BX1.out.below ba)
      have q0x2 := ((bcell ba).1 _ _ hbq).trans q0x
      have q0y2 := ((bcell ba).1 _ _ hbq).trans q0y
      have v02 := ((bcell ba).1 _ _ hbv).trans v0
      have v12 := ((bcell ba).1 _ _ hbv).trans v1
      have va02 := ((bcell ba).1 _ _ hbv).trans va0
      have va12 := ((bcell ba).1 _ _ hbv).trans va1
      have hba := hb.step ba
      generalize (wr.alloc (.cells #[.int .i64 (pX q k), .int .i64 (pY q k)] 57)) = wq at *
      clear zBX fBX0 fBX1 fBX2 q0x q0y qax qay v0 v1 va0 va1 ba
      obtain ⟨zBX, fBX0, fBX1, fBX2⟩ := BX2.out
      obtain ⟨zBP, fBP0, fBP1⟩ := BPq.out
      go_quiet (fail)
      obtain ⟨n1, hn1⟩ : ∃ n1, n1 = nq := ⟨_, rfl⟩
      subst hn1
      by_cases h1 : dx = 0
      · by_cases h2 : dy = 0
        · have hdk : dX q k = 0 ∧ dY q k = 0 := ⟨HD.out.1.symm.trans h1, HD.out.2.1.symm.trans h2⟩
          have HD0 := Lib.hid hdk
          have hbn : (dx != 0) = false := by simpa using h1
          have hbn2 : (dy != 0) = false := by simpa using h2
          clear h1 h2 hdk
          go_wp2_with fail
          go_roundw
          case rel => exact ⟨m0, d0, k + 1, ⟨rfl, rfl, HMD.out.1, HMD.out.2⟩, by omega, by go_num, fun i' h => (by
            rcases Nat.lt_succ_iff_lt_or_eq.1 h with h | rfl
            · exact HA.out i' h
            · exact HD0.out), (by repeat' (first | (with_reducible exact hba) | (with_reducible refine below_drewN ?_ _)))⟩
          case measure => simp [intOf]; omega
        · have HGD := Lib.hid (HGD0.out (.inr h2))
          have hbn : (dx != 0) = false := by simpa using h1
          have hbn2 : (dy != 0) = true := by simpa using h2
          clear h1 h2
          go_wp2_with fail
          go_quiet (fail)
          go_wp2_with fail
          have hb0 := below_drewN hba (n1 + nq)
          generalize (wq.drewN (n1 + nq)) = w0 at *
          clear zBX fBX0 fBX1 fBX2 zBP fBP0 fBP1 BPq q0x2 q0y2 v02 v12 va02 va12 wr1 wr2 wr3 wr4 wm1 wm2 wm3 wm4 wm5 wm6 hj1 hj2 hm1 hm2 hm5 hm6 hm9 hm10 hk1 hk3 hk4 hw1 hw2 g1 g2 g3 g4 hbn HA HMD HGD0 hba hb BX1 BX2 hlt hlti hkn
          have B0 := B.step hb0
          have BX0 := Lib.hid (BX.out.below hb0)
          
          go_loopw [84] (fun i w9 => ∃ k : Nat, k ≤ q.length ∧ i = .int .i64 k ∧ (∀ i', i' < k → TrAt q v num den i') ∧ Below w0.heap.size w0 w9) (fun i _ => q.length - (intOf i).toNat)
          case atStart => exact ⟨0, Nat.zero_le _, rfl, fun i' h => by omega, Below.refl _ _⟩
          case round =>
            obtain ⟨k, hkn, rfl, hall, hb⟩ := hrel
            have HA := Lib.hid hall
            clear hall
            have B1 := B0.step hb
            have BX1 := Lib.hid (BX0.out.below hb)
            by_cases hlt : k < q.length
            · have hlti : (k : Int) < (q.length : Int) := by omega
              obtain ⟨bq2, oq2, hab, hbq, hcq⟩ := placesAll (H2.out.below B1) (by omega)
              simp only [Option.some.injEq, Addr.mk.injEq, and_true] at hab
              obtain ⟨rfl, rfl⟩ := hab
              obtain ⟨bv2, ov2, hab, hbv, hcv⟩ := intsAll (HV.out.below B1) (by have := HVL.out; omega)
              simp only [Option.some.injEq, Addr.mk.injEq, and_true] at hab
              obtain ⟨rfl, rfl⟩ := hab
              obtain ⟨q0x, q0y⟩ := hcq 0 (by omega)
              obtain ⟨qax, qay⟩ := hcq k hlt
              have v0 := hcv 0 (by have := HVL.out; omega)
              have v1 := hcv 1 (by have := HVL.out; omega)
              have va0 := hcv (2 * k) (by have := HVL.out; omega)
              have va1 := hcv (2 * k + 1) (by have := HVL.out; omega)
              simp only [Nat.zero_mul, Nat.add_zero] at q0x q0y v0
              clear hcq hcv
              obtain ⟨⟨bx01, bx02⟩, by01, by02⟩ := HPQ.out 0 (by omega)
              obtain ⟨⟨bxa1, bxa2⟩, bya1, bya2⟩ := HPQ.out k hlt
              have bv0 := HVV.out 0 (by have := HVL.out; omega)
              have bv1 := HVV.out 1 (by have := HVL.out; omega)
              have bva0 := HVV.out (2 * k) (by have := HVL.out; omega)
              have bva1 := HVV.out (2 * k + 1) (by have := HVL.out; omega)
              obtain ⟨dx, edx⟩ : ∃ x, x = dX q k := ⟨_, rfl⟩
              obtain ⟨dy, edy⟩ : ∃ x, x = dY q k := ⟨_, rfl⟩
              obtain ⟨ux, eux⟩ : ∃ x, x = uX v k := ⟨_, rfl⟩
              obtain ⟨uy, euy⟩ : ∃ x, x = uY v k := ⟨_, rfl⟩
              have HD := Lib.hid (And.intro edx (And.intro edy (And.intro eux euy)))
              unfold dX at edx
              unfold dY at edy
              unfold uX at eux
              unfold uY at euy
              have g1 : -4 ≤ dx ∧ dx ≤ 4 := by omega
              have g2 : -4 ≤ dy ∧ dy ≤ 4 := by omega
              have g3 : -20000000000 ≤ ux ∧ ux ≤ 20000000000 := by omega
              have g4 : -20000000000 ≤ uy ∧ uy ≤ 20000000000 := by omega
              have wr1 : IntKind.i64.wrap (pX q k - pX q 0) = dx := by rw [edx]; exact IntWalk.i64_in _ (by omega)
              have wr2 : IntKind.i64.wrap (pY q k - pY q 0) = dy := by rw [edy]; exact IntWalk.i64_in _ (by omega)
              have wr3 : IntKind.i64.wrap (vN v (2 * k) - vN v 0) = ux := by rw [eux]; exact IntWalk.i64_in _ (by omega)
              have wr4 : IntKind.i64.wrap (vN v (2 * k + 1) - vN v 1) = uy := by rw [euy]; exact IntWalk.i64_in _ (by omega)
              clear edx edy eux euy bx01 bx02 by01 by02 bxa1 bxa2 bya1 bya2 bv0 bv1 bva0 bva1
              have hgd := HGD.out
              have m1 := mulB (A := 20000000000) (B := 32) g3.1 g3.2 (show -32 ≤ den by have := hgd.1.2.1; omega) hgd.1.2.2
              have m2 := mulB (A := 160000000000) (B := 4) (show -160000000000 ≤ -num by have := hgd.2.1.2; omega) (show -num ≤ 160000000000 by have := hgd.2.1.1; omega) g2.1 g2.2
              have m3 := mulB (A := 20000000000) (B := 32) g4.1 g4.2 (show -32 ≤ den by have := hgd.1.2.1; omega) hgd.1.2.2
              have m4 := mulB (A := 160000000000) (B := 4) hgd.2.1.1 hgd.2.1.2 g1.1 g1.2
              obtain ⟨nn, enn⟩ : ∃ t, t = -num := ⟨_, rfl⟩
              have wn : IntKind.i64.wrap (-num) = nn := by rw [enn]; exact IntWalk.i64_in _ (by have := hgd.2.1.1; have := hgd.2.1.2; omega)
              have HTA := Lib.hid (show TrAt q v num den k ↔ (ux * den = nn * dy ∧ uy * den = num * dx) by unfold TrAt; rw [HD.out.1, HD.out.2.1, HD.out.2.2.1, HD.out.2.2.2, enn])
              rw [← enn] at m2
              clear enn hgd
              obtain ⟨t1, e1⟩ : ∃ t, t = ux * den := ⟨_, rfl⟩
              obtain ⟨t2, e2⟩ : ∃ t, t = nn * dy := ⟨_, rfl⟩
              obtain ⟨t3, e3⟩ : ∃ t, t = uy * den := ⟨_, rfl⟩
              obtain ⟨t4, e4⟩ : ∃ t, t = num * dx := ⟨_, rfl⟩
              have wm1 : IntKind.i64.wrap (ux * den) = t1 := by rw [e1]; exact IntWalk.i64_in _ (by omega)
              have wm2 : IntKind.i64.wrap (nn * dy) = t2 := by rw [e2]; exact IntWalk.i64_in _ (by omega)
              have wm3 : IntKind.i64.wrap (uy * den) = t3 := by rw [e3]; exact IntWalk.i64_in _ (by omega)
              have wm4 : IntKind.i64.wrap (num * dx) = t4 := by rw [e4]; exact IntWalk.i64_in _ (by omega)
              replace HTA := Lib.hid (show TrAt q v num den k ↔ (t1 = t2 ∧ t3 = t4) by rw [e1, e2, e3, e4]; exact HTA.out)
              clear e1 e2 e3 e4 m1 m2 m3 m4
              have hj1 : (2 * (k : Int)).toNat = 2 * k := by omega
              have hj2 : (2 * (k : Int) + 1).toNat = 2 * k + 1 := by omega
              have hvl := HVL.out
              have hm1 : (2 * (k : Int)) < (v.length : Int) := by omega
              have hm2 : (2 * (k : Int) + 1) < (v.length : Int) := by omega
              have hm5 : 0 ≤ (2 * (k : Int)) := by omega
              have hm6 : 0 ≤ (2 * (k : Int) + 1) := by omega
              have hm9 : (0 : Int) < (v.length : Int) := by omega
              have hm10 : (1 : Int) < (v.length : Int) := by omega
              have hk1 : (k : Int) < (q.length : Int) := by omega
              have hk3 : (0 : Int) < (q.length : Int) := by omega
              have hk4 : (0 : Int) ≤ (k : Int) := by omega
              have hw1 := IntWalk.i64_in (2 * (k : Int)) (by omega)
              have hw2 := IntWalk.i64_in (2 * (k : Int) + 1) (by omega)
              clear hvl
              obtain ⟨zBX, fBX0, fBX1, fBX2⟩ := BX1.out
              go_wp2_with fail
              have ba : Below wr.heap.size wr (wr.alloc (.cells #[.int .i64 (pX q k), .int .i64 (pY q k)] 57)) := (Below.refl _ _).alloc (Nat.le_refl _) _
              have BPq : Hid (BoxPl (wr.alloc (.cells #[.int .i64 (pX q k), .int .i64 (pY q k)] 57)) wr.heap.size (pX q k) (pY q k)) := Lib.hid (BoxPl.at rfl)
              have BX2 := Lib.hid (BX1.out.below ba)
              have q0x2 := ((bcell ba).1 _ _ hbq).trans q0x
              have q0y2 := ((bcell ba).1 _ _ hbq).trans q0y
              have v02 := ((bcell ba).1 _ _ hbv).trans v0
              have v12 := ((bcell ba).1 _ _ hbv).trans v1
              have va02 := ((bcell ba).1 _ _ hbv).trans va0
              have va12 := ((bcell ba).1 _ _ hbv).trans va1
              have hba := hb.step ba
              generalize (wr.alloc (.cells #[.int .i64 (pX q k), .int .i64 (pY q k)] 57)) = wq at *
              clear zBX fBX0 fBX1 fBX2 q0x q0y qax qay v0 v1 va0 va1 ba
              obtain ⟨zBX, fBX0, fBX1, fBX2⟩ := BX2.out
              obtain ⟨zBP, fBP0, fBP1⟩ := BPq.out
              go_quiet (fail)
              obtain ⟨n1, hn1⟩ : ∃ n1, n1 = nq := ⟨_, rfl⟩
              subst hn1
              go_wp2_with fail
              by_cases h1 : t1 = t2
              · by_cases h2 : t3 = t4
                · have HF1 := Lib.hid (HTA.out.2 ⟨h1, h2⟩)
                  have hbn : (t1 != t2) = false := by simpa using h1
                  have hbn2 : (t3 != t4) = false := by simpa using h2
                  clear HTA h1 h2
                  go_quiet (fail)
                  go_wp2_with fail
                  go_roundw
                  case rel => exact ⟨k + 1, by omega, by go_num, fun i' h => (by
                    rcases Nat.lt_succ_iff_lt_or_eq.1 h with h | rfl
                    · exact HA.out i' h
                    · exact HF1.out), (by repeat' (first | (with_reducible exact hba) | (with_reducible refine below_drewN ?_ _)))⟩
                  case measure => simp [intOf]; omega
                · have HE := Lib.hid (ret_bool (show trivB (p, l, q) v = false by rw [HT.out]; exact triv_no HGD.out hlt (fun h => h2 (HTA.out.1 h).2)))
                  have hbn : (t1 != t2) = false := by simpa using h1
                  have hbn2 : (t3 != t4) = true := by simpa using h2
                  clear HTA h1 h2
                  go_quiet (fail)
                  go_wp2_with fail
                  go_ret
                  exact ⟨HE.out.symm, B0.step (by repeat' (first | (with_reducible exact hba) | (with_reducible refine below_drewN ?_ _)))⟩
              · have HE := Lib.hid (ret_bool (show trivB (p, l, q) v = false by rw [HT.out]; exact triv_no HGD.out hlt (fun h => h1 (HTA.out.1 h).1)))
                have hbn : (t1 != t2) = true := by simpa using h1
                clear HTA h1
                go_quiet (fail)
                go_wp2_with fail
                go_ret
                exact ⟨HE.out.symm, B0.step (by repeat' (first | (with_reducible exact hba) | (with_reducible refine below_drewN ?_ _)))⟩
            · obtain rfl : k = q.length := by omega
              have hlti : ¬ (q.length : Int) < (q.length : Int) := by omega
              have HE := Lib.hid (ret_bool (show trivB (p, l, q) v = true by rw [HT.out]; exact triv_yes HGD.out HA.out))
              go_wp2_with fail
              go_ret
              exact ⟨HE.out.symm, B1⟩
      · have HGD := Lib.hid (HGD0.out (.inl h1))
        have hbn : (dx != 0) = true := by simpa using h1
        clear h1
        go_wp2_with fail
        go_quiet (fail)
        go_wp2_with fail
        have hb0 := below_drewN hba (n1 + nq)
        generalize (wq.drewN (n1 + nq)) = w0 at *
        clear zBX fBX0 fBX1 fBX2 zBP fBP0 fBP1 BPq q0x2 q0y2 v02 v12 va02 va12 wr1 wr2 wr3 wr4 wm1 wm2 wm3 wm4 wm5 wm6 hj1 hj2 hm1 hm2 hm5 hm6 hm9 hm10 hk1 hk3 hk4 hw1 hw2 g1 g2 g3 g4 hbn HA HMD HGD0 hba hb BX1 BX2 hlt hlti hkn
        have B0 := B.step hb0
        have BX0 := Lib.hid (BX.out.below hb0)
        
        go_loopw [84] (fun i w9 => ∃ k : Nat, k ≤ q.length ∧ i = .int .i64 k ∧ (∀ i', i' < k → TrAt q v num den i') ∧ Below w0.heap.size w0 w9) (fun i _ => q.length - (intOf i).toNat)
        case atStart => exact ⟨0, Nat.zero_le _, rfl, fun i' h => by omega, Below.refl _ _⟩
        case round =>
          obtain ⟨k, hkn, rfl, hall, hb⟩ := hrel
          have HA := Lib.hid hall
          clear hall
          have B1 := B0.step hb
          have BX1 := Lib.hid (BX0.out.below hb)
          by_cases hlt : k < q.length
          · have hlti : (k : Int) < (q.length : Int) := by omega
            obtain ⟨bq2, oq2, hab, hbq, hcq⟩ := placesAll (H2.out.below B1) (by omega)
            simp only [Option.some.injEq, Addr.mk.injEq, and_true] at hab
            obtain ⟨rfl, rfl⟩ := hab
            obtain ⟨bv2, ov2, hab, hbv, hcv⟩ := intsAll (HV.out.below B1) (by have := HVL.out; omega)
            simp only [Option.some.injEq, Addr.mk.injEq, and_true] at hab
            obtain ⟨rfl, rfl⟩ := hab
            obtain ⟨q0x, q0y⟩ := hcq 0 (by omega)
            obtain ⟨qax, qay⟩ := hcq k hlt
            have v0 := hcv 0 (by have := HVL.out; omega)
            have v1 := hcv 1 (by have := HVL.out; omega)
            have va0 := hcv (2 * k) (by have := HVL.out; omega)
            have va1 := hcv (2 * k + 1) (by have := HVL.out; omega)
            simp only [Nat.zero_mul, Nat.add_zero] at q0x q0y v0
            clear hcq hcv
            obtain ⟨⟨bx01, bx02⟩, by01, by02⟩ := HPQ.out 0 (by omega)
            obtain ⟨⟨bxa1, bxa2⟩, bya1, bya2⟩ := HPQ.out k hlt
            have bv0 := HVV.out 0 (by have := HVL.out; omega)
            have bv1 := HVV.out 1 (by have := HVL.out; omega)
            have bva0 := HVV.out (2 * k) (by have := HVL.out; omega)
            have bva1 := HVV.out (2 * k + 1) (by have := HVL.out; omega)
            obtain ⟨dx, edx⟩ : ∃ x, x = dX q k := ⟨_, rfl⟩
            obtain ⟨dy, edy⟩ : ∃ x, x = dY q k := ⟨_, rfl⟩
            obtain ⟨ux, eux⟩ : ∃ x, x = uX v k := ⟨_, rfl⟩
            obtain ⟨uy, euy⟩ : ∃ x, x = uY v k := ⟨_, rfl⟩
            have HD := Lib.hid (And.intro edx (And.intro edy (And.intro eux euy)))
            unfold dX at edx
            unfold dY at edy
            unfold uX at eux
            unfold uY at euy
            have g1 : -4 ≤ dx ∧ dx ≤ 4 := by omega
            have g2 : -4 ≤ dy ∧ dy ≤ 4 := by omega
            have g3 : -20000000000 ≤ ux ∧ ux ≤ 20000000000 := by omega
            have g4 : -20000000000 ≤ uy ∧ uy ≤ 20000000000 := by omega
            have wr1 : IntKind.i64.wrap (pX q k - pX q 0) = dx := by rw [edx]; exact IntWalk.i64_in _ (by omega)
            have wr2 : IntKind.i64.wrap (pY q k - pY q 0) = dy := by rw [edy]; exact IntWalk.i64_in _ (by omega)
            have wr3 : IntKind.i64.wrap (vN v (2 * k) - vN v 0) = ux := by rw [eux]; exact IntWalk.i64_in _ (by omega)
            have wr4 : IntKind.i64.wrap (vN v (2 * k + 1) - vN v 1) = uy := by rw [euy]; exact IntWalk.i64_in _ (by omega)
            clear edx edy eux euy bx01 bx02 by01 by02 bxa1 bxa2 bya1 bya2 bv0 bv1 bva0 bva1
            have hgd := HGD.out
            have m1 := mulB (A := 20000000000) (B := 32) g3.1 g3.2 (show -32 ≤ den by have := hgd.1.2.1; omega) hgd.1.2.2
            have m2 := mulB (A := 160000000000) (B := 4) (show -160000000000 ≤ -num by have := hgd.2.1.2; omega) (show -num ≤ 160000000000 by have := hgd.2.1.1; omega) g2.1 g2.2
            have m3 := mulB (A := 20000000000) (B := 32) g4.1 g4.2 (show -32 ≤ den by have := hgd.1.2.1; omega) hgd.1.2.2
            have m4 := mulB (A := 160000000000) (B := 4) hgd.2.1.1 hgd.2.1.2 g1.1 g1.2
            obtain ⟨nn, enn⟩ : ∃ t, t = -num := ⟨_, rfl⟩
            have wn : IntKind.i64.wrap (-num) = nn := by rw [enn]; exact IntWalk.i64_in _ (by have := hgd.2.1.1; have := hgd.2.1.2; omega)
            have HTA := Lib.hid (show TrAt q v num den k ↔ (ux * den = nn * dy ∧ uy * den = num * dx) by unfold TrAt; rw [HD.out.1, HD.out.2.1, HD.out.2.2.1, HD.out.2.2.2, enn])
            rw [← enn] at m2
            clear enn hgd
            obtain ⟨t1, e1⟩ : ∃ t, t = ux * den := ⟨_, rfl⟩
            obtain ⟨t2, e2⟩ : ∃ t, t = nn * dy := ⟨_, rfl⟩
            obtain ⟨t3, e3⟩ : ∃ t, t = uy * den := ⟨_, rfl⟩
            obtain ⟨t4, e4⟩ : ∃ t, t = num * dx := ⟨_, rfl⟩
            have wm1 : IntKind.i64.wrap (ux * den) = t1 := by rw [e1]; exact IntWalk.i64_in _ (by omega)
            have wm2 : IntKind.i64.wrap (nn * dy) = t2 := by rw [e2]; exact IntWalk.i64_in _ (by omega)
            have wm3 : IntKind.i64.wrap (uy * den) = t3 := by rw [e3]; exact IntWalk.i64_in _ (by omega)
            have wm4 : IntKind.i64.wrap (num * dx) = t4 := by rw [e4]; exact IntWalk.i64_in _ (by omega)
            replace HTA := Lib.hid (show TrAt q v num den k ↔ (t1 = t2 ∧ t3 = t4) by rw [e1, e2, e3, e4]; exact HTA.out)
            clear e1 e2 e3 e4 m1 m2 m3 m4
            have hj1 : (2 * (k : Int)).toNat = 2 * k := by omega
            have hj2 : (2 * (k : Int) + 1).toNat = 2 * k + 1 := by omega
            have hvl := HVL.out
            have hm1 : (2 * (k : Int)) < (v.length : Int) := by omega
            have hm2 : (2 * (k : Int) + 1) < (v.length : Int) := by omega
            have hm5 : 0 ≤ (2 * (k : Int)) := by omega
            have hm6 : 0 ≤ (2 * (k : Int) + 1) := by omega
            have hm9 : (0 : Int) < (v.length : Int) := by omega
            have hm10 : (1 : Int) < (v.length : Int) := by omega
            have hk1 : (k : Int) < (q.length : Int) := by omega
            have hk3 : (0 : Int) < (q.length : Int) := by omega
            have hk4 : (0 : Int) ≤ (k : Int) := by omega
            have hw1 := IntWalk.i64_in (2 * (k : Int)) (by omega)
            have hw2 := IntWalk.i64_in (2 * (k : Int) + 1) (by omega)
            clear hvl
            obtain ⟨zBX, fBX0, fBX1, fBX2⟩ := BX1.out
            go_wp2_with fail
            have ba : Below wr.heap.size wr (wr.alloc (.cells #[.int .i64 (pX q k), .int .i64 (pY q k)] 57)) := (Below.refl _ _).alloc (Nat.le_refl _) _
            have BPq : Hid (BoxPl (wr.alloc (.cells #[.int .i64 (pX q k), .int .i64 (pY q k)] 57)) wr.heap.size (pX q k) (pY q k)) := Lib.hid (BoxPl.at rfl)
            have BX2 := Lib.hid (BX1.out.below ba)
            have q0x2 := ((bcell ba).1 _ _ hbq).trans q0x
            have q0y2 := ((bcell ba).1 _ _ hbq).trans q0y
            have v02 := ((bcell ba).1 _ _ hbv).trans v0
            have v12 := ((bcell ba).1 _ _ hbv).trans v1
            have va02 := ((bcell ba).1 _ _ hbv).trans va0
            have va12 := ((bcell ba).1 _ _ hbv).trans va1
            have hba := hb.step ba
            generalize (wr.alloc (.cells #[.int .i64 (pX q k), .int .i64 (pY q k)] 57)) = wq at *
            clear zBX fBX0 fBX1 fBX2 q0x q0y qax qay v0 v1 va0 va1 ba
            obtain ⟨zBX, fBX0, fBX1, fBX2⟩ := BX2.out
            obtain ⟨zBP, fBP0, fBP1⟩ := BPq.out
            go_quiet (fail)
            obtain ⟨n1, hn1⟩ : ∃ n1, n1 = nq := ⟨_, rfl⟩
            subst hn1
            go_wp2_with fail
            by_cases h1 : t1 = t2
            · by_cases h2 : t3 = t4
              · have HF1 := Lib.hid (HTA.out.2 ⟨h1, h2⟩)
                have hbn : (t1 != t2) = false := by simpa using h1
                have hbn2 : (t3 != t4) = false := by simpa using h2
                clear HTA h1 h2
                go_quiet (fail)
                go_wp2_with fail
                go_roundw
                case rel => exact ⟨k + 1, by omega, by go_num, fun i' h => (by
                  rcases Nat.lt_succ_iff_lt_or_eq.1 h with h | rfl
                  · exact HA.out i' h
                  · exact HF1.out), (by repeat' (first | (with_reducible exact hba) | (with_reducible refine below_drewN ?_ _)))⟩
                case measure => simp [intOf]; omega
              · have HE := Lib.hid (ret_bool (show trivB (p, l, q) v = false by rw [HT.out]; exact triv_no HGD.out hlt (fun h => h2 (HTA.out.1 h).2)))
                have hbn : (t1 != t2) = false := by simpa using h1
                have hbn2 : (t3 != t4) = true := by simpa using h2
                clear HTA h1 h2
                go_quiet (fail)
                go_wp2_with fail
                go_ret
                exact ⟨HE.out.symm, B0.step (by repeat' (first | (with_reducible exact hba) | (with_reducible refine below_drewN ?_ _)))⟩
            · have HE := Lib.hid (ret_bool (show trivB (p, l, q) v = false by rw [HT.out]; exact triv_no HGD.out hlt (fun h => h1 (HTA.out.1 h).1)))
              have hbn : (t1 != t2) = true := by simpa using h1
              clear HTA h1
              go_quiet (fail)
              go_wp2_with fail
              go_ret
              exact ⟨HE.out.symm, B0.step (by repeat' (first | (with_reducible exact hba) | (with_reducible refine below_drewN ?_ _)))⟩
          · obtain rfl : k = q.length := by omega
            have hlti : ¬ (q.length : Int) < (q.length : Int) := by omega
            have HE := Lib.hid (ret_bool (show trivB (p, l, q) v = true by rw [HT.out]; exact triv_yes HGD.out HA.out))
            go_wp2_with fail
            go_ret
            exact ⟨HE.out.symm, B1⟩
    · obtain rfl : k = q.length := by omega
      have hlti : ¬ (q.length : Int) < (q.length : Int) := by omega
      obtain ⟨zBX, fBX0, fBX1, fBX2⟩ := BX1.out
      go_wp2_with fail
      clear zBX fBX0 fBX1 fBX2
      obtain ⟨w0, hw0⟩ : ∃ w0, w0 = wr := ⟨_, rfl⟩
      subst hw0
      have B0 := B1
      have BX0 := BX1
      have HGD : Hid (Good q v m0 d0) := Lib.hid (by rw [HMD.out.1, HMD.out.2]; exact good_none HA.out)
      generalize m0 = num at *
      generalize d0 = den at *
      clear hb B1 BX1 HA hlti HMD
      
      go_loopw [84] (fun i w9 => ∃ k : Nat, k ≤ q.length ∧ i = .int .i64 k ∧ (∀ i', i' < k → TrAt q v num den i') ∧ Below w0.heap.size w0 w9) (fun i _ => q.length - (intOf i).toNat)
      case atStart => exact ⟨0, Nat.zero_le _, rfl, fun i' h => by omega, Below.refl _ _⟩
      case round =>
        obtain ⟨k, hkn, rfl, hall, hb⟩ := hrel
        have HA := Lib.hid hall
        clear hall
        have B1 := B0.step hb
        have BX1 := Lib.hid (BX0.out.below hb)
        by_cases hlt : k < q.length
        · have hlti : (k : Int) < (q.length : Int) := by omega
          obtain ⟨bq, oq, rfl, hbq, hcq⟩ := placesAll (H2.out.below B1) (by omega)
          obtain ⟨bv, ov, rfl, hbv, hcv⟩ := intsAll (HV.out.below B1) (by have := HVL.out; omega)
          obtain ⟨q0x, q0y⟩ := hcq 0 (by omega)
          obtain ⟨qax, qay⟩ := hcq k hlt
          have v0 := hcv 0 (by have := HVL.out; omega)
          have v1 := hcv 1 (by have := HVL.out; omega)
          have va0 := hcv (2 * k) (by have := HVL.out; omega)
          have va1 := hcv (2 * k + 1) (by have := HVL.out; omega)
          simp only [Nat.zero_mul, Nat.add_zero] at q0x q0y v0
          clear hcq hcv
          obtain ⟨⟨bx01, bx02⟩, by01, by02⟩ := HPQ.out 0 (by omega)
          obtain ⟨⟨bxa1, bxa2⟩, bya1, bya2⟩ := HPQ.out k hlt
          have bv0 := HVV.out 0 (by have := HVL.out; omega)
          have bv1 := HVV.out 1 (by have := HVL.out; omega)
          have bva0 := HVV.out (2 * k) (by have := HVL.out; omega)
          have bva1 := HVV.out (2 * k + 1) (by have := HVL.out; omega)
          obtain ⟨dx, edx⟩ : ∃ x, x = dX q k := ⟨_, rfl⟩
          obtain ⟨dy, edy⟩ : ∃ x, x = dY q k := ⟨_, rfl⟩
          obtain ⟨ux, eux⟩ : ∃ x, x = uX v k := ⟨_, rfl⟩
          obtain ⟨uy, euy⟩ : ∃ x, x = uY v k := ⟨_, rfl⟩
          have HD := Lib.hid (And.intro edx (And.intro edy (And.intro eux euy)))
          unfold dX at edx
          unfold dY at edy
          unfold uX at eux
          unfold uY at euy
          have g1 : -4 ≤ dx ∧ dx ≤ 4 := by omega
          have g2 : -4 ≤ dy ∧ dy ≤ 4 := by omega
          have g3 : -20000000000 ≤ ux ∧ ux ≤ 20000000000 := by omega
          have g4 : -20000000000 ≤ uy ∧ uy ≤ 20000000000 := by omega
          have wr1 : IntKind.i64.wrap (pX q k - pX q 0) = dx := by rw [edx]; exact IntWalk.i64_in _ (by omega)
          have wr2 : IntKind.i64.wrap (pY q k - pY q 0) = dy := by rw [edy]; exact IntWalk.i64_in _ (by omega)
          have wr3 : IntKind.i64.wrap (vN v (2 * k) - vN v 0) = ux := by rw [eux]; exact IntWalk.i64_in _ (by omega)
          have wr4 : IntKind.i64.wrap (vN v (2 * k + 1) - vN v 1) = uy := by rw [euy]; exact IntWalk.i64_in _ (by omega)
          clear edx edy eux euy bx01 bx02 by01 by02 bxa1 bxa2 bya1 bya2 bv0 bv1 bva0 bva1
          have hgd := HGD.out
          have m1 := mulB (A := 20000000000) (B := 32) g3.1 g3.2 (show -32 ≤ den by have := hgd.1.2.1; omega) hgd.1.2.2
          have m2 := mulB (A := 160000000000) (B := 4) (show -160000000000 ≤ -num by have := hgd.2.1.2; omega) (show -num ≤ 160000000000 by have := hgd.2.1.1; omega) g2.1 g2.2
          have m3 := mulB (A := 20000000000) (B := 32) g4.1 g4.2 (show -32 ≤ den by have := hgd.1.2.1; omega) hgd.1.2.2
          have m4 := mulB (A := 160000000000) (B := 4) hgd.2.1.1 hgd.2.1.2 g1.1 g1.2
          obtain ⟨nn, enn⟩ : ∃ t, t = -num := ⟨_, rfl⟩
          have wn : IntKind.i64.wrap (-num) = nn := by rw [enn]; exact IntWalk.i64_in _ (by have := hgd.2.1.1; have := hgd.2.1.2; omega)
          have HTA := Lib.hid (show TrAt q v num den k ↔ (ux * den = nn * dy ∧ uy * den = num * dx) by unfold TrAt; rw [HD.out.1, HD.out.2.1, HD.out.2.2.1, HD.out.2.2.2, enn])
          rw [← enn] at m2
          clear enn hgd
          obtain ⟨t1, e1⟩ : ∃ t, t = ux * den := ⟨_, rfl⟩
          obtain ⟨t2, e2⟩ : ∃ t, t = nn * dy := ⟨_, rfl⟩
          obtain ⟨t3, e3⟩ : ∃ t, t = uy * den := ⟨_, rfl⟩
          obtain ⟨t4, e4⟩ : ∃ t, t = num * dx := ⟨_, rfl⟩
          have wm1 : IntKind.i64.wrap (ux * den) = t1 := by rw [e1]; exact IntWalk.i64_in _ (by omega)
          have wm2 : IntKind.i64.wrap (nn * dy) = t2 := by rw [e2]; exact IntWalk.i64_in _ (by omega)
          have wm3 : IntKind.i64.wrap (uy * den) = t3 := by rw [e3]; exact IntWalk.i64_in _ (by omega)
          have wm4 : IntKind.i64.wrap (num * dx) = t4 := by rw [e4]; exact IntWalk.i64_in _ (by omega)
          replace HTA := Lib.hid (show TrAt q v num den k ↔ (t1 = t2 ∧ t3 = t4) by rw [e1, e2, e3, e4]; exact HTA.out)
          clear e1 e2 e3 e4 m1 m2 m3 m4
          have hj1 : (2 * (k : Int)).toNat = 2 * k := by omega
          have hj2 : (2 * (k : Int) + 1).toNat = 2 * k + 1 := by omega
          have hvl := HVL.out
          have hm1 : (2 * (k : Int)) < (v.length : Int) := by omega
          have hm2 : (2 * (k : Int) + 1) < (v.length : Int) := by omega
          have hm5 : 0 ≤ (2 * (k : Int)) := by omega
          have hm6 : 0 ≤ (2 * (k : Int) + 1) := by omega
          have hm9 : (0 : Int) < (v.length : Int) := by omega
          have hm10 : (1 : Int) < (v.length : Int) := by omega
          have hk1 : (k : Int) < (q.length : Int) := by omega
          have hk3 : (0 : Int) < (q.length : Int) := by omega
          have hk4 : (0 : Int) ≤ (k : Int) := by omega
          have hw1 := IntWalk.i64_in (2 * (k : Int)) (by omega)
          have hw2 := IntWalk.i64_in (2 * (k : Int) + 1) (by omega)
          clear hvl
          obtain ⟨zBX, fBX0, fBX1, fBX2⟩ := BX1.out
          go_wp2_with fail
          have ba : Below wr.heap.size wr (wr.alloc (.cells #[.int .i64 (pX q k), .int .i64 (pY q k)] 57)) := (Below.refl _ _).alloc (Nat.le_refl _) _
          have BPq : Hid (BoxPl (wr.alloc (.cells #[.int .i64 (pX q k), .int .i64 (pY q k)] 57)) wr.heap.size (pX q k) (pY q k)) := Lib.hid (BoxPl.at rfl)
          have BX2 := Lib.hid (BX1.out.below ba)
          have q0x2 := ((bcell ba).1 _ _ hbq).trans q0x
          have q0y2 := ((bcell ba).1 _ _ hbq).trans q0y
          have v02 := ((bcell ba).1 _ _ hbv).trans v0
          have v12 := ((bcell ba).1 _ _ hbv).trans v1
          have va02 := ((bcell ba).1 _ _ hbv).trans va0
          have va12 := ((bcell ba).1 _ _ hbv).trans va1
          have hba := hb.step ba
          generalize (wr.alloc (.cells #[.int .i64 (pX q k), .int .i64 (pY q k)] 57)) = wq at *
          clear zBX fBX0 fBX1 fBX2 q0x q0y qax qay v0 v1 va0 va1 ba
          obtain ⟨zBX, fBX0, fBX1, fBX2⟩ := BX2.out
          obtain ⟨zBP, fBP0, fBP1⟩ := BPq.out
          go_quiet (fail)
          obtain ⟨n1, hn1⟩ : ∃ n1, n1 = nq := ⟨_, rfl⟩
          subst hn1
          go_wp2_with fail
          by_cases h1 : t1 = t2
          · by_cases h2 : t3 = t4
            · have HF1 := Lib.hid (HTA.out.2 ⟨h1, h2⟩)
              have hbn : (t1 != t2) = false := by simpa using h1
              have hbn2 : (t3 != t4) = false := by simpa using h2
              clear HTA h1 h2
              go_quiet (fail)
              go_wp2_with fail
              go_roundw
              case rel => exact ⟨k + 1, by omega, by go_num, fun i' h => (by
                rcases Nat.lt_succ_iff_lt_or_eq.1 h with h | rfl
                · exact HA.out i' h
                · exact HF1.out), (by repeat' (first | (with_reducible exact hba) | (with_reducible refine below_drewN ?_ _)))⟩
              case measure => simp [intOf]; omega
            · have HE := Lib.hid (ret_bool (show trivB (p, l, q) v = false by rw [HT.out]; exact triv_no HGD.out hlt (fun h => h2 (HTA.out.1 h).2)))
              have hbn : (t1 != t2) = false := by simpa using h1
              have hbn2 : (t3 != t4) = true := by simpa using h2
              clear HTA h1 h2
              go_quiet (fail)
              go_wp2_with fail
              go_ret
              exact ⟨HE.out.symm, B0.step (by repeat' (first | (with_reducible exact hba) | (with_reducible refine below_drewN ?_ _)))⟩
          · have HE := Lib.hid (ret_bool (show trivB (p, l, q) v = false by rw [HT.out]; exact triv_no HGD.out hlt (fun h => h1 (HTA.out.1 h).1)))
            have hbn : (t1 != t2) = true := by simpa using h1
            clear HTA h1
            go_quiet (fail)
            go_wp2_with fail
            go_ret
            exact ⟨HE.out.symm, B0.step (by repeat' (first | (with_reducible exact hba) | (with_reducible refine below_drewN ?_ _)))⟩
        · obtain rfl : k = q.length := by omega
          have hlti : ¬ (q.length : Int) < (q.length : Int) := by omega
          have HE := Lib.hid (ret_bool (show trivB (p, l, q) v = true by rw [HT.out]; exact triv_yes HGD.out HA.out))
          go_wp2_with fail
          go_ret
          exact ⟨HE.out.symm, B1⟩
end Go.Proofs.Ytkjoeogoebpkjaa
