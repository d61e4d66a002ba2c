/- ForceAt of the program, and both contracts. No condition but sizes. -/
import Derived.Test.YtkjoeogoebpkjaaFrc
import Derived.Test.YtkjoeogoebpkjaaRig2
import Derived.Test.YtkjoeogoebpkjaaChg2
import Derived.Test.YtkjoeogoebpkjaaIsf2
import Derived.Test.YtkjoeogoebpkjaaRig
import Derived.Deep.RegionHeld3
namespace Go.Proofs.Ytkjoeogoebpkjaa
open Go.RowKit
set_option maxRecDepth 100000
set_option linter.unusedVariables false
set_option linter.unusedSimpArgs false


/-- a new block of two zeros -/
def Zer (w : World) (g : Nat) : Prop := (w.cell? ⟨g, 0, none⟩ = some (.int .i64 0) ∧ w.cell? ⟨g, 1, none⟩ = some (.int .i64 0)) ∧ (w.frozen? ⟨g, 0, none⟩ = false ∧ w.frozen? ⟨g, 1, none⟩ = false) ∧ g < w.heap.size
theorem Zer.below {w w' : World} {g : Nat} (h : Zer w g) (hb : Below w.heap.size w w') : Zer w' g :=
  ⟨⟨((bcell hb).1 _ _ h.2.2).trans h.1.1, ((bcell hb).1 _ _ h.2.2).trans h.1.2⟩, ⟨((bcell hb).2 _ _ h.2.2).trans h.2.1.1, ((bcell hb).2 _ _ h.2.2).trans h.2.1.2⟩, Nat.lt_of_lt_of_le h.2.2 hb.size⟩
theorem Zer.at (w : World) (ty : TypeId) : Zer (w.alloc (.cells #[.int .i64 0, .int .i64 0] ty)) w.heap.size :=
  ⟨⟨by simp [World.cell?_alloc_new], by simp [World.cell?_alloc_new]⟩, ⟨by simp [World.frozen?_alloc_new], by simp [World.frozen?_alloc_new]⟩, by simp⟩
theorem Zer.set {w : World} {g b o : Nat} {v : Value} (h : Zer w g) (hne : b ≠ g) : Zer (w.setCell ⟨b, o, none⟩ v) g :=
  ⟨⟨(cell_set_ne hne).trans h.1.1, (cell_set_ne hne).trans h.1.2⟩, ⟨by rw [World.frozen?_setCell]; exact h.2.1.1, by rw [World.frozen?_setCell]; exact h.2.1.2⟩, by simpa using h.2.2⟩
theorem twA {w : World} {g : Nat} {x y : Int} {t : TypeId} (hg : g = w.heap.size) : Two (w.alloc (.cells #[.int .i64 x, .int .i64 y] t)) g x y := by
  subst hg
  exact ⟨by simp [World.cell?_alloc_new], by simp [World.cell?_alloc_new]⟩
theorem twB {w : World} {g : Nat} {x y : Int} {o : Obj} (h : Two w g x y) (hg : g < w.heap.size) : Two (w.alloc o) g x y := ⟨(World.cell?_alloc_lt _ _ ⟨g, 0, none⟩ hg).trans h.1, (World.cell?_alloc_lt _ _ ⟨g, 1, none⟩ hg).trans h.2⟩
theorem twS {w : World} {g : Nat} {x y : Int} (h : Zer w g) : Two ((w.setCell ⟨g, 0, none⟩ (.int .i64 x)).setCell ⟨g, 1, none⟩ (.int .i64 y)) g x y :=
  ⟨(World.cell?_setCell_other _ _ _ _ (by simp)).trans (World.cell?_setCell_same _ _ _ h.1.1), World.cell?_setCell_same _ _ _ ((World.cell?_setCell_other _ _ _ _ (by simp)).trans h.1.2)⟩
theorem Zer.drew {w : World} {g : Nat} (h : Zer w g) : Zer w.drew g := h

set_option maxHeartbeats 4000000 in
theorem implFrc_at (W : World) (p : Int) (a : Option Addr) (cap : Nat) (l : List BarT) (c : Option Addr) (capc : Nat) (q : List PlaceT) (h : BarsAt W a l.length l) (hq : PlacesAt W c q.length q) (hs : l.length + q.length ≤ 1048576) (va : Option Addr) (n vcap : Nat) (w : List Int) (hv : IntsAt W va n w) (hvn : n ≤ 1048576) (v : Int) :
    Calls Try.prog 26 #[.agg #[.int .i64 p, .slice a l.length cap, .slice c q.length capc], .slice va n vcap, .int .i64 v] W fun e w' => e = .returned (.tuple #[.int .i64 (forceF (p, l, q) w v).1, .int .i64 (forceF (p, l, q) w v).2]) ∧ Below W.heap.size W w' := by
  have hwd := @Wd.cells
  have HFw : Hid (IsFw W (.agg #[.int .i64 p, .slice a l.length cap, .slice c q.length capc]) (p, l, q)) := Lib.hid ⟨a, cap, c, capc, rfl, h, hq⟩
  have H1 := Lib.hid h
  have H2 := Lib.hid hq
  clear h hq
  have hsz : szFw (p, l, q) ≤ 1048576 := hs
  have hs1 : l.length ≤ 1048576 := by omega
  have hs2 : q.length ≤ 1048576 := by omega
  have B : Below W.heap.size W (W.alloc (.cells #[.int .i64 p, .slice a l.length cap, .slice c q.length capc] 42)) := (Below.refl _ _).alloc (Nat.le_refl _) _
  have BX : Hid (BoxFw (W.alloc (.cells #[.int .i64 p, .slice a l.length cap, .slice c q.length capc] 42)) W.heap.size p a l.length cap c q.length capc) := Lib.hid (BoxFw.at rfl)
  obtain rfl := hv.1
  have HV := Lib.hid hv
  clear hv
  cases hf : forB (p, l, q) w
  · have HE := Lib.hid (show forceF (p, l, q) w v = (0, 0) by unfold forceF; rw [hf]; rfl)
    go_enter Try.func26, Try.ntmps26
    go_wp2_with fail
    refine (areForces_at _ _ _ _ _ _ _ _ (H1.out.below B) (H2.out.below B) hs1 hs2 hs _ _ _ _ (HV.out.below B) (by omega)).mono ?_
    rintro e w1 ⟨rfl, b⟩
    have B1 := B.step b
    rw [hf]
    go_wp2_with fail
    go_ret2
    exact ⟨by rw [HE.out]; rfl, B1⟩
  have HE := Lib.hid (show forceF (p, l, q) w v = (fTo Prod.fst l q w v l.length, fTo Prod.snd l q w v l.length) by unfold forceF; rw [hf]; rfl)
  obtain ⟨hfw, hwl, _⟩ := forB_facts hf
  obtain ⟨⟨hg1, hg2⟩, hg3, hg4, hg5, _⟩ := isFw_facts hfw
  have HG5 := Lib.hid hg5
  have HWL := Lib.hid hwl
  clear hg5 hwl
  go_enter Try.func26, Try.ntmps26
  go_wp2_with fail
  refine (areForces_at _ _ _ _ _ _ _ _ (H1.out.below B) (H2.out.below B) hs1 hs2 hs _ _ _ _ (HV.out.below B) (by omega)).mono ?_
  rintro e u ⟨rfl, b⟩
  replace B := B.step b
  replace BX := Lib.hid (BX.out.below b)
  clear b
  rw [hf]
  obtain ⟨zBX, fBX0, fBX1, fBX2⟩ := BX.out
  go_wp2_with fail
  clear zBX fBX0 fBX1 fBX2
  go_loopw [8, 9, 24] (fun x y i w9 => ∃ k : Nat, k ≤ l.length ∧ i = .int .i64 k ∧ x = .int .i64 (fTo Prod.fst l q w v k) ∧ y = .int .i64 (fTo Prod.snd l q w v k) ∧ Below u.heap.size u w9) (fun _ _ i _ => l.length - (intOf i).toNat)
  case atStart => exact ⟨0, Nat.zero_le _, rfl, rfl, rfl, Below.refl _ _⟩
  case round =>
    obtain ⟨k, hk, rfl, rfl, rfl, hb⟩ := hrel
    generalize hX : fTo Prod.fst l q w v k = X
    generalize hY : fTo Prod.snd l q w v k = Y
    have HXX := Lib.hid hX
    have HYY := Lib.hid hY
    clear hX hY
    have B1 := B.step hb
    have BX1 := Lib.hid (BX.out.below hb)
    by_cases hlt : k < l.length
    · obtain ⟨bb, off, ⟨x1, x2⟩, rfl, hbl, hx, hc0, hc1⟩ := (H1.out.below B1).2 k hlt
      dsimp only at hc0 hc1
      have HX := Lib.hid hx
      obtain ⟨hx1, hx2, hx3⟩ := isGraphB_bar HG5.out hx
      dsimp only at hx1 hx2 hx3
      obtain ⟨i1, rfl⟩ := Int.eq_ofNat_of_zero_le hx1
      obtain ⟨i2, rfl⟩ := Int.eq_ofNat_of_zero_le (show 0 ≤ x2 by omega)
      clear hx
      have bpl : Below wr.heap.size wr (wr.alloc (.cells #[.int .i64 i1, .int .i64 i2] 68)) := (Below.refl _ _).alloc (Nat.le_refl _) _
      have p0 : (wr.alloc (.cells #[.int .i64 i1, .int .i64 i2] 68)).cell? ⟨wr.heap.size, 0, none⟩ = some (.int .i64 i1) := by simp [World.cell?_alloc_new]
      have p1 : (wr.alloc (.cells #[.int .i64 i1, .int .i64 i2] 68)).cell? ⟨wr.heap.size, 1, none⟩ = some (.int .i64 i2) := by simp [World.cell?_alloc_new]
      have pz : wr.heap.size < (wr.alloc (.cells #[.int .i64 i1, .int .i64 i2] 68)).heap.size := by simp
      go_upto_region 7 with (fail)
      clear hc0 hc1
      replace BX1 := Lib.hid (BX1.out.below bpl)
      replace B1 := B1.step bpl
      have hb4 := hb.step bpl
      generalize (wr.alloc (.cells #[.int .i64 i1, .int .i64 i2] 68)) = w4 at *
      clear bpl
      go_wp2_with fail
      refine (barHas_at _ _ _ _).mono ?_
      rintro e w5 ⟨rfl, b⟩
      have p2 := ((bcell b).1 _ _ pz).trans p0
      have p3 := ((bcell b).1 _ _ pz).trans p1
      have pz5 : wr.heap.size < w5.heap.size := Nat.lt_of_lt_of_le pz b.size
      replace BX1 := Lib.hid (BX1.out.below b)
      replace B1 := B1.step b
      have hb5 := hb4.step b
      clear b p0 p1
      by_cases hvc : (i1 : Int) = v ∨ (i2 : Int) = v
      · have hdc : decide ((i1 : Int) = v ∨ (i2 : Int) = v) = true := decide_eq_true hvc
        rw [hdc]
        obtain ⟨V, rfl⟩ := Int.eq_ofNat_of_zero_le (show 0 ≤ v by omega)
        obtain ⟨U, hU⟩ := Int.eq_ofNat_of_zero_le (show 0 ≤ othN ((i1 : Int), (i2 : Int)) V by unfold othN; split <;> dsimp only <;> omega)
        have hUl : U < q.length := by have h9 := hU; unfold othN at h9; split at h9 <;> dsimp only at h9 <;> omega
        have hVl : V < q.length := by omega
        have HU := Lib.hid hU
        have hq1 : (V : Int) < (q.length : Int) := by omega
        have hq2 : (U : Int) < (q.length : Int) := by omega
        have bd : Below w5.heap.size w5 w5.drew := (Below.refl _ _).drew
        replace BX1 := Lib.hid (BX1.out.below bd)
        replace B1 := B1.step bd
        have hb6 := hb5.step bd
        have p4 : w5.drew.cell? ⟨wr.heap.size, 0, none⟩ = _ := p2
        have p5 : w5.drew.cell? ⟨wr.heap.size, 1, none⟩ = _ := p3
        have pz6 : wr.heap.size < w5.drew.heap.size := pz5
        clear p2 p3 bd hU
        obtain ⟨bq, oq, ⟨y1, y2⟩, rfl, hbq, hy, hya, hyb⟩ := (H2.out.below B1).2 V (by omega)
        obtain ⟨bq', oq', ⟨t1, t2⟩, hab, hbq', ht, hta, htb⟩ := (H2.out.below B1).2 U (by omega)
        simp only [Option.some.injEq, Addr.mk.injEq, and_true] at hab
        obtain ⟨rfl, rfl⟩ := hab
        dsimp only at hya hyb hta htb
        obtain ⟨bv, ov, z, rfl, hbv, hz, hcz⟩ := (HV.out.below B1).2 k (by have := HWL.out; omega)
        have HFX := Lib.hid (fTo_hit (g := Prod.fst) HX.out hz hvc hy (by rw [HU.out]; exact ht))
        have HFY := Lib.hid (fTo_hit (g := Prod.snd) HX.out hz hvc hy (by rw [HU.out]; exact ht))
        rw [HXX.out] at HFX
        rw [HYY.out] at HFY
        clear hy ht hz
        go_wp2_with fail
        obtain ⟨zBX, fBX0, fBX1, fBX2⟩ := BX1.out
        have p1 : (0 : Int) ≤ (V : Int) := by omega
        have p2 : (0 : Int) ≤ (U : Int) := by omega
        have HG3 := Lib.hid hg3
        clear hg3
        have bd : Below w5.heap.size w5 w5.drew := (Below.refl _ _).drew
        have ba1 : Below w5.heap.size w5 (w5.alloc (.cells #[.int .i64 0, .int .i64 0] 57)).drew := ((Below.refl _ _).alloc (Nat.le_refl _) _).drew
        have ba2 : Below w5.heap.size w5 ((w5.alloc (.cells #[.int .i64 0, .int .i64 0] 57)).alloc (.cells #[.int .i64 0, .int .i64 0] 57)).drew := (((Below.refl _ _).alloc (Nat.le_refl _) _).alloc (by simp) _).drew
        have hCZ : ∀ w', Below w5.heap.size w5 w' → w'.cell? ⟨bv, ov + k, none⟩ = some (.int .i64 z) := fun w' hb => ((bcell hb).1 _ _ hbv).trans hcz
        have KEEP := Lib.hid (show ∀ w', Below w5.heap.size w5 w' → w'.cell? ⟨W.heap.size, 2, none⟩ = some (.slice (some ⟨bq, oq, none⟩) q.length capc) ∧ w'.cell? ⟨wr.heap.size, 0, none⟩ = some (.int .i64 i1) ∧ w'.cell? ⟨wr.heap.size, 1, none⟩ = some (.int .i64 i2) ∧ w'.cell? ⟨bq, oq + V * 2, none⟩ = some (.int .i64 y1) ∧ w'.cell? ⟨bq, oq + V * 2 + 1, none⟩ = some (.int .i64 y2) ∧ w'.cell? ⟨bq, oq + U * 2, none⟩ = some (.int .i64 t1) ∧ w'.cell? ⟨bq, oq + U * 2 + 1, none⟩ = some (.int .i64 t2) from fun w' hb => ⟨((bcell hb).1 _ _ zBX).trans fBX2, ((bcell hb).1 _ _ pz6).trans p4, ((bcell hb).1 _ _ pz6).trans p5, ((bcell hb).1 _ _ hbq).trans hya, ((bcell hb).1 _ _ hbq).trans hyb, ((bcell hb).1 _ _ hbq).trans hta, ((bcell hb).1 _ _ hbq).trans htb⟩)
        go_cut [12, 13] (fun s12 s13 wx => ∃ g h : Nat, s12 = .pointer (some ⟨g, 0, none⟩) ∧ s13 = .pointer (some ⟨h, 0, none⟩) ∧ Two wx g y1 y2 ∧ Two wx h t1 t2 ∧ Below w5.heap.size w5 wx)
        case first =>
          have tk1 := True.intro
          go_region_held3 (fun w' => w'.cell? ⟨W.heap.size, 2, none⟩ = some (.slice (some ⟨bq, oq, none⟩) q.length capc) ∧ w'.cell? ⟨wr.heap.size, 0, none⟩ = some (.int .i64 i1) ∧ w'.cell? ⟨wr.heap.size, 1, none⟩ = some (.int .i64 i2) ∧ w'.cell? ⟨bq, oq + V * 2, none⟩ = some (.int .i64 y1) ∧ w'.cell? ⟨bq, oq + V * 2 + 1, none⟩ = some (.int .i64 y2) ∧ w'.cell? ⟨bq, oq + U * 2, none⟩ = some (.int .i64 t1) ∧ w'.cell? ⟨bq, oq + U * 2 + 1, none⟩ = some (.int .i64 t2))
            (first | (exact KEEP.out _ (by repeat' (first | (with_reducible assumption) | (with_reducible refine Below.drew ?_) | (with_reducible refine Below.alloc ?_ (by first | omega | (simp; done) | (simp; omega)) _) | (with_reducible refine Below.setCell ?_ (by first | omega | (simp; done) | (simp; omega)) _)))) | (go_keep))
            (first
              | (clear tk1; go_at_call 66; refine (barOther_at _ _ _ _).mono ?_; rintro e w7 ⟨rfl, b⟩; rw [HU.out]; have b7 := bd.step b; have hz7 := b7.size; have b8 : Below w5.heap.size w5 (w7.alloc (.cells #[.int .i64 0, .int .i64 0] 57)) := b7.alloc b7.size _; have b9 : Below w5.heap.size w5 ((w7.alloc (.cells #[.int .i64 0, .int .i64 0] 57)).alloc (.cells #[.int .i64 0, .int .i64 0] 57)) := b8.alloc b8.size _; clear bd ba1 ba2)
              | (clear tk1; go_at_call 66; refine (barOther_at _ _ _ _).mono ?_; rintro e w7 ⟨rfl, b⟩; rw [HU.out]; have b7 := ba1.step b; have hz7 := b7.size; have Z1 := Lib.hid (((Zer.at w5 57).drew).below b); obtain ⟨⟨k0, k1⟩, ⟨k2, k3⟩, k4⟩ := Z1.out; have b8 : Below w5.heap.size w5 (w7.alloc (.cells #[.int .i64 0, .int .i64 0] 57)) := b7.alloc b7.size _; have b9 : Below w5.heap.size w5 ((w7.alloc (.cells #[.int .i64 0, .int .i64 0] 57)).alloc (.cells #[.int .i64 0, .int .i64 0] 57)) := b8.alloc b8.size _; clear bd ba1 ba2)
              | (clear tk1; go_at_call 66; refine (barOther_at _ _ _ _).mono ?_; rintro e w7 ⟨rfl, b⟩; rw [HU.out]; have b7 := ba2.step b; have hz7 := b7.size; have Z1 := Lib.hid ((((Zer.at w5 57).below ((Below.refl _ _).alloc (Nat.le_refl _) _)).drew).below b); obtain ⟨⟨k0, k1⟩, ⟨k2, k3⟩, k4⟩ := Z1.out; have kk := ((Zer.at (w5.alloc (.cells #[.int .i64 0, .int .i64 0] 57)) 57).drew).below b; rw [World.size_alloc] at kk; have Z2 := Lib.hid kk; clear kk; obtain ⟨⟨k5, k6⟩, ⟨k7, k8⟩, k9⟩ := Z2.out; have b8 : Below w5.heap.size w5 (w7.alloc (.cells #[.int .i64 0, .int .i64 0] 57)) := b7.alloc b7.size _; have b9 : Below w5.heap.size w5 ((w7.alloc (.cells #[.int .i64 0, .int .i64 0] 57)).alloc (.cells #[.int .i64 0, .int .i64 0] 57)) := b8.alloc b8.size _; clear bd ba1 ba2)
              | fail)
          all_goals
            go_wp2_with fail
            go_meet
            refine ⟨_, _, rfl, rfl, ?_, ?_, (by repeat' (first | (with_reducible assumption) | (with_reducible refine Below.drew ?_) | (with_reducible refine Below.alloc ?_ (by first | omega | (simp; done) | (simp; omega)) _) | (with_reducible refine Below.setCell ?_ (by first | omega | (simp; done) | (simp; omega)) _)))⟩
            · first
                | with_reducible exact twA (by simp)
                | with_reducible exact twB (twA (by simp)) (by simp)
                | with_reducible exact twB (twS Z1.out) (by simp; omega)
                | with_reducible exact ((twS Z1.out).set (by omega)).set (by omega)
                | with_reducible exact ((twS Z2.out).set (by omega)).set (by omega)
                | with_reducible exact twS ((Z1.out.set (by omega)).set (by omega))
                | with_reducible exact twS ((Z2.out.set (by omega)).set (by omega))
            · first
                | with_reducible exact twA (by simp)
                | with_reducible exact twB (twA (by simp)) (by simp)
                | with_reducible exact twB (twS Z1.out) (by simp; omega)
                | with_reducible exact ((twS Z1.out).set (by omega)).set (by omega)
                | with_reducible exact ((twS Z2.out).set (by omega)).set (by omega)
                | with_reducible exact twS ((Z1.out.set (by omega)).set (by omega))
                | with_reducible exact twS ((Z2.out.set (by omega)).set (by omega))
        case rest =>
          obtain ⟨g, h, rfl, rfl, ⟨ga, gb⟩, ⟨ha, hb'⟩, hbE⟩ := hcut
          clear bd ba1 ba2 KEEP fBX0 fBX1 fBX2 p4 p5 hya hyb hta htb hcz
          obtain ⟨wE, hwE⟩ : ∃ wE, wE = wc := ⟨_, rfl⟩
          subst hwE
          have hcz := hCZ _ hbE
          have hlti : (k : Int) < (w.length : Int) := by have := HWL.out; omega
          have hkw : k < w.length := by omega
          go_wp2_with fail
          go_quiet (fail)
          go_wp2_with fail
          go_quiet (fail)
          go_wp2_with fail
          go_roundw
          case rel => exact ⟨k + 1, by omega, by go_num, by rw [HFX.out], by rw [HFY.out], below_drewN (hb5.step hbE) _⟩
          case measure => simp [intOf]; omega
      · have hdc : decide ((i1 : Int) = v ∨ (i2 : Int) = v) = false := decide_eq_false hvc
        rw [hdc]
        have HFX := Lib.hid (fTo_miss (g := Prod.fst) (q := q) (w := w) HX.out hvc)
        have HFY := Lib.hid (fTo_miss (g := Prod.snd) (q := q) (w := w) HX.out hvc)
        rw [HXX.out] at HFX
        rw [HYY.out] at HFY
        go_wp2_with fail
        go_roundw
        case rel => exact ⟨k + 1, by omega, by go_num, by rw [HFX.out], by rw [HFY.out], hb5⟩
        case measure => simp [intOf]; omega
    · obtain rfl : k = l.length := by omega
      go_wp2_with fail
      go_ret2
      exact ⟨by rw [HE.out, HXX.out, HYY.out]; rfl, B1⟩

theorem spec_ForceAt (W : World) (v0 : Value) (f : FwT) (h : IsFw W v0 f) (v1 : Value) (w : List Int) (hv : IsInts W v1 w) (v : Int) (hn : szFw f ≤ 1048576) (hvn : w.length ≤ 1048576) :
    Calls Try.prog 23 #[v0, v1, .int .i64 v] W fun e w' => e = .returned (.tuple #[.int .i64 (forceF f w v).1, .int .i64 (forceF f w v).2]) ∧ Below W.heap.size W w' := by
  obtain ⟨p, l, q⟩ := f
  obtain ⟨a, cap, c, capc, rfl, hi, hj⟩ := h
  obtain ⟨va, vc, rfl, hvi⟩ := hv
  exact specFrc_at _ _ _ _ _ _ _ _ hi hj hn _ _ _ _ hvi hvn v
theorem impl_ForceAt (W : World) (v0 : Value) (f : FwT) (h : IsFw W v0 f) (v1 : Value) (w : List Int) (hv : IsInts W v1 w) (v : Int) (hn : szFw f ≤ 1048576) (hvn : w.length ≤ 1048576) :
    Calls Try.prog 26 #[v0, v1, .int .i64 v] W fun e w' => e = .returned (.tuple #[.int .i64 (forceF f w v).1, .int .i64 (forceF f w v).2]) ∧ Below W.heap.size W w' := by
  obtain ⟨p, l, q⟩ := f
  obtain ⟨a, cap, c, capc, rfl, hi, hj⟩ := h
  obtain ⟨va, vc, rfl, hvi⟩ := hv
  exact implFrc_at _ _ _ _ _ _ _ _ hi hj hn _ _ _ _ hvi hvn v
end Go.Proofs.Ytkjoeogoebpkjaa
