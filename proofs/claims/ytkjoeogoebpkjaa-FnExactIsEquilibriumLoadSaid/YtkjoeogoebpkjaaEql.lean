/- IsEquilibriumLoad of the program and of the reference. No condition but sizes. -/
import Derived.Test.YtkjoeogoebpkjaaPlm2
import Derived.Test.YtkjoeogoebpkjaaLoad
import Derived.Test.YtkjoeogoebpkjaaTimes
import Derived.Test.YtkjoeogoebpkjaaChg
import Derived.Deep.QuietTactic
import Derived.BigQuiet
namespace Go.Proofs.Ytkjoeogoebpkjaa
open Go.RowKit Gr
set_option maxRecDepth 100000
set_option linter.unusedVariables false
set_option linter.unusedSimpArgs false

def calmR (v : List Int) (r : List Int) : Bool := decide (dotTo r v v.length = 0)
def eqlB (f : FwT) (v : List Int) : Bool := loadB f v && (plR f.2.2).all (calmR v)
theorem eqlB_not {f : FwT} {v : List Int} {k : Nat} {r : List Int} (hr : (plR f.2.2)[k]? = some r) (h : calmR v r = false) : eqlB f v = false := by
  have : (plR f.2.2).all (calmR v) = false := List.all_eq_false.2 ⟨r, List.mem_of_getElem? hr, by simp [h]⟩
  simp only [eqlB, this, Bool.and_false]
theorem plR_row {q : List PlaceT} {k : Nat} {r : List Int} (hr : (plR q)[k]? = some r) : r.length = 2 * q.length := by
  have h := plR_len q
  have hk : k < 3 := by have := lt_of_getElem? hr; simpa [plR] using this
  obtain rfl | rfl | rfl : k = 0 ∨ k = 1 ∨ k = 2 := by omega
  all_goals
    simp [plR] at hr
    subst hr
    omega

set_option maxHeartbeats 4000000 in
theorem specEql_at (W : World) (p : Int) (a : Option Addr) (cap : Nat) (l : List BarT) (c : Option Addr) (capc : Nat) (q : List PlaceT) (h : BarsAt W a l.length l) (hq : PlacesAt W c q.length q) (hs : l.length + q.length ≤ 1048576) (va : Option Addr) (n vcap : Nat) (v : List Int) (hv : IntsAt W va n v) (hvn : n ≤ 1048576) :
    Calls Try.prog 33 #[.agg #[.int .i64 p, .slice a l.length cap, .slice c q.length capc], .slice va n vcap] W fun e w' => e = .returned (.bool (eqlB (p, l, q) v)) ∧ Below W.heap.size W w' := by
  have hwd := @Wd.cells
  have HFw : Hid (IsFw W (.agg #[.int .i64 p, .slice a l.length cap, .slice c q.length capc]) (p, l, q)) := Lib.hid ⟨a, cap, c, capc, rfl, h, hq⟩
  have H1 := Lib.hid h
  have H2 := Lib.hid hq
  clear h hq
  have hsz : szFw (p, l, q) ≤ 1048576 := hs
  have hs1 : l.length ≤ 1048576 := by omega
  have hs2 : q.length ≤ 1048576 := by omega
  have B : Below W.heap.size W (W.alloc (.cells #[.int .i64 p, .slice a l.length cap, .slice c q.length capc] 42)) := (Below.refl _ _).alloc (Nat.le_refl _) _
  have BX : Hid (BoxFw (W.alloc (.cells #[.int .i64 p, .slice a l.length cap, .slice c q.length capc] 42)) W.heap.size p a l.length cap c q.length capc) := Lib.hid (BoxFw.at rfl)
  obtain rfl := hv.1
  have HV := Lib.hid hv
  clear hv
  cases hf : loadB (p, l, q) v
  · have HE := Lib.hid (ret_bool (show eqlB (p, l, q) v = false by simp only [eqlB, hf, Bool.false_and]))
    go_enter Try.func33, Try.ntmps33
    go_wp2_with fail
    refine (l13Load_at _ _ _ _ _ _ _ _ (H1.out.below B) (H2.out.below B) hs1 hs2 hs _ _ _ _ (HV.out.below B) (by omega)).mono ?_
    rintro e w1 ⟨rfl, b⟩
    replace B := B.step b
    clear b
    rw [hf]
    go_wp2_with fail
    go_ret
    exact ⟨HE.out.symm, B⟩
  obtain ⟨hfw, hvl, hv4⟩ := loadB_facts hf
  obtain ⟨⟨hg1, hg2⟩, hg3, hg4, _, _⟩ := isFw_facts hfw
  have HP := Lib.hid (show plmL (p, l, q) = plR q by unfold plmL; rw [hfw]; rfl)
  have HVL := Lib.hid (show v.length = 2 * q.length by omega)
  have HF := Lib.hid hf
  have HL4 := Lib.hid hv4
  clear hvl hg3 hfw hv4
  go_enter Try.func33, Try.ntmps33
  go_wp2_with fail
  refine (l13Load_at _ _ _ _ _ _ _ _ (H1.out.below B) (H2.out.below B) hs1 hs2 hs _ _ _ _ (HV.out.below B) (by omega)).mono ?_
  rintro e w1 ⟨rfl, b⟩
  replace B := B.step b
  replace BX := Lib.hid (BX.out.below b)
  clear b
  rw [hf]
  obtain ⟨zBX, fBX0, fBX1, fBX2⟩ := BX.out
  clear hf
  go_wp2_with fail
  refine (spec_PlaneMotions _ _ (p, l, q) (HFw.out.below B) hsz).mono ?_
  rintro e u ⟨vm, rfl, ho, b⟩
  rw [HP.out] at ho
  replace B := B.step b
  clear b zBX fBX0 fBX1 fBX2
  obtain ⟨am, cm, rfl, hi⟩ := ho.form
  have HI := Lib.hid hi
  clear hi ho
  go_wp2_with fail
  go_loopw [6] (fun i w9 => ∃ k : Nat, k ≤ 3 ∧ i = .int .i64 k ∧ ((plR q).take k).all (calmR v) = true ∧ Below u.heap.size u w9) (fun i _ => 3 - (intOf i).toNat)
  case atStart => exact ⟨0, Nat.zero_le _, rfl, by simp, Below.refl _ _⟩
  case round =>
    obtain ⟨k, hk, rfl, hall, hb⟩ := hrel
    have HA := Lib.hid hall
    clear hall
    by_cases hlt : k < 3
    · obtain ⟨bm, om, ar, cr, r, rfl, hbm, hx, hcell, hi2⟩ := (HI.out.below hb).2 k hlt
      have hrl := plR_row hx
      have HX := Lib.hid hx
      have HR := Lib.hid hrl
      have HI2 := Lib.hid hi2
      clear hx hi2 hrl
      obtain ⟨wo, hwo⟩ : ∃ wo, wo = wr := ⟨_, rfl⟩
      subst hwo
      go_wp2_with fail
      go_loopw [7, 8] (fun s i w9 => ∃ j : Nat, j ≤ v.length ∧ i = .int .i64 j ∧ s = .int .i64 (dotTo r v j) ∧ Below wo.heap.size wo w9) (fun _ i _ => v.length - (intOf i).toNat)
      case atStart => exact ⟨0, Nat.zero_le _, rfl, rfl, Below.refl _ _⟩
      case round =>
        obtain ⟨j, hj, rfl, rfl, hb2⟩ := hrel
        have hcell2 := ((bcell hb2).1 _ _ hbm).trans hcell
        have hbm2 : bm < wr.heap.size := Nat.lt_of_lt_of_le hbm hb2.size
        by_cases hjl : j < v.length
        · obtain ⟨b1, o1, y, rfl, hb1, hyy, hcy⟩ := (HV.out.below (B.step (hb.step hb2))).2 j hjl
          obtain ⟨b2, o2, x, rfl, hb2', hxx, hcx⟩ := (HI2.out.below hb2).2 j (by have := HR.out; have := HVL.out; omega)
          have hjr : (j : Int) < (r.length : Int) := by have := HR.out; have := HVL.out; omega
          have hjv : (j : Int) < (v.length : Int) := by omega
          have hki : (k : Int) < ((plR q).length : Int) := by rw [show (plR q).length = 3 from rfl]; omega
          have HD := Lib.hid (show dotTo r v (j + 1) = wrap64 (dotTo r v j + wrap64 (y * x)) by rw [Int.mul_comm]; simp [dotTo, hxx, hyy])
          generalize hS : dotTo r v j = S at *
          clear hS hxx hyy
          have p1 : (0 : Int) ≤ (j : Int) := by omega
          have p2 : (0 : Int) ≤ (k : Int) := by omega
          go_wp2_with fail
          go_quiet (fail)
          go_wp2_with fail
          go_roundw
          case rel => exact ⟨j + 1, by omega, by go_num, by rw [HD.out], below_drewN hb2 _⟩
          case measure => simp [intOf]; omega
        · obtain rfl : j = v.length := by omega
          cases hc : calmR v r
          · have HE := Lib.hid (ret_bool (eqlB_not (f := (p, l, q)) HX.out hc))
            have hd0 : (dotTo r v v.length != 0) = true := by simpa [calmR] using hc
            generalize dotTo r v v.length = S at *
            have B := B.step (hb.step hb2)
            go_wp2_with fail
            go_ret
            exact ⟨HE.out.symm, B⟩
          · have hd0 : (dotTo r v v.length != 0) = false := by simpa [calmR] using hc
            have HK := Lib.hid hc
            generalize dotTo r v v.length = S at *
            clear hc
            go_wp2_with fail
            go_roundw
            case rel => exact ⟨k + 1, by omega, by go_num, all_take_succ HX.out HA.out HK.out, hb.step hb2⟩
            case measure => simp [intOf]; omega
    · obtain rfl : k = 3 := by omega
      have HE := Lib.hid (ret_bool (show eqlB (p, l, q) v = true by
        have h1 := HA.out
        have h2 := HF.out
        rw [List.take_of_length_le (by simp [plR])] at h1
        simp only [eqlB, h1, h2, Bool.and_self]))
      have B := B.step hb
      go_wp2_with fail
      go_ret
      exact ⟨HE.out.symm, B⟩

set_option maxHeartbeats 4000000 in
theorem implEql_at (W : World) (p : Int) (a : Option Addr) (cap : Nat) (l : List BarT) (c : Option Addr) (capc : Nat) (q : List PlaceT) (h : BarsAt W a l.length l) (hq : PlacesAt W c q.length q) (hs : l.length + q.length ≤ 1048576) (va : Option Addr) (n vcap : Nat) (v : List Int) (hv : IntsAt W va n v) (hvn : n ≤ 1048576) :
    Calls Try.prog 34 #[.agg #[.int .i64 p, .slice a l.length cap, .slice c q.length capc], .slice va n vcap] W fun e w' => e = .returned (.bool (eqlB (p, l, q) v)) ∧ Below W.heap.size W w' := by
  have hwd := @Wd.cells
  have HFw : Hid (IsFw W (.agg #[.int .i64 p, .slice a l.length cap, .slice c q.length capc]) (p, l, q)) := Lib.hid ⟨a, cap, c, capc, rfl, h, hq⟩
  have H1 := Lib.hid h
  have H2 := Lib.hid hq
  clear h hq
  have hsz : szFw (p, l, q) ≤ 1048576 := hs
  have hs1 : l.length ≤ 1048576 := by omega
  have hs2 : q.length ≤ 1048576 := by omega
  have B : Below W.heap.size W (W.alloc (.cells #[.int .i64 p, .slice a l.length cap, .slice c q.length capc] 42)) := (Below.refl _ _).alloc (Nat.le_refl _) _
  have BX : Hid (BoxFw (W.alloc (.cells #[.int .i64 p, .slice a l.length cap, .slice c q.length capc] 42)) W.heap.size p a l.length cap c q.length capc) := Lib.hid (BoxFw.at rfl)
  obtain rfl := hv.1
  have HV := Lib.hid hv
  clear hv
  cases hf : loadB (p, l, q) v
  · have HE := Lib.hid (ret_bool (show eqlB (p, l, q) v = false by simp only [eqlB, hf, Bool.false_and]))
    go_enter Try.func34, Try.ntmps34
    go_wp2_with fail
    refine (isLoad_at _ _ _ _ _ _ _ _ (H1.out.below B) (H2.out.below B) hs1 hs2 hs _ _ _ _ (HV.out.below B) (by omega)).mono ?_
    rintro e w1 ⟨rfl, b⟩
    replace B := B.step b
    clear b
    rw [hf]
    go_wp2_with fail
    go_ret
    exact ⟨HE.out.symm, B⟩
  obtain ⟨hfw, hvl, hv4⟩ := loadB_facts hf
  obtain ⟨⟨hg1, hg2⟩, hg3, hg4, _, _⟩ := isFw_facts hfw
  have HP := Lib.hid (show plmL (p, l, q) = plR q by unfold plmL; rw [hfw]; rfl)
  have HVL := Lib.hid (show v.length = 2 * q.length by omega)
  have HF := Lib.hid hf
  have HL4 := Lib.hid hv4
  clear hvl hg3 hfw hv4
  go_enter Try.func34, Try.ntmps34
  go_wp2_with fail
  refine (isLoad_at _ _ _ _ _ _ _ _ (H1.out.below B) (H2.out.below B) hs1 hs2 hs _ _ _ _ (HV.out.below B) (by omega)).mono ?_
  rintro e w1 ⟨rfl, b⟩
  replace B := B.step b
  replace BX := Lib.hid (BX.out.below b)
  clear b
  rw [hf]
  obtain ⟨zBX, fBX0, fBX1, fBX2⟩ := BX.out
  clear hf
  go_wp2_with fail
  refine (impl_PlaneMotions _ _ (p, l, q) (HFw.out.below B) hsz).mono ?_
  rintro e u ⟨vm, rfl, ho, b⟩
  rw [HP.out] at ho
  replace B := B.step b
  clear b zBX fBX0 fBX1 fBX2
  obtain ⟨am, cm, rfl, hi⟩ := ho.form
  have HI := Lib.hid hi
  have hl3 : (plR q).length = 3 := rfl
  clear hi ho
  go_wp2_with fail
  go_loop [17] (fun i => ∃ k : Nat, k ≤ 3 ∧ i = .int .i64 k ∧ ((plR q).take k).all (calmR v) = true) (fun i => 3 - (intOf i).toNat)
  case atStart => exact ⟨0, Nat.zero_le _, rfl, by simp⟩
  case round =>
    obtain ⟨k, hk, rfl, hall⟩ := hrel
    have HA := Lib.hid hall
    clear hall
    by_cases hlt : k < 3
    · obtain ⟨bm, om, ar, cr, r, rfl, hbm, hx, hcell, hi2⟩ := HI.out.2 k hlt
      have hrl := plR_row hx
      have HX := Lib.hid hx
      have HR := Lib.hid hrl
      have HI2 := Lib.hid hi2
      clear hx hi2 hrl
      have hki : (k : Int) < (3 : Int) := by omega
      go_wp2_with fail
      go_loop [7, 23] (fun s i => ∃ j : Nat, j ≤ r.length ∧ i = .int .i64 j ∧ s = .int .i64 (dotTo r v j)) (fun _ i => r.length - (intOf i).toNat)
      case atStart => exact ⟨0, Nat.zero_le _, rfl, rfl⟩
      case round =>
        obtain ⟨j, hj, rfl, rfl⟩ := hrel
        by_cases hjl : j < r.length
        · have hjv2 : j < v.length := by have := HR.out; have := HVL.out; omega
          obtain ⟨b1, o1, y, rfl, hb1, hyy, hcy⟩ := (HV.out.below B).2 j hjv2
          obtain ⟨b2, o2, x, rfl, hb2', hxx, hcx⟩ := HI2.out.2 j hjl
          have hjv : (j : Int) < (v.length : Int) := by omega
          have HD := Lib.hid (show dotTo r v (j + 1) = wrap64 (dotTo r v j + wrap64 (x * y)) by simp [dotTo, hxx, hyy])
          generalize hS : dotTo r v j = S at *
          clear hS hxx hyy
          go_wp2_with fail
          go_round
          case rel => exact ⟨j + 1, by omega, by go_num, by rw [HD.out]⟩
          case measure => simp [intOf]; omega
        · obtain rfl : j = r.length := by omega
          have HLE := Lib.hid (show r.length = v.length by have := HR.out; have := HVL.out; omega)
          cases hc : calmR v r
          · have HE := Lib.hid (ret_bool (eqlB_not (f := (p, l, q)) HX.out hc))
            have hd0 : (dotTo r v r.length != 0) = true := by rw [HLE.out]; simpa [calmR] using hc
            generalize dotTo r v r.length = S at *
            go_wp2_with fail
            go_ret
            exact ⟨HE.out.symm, B⟩
          · have hd0 : (dotTo r v r.length != 0) = false := by rw [HLE.out]; simpa [calmR] using hc
            have HK := Lib.hid hc
            generalize dotTo r v r.length = S at *
            clear hc
            go_wp2_with fail
            go_round
            case rel => exact ⟨k + 1, by omega, by go_num, all_take_succ HX.out HA.out HK.out⟩
            case measure => simp [intOf]; omega
    · obtain rfl : k = 3 := by omega
      have HE := Lib.hid (ret_bool (show eqlB (p, l, q) v = true by
        have h1 := HA.out
        have h2 := HF.out
        rw [List.take_of_length_le (by simp [plR])] at h1
        simp only [eqlB, h1, h2, Bool.and_self]))
      go_wp2_with fail
      go_ret
      exact ⟨HE.out.symm, B⟩

theorem spec_IsEquilibriumLoad (W : World) (v0 : Value) (f : FwT) (h : IsFw W v0 f) (v1 : Value) (w : List Int) (hv : IsInts W v1 w) (hn : szFw f ≤ 1048576) (hvn : w.length ≤ 1048576) :
    Calls Try.prog 33 #[v0, v1] W fun e w' => e = .returned (.bool (eqlB f w)) ∧ Below W.heap.size W w' := by
  obtain ⟨p, l, q⟩ := f
  obtain ⟨a, cap, c, capc, rfl, hi, hj⟩ := h
  obtain ⟨va, vc, rfl, hvi⟩ := hv
  exact specEql_at _ _ _ _ _ _ _ _ hi hj hn _ _ _ _ hvi hvn
theorem impl_IsEquilibriumLoad (W : World) (v0 : Value) (f : FwT) (h : IsFw W v0 f) (v1 : Value) (w : List Int) (hv : IsInts W v1 w) (hn : szFw f ≤ 1048576) (hvn : w.length ≤ 1048576) :
    Calls Try.prog 34 #[v0, v1] W fun e w' => e = .returned (.bool (eqlB f w)) ∧ Below W.heap.size W w' := by
  obtain ⟨p, l, q⟩ := f
  obtain ⟨a, cap, c, capc, rfl, hi, hj⟩ := h
  obtain ⟨va, vc, rfl, hvi⟩ := hv
  exact implEql_at _ _ _ _ _ _ _ _ hi hj hn _ _ _ _ hvi hvn
end Go.Proofs.Ytkjoeogoebpkjaa
