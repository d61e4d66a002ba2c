/- The null space that the reference's elimination tells. Condition: a matrix whose minors are small (Fit). -/
import Derived.Test.YtfbmpkdjhhcnpaaMoP24
import Derived.BigRegion
namespace Go.Proofs.Ytfbmpkdjhhcnpaa
open Go.RowKit Gr
set_option maxRecDepth 100000
set_option linter.unusedVariables false
set_option linter.unusedSimpArgs false

def hasB (l : List Int) (x : Int) : Bool := l.contains x
set_option maxHeartbeats 2000000 in
theorem l2Has_any (a : Option Addr) (n cap : Nat) (l : List Int) (x : Int) (W : World) (h : IntsAt W a n l) (hn : n ≤ 1099511627776) :
    Calls Try.prog 51 #[.slice a n cap, .int .i64 x] W fun e w' => e = .returned (.bool (hasB l x)) ∧ W = w' := by
  have HL := Lib.hid h.1
  have HC := Lib.hid h.2
  clear h
  go_enter Try.func51, Try.ntmps51
  go_wp2_with fail
  go_loop [5] (fun i => ∃ k : Nat, k ≤ n ∧ i = .int .i64 k ∧ (l.take k).contains x = false) (fun i => n - (intOf i).toNat)
  case atStart => exact ⟨0, Nat.zero_le _, rfl, by simp⟩
  case round =>
    obtain ⟨k, hk, rfl, hnc⟩ := hrel
    have HN := Lib.hid hnc
    clear hnc
    by_cases hlt : k < n
    · obtain ⟨b, off, y, rfl, hbl, hy, hc⟩ := HC.out k hlt
      have HY := Lib.hid hy
      clear hy
      by_cases e : y = x
      · have e1 : (y == x) = true := by simp [e]
        have HE := Lib.hid e
        clear e
        go_wp2_with fail
        go_ret
        refine ⟨?_, rfl⟩
        have : hasB l x = true := by unfold hasB; simp only [List.contains_iff_mem]; rw [← HE.out]; exact List.mem_of_getElem? HY.out
        rw [this]; rfl
      · have e1 : (y == x) = false := by simp [e]
        have HE := Lib.hid e
        clear e
        go_wp2_with fail
        go_round
        case rel =>
          refine ⟨k + 1, by omega, by go_num, ?_⟩
          have h1 := HN.out
          have h2 := HE.out
          rw [take_succ_of HY.out]
          simp only [List.contains_eq_mem, decide_eq_false_iff_not, List.mem_append, List.mem_singleton, not_or] at h1 ⊢
          exact ⟨h1, fun h => h2 h.symm⟩
        case measure => simp [intOf]; omega
    · obtain rfl : k = n := by omega
      have HF : Hid (hasB l x = false) := Lib.hid (by unfold hasB; have h1 := HN.out; rwa [List.take_of_length_le (by have := HL.out; omega)] at h1)
      go_wp2_with fail
      go_ret
      exact ⟨by rw [HF.out]; rfl, rfl⟩

/-- what is known of the reference's state in the end -/
structure Fin (m n : Nat) (S : Nat → Nat → Int) (P : List Nat) : Prop where
  len : P.length ≤ m
  cols : ∀ j ∈ P, j < n
  nodup : P.Nodup
  num : ∀ i, i < m → ∀ k, k < n → -2121320343 ≤ S i k ∧ S i k ≤ 2121320343
  piv : ∀ i (h : i < P.length), S i P[i] ≠ 0
  q : ∀ i, i < P.length → ∀ free, 0 < qN S P free i ∧ qN S P free i ≤ 2121320343
  d : ∀ i, i ≤ P.length → ∀ free, 0 < dN S P free i ∧ dN S P free i ≤ 2121320343
theorem fin_of {M : List (List Int)} {n : Nat} {B : Int} (hf : Fit M n B) : Fin M.length n (redS M.length n (entF M) n).S (redS M.length n (entF M) n).P := by
  obtain ⟨X, hI⟩ := Inv.all (m := M.length) (n := n) (entF M) (Nat.le_refl n)
  obtain ⟨hP, hS⟩ := red_sim (m := M.length) (n := n) (entF M) (Nat.le_refl n)
  obtain ⟨h1, h2⟩ := SOk_of hf.bnd hf.small (Nat.le_refl n)
  have h3 := redF_P (m := M.length) (entF M) n
  rw [hP]
  refine ⟨hI.len, hI.cols, h3.2, h2, fun i h => (piv_ne hI hS h).1, fun i h free => ?_, fun i h free => ?_⟩
  · obtain ⟨q1, q2, _⟩ := qN_dvd hI hS h free
    refine ⟨q1, ?_⟩
    have := Nat.le_of_dvd (Int.natAbs_pos.2 hI.nz) q2
    have := h1.2.1
    omega
  · have d1 := dN_ok hI hS free h
    have := Nat.le_of_dvd (Int.natAbs_pos.2 hI.nz) d1.2.1
    have := h1.2.1
    exact ⟨d1.1, by omega⟩
theorem nullS (M : List (List Int)) (n : Nat) (c : Nat) (hc : c ≤ n) : nullTo M n c = (freeTo (redS M.length n (entF M) n).P c).map fun k => rowL n (primF n (vS (redS M.length n (entF M) n).S (redS M.length n (entF M) n).P k)) := by
  obtain ⟨X, hI⟩ := Inv.all (m := M.length) (n := n) (entF M) (Nat.le_refl n)
  obtain ⟨hP, hS⟩ := red_sim (m := M.length) (n := n) (entF M) (Nat.le_refl n)
  unfold nullTo
  rw [hP]
  refine List.map_congr_left fun k hk => rowL_congr fun j hj => ?_
  have hkn : k < n := by
    unfold freeTo at hk
    have := List.mem_range.1 (List.mem_filter.1 hk).1
    omega
  exact null_sim hI hS hkn hj
theorem dN_step {S : Nat → Nat → Int} {P : List Nat} {free i : Nat} : dN S P free (i + 1) = dN S P free i / Nat.gcd (dN S P free i) (qN S P free i) * qN S P free i := rfl
theorem natAbs_max {x p : Int} (h : (0 ≤ x ∧ p = x) ∨ (x < 0 ∧ p = -x)) : p = (x.natAbs : Int) := by omega

def vTo (S : Nat → Nat → Int) (P : List Nat) (free i k : Nat) : Int :=
  if k = free then (dN S P free P.length : Int) else if k ∈ P.take i then -(S (P.idxOf k) free * (dN S P free P.length : Int)).tdiv (S (P.idxOf k) k) else 0
theorem vTo_succ {S : Nat → Nat → Int} {P : List Nat} (hP : P.Nodup) {free i : Nat} (hf : free ∉ P) (hi : i < P.length) (k : Nat) :
    vTo S P free (i + 1) k = if k = P[i] then -(S i free * (dN S P free P.length : Int)).tdiv (S i P[i]) else vTo S P free i k := by
  have e : P.take (i + 1) = P.take i ++ [P[i]] := List.take_succ_eq_append_getElem hi
  have hne : P[i] ≠ free := fun h => hf (h ▸ List.getElem_mem hi)
  have hix : P.idxOf P[i] = i := by
    have h1 : P.idxOf P[i] < P.length := List.idxOf_lt_length_of_mem (List.getElem_mem hi)
    exact (List.getElem_inj (h₀ := h1) (h₁ := hi) hP).1 (List.getElem_idxOf h1)
  unfold vTo
  rw [e]
  by_cases h1 : k = P[i]
  · rw [if_pos h1, h1, if_neg hne, if_pos (List.mem_append_right _ (List.mem_singleton.2 rfl)), hix]
  · rw [if_neg h1]
    by_cases h2 : k = free
    · rw [if_pos h2, if_pos h2]
    · rw [if_neg h2, if_neg h2]
      by_cases h3 : k ∈ P.take i
      · rw [if_pos (List.mem_append_left _ h3), if_pos h3]
      · rw [if_neg (fun hm => by rcases List.mem_append.1 hm with hm | hm; exact h3 hm; exact h1 (List.mem_singleton.1 hm)), if_neg h3]
theorem vTo_all {S : Nat → Nat → Int} {P : List Nat} {free k : Nat} : vTo S P free P.length k = vS S P free k := by
  unfold vTo vS; rw [List.take_length]
end Go.Proofs.Ytfbmpkdjhhcnpaa

namespace Go.Proofs.Ytfbmpkdjhhcnpaa
open Go.RowKit Gr
set_option maxRecDepth 100000
set_option linter.unusedVariables false
set_option linter.unusedSimpArgs false

set_option maxHeartbeats 16000000 in
theorem l9Null_fit (M : List (List Int)) (n m : Nat) (B : Int) (hf : Fit M n B) (W : World) (a : Option Addr) (cap : Nat) (h : IntssAt W a m M) :
    Calls Try.prog 33 #[.slice a m cap, .int .i64 n] W (RetIntss W (nullL M n)) := by
  obtain rfl := h.1
  obtain ⟨i0, hinfo, hz0, hz1, hz2⟩ := info_parts infoInt
  have H := Lib.hid h
  have HFIT := Lib.hid hf
  have hn0 := hf.n0
  have hn64 := hf.n64
  have hm64 := hf.m64
  have HFIN := Lib.hid (fin_of hf)
  have HNL := Lib.hid (nullS M n)
  have HNL2 : Hid (nullL M n = nullTo M n n) := Lib.hid rfl
  have hb0 : Below W.heap.size W (W.alloc (.cells #[] 35)) := (Below.refl _ _).alloc (Nat.le_refl _) _
  have h0 : OwnIntss (W.alloc (.cells #[] 35)) W.heap.size (.slice (some ⟨W.heap.size, 0, none⟩) 0 0) [] := ⟨[], World.ownsRow_made W #[] 0 (Nat.le_refl _) (Nat.zero_le _) rfl, IRows.nil _ _⟩
  have H0 := Lib.hid h0
  clear h hf h0
  go_enter Try.func33, Try.ntmps33
  go_wp2_with fail
  refine (l9Reduced_fit M n B HFIT.out _ a cap (H.out.below hb0)).mono ?_
  rintro e w1 ⟨va, vp, rfl, h1, h2, hb1⟩
  have HO1 := Lib.hid (H0.out.below hb1)
  have hbW := hb0.step hb1
  have hz1' : W.heap.size + 1 ≤ w1.heap.size := by have := hb1.size; simp at this; omega
  obtain ⟨aa, ca, rfl, hia⟩ := h1.form
  obtain ⟨ap, cp, rfl, hip⟩ := h2.form
  rw [toLL_length] at hia
  have hPl : ((redS M.length n (entF M) n).P.map Int.ofNat).length = (redS M.length n (entF M) n).P.length := by simp
  rw [hPl] at hip
  have HIA := Lib.hid hia
  have HIP := Lib.hid hip
  clear h1 h2 hia hip hb0 hb1
  simp only [toLL_length]
  rw [hPl]
  clear hPl
  generalize redS M.length n (entF M) n = s at *
  generalize M.length = m at *
  have hpl := HFIN.out.len
  go_wp2_with fail
  go_loopw [5, 8] (fun ov cv w3 => ∃ q : Nat, q ≤ n ∧ cv = .int .i64 q ∧ ((ov = .slice (some ⟨W.heap.size, 0, none⟩) 0 0 ∧ nullTo M n q = []) ∨ OwnIntss w3 w1.heap.size ov (nullTo M n q)) ∧ Below w1.heap.size w1 w3) (fun _ cv _ => n - (intOf cv).toNat)
  case atStart => exact ⟨0, Nat.zero_le _, rfl, .inl ⟨rfl, by rw [HNL.out 0 (Nat.zero_le _)]; rfl⟩, Below.refl _ _⟩
  case round =>
    obtain ⟨q, hq, rfl, ho, hb3⟩ := hrel
    have HO := Lib.hid ho
    clear ho
    have hb3z := hb3.size
    by_cases hqn : q < n
    · have HIP3 := Lib.hid (HIP.out.below hb3)
      by_cases hqP : q ∈ s.P
      · have hhas : hasB (s.P.map Int.ofNat) (q : Int) = true := by
          unfold hasB; simp only [List.contains_iff_mem]; exact List.mem_map.2 ⟨q, hqP, rfl⟩
        have HX : Hid (nullTo M n (q + 1) = nullTo M n q) := Lib.hid (by rw [HNL.out _ (by omega), HNL.out _ (by omega), freeTo_succ, if_pos hqP])
        clear hqP
        go_wp2_with fail
        refine (l2Has_any _ _ _ _ _ _ HIP3.out (by omega)).mono ?_
        rintro e w' ⟨rfl, rfl⟩
        rw [hhas]
        go_wp2_with fail
        go_roundw
        case rel => exact ⟨q + 1, by omega, by go_num, by rw [HX.out]; exact HO.out, hb3⟩
        case measure => simp [intOf]; omega
      · have hhas : hasB (s.P.map Int.ofNat) (q : Int) = false := by
          unfold hasB; simp only [List.contains_eq_mem, decide_eq_false_iff_not]
          intro hm
          obtain ⟨j, hj, he⟩ := List.mem_map.1 hm
          exact hqP ((Int.ofNat.inj he) ▸ hj)
        have HX : Hid (nullTo M n (q + 1) = nullTo M n q ++ [rowL n (primF n (vS s.S s.P q))]) := Lib.hid (by rw [HNL.out _ (by omega), HNL.out _ (by omega), freeTo_succ, if_neg hqP, List.map_append]; rfl)
        have HQP := Lib.hid hqP
        clear hqP
        have hq0 : (0 : Int) ≤ (q : Int) := by omega
        have hq1 : (q : Int) < (n : Int) := by omega
        go_wp2_with fail
        refine (l2Has_any _ _ _ _ _ _ HIP3.out (by omega)).mono ?_
        rintro e w' ⟨rfl, rfl⟩
        rw [hhas]
        clear hhas
        go_wp2_with fail
        go_loopw [9, 10] (fun dv iv w4 => ∃ i : Nat, i ≤ s.P.length ∧ iv = .int .i64 i ∧ dv = .int .i64 ((dN s.S s.P q i : Nat) : Int) ∧ ∃ z, w4 = wr.drewN z) (fun _ iv _ => s.P.length - (intOf iv).toNat)
        case atStart => exact ⟨0, Nat.zero_le _, rfl, rfl, 0, rfl⟩
        case round =>
          obtain ⟨i, hi, rfl, rfl, z, rfl⟩ := hrel
          have hdd := HFIN.out.d i hi q
          obtain ⟨hd1, hd2⟩ := hdd
          by_cases hil : i < s.P.length
          · obtain ⟨bp, op, xp, rfl, hbp, hxp, hcp⟩ := HIP.out.2 i hil
            have hx2 : xp = (s.P[i] : Int) := by simpa [hil] using hxp.symm
            subst hx2
            have hpn : s.P[i] < n := HFIN.out.cols _ (List.getElem_mem hil)
            have hpv := HFIN.out.piv i hil
            have hqq := HFIN.out.q i hil q
            have hds := HFIN.out.d (i + 1) (by omega) q
            have hqdef : qN s.S s.P q i = (s.S i s.P[i]).natAbs / Nat.gcd (s.S i s.P[i]).natAbs (s.S i q).natAbs := by unfold qN; simp [hil]
            have hddef : dN s.S s.P q (i + 1) = dN s.S s.P q i / Nat.gcd (dN s.S s.P q i) (qN s.S s.P q i) * qN s.S s.P q i := rfl
            obtain ⟨ba, oa, ar, cr, r, rfl, hba, hxa, hca, hia⟩ := HIA.out.2 i (by omega)
            have hr : r = rowL n (s.S i) := by rw [toLL_get (by omega)] at hxa; exact (Option.some.inj hxa).symm
            subst hr
            obtain ⟨b6, o6, x6, rfl, hb6, hx6, hc6⟩ := hia.2 s.P[i] (by rw [rowL_length]; exact hpn)
            obtain ⟨b7, o7, x7, hab, hb7, hx7, hc7⟩ := hia.2 q (by rw [rowL_length]; exact hqn)
            simp only [Option.some.injEq, Addr.mk.injEq, and_true] at hab
            obtain ⟨rfl, rfl⟩ := hab
            have hx6' : x6 = s.S i s.P[i] := by rw [rowL_get hpn] at hx6; exact (Option.some.inj hx6).symm
            have hx7' : x7 = s.S i q := by rw [rowL_get hqn] at hx7; exact (Option.some.inj hx7).symm
            rw [← hx6'] at hpv hqdef
            rw [← hx7'] at hqdef
            have hb6b := HFIN.out.num i (by omega) s.P[i] hpn
            have hb7b := HFIN.out.num i (by omega) q hqn
            rw [← hx6'] at hb6b
            rw [← hx7'] at hb7b
            rw [rowL_length] at hca
            have g0 := (hb3.cell (p := ⟨bp, op + i, none⟩) hbp).trans hcp
            have g1 := (hb3.cell (p := ⟨ba, oa + i, none⟩) hba).trans hca
            have g2 := (hb3.cell (p := ⟨b6, o6 + s.P[i], none⟩) hb6).trans hc6
            have g3 := (hb3.cell (p := ⟨b6, o6 + q, none⟩) hb6).trans hc7
            have HD1 := Lib.hid hddef
            clear hxp hcp hxa hca hia hx6 hc6 hx7 hc7 hx6' hx7' hddef
            generalize s.P[i] = p at *
            generalize hQ : qN s.S s.P q i = Q at *
            generalize hD' : dN s.S s.P q (i + 1) = D' at *
            generalize hD : dN s.S s.P q i = D at *
            have HD' := Lib.hid hD'
            clear hQ hD' hD
            generalize hU : x6.natAbs = U at *
            have hG0 : Nat.gcd U x7.natAbs ≠ 0 := by
              intro e; have := (Nat.gcd_eq_zero_iff.1 e).1; omega
            have hG2 : Nat.gcd D Q ≠ 0 := by intro e; have := (Nat.gcd_eq_zero_iff.1 e).1; omega
            have hgle : Nat.gcd D Q ≤ D := Nat.gcd_le_left _ (by omega)
            have hple : Nat.gcd U x7.natAbs ≤ U := Nat.gcd_le_left _ (by omega)
            have z1 : gcdZ (U : Int) x7 = (Nat.gcd U x7.natAbs : Int) := by rw [gcdZ_of (by omega) (by omega)]; rfl
            have z2 : gcdZ (D : Int) (Q : Int) = (Nat.gcd D Q : Int) := by rw [gcdZ_of (by omega) (by omega)]; rfl
            have t1 : (U : Int).tdiv (Nat.gcd U x7.natAbs : Int) = (Q : Int) := by rw [hqdef]; rfl
            have t2 : (D : Int).tdiv (Nat.gcd D Q : Int) * (Q : Int) = (D' : Int) := by rw [HD1.out]; rfl
            have t3 : (D : Int).tdiv (Nat.gcd D Q : Int) = ((D / Nat.gcd D Q : Nat) : Int) := rfl
            have hdle : D / Nat.gcd D Q ≤ D := Nat.div_le_self _ _
            generalize hE : D / Nat.gcd D Q = E at *
            clear hE
            have HPOS : Hid ((0 ≤ x6 ∧ (U : Int) = x6) ∨ (x6 < 0 ∧ (U : Int) = -x6)) := Lib.hid (by omega)
            have HU := Lib.hid hU
            have c7 : (U : Int) ≤ 2121320343 := by omega
            clear hU hqdef
            have c1 : (D : Int) ≤ 2121320343 := by omega
            have c2 : (0 : Int) < (D : Int) := by omega
            have c3 : (Q : Int) ≤ 2121320343 := by omega
            have c4 : (0 : Int) < (Q : Int) := by omega
            have c5 : (D' : Int) ≤ 2121320343 := by omega
            have c6 : (0 : Int) < (D' : Int) := by omega
            have c8 : (E : Int) ≤ 2121320343 := by omega
            have c9 : (0 : Int) ≤ (E : Int) := by omega
            have G1 : ((Nat.gcd U x7.natAbs : Nat) : Int) ≠ 0 := by omega
            have G2 : ((Nat.gcd D Q : Nat) : Int) ≠ 0 := by omega
            have w1e : IntKind.i64.wrap ((U : Int).tdiv ((Nat.gcd U x7.natAbs : Nat) : Int)) = (Q : Int) := by rw [t1]; exact IntWalk.i64_in _ (by omega)
            have w2e : IntKind.i64.wrap ((D : Int).tdiv ((Nat.gcd D Q : Nat) : Int)) = (E : Int) := by rw [t3]; exact IntWalk.i64_in _ (by omega)
            have w3e : IntKind.i64.wrap ((E : Int) * (Q : Int)) = (D' : Int) := by rw [← t3, t2]; exact IntWalk.i64_in _ (by omega)
            have hpos := HPOS.out
            have q1 := IntWalk.i64_in (-x6) (by omega)
            clear hG0 hG2 hgle hple t1 t2 t3 hdle hd1 hd2 hds hqq HPOS HU
            generalize (E : Int) = e1 at *
            generalize ((Nat.gcd U x7.natAbs : Nat) : Int) = g1 at *
            generalize ((Nat.gcd D Q : Nat) : Int) = g2 at *
            have HDI : Hid ((D' : Int) = ((dN s.S s.P q (i + 1) : Nat) : Int)) := Lib.hid (by rw [HD'.out])
            clear HD'
            generalize (D' : Int) = dI' at *
            generalize (D : Int) = dI at *
            generalize (Q : Int) = qI at *
            generalize (U : Int) = uI at *
            have hi0' : (0 : Int) ≤ (i : Int) := by omega
            have hi1' : (i : Int) < (m : Int) := by omega
            have hi2' : (i : Int) < (s.P.length : Int) := by omega
            have hp0' : (0 : Int) ≤ (p : Int) := by omega
            have hp1' : (p : Int) < (n : Int) := by omega
            rcases hpos with ⟨hx, hu⟩ | ⟨hx, hu⟩
            · subst hu
              go_wp2_with fail
              go_quiet (fail)
              go_wp2_with fail
              refine (specGcd_any _ _ _).mono ?_
              rintro e w' ⟨rfl, rfl⟩
              rw [z1]
              go_wp2_with fail
              refine (specGcd_any _ _ _).mono ?_
              rintro e w' ⟨rfl, rfl⟩
              rw [z2]
              go_wp2_with fail
              go_roundw
              case rel => exact ⟨i + 1, by omega, by go_num, by rw [HDI.out], _, rfl⟩
              case measure => simp [intOf]; omega
            · have hlt6 : x6 < uI := by omega
              have q1' : IntKind.i64.wrap (-x6) = uI := by rw [q1]; exact hu.symm
              have hx0 : x6 ≤ uI := by omega
              have hx1 : ¬ uI < x6 := by omega
              clear q1 hu
              go_wp2_with fail
              go_quiet (fail)
              go_wp2_with fail
              refine (specGcd_any _ _ _).mono ?_
              rintro e w' ⟨rfl, rfl⟩
              rw [z1]
              go_wp2_with fail
              refine (specGcd_any _ _ _).mono ?_
              rintro e w' ⟨rfl, rfl⟩
              rw [z2]
              go_wp2_with fail
              go_roundw
              case rel => exact ⟨i + 1, by omega, by go_num, by rw [HDI.out], _, rfl⟩
              case measure => simp [intOf]; omega
          · obtain rfl : i = s.P.length := by omega
            have hbB0 : Below wr.heap.size wr (wr.drewN z) := below_drewN (Below.refl _ _) z
            have hszB : (wr.drewN z).heap.size = wr.heap.size := rfl
            obtain ⟨wB, hwB⟩ : ∃ wB, wB = wr.drewN z := ⟨_, rfl⟩
            rw [← hwB] at hbB0 hszB ⊢
            clear hwB
            have hbB1 : Below w1.heap.size w1 wB := hb3.trans (hbB0.mono hb3z)
            have hsB1 : wr.heap.size ≤ wB.heap.size := hbB0.size
            clear hszB
            generalize hD : dN s.S s.P q s.P.length = D at *
            have HDD := Lib.hid hD
            clear hD
            have hvq : ∀ j, vTo s.S s.P q 0 j = if j = q then (D : Int) else 0 := fun j => by
              unfold vTo; rw [HDD.out, List.take_zero]
              by_cases e : j = q
              · rw [if_pos e, if_pos e]
              · rw [if_neg e, if_neg e, if_neg (by simp)]
            have HVQ := Lib.hid hvq
            clear hvq
            have hDI1 : (0 : Int) < (D : Int) := by omega
            have hDI2 : (D : Int) ≤ 2121320343 := by omega
            go_wp2_with (at_make; refine wpList_make_full _ rfl _ _ _ rfl wB.heap.size 3 i0 (.int .i64 0) 1 Try.underlying35 hinfo hz0 hz1 .i64 .i64 _ _ n rfl rfl rfl rfl (by rw [hz2]; omega) (by unfold maxLen; omega) (Nat.le_refl _) ?_; intro w4 hown hgrow; have hb4 : Below wB.heap.size wB w4 := Below.of_grown_none hgrow; have ho4 := ownInts_made hown; have hs4 : wB.heap.size < w4.heap.size := (ho4.lt _ rfl).2; have e4 := ho4.rowCell hqn; have f4 := ho4.rowFroz q; have HO4 := Lib.hid ho4; clear hown hgrow ho4)
            clear e4 f4
            have hb5 : Below wB.heap.size wB (w4.setCell ⟨wB.heap.size, q, none⟩ (.int .i64 (D : Int))) := hb4.setCell (Nat.le_refl _) _
            have ho5 := Lib.hid (HO4.out.setRow q (D : Int))
            have HST : Hid (OwnInts (w4.setCell ⟨wB.heap.size, q, none⟩ (.int .i64 (D : Int))) wB.heap.size (.slice (some ⟨wB.heap.size, 0, none⟩) n n) (rowL n (vTo s.S s.P q 0))) := Lib.hid (rowL_congr' (fun j hj => (HVQ.out j).symm) ho5.out)
            clear ho5 HO4
            go_loopw [14] (fun iv w5 => ∃ i : Nat, i ≤ s.P.length ∧ iv = .int .i64 i ∧ OwnInts w5 wB.heap.size (.slice (some ⟨wB.heap.size, 0, none⟩) n n) (rowL n (vTo s.S s.P q i)) ∧ Below wB.heap.size wB w5) (fun iv _ => s.P.length - (intOf iv).toNat)
            case atStart => exact ⟨0, Nat.zero_le _, rfl, HST.out, hb5⟩
            case round =>
              clear hb5
              obtain ⟨i, hi, rfl, hov, hbv⟩ := hrel
              have HOV := Lib.hid hov
              clear hov
              have hbvz := hbv.size
              have hbw1 : Below w1.heap.size w1 wr := hbB1.trans (hbv.mono (by omega))
              by_cases hil : i < s.P.length
              · have HVS := Lib.hid (fun k => vTo_succ (S := s.S) HFIN.out.nodup HQP.out hil k)
                obtain ⟨bp, op, xp, rfl, hbp, hxp, hcp⟩ := HIP.out.2 i hil
                have hx2 : xp = (s.P[i] : Int) := by simpa [hil] using hxp.symm
                subst hx2
                have hpn : s.P[i] < n := HFIN.out.cols _ (List.getElem_mem hil)
                have hpv := HFIN.out.piv i hil
                obtain ⟨ba, oa, ar, cr, r, rfl, hba, hxa, hca, hia⟩ := HIA.out.2 i (by omega)
                have hr : r = rowL n (s.S i) := by rw [toLL_get (by omega)] at hxa; exact (Option.some.inj hxa).symm
                subst hr
                obtain ⟨b6, o6, x6, rfl, hb6, hx6, hc6⟩ := hia.2 s.P[i] (by rw [rowL_length]; exact hpn)
                obtain ⟨b7, o7, x7, hab, hb7, hx7, hc7⟩ := hia.2 q (by rw [rowL_length]; exact hqn)
                simp only [Option.some.injEq, Addr.mk.injEq, and_true] at hab
                obtain ⟨rfl, rfl⟩ := hab
                have hx6' : x6 = s.S i s.P[i] := by rw [rowL_get hpn] at hx6; exact (Option.some.inj hx6).symm
                have hx7' : x7 = s.S i q := by rw [rowL_get hqn] at hx7; exact (Option.some.inj hx7).symm
                have hb6b := HFIN.out.num i (by omega) s.P[i] hpn
                have hb7b := HFIN.out.num i (by omega) q hqn
                rw [HDD.out] at HVS
                rw [← hx6'] at hpv hb6b HVS
                rw [← hx7'] at hb7b HVS
                rw [rowL_length] at hca
                have g0 := (hbw1.cell (p := ⟨bp, op + i, none⟩) hbp).trans hcp
                have g1 := (hbw1.cell (p := ⟨ba, oa + i, none⟩) hba).trans hca
                have g2 := (hbw1.cell (p := ⟨b6, o6 + s.P[i], none⟩) hb6).trans hc6
                have g3 := (hbw1.cell (p := ⟨b6, o6 + q, none⟩) hb6).trans hc7
                have e1 := HOV.out.rowCell hpn
                have e2 := HOV.out.rowFroz s.P[i]
                clear hxp hcp hxa hca hia hx6 hc6 hx7 hc7 hx6' hx7'
                generalize s.P[i] = p at *
                have p1 := prod_bd hb7b (show -2121320343 ≤ (D : Int) ∧ (D : Int) ≤ 2121320343 by omega)
                have q1 := IntWalk.i64_in (x7 * (D : Int)) (by omega)
                have q2 : IntKind.i64.wrap ((x7 * (D : Int)).tdiv x6) = (x7 * (D : Int)).tdiv x6 ∧ -4499999997638437649 ≤ (x7 * (D : Int)).tdiv x6 ∧ (x7 * (D : Int)).tdiv x6 ≤ 4499999997638437649 := by
                  have h1 : ((x7 * (D : Int)).tdiv x6).natAbs ≤ (x7 * (D : Int)).natAbs := by rw [Int.natAbs_tdiv]; exact Nat.div_le_self _ _
                  generalize (x7 * (D : Int)).tdiv x6 = y at *
                  exact ⟨IntWalk.i64_in _ (by omega), by omega, by omega⟩
                obtain ⟨q2, q3, q4⟩ := q2
                have hp0' : (0 : Int) ≤ (p : Int) := by omega
                have hp1' : (p : Int) < (n : Int) := by omega
                have hi0' : (0 : Int) ≤ (i : Int) := by omega
                have hi1' : (i : Int) < (m : Int) := by omega
                have hi2' : (i : Int) < (s.P.length : Int) := by omega
                have HTD : Hid ((x7 * (D : Int)).tdiv x6 = (x7 * (D : Int)).tdiv x6) := Lib.hid rfl
                have q5 := IntWalk.i64_in (-(x7 * (D : Int)).tdiv x6) (by generalize (x7 * (D : Int)).tdiv x6 = y at *; omega)
                clear p1
                go_wp2_with fail
                go_region
                go_wp2_with fail
                go_roundw
                case rel => exact ⟨i + 1, by omega, by go_num, rowL_congr' (fun j hj => (HVS.out j).symm) (HOV.out.setRow p (-(x7 * (D : Int)).tdiv x6)), (hbv.setCell (Nat.le_refl _) _).drew⟩
                case measure => simp [intOf]; omega
              · obtain rfl : i = s.P.length := by omega
                have HVI : Hid (OwnInts wr wB.heap.size (.slice (some ⟨wB.heap.size, 0, none⟩) n n) (rowL n (vS s.S s.P q))) := Lib.hid (rowL_congr' (fun j hj => vTo_all) HOV.out)
                clear HOV
                obtain ⟨av, cv, hve, hvi⟩ := HVI.out.form
                rw [rowL_length] at hve hvi
                simp only [Value.slice.injEq, true_and] at hve
                obtain ⟨rfl, rfl⟩ := hve
                have HVA := Lib.hid hvi
                clear hvi
                go_wp2_with fail
                refine (specPrim_any _ _ _ _ _ HVA.out (by omega)).mono ?_
                rintro e w7 ⟨u, rfl, hu, b7⟩
                rw [prim_rowL (fun j hj => by
                  have h1 : -4499999997638437649 ≤ vS s.S s.P q j ∧ vS s.S s.P q j ≤ 4499999997638437649 := by
                    unfold vS
                    split
                    · rw [HDD.out]; omega
                    · split
                      · rename_i h2
                        rw [HDD.out]
                        have hl := List.idxOf_lt_length_of_mem h2
                        have h3 := HFIN.out.num (s.P.idxOf j) (by omega) q hqn
                        have p1 := prod_bd h3 (show -2121320343 ≤ (D : Int) ∧ (D : Int) ≤ 2121320343 by omega)
                        have h4 : ((s.S (s.P.idxOf j) q * (D : Int)).tdiv (s.S (s.P.idxOf j) j)).natAbs ≤ (s.S (s.P.idxOf j) q * (D : Int)).natAbs := by rw [Int.natAbs_tdiv]; exact Nat.div_le_self _ _
                        generalize (s.S (s.P.idxOf j) q * (D : Int)).tdiv (s.S (s.P.idxOf j) j) = y at *
                        omega
                      · omega
                  omega)] at hu
                obtain ⟨au, cu, rfl, hui⟩ := hu.form
                clear hui
                have HU := Lib.hid hu
                have HB7 := Lib.hid ((hbB0.trans (hbv.mono hsB1)).trans (b7.mono (by omega)))
                have hz7 := b7.size
                clear hu b7
                have hTL : (nullTo M n q).length < 1099511627776 := by rw [HNL.out _ (by omega), List.length_map]; have := freeTo_len s.P q; omega
                rw [rowL_length] at HU ⊢
                rcases HO.out with ⟨rfl, hnil⟩ | ho
                · have HNIL := Lib.hid hnil
                  clear hnil
                  go_wp2_with (at_builtin; refine appRowNew rfl (.tmp 114) (.tmp 117) rfl W.heap.size rfl (ownsRow_base HU.out (show w1.heap.size ≤ _ by omega)) rfl (by omega) ?_; intro v' w8 h8 k8)
                  go_roundw
                  case rel => exact ⟨q + 1, by omega, by go_num, .inr (by rw [HX.out, HNIL.out]; exact h8), hb3.trans ((HB7.out.mono hb3z).trans (k8.mono (by omega)))⟩
                  case measure => simp [intOf]; omega
                · obtain ⟨vs, hvs, hrs⟩ := ho
                  have HV := Lib.hid hvs
                  have HVR := Lib.hid hrs
                  clear hvs hrs
                  go_wp2_with (at_builtin; refine appRow rfl (.tmp 114) (.tmp 117) rfl rfl (ownsRow_base HU.out (show w1.heap.size ≤ _ by omega)) HB7.out HV.out HVR.out (fun z hz => by have := (HU.out.lt z hz).1; omega) rfl hTL (by omega) ?_; intro v' w8 h8 k8)
                  go_roundw
                  case rel =>
                    refine ⟨q + 1, by omega, by go_num, .inr (by rw [HX.out]; exact h8), hb3.trans ?_⟩
                    have hvs := HV.out
                    exact (HB7.out.mono hb3z).trans (k8.below (by omega) fun z h1 h2 => by
                      have := (World.ownsRow.lt hvs z h2.symm).1
                      omega)
                  case measure => simp [intOf]; omega
    · obtain rfl : q = n := by omega
      go_wp2_with fail
      go_ret
      refine ⟨_, rfl, ?_, hbW.trans (hb3.mono (by omega))⟩
      rw [HNL2.out]
      rcases HO.out with ⟨e, hnil⟩ | ho
      · rw [hnil, show (_ : Value) = _ from e]; exact HO1.out.below (hb3.mono (Nat.le_refl _))
      · exact ownsRow_base' ho (by omega)
end Go.Proofs.Ytfbmpkdjhhcnpaa

