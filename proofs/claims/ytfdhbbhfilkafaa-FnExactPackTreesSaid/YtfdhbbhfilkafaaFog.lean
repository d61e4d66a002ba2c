/- l8Roots and l8Pieces of the reference. Conditions: a valid graph, a set of its bars. -/
import Derived.Test.YtfdhbbhfilkafaaFof
import Derived.Test.YtfdhbbhfilkafaaIsf
import Derived.BigRegion
namespace Go.Proofs.Ytfdhbbhfilkafaa
open Go.RowKit
set_option maxRecDepth 100000
set_option linter.unusedVariables false
set_option linter.unusedSimpArgs false

/-- the bars of a set, as pairs of points -/
def setE (l : List BarT) (s : List Int) : List (Nat × Nat) := s.map fun e => eN (l[e.toNat]?.getD (0, 0))
theorem setB_facts {p : Int} {l : List BarT} {s : List Int} (h : setB (p, l) s = true) : isGraphB (p, l) = true ∧ ∀ (k : Nat) (x : Int), s[k]? = some x → 0 ≤ x ∧ x < l.length := by
  simp only [setB, Bool.and_eq_true] at h
  refine ⟨h.2, fun k x hx => ?_⟩
  have := List.all_eq_true.1 h.1 k (List.mem_range.2 (lt_of_getElem? hx))
  simp only [setAt, hx, Option.getD_some, Bool.and_eq_true, inB, decide_eq_true_eq] at this
  omega
theorem mstep_row (r : Nat → Nat) (x y : Nat) : (fun q => if q = y then ((min (r x) (r y) : Nat) : Int) else if q = x then ((min (r x) (r y) : Nat) : Int) else natF r q) = natF (Fo.mstep r (x, y)) := funext fun q => by
  unfold natF Fo.mstep
  dsimp only
  split
  · rfl
  · split <;> rfl
theorem mround_take {es : List (Nat × Nat)} {j : Nat} {e : Nat × Nat} (r : Nat → Nat) (h : es[j]? = some e) : Fo.mround (es.take (j + 1)) r = Fo.mstep (Fo.mround (es.take j) r) e := by
  rw [take_succ_of h]
  unfold Fo.mround
  rw [List.foldl_append]
  rfl

set_option maxHeartbeats 1000000 in
theorem l8Pieces_at (W : World) (n : Nat) (a : Option Addr) (cap : Nat) (r : Nat → Nat) (h : IntsAt W a n (rowL n (natF r))) (hn : n ≤ 1048576) :
    Calls Try.prog 119 #[.slice a n cap] W fun e w' => e = .returned (.int .i64 (Fo.fixN n r)) ∧ W = w' := by
  have HC := Lib.hid h.2
  clear h
  go_enter Try.func119, Try.ntmps119
  go_wp2_with fail
  go_loop [3, 4] (fun c i => ∃ k : Nat, k ≤ n ∧ i = .int .i64 k ∧ c = .int .i64 (Fo.fixN k r)) (fun _ i => n - (intOf i).toNat)
  case atStart => exact ⟨0, Nat.zero_le _, rfl, rfl⟩
  case round =>
    obtain ⟨k, hk, rfl, rfl⟩ := hrel
    have hle := Fo.cnt_le k fun i => r i == i
    by_cases hlt : k < n
    · obtain ⟨b, off, x, rfl, hbl, hx, hcell⟩ := HC.out k hlt
      rw [rowL_get hlt] at hx
      obtain rfl : natF r k = x := Option.some.inj hx
      unfold natF at hcell
      clear hx
      have HS := Lib.hid (show Fo.fixN (k + 1) r = Fo.fixN k r + (if (r k == k) = true then 1 else 0) from Fo.cnt_succ k _)
      have hle2 : Fo.fixN k r ≤ k := hle
      generalize Fo.fixN k r = F at *
      clear hle
      by_cases hrk : r k = k
      · have hb : ((r k : Int) == (k : Int)) = true := by rw [hrk]; simp
        have HS2 := Lib.hid (show Fo.fixN (k + 1) r = F + 1 by rw [HS.out, if_pos (by simpa using hrk)])
        clear hrk HS
        go_wp2_with fail
        go_round
        case rel => exact ⟨k + 1, by omega, by go_num, by rw [HS2.out]; go_num⟩
        case measure => simp [intOf]; omega
      · have hb : ((r k : Int) == (k : Int)) = false := by rw [beq_eq_false_iff_ne]; omega
        have HS2 := Lib.hid (show Fo.fixN (k + 1) r = F by rw [HS.out, if_neg (by simpa using hrk)]; rfl)
        clear hrk HS
        go_wp2_with fail
        go_round
        case rel => exact ⟨k + 1, by omega, by go_num, by rw [HS2.out]⟩
        case measure => simp [intOf]; omega
    · obtain rfl : k = n := by omega
      go_wp2_with fail
      go_ret
      exact ⟨rfl, rfl⟩

set_option maxHeartbeats 4000000 in
theorem l8Roots_at (W : World) (P : Nat) (a : Option Addr) (cap : Nat) (l : List BarT) (h : BarsAt W a l.length l) (hs : l.length ≤ 1048576) (va : Option Addr) (n vcap : Nat) (s : List Int) (hv : IntsAt W va n s) (hvn : n ≤ 1048576) (hB : setB ((P : Int), l) s = true) :
    Calls Try.prog 120 #[.agg #[.int .i64 (P : Int), .slice a l.length cap], .slice va n vcap] W (RetInts W (rowL P (natF (Fo.mrounds (setE l s) P)))) := by
  have hwd := @Wd.cells
  have H1 := Lib.hid h
  clear h
  obtain rfl := hv.1
  have HV := Lib.hid hv
  clear hv
  obtain ⟨hgr, hset⟩ := setB_facts hB
  have HS := Lib.hid hset
  have HG := Lib.hid hgr
  obtain ⟨⟨hg1, hg2⟩, _⟩ := isGraphB_bd hgr
  clear hset hgr hB
  have hb0 : Below W.heap.size W ((W.alloc (.cells #[.int .i64 (P : Int), .slice a l.length cap] 26)).alloc (.cells #[] 3)) := ((Below.refl _ _).alloc (Nat.le_refl _) _).alloc (by simp) _
  have BG : Hid (BoxGr ((W.alloc (.cells #[.int .i64 (P : Int), .slice a l.length cap] 26)).alloc (.cells #[] 3)) W.heap.size P a l.length cap) := Lib.hid ((BoxGr.at rfl).below ((Below.refl _ _).alloc (Nat.le_refl _) _))
  have HO0 : Hid (OwnInts ((W.alloc (.cells #[.int .i64 (P : Int), .slice a l.length cap] 26)).alloc (.cells #[] 3)) (W.heap.size + 1) (.slice (some ⟨W.heap.size + 1, 0, none⟩) 0 0) []) := Lib.hid (by have h9 := OwnInts.made (W.alloc (.cells #[.int .i64 (P : Int), .slice a l.length cap] 26)) (W.heap.size + 1) (by simp); simpa using h9)
  have hzu : W.heap.size + 2 ≤ ((W.alloc (.cells #[.int .i64 (P : Int), .slice a l.length cap] 26)).alloc (.cells #[] 3)).heap.size := by simp
  go_enter Try.func120, Try.ntmps120
  go_wp2_with fail
  generalize (W.alloc (.cells #[.int .i64 (P : Int), .slice a l.length cap] 26)).alloc (.cells #[] 3) = u at *
  go_loopw [5, 6] (fun s i w9 => ∃ k : Nat, k ≤ P ∧ i = .int .i64 k ∧ OwnInts w9 (W.heap.size + 1) s (rowL k (natF id)) ∧ Below (W.heap.size + 1) u w9) (fun _ i _ => P - (intOf i).toNat)
  case atStart => exact ⟨0, Nat.zero_le _, rfl, HO0.out, Below.refl _ _⟩
  case round =>
    clear HO0
    obtain ⟨k, hk, rfl, ho, hb⟩ := hrel
    have HO := Lib.hid ho
    clear ho
    have hbz := hb.size
    have f0 := (hb.cell (p := ⟨W.heap.size, 0, none⟩) (by simp)).trans BG.out.c0
    have f1 := (hb.cell (p := ⟨W.heap.size, 1, none⟩) (by simp)).trans BG.out.c1
    by_cases hlt : k < P
    · have hlk : (rowL k (natF id)).length < 17592186044416 := by rw [rowL_length]; omega
      go_wp2_with (at_builtin; refine app1 rfl (.tmp 18) (.tmp 20) rfl rfl HO.out (k : Int) rfl hlk (by omega) ?_; intro v5 w5 h5 k5)
      go_roundw
      case rel => exact ⟨k + 1, by omega, by go_num, by rw [rowL_snoc]; exact h5, hb.trans (k5.setOwn HO.out (Nat.le_refl _) (by omega))⟩
      case measure => simp [intOf]; omega
    · obtain rfl : k = P := by omega
      obtain ⟨g, cg, rfl, ho2, hgb, hgz0⟩ := ownBlk HO.out (by omega)
      have HO2 := Lib.hid ho2
      clear ho2 HO
      have hnl : decide ((k : Int) < (k : Int)) = false := by simp
      go_wp2_with fail
      clear f0 f1
      go_loopw [7] (fun i w9 => ∃ t : Nat, t ≤ k ∧ i = .int .i64 t ∧ OwnInts w9 (W.heap.size + 1) (.slice (some ⟨g, 0, none⟩) k cg) (rowL k (natF (Fo.mrounds (setE l s) t))) ∧ Below (W.heap.size + 1) u w9) (fun i _ => k - (intOf i).toNat)
      case atStart => exact ⟨0, Nat.zero_le _, rfl, HO2.out, hb⟩
      case round =>
        clear HO2 hb hbz hgz0
        obtain ⟨t, ht, rfl, ho, hb⟩ := hrel
        have HO := Lib.hid ho
        clear ho
        have hbz := hb.size
        have f0 := (hb.cell (p := ⟨W.heap.size, 0, none⟩) (by simp)).trans BG.out.c0
        have f1 := (hb.cell (p := ⟨W.heap.size, 1, none⟩) (by simp)).trans BG.out.c1
        by_cases htk : t < k
        · go_wp2_with fail
          clear f0 f1
          go_loopw [8] (fun i w9 => ∃ j : Nat, j ≤ s.length ∧ i = .int .i64 j ∧ OwnInts w9 (W.heap.size + 1) (.slice (some ⟨g, 0, none⟩) k cg) (rowL k (natF (Fo.mround ((setE l s).take j) (Fo.mrounds (setE l s) t)))) ∧ Below (W.heap.size + 1) u w9) (fun i _ => s.length - (intOf i).toNat)
          case atStart => exact ⟨0, Nat.zero_le _, rfl, HO.out, hb⟩
          case round =>
            clear HO hb hbz
            obtain ⟨j, hj, rfl, ho, hb⟩ := hrel
            have HO := Lib.hid ho
            clear ho
            have hbz := hb.size
            by_cases hjs : j < s.length
            · have B1 : Below W.heap.size W wr := hb0.trans (hb.mono (by omega))
              obtain ⟨bs, os, e, rfl, hbs, hes, hce⟩ := (HV.out.below B1).2 j hjs
              obtain ⟨he1, he2⟩ := HS.out j e hes
              obtain ⟨E, rfl⟩ := Int.eq_ofNat_of_zero_le he1
              have hEl : E < l.length := by omega
              obtain ⟨bb, off, ⟨x1, x2⟩, rfl, hbl, hx, hc0, hc1⟩ := (H1.out.below B1).2 E hEl
              dsimp only at hc0 hc1
              obtain ⟨m1, m2, m3⟩ := isGraphB_bar HG.out hx
              dsimp only at m1 m2 m3
              obtain ⟨i1, rfl⟩ := Int.eq_ofNat_of_zero_le m1
              obtain ⟨i2, rfl⟩ := Int.eq_ofNat_of_zero_le (show 0 ≤ x2 by omega)
              have hi1 : i1 < k := by omega
              have hi2 : i2 < k := by omega
              have HMT := Lib.hid (mround_take (es := setE l s) (j := j) (e := (i1, i2)) (Fo.mrounds (setE l s) t) (by simp only [setE, List.getElem?_map, hes, Option.map_some, Int.toNat_natCast, hx, Option.getD_some, eN]))
              generalize hR : Fo.mround ((setE l s).take j) (Fo.mrounds (setE l s) t) = r at *
              clear hR hes hx
              have f0 := (hb.cell (p := ⟨W.heap.size, 0, none⟩) (by simp)).trans BG.out.c0
              have f1 := (hb.cell (p := ⟨W.heap.size, 1, none⟩) (by simp)).trans BG.out.c1
              have hji : (j : Int) < (s.length : Int) := by omega
              have hEi : (E : Int) < (l.length : Int) := by omega
              have q1 : (0 : Int) ≤ (j : Int) := by omega
              have q2 : (0 : Int) ≤ (E : Int) := by omega
              go_wp2_with fail
              have e0 : W.heap.size < wr.drew.heap.size := by show _ < wr.heap.size; omega
              have e1 : bs < wr.drew.heap.size := hbs
              have e2 : bb < wr.drew.heap.size := hbl
              have e3 : W.heap.size < wr.drew.heap.size + 1 := by omega
              have e4 : bs < wr.drew.heap.size + 1 := by omega
              have e5 : bb < wr.drew.heap.size + 1 := by omega
              have d1 : wr.drew.cell? ⟨W.heap.size, 1, none⟩ = _ := f1
              have d2 : wr.drew.cell? ⟨bs, os + j, none⟩ = _ := hce
              have d3 : wr.drew.cell? ⟨bb, off + E * 2, none⟩ = _ := hc0
              have d4 : wr.drew.cell? ⟨bb, off + E * 2 + 1, none⟩ = _ := hc1
              go_region_held3 (fun w' => w'.cell? ⟨W.heap.size, 1, none⟩ = some (.slice (some ⟨bb, off, none⟩) l.length cap) ∧ w'.cell? ⟨bs, os + j, none⟩ = some (.int .i64 E) ∧ w'.cell? ⟨bb, off + E * 2, none⟩ = some (.int .i64 i1) ∧ w'.cell? ⟨bb, off + E * 2 + 1, none⟩ = some (.int .i64 i2))
                (first | (with_reducible exact ⟨d1, d2, d3, d4⟩) | (go_keep)) (fail)
              have ba : Below wr.heap.size wr (wr.alloc (.cells #[.int .i64 i1, .int .i64 i2] 79)).drew := ((Below.refl _ _).alloc (Nat.le_refl _) _).drew
              have p0 : (wr.alloc (.cells #[.int .i64 i1, .int .i64 i2] 79)).drew.cell? ⟨wr.heap.size, 0, none⟩ = some (.int .i64 i1) := by show (wr.alloc _).cell? _ = _; simp [World.cell?_alloc_new]
              have p1 : (wr.alloc (.cells #[.int .i64 i1, .int .i64 i2] 79)).drew.cell? ⟨wr.heap.size, 1, none⟩ = some (.int .i64 i2) := by show (wr.alloc _).cell? _ = _; simp [World.cell?_alloc_new]
              have pz : wr.heap.size < (wr.alloc (.cells #[.int .i64 i1, .int .i64 i2] 79)).drew.heap.size := by show _ < (wr.alloc _).heap.size; simp
              have HO1 := Lib.hid (HO.out.below ba)
              have hb1 := hb.trans (ba.mono (by omega))
              clear d1 d2 d3 d4 e0 e1 e2 e3 e4 e5 f0 f1 hce hc0 hc1
              generalize (wr.alloc (.cells #[.int .i64 i1, .int .i64 i2] 79)).drew = w3 at *
              clear ba
              have t0 := HO1.out.rowCell hi1
              have t1 := HO1.out.rowCell hi2
              unfold natF at t0 t1
              have hgz : g < w3.heap.size := (HO1.out.lt g rfl).2
              have h1i : (i1 : Int) < (k : Int) := by omega
              have h2i : (i2 : Int) < (k : Int) := by omega
              have q3 : (0 : Int) ≤ (i1 : Int) := by omega
              have q4 : (0 : Int) ≤ (i2 : Int) := by omega
              go_wp2_with fail
              go_quiet (fail)
              have O1 := Lib.hid (HO1.out.below (drewN_below (Below.refl _ _) nq))
              have hb3 := drewN_below hb1 nq
              have p0' : (w3.drewN nq).cell? ⟨wr.heap.size, 0, none⟩ = some (.int .i64 i1) := p0
              have p1' : (w3.drewN nq).cell? ⟨wr.heap.size, 1, none⟩ = some (.int .i64 i2) := p1
              have pz' : wr.heap.size < (w3.drewN nq).heap.size := pz
              clear t0 t1 p0 p1 pz hgz
              generalize w3.drewN nq = w4 at *
              obtain ⟨m, hm⟩ : ∃ m, m = min (r i1) (r i2) := ⟨_, rfl⟩
              have hmin : (if r i2 < r i1 then ((r i2 : Nat) : Int) else ((r i1 : Nat) : Int)) = (m : Int) := by subst hm; split <;> omega
              rw [hmin]
              have HM := Lib.hid hm
              clear hm hmin
              have v1 := O1.out.rowCell hi1
              have u1 := O1.out.rowFroz i1
              have O2 := Lib.hid (O1.out.setRow i1 (m : Int))
              have v2 := O2.out.rowCell hi2
              have u2 := O2.out.rowFroz i2
              have O3 := Lib.hid (O2.out.setRow i2 (m : Int))
              have hgw : g ≠ wr.heap.size := by have := (HO.out.lt g rfl).2; omega
              have p2 : (w4.setCell ⟨g, i1, none⟩ (.int .i64 (m : Int))).cell? ⟨wr.heap.size, 1, none⟩ = some (.int .i64 i2) := (cellSetNe hgw).trans p1'
              have hgz : g < w4.heap.size := (O1.out.lt g rfl).2
              have hb4 := Lib.hid ((hb3.setCell (p := ⟨g, i1, none⟩) hgb (.int .i64 (m : Int))).setCell (p := ⟨g, i2, none⟩) hgb (.int .i64 (m : Int)))
              clear hgw
              go_wp2_with fail
              go_roundw
              case rel =>
                refine ⟨j + 1, by omega, by go_num, ?_, hb4.out⟩
                rw [HMT.out, ← mstep_row, ← HM.out]
                exact O3.out
              case measure => simp [intOf]; omega
            · obtain rfl : j = s.length := by omega
              go_wp2_with fail
              go_roundw
              case rel =>
                refine ⟨t + 1, by omega, by go_num, ?_, hb⟩
                have h9 := HO.out
                rw [List.take_of_length_le (by simp [setE])] at h9
                exact h9
              case measure => simp [intOf]; omega
        · obtain rfl : t = k := by omega
          have hnl : decide ((t : Int) < (t : Int)) = false := by simp
          have HLE := Lib.hid (rowL_length t (natF (Fo.mrounds (setE l s) t)))
          go_wp2_with fail
          go_ret
          refine ⟨_, rfl, ?_, hb0.trans (hb.mono (by omega))⟩
          exact ownsRow_base HO.out (by omega)
end Go.Proofs.Ytfdhbbhfilkafaa
