/- l8Roots and l8Pieces of the reference. Conditions: a valid graph, a set of its bars. -/
import Derived.Test.YtfbmpkdjhhcnpaaGreatTrP29
import Derived.Test.YtfbmpkdjhhcnpaaGreatTrP10
import Derived.BigRegion
import Derived.Test.YtfbmpkdjhhcnpaaGreatTrP18
import Derived.Deep.RegionHeld3
import Derived.Test.YtfbmpkdjhhcnpaaGreatTrP01
namespace Go.Proofs.YtfbmpkdjhhcnpaaGreat
open Go.RowKit
set_option maxRecDepth 100000
set_option linter.unusedVariables false
set_option linter.unusedSimpArgs false

/-- the bars of a set, as pairs of points -/
def setE (l : List BarT) (s : List Int) : List (Nat × Nat) := s.map fun e => eN (l[e.toNat]?.getD (0, 0))
theorem setB_facts {p : Int} {l : List BarT} {s : List Int} (h : setB (p, l) s = true) : isGraphB (p, l) = true ∧ ∀ (k : Nat) (x : Int), s[k]? = some x → 0 ≤ x ∧ x < l.length := by
  simp only [setB, Bool.and_eq_true] at h
  refine ⟨h.2, fun k x hx => ?_⟩
  have := List.all_eq_true.1 h.1 k (List.mem_range.2 (lt_of_getElem? hx))
  simp only [setAt, hx, Option.getD_some, Bool.and_eq_true, inB, decide_eq_true_eq] at this
  omega
theorem mstep_row (r : Nat → Nat) (x y : Nat) : (fun q => if q = y then ((min (r x) (r y) : Nat) : Int) else if q = x then ((min (r x) (r y) : Nat) : Int) else natF r q) = natF (Fo.mstep r (x, y)) := funext fun q => by
  unfold natF Fo.mstep
  dsimp only
  split
  · rfl
  · split <;> rfl
theorem mround_take {es : List (Nat × Nat)} {j : Nat} {e : Nat × Nat} (r : Nat → Nat) (h : es[j]? = some e) : Fo.mround (es.take (j + 1)) r = Fo.mstep (Fo.mround (es.take j) r) e := by
  rw [take_succ_of h]
  unfold Fo.mround
  rw [List.foldl_append]
  rfl

set_option maxHeartbeats 1000000 in
theorem l8Pieces_at (W : World) (n : Nat) (a : Option Addr) (cap : Nat) (r : Nat → Nat) (h : IntsAt W a n (rowL n (natF r))) (hn : n ≤ 1048576) :
    Calls Tryz.prog 69 #[.slice a n cap] W fun e w' => e = .returned (.int .i64 (Fo.fixN n r)) ∧ W = w' := by
  have HC := Lib.hid h.2
  clear h
  go_enter Tryz.func69, Tryz.ntmps69
  go_wp2_with fail
  go_loop [3, 4] (fun c i => ∃ k : Nat, k ≤ n ∧ i = .int .i64 k ∧ c = .int .i64 (Fo.fixN k r)) (fun _ i => n - (intOf i).toNat)
  case atStart => exact ⟨0, Nat.zero_le _, rfl, rfl⟩
  case round =>
    obtain ⟨k, hk, rfl, rfl⟩ := hrel
    have hle := Fo.cnt_le k fun i => r i == i
    by_cases hlt : k < n
    · obtain ⟨b, off, x, rfl, hbl, hx, hcell⟩ := HC.out k hlt
      rw [rowL_get hlt] at hx
      obtain rfl : natF r k = x := Option.some.inj hx
      unfold natF at hcell
      clear hx
      have HS := Lib.hid (show Fo.fixN (k + 1) r = Fo.fixN k r + (if (r k == k) = true then 1 else 0) from Fo.cnt_succ k _)
      have hle2 : Fo.fixN k r ≤ k := hle
      generalize Fo.fixN k r = F at *
      clear hle
      by_cases hrk : r k = k
      · have hb : ((r k : Int) == (k : Int)) = true := by rw [hrk]; simp
        have HS2 := Lib.hid (show Fo.fixN (k + 1) r = F + 1 by rw [HS.out, if_pos (by simpa using hrk)])
        clear hrk HS
        go_wp2_with fail
        go_round
        case rel => exact ⟨k + 1, by omega, by go_num, by rw [HS2.out]; go_num⟩
        case measure => simp [intOf]; omega
      · have hb : ((r k : Int) == (k : Int)) = false := by rw [beq_eq_false_iff_ne]; omega
        have HS2 := Lib.hid (show Fo.fixN (k + 1) r = F by rw [HS.out, if_neg (by simpa using hrk)]; rfl)
        clear hrk HS
        go_wp2_with fail
        go_round
        case rel => exact ⟨k + 1, by omega, by go_num, by rw [HS2.out]⟩
        case measure => simp [intOf]; omega
    · obtain rfl : k = n := by omega
      go_wp2_with fail
      go_ret
      exact ⟨rfl, rfl⟩

set_option maxHeartbeats 4000000 in
theorem l8Roots_at (W : World) (P : Nat) (a : Option Addr) (cap : Nat) (l : List BarT) (h : BarsAt W a l.length l) (hs : l.length ≤ 1048576) (va : Option Addr) (n vcap : Nat) (s : List Int) (hv : IntsAt W va n s) (hvn : n ≤ 1048576) (hB : setB ((P : Int), l) s = true) :
    Calls Tryz.prog 70 #[.agg #[.int .i64 (P : Int), .slice a l.length cap], .slice va n vcap] W (RetInts W (rowL P (natF (Fo.mrounds (setE l s) P)))) := by
  have hwd := @Wd.cells
  have H1 := Lib.hid h
  clear h
  obtain rfl := hv.1
  have HV := Lib.hid hv
  clear hv
  obtain ⟨hgr, hset⟩ := setB_facts hB
  have HS := Lib.hid hset
  have HG := Lib.hid hgr
  obtain ⟨⟨hg1, hg2⟩, _⟩ := isGraphB_bd hgr
  clear hset hgr hB
  have hb0 : Below W.heap.size W ((W.alloc (.cells #[.int .i64 (P : Int), .slice a l.length cap] 26)).alloc (.cells #[] 3)) := ((Below.refl _ _).alloc (Nat.le_refl _) _).alloc (by simp) _
  have BG : Hid (BoxGr ((W.alloc (.cells #[.int .i64 (P : Int), .slice a l.length cap] 26)).alloc (.cells #[] 3)) W.heap.size P a l.length cap) := Lib.hid ((BoxGr.at rfl).below ((Below.refl _ _).alloc (Nat.le_refl _) _))
  have HO0 : Hid (OwnInts ((W.alloc (.cells #[.int .i64 (P : Int), .slice a l.length cap] 26)).alloc (.cells #[] 3)) (W.heap.size + 1) (.slice (some ⟨W.heap.size + 1, 0, none⟩) 0 0) []) := Lib.hid (by have h9 := OwnInts.made (W.alloc (.cells #[.int .i64 (P : Int), .slice a l.length cap] 26)) (W.heap.size + 1) (by simp); simpa using h9)
  have hzu : W.heap.size + 2 ≤ ((W.alloc (.cells #[.int .i64 (P : Int), .slice a l.length cap] 26)).alloc (.cells #[] 3)).heap.size := by simp
  go_enter Tryz.func70, Tryz.ntmps70
  go_wp2_with fail
  generalize (W.alloc (.cells #[.int .i64 (P : Int), .slice a l.length cap] 26)).alloc (.cells #[] 3) = u at *
  go_loopw [5, 6] (fun s i w9 => ∃ k : Nat, k ≤ P ∧ i = .int .i64 k ∧ OwnInts w9 (W.heap.size + 1) s (rowL k (natF id)) ∧ Below (W.heap.size + 1) u w9) (fun _ i _ => P - (intOf i).toNat)
  case atStart => exact ⟨0, Nat.zero_le _, rfl, HO0.out, Below.refl _ _⟩
  case round =>
    clear HO0
    obtain ⟨k, hk, rfl, ho, hb⟩ := hrel
    have HO := Lib.hid ho
    clear ho
    have hbz := hb.size
    have f0 := (hb.cell (p := ⟨W.heap.size, 0, none⟩) (by simp)).trans BG.out.c0
    have f1 := (hb.cell (p := ⟨W.heap.size, 1, none⟩) (by simp)).trans BG.out.c1
    by_cases hlt : k < P
    · have hlk : (rowL k (natF id)).length < 17592186044416 := by rw [rowL_length]; omega
      go_wp2_with (at_builtin; refine app1 rfl (.tmp 18) (.tmp 20) rfl rfl HO.out (k : Int) rfl hlk (by omega) ?_; intro v5 w5 h5 k5)
      go_roundw
      case rel => exact ⟨k + 1, by omega, by go_num, by rw [rowL_snoc]; exact h5, hb.trans (k5.setOwn HO.out (Nat.le_refl _) (by omega))⟩
      case measure => simp [intOf]; omega
    · obtain rfl : k = P := by omega
      obtain ⟨g, cg, rfl, ho2, hgb, hgz0⟩ := ownBlk HO.out (by omega)
      have HO2 := Lib.hid ho2
      clear ho2 HO
      have hnl : decide ((k : Int) < (k : Int)) = false := by simp
      go_wp2_with fail
      clear f0 f1
      go_loopw [7] (fun i w9 => ∃ t : Nat, t ≤ k ∧ i = .int .i64 t ∧ OwnInts w9 (W.heap.size + 1) (.slice (some ⟨g, 0, none⟩) k cg) (rowL k (natF (Fo.mrounds (setE l s) t))) ∧ Below (W.heap.size + 1) u w9) (fun i _ => k - (intOf i).toNat)
      case atStart => exact ⟨0, Nat.zero_le _, rfl, HO2.out, hb⟩
      case round =>
        clear HO2 hb hbz hgz0
        obtain ⟨t, ht, rfl, ho, hb⟩ := hrel
        have HO := Lib.hid ho
        clear ho
        have hbz := hb.size
        have f0 := (hb.cell (p := ⟨W.heap.size, 0, none⟩) (by simp)).trans BG.out.c0
        have f1 := (hb.cell (p := ⟨W.heap.size, 1, none⟩) (by simp)).trans BG.out.c1
        by_cases htk : t < k
        · go_wp2_with fail
          clear f0 f1
          go_loopw [8] (fun i w9 => ∃ j : Nat, j ≤ s.length ∧ i = .int .i64 j ∧ OwnInts w9 (W.heap.size + 1) (.slice (some ⟨g, 0, none⟩) k cg) (rowL k (natF (Fo.mround ((setE l s).take j) (Fo.mrounds (setE l s) t)))) ∧ Below (W.heap.size + 1) u w9) (fun i _ => s.length - (intOf i).toNat)
          case atStart => exact ⟨0, Nat.zero_le _, rfl, HO.out, hb⟩
          case round =>
            clear HO hb hbz
            obtain ⟨j, hj, rfl, ho, hb⟩ := hrel
            have HO := Lib.hid ho
            clear ho
            have hbz := hb.size
            by_cases hjs : j < s.length
            · have B1 : Below W.heap.size W wr := hb0.trans (hb.mono (by omega))
              obtain ⟨bs, os, e, rfl, hbs, hes, hce⟩ := (HV.out.below B1).2 j hjs
              obtain ⟨he1, he2⟩ := HS.out j e hes
              obtain ⟨E, rfl⟩ := Int.eq_ofNat_of_zero_le he1
              have hEl : E < l.length := by omega
              obtain ⟨bb, off, ⟨x1, x2⟩, rfl, hbl, hx, hc0, hc1⟩ := (H1.out.below B1).2 E hEl
              dsimp only at hc0 hc1
              obtain ⟨m1, m2, m3⟩ := isGraphB_bar HG.out hx
              dsimp only at m1 m2 m3
              obtain ⟨i1, rfl⟩ := Int.eq_ofNat_of_zero_le m1
              obtain ⟨i2, rfl⟩ := Int.eq_ofNat_of_zero_le (show 0 ≤ x2 by omega)
              have hi1 : i1 < k := by omega
              have hi2 : i2 < k := by omega
              have HMT := Lib.hid (mround_take (es := setE l s) (j := j) (e := (i1, i2)) (Fo.mrounds (setE l s) t) (by simp only [setE, List.getElem?_map, hes, Option.map_some, Int.toNat_natCast, hx, Option.getD_some, eN]))
              generalize hR : Fo.mround ((setE l s).take j) (Fo.mrounds (setE l s) t) = r at *
              clear hR hes hx
              have f0 := (hb.cell (p := ⟨W.heap.size, 0, none⟩) (by simp)).trans BG.out.c0
              have f1 := (hb.cell (p := ⟨W.heap.size, 1, none⟩) (by simp)).trans BG.out.c1
              have hji : (j : Int) < (s.length : Int) := by omega
              have hEi : (E : Int) < (l.length : Int) := by omega
              have q1 : (0 : Int) ≤ (j : Int) := by omega
              have q2 : (0 : Int) ≤ (E : Int) := by omega
              go_wp2_with fail
              have e0 : W.heap.size < wr.drew.heap.size := by show _ < wr.heap.size; omega
              have e1 : bs < wr.drew.heap.size := hbs
              have e2 : bb < wr.drew.heap.size := hbl
              have e3 : W.heap.size < wr.drew.heap.size + 1 := by omega
              have e4 : bs < wr.drew.heap.size + 1 := by omega
              have e5 : bb < wr.drew.heap.size + 1 := by omega
              have d1 : wr.drew.cell? ⟨W.heap.size, 1, none⟩ = _ := f1
              have d2 : wr.drew.cell? ⟨bs, os + j, none⟩ = _ := hce
              have d3 : wr.drew.cell? ⟨bb, off + E * 2, none⟩ = _ := hc0
              have d4 : wr.drew.cell? ⟨bb, off + E * 2 + 1, none⟩ = _ := hc1
              go_region_held3 (fun w' => w'.cell? ⟨W.heap.size, 1, none⟩ = some (.slice (some ⟨bb, off, none⟩) l.length cap) ∧ w'.cell? ⟨bs, os + j, none⟩ = some (.int .i64 E) ∧ w'.cell? ⟨bb, off + E * 2, none⟩ = some (.int .i64 i1) ∧ w'.cell? ⟨bb, off + E * 2 + 1, none⟩ = some (.int .i64 i2))
                (first | (with_reducible exact ⟨d1, d2, d3, d4⟩) | (go_keep)) (fail)
              have ba : Below wr.heap.size wr (wr.alloc (.cells #[.int .i64 i1, .int .i64 i2] 70)).drew := ((Below.refl _ _).alloc (Nat.le_refl _) _).drew
              have p0 : (wr.alloc (.cells #[.int .i64 i1, .int .i64 i2] 70)).drew.cell? ⟨wr.heap.size, 0, none⟩ = some (.int .i64 i1) := by show (wr.alloc _).cell? _ = _; simp [World.cell?_alloc_new]
              have p1 : (wr.alloc (.cells #[.int .i64 i1, .int .i64 i2] 70)).drew.cell? ⟨wr.heap.size, 1, none⟩ = some (.int .i64 i2) := by show (wr.alloc _).cell? _ = _; simp [World.cell?_alloc_new]
              have pz : wr.heap.size < (wr.alloc (.cells #[.int .i64 i1, .int .i64 i2] 70)).drew.heap.size := by show _ < (wr.alloc _).heap.size; simp
              have HO1 := Lib.hid (HO.out.below ba)
              have hb1 := hb.trans (ba.mono (by omega))
              clear d1 d2 d3 d4 e0 e1 e2 e3 e4 e5 f0 f1 hce hc0 hc1
              generalize (wr.alloc (.cells #[.int .i64 i1, .int .i64 i2] 70)).drew = w3 at *
              clear ba
              have t0 := HO1.out.rowCell hi1
              have t1 := HO1.out.rowCell hi2
              unfold natF at t0 t1
              have hgz : g < w3.heap.size := (HO1.out.lt g rfl).2
              have h1i : (i1 : Int) < (k : Int) := by omega
              have h2i : (i2 : Int) < (k : Int) := by omega
              have q3 : (0 : Int) ≤ (i1 : Int) := by omega
              have q4 : (0 : Int) ≤ (i2 : Int) := by omega
              go_wp2_with fail
              go_quiet (fail)
              have O1 := Lib.hid (HO1.out.below (drewN_below (Below.refl _ _) nq))
              have hb3 := drewN_below hb1 nq
              have p0' : (w3.drewN nq).cell? ⟨wr.heap.size, 0, none⟩ = some (.int .i64 i1) := p0
              have p1' : (w3.drewN nq).cell? ⟨wr.heap.size, 1, none⟩ = some (.int .i64 i2) := p1
              have pz' : wr.heap.size < (w3.drewN nq).heap.size := pz
              clear t0 t1 p0 p1 pz hgz
              generalize w3.drewN nq = w4 at *
              obtain ⟨m, hm⟩ : ∃ m, m = min (r i1) (r i2) := ⟨_, rfl⟩
              have hmin : (if r i2 < r i1 then ((r i2 : Nat) : Int) else ((r i1 : Nat) : Int)) = (m : Int) := by subst hm; split <;> omega
              rw [hmin]
              have HM := Lib.hid hm
              clear hm hmin
              have v1 := O1.out.rowCell hi1
              have u1 := O1.out.rowFroz i1
              have O2 := Lib.hid (O1.out.setRow i1 (m : Int))
              have v2 := O2.out.rowCell hi2
              have u2 := O2.out.rowFroz i2
              have O3 := Lib.hid (O2.out.setRow i2 (m : Int))
              have hgw : g ≠ wr.heap.size := by have := (HO.out.lt g rfl).2; omega
              have p2 : (w4.setCell ⟨g, i1, none⟩ (.int .i64 (m : Int))).cell? ⟨wr.heap.size, 1, none⟩ = some (.int .i64 i2) := (cellSetNe hgw).trans p1'
              have hgz : g < w4.heap.size := (O1.out.lt g rfl).2
              have hb4 := Lib.hid ((hb3.setCell (p := ⟨g, i1, none⟩) hgb (.int .i64 (m : Int))).setCell (p := ⟨g, i2, none⟩) hgb (.int .i64 (m : Int)))
              clear hgw
              go_wp2_with fail
              go_roundw
              case rel =>
                refine ⟨j + 1, by omega, by go_num, ?_, hb4.out⟩
                rw [HMT.out, ← mstep_row, ← HM.out]
                exact O3.out
              case measure => simp [intOf]; omega
            · obtain rfl : j = s.length := by omega
              go_wp2_with fail
              go_roundw
              case rel =>
                refine ⟨t + 1, by omega, by go_num, ?_, hb⟩
                have h9 := HO.out
                rw [List.take_of_length_le (by simp [setE])] at h9
                exact h9
              case measure => simp [intOf]; omega
        · obtain rfl : t = k := by omega
          have hnl : decide ((t : Int) < (t : Int)) = false := by simp
          have HLE := Lib.hid (rowL_length t (natF (Fo.mrounds (setE l s) t)))
          go_wp2_with fail
          go_ret
          refine ⟨_, rfl, ?_, hb0.trans (hb.mono (by omega))⟩
          exact ownsRow_base HO.out (by omega)
end Go.Proofs.YtfbmpkdjhhcnpaaGreat

namespace Go.Proofs.YtfbmpkdjhhcnpaaGreat
open Go.RowKit
set_option maxRecDepth 100000
set_option linter.unusedVariables false
set_option linter.unusedSimpArgs false

theorem filt_succ : ∀ {s : List Int}, s.Pairwise (· < ·) → ∀ k : Int, s.filter (fun e => decide (e < k + 1)) = s.filter (fun e => decide (e < k)) ++ (if k ∈ s then [k] else [])
  | [], _, k => by simp
  | x :: t, hs, k => by
    obtain ⟨h1, h2⟩ := List.pairwise_cons.1 hs
    have ih := filt_succ h2 k
    by_cases e1 : x < k
    · rw [List.filter_cons_of_pos (by simp; omega), List.filter_cons_of_pos (by simp; omega), ih, List.cons_append]
      have : (k ∈ x :: t) = (k ∈ t) := by
        rw [List.mem_cons]; simp; intro e; omega
      simp only [this]
    · have hf : ∀ m : Int, m ≤ k + 1 → t.filter (fun e => decide (e < m)) = [] ∨ x < k := fun m hm => by
        by_cases e2 : x < k
        · exact .inr e2
        · left
          rw [List.filter_eq_nil_iff]
          intro e he
          have := h1 e he
          simp; omega
      have f1 := (hf (k + 1) (by omega)).resolve_right e1
      have f2 := (hf k (by omega)).resolve_right e1
      by_cases e2 : x = k
      · subst e2
        rw [List.filter_cons_of_pos (by simp; omega), List.filter_cons_of_neg (by simp), f1, f2]
        simp
      · rw [List.filter_cons_of_neg (by simp; omega), List.filter_cons_of_neg (by simp; omega), f1, f2]
        have : k ∉ x :: t := by
          rw [List.mem_cons]
          rintro (h | h)
          · omega
          · have := h1 k h; omega
        rw [if_neg this]; rfl
theorem setB_sorted {p : Int} {l : List BarT} {s : List Int} (h : setB (p, l) s = true) : s.Pairwise (· < ·) := by
  simp only [setB, Bool.and_eq_true] at h
  have key : ∀ i x y, s[i]? = some x → s[i + 1]? = some y → x < y := fun i x y hx hy => by
    have := List.all_eq_true.1 h.1 (i + 1) (List.mem_range.2 (lt_of_getElem? hy))
    simp only [setAt, Nat.add_sub_cancel, hx, hy, Option.getD_some, Bool.and_eq_true, Bool.or_eq_true, decide_eq_true_eq] at this
    rcases this.2 with h | h
    · simp at h
    · exact h
  have lt : ∀ d i x y, s[i]? = some x → s[i + d + 1]? = some y → x < y := by
    intro d
    induction d with
    | zero => exact key
    | succ d ih =>
      intro i x y hx hy
      have hl := lt_of_getElem? hy
      obtain ⟨z, hz⟩ : ∃ z, s[i + d + 1]? = some z := ⟨_, List.getElem?_eq_getElem (by omega)⟩
      have h1 := ih i x z hx hz
      have h2 := key _ z y hz hy
      omega
  refine List.pairwise_iff_getElem.2 fun i j hi hj hij => ?_
  exact lt (j - i - 1) i _ _ (List.getElem?_eq_getElem hi) (by rw [show i + (j - i - 1) + 1 = j by omega]; exact List.getElem?_eq_getElem hj)
theorem keepTo_filter {l : List BarT} {s : List Int} (hs : s.Pairwise (· < ·)) (hr : ∀ x ∈ s, 0 ≤ x ∧ x < l.length) : ∀ k, k ≤ l.length → keepTo l s k = (s.filter fun e => decide (e < (k : Int))).map fun e => l[e.toNat]?.getD (0, 0)
  | 0, _ => by
    have : (s.filter fun e => decide (e < ((0 : Nat) : Int))) = [] := by
      rw [List.filter_eq_nil_iff]
      intro e he
      have := hr e he
      simp; omega
    rw [this]; rfl
  | k + 1, hk => by
    rw [show ((k + 1 : Nat) : Int) = (k : Int) + 1 by omega, filt_succ hs, List.map_append, ← keepTo_filter hs hr k (by omega)]
    show keepTo l s k ++ (if (k : Int) ∈ s then (l[k]?).toList else []) = _
    congr 1
    split
    · simp only [List.map_cons, List.map_nil, Int.toNat_natCast]
      rw [List.getElem?_eq_getElem (show k < l.length by omega)]
      rfl
    · rfl
theorem keepL_set {p : Int} {l : List BarT} {s : List Int} (h : setB (p, l) s = true) : keepL l s = s.map fun e => l[e.toNat]?.getD (0, 0) := by
  have hr : ∀ x ∈ s, 0 ≤ x ∧ x < l.length := fun x hx => by
    obtain ⟨k, hk⟩ := List.getElem?_of_mem hx
    exact (setB_facts h).2 k x hk
  unfold keepL
  rw [keepTo_filter (setB_sorted h) hr _ (Nat.le_refl _)]
  congr 1
  rw [List.filter_eq_self]
  intro e he
  have := hr e he
  simp; omega
theorem keepL_E {p : Int} {l : List BarT} {s : List Int} (h : setB (p, l) s = true) : (keepL l s).map eN = setE l s := by
  rw [keepL_set h, List.map_map]; rfl
theorem setB_ends {P : Nat} {l : List BarT} {s : List Int} (h : setB ((P : Int), l) s = true) : ∀ x ∈ keepL l s, (0 ≤ x.1 ∧ x.1 < P) ∧ (0 ≤ x.2 ∧ x.2 < P) := by
  intro x hx
  rw [keepL_set h] at hx
  obtain ⟨e, he, rfl⟩ := List.mem_map.1 hx
  obtain ⟨k, hk⟩ := List.getElem?_of_mem he
  obtain ⟨hg, hf⟩ := setB_facts h
  obtain ⟨h1, h2⟩ := hf k e hk
  have hl : e.toNat < l.length := by omega
  obtain ⟨m1, m2, m3⟩ := isGraphB_bar hg (List.getElem?_eq_getElem hl)
  rw [List.getElem?_eq_getElem hl]
  simp only [Option.getD_some]
  omega
theorem setE_inR {P : Nat} {l : List BarT} {s : List Int} (h : setB ((P : Int), l) s = true) : Fo.InR P (setE l s) := by
  intro e he
  rw [← keepL_E h] at he
  obtain ⟨x, hx, rfl⟩ := List.mem_map.1 he
  have := setB_ends h x hx
  simp only [eN]
  omega
def frstB (g : GraphT) (s : List Int) : Bool := setB g s && Fo.forestB (setE g.2 s)
theorem frst_spec {P : Nat} {l : List BarT} {s : List Int} (h : setB ((P : Int), l) s = true) : frstB ((P : Int), l) s = ((Fo.fixN P (Fo.mrounds (setE l s) P) : Int) == (P : Int) - (s.length : Int)) := by
  unfold frstB
  rw [h, Bool.true_and, Fo.forest_iff (setE_inR h)]
  have e : (setE l s).length = s.length := by simp [setE]
  rw [e]; rfl
theorem frst_impl {P : Nat} {l : List BarT} {s : List Int} (h : setB ((P : Int), l) s = true) : frstB ((P : Int), l) s = Fo.forestB ((keepL l s).map eN) := by
  unfold frstB
  rw [h, Bool.true_and, keepL_E h]

set_option maxHeartbeats 4000000 in
theorem specFrs_at (W : World) (p : Int) (a : Option Addr) (cap : Nat) (l : List BarT) (h : BarsAt W a l.length l) (hs : l.length ≤ 1048576) (va : Option Addr) (n vcap : Nat) (s : List Int) (hv : IntsAt W va n s) (hvn : n ≤ 1048576) :
    Calls Tryz.prog 22 #[.agg #[.int .i64 p, .slice a l.length cap], .slice va n vcap] W fun e w' => e = .returned (.bool (frstB (p, l) s)) ∧ Below W.heap.size W w' := by
  have hwd := @Wd.cells
  have HGr : Hid (IsGraph W (.agg #[.int .i64 p, .slice a l.length cap]) (p, l)) := Lib.hid ⟨a, cap, rfl, h⟩
  have H1 := Lib.hid h
  clear h
  have hsz : szGraph (p, l) ≤ 1048576 := hs
  have hsz2 : szGraph (p, l) ≤ 1099511627776 := Nat.le_trans hsz (by decide)
  have B : Below W.heap.size W (W.alloc (.cells #[.int .i64 p, .slice a l.length cap] 26)) := (Below.refl _ _).alloc (Nat.le_refl _) _
  have BG : Hid (BoxGr (W.alloc (.cells #[.int .i64 p, .slice a l.length cap] 26)) W.heap.size p a l.length cap) := Lib.hid (BoxGr.at rfl)
  obtain rfl := hv.1
  have HV := Lib.hid hv
  clear hv
  have cS := fun (w1 : World) (b : Below W.heap.size W w1) => l5Set_at w1 p a cap l (H1.out.below b) hs va s.length vcap s (HV.out.below b) hvn
  cases hf : setB (p, l) s
  · have HE := Lib.hid (ret_bool (show frstB (p, l) s = false by simp only [frstB, hf, Bool.false_and]))
    rw [hf] at cS
    have HC := Lib.hid (show ∀ n : Wd (W.alloc (.cells #[.int .i64 p, .slice a l.length cap] 26)), Calls Tryz.prog 68 #[.agg #[.int .i64 p, .slice a l.length cap], .slice va s.length vcap] n.w fun e w' => e = .returned (.bool false) ∧ Below n.w.heap.size n.w w' from fun n => cS n.w (B.step n.h))
    clear cS
    obtain ⟨zBG, fBG0, fBG1⟩ := BG.out
    go_enter Tryz.func22, Tryz.ntmps22
    go_wp2_with fail
    refine wp_region_wd (by kernel_rfl) (by kernel_rfl) ?_
    repeat (go_big_quiet_step (first | (go_at_call 68; exact Calls.wd_of (HC.out _))))
    refine wpQuiet_nil ?_
    intro n1
    have B := B.step n1.h
    go_wp2_with fail
    go_ret
    exact ⟨HE.out.symm, B⟩
  rw [hf] at cS
  have HC := Lib.hid cS
  clear cS
  obtain ⟨hgr, _⟩ := setB_facts hf
  obtain ⟨⟨hg1, hg2⟩, _⟩ := isGraphB_bd hgr
  obtain ⟨P, rfl⟩ := Int.eq_ofNat_of_zero_le (show 0 ≤ p by omega)
  have HE := Lib.hid (frst_spec hf)
  have HLE := Lib.hid (rowL_length P (natF (Fo.mrounds (setE l s) P)))
  have hcnt := Fo.cnt_le P fun i => Fo.mrounds (setE l s) P i == i
  have hcnt2 : Fo.fixN P (Fo.mrounds (setE l s) P) ≤ P := hcnt
  have cR := fun (w1 : World) (b : Below W.heap.size W w1) => l8Roots_at w1 P a cap l (H1.out.below b) hs va s.length vcap s (HV.out.below b) hvn hf
  have HR := Lib.hid cR
  clear cR hcnt hf hgr
  generalize hr : Fo.mrounds (setE l s) P = r at *
  clear hr
  generalize hF : Fo.fixN P r = F at *
  have HFF := Lib.hid hF
  clear hF
  have hw := IntWalk.i64_in ((P : Int) - (s.length : Int)) (by omega)
  go_enter Tryz.func22, Tryz.ntmps22
  go_wp2_with fail
  generalize (W.alloc (.cells #[.int .i64 (P : Int), .slice a l.length cap] 26)) = u at *
  have bd : Below u.heap.size u u.drew := (Below.refl _ _).drew
  replace B := B.step bd
  replace BG := Lib.hid (BG.out.below bd)
  clear bd
  have tk1 := True.intro
  have tk2 := True.intro
  have tk3 := True.intro
  go_region_held3 (fun w' => w'.cell? ⟨W.heap.size, 0, none⟩ = some (.int .i64 (P : Int)) ∧ w'.cell? ⟨W.heap.size, 1, none⟩ = some (.slice a l.length cap))
    (with_reducible exact ⟨BG.out.c0, BG.out.c1⟩)
    (first
      | (clear tk1; go_at_call 68; refine (HC.out _ B).mono ?_; rintro e w4 ⟨rfl, b⟩; have hz4 := b.size; replace B := B.step b; replace BG := Lib.hid (BG.out.below b); clear b)
      | (clear tk2; go_at_call 70; refine (HR.out _ B).mono ?_; rintro e w5 ⟨v, rfl, ho, b⟩; have hz5 := b.size; replace B := B.step b; replace BG := Lib.hid (BG.out.below b); clear b; obtain ⟨ar, cr, rfl, hi⟩ := ho.form; rw [HLE.out] at hi ⊢; have HI := Lib.hid hi; clear hi ho)
      | (clear tk3; go_at_call 69; refine (l8Pieces_at _ P ar cr r HI.out (by omega)).mono ?_; rintro e w6 ⟨rfl, rfl⟩; rw [HFF.out])
      | fail)
  all_goals
    go_wp2_with fail
    go_ret
    exact ⟨by rw [HE.out]; rfl, B⟩

set_option maxHeartbeats 4000000 in
theorem implFrs_at (W : World) (p : Int) (a : Option Addr) (cap : Nat) (l : List BarT) (h : BarsAt W a l.length l) (hs : l.length ≤ 1048576) (va : Option Addr) (n vcap : Nat) (s : List Int) (hv : IntsAt W va n s) (hvn : n ≤ 1048576) :
    Calls Tryz.prog 21 #[.agg #[.int .i64 p, .slice a l.length cap], .slice va n vcap] W fun e w' => e = .returned (.bool (frstB (p, l) s)) ∧ Below W.heap.size W w' := by
  have hwd := @Wd.cells
  have HGr : Hid (IsGraph W (.agg #[.int .i64 p, .slice a l.length cap]) (p, l)) := Lib.hid ⟨a, cap, rfl, h⟩
  have H1 := Lib.hid h
  clear h
  have hsz : szGraph (p, l) ≤ 1048576 := hs
  have hsz2 : szGraph (p, l) ≤ 1099511627776 := Nat.le_trans hsz (by decide)
  have B : Below W.heap.size W (W.alloc (.cells #[.int .i64 p, .slice a l.length cap] 26)) := (Below.refl _ _).alloc (Nat.le_refl _) _
  have BG : Hid (BoxGr (W.alloc (.cells #[.int .i64 p, .slice a l.length cap] 26)) W.heap.size p a l.length cap) := Lib.hid (BoxGr.at rfl)
  obtain rfl := hv.1
  have HV := Lib.hid hv
  clear hv
  have cS := fun (w1 : World) (b : Below W.heap.size W w1) => isSet_at w1 p a cap l (H1.out.below b) hs va s.length vcap s (HV.out.below b) hvn
  cases hf : setB (p, l) s
  · have HE := Lib.hid (ret_bool (show frstB (p, l) s = false by simp only [frstB, hf, Bool.false_and]))
    rw [hf] at cS
    have HC := Lib.hid (show ∀ n : Wd (W.alloc (.cells #[.int .i64 p, .slice a l.length cap] 26)), Calls Tryz.prog 56 #[.agg #[.int .i64 p, .slice a l.length cap], .slice va s.length vcap] n.w fun e w' => e = .returned (.bool false) ∧ Below n.w.heap.size n.w w' from fun n => cS n.w (B.step n.h))
    clear cS
    obtain ⟨zBG, fBG0, fBG1⟩ := BG.out
    go_enter Tryz.func21, Tryz.ntmps21
    go_wp2_with fail
    refine wp_region_wd (by kernel_rfl) (by kernel_rfl) ?_
    repeat (go_big_quiet_step (first | (go_at_call 56; exact Calls.wd_of (HC.out _))))
    refine wpQuiet_nil ?_
    intro n1
    have B := B.step n1.h
    go_wp2_with fail
    go_ret
    exact ⟨HE.out.symm, B⟩
  rw [hf] at cS
  have HC := Lib.hid cS
  clear cS
  obtain ⟨hgr, _⟩ := setB_facts hf
  obtain ⟨⟨hg1, hg2⟩, _⟩ := isGraphB_bd hgr
  obtain ⟨P, rfl⟩ := Int.eq_ofNat_of_zero_le (show 0 ≤ p by omega)
  have HE := Lib.hid (ret_bool (frst_impl hf))
  have HEN := Lib.hid (setB_ends hf)
  have cR := fun (w1 : World) (b : Below W.heap.size W w1) => implOnly_at w1 (P : Int) a cap l (H1.out.below b) hs va s.length vcap s (HV.out.below b) hvn
  have HR := Lib.hid cR
  have hlk : (keepL l s).length ≤ 1048576 := Nat.le_trans (keepTo_len l s _) hs
  clear cR hf hgr
  generalize hr : keepL l s = r at *
  clear hr
  go_enter Tryz.func21, Tryz.ntmps21
  go_wp2_with fail
  generalize (W.alloc (.cells #[.int .i64 (P : Int), .slice a l.length cap] 26)) = u at *
  have bd : Below u.heap.size u u.drew := (Below.refl _ _).drew
  replace B := B.step bd
  replace BG := Lib.hid (BG.out.below bd)
  clear bd
  have hfd : ∀ (ab : Option Addr) (k cb : Nat) (w : World), (Instr.field 26 (.agg #[.int .i64 (P : Int), .slice ab k cb]) 1).run Tryz.prog w = .ok (.slice ab k cb) w := fun _ _ _ _ => by kernel_rfl
  have tk1 := True.intro
  have tk2 := True.intro
  have tk3 := True.intro
  go_region_held3 (fun w' => w'.cell? ⟨W.heap.size, 0, none⟩ = some (.int .i64 (P : Int)) ∧ w'.cell? ⟨W.heap.size, 1, none⟩ = some (.slice a l.length cap))
    (with_reducible exact ⟨BG.out.c0, BG.out.c1⟩)
    (first
      | (clear tk1; go_at_call 56; refine (HC.out _ B).mono ?_; rintro e w4 ⟨rfl, b⟩; have hz4 := b.size; replace B := B.step b; replace BG := Lib.hid (BG.out.below b); clear b)
      | (clear tk2; go_at_call 67; refine (HR.out _ B).mono ?_; rintro e w5 ⟨v, rfl, ⟨vb, ⟨ab, cb, rfl, rfl⟩, ob⟩, b⟩; have hz5 := b.size; replace B := B.step b; replace BG := Lib.hid (BG.out.below b); clear b; dsimp only at ob ⊢; obtain ⟨ab', cb', he, hi⟩ := ob.form; simp only [Value.slice.injEq, true_and] at he; obtain ⟨rfl, rfl⟩ := he; have HI := Lib.hid hi; clear hi ob)
      | (clear tk3; go_at_call 50; refine (isForest_at _ P (by omega) (by omega) _ _ r HI.out hlk HEN.out).mono ?_; rintro e w6 ⟨rfl, b⟩; have hz6 := b.size; replace B := B.step b; replace BG := Lib.hid (BG.out.below b); clear b)
      | fail)
  all_goals
    go_wp2_with fail
    go_ret
    exact ⟨HE.out.symm, B⟩

def sptB (g : GraphT) (s : List Int) : Bool := frstB g s && ((s.length : Int) == g.1 - 1)

set_option maxHeartbeats 4000000 in
theorem specSpt_at (W : World) (p : Int) (a : Option Addr) (cap : Nat) (l : List BarT) (h : BarsAt W a l.length l) (hs : l.length ≤ 1048576) (va : Option Addr) (n vcap : Nat) (s : List Int) (hv : IntsAt W va n s) (hvn : n ≤ 1048576) :
    Calls Tryz.prog 16 #[.agg #[.int .i64 p, .slice a l.length cap], .slice va n vcap] W fun e w' => e = .returned (.bool (sptB (p, l) s)) ∧ Below W.heap.size W w' := by
  have hwd := @Wd.cells
  have HGr : Hid (IsGraph W (.agg #[.int .i64 p, .slice a l.length cap]) (p, l)) := Lib.hid ⟨a, cap, rfl, h⟩
  have H1 := Lib.hid h
  clear h
  have hsz : szGraph (p, l) ≤ 1048576 := hs
  have hsz2 : szGraph (p, l) ≤ 1099511627776 := Nat.le_trans hsz (by decide)
  have B : Below W.heap.size W (W.alloc (.cells #[.int .i64 p, .slice a l.length cap] 26)) := (Below.refl _ _).alloc (Nat.le_refl _) _
  have BG : Hid (BoxGr (W.alloc (.cells #[.int .i64 p, .slice a l.length cap] 26)) W.heap.size p a l.length cap) := Lib.hid (BoxGr.at rfl)
  obtain rfl := hv.1
  have HV := Lib.hid hv
  clear hv
  cases hf : frstB (p, l) s
  · have HE := Lib.hid (ret_bool (show sptB (p, l) s = false by simp only [sptB, hf, Bool.false_and]))
    go_enter Tryz.func16, Tryz.ntmps16
    go_wp2_with fail
    refine (specFrs_at _ p a cap l (H1.out.below B) hs va s.length vcap s (HV.out.below B) hvn).mono ?_
    rintro e w1 ⟨rfl, b⟩
    replace B := B.step b
    clear b
    rw [hf]
    go_wp2_with fail
    go_ret
    exact ⟨HE.out.symm, B⟩
  have HE := Lib.hid (show sptB (p, l) s = ((s.length : Int) == p - 1) by simp only [sptB, hf, Bool.true_and])
  have hgr : isGraphB (p, l) = true := by
    simp only [frstB, Bool.and_eq_true] at hf
    exact (setB_facts hf.1).1
  obtain ⟨⟨hg1, hg2⟩, _⟩ := isGraphB_bd hgr
  have hw := IntWalk.i64_in (p - 1) (by omega)
  clear hgr
  go_enter Tryz.func16, Tryz.ntmps16
  go_wp2_with fail
  refine (specFrs_at _ p a cap l (H1.out.below B) hs va s.length vcap s (HV.out.below B) hvn).mono ?_
  rintro e w1 ⟨rfl, b⟩
  replace B := B.step b
  replace BG := Lib.hid (BG.out.below b)
  clear b
  rw [hf]
  obtain ⟨zBG, fBG0, fBG1⟩ := BG.out
  go_wp2_with fail
  go_ret
  exact ⟨by rw [HE.out]; rfl, B⟩
theorem spec_IsForest (W : World) (v0 : Value) (g : GraphT) (h : IsGraph W v0 g) (v1 : Value) (s : List Int) (hv : IsInts W v1 s) (hn : szGraph g ≤ 1048576) (hvn : s.length ≤ 1048576) :
    Calls Tryz.prog 22 #[v0, v1] W fun e w' => e = .returned (.bool (frstB g s)) ∧ Below W.heap.size W w' := by
  obtain ⟨p, l⟩ := g
  obtain ⟨a, cap, rfl, hi⟩ := h
  obtain ⟨va, vc, rfl, hvi⟩ := hv
  exact specFrs_at _ _ _ _ _ hi hn _ _ _ _ hvi hvn
theorem spec_IsSpanningTree (W : World) (v0 : Value) (g : GraphT) (h : IsGraph W v0 g) (v1 : Value) (s : List Int) (hv : IsInts W v1 s) (hn : szGraph g ≤ 1048576) (hvn : s.length ≤ 1048576) :
    Calls Tryz.prog 16 #[v0, v1] W fun e w' => e = .returned (.bool (sptB g s)) ∧ Below W.heap.size W w' := by
  obtain ⟨p, l⟩ := g
  obtain ⟨a, cap, rfl, hi⟩ := h
  obtain ⟨va, vc, rfl, hvi⟩ := hv
  exact specSpt_at _ _ _ _ _ hi hn _ _ _ _ hvi hvn

set_option maxHeartbeats 4000000 in
theorem implSpt_at (W : World) (p : Int) (a : Option Addr) (cap : Nat) (l : List BarT) (h : BarsAt W a l.length l) (hs : l.length ≤ 1048576) (va : Option Addr) (n vcap : Nat) (s : List Int) (hv : IntsAt W va n s) (hvn : n ≤ 1048576) :
    Calls Tryz.prog 15 #[.agg #[.int .i64 p, .slice a l.length cap], .slice va n vcap] W fun e w' => e = .returned (.bool (sptB (p, l) s)) ∧ Below W.heap.size W w' := by
  have hwd := @Wd.cells
  have HGr : Hid (IsGraph W (.agg #[.int .i64 p, .slice a l.length cap]) (p, l)) := Lib.hid ⟨a, cap, rfl, h⟩
  have H1 := Lib.hid h
  clear h
  have hsz : szGraph (p, l) ≤ 1048576 := hs
  have hsz2 : szGraph (p, l) ≤ 1099511627776 := Nat.le_trans hsz (by decide)
  have B : Below W.heap.size W (W.alloc (.cells #[.int .i64 p, .slice a l.length cap] 26)) := (Below.refl _ _).alloc (Nat.le_refl _) _
  have BG : Hid (BoxGr (W.alloc (.cells #[.int .i64 p, .slice a l.length cap] 26)) W.heap.size p a l.length cap) := Lib.hid (BoxGr.at rfl)
  obtain rfl := hv.1
  have HV := Lib.hid hv
  clear hv
  cases hf : frstB (p, l) s
  · have HE := Lib.hid (ret_bool (show sptB (p, l) s = false by simp only [sptB, hf, Bool.false_and]))
    go_enter Tryz.func15, Tryz.ntmps15
    go_wp2_with fail
    refine (implFrs_at _ p a cap l (H1.out.below B) hs va s.length vcap s (HV.out.below B) hvn).mono ?_
    rintro e w1 ⟨rfl, b⟩
    replace B := B.step b
    clear b
    rw [hf]
    go_wp2_with fail
    go_ret
    exact ⟨HE.out.symm, B⟩
  have HE := Lib.hid (show sptB (p, l) s = ((s.length : Int) == p - 1) by simp only [sptB, hf, Bool.true_and])
  have hgr : isGraphB (p, l) = true := by
    simp only [frstB, Bool.and_eq_true] at hf
    exact (setB_facts hf.1).1
  obtain ⟨⟨hg1, hg2⟩, _⟩ := isGraphB_bd hgr
  have hw := IntWalk.i64_in (p - 1) (by omega)
  clear hgr
  go_enter Tryz.func15, Tryz.ntmps15
  go_wp2_with fail
  refine (implFrs_at _ p a cap l (H1.out.below B) hs va s.length vcap s (HV.out.below B) hvn).mono ?_
  rintro e w1 ⟨rfl, b⟩
  replace B := B.step b
  replace BG := Lib.hid (BG.out.below b)
  clear b
  rw [hf]
  obtain ⟨zBG, fBG0, fBG1⟩ := BG.out
  go_wp2_with fail
  go_ret
  exact ⟨by rw [HE.out]; rfl, B⟩
theorem impl_IsForest (W : World) (v0 : Value) (g : GraphT) (h : IsGraph W v0 g) (v1 : Value) (s : List Int) (hv : IsInts W v1 s) (hn : szGraph g ≤ 1048576) (hvn : s.length ≤ 1048576) :
    Calls Tryz.prog 21 #[v0, v1] W fun e w' => e = .returned (.bool (frstB g s)) ∧ Below W.heap.size W w' := by
  obtain ⟨p, l⟩ := g
  obtain ⟨a, cap, rfl, hi⟩ := h
  obtain ⟨va, vc, rfl, hvi⟩ := hv
  exact implFrs_at _ _ _ _ _ hi hn _ _ _ _ hvi hvn
theorem impl_IsSpanningTree (W : World) (v0 : Value) (g : GraphT) (h : IsGraph W v0 g) (v1 : Value) (s : List Int) (hv : IsInts W v1 s) (hn : szGraph g ≤ 1048576) (hvn : s.length ≤ 1048576) :
    Calls Tryz.prog 15 #[v0, v1] W fun e w' => e = .returned (.bool (sptB g s)) ∧ Below W.heap.size W w' := by
  obtain ⟨p, l⟩ := g
  obtain ⟨a, cap, rfl, hi⟩ := h
  obtain ⟨va, vc, rfl, hvi⟩ := hv
  exact implSpt_at _ _ _ _ _ hi hn _ _ _ _ hvi hvn
end Go.Proofs.YtfbmpkdjhhcnpaaGreat

namespace Go.Proofs.YtfbmpkdjhhcnpaaGreat
set_option linter.unusedVariables false
set_option linter.unusedSimpArgs false
/-- the first answer of some tries -/
def firstS {β : Type} (f : Nat → Option β) : Nat → Option β
  | 0 => none
  | k + 1 => match firstS f k with
    | some r => some r
    | none => f k
theorem firstS_none {β : Type} {f : Nat → Option β} : ∀ k, (∀ j, j < k → f j = none) → firstS f k = none
  | 0, _ => rfl
  | k + 1, h => by
    unfold firstS
    rw [firstS_none k fun j hj => h j (by omega)]
    exact h k (by omega)
theorem firstS_all {β : Type} {f : Nat → Option β} : ∀ k, firstS f k = none → ∀ j, j < k → f j = none
  | 0, _, j, hj => absurd hj (Nat.not_lt_zero _)
  | k + 1, h, j, hj => by
    unfold firstS at h
    cases h1 : firstS f k with
    | some r => rw [h1] at h; simp at h
    | none =>
      rw [h1] at h
      by_cases e : j = k
      · subst e; exact h
      · exact firstS_all k h1 j (by omega)
theorem firstS_hit {β : Type} {f : Nat → Option β} {i : Nat} {r : β} (hn : ∀ j, j < i → f j = none) (hi : f i = some r) : ∀ k, i < k → firstS f k = some r
  | 0, h => absurd h (Nat.not_lt_zero _)
  | k + 1, h => by
    unfold firstS
    by_cases e : i = k
    · subst e
      rw [firstS_none i hn]
      exact hi
    · rw [firstS_hit hn hi k (by omega)]
theorem firstS_some {β : Type} {f : Nat → Option β} {r : β} : ∀ k, firstS f k = some r → ∃ i, i < k ∧ f i = some r
  | 0, h => by simp [firstS] at h
  | k + 1, h => by
    unfold firstS at h
    cases h1 : firstS f k with
    | some r' =>
      rw [h1] at h
      obtain ⟨i, hi, hf⟩ := firstS_some k h1
      exact ⟨i, by omega, by rw [hf]; exact h⟩
    | none =>
      rw [h1] at h
      exact ⟨k, by omega, h⟩
end Go.Proofs.YtfbmpkdjhhcnpaaGreat

