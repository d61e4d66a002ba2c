/- PrimitiveVector of the program and of the reference. -/
import Derived.Test.YtfdhbbhfilkafaaApp
import Derived.Test.YtfdhbbhfilkafaaGcd
import Derived.Test.YtfdhbbhfilkafaaInts
namespace Go.Proofs.Ytfdhbbhfilkafaa
open Go.RowKit
set_option maxRecDepth 100000
set_option linter.unusedVariables false
set_option linter.unusedSimpArgs false

theorem gcdZ_bd (a b : Int) : 0 ≤ gcdZ a b ∧ gcdZ a b ≤ 9000000000000000000 := by
  unfold gcdZ
  split
  · rename_i h
    simp only [Bool.and_eq_true] at h
    have h1 := smallB_bd h.1
    have h2 := smallB_bd h.2
    refine ⟨by omega, ?_⟩
    rcases Nat.eq_zero_or_pos a.natAbs with h0 | h0
    · rw [h0, Nat.gcd_zero_left]; omega
    · have := Nat.gcd_le_left b.natAbs h0; omega
  · omega
def gcdTo (l : List Int) : Nat → Int
  | 0 => 0
  | k + 1 => gcdZ (gcdTo l k) (l[k]?.getD 0)
theorem gcdTo_bd (l : List Int) (k : Nat) : 0 ≤ gcdTo l k ∧ gcdTo l k ≤ 9000000000000000000 := by
  cases k with
  | zero => simp [gcdTo]
  | succ k => exact gcdZ_bd _ _
def firstTo (l : List Int) : Nat → Int
  | 0 => 0
  | k + 1 => if firstTo l k = 0 then l[k]?.getD 0 else firstTo l k
def primDen (l : List Int) : Int := if firstTo l l.length < 0 then -(gcdTo l l.length) else gcdTo l l.length
def quot (d x : Int) : Int := wrap64 (x.tdiv d)
def prim (l : List Int) : List Int := if l.all smallB = true then (if gcdTo l l.length = 0 then l else l.map (quot (primDen l))) else l
theorem prim_length (l : List Int) : (prim l).length = l.length := by unfold prim; split; split <;> simp; rfl

theorem prim_big {l : List Int} {k : Nat} {x : Int} (h : l[k]? = some x) (hx : smallB x = false) : prim l = l := by
  have : l.all smallB = false := List.all_eq_false.2 ⟨x, List.mem_of_getElem? h, by simp [hx]⟩
  simp [prim, this]

set_option maxHeartbeats 4000000 in
theorem implPrim_any (a : Option Addr) (n cap : Nat) (l : List Int) (W : World) (h : IntsAt W a n l) (hn : n ≤ 1099511627776) :
    Calls Try.prog 49 #[.slice a n cap] W (RetInts W (prim l)) := by
  have H := Lib.hid h
  obtain ⟨hl, hc⟩ := h
  have HL := Lib.hid hl
  have HC := Lib.hid hc
  clear hl hc
  go_enter Try.func49, Try.ntmps49
  go_wp2_with fail
  refine (copyInts_any _ _ _ _ _ H.out hn).mono ?_
  rintro e w1 ⟨v, rfl, ho, hb⟩
  have HO := Lib.hid ho
  clear ho
  go_wp2_with fail
  go_loopw [4, 5, 13] (fun g f i wr => ∃ k : Nat, k ≤ n ∧ i = .int .i64 k ∧ g = .int .i64 (gcdTo l k) ∧ f = .int .i64 (firstTo l k) ∧ (l.take k).all smallB = true ∧ ∃ m, wr = w1.drewN m) (fun _ _ i _ => n - (intOf i).toNat)
  case atStart => exact ⟨0, Nat.zero_le _, rfl, rfl, rfl, by simp, 0, rfl⟩
  case round =>
    obtain ⟨k, hk, rfl, rfl, rfl, hall, m, rfl⟩ := hrel
    have HA := Lib.hid hall
    clear hall
    by_cases hlt : k < n
    · obtain ⟨b, off, x, rfl, hbl, hx, hcell⟩ := HC.out k hlt
      have HX := Lib.hid hx
      clear hx
      have hcw : w1.cell? ⟨b, off + k, none⟩ = some (.int .i64 x) := (hb.cell (p := ⟨b, off + k, none⟩) hbl).trans hcell
      clear hcell
      cases hs : smallB x
      · have hfin := prim_big HX.out hs
        have HF := Lib.hid hfin
        clear hfin
        have hns : (!smallB x) = true := by simp [hs]
        go_wp2_with (go_at_call 90; refine (isGreat_any _ _).mono ?_; rintro e w' ⟨rfl, rfl⟩)
        go_ret
        refine ⟨v, rfl, ?_, by first | exact below_drewN hb _ | exact hb⟩
        rw [HF.out]
        exact HO.out
      · have hns : (!smallB x) = false := by simp [hs]
        have hgs : gcdTo l (k + 1) = gcdZ (gcdTo l k) x := by simp [gcdTo, HX.out]
        have HGS := Lib.hid hgs
        have hfs : firstTo l (k + 1) = if firstTo l k = 0 then x else firstTo l k := by simp [firstTo, HX.out]
        have HFS := Lib.hid hfs
        clear hgs hfs
        by_cases hf0 : firstTo l k = 0
        · have HF0 := Lib.hid hf0
          have hf0' : (firstTo l k == 0) = true := by simp [hf0]
          clear hf0
          go_wp2_with (first
            | (go_at_call 90; refine (isGreat_any _ _).mono ?_; rintro e w' ⟨rfl, rfl⟩)
            | (go_at_call 55; refine (implGcd_any _ _ _).mono ?_; rintro e w' ⟨rfl, m2, rfl⟩))
          go_roundw
          case rel => exact ⟨k + 1, by omega, by go_num, by rw [HGS.out], by rw [HFS.out, if_pos HF0.out], all_take_succ HX.out HA.out hs, by first | exact ⟨_, rfl⟩ | exact ⟨_, World.drewN_drewN _ _ _⟩⟩
          case measure => simp [intOf]; omega
        · have HF0 := Lib.hid hf0
          have hf0' : (firstTo l k == 0) = false := by simp [hf0]
          clear hf0
          go_wp2_with (first
            | (go_at_call 90; refine (isGreat_any _ _).mono ?_; rintro e w' ⟨rfl, rfl⟩)
            | (go_at_call 55; refine (implGcd_any _ _ _).mono ?_; rintro e w' ⟨rfl, m2, rfl⟩))
          go_roundw
          case rel => exact ⟨k + 1, by omega, by go_num, by rw [HGS.out], by rw [HFS.out, if_neg HF0.out], all_take_succ HX.out HA.out hs, by first | exact ⟨_, rfl⟩ | exact ⟨_, World.drewN_drewN _ _ _⟩⟩
          case measure => simp [intOf]; omega
    · obtain rfl : k = n := by omega
      have hall : l.all smallB = true := by have := HA.out; rwa [List.take_of_length_le (by have := HL.out; omega)] at this
      have hgb := gcdTo_bd l k
      by_cases hg0 : gcdTo l k = 0
      · have hfin : prim l = l := by have h1 := HL.out; rw [← h1] at hg0; simp [prim, hg0]
        have HF := Lib.hid hfin
        have hg0' : (gcdTo l k == 0) = true := by simp [hg0]
        clear hfin hg0 hall
        go_wp2_with fail
        go_ret
        refine ⟨v, rfl, ?_, by first | exact below_drewN hb _ | exact hb⟩
        rw [HF.out]
        exact HO.out
      · have hfin : prim l = l.map (quot (primDen l)) := by have h1 := HL.out; rw [← h1] at hg0; simp only [prim, hall, if_pos, if_neg hg0]
        have HF := Lib.hid hfin
        have hg0' : (gcdTo l k == 0) = false := by simp [hg0]
        have hk0 : 0 < k := by
          rcases Nat.eq_zero_or_pos k with h0 | h0
          · subst h0; exact absurd rfl hg0
          · exact h0
        obtain ⟨g, c1, rfl⟩ : ∃ g c1, v = .slice (some ⟨g, 0, none⟩) k c1 := by
          rcases HO.out.2 with ⟨_, h2⟩ | ⟨g, cap', cur, h1, _⟩
          · have := HL.out; omega
          · exact ⟨g, cap', by rw [h1, HL.out]⟩
        have hd0 : ∃ d, d = primDen l ∧ d ≠ 0 ∧ (if firstTo l k < 0 then -(gcdTo l k) else gcdTo l k) = d := by
          refine ⟨_, rfl, ?_, by unfold primDen; rw [HL.out]⟩
          unfold primDen
          rw [HL.out]
          split <;> omega
        obtain ⟨d, hd1, hd2, hd3⟩ := hd0
        have HD1 := Lib.hid hd1
        have HD3 := Lib.hid hd3
        clear hfin hall hd1 hd3
        have HGB := Lib.hid hg0
        clear hg0
        have hgl : W.heap.size ≤ g ∧ g < w1.heap.size := HO.out.lt g rfl
        have fin : ∀ (neg : Bool), True := fun _ => trivial
        by_cases hneg : firstTo l k < 0
        · go_wp2_with fail
          have hd3' : -(gcdTo l k) = d := by have := HD3.out; rwa [if_pos hneg] at this
          rw [hd3']
          clear hd3'
          have HN := Lib.hid hneg
          clear hneg
          go_loopw [36] (fun i wr => ∃ j : Nat, j ≤ k ∧ i = .int .i64 j ∧ wr.ownsRow W.heap.size 3 1 (.slice (some ⟨g, 0, none⟩) k c1) k ((mapTo (quot d) l j).map (Value.int .i64)) ∧ Below W.heap.size W wr) (fun i _ => k - (intOf i).toNat)
          case atStart =>
            have h2 := HO.out
            unfold OwnInts at h2
            rw [HL.out] at h2
            refine ⟨0, Nat.zero_le _, rfl, ?_, by first | exact below_drewN hb _ | exact hb⟩
            show w1.ownsRow _ _ _ _ _ _
            simpa [mapTo] using h2
          case round =>
            obtain ⟨j, hj, rfl, ho, hbw⟩ := hrel
            by_cases hjl : j < k
            · obtain ⟨x, hx⟩ : ∃ x, l[j]? = some x := ⟨_, List.getElem?_eq_getElem (by have := HL.out; omega)⟩
              have hcd := World.ownsRow.cellAt ho j (by omega)
              rw [List.getElem?_map, mapTo_get hx] at hcd
              have hfz := World.ownsRow.frozenAt ho j
              simp only [Option.map_some] at hcd
              have HO2 := Lib.hid ho
              have HX := Lib.hid hx
              clear ho hx
              have hd2' : (d == 0) = false := by simpa using hd2
              go_wp2
              go_roundw
              case rel =>
                have h3 := ownInts_set (k := j) (x := quot d x) HO2.out
                rw [mapTo_succ HX.out] at h3
                exact ⟨j + 1, by omega, by go_num, h3, hbw.setCell hgl.1 _⟩
              case measure => simp [intOf]; omega
            · obtain rfl : j = k := by omega
              go_wp2
              go_ret
              refine ⟨_, rfl, ?_, hbw⟩
              have h3 := ho
              have e1 : mapTo (quot d) l j = l.map (quot d) := by rw [← HL.out]; exact mapTo_all
              have e2 : (l.map (quot d)).length = j := by rw [List.length_map, HL.out]
              rw [e1] at h3
              rw [HF.out, ← HD1.out]
              unfold OwnInts
              rw [e2]
              exact h3
        · go_wp2_with fail
          have hd3' : gcdTo l k = d := by have := HD3.out; rwa [if_neg (by omega)] at this
          rw [hd3']
          clear hd3'
          have HN := Lib.hid hneg
          clear hneg
          go_loopw [36] (fun i wr => ∃ j : Nat, j ≤ k ∧ i = .int .i64 j ∧ wr.ownsRow W.heap.size 3 1 (.slice (some ⟨g, 0, none⟩) k c1) k ((mapTo (quot d) l j).map (Value.int .i64)) ∧ Below W.heap.size W wr) (fun i _ => k - (intOf i).toNat)
          case atStart =>
            have h2 := HO.out
            unfold OwnInts at h2
            rw [HL.out] at h2
            refine ⟨0, Nat.zero_le _, rfl, ?_, by first | exact below_drewN hb _ | exact hb⟩
            show w1.ownsRow _ _ _ _ _ _
            simpa [mapTo] using h2
          case round =>
            obtain ⟨j, hj, rfl, ho, hbw⟩ := hrel
            by_cases hjl : j < k
            · obtain ⟨x, hx⟩ : ∃ x, l[j]? = some x := ⟨_, List.getElem?_eq_getElem (by have := HL.out; omega)⟩
              have hcd := World.ownsRow.cellAt ho j (by omega)
              rw [List.getElem?_map, mapTo_get hx] at hcd
              have hfz := World.ownsRow.frozenAt ho j
              simp only [Option.map_some] at hcd
              have HO2 := Lib.hid ho
              have HX := Lib.hid hx
              clear ho hx
              have hd2' : (d == 0) = false := by simpa using hd2
              go_wp2
              go_roundw
              case rel =>
                have h3 := ownInts_set (k := j) (x := quot d x) HO2.out
                rw [mapTo_succ HX.out] at h3
                exact ⟨j + 1, by omega, by go_num, h3, hbw.setCell hgl.1 _⟩
              case measure => simp [intOf]; omega
            · obtain rfl : j = k := by omega
              go_wp2
              go_ret
              refine ⟨_, rfl, ?_, hbw⟩
              have h3 := ho
              have e1 : mapTo (quot d) l j = l.map (quot d) := by rw [← HL.out]; exact mapTo_all
              have e2 : (l.map (quot d)).length = j := by rw [List.length_map, HL.out]
              rw [e1] at h3
              rw [HF.out, ← HD1.out]
              unfold OwnInts
              rw [e2]
              exact h3

set_option maxHeartbeats 8000000 in
theorem specPrim_any (a : Option Addr) (n cap : Nat) (l : List Int) (W : World) (h : IntsAt W a n l) (hn : n ≤ 1099511627776) :
    Calls Try.prog 54 #[.slice a n cap] W (RetInts W (prim l)) := by
  have H := Lib.hid h
  obtain ⟨hl, hc⟩ := h
  have HL := Lib.hid hl
  have HC := Lib.hid hc
  clear hl hc
  have COPY : ∀ v' w1, OwnInts w1 W.heap.size v' ([] ++ l) → Kept (fun k => some k = Value.ownBlock (.slice (some ⟨W.heap.size, 0, none⟩) 0 0)) (W.alloc (.cells #[] 3)) w1 → OwnInts w1 W.heap.size v' l ∧ Below W.heap.size W w1 := fun v' w1 h1 h2 =>
    ⟨by simpa using h1, ((Below.refl _ W).alloc (Nat.le_refl _) _).trans (h2.setOwn (OwnInts.made W W.heap.size (Nat.le_refl _)) (Nat.le_refl _) (by simp))⟩
  have COPY' := Lib.hid COPY
  clear COPY
  go_enter Try.func54, Try.ntmps54
  go_wp2_with fail
  go_loop [3, 4] (fun g i => ∃ k : Nat, k ≤ n ∧ i = .int .i64 k ∧ g = .int .i64 (gcdTo l k) ∧ (l.take k).all smallB = true) (fun _ i => n - (intOf i).toNat)
  case atStart => exact ⟨0, Nat.zero_le _, rfl, rfl, by simp⟩
  case round =>
    obtain ⟨k, hk, rfl, rfl, hall⟩ := hrel
    have HA := Lib.hid hall
    clear hall
    by_cases hlt : k < n
    · obtain ⟨b, off, x, rfl, hbl, hx, hcell⟩ := HC.out k hlt
      have HX := Lib.hid hx
      clear hx
      cases hs : smallB x
      · have hfin := prim_big HX.out hs
        have HF := Lib.hid hfin
        clear hfin
        have hs' : inB x (-9000000000000000000) 9000000000000000000 = false := hs
        have HS := Lib.hid hs
        clear hs
        go_wp2_with (first
          | (go_at_call 66; refine (l1In_any _ _ _ _).mono ?_; rintro e w' ⟨rfl, rfl⟩)
          | (at_builtin; refine appAll rfl _ _ rfl rfl (OwnInts.made W W.heap.size (Nat.le_refl _)) rfl (H.out.below ((Below.refl _ _).alloc (Nat.le_refl _) _)) (by simp; omega) (by simp) ?_; intro v' w1 ho1 hk1))
        go_ret
        obtain ⟨h1, h2⟩ := COPY'.out _ _ ho1 hk1
        exact ⟨_, rfl, by rw [HF.out]; exact h1, h2⟩
      · have hs' : inB x (-9000000000000000000) 9000000000000000000 = true := hs
        have HS := Lib.hid hs
        have hgs : gcdTo l (k + 1) = gcdZ (gcdTo l k) x := by simp [gcdTo, HX.out]
        have HGS := Lib.hid hgs
        clear hgs hs
        go_wp2_with (first
          | (go_at_call 66; refine (l1In_any _ _ _ _).mono ?_; rintro e w' ⟨rfl, rfl⟩)
          | (go_at_call 56; refine (specGcd_any _ _ _).mono ?_; rintro e w' ⟨rfl, rfl⟩))
        go_round
        case rel => exact ⟨k + 1, by omega, by go_num, by rw [HGS.out], all_take_succ HX.out HA.out HS.out⟩
        case measure => simp [intOf]; omega
    · obtain rfl : k = n := by omega
      have hall : l.all smallB = true := by have := HA.out; rwa [List.take_of_length_le (by have := HL.out; omega)] at this
      have hgb := gcdTo_bd l k
      by_cases hg0 : gcdTo l k = 0
      · have hfin : prim l = l := by have h1 := HL.out; rw [← h1] at hg0; simp [prim, hg0]
        have HF := Lib.hid hfin
        have hg0' : (gcdTo l k == 0) = true := by simp [hg0]
        clear hfin hg0 hall
        go_wp2_with (at_builtin; refine appAll rfl _ _ rfl rfl (OwnInts.made W W.heap.size (Nat.le_refl _)) rfl (H.out.below ((Below.refl _ _).alloc (Nat.le_refl _) _)) (by simp; omega) (by simp) ?_; intro v' w1 ho1 hk1)
        go_ret
        obtain ⟨h1, h2⟩ := COPY'.out _ _ ho1 hk1
        exact ⟨_, rfl, by rw [HF.out]; exact h1, h2⟩
      · have hfin : prim l = l.map (quot (primDen l)) := by have h1 := HL.out; rw [← h1] at hg0; simp only [prim, hall, if_pos, if_neg hg0]
        have HF := Lib.hid hfin
        have hg0' : (gcdTo l k == 0) = false := by simp [hg0]
        have hd0 : ∃ d, d = primDen l ∧ d ≠ 0 ∧ (if firstTo l k < 0 then -(gcdTo l k) else gcdTo l k) = d := by
          refine ⟨_, rfl, ?_, by unfold primDen; rw [HL.out]⟩
          unfold primDen
          rw [HL.out]
          split <;> omega
        obtain ⟨d, hd1, hd2, hd3⟩ := hd0
        have HD1 := Lib.hid hd1
        have HD3 := Lib.hid hd3
        have HGB := Lib.hid hg0
        clear hfin hall hd1 hd3 hg0
        go_wp2_with fail
        go_loop [5, 6] (fun f i => ∃ j : Nat, j ≤ k ∧ i = .int .i64 j ∧ f = .int .i64 (firstTo l j)) (fun _ i => k - (intOf i).toNat)
        case atStart => exact ⟨0, Nat.zero_le _, rfl, rfl⟩
        case round =>
          obtain ⟨j, hj, rfl, rfl⟩ := hrel
          by_cases hjl : j < k
          · obtain ⟨b, off, x, rfl, hbl, hx, hcell⟩ := HC.out j hjl
            have hfs : firstTo l (j + 1) = if firstTo l j = 0 then x else firstTo l j := by simp [firstTo, hx]
            have HFS := Lib.hid hfs
            clear hfs hx
            by_cases hf0 : firstTo l j = 0
            · have HF0 := Lib.hid hf0
              have hf0' : (firstTo l j == 0) = true := by simp [hf0]
              clear hf0
              go_wp2_with fail
              go_round
              case rel => exact ⟨j + 1, by omega, by go_num, by rw [HFS.out, if_pos HF0.out]⟩
              case measure => simp [intOf]; omega
            · have HF0 := Lib.hid hf0
              have hf0' : (firstTo l j == 0) = false := by simp [hf0]
              clear hf0
              go_wp2_with fail
              go_round
              case rel => exact ⟨j + 1, by omega, by go_num, by rw [HFS.out, if_neg HF0.out]⟩
              case measure => simp [intOf]; omega
          · obtain rfl : j = k := by omega
            by_cases hneg : firstTo l j < 0
            · go_wp2_with fail
              have hd3' : -(gcdTo l j) = d := by have := HD3.out; rwa [if_pos hneg] at this
              rw [hd3']
              clear hd3'
              have HN := Lib.hid hneg
              clear hneg
              go_loopw [7, 8] (fun v i wr => ∃ q : Nat, q ≤ j ∧ i = .int .i64 q ∧ OwnInts wr W.heap.size v ((l.take q).map (quot d)) ∧ Below W.heap.size W wr) (fun _ i _ => j - (intOf i).toNat)
              case atStart => exact ⟨0, Nat.zero_le _, rfl, by simpa using OwnInts.made W _ (Nat.le_refl _), (Below.refl _ _).alloc (Nat.le_refl _) _⟩
              case round =>
                obtain ⟨q, hq, rfl, ho, hbw⟩ := hrel
                have HO := Lib.hid ho
                clear ho
                have htl : (l.take q).length ≤ q := List.length_take_le _ _
                by_cases hql : q < j
                · obtain ⟨b, off, x, rfl, hbl, hx, hcell⟩ := HC.out q hql
                  have HX := Lib.hid hx
                  clear hx
                  have hcw : wr.cell? ⟨b, off + q, none⟩ = some (.int .i64 x) := (hbw.cell (p := ⟨b, off + q, none⟩) hbl).trans hcell
                  clear hcell
                  have hd2' : (d == 0) = false := by simpa using hd2
                  go_wp2_with (at_builtin; refine app1 rfl _ _ rfl rfl HO.out _ rfl (by simp only [List.length_map]; omega) hbw.size ?_; intro v' w1 ho1 hk1)
                  go_roundw
                  case rel => exact ⟨q + 1, by omega, by go_num, by rw [take_succ_of HX.out, List.map_append]; exact ho1, hbw.trans (hk1.setOwn HO.out (Nat.le_refl _) hbw.size)⟩
                  case measure => simp [intOf]; omega
                · obtain rfl : q = j := by omega
                  go_wp2_with fail
                  go_ret
                  refine ⟨_, rfl, ?_, hbw⟩
                  have h3 := HO.out
                  rw [List.take_of_length_le (by have := HL.out; omega)] at h3
                  rw [HF.out, ← HD1.out]
                  exact h3
            · go_wp2_with fail
              have hd3' : gcdTo l j = d := by have := HD3.out; rwa [if_neg (by omega)] at this
              rw [hd3']
              clear hd3'
              have HN := Lib.hid hneg
              clear hneg
              go_loopw [7, 8] (fun v i wr => ∃ q : Nat, q ≤ j ∧ i = .int .i64 q ∧ OwnInts wr W.heap.size v ((l.take q).map (quot d)) ∧ Below W.heap.size W wr) (fun _ i _ => j - (intOf i).toNat)
              case atStart => exact ⟨0, Nat.zero_le _, rfl, by simpa using OwnInts.made W _ (Nat.le_refl _), (Below.refl _ _).alloc (Nat.le_refl _) _⟩
              case round =>
                obtain ⟨q, hq, rfl, ho, hbw⟩ := hrel
                have HO := Lib.hid ho
                clear ho
                have htl : (l.take q).length ≤ q := List.length_take_le _ _
                by_cases hql : q < j
                · obtain ⟨b, off, x, rfl, hbl, hx, hcell⟩ := HC.out q hql
                  have HX := Lib.hid hx
                  clear hx
                  have hcw : wr.cell? ⟨b, off + q, none⟩ = some (.int .i64 x) := (hbw.cell (p := ⟨b, off + q, none⟩) hbl).trans hcell
                  clear hcell
                  have hd2' : (d == 0) = false := by simpa using hd2
                  go_wp2_with (at_builtin; refine app1 rfl _ _ rfl rfl HO.out _ rfl (by simp only [List.length_map]; omega) hbw.size ?_; intro v' w1 ho1 hk1)
                  go_roundw
                  case rel => exact ⟨q + 1, by omega, by go_num, by rw [take_succ_of HX.out, List.map_append]; exact ho1, hbw.trans (hk1.setOwn HO.out (Nat.le_refl _) hbw.size)⟩
                  case measure => simp [intOf]; omega
                · obtain rfl : q = j := by omega
                  go_wp2_with fail
                  go_ret
                  refine ⟨_, rfl, ?_, hbw⟩
                  have h3 := HO.out
                  rw [List.take_of_length_le (by have := HL.out; omega)] at h3
                  rw [HF.out, ← HD1.out]
                  exact h3
theorem spec_PrimitiveVector (W : World) (v : Value) (l : List Int) (h : IsInts W v l) (hn : l.length ≤ 1048576) : Calls Try.prog 54 #[v] W (RetInts W (prim l)) := by
  obtain ⟨a, cap, rfl, hi⟩ := h
  exact specPrim_any _ _ _ _ _ hi (by omega)
theorem impl_PrimitiveVector (W : World) (v : Value) (l : List Int) (h : IsInts W v l) (hn : l.length ≤ 1048576) : Calls Try.prog 49 #[v] W (RetInts W (prim l)) := by
  obtain ⟨a, cap, rfl, hi⟩ := h
  exact implPrim_any _ _ _ _ _ hi (by omega)
end Go.Proofs.Ytfdhbbhfilkafaa
