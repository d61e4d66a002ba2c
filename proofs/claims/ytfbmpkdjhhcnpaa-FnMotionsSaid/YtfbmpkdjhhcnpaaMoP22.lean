/- PrimitiveVector of the program and of the reference. -/
import Derived.Test.YtfbmpkdjhhcnpaaMoP02
import Derived.Test.YtfbmpkdjhhcnpaaMoP21
import Derived.Test.YtfbmpkdjhhcnpaaMoP01
import Derived.Deep.RegionHeld3
namespace Go.Proofs.Ytfbmpkdjhhcnpaa
open Go.RowKit
set_option maxRecDepth 100000
set_option linter.unusedVariables false
set_option linter.unusedSimpArgs false

theorem gcdZ_bd (a b : Int) : 0 ≤ gcdZ a b ∧ gcdZ a b ≤ 9000000000000000000 := by
  unfold gcdZ
  split
  · rename_i h
    simp only [Bool.and_eq_true] at h
    have h1 := smallB_bd h.1
    have h2 := smallB_bd h.2
    refine ⟨by omega, ?_⟩
    rcases Nat.eq_zero_or_pos a.natAbs with h0 | h0
    · rw [h0, Nat.gcd_zero_left]; omega
    · have := Nat.gcd_le_left b.natAbs h0; omega
  · omega
def gcdTo (l : List Int) : Nat → Int
  | 0 => 0
  | k + 1 => gcdZ (gcdTo l k) (l[k]?.getD 0)
theorem gcdTo_bd (l : List Int) (k : Nat) : 0 ≤ gcdTo l k ∧ gcdTo l k ≤ 9000000000000000000 := by
  cases k with
  | zero => simp [gcdTo]
  | succ k => exact gcdZ_bd _ _
def firstTo (l : List Int) : Nat → Int
  | 0 => 0
  | k + 1 => if firstTo l k = 0 then l[k]?.getD 0 else firstTo l k
def primDen (l : List Int) : Int := if firstTo l l.length < 0 then -(gcdTo l l.length) else gcdTo l l.length
def quot (d x : Int) : Int := wrap64 (x.tdiv d)
def prim (l : List Int) : List Int := if l.all smallB = true then (if gcdTo l l.length = 0 then l else l.map (quot (primDen l))) else l
theorem prim_length (l : List Int) : (prim l).length = l.length := by unfold prim; split; split <;> simp; rfl

theorem prim_big {l : List Int} {k : Nat} {x : Int} (h : l[k]? = some x) (hx : smallB x = false) : prim l = l := by
  have : l.all smallB = false := List.all_eq_false.2 ⟨x, List.mem_of_getElem? h, by simp [hx]⟩
  simp [prim, this]

set_option maxHeartbeats 4000000 in
theorem implPrim_any (a : Option Addr) (n cap : Nat) (l : List Int) (W : World) (h : IntsAt W a n l) (hn : n ≤ 1099511627776) :
    Calls Try.prog 50 #[.slice a n cap] W (RetInts W (prim l)) := by
  have H := Lib.hid h
  obtain ⟨hl, hc⟩ := h
  have HL := Lib.hid hl
  have HC := Lib.hid hc
  clear hl hc
  go_enter Try.func50, Try.ntmps50
  go_wp2_with fail
  refine (copyInts_any _ _ _ _ _ H.out hn).mono ?_
  rintro e w1 ⟨v, rfl, ho, hb⟩
  have HO := Lib.hid ho
  clear ho
  go_wp2_with fail
  go_loopw [4, 5, 13] (fun g f i wr => ∃ k : Nat, k ≤ n ∧ i = .int .i64 k ∧ g = .int .i64 (gcdTo l k) ∧ f = .int .i64 (firstTo l k) ∧ (l.take k).all smallB = true ∧ ∃ m, wr = w1.drewN m) (fun _ _ i _ => n - (intOf i).toNat)
  case atStart => exact ⟨0, Nat.zero_le _, rfl, rfl, rfl, by simp, 0, rfl⟩
  case round =>
    obtain ⟨k, hk, rfl, rfl, rfl, hall, m, rfl⟩ := hrel
    have HA := Lib.hid hall
    clear hall
    by_cases hlt : k < n
    · obtain ⟨b, off, x, rfl, hbl, hx, hcell⟩ := HC.out k hlt
      have HX := Lib.hid hx
      clear hx
      have hcw : w1.cell? ⟨b, off + k, none⟩ = some (.int .i64 x) := (hb.cell (p := ⟨b, off + k, none⟩) hbl).trans hcell
      clear hcell
      cases hs : smallB x
      · have hfin := prim_big HX.out hs
        have HF := Lib.hid hfin
        clear hfin
        have hns : (!smallB x) = true := by simp [hs]
        go_wp2_with (go_at_call 67; refine (isGreat_any _ _).mono ?_; rintro e w' ⟨rfl, rfl⟩)
        go_ret
        refine ⟨v, rfl, ?_, by first | exact below_drewN hb _ | exact hb⟩
        rw [HF.out]
        exact HO.out
      · have hns : (!smallB x) = false := by simp [hs]
        have hgs : gcdTo l (k + 1) = gcdZ (gcdTo l k) x := by simp [gcdTo, HX.out]
        have HGS := Lib.hid hgs
        have hfs : firstTo l (k + 1) = if firstTo l k = 0 then x else firstTo l k := by simp [firstTo, HX.out]
        have HFS := Lib.hid hfs
        clear hgs hfs
        by_cases hf0 : firstTo l k = 0
        · have HF0 := Lib.hid hf0
          have hf0' : (firstTo l k == 0) = true := by simp [hf0]
          clear hf0
          go_wp2_with (first
            | (go_at_call 67; refine (isGreat_any _ _).mono ?_; rintro e w' ⟨rfl, rfl⟩)
            | (go_at_call 68; refine (implGcd_any _ _ _).mono ?_; rintro e w' ⟨rfl, m2, rfl⟩))
          go_roundw
          case rel => exact ⟨k + 1, by omega, by go_num, by rw [HGS.out], by rw [HFS.out, if_pos HF0.out], all_take_succ HX.out HA.out hs, by first | exact ⟨_, rfl⟩ | exact ⟨_, World.drewN_drewN _ _ _⟩⟩
          case measure => simp [intOf]; omega
        · have HF0 := Lib.hid hf0
          have hf0' : (firstTo l k == 0) = false := by simp [hf0]
          clear hf0
          go_wp2_with (first
            | (go_at_call 67; refine (isGreat_any _ _).mono ?_; rintro e w' ⟨rfl, rfl⟩)
            | (go_at_call 68; refine (implGcd_any _ _ _).mono ?_; rintro e w' ⟨rfl, m2, rfl⟩))
          go_roundw
          case rel => exact ⟨k + 1, by omega, by go_num, by rw [HGS.out], by rw [HFS.out, if_neg HF0.out], all_take_succ HX.out HA.out hs, by first | exact ⟨_, rfl⟩ | exact ⟨_, World.drewN_drewN _ _ _⟩⟩
          case measure => simp [intOf]; omega
    · obtain rfl : k = n := by omega
      have hall : l.all smallB = true := by have := HA.out; rwa [List.take_of_length_le (by have := HL.out; omega)] at this
      have hgb := gcdTo_bd l k
      by_cases hg0 : gcdTo l k = 0
      · have hfin : prim l = l := by have h1 := HL.out; rw [← h1] at hg0; simp [prim, hg0]
        have HF := Lib.hid hfin
        have hg0' : (gcdTo l k == 0) = true := by simp [hg0]
        clear hfin hg0 hall
        go_wp2_with fail
        go_ret
        refine ⟨v, rfl, ?_, by first | exact below_drewN hb _ | exact hb⟩
        rw [HF.out]
        exact HO.out
      · have hfin : prim l = l.map (quot (primDen l)) := by have h1 := HL.out; rw [← h1] at hg0; simp only [prim, hall, if_pos, if_neg hg0]
        have HF := Lib.hid hfin
        have hg0' : (gcdTo l k == 0) = false := by simp [hg0]
        have hk0 : 0 < k := by
          rcases Nat.eq_zero_or_pos k with h0 | h0
          · subst h0; exact absurd rfl hg0
          · exact h0
        obtain ⟨g, c1, rfl⟩ : ∃ g c1, v = .slice (some ⟨g, 0, none⟩) k c1 := by
          rcases HO.out.2 with ⟨_, h2⟩ | ⟨g, cap', cur, h1, _⟩
          · have := HL.out; omega
          · exact ⟨g, cap', by rw [h1, HL.out]⟩
        have hd0 : ∃ d, d = primDen l ∧ d ≠ 0 ∧ (if firstTo l k < 0 then -(gcdTo l k) else gcdTo l k) = d := by
          refine ⟨_, rfl, ?_, by unfold primDen; rw [HL.out]⟩
          unfold primDen
          rw [HL.out]
          split <;> omega
        obtain ⟨d, hd1, hd2, hd3⟩ := hd0
        have HD1 := Lib.hid hd1
        have HD3 := Lib.hid hd3
        clear hfin hall hd1 hd3
        have HGB := Lib.hid hg0
        clear hg0
        have hgl : W.heap.size ≤ g ∧ g < w1.heap.size := HO.out.lt g rfl
        have fin : ∀ (neg : Bool), True := fun _ => trivial
        by_cases hneg : firstTo l k < 0
        · go_wp2_with fail
          have hd3' : -(gcdTo l k) = d := by have := HD3.out; rwa [if_pos hneg] at this
          rw [hd3']
          clear hd3'
          have HN := Lib.hid hneg
          clear hneg
          go_loopw [36] (fun i wr => ∃ j : Nat, j ≤ k ∧ i = .int .i64 j ∧ wr.ownsRow W.heap.size 3 1 (.slice (some ⟨g, 0, none⟩) k c1) k ((mapTo (quot d) l j).map (Value.int .i64)) ∧ Below W.heap.size W wr) (fun i _ => k - (intOf i).toNat)
          case atStart =>
            have h2 := HO.out
            unfold OwnInts at h2
            rw [HL.out] at h2
            refine ⟨0, Nat.zero_le _, rfl, ?_, by first | exact below_drewN hb _ | exact hb⟩
            show w1.ownsRow _ _ _ _ _ _
            simpa [mapTo] using h2
          case round =>
            obtain ⟨j, hj, rfl, ho, hbw⟩ := hrel
            by_cases hjl : j < k
            · obtain ⟨x, hx⟩ : ∃ x, l[j]? = some x := ⟨_, List.getElem?_eq_getElem (by have := HL.out; omega)⟩
              have hcd := World.ownsRow.cellAt ho j (by omega)
              rw [List.getElem?_map, mapTo_get hx] at hcd
              have hfz := World.ownsRow.frozenAt ho j
              simp only [Option.map_some] at hcd
              have HO2 := Lib.hid ho
              have HX := Lib.hid hx
              clear ho hx
              have hd2' : (d == 0) = false := by simpa using hd2
              go_wp2
              go_roundw
              case rel =>
                have h3 := ownInts_set (k := j) (x := quot d x) HO2.out
                rw [mapTo_succ HX.out] at h3
                exact ⟨j + 1, by omega, by go_num, h3, hbw.setCell hgl.1 _⟩
              case measure => simp [intOf]; omega
            · obtain rfl : j = k := by omega
              go_wp2
              go_ret
              refine ⟨_, rfl, ?_, hbw⟩
              have h3 := ho
              have e1 : mapTo (quot d) l j = l.map (quot d) := by rw [← HL.out]; exact mapTo_all
              have e2 : (l.map (quot d)).length = j := by rw [List.length_map, HL.out]
              rw [e1] at h3
              rw [HF.out, ← HD1.out]
              unfold OwnInts
              rw [e2]
              exact h3
        · go_wp2_with fail
          have hd3' : gcdTo l k = d := by have := HD3.out; rwa [if_neg (by omega)] at this
          rw [hd3']
          clear hd3'
          have HN := Lib.hid hneg
          clear hneg
          go_loopw [36] (fun i wr => ∃ j : Nat, j ≤ k ∧ i = .int .i64 j ∧ wr.ownsRow W.heap.size 3 1 (.slice (some ⟨g, 0, none⟩) k c1) k ((mapTo (quot d) l j).map (Value.int .i64)) ∧ Below W.heap.size W wr) (fun i _ => k - (intOf i).toNat)
          case atStart =>
            have h2 := HO.out
            unfold OwnInts at h2
            rw [HL.out] at h2
            refine ⟨0, Nat.zero_le _, rfl, ?_, by first | exact below_drewN hb _ | exact hb⟩
            show w1.ownsRow _ _ _ _ _ _
            simpa [mapTo] using h2
          case round =>
            obtain ⟨j, hj, rfl, ho, hbw⟩ := hrel
            by_cases hjl : j < k
            · obtain ⟨x, hx⟩ : ∃ x, l[j]? = some x := ⟨_, List.getElem?_eq_getElem (by have := HL.out; omega)⟩
              have hcd := World.ownsRow.cellAt ho j (by omega)
              rw [List.getElem?_map, mapTo_get hx] at hcd
              have hfz := World.ownsRow.frozenAt ho j
              simp only [Option.map_some] at hcd
              have HO2 := Lib.hid ho
              have HX := Lib.hid hx
              clear ho hx
              have hd2' : (d == 0) = false := by simpa using hd2
              go_wp2
              go_roundw
              case rel =>
                have h3 := ownInts_set (k := j) (x := quot d x) HO2.out
                rw [mapTo_succ HX.out] at h3
                exact ⟨j + 1, by omega, by go_num, h3, hbw.setCell hgl.1 _⟩
              case measure => simp [intOf]; omega
            · obtain rfl : j = k := by omega
              go_wp2
              go_ret
              refine ⟨_, rfl, ?_, hbw⟩
              have h3 := ho
              have e1 : mapTo (quot d) l j = l.map (quot d) := by rw [← HL.out]; exact mapTo_all
              have e2 : (l.map (quot d)).length = j := by rw [List.length_map, HL.out]
              rw [e1] at h3
              rw [HF.out, ← HD1.out]
              unfold OwnInts
              rw [e2]
              exact h3

set_option maxHeartbeats 8000000 in
theorem specPrim_any (a : Option Addr) (n cap : Nat) (l : List Int) (W : World) (h : IntsAt W a n l) (hn : n ≤ 1099511627776) :
    Calls Try.prog 53 #[.slice a n cap] W (RetInts W (prim l)) := by
  have H := Lib.hid h
  obtain ⟨hl, hc⟩ := h
  have HL := Lib.hid hl
  have HC := Lib.hid hc
  clear hl hc
  have COPY : ∀ v' w1, OwnInts w1 W.heap.size v' ([] ++ l) → Kept (fun k => some k = Value.ownBlock (.slice (some ⟨W.heap.size, 0, none⟩) 0 0)) (W.alloc (.cells #[] 3)) w1 → OwnInts w1 W.heap.size v' l ∧ Below W.heap.size W w1 := fun v' w1 h1 h2 =>
    ⟨by simpa using h1, ((Below.refl _ W).alloc (Nat.le_refl _) _).trans (h2.setOwn (OwnInts.made W W.heap.size (Nat.le_refl _)) (Nat.le_refl _) (by simp))⟩
  have COPY' := Lib.hid COPY
  clear COPY
  go_enter Try.func53, Try.ntmps53
  go_wp2_with fail
  go_loop [3, 4] (fun g i => ∃ k : Nat, k ≤ n ∧ i = .int .i64 k ∧ g = .int .i64 (gcdTo l k) ∧ (l.take k).all smallB = true) (fun _ i => n - (intOf i).toNat)
  case atStart => exact ⟨0, Nat.zero_le _, rfl, rfl, by simp⟩
  case round =>
    obtain ⟨k, hk, rfl, rfl, hall⟩ := hrel
    have HA := Lib.hid hall
    clear hall
    by_cases hlt : k < n
    · obtain ⟨b, off, x, rfl, hbl, hx, hcell⟩ := HC.out k hlt
      have HX := Lib.hid hx
      clear hx
      cases hs : smallB x
      · have hfin := prim_big HX.out hs
        have HF := Lib.hid hfin
        clear hfin
        have hs' : inB x (-9000000000000000000) 9000000000000000000 = false := hs
        have HS := Lib.hid hs
        clear hs
        go_wp2_with (first
          | (go_at_call 37; refine (l1In_any _ _ _ _).mono ?_; rintro e w' ⟨rfl, rfl⟩)
          | (at_builtin; refine appAll rfl _ _ rfl rfl (OwnInts.made W W.heap.size (Nat.le_refl _)) rfl (H.out.below ((Below.refl _ _).alloc (Nat.le_refl _) _)) (by simp; omega) (by simp) ?_; intro v' w1 ho1 hk1))
        go_ret
        obtain ⟨h1, h2⟩ := COPY'.out _ _ ho1 hk1
        exact ⟨_, rfl, by rw [HF.out]; exact h1, h2⟩
      · have hs' : inB x (-9000000000000000000) 9000000000000000000 = true := hs
        have HS := Lib.hid hs
        have hgs : gcdTo l (k + 1) = gcdZ (gcdTo l k) x := by simp [gcdTo, HX.out]
        have HGS := Lib.hid hgs
        clear hgs hs
        go_wp2_with (first
          | (go_at_call 37; refine (l1In_any _ _ _ _).mono ?_; rintro e w' ⟨rfl, rfl⟩)
          | (go_at_call 52; refine (specGcd_any _ _ _).mono ?_; rintro e w' ⟨rfl, rfl⟩))
        go_round
        case rel => exact ⟨k + 1, by omega, by go_num, by rw [HGS.out], all_take_succ HX.out HA.out HS.out⟩
        case measure => simp [intOf]; omega
    · obtain rfl : k = n := by omega
      have hall : l.all smallB = true := by have := HA.out; rwa [List.take_of_length_le (by have := HL.out; omega)] at this
      have hgb := gcdTo_bd l k
      by_cases hg0 : gcdTo l k = 0
      · have hfin : prim l = l := by have h1 := HL.out; rw [← h1] at hg0; simp [prim, hg0]
        have HF := Lib.hid hfin
        have hg0' : (gcdTo l k == 0) = true := by simp [hg0]
        clear hfin hg0 hall
        go_wp2_with (at_builtin; refine appAll rfl _ _ rfl rfl (OwnInts.made W W.heap.size (Nat.le_refl _)) rfl (H.out.below ((Below.refl _ _).alloc (Nat.le_refl _) _)) (by simp; omega) (by simp) ?_; intro v' w1 ho1 hk1)
        go_ret
        obtain ⟨h1, h2⟩ := COPY'.out _ _ ho1 hk1
        exact ⟨_, rfl, by rw [HF.out]; exact h1, h2⟩
      · have hfin : prim l = l.map (quot (primDen l)) := by have h1 := HL.out; rw [← h1] at hg0; simp only [prim, hall, if_pos, if_neg hg0]
        have HF := Lib.hid hfin
        have hg0' : (gcdTo l k == 0) = false := by simp [hg0]
        have hd0 : ∃ d, d = primDen l ∧ d ≠ 0 ∧ (if firstTo l k < 0 then -(gcdTo l k) else gcdTo l k) = d := by
          refine ⟨_, rfl, ?_, by unfold primDen; rw [HL.out]⟩
          unfold primDen
          rw [HL.out]
          split <;> omega
        obtain ⟨d, hd1, hd2, hd3⟩ := hd0
        have HD1 := Lib.hid hd1
        have HD3 := Lib.hid hd3
        have HGB := Lib.hid hg0
        clear hfin hall hd1 hd3 hg0
        go_wp2_with fail
        go_loop [5, 6] (fun f i => ∃ j : Nat, j ≤ k ∧ i = .int .i64 j ∧ f = .int .i64 (firstTo l j)) (fun _ i => k - (intOf i).toNat)
        case atStart => exact ⟨0, Nat.zero_le _, rfl, rfl⟩
        case round =>
          obtain ⟨j, hj, rfl, rfl⟩ := hrel
          by_cases hjl : j < k
          · obtain ⟨b, off, x, rfl, hbl, hx, hcell⟩ := HC.out j hjl
            have hfs : firstTo l (j + 1) = if firstTo l j = 0 then x else firstTo l j := by simp [firstTo, hx]
            have HFS := Lib.hid hfs
            clear hfs hx
            by_cases hf0 : firstTo l j = 0
            · have HF0 := Lib.hid hf0
              have hf0' : (firstTo l j == 0) = true := by simp [hf0]
              clear hf0
              go_wp2_with fail
              go_round
              case rel => exact ⟨j + 1, by omega, by go_num, by rw [HFS.out, if_pos HF0.out]⟩
              case measure => simp [intOf]; omega
            · have HF0 := Lib.hid hf0
              have hf0' : (firstTo l j == 0) = false := by simp [hf0]
              clear hf0
              go_wp2_with fail
              go_round
              case rel => exact ⟨j + 1, by omega, by go_num, by rw [HFS.out, if_neg HF0.out]⟩
              case measure => simp [intOf]; omega
          · obtain rfl : j = k := by omega
            by_cases hneg : firstTo l j < 0
            · go_wp2_with fail
              have hd3' : -(gcdTo l j) = d := by have := HD3.out; rwa [if_pos hneg] at this
              rw [hd3']
              clear hd3'
              have HN := Lib.hid hneg
              clear hneg
              go_loopw [7, 8] (fun v i wr => ∃ q : Nat, q ≤ j ∧ i = .int .i64 q ∧ OwnInts wr W.heap.size v ((l.take q).map (quot d)) ∧ Below W.heap.size W wr) (fun _ i _ => j - (intOf i).toNat)
              case atStart => exact ⟨0, Nat.zero_le _, rfl, by simpa using OwnInts.made W _ (Nat.le_refl _), (Below.refl _ _).alloc (Nat.le_refl _) _⟩
              case round =>
                obtain ⟨q, hq, rfl, ho, hbw⟩ := hrel
                have HO := Lib.hid ho
                clear ho
                have htl : (l.take q).length ≤ q := List.length_take_le _ _
                by_cases hql : q < j
                · obtain ⟨b, off, x, rfl, hbl, hx, hcell⟩ := HC.out q hql
                  have HX := Lib.hid hx
                  clear hx
                  have hcw : wr.cell? ⟨b, off + q, none⟩ = some (.int .i64 x) := (hbw.cell (p := ⟨b, off + q, none⟩) hbl).trans hcell
                  clear hcell
                  have hd2' : (d == 0) = false := by simpa using hd2
                  go_wp2_with (at_builtin; refine app1 rfl _ _ rfl rfl HO.out _ rfl (by simp only [List.length_map]; omega) hbw.size ?_; intro v' w1 ho1 hk1)
                  go_roundw
                  case rel => exact ⟨q + 1, by omega, by go_num, by rw [take_succ_of HX.out, List.map_append]; exact ho1, hbw.trans (hk1.setOwn HO.out (Nat.le_refl _) hbw.size)⟩
                  case measure => simp [intOf]; omega
                · obtain rfl : q = j := by omega
                  go_wp2_with fail
                  go_ret
                  refine ⟨_, rfl, ?_, hbw⟩
                  have h3 := HO.out
                  rw [List.take_of_length_le (by have := HL.out; omega)] at h3
                  rw [HF.out, ← HD1.out]
                  exact h3
            · go_wp2_with fail
              have hd3' : gcdTo l j = d := by have := HD3.out; rwa [if_neg (by omega)] at this
              rw [hd3']
              clear hd3'
              have HN := Lib.hid hneg
              clear hneg
              go_loopw [7, 8] (fun v i wr => ∃ q : Nat, q ≤ j ∧ i = .int .i64 q ∧ OwnInts wr W.heap.size v ((l.take q).map (quot d)) ∧ Below W.heap.size W wr) (fun _ i _ => j - (intOf i).toNat)
              case atStart => exact ⟨0, Nat.zero_le _, rfl, by simpa using OwnInts.made W _ (Nat.le_refl _), (Below.refl _ _).alloc (Nat.le_refl _) _⟩
              case round =>
                obtain ⟨q, hq, rfl, ho, hbw⟩ := hrel
                have HO := Lib.hid ho
                clear ho
                have htl : (l.take q).length ≤ q := List.length_take_le _ _
                by_cases hql : q < j
                · obtain ⟨b, off, x, rfl, hbl, hx, hcell⟩ := HC.out q hql
                  have HX := Lib.hid hx
                  clear hx
                  have hcw : wr.cell? ⟨b, off + q, none⟩ = some (.int .i64 x) := (hbw.cell (p := ⟨b, off + q, none⟩) hbl).trans hcell
                  clear hcell
                  have hd2' : (d == 0) = false := by simpa using hd2
                  go_wp2_with (at_builtin; refine app1 rfl _ _ rfl rfl HO.out _ rfl (by simp only [List.length_map]; omega) hbw.size ?_; intro v' w1 ho1 hk1)
                  go_roundw
                  case rel => exact ⟨q + 1, by omega, by go_num, by rw [take_succ_of HX.out, List.map_append]; exact ho1, hbw.trans (hk1.setOwn HO.out (Nat.le_refl _) hbw.size)⟩
                  case measure => simp [intOf]; omega
                · obtain rfl : q = j := by omega
                  go_wp2_with fail
                  go_ret
                  refine ⟨_, rfl, ?_, hbw⟩
                  have h3 := HO.out
                  rw [List.take_of_length_le (by have := HL.out; omega)] at h3
                  rw [HF.out, ← HD1.out]
                  exact h3
theorem spec_PrimitiveVector (W : World) (v : Value) (l : List Int) (h : IsInts W v l) (hn : l.length ≤ 1048576) : Calls Try.prog 53 #[v] W (RetInts W (prim l)) := by
  obtain ⟨a, cap, rfl, hi⟩ := h
  exact specPrim_any _ _ _ _ _ hi (by omega)
theorem impl_PrimitiveVector (W : World) (v : Value) (l : List Int) (h : IsInts W v l) (hn : l.length ≤ 1048576) : Calls Try.prog 50 #[v] W (RetInts W (prim l)) := by
  obtain ⟨a, cap, rfl, hi⟩ := h
  exact implPrim_any _ _ _ _ _ hi (by omega)
end Go.Proofs.Ytfbmpkdjhhcnpaa

namespace Go.Proofs.Ytfbmpkdjhhcnpaa
open Go.RowKit Gr
set_option maxRecDepth 100000
set_option linter.unusedVariables false
set_option linter.unusedSimpArgs false

theorem smallB_of {x : Int} (h : -9000000000000000000 ≤ x ∧ x ≤ 9000000000000000000) : smallB x = true := by simp [smallB, inB]; exact h
theorem gcdZ_of {x y : Int} (hx : -9000000000000000000 ≤ x ∧ x ≤ 9000000000000000000) (hy : -9000000000000000000 ≤ y ∧ y ≤ 9000000000000000000) : gcdZ x y = (Nat.gcd x.natAbs y.natAbs : Int) := by
  unfold gcdZ; rw [smallB_of hx, smallB_of hy]; rfl
theorem gcdTo_rowL {n : Nat} {f : Nat → Int} (h : ∀ k, k < n → -9000000000000000000 ≤ f k ∧ f k ≤ 9000000000000000000) {k : Nat} (hk : k ≤ n) : gcdTo (rowL n f) k = (pgF f k : Int) := by
  induction k with
  | zero => rfl
  | succ k ih =>
    have e := ih (by omega)
    have hb := gcdTo_bd (rowL n f) k
    rw [e] at hb
    simp only [gcdTo, pgF]
    rw [e, rowL_get (by omega)]
    show gcdZ (pgF f k : Int) (f k) = _
    rw [gcdZ_of (by omega) (h k (by omega))]; rfl
theorem firstTo_rowL {n : Nat} {f : Nat → Int} {k : Nat} (hk : k ≤ n) : firstTo (rowL n f) k = fsF f k := by
  induction k with
  | zero => rfl
  | succ k ih =>
    simp only [firstTo, fsF]
    rw [ih (by omega), rowL_get (by omega)]; rfl
theorem prim_rowL {n : Nat} {f : Nat → Int} (h : ∀ k, k < n → -9000000000000000000 ≤ f k ∧ f k ≤ 9000000000000000000) : prim (rowL n f) = rowL n (primF n f) := by
  have hall : (rowL n f).all smallB = true := by
    simp only [rowL, List.all_map, List.all_eq_true]
    intro k hk
    exact smallB_of (h k (List.mem_range.1 hk))
  have hg := gcdTo_rowL h (Nat.le_refl n)
  unfold prim primDen
  rw [if_pos hall, rowL_length, hg, firstTo_rowL (Nat.le_refl n)]
  by_cases h0 : pgF f n = 0
  · rw [if_pos (by omega)]
    exact rowL_congr fun k hk => by unfold primF; rw [if_pos h0]
  · rw [if_neg (by omega)]
    simp only [rowL, List.map_map]
    refine List.map_congr_left fun k hk => ?_
    show quot (denF n f) (f k) = primF n f k
    unfold primF quot
    rw [if_neg h0]
    refine IntWalk.wrap64_in _ ?_
    have h1 : ((f k).tdiv (denF n f)).natAbs ≤ (f k).natAbs := by rw [Int.natAbs_tdiv]; exact Nat.div_le_self _ _
    have h2 := h k (List.mem_range.1 hk)
    generalize (f k).tdiv (denF n f) = z at *
    omega
theorem primF_bd {n : Nat} {f : Nat → Int} {b : Nat} (h : ∀ k, k < n → (f k).natAbs ≤ b) {k : Nat} (hk : k < n) : (primF n f k).natAbs ≤ b := by
  unfold primF
  split
  · exact h k hk
  · rw [Int.natAbs_tdiv]; exact Nat.le_trans (Nat.div_le_self _ _) (h k hk)

set_option maxHeartbeats 4000000 in
theorem l9Clean_any (a : Option Addr) (n cap : Nat) (l : List Int) (W : World) (h : IntsAt W a n l) (hn : n ≤ 1048576) : Calls Try.prog 56 #[.slice a n cap] W (RetInts W (prim l)) := by
  have H := Lib.hid h
  clear h
  go_enter Try.func56, Try.ntmps56
  go_wp2_with fail
  refine (specPrim_any _ _ _ _ _ H.out (by omega)).mono ?_
  rintro e w1 ⟨v, rfl, ho, hb⟩
  have HO := Lib.hid ho
  clear ho
  go_wp2_with fail
  go_ret
  exact ⟨_, rfl, HO.out, hb⟩

set_option maxHeartbeats 8000000 in
theorem l9Without_any (n j : Nat) (hj : j < n) (hn : n ≤ 64) (f h : Nat → Int) (hf : ∀ k, k < n → -2121320343 ≤ f k ∧ f k ≤ 2121320343) (hh : ∀ k, k < n → -2121320343 ≤ h k ∧ h k ≤ 2121320343) (hne : f j ≠ 0)
    (W : World) (b c : Nat) (cb cc : Nat) (hb : b < W.heap.size) (hc : c < W.heap.size) (hfb : ∀ k, k < n → W.cell? ⟨b, k, none⟩ = some (.int .i64 (f k))) (hhc : ∀ k, k < n → W.cell? ⟨c, k, none⟩ = some (.int .i64 (h k))) :
    Calls Try.prog 57 #[.slice (some ⟨b, 0, none⟩) n cb, .slice (some ⟨c, 0, none⟩) n cc, .int .i64 j] W (RetInts W (rowL n (primF n (woF f h j)))) := by
  have hwd := @Wd.cells
  have HB := Lib.hid hfb
  have HC := Lib.hid hhc
  have f0 := hfb j hj
  have c0 := hhc j hj
  clear hfb hhc
  have hfj := hf j hj
  have hhj := hh j hj
  have hgz : gcdZ (f j) (h j) = (Nat.gcd (f j).natAbs (h j).natAbs : Int) := gcdZ_of (by omega) (by omega)
  have hG0 : Nat.gcd (f j).natAbs (h j).natAbs ≠ 0 := fun e => hne (Int.natAbs_eq_zero.1 (Nat.gcd_eq_zero_iff.1 e).1)
  have hX : ((h j).tdiv (Nat.gcd (f j).natAbs (h j).natAbs : Int)).natAbs ≤ (h j).natAbs := by rw [Int.natAbs_tdiv]; exact Nat.div_le_self _ _
  have hY : ((f j).tdiv (Nat.gcd (f j).natAbs (h j).natAbs : Int)).natAbs ≤ (f j).natAbs := by rw [Int.natAbs_tdiv]; exact Nat.div_le_self _ _
  have HW : Hid (∀ k, woF f h j k = f k * (h j).tdiv (Nat.gcd (f j).natAbs (h j).natAbs : Int) - h k * (f j).tdiv (Nat.gcd (f j).natAbs (h j).natAbs : Int)) := Lib.hid fun k => rfl
  have cg := fun w => specGcd_any (f j) (h j) w
  simp only [hgz] at cg
  clear hgz
  generalize hGG : Nat.gcd (f j).natAbs (h j).natAbs = G at *
  clear hGG
  have hG1 : (G : Int) ≠ 0 := by omega
  have q1 : IntKind.i64.wrap ((h j).tdiv (G : Int)) = (h j).tdiv (G : Int) := IntWalk.i64_in _ (by generalize (h j).tdiv (G : Int) = z at *; omega)
  have q2 : IntKind.i64.wrap ((f j).tdiv (G : Int)) = (f j).tdiv (G : Int) := IntWalk.i64_in _ (by generalize (f j).tdiv (G : Int) = z at *; omega)
  have hX1 : -2121320343 ≤ (h j).tdiv (G : Int) ∧ (h j).tdiv (G : Int) ≤ 2121320343 := by generalize (h j).tdiv (G : Int) = z at *; omega
  have hY1 : -2121320343 ≤ (f j).tdiv (G : Int) ∧ (f j).tdiv (G : Int) ≤ 2121320343 := by generalize (f j).tdiv (G : Int) = z at *; omega
  clear hX hY
  have hj0 : (0 : Int) ≤ (j : Int) := by omega
  have hj1 : (j : Int) < (n : Int) := by omega
  have HF := Lib.hid hf
  have HH := Lib.hid hh
  clear hf hh
  go_enter Try.func57, Try.ntmps57
  go_wp2_with fail
  refine wp_region_wd (by kernel_rfl) (by kernel_rfl) ?_
  repeat (go_big_quiet_step ((first | (go_at_call 52; exact Calls.wd_of ((cg _).mono fun _ _ ⟨he, hw⟩ => ⟨he, by rw [← hw]; exact Below.refl _ _⟩)))))
  refine wpQuiet_nil ?_
  intro n1
  have hb1 := n1.h
  have hz1 := hb1.size
  go_wp2_with fail
  generalize (h j).tdiv (G : Int) = x at *
  generalize (f j).tdiv (G : Int) = y at *
  clear q1 q2 cg hG1 hG0 f0 c0
  have hb2 : Below W.heap.size W (n1.w.alloc (.cells #[] 3)) := hb1.alloc hz1 _
  have ho2 : OwnInts (n1.w.alloc (.cells #[] 3)) W.heap.size (.slice (some ⟨n1.w.heap.size, 0, none⟩) 0 0) [] := ownsRow_base (OwnInts.made _ _ (Nat.le_refl _)) hz1
  go_loopw [10, 11] (fun v i wr => ∃ k : Nat, k ≤ n ∧ i = .int .i64 k ∧ OwnInts wr W.heap.size v (rowL k (woF f h j)) ∧ Below W.heap.size W wr) (fun _ i _ => n - (intOf i).toNat)
  case atStart => exact ⟨0, Nat.zero_le _, rfl, ho2, hb2⟩
  case round =>
    clear ho2 hb2
    obtain ⟨k, hk, rfl, ho, hbw⟩ := hrel
    have HO := Lib.hid ho
    clear ho
    have hzw := hbw.size
    by_cases hlt : k < n
    · have e1 := (hbw.cell (p := ⟨b, k, none⟩) hb).trans (HB.out k hlt)
      have e2 := (hbw.cell (p := ⟨c, k, none⟩) hc).trans (HC.out k hlt)
      have p1 := prod_bd (HF.out k hlt) hX1
      have p2 := prod_bd (HH.out k hlt) hY1
      have r1 := IntWalk.i64_in (f k * x) (by omega)
      have r2 := IntWalk.i64_in (h k * y) (by omega)
      have r3 := IntWalk.i64_in (f k * x - h k * y) (by omega)
      have HWK := Lib.hid (HW.out k)
      have hk0 : (0 : Int) ≤ (k : Int) := by omega
      have hk1 : (k : Int) < (n : Int) := by omega
      clear p1 p2
      go_wp2_with fail
      have bu : Below wr.heap.size wr (wr.alloc (.cells #[.int .i64 (f k * x - h k * y)] 3)).drew := ((Below.refl _ wr).alloc (Nat.le_refl _) _).drew
      have d1 : wr.drew.cell? ⟨b, k, none⟩ = _ := e1
      have d2 : wr.drew.cell? ⟨c, k, none⟩ = _ := e2
      have s1 : (wr.alloc (.cells #[.int .i64 (f k * x - h k * y)] 3)).drew.cell? ⟨b, k, none⟩ = _ := ((bcell bu).1 _ _ (by omega)).trans e1
      have s2 : (wr.alloc (.cells #[.int .i64 (f k * x - h k * y)] 3)).drew.cell? ⟨c, k, none⟩ = _ := ((bcell bu).1 _ _ (by omega)).trans e2
      have s3 : (wr.alloc (.cells #[.int .i64 (f k * x - h k * y)] 3)).drew.cell? ⟨wr.heap.size, 0, none⟩ = some (.int .i64 (f k * x - h k * y)) := by show (wr.alloc _).cell? _ = _; simp [World.cell?_alloc_new]
      have HO2 : Hid (OwnInts (wr.alloc (.cells #[.int .i64 (f k * x - h k * y)] 3)).drew W.heap.size _ (rowL k (woF f h j))) := Lib.hid (HO.out.below bu)
      have hzd : W.heap.size ≤ (wr.alloc (.cells #[.int .i64 (f k * x - h k * y)] 3)).drew.heap.size := by have := bu.size; omega
      go_region_held3 (fun w' => w'.cell? ⟨b, k, none⟩ = some (.int .i64 (f k)) ∧ w'.cell? ⟨c, k, none⟩ = some (.int .i64 (h k)))
        (first | (with_reducible exact ⟨d1, d2⟩) | (with_reducible exact ⟨s1, s2⟩) | (with_reducible exact ⟨t1, t2⟩))
        (first
          | (refine stepInts1 (by rfl) (.tmp 40) (.tmp 54) (by rfl) (by rfl) HO2.out (f k * x - h k * y) wr.heap.size (by rfl) s3 (by rw [rowL_length]; omega) hzd ?_
             intro v' w5 h5 k5 ha5
             have H5 := Lib.hid h5
             clear h5
             have t1 := (k5.cell (o := k) (by omega) (fun e => by have := (HO2.out.lt b e.symm).1; omega)).trans s1
             have t2 := (k5.cell (o := k) (by omega) (fun e => by have := (HO2.out.lt c e.symm).1; omega)).trans s2)
          | fail)
      go_wp2_with fail
      go_roundw
      case rel =>
        refine ⟨k + 1, by omega, by go_num, ?_, (hbw.step bu).trans (k5.setOwn HO2.out (Nat.le_refl _) hzd)⟩
        have e3 : rowL (k + 1) (woF f h j) = rowL k (woF f h j) ++ [f k * x - h k * y] := by
          rw [← HWK.out]; simp [rowL, List.range_succ]
        rw [e3]; exact H5.out
      case measure => simp [intOf]; omega
    · obtain rfl : k = n := by omega
      obtain ⟨ao, co, rfl, hio⟩ := HO.out.form
      have HIO := Lib.hid hio
      have HLL : Hid ((rowL k (woF f h j)).length = k) := Lib.hid (rowL_length _ _)
      clear hio
      rw [HLL.out] at HO HIO ⊢
      go_wp2_with fail
      refine (l9Clean_any _ _ _ _ _ HIO.out (by omega)).mono ?_
      rintro e w3 ⟨v, rfl, hov, hbv⟩
      have HOV := Lib.hid hov
      clear hov
      go_wp2_with fail
      go_ret
      refine ⟨_, rfl, ?_, hbw.step hbv⟩
      have h6 := ownsRow_base HOV.out hzw
      rw [prim_rowL (fun q hq => by
        have p1 := prod_bd (HF.out q hq) hX1
        have p2 := prod_bd (HH.out q hq) hY1
        rw [HW.out q]; omega)] at h6
      exact h6
end Go.Proofs.Ytfbmpkdjhhcnpaa

