/- A matrix with rows and columns exchanged: 'transposed' of the program. Conditions: rows of one length, at most 64 rows and columns. -/
import Derived.Test.YtfdhbbhfilkafaaNulM
import Derived.Deep.RegionHeld3
import Derived.Deep.RegionLaw
namespace Go.Proofs.Ytfdhbbhfilkafaa
open Go.RowKit Gr
set_option maxRecDepth 100000
set_option linter.unusedVariables false
set_option linter.unusedSimpArgs false

def colL (M : List (List Int)) (m j : Nat) : List Int := rowL m fun i => entF M i j
def turnL (M : List (List Int)) (n : Nat) : List (List Int) := (List.range n).map (colL M M.length)
/-- the state: the columns before c whole, column c as far as row i -/
def stT (M : List (List Int)) (n c i : Nat) : List (List Int) := (List.range n).map fun j => if j < c then colL M M.length j else if j = c then colL M i c else []
theorem stT_length (M : List (List Int)) (n c i : Nat) : (stT M n c i).length = n := by simp [stT]
theorem stT_zero (M : List (List Int)) (n : Nat) : stT M n 0 0 = List.replicate n [] := by
  refine List.eq_replicate_iff.2 ⟨stT_length _ _ _ _, fun b hb => ?_⟩
  obtain ⟨j, _, rfl⟩ := List.mem_map.1 hb
  by_cases e : j = 0 <;> simp [e, colL, rowL]
theorem stT_get {M : List (List Int)} {n c i : Nat} (h : c < n) : (stT M n c i)[c]? = some (colL M i c) := by simp [stT, h]
theorem stT_set {M : List (List Int)} {n c i : Nat} (i' : Nat) : (stT M n c i).set c (colL M i' c) = stT M n c i' := by
  refine List.ext_getElem (by simp [stT]) fun j h1 h2 => ?_
  simp only [stT, List.getElem_set, List.getElem_map, List.getElem_range]
  by_cases e : c = j
  · subst e; simp
  · rw [if_neg e, if_neg (Ne.symm e), if_neg (Ne.symm e)]
theorem stT_next (M : List (List Int)) (n c : Nat) : stT M n c M.length = stT M n (c + 1) 0 := by
  refine List.ext_getElem (by simp [stT]) fun j h1 h2 => ?_
  simp only [stT, List.getElem_map, List.getElem_range]
  by_cases e1 : j < c
  · rw [if_pos e1, if_pos (by omega)]
  · by_cases e2 : j = c
    · subst e2; simp
    · rw [if_neg e1, if_neg e2, if_neg (by omega)]
      by_cases e3 : j = c + 1
      · rw [if_pos e3]; simp [colL, rowL]
      · rw [if_neg e3]
theorem stT_done (M : List (List Int)) (n i : Nat) : stT M n n i = turnL M n := by
  refine List.ext_getElem (by simp [stT, turnL]) fun j h1 h2 => ?_
  have : j < n := by simpa [stT] using h1
  simp only [stT, turnL, List.getElem_map, List.getElem_range, if_pos this]
theorem colL_succ (M : List (List Int)) (i c : Nat) : colL M (i + 1) c = colL M i c ++ [entF M i c] := by simp [colL, rowL, List.range_succ]
theorem colL_length (M : List (List Int)) (i c : Nat) : (colL M i c).length = i := by simp [colL, rowL]
theorem entF_get {M : List (List Int)} {i k : Nat} {r : List Int} {x : Int} (h : M[i]? = some r) (hx : r[k]? = some x) : entF M i k = x := by simp [entF, h, hx]

theorem nilRows {W : World} {base n : Nat} : IRows W base (List.replicate n (.slice none 0 0)) (List.replicate n []) := by
  refine ⟨by simp, fun k v r hv hr => ?_, ?_⟩
  · rw [List.getElem?_replicate] at hv hr
    split at hv
    · simp at hv; rw [if_pos ‹_›] at hr; simp at hr; subst hv; subst hr; exact OwnInts.nil W base
    · simp at hv
  · refine List.pairwise_iff_getElem.2 fun i j hi hj hij => ?_
    intro g hg
    simp at hg
    simp [Value.ownBlock] at hg
theorem mat_made {w1 : World} {base g n : Nat} (h : w1.ownsRow base 35 1 (.slice (some ⟨g, 0, none⟩) n n) n (madeCells (Value.cells (.slice none 0 0)) (n * 1)).toList) : MatO w1 base g n n (List.replicate n (.slice none 0 0)) (List.replicate n []) := by
  have e : (madeCells (Value.cells (.slice none 0 0)) (n * 1)).toList = List.replicate n (.slice none 0 0) := by
    rw [Nat.mul_one]
    simp only [Value.cells, toList_madeCells_one]
  rw [e] at h
  exact ⟨h, nilRows⟩

set_option maxHeartbeats 4000000 in
theorem transposed_at (M : List (List Int)) (n m : Nat) (hr : ∀ r ∈ M, r.length = n) (hn0 : 0 < n) (hn : n ≤ 64) (hm : M.length ≤ 64) (W : World) (a : Option Addr) (cap : Nat) (h : IntssAt W a m M) :
    Calls Try.prog 89 #[.slice a m cap, .int .i64 n] W (RetIntss W (turnL M n)) := by
  obtain rfl := h.1
  obtain ⟨i0, hinfo, hz0, hz1, hz2⟩ := info_parts infoInts
  have H := Lib.hid h
  have HR := Lib.hid hr
  clear h hr
  go_enter Try.func89, Try.ntmps89
  go_wp2_with (at_make; refine wpList_make_full _ rfl _ _ _ rfl W.heap.size 35 i0 (.slice none 0 0) 1 Try.underlying31 hinfo hz0 hz1 .i64 .i64 _ _ n rfl rfl rfl rfl (by rw [hz2]; omega) (by unfold maxLen; omega) (Nat.le_refl _) ?_; intro w1 hown hgrow; have hb1 : Below W.heap.size W w1 := Below.of_grown_none hgrow; have hm1 := mat_made hown; rw [← stT_zero M n] at hm1; have HM1 := Lib.hid hm1; clear hown hgrow hm1)
  have hg0 : W.heap.size < w1.heap.size := HM1.out.blk.1
  go_loopw [13] (fun i w9 => ∃ c : Nat, ∃ vs, c ≤ n ∧ i = .int .i64 c ∧ MatO w9 W.heap.size W.heap.size n n vs (stT M n c 0) ∧ Below W.heap.size W w9) (fun i _ => n - (intOf i).toNat)
  case atStart => exact ⟨0, _, Nat.zero_le _, rfl, HM1.out, hb1⟩
  case round =>
    clear hb1 HM1 hg0
    obtain ⟨c, vs, hc, rfl, hmo, hb⟩ := hrel
    have HM := Lib.hid hmo
    clear hmo
    have hg := HM.out.blk.1
    by_cases hlt : c < n
    · have hvl := HM.out.len.1
      have hv : vs[c]? = some vs[c] := List.getElem?_eq_getElem (by omega)
      have hcc := World.ownsRow.cellAt HM.out.out c (by omega)
      rw [hv] at hcc
      have hfz := HM.out.froz c
      generalize vs[c] = v at hv hcc
      have HV := Lib.hid hv
      clear hv hvl
      have hm2 : MatO ((wr.setCell ⟨W.heap.size, c, none⟩ (.slice (some ⟨wr.heap.size, 0, none⟩) 0 0)).alloc (.cells #[] 3)) W.heap.size W.heap.size n n (vs.set c (.slice (some ⟨wr.heap.size, 0, none⟩) 0 0)) (stT M n c 0) := by
        have h1 := HM.out.put HV.out (stT_get hlt) (W' := wr.alloc (.cells #[] 3)) (u := .slice (some ⟨wr.heap.size, 0, none⟩) 0 0) (r := []) (Kept.of_below ((Below.refl _ _).alloc (Nat.le_refl _) _)) (ownsRow_base (OwnInts.made wr _ (Nat.le_refl _)) hb.size) (.inr fun b hb => by simp [Value.ownBlock] at hb; omega)
        rw [show (stT M n c 0).set c [] = stT M n c 0 from stT_set (i' := 0)] at h1
        rw [World.setCell_alloc_past _ _ _ _ hg] at h1
        exact h1
      have HM2 := Lib.hid hm2
      have hb2 : Below W.heap.size W ((wr.setCell ⟨W.heap.size, c, none⟩ (.slice (some ⟨wr.heap.size, 0, none⟩) 0 0)).alloc (.cells #[] 3)) := by
        rw [← World.setCell_alloc_past _ _ _ _ hg]
        exact (hb.alloc hb.size _).setCell (Nat.le_refl _) _
      clear hm2
      go_wp2_with fail
      generalize (wr.setCell ⟨W.heap.size, c, none⟩ (.slice (some ⟨wr.heap.size, 0, none⟩) 0 0)).alloc (.cells #[] 3) = u at *
      go_loopw [22] (fun j w9 => ∃ i : Nat, ∃ vs, i ≤ M.length ∧ j = .int .i64 i ∧ MatO w9 W.heap.size W.heap.size n n vs (stT M n c i) ∧ Below W.heap.size W w9) (fun j _ => M.length - (intOf j).toNat)
      case atStart => exact ⟨0, _, Nat.zero_le _, rfl, HM2.out, hb2⟩
      case round =>
        clear hb2 HM2 hcc hfz HV HM hb hg
        obtain ⟨i, vs, hi, rfl, hmo, hb⟩ := hrel
        have HM := Lib.hid hmo
        clear hmo
        have hg := HM.out.blk.1
        by_cases hil : i < M.length
        · obtain ⟨bm, om, ar, cr, r, rfl, hbm, hx, hcell0, hi2⟩ := H.out.2 i hil
          have hcell := (hb.cell (p := ⟨bm, om + i, none⟩) hbm).trans hcell0
          have hrl := HR.out r (List.mem_of_getElem? hx)
          obtain ⟨br, or, x, rfl, hbr, hrx, hrc0⟩ := hi2.2 c (by omega)
          have hrc := (hb.cell (p := ⟨br, or + c, none⟩) hbr).trans hrc0
          have hz9 := hb.size
          have hbr2 : br < wr.heap.size := by omega
          have hbm2 : bm < wr.heap.size := by omega
          clear hcell0 hrc0
          have HX := Lib.hid (entF_get hx hrx)
          clear hx hrx hi2
          rw [hrl] at hcell
          have hvl := HM.out.len.1
          have hv : vs[c]? = some vs[c] := List.getElem?_eq_getElem (by omega)
          have hcc := World.ownsRow.cellAt HM.out.out c (by omega)
          rw [hv] at hcc
          have hfz := HM.out.froz c
          generalize vs[c] = v at hv hcc
          have HV := Lib.hid hv
          have HO := Lib.hid (HM.out.rows.own c _ _ hv (stT_get hlt))
          clear hv hvl
          have hlc : (c : Int) < (n : Int) := by omega
          have hlc2 : (0 : Int) ≤ (c : Int) := by omega
          have bu : Below wr.heap.size wr (wr.alloc (.cells #[.int .i64 x] 3)).drew := ((Below.refl _ wr).alloc (Nat.le_refl _) _).drew
          have d1 : wr.drew.cell? ⟨W.heap.size, c, none⟩ = _ := hcc
          have d2 : wr.drew.cell? ⟨br, or + c, none⟩ = _ := hrc
          have s1 : (wr.alloc (.cells #[.int .i64 x] 3)).drew.cell? ⟨W.heap.size, c, none⟩ = _ := ((bcell bu).1 _ _ (by omega)).trans hcc
          have s2 : (wr.alloc (.cells #[.int .i64 x] 3)).drew.cell? ⟨br, or + c, none⟩ = _ := ((bcell bu).1 _ _ (by omega)).trans hrc
          have s3 : (wr.alloc (.cells #[.int .i64 x] 3)).drew.cell? ⟨wr.heap.size, 0, none⟩ = some (.int .i64 x) := by show (wr.alloc _).cell? _ = _; simp [World.cell?_alloc_new]
          have HM2 := Lib.hid (HM.out.below bu)
          have HO2 := Lib.hid (HO.out.below bu)
          have hzd : W.heap.size ≤ (wr.alloc (.cells #[.int .i64 x] 3)).drew.heap.size := by have := bu.size; omega
          have hzd2 : wr.heap.size < (wr.alloc (.cells #[.int .i64 x] 3)).drew.heap.size := by show _ < (wr.alloc _).heap.size; simp
          go_wp2_with fail
          go_region_law (first
              | (refine stepInts1 (by rfl) (.tmp 31) (.tmp 36) (by rfl) (by rfl) HO2.out x wr.heap.size (by rfl) s3 (by rw [colL_length]; omega) hzd ?_
                 intro v' w5 h5 k5 ha5
                 obtain ⟨av, cv, rfl, hiv⟩ := h5.form
                 clear hiv
                 have H5 := Lib.hid h5
                 clear h5
                 have t1 := (k5.cell (b := W.heap.size) (o := c) (by omega) (fun e => outer_apart HM2.out.out HO2.out _ rfl e.symm)).trans s1
                 have t2 := (k5.cell (b := br) (o := or + c) (by omega) (fun e => by have := (HO2.out.lt br e.symm).1; omega)).trans s2
                 have t3 := (k5.frozen (b := W.heap.size) (o := c) (by omega) (fun e => outer_apart HM2.out.out HO2.out _ rfl e.symm)).trans (HM2.out.froz c))
              | fail)
          all_goals
            go_wp2_with fail
            go_roundw
            case rel =>
              refine ⟨i + 1, vs.set c (.slice av ((colL M i c).length + 1) cv), by omega, by go_num, ?_, ?_⟩
              · have h1 := HM2.out.put HV.out (stT_get hlt) k5 H5.out (ha5.imp id fun h b hb => by rw [h] at hb; exact Nat.le_of_eq (Option.some.inj hb))
                have e1 : (stT M n c i).set c (colL M i c ++ [x]) = stT M n c (i + 1) := by rw [← HX.out, ← colL_succ, stT_set]
                have e2 : (colL M i c ++ [x]).length = (colL M i c).length + 1 := by simp
                rw [e1, e2] at h1
                exact h1
              · exact ((hb.step bu).trans (k5.setOwn HO2.out (Nat.le_refl _) hzd)).setCell (p := ⟨W.heap.size, c, none⟩) (Nat.le_refl _) _
            case measure => simp [intOf]; omega
        · obtain rfl : i = M.length := by omega
          have HN := Lib.hid (stT_next M n c)
          go_wp2_with fail
          go_roundw
          case rel => exact ⟨c + 1, vs, by omega, by go_num, by rw [← HN.out]; exact HM.out, hb⟩
          case measure => simp [intOf]; omega
    · obtain rfl : c = n := by omega
      have HD := Lib.hid (stT_done M c 0)
      go_wp2_with fail
      go_ret
      exact ⟨_, rfl, by rw [← HD.out]; exact HM.out.own, hb⟩
end Go.Proofs.Ytfdhbbhfilkafaa
