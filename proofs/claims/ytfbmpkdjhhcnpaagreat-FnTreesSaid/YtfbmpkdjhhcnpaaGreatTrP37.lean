/- ReachOf (from point 0) and IsConnected of the reference. Conditions: a valid graph for ReachOf. -/
import Derived.Test.YtfbmpkdjhhcnpaaGreatTrP36
import Derived.Test.YtfbmpkdjhhcnpaaGreatTrP14
import Derived.Test.YtfbmpkdjhhcnpaaGreatTrP30
namespace Go.Proofs.YtfbmpkdjhhcnpaaGreat
open Go.RowKit
set_option maxRecDepth 100000
set_option linter.unusedVariables false
set_option linter.unusedSimpArgs false
def bolV (n : Nat) (f : Nat → Bool) : List Value := (List.range n).map fun v => Value.bool (f v)
theorem bolV_get {n j : Nat} {f : Nat → Bool} (h : j < n) : (bolV n f)[j]? = some (.bool (f j)) := by simp [bolV, h]
theorem bolV_set {n j : Nat} {f : Nat → Bool} {b : Bool} : (bolV n f).set j (.bool b) = bolV n fun v => if v = j then b else f v := by
  refine List.ext_getElem (by simp [bolV]) fun i h1 h2 => ?_
  rw [List.getElem_set]
  simp only [bolV, List.getElem_map, List.getElem_range]
  by_cases e : j = i
  · subst e; simp
  · rw [if_neg e, if_neg fun e2 => e e2.symm]
theorem bolV_none (n : Nat) : bolV n (fun _ => false) = List.replicate n (.bool false) := by
  refine List.eq_replicate_iff.2 ⟨by simp [bolV], fun b hb => ?_⟩
  obtain ⟨j, _, rfl⟩ := List.mem_map.1 hb
  rfl
/-- the points seen, beside the list that is handed back -/
structure RhS (W w : World) (g P : Nat) (f : Nat → Bool) (vo : Value) (xs : List Int) (a : Option Addr) (m cap : Nat) : Prop where
  ob : w.ownsRow (W.heap.size + 1) 4 1 (.slice (some ⟨g, 0, none⟩) P P) P (bolV P f)
  oi : OwnInts w (W.heap.size + 1) vo xs
  ne : vo.ownBlock ≠ some g
  bg : BoxGr w W.heap.size P a m cap
  bl : Below W.heap.size W w
theorem RhS.set {W w : World} {g P : Nat} {f : Nat → Bool} {vo : Value} {xs : List Int} {a : Option Addr} {m cap : Nat} (h : RhS W w g P f vo xs a m cap) (j : Nat) (b : Bool) : RhS W (w.setCell ⟨g, j, none⟩ (.bool b)) g P (fun v => if v = j then b else f v) vo xs a m cap := by
  have hg := (World.ownsRow.lt h.ob g rfl).1
  have k : Kept (fun q => q = g) w (w.setCell ⟨g, j, none⟩ (.bool b)) := setKept
  have h1 := (World.ownsRow.stored h.ob j (.bool b)).1
  rw [bolV_set] at h1
  exact ⟨h1, k.ownsRow h.oi fun q h2 h3 => h.ne (by rw [h2, h3]), h.ne, h.bg.kept k (by omega), h.bl.setCell (p := ⟨g, j, none⟩) (by show W.heap.size ≤ g; omega) _⟩
theorem RhS.below {W w w' : World} {g P : Nat} {f : Nat → Bool} {vo : Value} {xs : List Int} {a : Option Addr} {m cap : Nat} (h : RhS W w g P f vo xs a m cap) (hb : Below w.heap.size w w') : RhS W w' g P f vo xs a m cap :=
  ⟨(Kept.of_below (S := fun _ => False) hb).ownsRow h.ob fun _ _ => id, h.oi.below hb, h.ne, h.bg.below hb, h.bl.step hb⟩
theorem RhS.app {W w w' : World} {g P : Nat} {f : Nat → Bool} {vo v' : Value} {xs ys : List Int} {a : Option Addr} {m cap : Nat} (h : RhS W w g P f vo xs a m cap) (ho : OwnInts w' (W.heap.size + 1) v' ys) (hk : Kept (fun k => some k = vo.ownBlock) w w') (ha : v'.ownBlock = vo.ownBlock ∨ ∀ b, v'.ownBlock = some b → w.heap.size ≤ b) : RhS W w' g P f v' ys a m cap := by
  have hg := World.ownsRow.lt h.ob g rfl
  have hlt := h.oi.lt
  exact ⟨hk.ownsRow h.ob fun q h1 h2 => by
      have : q = g := (Option.some.inj h1).symm
      subst this
      exact h.ne h2.symm, ho, fun e => by
      rcases ha with h1 | h1
      · exact h.ne (h1.symm.trans e)
      · have := h1 _ e; omega, h.bg.kept hk fun e => by have := (hlt _ e.symm).1; omega, h.bl.trans (hk.below h.bl.size fun q h1 h2 => by have := (hlt _ h2.symm).1; omega)⟩
theorem seen_step {r : Nat → Nat} {x y : Nat} (h : (r x == 0 || r y == 0) = true) : (fun v => if v = y then true else if v = x then true else r v == 0) = fun v => Fo.mstep r (x, y) v == 0 := funext fun v => by
  simp only [Bool.or_eq_true, beq_iff_eq] at h
  unfold Fo.mstep
  dsimp only
  by_cases e : v = y
  · rw [if_pos e, if_pos e]; symm; rw [beq_iff_eq]; omega
  · by_cases e2 : v = x
    · rw [if_neg e, if_neg e, if_pos e2, if_pos e2]; symm; rw [beq_iff_eq]; omega
    · rw [if_neg e, if_neg e, if_neg e2, if_neg e2]
theorem seen_stay {r : Nat → Nat} {x y : Nat} (h1 : (r x == 0) = false) (h2 : (r y == 0) = false) : (fun v => r v == 0) = fun v => Fo.mstep r (x, y) v == 0 := funext fun v => by
  rw [beq_eq_false_iff_ne] at h1 h2
  unfold Fo.mstep
  dsimp only
  by_cases e : v = y
  · subst e; rw [if_pos rfl, Bool.eq_iff_iff, beq_iff_eq, beq_iff_eq]; omega
  · by_cases e2 : v = x
    · subst e2; rw [if_neg e, if_pos rfl, Bool.eq_iff_iff, beq_iff_eq, beq_iff_eq]; omega
    · rw [if_neg e, if_neg e2]
set_option maxHeartbeats 16000000 in
theorem specReach_at (W : World) (p : Int) (a : Option Addr) (cap : Nat) (l : List BarT) (h : BarsAt W a l.length l) (hs : l.length ≤ 1048576) (hg : isGraphB (p, l) = true) : Calls Tryz.prog 66 #[.agg #[.int .i64 p, .slice a l.length cap], .int .i64 0] W fun e w' => ∃ v xs, e = .returned v ∧ OwnInts w' W.heap.size v xs ∧ xs.length = rchN p.toNat l ∧ Below W.heap.size W w' := by
  have hwd := @Wd.cells
  have HGr : Hid (IsGraph W (.agg #[.int .i64 p, .slice a l.length cap]) (p, l)) := Lib.hid ⟨a, cap, rfl, h⟩
  have H1 := Lib.hid h
  clear h
  have hsz : szGraph (p, l) ≤ 1048576 := hs
  have hsz2 : szGraph (p, l) ≤ 1099511627776 := Nat.le_trans hsz (by decide)
  have B : Below W.heap.size W (W.alloc (.cells #[.int .i64 p, .slice a l.length cap] 26)) := (Below.refl _ _).alloc (Nat.le_refl _) _
  have BG : Hid (BoxGr (W.alloc (.cells #[.int .i64 p, .slice a l.length cap] 26)) W.heap.size p a l.length cap) := Lib.hid (BoxGr.at rfl)
  obtain ⟨⟨hg1, hg2⟩, hg3⟩ := isGraphB_bd hg
  obtain ⟨P, rfl⟩ := Int.eq_ofNat_of_zero_le (show 0 ≤ p by omega)
  try rw [Int.toNat_natCast]
  obtain ⟨i9, hinf9, hz90, hz91, hz92⟩ := info_parts infoBool
  have HG := Lib.hid hg
  have HIG : Hid (∀ w9, Below W.heap.size W w9 → Calls Tryz.prog 51 #[.agg #[.int .i64 (P : Int), .slice a l.length cap]] w9 fun e w' => e = .returned (.bool true) ∧ Below w9.heap.size w9 w') := Lib.hid fun w9 b => by
    have := specIsGraph_at w9 (P : Int) a cap l (H1.out.below b) (by omega)
    rw [hg] at this
    exact this
  have ba := belAl (W.alloc (.cells #[.int .i64 (P : Int), .slice a l.length cap] 26)) (.cells #[] 3)
  have HO0 : Hid (OwnInts ((W.alloc (.cells #[.int .i64 (P : Int), .slice a l.length cap] 26)).alloc (.cells #[] 3)) (W.heap.size + 1) (.slice (some ⟨W.heap.size + 1, 0, none⟩) 0 0) []) := Lib.hid (by have h9 := OwnInts.made (W.alloc (.cells #[.int .i64 (P : Int), .slice a l.length cap] 26)) (W.heap.size + 1) (by simp); rwa [World.size_alloc] at h9)
  have hzu : W.heap.size + 2 ≤ ((W.alloc (.cells #[.int .i64 (P : Int), .slice a l.length cap] 26)).alloc (.cells #[] 3)).heap.size := by simp
  replace B := B.step ba
  replace BG := Lib.hid (BG.out.below ba)
  clear ba hg
  go_enter Tryz.func66, Tryz.ntmps66
  go_wp2_with fail
  generalize ((W.alloc (.cells #[.int .i64 (P : Int), .slice a l.length cap] 26)).alloc (.cells #[] 3)) = u at *
  obtain ⟨zBG, fBG0, fBG1⟩ := BG.out
  go_wp2_with fail
  clear zBG fBG0 fBG1
  refine (HIG.out u B).mono ?_
  rintro e w1 ⟨rfl, b1⟩
  replace B := B.step b1
  replace BG := Lib.hid (BG.out.below b1)
  replace HO0 := Lib.hid (HO0.out.below b1)
  have hz1 := b1.size
  have hP0 : ¬ (P : Int) ≤ 0 := by omega
  have hP1 : (0 : Int) < (P : Int) := by omega
  have hP2 : 0 < P := by omega
  clear b1 HIG
  obtain ⟨zBG, fBG0, fBG1⟩ := BG.out
  go_upto_region 5 with (at_make; refine wpList_make_full _ rfl _ _ _ rfl w1.heap.size 4 i9 (.bool false) 1 Tryz.underlying122 hinf9 hz90 hz91 .i64 .i64 _ _ P rfl rfl rfl rfl (by rw [hz92]; omega) (by unfold maxLen; omega) (Nat.le_refl _) ?_; intro w3 hown9 hgrow9)
  have b3 := Below.of_grown_none hgrow9
  have FS : Hid (RhS W w3 w1.heap.size P (fun _ => false) (.slice (some ⟨W.heap.size + 1, 0, none⟩) 0 0) [] a l.length cap) := Lib.hid ⟨by
    have h2 := ownsRow_base hown9 (show W.heap.size + 1 ≤ w1.heap.size by omega)
    have e2 : bolV P (fun _ => false) = (madeCells (Value.cells (.bool false)) (P * 1)).toList := by
      rw [Nat.mul_one, bolV_none]
      simp only [Value.cells, toList_madeCells_one]
    rw [e2]
    exact h2, HO0.out.below b3, fun e => by have : W.heap.size + 1 = w1.heap.size := Option.some.inj e; omega, BG.out.below b3, B.step b3⟩
  obtain ⟨g, hgg⟩ : ∃ q, q = w1.heap.size := ⟨_, rfl⟩
  rw [← hgg] at FS
  try rw [← hgg]
  clear zBG fBG0 fBG1
  clear hown9 hgrow9 b3 B BG HO0 hinf9 hz90 hz91 hz92
  have hgW : W.heap.size + 1 < g := by omega
  clear hgg hz1
  have c0 : w3.cell? ⟨g, 0, none⟩ = some (.bool false) := by rw [World.ownsRow.cellAt FS.out.ob 0 (by omega), bolV_get hP2]
  have t0 := World.ownsRow.frozenAt FS.out.ob 0
  have z0 := (World.ownsRow.lt FS.out.ob g rfl).2
  have FS2 : Hid (RhS W (w3.setCell ⟨g, 0, none⟩ (.bool true)) g P (fun v => Fo.mrounds (edL l) 0 v == 0) (.slice (some ⟨W.heap.size + 1, 0, none⟩) 0 0) [] a l.length cap) := Lib.hid (by
    have h9 := FS.out.set 0 true
    have e : (fun v => if v = 0 then true else false) = fun v => Fo.mrounds (edL l) 0 v == 0 := funext fun v => by
      show (if v = 0 then true else false) = (v == 0)
      by_cases h : v = 0
      · subst h; rfl
      · rw [if_neg h]; symm; rw [beq_eq_false_iff_ne]; exact h
    rw [e] at h9
    exact h9)
  clear FS
  go_wp2_with fail
  clear c0 t0 z0
  generalize w3.setCell ⟨g, 0, none⟩ (.bool true) = w4 at *
  go_loopw [7] (fun i w9 => ∃ t : Nat, t ≤ P ∧ i = .int .i64 t ∧ RhS W w9 g P (fun v => Fo.mrounds (edL l) t v == 0) (.slice (some ⟨W.heap.size + 1, 0, none⟩) 0 0) [] a l.length cap) (fun i _ => P - (intOf i).toNat)
  case atStart => exact ⟨0, Nat.zero_le _, rfl, FS2.out⟩
  case round =>
    clear FS2
    obtain ⟨t, ht, rfl, hfs⟩ := hrel
    have FS := Lib.hid hfs
    clear hfs
    obtain ⟨zB, cB0, cB1⟩ := FS.out.bg
    by_cases htk : t < P
    · have hti : (t : Int) < (P : Int) := by omega
      go_wp2_with fail
      clear zB cB0 cB1
      obtain ⟨wA, hwA⟩ : ∃ w9, w9 = wr := ⟨_, rfl⟩
      subst hwA
      go_loopw [8] (fun i w9 => ∃ j : Nat, j ≤ l.length ∧ i = .int .i64 j ∧ RhS W w9 g P (fun v => Fo.mround ((edL l).take j) (Fo.mrounds (edL l) t) v == 0) (.slice (some ⟨W.heap.size + 1, 0, none⟩) 0 0) [] a l.length cap) (fun i _ => l.length - (intOf i).toNat)
      case atStart => exact ⟨0, Nat.zero_le _, rfl, FS.out⟩
      case round =>
        clear FS
        obtain ⟨j, hj, rfl, hfs⟩ := hrel
        have FS := Lib.hid hfs
        clear hfs
        obtain ⟨zB, cB0, cB1⟩ := FS.out.bg
        by_cases hjl : j < l.length
        · obtain ⟨bb, off, ⟨x1, x2⟩, rfl, hbl, hx, hc0, hc1⟩ := H1.out.2 j hjl
          dsimp only at hc0 hc1
          obtain ⟨m1, m2, m3⟩ := isGraphB_bar HG.out hx
          dsimp only at m1 m2 m3
          obtain ⟨i1, rfl⟩ := Int.eq_ofNat_of_zero_le m1
          obtain ⟨i2, rfl⟩ := Int.eq_ofNat_of_zero_le (show 0 ≤ x2 by omega)
          have hi1 : i1 < P := by omega
          have hi2 : i2 < P := by omega
          have HMT := Lib.hid (mround_take (es := edL l) (j := j) (e := (i1, i2)) (Fo.mrounds (edL l) t) (by unfold edL; rw [List.getElem?_map, hx]; simp [eN]))
          generalize hR : Fo.mround ((edL l).take j) (Fo.mrounds (edL l) t) = r at *
          clear hR hx
          have d0 := (FS.out.bl.cell (p := ⟨bb, off + j * 2, none⟩) hbl).trans hc0
          have d1 := (FS.out.bl.cell (p := ⟨bb, off + j * 2 + 1, none⟩) hbl).trans hc1
          have db := Nat.lt_of_lt_of_le hbl FS.out.bl.size
          have s1 : wr.cell? ⟨g, i1, none⟩ = some (.bool (r i1 == 0)) := by rw [World.ownsRow.cellAt FS.out.ob i1 (by omega), bolV_get hi1]
          have s2 : wr.cell? ⟨g, i2, none⟩ = some (.bool (r i2 == 0)) := by rw [World.ownsRow.cellAt FS.out.ob i2 (by omega), bolV_get hi2]
          have zg := (World.ownsRow.lt FS.out.ob g rfl).2
          have hji : (j : Int) < (l.length : Int) := by omega
          have hj0 : (0 : Int) ≤ (j : Int) := by omega
          have h1i : (i1 : Int) < (P : Int) := by omega
          have h2i : (i2 : Int) < (P : Int) := by omega
          have q3 : (0 : Int) ≤ (i1 : Int) := by omega
          have q4 : (0 : Int) ≤ (i2 : Int) := by omega
          clear hc0 hc1
          obtain ⟨b1, hb1⟩ : ∃ b, b = (r i1 == 0) := ⟨_, rfl⟩
          obtain ⟨b2, hb2⟩ : ∃ b, b = (r i2 == 0) := ⟨_, rfl⟩
          rw [← hb1] at s1
          rw [← hb2] at s2
          have HB1 := Lib.hid hb1
          have HB2 := Lib.hid hb2
          clear hb1 hb2
          have FS2 := Lib.hid (FS.out.set i1 true)
          have FS3 := Lib.hid (FS2.out.set i2 true)
          have u1 := World.ownsRow.frozenAt FS.out.ob i1
          have u2 := World.ownsRow.frozenAt FS.out.ob i2
          have k1 : Kept (fun q => q = g) wr (wr.setCell ⟨g, i1, none⟩ (.bool true)) := setKept
          have e0 := (k1.cell (o := off + j * 2) db (by omega)).trans d0
          have e1 := (k1.cell (o := off + j * 2 + 1) db (by omega)).trans d1
          obtain ⟨zC, cC0, cC1⟩ := FS2.out.bg
          obtain ⟨y2, v2⟩ : ∃ y2, (wr.setCell ⟨g, i1, none⟩ (.bool true)).cell? ⟨g, i2, none⟩ = some (.bool y2) := ⟨_, by rw [World.ownsRow.cellAt FS2.out.ob i2 (by omega), bolV_get hi2]⟩
          clear k1
          cases b1
          · cases b2
            · go_wp2_with fail
              go_roundw
              case rel =>
                refine ⟨j + 1, by omega, by go_num, ?_⟩
                rw [HMT.out, ← seen_stay HB1.out.symm HB2.out.symm]
                exact FS.out
              case measure => simp [intOf]; omega
            · go_wp2_with fail
              go_roundw
              case rel =>
                refine ⟨j + 1, by omega, by go_num, ?_⟩
                rw [HMT.out, ← seen_step (by rw [← HB2.out, Bool.or_true])]
                exact FS3.out
              case measure => simp [intOf]; omega
          · go_wp2_with fail
            go_roundw
            case rel =>
              refine ⟨j + 1, by omega, by go_num, ?_⟩
              rw [HMT.out, ← seen_step (by rw [← HB1.out, Bool.true_or])]
              exact FS3.out
            case measure => simp [intOf]; omega
        · obtain rfl : j = l.length := by omega
          go_wp2_with fail
          go_roundw
          case rel =>
            refine ⟨t + 1, by omega, by go_num, ?_⟩
            have h9 := FS.out
            rw [List.take_of_length_le (by simp [edL])] at h9
            exact h9
          case measure => simp [intOf]; omega
    · obtain rfl : t = P := by omega
      have hti : ¬ (t : Int) < (t : Int) := by omega
      go_wp2_with fail
      clear zB cB0 cB1
      have HR : Hid (∀ k, Fo.cnt k (fun v => Fo.mrounds (edL l) t v == 0) = Fo.cnt k fun v => Fo.mrounds (edL l) t v == 0) := Lib.hid fun _ => rfl
      obtain ⟨r, hr⟩ : ∃ r, r = fun v => Fo.mrounds (edL l) t v == 0 := ⟨_, rfl⟩
      have hrc : Hid (rchN t l = Fo.cnt t r) := Lib.hid (by rw [hr]; rfl)
      rw [← hr] at FS
      clear hr HR
      obtain ⟨wA, hwA⟩ : ∃ w9, w9 = wr := ⟨_, rfl⟩
      subst hwA
      go_loopw [5, 9] (fun o i w9 => ∃ (k : Nat) (xs : List Int), k ≤ t ∧ i = .int .i64 k ∧ xs.length = Fo.cnt k r ∧ RhS W w9 g t r o xs a l.length cap) (fun _ i _ => t - (intOf i).toNat)
      case atStart => exact ⟨0, [], Nat.zero_le _, rfl, rfl, FS.out⟩
      case round =>
        clear FS ht
        obtain ⟨k, xs, hk, rfl, hxl, hfs⟩ := hrel
        have FS := Lib.hid hfs
        have hle := Fo.cnt_le k r
        have hxk : xs.length ≤ k := by omega
        have HXL := Lib.hid hxl
        clear hfs hxl hle
        obtain ⟨zB, cB0, cB1⟩ := FS.out.bg
        obtain ⟨av, cv, rfl, -⟩ := FS.out.oi.form
        by_cases hkt : k < t
        · have hki : (k : Int) < (t : Int) := by omega
          have hk0 : (0 : Int) ≤ (k : Int) := by omega
          have s1 : wr.cell? ⟨g, k, none⟩ = some (.bool (r k)) := by rw [World.ownsRow.cellAt FS.out.ob k (by omega), bolV_get hkt]
          have zg := (World.ownsRow.lt FS.out.ob g rfl).2
          have hzW := FS.out.bl.size
          have HS := Lib.hid (Fo.cnt_succ k r)
          cases hrk : r k
          · rw [hrk] at s1 HS
            clear hrk
            go_wp2_with fail
            go_roundw
            case rel => exact ⟨k + 1, xs, by omega, by go_num, by rw [HS.out]; simpa using HXL.out, FS.out⟩
            case measure => simp [intOf]; omega
          · rw [hrk] at s1 HS
            clear hrk
            have hzo := FS.out.bg.1
            go_wp2_with (at_builtin; refine app1At rfl (.tmp 90) (.tmp 92) rfl rfl FS.out.oi (k : Int) rfl (by omega) (by omega) ?_; intro v5 w5 h5 k5 a5)
            have F5 := Lib.hid (FS.out.app h5 k5 a5)
            go_roundw
            case rel => exact ⟨k + 1, xs ++ [(k : Int)], by omega, by go_num, by rw [HS.out]; simp [HXL.out], F5.out⟩
            case measure => simp [intOf]; omega
        · obtain rfl : k = t := by omega
          go_wp2_with fail
          go_ret
          exact ⟨_, xs, rfl, ownsRow_base FS.out.oi (by omega), by rw [hrc.out]; exact HXL.out, FS.out.bl⟩
end Go.Proofs.YtfbmpkdjhhcnpaaGreat

set_option linter.unusedSimpArgs false
set_option linter.unusedVariables false
namespace Mtr
abbrev E := Int × Int
def inn (S : Int → Bool) (e : E) : Bool := S e.1 && S e.2
def ic (I : List E) (S : Int → Bool) : Nat := I.countP (inn S)
def sz (n : Nat) (S : Int → Bool) : Nat := (List.range n).countP fun v : Nat => S (v : Int)
def uni (S T : Int → Bool) : Int → Bool := fun v => S v || T v
def int (S T : Int → Bool) : Int → Bool := fun v => S v && T v
/-- a bar of the graph -/
def Bk (n : Nat) (e : E) : Prop := 0 ≤ e.1 ∧ e.1 < e.2 ∧ e.2 < n
theorem ic_sub {I J : List E} (h : I.Sublist J) (S : Int → Bool) : ic I S ≤ ic J S := h.countP_le
def Apart (n : Nat) (cs : List (Int → Bool)) : Prop := cs.Pairwise fun S T => ∀ g, Bk n g → inn S g = true → inn T g = true → False
end Mtr

