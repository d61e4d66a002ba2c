/- CountTrees of the program. No condition but sizes. -/
import Derived.Test.YtfbmpkdjhhcnpaaGreatTrP36
import Derived.Test.YtfbmpkdjhhcnpaaGreatTrP23
import Derived.BigRegion
import Derived.Test.YtfbmpkdjhhcnpaaGreatTrP39
namespace Go.Proofs.YtfbmpkdjhhcnpaaGreat
open Go.RowKit Gr
set_option maxRecDepth 100000
set_option linter.unusedVariables false
set_option linter.unusedSimpArgs false

theorem ownInts_made2 {w1 : World} {base g n : Nat} (h : w1.ownsRow base 3 1 (.slice (some ⟨g, 0, none⟩) n n) n (madeCells (Value.cells (.int .i64 0)) (n * 1)).toList) : OwnInts w1 base (.slice (some ⟨g, 0, none⟩) n n) (rowL n fun _ => 0) := by
  unfold OwnInts
  rw [rowL_length]
  have e : (rowL n fun _ => 0).map (Value.int .i64) = (madeCells (Value.cells (.int .i64 0)) (n * 1)).toList := by
    rw [Nat.mul_one]
    simp only [rowL, Value.cells, toList_madeCells_one, List.map_map]
    exact List.eq_replicate_iff.2 ⟨by simp, fun b hb => by obtain ⟨x, _, rfl⟩ := List.mem_map.1 hb; rfl⟩
  rw [e]; exact h
theorem nilRows2 {W : World} {base n : Nat} : IRows W base (List.replicate n (.slice none 0 0)) (List.replicate n []) := by
  refine ⟨by simp, fun k v r hv hr => ?_, ?_⟩
  · rw [List.getElem?_replicate] at hv hr
    split at hv
    · simp at hv; rw [if_pos ‹_›] at hr; simp at hr; subst hv; subst hr; exact OwnInts.nil W base
    · simp at hv
  · refine List.pairwise_iff_getElem.2 fun i j hi hj hij => ?_
    intro g hg
    simp at hg
    simp [Value.ownBlock] at hg
theorem mat_made2 {w1 : World} {base g n : Nat} (h : w1.ownsRow base 35 1 (.slice (some ⟨g, 0, none⟩) n n) n (madeCells (Value.cells (.slice none 0 0)) (n * 1)).toList) : MatO w1 base g n n (List.replicate n (.slice none 0 0)) (List.replicate n []) := by
  have e : (madeCells (Value.cells (.slice none 0 0)) (n * 1)).toList = List.replicate n (.slice none 0 0) := by
    rw [Nat.mul_one]
    simp only [Value.cells, toList_madeCells_one]
  rw [e] at h
  exact ⟨h, nilRows2⟩
def zerL (n k : Nat) : List (List Int) := (List.range n).map fun j => if j < k then rowL n (fun _ => 0) else []
theorem zerL_zero (n : Nat) : zerL n 0 = List.replicate n [] := by
  refine List.eq_replicate_iff.2 ⟨by simp [zerL], fun b hb => ?_⟩
  obtain ⟨j, _, rfl⟩ := List.mem_map.1 hb
  rfl
theorem zerL_get {n k : Nat} (h : k < n) : (zerL n k)[k]? = some [] := by simp [zerL, h]
theorem zerL_set {n k : Nat} : (zerL n k).set k (rowL n fun _ => 0) = zerL n (k + 1) := by
  refine List.ext_getElem (by simp [zerL]) fun j h1 h2 => ?_
  simp only [zerL, List.getElem_set, List.getElem_map, List.getElem_range]
  by_cases e : k = j
  · subst e; simp
  · rw [if_neg e]
    by_cases e1 : j < k
    · rw [if_pos e1, if_pos (by omega)]
    · rw [if_neg e1, if_neg (by omega)]
theorem zerL_done (n : Nat) (l : List BarT) : zerL n n = toLL (lapTo l 0) n n := by
  refine List.ext_getElem (by simp [zerL, toLL]) fun j h1 h2 => ?_
  have hj : j < n := by simpa [zerL] using h1
  simp only [zerL, toLL, List.getElem_map, List.getElem_range, if_pos hj]
  rfl
/-- append of one header, whatever row it leads to -/
theorem appU {w : World} {ops : Array Oper} {rest : List Oper} {o : Oper} {a : Act} {Q : Exit → Act → World → Prop} (hg : o.guard = none) (s x : Operand)
    (ho : o.op = .call { callee := .builtin .append, args := #[s, x], argTypes := #[29, 29] }) {base : Nat} {v : Value} {n : Nat} {vals : List Value} (hs : a.eval s = v) (hown : w.ownsRow base 35 1 v n vals) (u : Value) (hu : u.oneCell' = true)
    (hx : a.eval x = .slice (some ⟨w.heap.size, 0, none⟩) 1 1) (hl : n < 1099511627776) (hbase : base ≤ w.heap.size)
    (hK : ∀ v' w', w'.ownsRow base 35 1 v' (n + 1) (vals ++ [u]) → Kept (fun k => some k = v.ownBlock) w w' → wpList Tryz.prog ops Q rest (a.put o.dst v') w') :
    wpList Tryz.prog ops Q (o :: rest) a (w.alloc (.cells #[u] 35)) := by
  obtain ⟨i0, hi, hz0, hz1, hz2⟩ := info_parts infoInts
  refine wpList_append_own _ hg s x 29 ho base 35 i0 (.slice none 0 0) 1 24 Tryz.underlying29 hi hz0 hz1 hz2 rfl (by decide) v n vals hs (World.ownsRow.alloc hown _) ⟨w.heap.size, 0, none⟩ 1 1 [u] hx rfl (cell_one_new _ _ _) ?_ ?_ ?_ ?_ ?_
  · intro q hq
    simp at hq
    subst hq
    exact hu
  · unfold maxLen; omega
  · omega
  · simp; omega
  · intro v' w' h1 h2 _
    exact hK v' w' h1 ((Kept.of_below ((Below.refl _ _).alloc (Nat.le_refl _) _)).trans ⟨h2.os, h2.tape, h2.output, h2.size, fun k hk hs => h2.block k hk hs⟩)
/-- one entry turned -/
def upd (F : Nat → Nat → Int) (i j : Nat) (d : Int) (a q : Nat) : Int := if a = i ∧ q = j then F i j + d else F a q
theorem upd_set {F : Nat → Nat → Int} {i j : Nat} {d : Int} : (fun a => if a = i then (fun q => if q = j then F i j + d else F i q) else F a) = upd F i j d := by
  funext a q
  unfold upd
  by_cases h1 : a = i
  · subst h1
    by_cases h2 : q = j
    · simp [h2]
    · simp [h2]
  · simp [h1]
theorem lap_upd {l : List BarT} {k i1 i2 : Nat} (h : l[k]? = some ((i1 : Int), (i2 : Int))) (hne : i1 ≠ i2) : upd (upd (upd (upd (lapTo l k) i1 i1 1) i2 i2 1) i1 i2 (-1)) i2 i1 (-1) = lapTo l (k + 1) := by
  funext a q
  rw [lapTo_succ h]
  unfold upd dv e1
  simp only [Int.toNat_natCast]
  by_cases a1 : a = i1
  · subst a1
    by_cases q1 : q = a
    · subst q1; simp [hne, Ne.symm hne]
    · by_cases q2 : q = i2
      · subst q2; simp [hne, Ne.symm hne, q1]; try omega
      · simp [hne, Ne.symm hne, q1, q2]
  · by_cases a2 : a = i2
    · subst a2
      by_cases q1 : q = i1
      · subst q1; simp [hne, Ne.symm hne, a1]; try omega
      · by_cases q2 : q = a
        · subst q2; simp [hne, Ne.symm hne, a1]
        · simp [hne, Ne.symm hne, q1, q2, a1]
    · simp [a1, a2]
theorem upd_bd {F : Nat → Nat → Int} {B : Int} (h : ∀ a q, -B ≤ F a q ∧ F a q ≤ B) {i j : Nat} {d : Int} (h1 : -1 ≤ d) (h2 : d ≤ 1) : ∀ a q, -(B + 1) ≤ upd F i j d a q ∧ upd F i j d a q ≤ B + 1 := fun a q => by
  have := h i j
  have := h a q
  unfold upd; split <;> omega
theorem lapI_row {m j : Nat} {l : List BarT} (h : j < m) : (lapI m l)[j]? = some ((List.range m).map fun q => lapTo l l.length (j + 1) (q + 1)) := by simp [lapI, h]
theorem lapI_drop {m j : Nat} {l : List BarT} : (rowL (m + 1) (lapTo l l.length (j + 1))).drop 1 = (List.range m).map fun q => lapTo l l.length (j + 1) (q + 1) := by
  unfold rowL
  rw [List.range_succ_eq_map, List.map_cons, List.map_map]; rfl
/-- after k rounds: the headers of rows 1 .. k, their first number left out -/
def TailV (w : World) (m : Nat) (l : List BarT) (k : Nat) (vals : List Value) : Prop := vals.length = k ∧ ∀ j u, vals[j]? = some u → ∃ br or' cr, u = .slice (some ⟨br, or', none⟩) m cr ∧ m ≤ cr ∧ IntsAt w (some ⟨br, or', none⟩) m ((List.range m).map fun q => lapTo l l.length (j + 1) (q + 1))

set_option maxHeartbeats 8000000 in
theorem implCtr_at (W : World) (p : Int) (a : Option Addr) (cap : Nat) (l : List BarT) (h : BarsAt W a l.length l) (hs : l.length ≤ 1048576) : Calls Tryz.prog 13 #[.agg #[.int .i64 p, .slice a l.length cap]] W fun e w' => e = .returned (.int .i64 (treesN (p, l))) ∧ Below W.heap.size W w' := by
  have hwd := @Wd.cells
  have HGr : Hid (IsGraph W (.agg #[.int .i64 p, .slice a l.length cap]) (p, l)) := Lib.hid ⟨a, cap, rfl, h⟩
  have H1 := Lib.hid h
  clear h
  have hsz : szGraph (p, l) ≤ 1048576 := hs
  have hsz2 : szGraph (p, l) ≤ 1099511627776 := Nat.le_trans hsz (by decide)
  have B : Below W.heap.size W (W.alloc (.cells #[.int .i64 p, .slice a l.length cap] 26)) := (Below.refl _ _).alloc (Nat.le_refl _) _
  have BG : Hid (BoxGr (W.alloc (.cells #[.int .i64 p, .slice a l.length cap] 26)) W.heap.size p a l.length cap) := Lib.hid (BoxGr.at rfl)
  obtain ⟨i0, hinfo, hz0, hz1, hz2⟩ := info_parts infoInts
  obtain ⟨i9, hinfo9, hz90, hz91, hz92⟩ := info_parts infoInt
  cases hg : isGraphB (p, l)
  · have HE := Lib.hid (trees_no hg)
    go_enter Tryz.func13, Tryz.ntmps13
    go_wp2_with fail
    generalize (W.alloc (.cells #[.int .i64 p, .slice a l.length cap] 26)) = u at *
    obtain ⟨zBG, fBG0, fBG1⟩ := BG.out
    refine (impl_IsGraph_is _ _ (p, l) (HGr.out.below B) hsz2).mono ?_
    rintro e w1 ⟨rfl, b⟩
    rw [hg]
    go_wp2_with fail
    go_ret
    exact ⟨by rw [HE.out]; rfl, B.step b⟩
  by_cases h6 : 6 < p
  · have HE := Lib.hid (trees_big (l := l) h6)
    have h6d : decide (6 < p) = true := decide_eq_true h6
    go_enter Tryz.func13, Tryz.ntmps13
    go_wp2_with fail
    generalize (W.alloc (.cells #[.int .i64 p, .slice a l.length cap] 26)) = u at *
    obtain ⟨zBG, fBG0, fBG1⟩ := BG.out
    refine (impl_IsGraph_is _ _ (p, l) (HGr.out.below B) hsz2).mono ?_
    rintro e w1 ⟨rfl, b⟩
    have BG1 := Lib.hid (BG.out.below b)
    clear zBG fBG0 fBG1
    obtain ⟨zBG, fBG0, fBG1⟩ := BG1.out
    rw [hg]
    go_wp2_with fail
    go_ret
    exact ⟨by rw [HE.out]; rfl, B.step b⟩
  obtain ⟨⟨hp1, hp2⟩, hl24⟩ := isGraphB_bd hg
  have HBR : Hid (∀ (i : Nat) (x : BarT), l[i]? = some x → 0 ≤ x.1 ∧ x.1 < x.2 ∧ x.2 < p) := Lib.hid fun i x hx => isGraphB_bar hg hx
  obtain ⟨P, rfl⟩ := Int.eq_ofNat_of_zero_le (show 0 ≤ p by omega)
  have hP6 : P ≤ 6 := by omega
  have hP1 : 1 ≤ P := by omega
  have hP0 : 0 < P := by omega
  have HE0 := Lib.hid (trees_yes hg hP6)
  have h6d : decide (6 < (P : Int)) = false := decide_eq_false h6
  have h6n : decide (6 < P) = false := decide_eq_false (by omega)
  clear h6 hp1 hp2
  go_enter Tryz.func13, Tryz.ntmps13
  go_wp2_with fail
  generalize hu : (W.alloc (.cells #[.int .i64 (P : Int), .slice a l.length cap] 26)) = u at *
  have hub : W.heap.size < u.heap.size := by rw [← hu]; simp
  clear hu
  obtain ⟨zBG, fBG0, fBG1⟩ := BG.out
  refine (impl_IsGraph_is _ _ ((P : Int), l) (HGr.out.below B) hsz2).mono ?_
  rintro e w1 ⟨rfl, b⟩
  have hz1w := b.size
  replace B := B.step b
  clear zBG fBG0 fBG1
  replace BG := Lib.hid (BG.out.below b)
  clear b
  obtain ⟨zBG, fBG0, fBG1⟩ := BG.out
  rw [hg]
  clear hg
  go_wp2_with (at_make; refine wpList_make_full _ rfl _ _ _ rfl w1.heap.size 35 i0 (.slice none 0 0) 1 Tryz.underlying29 hinfo hz0 hz1 .i64 .i64 _ _ P rfl rfl rfl rfl (by rw [hz2]; omega) (by unfold maxLen; omega) (Nat.le_refl _) ?_; intro w2 hown hgrow)
  have hb2 : Below w1.heap.size w1 w2 := Below.of_grown_none hgrow
  have hm2 := mat_made2 hown
  rw [← zerL_zero P] at hm2
  have HM2 := Lib.hid hm2
  clear hown hgrow hm2
  clear zBG fBG0 fBG1
  obtain ⟨u0, hu0⟩ : ∃ u0, u0 = w1 := ⟨_, rfl⟩
  subst hu0
  go_loopw [23] (fun cv w9 => ∃ (k : Nat) (vs : List Value), k ≤ P ∧ cv = .int .i64 k ∧ MatO w9 u0.heap.size u0.heap.size P P vs (zerL P k) ∧ Below u0.heap.size u0 w9) (fun cv _ => P - (intOf cv).toNat)
  case atStart => exact ⟨0, _, Nat.zero_le _, rfl, HM2.out, hb2⟩
  case round =>
    clear hb2 HM2
    obtain ⟨k, vs, hk, rfl, hmo, hb⟩ := hrel
    have HM := Lib.hid hmo
    clear hmo
    have hbz := hb.size
    have BG1 := Lib.hid (BG.out.below hb)
    obtain ⟨zBG, fBG0, fBG1⟩ := BG1.out
    by_cases hkl : k < P
    · have hkli : (k : Int) < (P : Int) := by omega
      have hk0 : (0 : Int) ≤ (k : Int) := by omega
      have hgb := HM.out.blk.1
      have hvl := HM.out.len.1
      have hv : vs[k]? = some vs[k] := List.getElem?_eq_getElem (by omega)
      have hcc := World.ownsRow.cellAt HM.out.out k (by omega)
      rw [hv] at hcc
      have hfz := HM.out.froz k
      generalize vs[k] = vk at hv hcc
      have HVK := Lib.hid hv
      clear hv hvl
      go_wp2_with (at_make; refine wpList_make_full _ rfl _ _ _ rfl wr.heap.size 3 i9 (.int .i64 0) 1 Tryz.underlying35 hinfo9 hz90 hz91 .i64 .i64 _ _ P rfl rfl rfl rfl (by rw [hz92]; omega) (by unfold maxLen; omega) (Nat.le_refl _) ?_; intro w4 hown hgrow; have b4 : Below wr.heap.size wr w4 := Below.of_grown_none hgrow; have HR4 := Lib.hid (ownInts_made2 hown); have c4 := ((bcell b4).1 _ k hgb).trans hcc; have f4 := ((bcell b4).2 _ k hgb).trans hfz; clear hown hgrow)
      go_roundw
      case rel =>
        have h1 := HM.out.put HVK.out (zerL_get hkl) (Kept.of_below b4) (ownsRow_base HR4.out hbz) (.inr fun b hb => (HR4.out.lt b hb).1)
        rw [zerL_set] at h1
        exact ⟨k + 1, _, by omega, by go_num, h1, (hb.trans (b4.mono hbz)).setCell (p := ⟨u0.heap.size, k, none⟩) (Nat.le_refl _) _⟩
      case measure => simp [intOf]; omega
    · obtain rfl : k = P := by omega
      have HM3 : Hid (MatO wr u0.heap.size u0.heap.size k k vs (toLL (lapTo l 0) k k)) := Lib.hid (by rw [← zerL_done]; exact HM.out)
      go_wp2_with fail
      clear zBG fBG0 fBG1
      go_loopw [36] (fun cv w9 => ∃ (q : Nat) (vs : List Value), q ≤ l.length ∧ cv = .int .i64 q ∧ MatO w9 u0.heap.size u0.heap.size k k vs (toLL (lapTo l q) k k) ∧ Below u0.heap.size u0 w9) (fun cv _ => l.length - (intOf cv).toNat)
      case atStart => exact ⟨0, vs, Nat.zero_le _, rfl, HM3.out, hb⟩
      case round =>
        clear HM3 HM hb
        obtain ⟨q, vs, hq, rfl, hmo, hb⟩ := hrel
        have HM := Lib.hid hmo
        clear hmo
        have hbz := hb.size
        by_cases hql : q < l.length
        · obtain ⟨bb, off, ⟨x1, x2⟩, rfl, hbl, hx, hc0, hc1⟩ := (H1.out.below (B.step hb)).2 q hql
          dsimp only at hc0 hc1
          obtain ⟨hx1, hx2, hx3⟩ := HBR.out _ _ hx
          dsimp only at hx1 hx2 hx3
          obtain ⟨i1, rfl⟩ := Int.eq_ofNat_of_zero_le hx1
          obtain ⟨i2, rfl⟩ := Int.eq_ofNat_of_zero_le (show 0 ≤ x2 by omega)
          have HUPD := Lib.hid (lap_upd hx (by omega))
          clear hx
          have hI1 : i1 < k := by omega
          have hI2 : i2 < k := by omega
          have hI1i : (i1 : Int) < (k : Int) := by omega
          have hI2i : (i2 : Int) < (k : Int) := by omega
          have hI10 : (0 : Int) ≤ (i1 : Int) := by omega
          have hI20 : (0 : Int) ≤ (i2 : Int) := by omega
          have hqli : (q : Int) < (l.length : Int) := by omega
          have hq0 : (0 : Int) ≤ (q : Int) := by omega
          have HBF : Hid (∀ a b, -(30 : Int) ≤ lapTo l q a b ∧ lapTo l q a b ≤ 30) := Lib.hid fun a b => by have := lapTo_bd l q a b; omega
          generalize lapTo l q = F at *
          have bpl : Below wr.heap.size wr (wr.alloc (.cells #[.int .i64 (i1 : Int), .int .i64 (i2 : Int)] 70)) := (Below.refl _ _).alloc (Nat.le_refl _) _
          have p0 : (wr.alloc (.cells #[.int .i64 (i1 : Int), .int .i64 (i2 : Int)] 70)).cell? ⟨wr.heap.size, 0, none⟩ = some (.int .i64 (i1 : Int)) := by simp [World.cell?_alloc_new]
          have p1 : (wr.alloc (.cells #[.int .i64 (i1 : Int), .int .i64 (i2 : Int)] 70)).cell? ⟨wr.heap.size, 1, none⟩ = some (.int .i64 (i2 : Int)) := by simp [World.cell?_alloc_new]
          go_upto_region 12 with (fail)
          clear hc0 hc1
          have HLT : Hid (∀ u ∈ vs, ∀ b, u.ownBlock = some b → b < wr.heap.size) := Lib.hid fun u hu b hb => (HM.out.rows.lt u hu b hb).2
          have HMq := Lib.hid (HM.out.below bpl)
          have HBQ := Lib.hid (hb.trans (bpl.mono hbz))
          obtain ⟨bp, hbp⟩ : ∃ bp, bp = wr.heap.size := ⟨_, rfl⟩
          rw [← hbp] at p0 p1 HLT ⊢
          generalize wr.alloc (.cells #[.int .i64 (i1 : Int), .int .i64 (i2 : Int)] 70) = wq at *
          clear bpl HM hb hbp
          have HM := HMq
          clear HMq
          obtain ⟨bA, cA, hvA, hcA, hnA, hfA, hbA1, hbA2⟩ := HM.out.at hI1 hP0
          have hnum := hnA i1 hI1
          have hfz := hfA i1
          have hbF := HBF.out i1 i1
          have HBI := HBF
          have hwr2 := IntWalk.i64_in (F i1 i1 + 1) (by omega)
          have hm9 := ((HM.out.setAt hI1 hvA i1 (F i1 i1 + 1)).below (Below.refl _ _).drew)
          rw [@upd_set F i1 i1 1] at hm9
          skip
          have HM2 := Lib.hid hm9
          clear hm9
          have HB2 : Hid (Below u0.heap.size u0 (wq.setCell ⟨bA, i1, none⟩ (.int .i64 (F i1 i1 + 1))).drew) := Lib.hid ((HBQ.out.setCell (p := ⟨bA, i1, none⟩) (by omega) _).drew)
          have p2 : (wq.setCell ⟨bA, i1, none⟩ (.int .i64 (F i1 i1 + 1))).drew.cell? ⟨bp, 0, none⟩ = some (.int .i64 (i1 : Int)) := (World.cell?_setCell_far _ _ _ _ (show bA ≠ bp from by have := HLT.out _ (List.mem_of_getElem? hvA) bA rfl; omega)).trans p0
          have p3 : (wq.setCell ⟨bA, i1, none⟩ (.int .i64 (F i1 i1 + 1))).drew.cell? ⟨bp, 1, none⟩ = some (.int .i64 (i2 : Int)) := (World.cell?_setCell_far _ _ _ _ (show bA ≠ bp from by have := HLT.out _ (List.mem_of_getElem? hvA) bA rfl; omega)).trans p1
          have HP2 := Lib.hid p2
          have HP3 := Lib.hid p3
          clear p2 p3 hvA hnA hfA hbF
          skip
          go_region
          clear hcA hnum hfz hwr2 p0 p1
          generalize (wq.setCell ⟨bA, i1, none⟩ (.int .i64 (F i1 i1 + 1))).drew = wq1 at *
          have p0 := HP2.out
          have p1 := HP3.out
          have HBQ := HB2
          have HM := HM2
          clear HP2 HP3 HB2 HM2 hbA1 hbA2
          have HBF2 := Lib.hid (upd_bd HBF.out (i := i1) (j := i1) (d := 1) (by omega) (by omega))
          clear HBF HBI
          have HBF : Hid (∀ a b, -(31 : Int) ≤ upd F i1 i1 1 a b ∧ upd F i1 i1 1 a b ≤ 31) := HBF2
          clear HBF2
          generalize upd F i1 i1 1 = F1 at *


          obtain ⟨bA, cA, hvA, hcA, hnA, hfA, hbA1, hbA2⟩ := HM.out.at hI2 hP0
          have hnum := hnA i2 hI2
          have hfz := hfA i2
          have hbF := HBF.out i2 i2
          have HBI := HBF
          have hwr2 := IntWalk.i64_in (F1 i2 i2 + 1) (by omega)
          have hm9 := ((HM.out.setAt hI2 hvA i2 (F1 i2 i2 + 1)).below (Below.refl _ _).drew)
          rw [@upd_set F1 i2 i2 1] at hm9
          skip
          have HM2 := Lib.hid hm9
          clear hm9
          have HB2 : Hid (Below u0.heap.size u0 (wq1.setCell ⟨bA, i2, none⟩ (.int .i64 (F1 i2 i2 + 1))).drew) := Lib.hid ((HBQ.out.setCell (p := ⟨bA, i2, none⟩) (by omega) _).drew)
          have p2 : (wq1.setCell ⟨bA, i2, none⟩ (.int .i64 (F1 i2 i2 + 1))).drew.cell? ⟨bp, 0, none⟩ = some (.int .i64 (i1 : Int)) := (World.cell?_setCell_far _ _ _ _ (show bA ≠ bp from by have := HLT.out _ (List.mem_of_getElem? hvA) bA rfl; omega)).trans p0
          have p3 : (wq1.setCell ⟨bA, i2, none⟩ (.int .i64 (F1 i2 i2 + 1))).drew.cell? ⟨bp, 1, none⟩ = some (.int .i64 (i2 : Int)) := (World.cell?_setCell_far _ _ _ _ (show bA ≠ bp from by have := HLT.out _ (List.mem_of_getElem? hvA) bA rfl; omega)).trans p1
          have HP2 := Lib.hid p2
          have HP3 := Lib.hid p3
          clear p2 p3 hvA hnA hfA hbF
          go_wp2_with fail
          go_region
          clear hcA hnum hfz hwr2 p0 p1
          generalize (wq1.setCell ⟨bA, i2, none⟩ (.int .i64 (F1 i2 i2 + 1))).drew = wq2 at *
          have p0 := HP2.out
          have p1 := HP3.out
          have HBQ := HB2
          have HM := HM2
          clear HP2 HP3 HB2 HM2 hbA1 hbA2
          have HBF2 := Lib.hid (upd_bd HBF.out (i := i2) (j := i2) (d := 1) (by omega) (by omega))
          clear HBF HBI
          have HBF : Hid (∀ a b, -(32 : Int) ≤ upd F1 i2 i2 1 a b ∧ upd F1 i2 i2 1 a b ≤ 32) := HBF2
          clear HBF2
          generalize upd F1 i2 i2 1 = F2 at *


          obtain ⟨bA, cA, hvA, hcA, hnA, hfA, hbA1, hbA2⟩ := HM.out.at hI1 hP0
          have hnum := hnA i2 hI2
          have hfz := hfA i2
          have hbF := HBF.out i1 i2
          have HBI := HBF
          have hwr2 := IntWalk.i64_in (F2 i1 i2 - 1) (by omega)
          have hm9 := ((HM.out.setAt hI1 hvA i2 (F2 i1 i2 + (-1))).below (Below.refl _ _).drew)
          rw [@upd_set F2 i1 i2 (-1)] at hm9
          rw [show F2 i1 i2 + (-1) = F2 i1 i2 - 1 by omega] at hm9
          have HM2 := Lib.hid hm9
          clear hm9
          have HB2 : Hid (Below u0.heap.size u0 (wq2.setCell ⟨bA, i2, none⟩ (.int .i64 (F2 i1 i2 - 1))).drew) := Lib.hid ((HBQ.out.setCell (p := ⟨bA, i2, none⟩) (by omega) _).drew)
          have p2 : (wq2.setCell ⟨bA, i2, none⟩ (.int .i64 (F2 i1 i2 - 1))).drew.cell? ⟨bp, 0, none⟩ = some (.int .i64 (i1 : Int)) := (World.cell?_setCell_far _ _ _ _ (show bA ≠ bp from by have := HLT.out _ (List.mem_of_getElem? hvA) bA rfl; omega)).trans p0
          have p3 : (wq2.setCell ⟨bA, i2, none⟩ (.int .i64 (F2 i1 i2 - 1))).drew.cell? ⟨bp, 1, none⟩ = some (.int .i64 (i2 : Int)) := (World.cell?_setCell_far _ _ _ _ (show bA ≠ bp from by have := HLT.out _ (List.mem_of_getElem? hvA) bA rfl; omega)).trans p1
          have HP2 := Lib.hid p2
          have HP3 := Lib.hid p3
          clear p2 p3 hvA hnA hfA hbF
          go_wp2_with fail
          go_region
          clear hcA hnum hfz hwr2 p0 p1
          generalize (wq2.setCell ⟨bA, i2, none⟩ (.int .i64 (F2 i1 i2 - 1))).drew = wq3 at *
          have p0 := HP2.out
          have p1 := HP3.out
          have HBQ := HB2
          have HM := HM2
          clear HP2 HP3 HB2 HM2 hbA1 hbA2
          have HBF2 := Lib.hid (upd_bd HBF.out (i := i1) (j := i2) (d := (-1)) (by omega) (by omega))
          clear HBF HBI
          have HBF : Hid (∀ a b, -(33 : Int) ≤ upd F2 i1 i2 (-1) a b ∧ upd F2 i1 i2 (-1) a b ≤ 33) := HBF2
          clear HBF2
          generalize upd F2 i1 i2 (-1) = F3 at *


          obtain ⟨bA, cA, hvA, hcA, hnA, hfA, hbA1, hbA2⟩ := HM.out.at hI2 hP0
          have hnum := hnA i1 hI1
          have hfz := hfA i1
          have hbF := HBF.out i2 i1
          have HBI := HBF
          have hwr2 := IntWalk.i64_in (F3 i2 i1 - 1) (by omega)
          have hm9 := ((HM.out.setAt hI2 hvA i1 (F3 i2 i1 + (-1))).below (Below.refl _ _).drew)
          rw [@upd_set F3 i2 i1 (-1)] at hm9
          rw [show F3 i2 i1 + (-1) = F3 i2 i1 - 1 by omega] at hm9
          have HM2 := Lib.hid hm9
          clear hm9
          have HB2 : Hid (Below u0.heap.size u0 (wq3.setCell ⟨bA, i1, none⟩ (.int .i64 (F3 i2 i1 - 1))).drew) := Lib.hid ((HBQ.out.setCell (p := ⟨bA, i1, none⟩) (by omega) _).drew)
          have p2 : (wq3.setCell ⟨bA, i1, none⟩ (.int .i64 (F3 i2 i1 - 1))).drew.cell? ⟨bp, 0, none⟩ = some (.int .i64 (i1 : Int)) := (World.cell?_setCell_far _ _ _ _ (show bA ≠ bp from by have := HLT.out _ (List.mem_of_getElem? hvA) bA rfl; omega)).trans p0
          have p3 : (wq3.setCell ⟨bA, i1, none⟩ (.int .i64 (F3 i2 i1 - 1))).drew.cell? ⟨bp, 1, none⟩ = some (.int .i64 (i2 : Int)) := (World.cell?_setCell_far _ _ _ _ (show bA ≠ bp from by have := HLT.out _ (List.mem_of_getElem? hvA) bA rfl; omega)).trans p1
          have HP2 := Lib.hid p2
          have HP3 := Lib.hid p3
          clear p2 p3 hvA hnA hfA hbF
          go_wp2_with fail
          go_region
          clear hcA hnum hfz hwr2 p0 p1
          generalize (wq3.setCell ⟨bA, i1, none⟩ (.int .i64 (F3 i2 i1 - 1))).drew = wq4 at *
          have p0 := HP2.out
          have p1 := HP3.out
          have HBQ := HB2
          have HM := HM2
          clear HP2 HP3 HB2 HM2 hbA1 hbA2
          have HBF2 := Lib.hid (upd_bd HBF.out (i := i2) (j := i1) (d := (-1)) (by omega) (by omega))
          clear HBF HBI
          have HBF : Hid (∀ a b, -(34 : Int) ≤ upd F3 i2 i1 (-1) a b ∧ upd F3 i2 i1 (-1) a b ≤ 34) := HBF2
          clear HBF2
          generalize upd F3 i2 i1 (-1) = F4 at *
          go_wp2_with fail
          go_roundw
          case rel => exact ⟨q + 1, vs, by omega, by go_num, by rw [← HUPD.out]; exact HM.out, HBQ.out⟩
          case measure => simp [intOf]; omega
        · obtain rfl : q = l.length := by omega
          obtain ⟨m, rfl⟩ : ∃ m, k = m + 1 := ⟨k - 1, by omega⟩
          have HE : Hid (treesN (((m + 1 : Nat) : Int), l) = wrap64 (detM m (lapI m l))) := Lib.hid (by
            rw [HE0.out, lap_minors (fun x hx => by
              obtain ⟨i, hi⟩ := List.getElem?_of_mem hx
              have := HBR.out i x hi
              omega)]; rfl)
          generalize hK : m + 1 = k at *
          obtain ⟨ac, cc, hev, hcapk, hrc⟩ := HM.out.own.rowsC (fun r hr => by
            obtain ⟨i, _, rfl⟩ := List.mem_map.1 hr
            rw [rowL_length]; omega)
          rw [toLL_length] at hev hcapk hrc
          simp only [Value.slice.injEq, true_and] at hev
          obtain ⟨rfl, rfl⟩ := hev
          have HRC := Lib.hid hrc
          clear hrc
          have hkm : k - 1 = m := by omega
          have hmk : m + 1 ≤ k := by omega
          have hk1i : (1 : Int) ≤ (k : Int) := by omega
          have HK := Lib.hid hK
          clear hK
          have hm0 : World.ownsRow (wr.alloc (.cells #[] 35)) wr.heap.size 35 1 (.slice (some ⟨wr.heap.size, 0, none⟩) 0 0) 0 [] := World.ownsRow_made wr #[] 0 (Nat.le_refl _) (Nat.zero_le _) rfl
          have hmb : Below wr.heap.size wr (wr.alloc (.cells #[] 35)) := (Below.refl _ _).alloc (Nat.le_refl _) _
          have HM0 := Lib.hid hm0
          clear hm0
          obtain ⟨wL, hwL⟩ : ∃ wL, wL = wr := ⟨_, rfl⟩
          subst hwL
          by_cases hk1 : k = 1
          · subst hk1
            go_wp2_with fail
            generalize wL.alloc (.cells #[] 35) = w3 at *
            go_loopw [7, 89] (fun o cv w9 => ∃ (c : Nat) (vals : List Value), c ≤ m ∧ cv = .int .i64 c ∧ w9.ownsRow wL.heap.size 35 1 o c vals ∧ TailV wL m l c vals ∧ Below wL.heap.size wL w9) (fun _ cv _ => m - (intOf cv).toNat)
            case atStart => exact ⟨0, [], Nat.zero_le _, rfl, HM0.out, ⟨rfl, fun j u hu => by simp at hu⟩, hmb⟩
            case round =>
              clear hmb HM0
              obtain ⟨c, vals, hc, rfl, ho, htv, hb3⟩ := hrel
              have HO := Lib.hid ho
              have HTV := Lib.hid htv
              clear ho htv
              have hb3z := hb3.size
              by_cases hcl : c < m
              · exact absurd hcl (by omega)
              · obtain rfl : c = m := by omega
                have HCC : Hid (∃ al cl, u7 = .slice al c cl ∧ Calls Tryz.prog 62 #[.slice al c cl] wr fun e w' => e = .returned (.int .i64 (wrap64 (detM c (lapI c l)))) ∧ Below wr.heap.size wr w') := Lib.hid (by
                  have hrows : ∀ r ∈ lapI c l, r.length = c := fun r hr => by
                    obtain ⟨i, _, rfl⟩ := List.mem_map.1 hr
                    simp
                  have hll : (lapI c l).length = c := by simp [lapI]
                  rcases HO.out.2 with ⟨e1, h0⟩ | ⟨g, cap9, cur, e1, hb9, hg9, hnc, _⟩
                  · exact ⟨none, 0, by rw [e1, h0], det_at c (by omega) (lapI c l) wr none 0 hll (by omega) hrows ⟨hll, fun j hj => by omega⟩⟩
                  · refine ⟨some ⟨g, 0, none⟩, cap9, e1, det_at c (by omega) (lapI c l) wr _ cap9 hll hnc hrows ⟨hll, fun j hj => ?_⟩⟩
                    have hvl := HTV.out.1
                    have hvj : vals[j]? = some vals[j] := List.getElem?_eq_getElem (by omega)
                    obtain ⟨br, or', cr, hu, hcr, hi⟩ := HTV.out.2 j _ hvj
                    have ho9 := HO.out
                    rw [e1] at ho9
                    have hcell := World.ownsRow.cellAt ho9 j (by omega)
                    rw [hvj, hu] at hcell
                    refine ⟨g, 0, br, or', cr, _, rfl, (Array.getElem?_eq_some_iff.1 hg9).1, lapI_row hj, ?_, ?_, ?_⟩
                    · rw [Nat.zero_add]
                      simpa using hcell
                    · simpa using hi.below hb3
                    · simpa using hcr)
                obtain ⟨al, cl, hsl, hcall⟩ := HCC.out
                have HCA := Lib.hid hcall
                subst hsl
                clear hcall HCC
                go_wp2_with fail
                refine HCA.out.mono ?_
                rintro e w7 ⟨rfl, b7⟩
                go_wp2_with fail
                go_ret
                exact ⟨by rw [HK.out, HE.out]; rfl, (B.trans (hb.mono (by omega))).trans ((hb3.mono (by omega)).trans (b7.mono (by omega)))⟩
          · have hk1n : ¬ (k : Int) = 1 := by omega
            go_wp2_with fail
            generalize wL.alloc (.cells #[] 35) = w3 at *
            go_loopw [7, 89] (fun o cv w9 => ∃ (c : Nat) (vals : List Value), c ≤ m ∧ cv = .int .i64 c ∧ w9.ownsRow wL.heap.size 35 1 o c vals ∧ TailV wL m l c vals ∧ Below wL.heap.size wL w9) (fun _ cv _ => m - (intOf cv).toNat)
            case atStart => exact ⟨0, [], Nat.zero_le _, rfl, HM0.out, ⟨rfl, fun j u hu => by simp at hu⟩, hmb⟩
            case round =>
              clear hmb HM0
              obtain ⟨c, vals, hc, rfl, ho, htv, hb3⟩ := hrel
              have HO := Lib.hid ho
              have HTV := Lib.hid htv
              clear ho htv
              have hb3z := hb3.size
              by_cases hcl : c < m
              · obtain ⟨b2, off2, br, or', cr, r, hab, hbb, hr, hcell, hir, hcr⟩ := HRC.out.2 (c + 1) (by omega)
                simp only [Option.some.injEq, Addr.mk.injEq, and_true] at hab
                obtain ⟨rfl, rfl⟩ := hab
                rw [toLL_get (by omega)] at hr
                have hre := Option.some.inj hr
                subst hre
                rw [rowL_length] at hcell hir hcr
                have hcw := ((bcell hb3).1 _ _ hbb).trans hcell
                rw [show 0 + (c + 1) = 1 + c by omega] at hcw
                have hbw : u0.heap.size < wr.heap.size := by omega
                have hcr1 : ¬ cr = 1 := by omega
                have hcli : (c : Int) < (m : Int) := by omega
                have hc0 : (0 : Int) ≤ (c : Int) := by omega
                have HIR : Hid (IntsAt wL (some ⟨br, or' + 1, none⟩) m ((List.range m).map fun q => lapTo l l.length (c + 1) (q + 1))) := Lib.hid (by
                  have h9 := hir.dropN (show 1 ≤ k by omega)
                  rw [hkm, ← HK.out, lapI_drop] at h9
                  exact h9)
                have hcrm : m ≤ cr - 1 := by omega
                have hsl1 : ∀ w, (Instr.slice 35 (.slice (some ⟨br, or', none⟩) k cr) (some (.int .i64 1)) none none).run Tryz.prog w = .ok (.slice (some ⟨br, or' + 1, none⟩) m (cr - 1)) w := fun w => by go_simp
                clear hcell hir hr
                go_wp2_with (at_builtin; refine appU (by rfl) (.tmp 93) (.tmp 96) (by rfl) (by rfl) HO.out _ (by rfl) (by rfl) (by omega) hb3z ?_; intro v' w8 h8 k8)
                go_roundw
                case rel =>
                  refine ⟨c + 1, _, by omega, by go_num, h8, ⟨by rw [List.length_append, HTV.out.1]; rfl, fun j u hu => ?_⟩, hb3.trans (k8.setOwn HO.out (Nat.le_refl _) hb3z)⟩
                  have hvl := HTV.out.1
                  by_cases hjc : j < vals.length
                  · rw [List.getElem?_append_left hjc] at hu
                    exact HTV.out.2 j u hu
                  · have hjl := lt_of_getElem? hu
                    simp at hjl
                    obtain rfl : j = c := by omega
                    rw [List.getElem?_append_right (by omega), hvl, Nat.sub_self] at hu
                    simp at hu
                    exact ⟨br, or' + 1, cr - 1, hu.symm, hcrm, HIR.out⟩
                case measure => simp [intOf]; omega
              · obtain rfl : c = m := by omega
                have HCC : Hid (∃ al cl, u7 = .slice al c cl ∧ Calls Tryz.prog 62 #[.slice al c cl] wr fun e w' => e = .returned (.int .i64 (wrap64 (detM c (lapI c l)))) ∧ Below wr.heap.size wr w') := Lib.hid (by
                  have hrows : ∀ r ∈ lapI c l, r.length = c := fun r hr => by
                    obtain ⟨i, _, rfl⟩ := List.mem_map.1 hr
                    simp
                  have hll : (lapI c l).length = c := by simp [lapI]
                  rcases HO.out.2 with ⟨e1, h0⟩ | ⟨g, cap9, cur, e1, hb9, hg9, hnc, _⟩
                  · exact ⟨none, 0, by rw [e1, h0], det_at c (by omega) (lapI c l) wr none 0 hll (by omega) hrows ⟨hll, fun j hj => by omega⟩⟩
                  · refine ⟨some ⟨g, 0, none⟩, cap9, e1, det_at c (by omega) (lapI c l) wr _ cap9 hll hnc hrows ⟨hll, fun j hj => ?_⟩⟩
                    have hvl := HTV.out.1
                    have hvj : vals[j]? = some vals[j] := List.getElem?_eq_getElem (by omega)
                    obtain ⟨br, or', cr, hu, hcr, hi⟩ := HTV.out.2 j _ hvj
                    have ho9 := HO.out
                    rw [e1] at ho9
                    have hcell := World.ownsRow.cellAt ho9 j (by omega)
                    rw [hvj, hu] at hcell
                    refine ⟨g, 0, br, or', cr, _, rfl, (Array.getElem?_eq_some_iff.1 hg9).1, lapI_row hj, ?_, ?_, ?_⟩
                    · rw [Nat.zero_add]
                      simpa using hcell
                    · simpa using hi.below hb3
                    · simpa using hcr)
                obtain ⟨al, cl, hsl, hcall⟩ := HCC.out
                have HCA := Lib.hid hcall
                subst hsl
                clear hcall HCC
                go_wp2_with fail
                refine HCA.out.mono ?_
                rintro e w7 ⟨rfl, b7⟩
                go_wp2_with fail
                go_ret
                exact ⟨by rw [HK.out, HE.out]; rfl, (B.trans (hb.mono (by omega))).trans ((hb3.mono (by omega)).trans (b7.mono (by omega)))⟩
theorem impl_CountTrees (W : World) (v : Value) (g : GraphT) (h : IsGraph W v g) (hn : szGraph g ≤ 1048576) : Calls Tryz.prog 13 #[v] W fun e w' => e = .returned (.int .i64 (treesN g)) ∧ Below W.heap.size W w' := by
  obtain ⟨p, l⟩ := g
  obtain ⟨a, cap, rfl, hi⟩ := h
  exact implCtr_at _ _ _ _ _ hi hn
end Go.Proofs.YtfbmpkdjhhcnpaaGreat

namespace Go.Proofs.YtfbmpkdjhhcnpaaGreat
open Go.RowKit
set_option maxRecDepth 100000
set_option linter.unusedVariables false
set_option linter.unusedSimpArgs false
/-- a graph in its box -/
structure GrS (w : World) (g : Nat) (p : Int) (a : Option Addr) (c : Nat) (bs : List BarT) : Prop where
  bx : BoxGr w g p a bs.length c
  at' : BarsAt w a bs.length bs
theorem GrS.below {w w' : World} {g : Nat} {p : Int} {a : Option Addr} {c : Nat} {bs : List BarT} (h : GrS w g p a c bs) (hb : Below w.heap.size w w') : GrS w' g p a c bs :=
  ⟨h.bx.below hb, h.at'.below hb⟩
theorem GrS.is {w : World} {g : Nat} {p : Int} {a : Option Addr} {c : Nat} {bs : List BarT} (h : GrS w g p a c bs) : IsGraph w (.agg #[.int .i64 p, .slice a bs.length c]) (p, bs) := ⟨a, c, rfl, h.at'⟩
/-- what is left behind the first graph -/
def TrU (W w : World) (a0 : Option Addr) (x0 : List Int) : Prop := Below W.heap.size W w ∧ BytesAt w a0 x0.length x0
theorem TrU.below {W w w' : World} {a0 : Option Addr} {x0 : List Int} (h : TrU W w a0 x0) (hb : Below w.heap.size w w') : TrU W w' a0 x0 := ⟨h.1.step hb, h.2.below hb⟩
theorem packOk_iff {g : GraphT} {k : Int} (hk : 1 ≤ k ∧ k ≤ 3) : packOk g k = (tightB g k k && decide (g.1 ≤ 5)) := by
  have hk2 : inB k 1 3 = true := by simp [inB]; omega
  by_cases h : (tightB g k k && decide (g.1 ≤ 5)) = true
  · rw [h]
    simp only [Bool.and_eq_true, decide_eq_true_eq] at h
    exact packOk_tight hk2 h.1 h.2
  · rw [Bool.eq_false_iff.2 h]
    unfold packOk packO
    rw [if_neg (by rw [hk2, Bool.true_and]; exact h)]
    rfl
set_option maxRecDepth 1000000 in
set_option maxHeartbeats 16000000 in
theorem walkFnTrees (W : World) (v0 : Value) (x0 : List Int) (r0 : IsBytes W v0 x0) (ok0 : OkBytes x0) :
    Calls Tryz.prog 3 #[v0] W fun e w' => e = .returned (.bool true) ∧ Below W.heap.size W w' := by
  obtain ⟨a0, cap0, rfl, hB⟩ := r0
  have hwd := @Wd.cells
  by_cases hbig : (1048576 : Int) < (x0.length : Int)
  · go_enter Tryz.func3, Tryz.ntmps3
    go_wp2_with fail
    refine (big_at W a0 x0.length cap0).mono ?_
    rintro e w1 ⟨rfl, e1⟩
    obtain rfl : W = w1 := e1.symm
    rw [decide_eq_true hbig]
    go_wp2_with fail
    go_ret
    exact ⟨rfl, Below.refl _ _⟩
  have HB := Lib.hid hB
  clear hB
  have hx20 : x0.length ≤ 1048576 := by omega
  go_enter Tryz.func3, Tryz.ntmps3
  go_wp2_with fail
  refine (big_at W a0 x0.length cap0).mono ?_
  rintro e w1 ⟨rfl, e1⟩
  obtain rfl : W = w1 := e1.symm
  clear e1
  rw [decide_eq_false (show ¬ (1048576 : Int) < (x0.length : Int) by omega)]
  clear hbig
  go_wp2_with fail
  refine (drawPck_at W a0 x0.length cap0 x0 HB.out hx20).mono ?_
  rintro e w1 ⟨p, a, c, bs, k, rfl, ob, hsm, b1⟩
  have ba := belAl w1 (.cells #[.int .i64 p, .slice a bs.length c] 26)
  obtain ⟨g3, hg3⟩ : ∃ q, q = w1.heap.size := ⟨_, rfl⟩
  have G : Hid (GrS (w1.alloc (.cells #[.int .i64 p, .slice a bs.length c] 26)) g3 p a c bs) := Lib.hid ⟨by rw [hg3]; exact BoxGr.at rfl, (ownBars_at ob).below ba⟩
  have MU : Hid (TrU W (w1.alloc (.cells #[.int .i64 p, .slice a bs.length c] 26)) a0 x0) := Lib.hid ⟨b1.step ba, (HB.out.below b1).below ba⟩
  have hsz : szGraph (p, bs) ≤ 1048576 := by show bs.length ≤ 1048576; omega
  have hk := hsm.2
  clear ob hsm b1 ba HB
  go_wp2_with fail
  rw [← hg3]
  generalize (w1.alloc (.cells #[.int .i64 p, .slice a bs.length c] 26)) = w2 at *
  clear hg3
  obtain ⟨zB, cB0, cB1⟩ := G.out.bx
  go_wp2_with fail
  clear zB cB0 cB1
  refine (impl_PackTrees w2 _ (p, bs) G.out.is k hsz).mono ?_
  rintro e w3 ⟨v3, rfl, o3, b3⟩
  obtain ⟨ok, hok⟩ : ∃ ok, ok = packOk (p, bs) k := ⟨_, rfl⟩
  obtain ⟨L, hL⟩ : ∃ L, L = packL (p, bs) k := ⟨_, rfl⟩
  have HPS := Lib.hid (fun w9 (G9 : GrS w9 g3 p a c bs) => spec_PackTrees w9 _ (p, bs) G9.is k hsz)
  rw [← hL] at o3
  rw [← hok, ← hL] at HPS
  try rw [← hok]
  have HSZ : Hid (szIntss L ≤ 1048576) := Lib.hid (by rw [hL]; exact packL_sz _ _)
  have HPB : Hid (ok = true → packB 3 (p, bs) k L = true) := Lib.hid fun h => by rw [hL]; exact packL_pack (by rw [← hok]; exact h)
  have HOK : Hid (ok = (tightB (p, bs) k k && decide (p ≤ 5))) := Lib.hid (by rw [hok]; exact packOk_iff hk)
  obtain ⟨aL, cL, rfl, iL⟩ := o3.form
  have IL := Lib.hid iL
  replace G := Lib.hid (G.out.below b3)
  replace MU := Lib.hid (MU.out.below b3)
  clear o3 b3 iL hok hL
  obtain ⟨zB, cB0, cB1⟩ := G.out.bx
  go_wp2_with fail
  clear zB cB0 cB1
  refine (HPS.out w3 G.out).mono ?_
  rintro e w4 ⟨v4, rfl, o4, b4⟩
  obtain ⟨aM, cM, rfl, iM⟩ := o4.form
  have IM := Lib.hid iM
  replace IL := Lib.hid (IL.out.below b4)
  replace G := Lib.hid (G.out.below b4)
  replace MU := Lib.hid (MU.out.below b4)
  clear o4 b4 iM HPS
  have HTI := Lib.hid (fun w9 (G9 : GrS w9 g3 p a c bs) => specTight_at w9 p a c bs G9.at' hsz k k)
  obtain ⟨T, hT⟩ : ∃ T, T = tightB (p, bs) k k := ⟨_, rfl⟩
  rw [← hT] at HTI HOK
  clear hT
  have HSS := Lib.hid (sz_parts HSZ.out)
  go_upto_region 6 with (fail)
  go_cut [68] from 37 to 68 (fun s wx => s = .bool false ∧ TrU W wx a0 x0)
  case first =>
    cases ok
    · obtain ⟨zB, cB0, cB1⟩ := G.out.bx
      go_wp2_with fail
      clear zB cB0 cB1
      refine (sameSets_eq aL aM L.length cL cM L w4 IL.out IM.out (by have := HSS.out.1; omega) fun r hr => by have := HSS.out.2 r hr; omega).mono ?_
      rintro e w5 ⟨rfl, b5⟩
      replace G := Lib.hid (G.out.below b5)
      replace MU := Lib.hid (MU.out.below b5)
      clear b5
      obtain ⟨zB, cB0, cB1⟩ := G.out.bx
      go_wp2_with fail
      clear zB cB0 cB1
      refine (HTI.out w5 G.out).mono ?_
      rintro e w6 ⟨rfl, b6⟩
      replace G := Lib.hid (G.out.below b6)
      replace MU := Lib.hid (MU.out.below b6)
      clear b6
      cases T
      · obtain ⟨zB, cB0, cB1⟩ := G.out.bx
        go_wp2_with fail
        go_meet
        exact ⟨rfl, MU.out⟩
      · have h5 : ¬ p ≤ 5 := by
          have := HOK.out
          rw [Bool.true_and] at this
          exact of_decide_eq_false this.symm
        obtain ⟨zB, cB0, cB1⟩ := G.out.bx
        go_wp2_with fail
        go_meet
        exact ⟨congrArg Value.bool (decide_eq_false (show ¬ p ≤ 5 by omega)), MU.out⟩
    · have hT5 : T = true ∧ p ≤ 5 := by
        have := HOK.out.symm
        simpa using this
      obtain ⟨rfl, h5⟩ := hT5
      have hpb := HPB.out rfl
      obtain ⟨zB, cB0, cB1⟩ := G.out.bx
      go_wp2_with fail
      clear zB cB0 cB1
      refine (sameSets_eq aL aM L.length cL cM L w4 IL.out IM.out (by have := HSS.out.1; omega) fun r hr => by have := HSS.out.2 r hr; omega).mono ?_
      rintro e w5 ⟨rfl, b5⟩
      replace G := Lib.hid (G.out.below b5)
      replace MU := Lib.hid (MU.out.below b5)
      replace IM := Lib.hid (IM.out.below b5)
      clear b5
      obtain ⟨zB, cB0, cB1⟩ := G.out.bx
      go_wp2_with fail
      clear zB cB0 cB1
      refine (impl_ArePackedTrees w5 _ (p, bs) G.out.is k _ L ⟨aM, cM, rfl, IM.out⟩ hsz HSZ.out).mono ?_
      rintro e w6 ⟨rfl, b6⟩
      rw [hpb]
      replace G := Lib.hid (G.out.below b6)
      replace MU := Lib.hid (MU.out.below b6)
      clear b6
      obtain ⟨zB, cB0, cB1⟩ := G.out.bx
      go_wp2_with fail
      clear zB cB0 cB1
      refine (HTI.out w6 G.out).mono ?_
      rintro e w7 ⟨rfl, b7⟩
      replace G := Lib.hid (G.out.below b7)
      replace MU := Lib.hid (MU.out.below b7)
      clear b7
      obtain ⟨zB, cB0, cB1⟩ := G.out.bx
      go_wp2_with fail
      go_meet
      exact ⟨rfl, MU.out⟩
  case rest =>
    clear G MU IL IM HTI HSS HSZ HPB HOK hsz hk
    obtain ⟨rfl, mu⟩ := hcut
    have MU := Lib.hid mu
    clear mu
    rename_i K1 h1 K0 h0
    refine h0 _ _ ?_
    have H1 := Lib.hid h1
    clear h1 h0
    go_wp2_with fail
    refine H1.out _ _ ?_
    clear H1
    generalize wc = w7 at *
    go_wp2_with fail
    refine (drawSpt_at w7 a0 x0.length cap0 x0 MU.out.2 hx20).mono ?_
    rintro e w8 ⟨pB, aB, cB, lB, vb, vd, u, rfl, ob, fv, hsm, b8⟩
    have ba := belAl w8 (.cells #[.int .i64 pB, .slice aB lB.length cB] 26)
    obtain ⟨gB, hgB⟩ : ∃ q, q = w8.heap.size := ⟨_, rfl⟩
    have G : Hid (GrS (w8.alloc (.cells #[.int .i64 pB, .slice aB lB.length cB] 26)) gB pB aB cB lB) := Lib.hid ⟨by rw [hgB]; exact BoxGr.at rfl, (ownBars_at ob).below ba⟩
    have VB := Lib.hid (fv.at'.below ba)
    replace MU := Lib.hid ((MU.out.below b8).below ba)
    have hszB : szGraph (pB, lB) ≤ 1048576 := by show lB.length ≤ 1048576; omega
    have hvB : u.length ≤ 1048576 := by omega
    clear ob fv hsm b8 ba
    go_wp2_with fail
    rw [← hgB]
    generalize (w8.alloc (.cells #[.int .i64 pB, .slice aB lB.length cB] 26)) = w9 at *
    clear hgB
    obtain ⟨zB, cB0, cB1⟩ := G.out.bx
    go_wp2_with fail
    clear zB cB0 cB1
    refine (impl_CountTrees w9 _ (pB, lB) G.out.is hszB).mono ?_
    rintro e w10 ⟨rfl, b10⟩
    replace G := Lib.hid (G.out.below b10)
    replace MU := Lib.hid (MU.out.below b10)
    replace VB := Lib.hid (VB.out.below b10)
    clear b10
    have HCC : Hid (0 ≤ treesN (pB, lB) → decide (0 < treesN (pB, lB)) = connB (pB, lB)) := Lib.hid trees_conn
    have HCN := Lib.hid (fun w' (hb : Below w10.heap.size w10 w') => specConn_at w' pB aB cB lB (G.out.below hb).at' hszB)
    have HCT := Lib.hid (fun w' (hb : Below w10.heap.size w10 w') => spec_CountTrees w' _ (pB, lB) (G.out.below hb).is hszB)
    have HSI := Lib.hid (fun w' (hb : Below w10.heap.size w10 w') => impl_IsSpanningTree w' _ (pB, lB) (G.out.below hb).is (.slice vb u.length vd) u ⟨vb, vd, rfl, VB.out.below hb⟩ hszB hvB)
    have HSS := Lib.hid (fun w' (hb : Below w10.heap.size w10 w') => spec_IsSpanningTree w' _ (pB, lB) (G.out.below hb).is (.slice vb u.length vd) u ⟨vb, vd, rfl, VB.out.below hb⟩ hszB hvB)
    obtain ⟨X, hX⟩ : ∃ X, X = treesN (pB, lB) := ⟨_, rfl⟩
    obtain ⟨C, hC⟩ : ∃ X, X = connB (pB, lB) := ⟨_, rfl⟩
    obtain ⟨S, hS⟩ : ∃ X, X = sptB (pB, lB) u := ⟨_, rfl⟩
    rw [← hX] at HCT HCC
    rw [← hC] at HCN HCC
    rw [← hS] at HSI HSS
    try rw [← hX]
    have hXX : (X != X) = false := by simp
    have hSS : (S != S) = false := by simp
    clear hX hC hS VB
    go_upto_region 10 with (fail)
    go_cut [99] from 76 to 99 (fun s wx => s = .bool false ∧ TrU W wx a0 x0)
    case first =>
      obtain ⟨zB, cB0, cB1⟩ := G.out.bx
      by_cases hx0 : 0 ≤ X
      · have hcc := HCC.out hx0
        by_cases hx1 : 0 < X
        · rw [decide_eq_true hx1] at hcc
          subst hcc
          clear HCC
          refine wp_region_wd (by kernel_rfl) (by kernel_rfl) ?_
          repeat (go_big_quiet_step ((first | (go_at_call 14; exact Calls.wd_of (HCT.out _ (Wd.h _))) | (go_at_call 15; exact Calls.wd_of (HSI.out _ (Wd.h _))) | (go_at_call 16; exact Calls.wd_of (HSS.out _ (Wd.h _))) | (go_at_call 17; exact Calls.wd_of (HCN.out _ (Wd.h _))))))
          refine wpQuiet_nil ?_
          intro n1
          go_wp2_with fail
          go_meet
          exact ⟨rfl, MU.out.below n1.h⟩
        · rw [decide_eq_false hx1] at hcc
          subst hcc
          clear HCC
          refine wp_region_wd (by kernel_rfl) (by kernel_rfl) ?_
          repeat (go_big_quiet_step ((first | (go_at_call 14; exact Calls.wd_of (HCT.out _ (Wd.h _))) | (go_at_call 15; exact Calls.wd_of (HSI.out _ (Wd.h _))) | (go_at_call 16; exact Calls.wd_of (HSS.out _ (Wd.h _))) | (go_at_call 17; exact Calls.wd_of (HCN.out _ (Wd.h _))))))
          refine wpQuiet_nil ?_
          intro n1
          go_wp2_with fail
          go_meet
          exact ⟨rfl, MU.out.below n1.h⟩
      · clear HCC
        refine wp_region_wd (by kernel_rfl) (by kernel_rfl) ?_
        repeat (go_big_quiet_step ((first | (go_at_call 14; exact Calls.wd_of (HCT.out _ (Wd.h _))) | (go_at_call 15; exact Calls.wd_of (HSI.out _ (Wd.h _))) | (go_at_call 16; exact Calls.wd_of (HSS.out _ (Wd.h _))) | (go_at_call 17; exact Calls.wd_of (HCN.out _ (Wd.h _))))))
        refine wpQuiet_nil ?_
        intro n1
        go_wp2_with fail
        go_meet
        exact ⟨rfl, MU.out.below n1.h⟩
    case rest =>
      clear G MU HCC HCN HCT HSI HSS hXX hSS hszB hvB
      obtain ⟨rfl, mu⟩ := hcut
      have MU := Lib.hid mu
      clear mu
      rename_i K1 h1 K0 h0
      refine h0 _ _ ?_
      have H1 := Lib.hid h1
      clear h1 h0
      go_wp2_with fail
      refine H1.out _ _ ?_
      clear H1
      go_wp2_with fail
      refine (drawFor_at wc a0 x0.length cap0 x0 MU.out.2 hx20).mono ?_
      rintro e w12 ⟨pC, aC, cC, lC, vc, ve, s, rfl, ob, fv, hsm, b12⟩
      have ba := belAl w12 (.cells #[.int .i64 pC, .slice aC lC.length cC] 26)
      obtain ⟨gC, hgC⟩ : ∃ q, q = w12.heap.size := ⟨_, rfl⟩
      have GC : Hid (GrS (w12.alloc (.cells #[.int .i64 pC, .slice aC lC.length cC] 26)) gC pC aC cC lC) := Lib.hid ⟨by rw [hgC]; exact BoxGr.at rfl, (ownBars_at ob).below ba⟩
      have VC := Lib.hid (fv.at'.below ba)
      replace MU := Lib.hid ((MU.out.below b12).below ba)
      have hszC : szGraph (pC, lC) ≤ 1048576 := by show lC.length ≤ 1048576; omega
      have hvC : s.length ≤ 1048576 := by omega
      clear ob fv hsm b12 ba
      go_wp2_with fail
      rw [← hgC]
      generalize (w12.alloc (.cells #[.int .i64 pC, .slice aC lC.length cC] 26)) = w13 at *
      clear hgC
      refine (drawArp_at w13 a0 x0.length cap0 x0 MU.out.2 hx20).mono ?_
      rintro e w14 ⟨pD, aD, cD, lD, kD, aL, cL, L, rfl, ob, fl, hsm, b14⟩
      have ba := belAl w14 (.cells #[.int .i64 pD, .slice aD lD.length cD] 26)
      obtain ⟨gD, hgD⟩ : ∃ q, q = w14.heap.size := ⟨_, rfl⟩
      have GD : Hid (GrS (w14.alloc (.cells #[.int .i64 pD, .slice aD lD.length cD] 26)) gD pD aD cD lD) := Lib.hid ⟨by rw [hgD]; exact BoxGr.at rfl, (ownBars_at ob).below ba⟩
      have VL := Lib.hid (fl.at.below ba)
      replace MU := Lib.hid ((MU.out.below b14).below ba)
      replace GC := Lib.hid ((GC.out.below b14).below ba)
      replace VC := Lib.hid ((VC.out.below b14).below ba)
      have hszD : szGraph (pD, lD) ≤ 1048576 := by show lD.length ≤ 1048576; omega
      have hlD := hsm.2.2
      clear ob fl hsm b14 ba
      go_wp2_with fail
      rw [← hgD]
      generalize (w14.alloc (.cells #[.int .i64 pD, .slice aD lD.length cD] 26)) = w15 at *
      clear hgD
      refine (drawCtr_at w15 a0 x0.length cap0 x0 MU.out.2 hx20).mono ?_
      rintro e w16 ⟨pE, aE, cE, lE, rfl, ob, hsm, b16⟩
      have ba := belAl w16 (.cells #[.int .i64 pE, .slice aE lE.length cE] 26)
      obtain ⟨gE, hgE⟩ : ∃ q, q = w16.heap.size := ⟨_, rfl⟩
      have GE : Hid (GrS (w16.alloc (.cells #[.int .i64 pE, .slice aE lE.length cE] 26)) gE pE aE cE lE) := Lib.hid ⟨by rw [hgE]; exact BoxGr.at rfl, (ownBars_at ob).below ba⟩
      have BW := Lib.hid ((MU.out.1.step b16).step ba)
      replace GC := Lib.hid ((GC.out.below b16).below ba)
      replace VC := Lib.hid ((VC.out.below b16).below ba)
      replace GD := Lib.hid ((GD.out.below b16).below ba)
      replace VL := Lib.hid ((VL.out.below b16).below ba)
      have hszE : szGraph (pE, lE) ≤ 1048576 := by show lE.length ≤ 1048576; omega
      clear ob hsm b16 ba MU
      go_wp2_with fail
      rw [← hgE]
      generalize (w16.alloc (.cells #[.int .i64 pE, .slice aE lE.length cE] 26)) = w17 at *
      clear hgE
      have HFI := Lib.hid (fun w' (hb : Below w17.heap.size w17 w') => impl_IsForest w' _ (pC, lC) (GC.out.below hb).is (.slice vc s.length ve) s ⟨vc, ve, rfl, VC.out.below hb⟩ hszC hvC)
      have HFS := Lib.hid (fun w' (hb : Below w17.heap.size w17 w') => spec_IsForest w' _ (pC, lC) (GC.out.below hb).is (.slice vc s.length ve) s ⟨vc, ve, rfl, VC.out.below hb⟩ hszC hvC)
      have HFN := Lib.hid (fun w' (hb : Below w17.heap.size w17 w') => specIndep_at w' pC aC cC lC (GC.out.below hb).at' hszC vc s.length ve s (VC.out.below hb) hvC)
      have HPI := Lib.hid (fun w' (hb : Below w17.heap.size w17 w') => impl_ArePackedTrees w' _ (pD, lD) (GD.out.below hb).is kD (.slice aL L.length cL) L ⟨aL, cL, rfl, VL.out.below hb⟩ hszD hlD)
      have HPS := Lib.hid (fun w' (hb : Below w17.heap.size w17 w') => spec_ArePackedTrees w' _ (pD, lD) (GD.out.below hb).is kD (.slice aL L.length cL) L ⟨aL, cL, rfl, VL.out.below hb⟩ hszD hlD)
      have HCI := Lib.hid (fun w' (hb : Below w17.heap.size w17 w') => impl_CountTrees w' _ (pE, lE) (GE.out.below hb).is hszE)
      have HCS := Lib.hid (fun w' (hb : Below w17.heap.size w17 w') => spec_CountTrees w' _ (pE, lE) (GE.out.below hb).is hszE)
      obtain ⟨F, hF⟩ : ∃ X, X = frstB (pC, lC) s := ⟨_, rfl⟩
      obtain ⟨PK, hPK⟩ : ∃ X, X = packB 3 (pD, lD) kD L := ⟨_, rfl⟩
      obtain ⟨X, hX⟩ : ∃ X, X = treesN (pE, lE) := ⟨_, rfl⟩
      rw [← hF] at HFI HFS HFN
      rw [← hPK] at HPI HPS
      rw [← hX] at HCI HCS
      have hFF : (F == F) = true := by simp
      have hPP : (PK == PK) = true := by simp
      have hXX : (X == X) = true := by simp
      clear hF hPK hX VC VL hszC hszD hszE hvC hlD
      obtain ⟨zC, cC0, cC1⟩ := GC.out.bx
      obtain ⟨zD, cD0, cD1⟩ := GD.out.bx
      obtain ⟨zE, cE0, cE1⟩ := GE.out.bx
      go_wp2_with fail
      refine wp_region_wd (by kernel_rfl) (by kernel_rfl) ?_
      repeat (go_big_quiet_step ((first | (go_at_call 21; exact Calls.wd_of (HFI.out _ (Wd.h _))) | (go_at_call 22; exact Calls.wd_of (HFS.out _ (Wd.h _))) | (go_at_call 23; exact Calls.wd_of (HFN.out _ (Wd.h _))) | (go_at_call 10; exact Calls.wd_of (HPI.out _ (Wd.h _))) | (go_at_call 24; exact Calls.wd_of (HPS.out _ (Wd.h _))) | (go_at_call 13; exact Calls.wd_of (HCI.out _ (Wd.h _))) | (go_at_call 14; exact Calls.wd_of (HCS.out _ (Wd.h _))))))
      refine wpQuiet_nil ?_
      intro n1
      go_wp2_with fail
      go_ret
      exact ⟨rfl, BW.out.step n1.h⟩
end Go.Proofs.YtfbmpkdjhhcnpaaGreat

