/- OnlyBars of the program. No condition but sizes. -/
import Derived.Test.YtfdhbbhfilkafaaGreatGrB
import Derived.Test.YtfdhbbhfilkafaaGreatApp3
import Derived.Test.YtfdhbbhfilkafaaGreatFwH
import Derived.Deep.RegionLaw
namespace Go.Proofs.YtfdhbbhfilkafaaGreat
open Go.RowKit
set_option maxRecDepth 100000
set_option linter.unusedVariables false
set_option linter.unusedSimpArgs false

/-- 'append(s, x)' of one bar -/
theorem appBar1At {w : World} {ops : Array Oper} {rest : List Oper} {o : Oper} {a : Act} {Q : Exit → Act → World → Prop} (hg : o.guard = none) (s x : Operand)
    (ho : o.op = .call { callee := .builtin .append, args := #[s, x], argTypes := #[24, 24] }) {base : Nat} {v : Value} {l : List BarT} (hs : a.eval s = v) (hown : OwnBars w base v l) (y1 y2 : Int)
    (hx : a.eval x = .slice (some ⟨w.heap.size, 0, none⟩) 1 1) (hl : l.length < 1099511627776) (hbase : base ≤ w.heap.size)
    (hK : ∀ v' w', OwnBars w' base v' (l ++ [(y1, y2)]) → Kept (fun k => some k = v.ownBlock) w w' → (v'.ownBlock = v.ownBlock ∨ ∀ b, v'.ownBlock = some b → w.heap.size ≤ b) → wpList Tryz.prog ops Q rest (a.put o.dst v') w') :
    wpList Tryz.prog ops Q (o :: rest) a (w.alloc (.cells #[.int .i64 y1, .int .i64 y2] 78)) := by
  obtain ⟨i0, hi, hz0, hz1, hz2⟩ := info_parts infoBar
  refine wpList_append_whole _ hg s x 24 ho base 78 i0 _ 2 16 Tryz.underlying24 hi hz0 hz1 hz2 rfl (by decide) v l.length (l.flatMap cellsBar) hs (World.ownsRow.alloc hown _) (some ⟨w.heap.size, 0, none⟩) 1 1 [.int .i64 y1, .int .i64 y2] hx rfl ?_ (by intro u hu; simp at hu; rcases hu with rfl | rfl <;> rfl) (by unfold maxLen; omega) (by omega) (by simp; omega) ?_
  · intro j u hu
    have hj : j < 2 := by have := lt_of_getElem? hu; simpa using this
    obtain rfl | rfl : j = 0 ∨ j = 1 := by omega
    · simp at hu; subst hu; exact ⟨w.heap.size, 0, rfl, by simp [World.cell?_alloc_new]⟩
    · simp at hu; subst hu; exact ⟨w.heap.size, 0, rfl, by simp [World.cell?_alloc_new]⟩
  · intro v' w' h1 h2 h3
    refine hK v' w' (by unfold OwnBars; simpa [cellsBar] using h1) ((Kept.of_below ((Below.refl _ _).alloc (Nat.le_refl _) _)).trans ⟨h2.os, h2.tape, h2.output, h2.size, fun k hk hs => h2.block k hk hs⟩) ?_
    rcases h3 with h3 | h3
    · exact .inl h3
    · right
      intro b hb
      rw [h3] at hb
      simp at hb
      omega
theorem cellSetNe {w : World} {b c o k : Nat} {v : Value} (h : b ≠ c) : (w.setCell ⟨b, o, none⟩ v).cell? ⟨c, k, none⟩ = w.cell? ⟨c, k, none⟩ := by
  simp [World.cell?, World.setCell, Array.getElem?_modify, h]
theorem keptSet' {S : Nat → Prop} {W : World} {b j : Nat} {x : Value} (hS : S b) : Kept S W (W.setCell ⟨b, j, none⟩ x) :=
  ⟨rfl, rfl, rfl, by simp, fun k hk hs => by
    have : k ≠ b := fun e => hs (e ▸ hS)
    simp [World.setCell, Array.getElem?_modify, Ne.symm this]⟩
/-- the cells of a graph that stands for a result -/
def Zer2 (w : World) (g : Nat) : Prop := (∃ a b c, w.cell? ⟨g, 0, none⟩ = some (.int .i64 a) ∧ w.cell? ⟨g, 1, none⟩ = some (.slice none b c)) ∧ (w.frozen? ⟨g, 0, none⟩ = false ∧ w.frozen? ⟨g, 1, none⟩ = false) ∧ g < w.heap.size
theorem Zer2.at (w : World) (ty : TypeId) : Zer2 (w.alloc (.cells #[.int .i64 0, .slice none 0 0] ty)) w.heap.size :=
  ⟨⟨0, 0, 0, by simp [World.cell?_alloc_new], by simp [World.cell?_alloc_new]⟩, ⟨by simp [World.frozen?_alloc_new], by simp [World.frozen?_alloc_new]⟩, by simp⟩
theorem Zer2.kept {S : Nat → Prop} {w w' : World} {g : Nat} (h : Zer2 w g) (hk : Kept S w w') (hs : ¬ S g) : Zer2 w' g := by
  obtain ⟨⟨a, b, c, c0, c1⟩, ⟨f0, f1⟩, hz⟩ := h
  exact ⟨⟨a, b, c, (hk.cell hz hs).trans c0, (hk.cell hz hs).trans c1⟩, ⟨(hk.frozen hz hs).trans f0, (hk.frozen hz hs).trans f1⟩, Nat.lt_of_lt_of_le hz hk.size⟩
theorem Zer2.below {w w' : World} {g : Nat} (h : Zer2 w g) (hb : Below w.heap.size w w') : Zer2 w' g := h.kept (Kept.of_below (S := fun _ => False) hb) id
theorem Zer2.belowAt {B : Nat} {w w' : World} {g : Nat} (h : Zer2 w g) (hb : Below B w w') (hg : g < B) : Zer2 w' g := by
  obtain ⟨⟨a, b, c, c0, c1⟩, ⟨f0, f1⟩, hz⟩ := h
  exact ⟨⟨a, b, c, (hb.cell (p := ⟨g, 0, none⟩) hg).trans c0, (hb.cell (p := ⟨g, 1, none⟩) hg).trans c1⟩, ⟨(hb.frozen (p := ⟨g, 0, none⟩) hg).trans f0, (hb.frozen (p := ⟨g, 1, none⟩) hg).trans f1⟩, Nat.lt_of_lt_of_le hz hb.size⟩
/-- a graph laid into the place of the result -/
theorem laid2 {W w : World} {p : Int} {ab : Option Addr} {cb lo g : Nat} {l : List BarT} (hb : OwnBars w lo (.slice ab l.length cb) l) (hg : W.heap.size ≤ g) (hgl : g < lo) (hlo : W.heap.size ≤ lo) (hbe : Below W.heap.size W w) :
    OwnGraph ((w.setCell ⟨g, 0, none⟩ (.int .i64 p)).setCell ⟨g, 1, none⟩ (.slice ab l.length cb)) W.heap.size (.agg #[.int .i64 p, .slice ab l.length cb]) (p, l)
    ∧ Below W.heap.size W ((w.setCell ⟨g, 0, none⟩ (.int .i64 p)).setCell ⟨g, 1, none⟩ (.slice ab l.length cb)) :=
  ⟨⟨.slice ab l.length cb, ⟨ab, cb, rfl, rfl⟩, ownsRow_base ((hb.set (by simp; omega) _).set (by simp; omega) _) hlo⟩, (hbe.setCell (by simp; omega) _).setCell (by simp; omega) _⟩

def keepTo (l : List BarT) (s : List Int) : Nat → List BarT
  | 0 => []
  | k + 1 => keepTo l s k ++ (if (k : Int) ∈ s then (l[k]?).toList else [])
def keepL (l : List BarT) (s : List Int) : List BarT := keepTo l s l.length
theorem keepTo_len (l : List BarT) (s : List Int) (k : Nat) : (keepTo l s k).length ≤ k := by
  induction k with
  | zero => simp [keepTo]
  | succ k ih =>
    unfold keepTo
    rw [List.length_append]
    have : (if (k : Int) ∈ s then (l[k]?).toList else []).length ≤ 1 := by
      split
      · cases l[k]? <;> simp
      · simp
    omega

set_option maxHeartbeats 4000000 in
theorem implOnly_at (W : World) (p : Int) (a : Option Addr) (cap : Nat) (l : List BarT) (h : BarsAt W a l.length l) (hs : l.length ≤ 1048576) (va : Option Addr) (n vcap : Nat) (s : List Int) (hv : IntsAt W va n s) (hvn : n ≤ 1048576) :
    Calls Tryz.prog 75 #[.agg #[.int .i64 p, .slice a l.length cap], .slice va n vcap] W (RetGraph W (p, keepL l s)) := by
  have hwd := @Wd.cells
  have HGr : Hid (IsGraph W (.agg #[.int .i64 p, .slice a l.length cap]) (p, l)) := Lib.hid ⟨a, cap, rfl, h⟩
  have H1 := Lib.hid h
  clear h
  have hsz : szGraph (p, l) ≤ 1048576 := hs
  have hsz2 : szGraph (p, l) ≤ 1099511627776 := Nat.le_trans hsz (by decide)
  have B : Below W.heap.size W (W.alloc (.cells #[.int .i64 p, .slice a l.length cap] 26)) := (Below.refl _ _).alloc (Nat.le_refl _) _
  have BG : Hid (BoxGr (W.alloc (.cells #[.int .i64 p, .slice a l.length cap] 26)) W.heap.size p a l.length cap) := Lib.hid (BoxGr.at rfl)
  have HV := Lib.hid hv
  clear hv
  have HZ : Hid (Zer2 ((W.alloc (.cells #[.int .i64 p, .slice a l.length cap] 26)).alloc (.cells #[.int .i64 0, .slice none 0 0] 26)) (W.heap.size + 1)) := Lib.hid (by have := Zer2.at (W.alloc (.cells #[.int .i64 p, .slice a l.length cap] 26)) 26; rwa [World.size_alloc] at this)
  have hba : Below (W.alloc (.cells #[.int .i64 p, .slice a l.length cap] 26)).heap.size (W.alloc (.cells #[.int .i64 p, .slice a l.length cap] 26)) (((W.alloc (.cells #[.int .i64 p, .slice a l.length cap] 26)).alloc (.cells #[.int .i64 0, .slice none 0 0] 26)).alloc (.cells #[.int .i64 p, .slice none 0 0] 26)) := ((Below.refl _ _).alloc (Nat.le_refl _) _).alloc (by simp) _
  replace HZ := Lib.hid (HZ.out.below ((Below.refl _ _).alloc (Nat.le_refl _) (.cells #[.int .i64 p, .slice none 0 0] 26)))
  have o0 : (((W.alloc (.cells #[.int .i64 p, .slice a l.length cap] 26)).alloc (.cells #[.int .i64 0, .slice none 0 0] 26)).alloc (.cells #[.int .i64 p, .slice none 0 0] 26)).cell? ⟨W.heap.size + 2, 0, none⟩ = some (.int .i64 p) := by
    have := World.cell?_alloc_new ((W.alloc (.cells #[.int .i64 p, .slice a l.length cap] 26)).alloc (.cells #[.int .i64 0, .slice none 0 0] 26)) #[.int .i64 p, .slice none 0 0] 26 0
    simpa using this
  have o1 : (((W.alloc (.cells #[.int .i64 p, .slice a l.length cap] 26)).alloc (.cells #[.int .i64 0, .slice none 0 0] 26)).alloc (.cells #[.int .i64 p, .slice none 0 0] 26)).cell? ⟨W.heap.size + 2, 1, none⟩ = some (.slice none 0 0) := by
    have := World.cell?_alloc_new ((W.alloc (.cells #[.int .i64 p, .slice a l.length cap] 26)).alloc (.cells #[.int .i64 0, .slice none 0 0] 26)) #[.int .i64 p, .slice none 0 0] 26 1
    simpa using this
  have o2 : (((W.alloc (.cells #[.int .i64 p, .slice a l.length cap] 26)).alloc (.cells #[.int .i64 0, .slice none 0 0] 26)).alloc (.cells #[.int .i64 p, .slice none 0 0] 26)).frozen? ⟨W.heap.size + 2, 1, none⟩ = false := by
    have := World.frozen?_alloc_new ((W.alloc (.cells #[.int .i64 p, .slice a l.length cap] 26)).alloc (.cells #[.int .i64 0, .slice none 0 0] 26)) #[.int .i64 p, .slice none 0 0] 26 1
    simpa using this
  have hzu : W.heap.size + 3 ≤ (((W.alloc (.cells #[.int .i64 p, .slice a l.length cap] 26)).alloc (.cells #[.int .i64 0, .slice none 0 0] 26)).alloc (.cells #[.int .i64 p, .slice none 0 0] 26)).heap.size := by simp
  have OO := Lib.hid (And.intro o0 (And.intro o1 o2))
  clear o0 o1 o2
  replace B := B.step hba
  go_enter Tryz.func75, Tryz.ntmps75
  obtain ⟨zBG, fBG0, fBG1⟩ := BG.out
  go_upto_region 2 with (fail)
  clear zBG fBG0 fBG1
  replace BG := Lib.hid (BG.out.below hba)
  clear hba
  generalize ((W.alloc (.cells #[.int .i64 p, .slice a l.length cap] 26)).alloc (.cells #[.int .i64 0, .slice none 0 0] 26)).alloc (.cells #[.int .i64 p, .slice none 0 0] 26) = u at *
  obtain ⟨zBG, fBG0, fBG1⟩ := BG.out
  go_wp2_with fail
  clear zBG fBG0 fBG1
  go_loopw [14] (fun i w9 => ∃ k : Nat, ∃ vb, k ≤ l.length ∧ i = .int .i64 k ∧ (w9.cell? ⟨W.heap.size + 2, 0, none⟩ = some (.int .i64 p) ∧ w9.cell? ⟨W.heap.size + 2, 1, none⟩ = some vb ∧ w9.frozen? ⟨W.heap.size + 2, 1, none⟩ = false) ∧ OwnBars w9 (W.heap.size + 3) vb (keepTo l s k) ∧ Below (W.heap.size + 2) u w9 ∧ W.heap.size + 3 ≤ w9.heap.size) (fun i _ => l.length - (intOf i).toNat)
  case atStart => exact ⟨0, _, Nat.zero_le _, rfl, OO.out, OwnBars.nil _ _, Below.refl _ _, hzu⟩
  case round =>
    clear OO
    obtain ⟨k, vb, hk, rfl, ⟨o0, o1, o2⟩, hob, hb, hz⟩ := hrel
    have HOB := Lib.hid hob
    clear hob
    have B1 := B.trans (hb.mono (by omega))
    have BG1 : Hid (BoxGr wr W.heap.size p a l.length cap) := Lib.hid ⟨by omega, (hb.cell (p := ⟨W.heap.size, 0, none⟩) (by simp)).trans BG.out.c0, (hb.cell (p := ⟨W.heap.size, 1, none⟩) (by simp)).trans BG.out.c1⟩
    by_cases hlt : k < l.length
    · obtain ⟨bb, off, ⟨x1, x2⟩, rfl, hbl, hx, hc0, hc1⟩ := (H1.out.below B1).2 k hlt
      dsimp only at hc0 hc1
      have HX := Lib.hid hx
      clear hx
      have hki : (k : Int) < (l.length : Int) := by omega
      have bpl : Below wr.heap.size wr (wr.alloc (.cells #[.int .i64 x1, .int .i64 x2] 78)) := (Below.refl _ _).alloc (Nat.le_refl _) _
      have p0 : (wr.alloc (.cells #[.int .i64 x1, .int .i64 x2] 78)).cell? ⟨wr.heap.size, 0, none⟩ = some (.int .i64 x1) := by simp [World.cell?_alloc_new]
      have p1 : (wr.alloc (.cells #[.int .i64 x1, .int .i64 x2] 78)).cell? ⟨wr.heap.size, 1, none⟩ = some (.int .i64 x2) := by simp [World.cell?_alloc_new]
      have pz : wr.heap.size < (wr.alloc (.cells #[.int .i64 x1, .int .i64 x2] 78)).heap.size := by simp
      go_upto_region 5 with (fail)
      clear hc0 hc1
      replace o0 := ((bcell bpl).1 _ _ (by omega)).trans o0
      replace o1 := ((bcell bpl).1 _ _ (by omega)).trans o1
      replace o2 := ((bcell bpl).2 _ _ (by omega)).trans o2
      replace HOB : Hid (OwnBars _ (W.heap.size + 3) vb (keepTo l s k)) := Lib.hid (Below.ownsRow bpl HOB.out)
      replace hb := hb.trans (bpl.mono (by omega))
      replace B1 := B1.step bpl
      have hz1 := bpl.size
      generalize (wr.alloc (.cells #[.int .i64 x1, .int .i64 x2] 78)) = w1 at *
      clear bpl BG1
      by_cases hin : (k : Int) ∈ s
      · have HK := Lib.hid (show keepTo l s (k + 1) = keepTo l s k ++ [(x1, x2)] by show keepTo l s k ++ (if (k : Int) ∈ s then (l[k]?).toList else []) = _; rw [if_pos hin, HX.out]; rfl)
        have cC : Calls Tryz.prog 125 #[.slice va n vcap, .int .i64 k] w1 fun e w' => e = .returned (.bool true) ∧ w1 = w' := by
          have := containsI_at w1 va n vcap s (HV.out.below B1) (by omega) k
          rwa [decide_eq_true hin] at this
        have HC := Lib.hid cC
        clear cC hin
        have hlk := keepTo_len l s k
        have hmid : w1.heap.size = w1.heap.size := rfl
        go_wp2_with (first | (go_at_call 125; refine HC.out.mono ?_; rintro e w' ⟨rfl, rfl⟩) | (at_builtin; refine appBar1At rfl (.tmp 23) (.tmp 25) rfl rfl HOB.out x1 x2 rfl (by omega) (by omega) ?_; intro v5 w5 h5 k5 a5; obtain ⟨av, cv, rfl, hiv⟩ := h5.form; clear hiv; have q1 := (k5.cell (b := W.heap.size + 2) (o := 1) (by omega) (fun e => by have := (HOB.out.lt _ e.symm).1; omega)).trans o1; have q0 := (k5.cell (b := W.heap.size + 2) (o := 0) (by omega) (fun e => by have := (HOB.out.lt _ e.symm).1; omega)).trans o0; have q2 := (k5.frozen (b := W.heap.size + 2) (o := 1) (by omega) (fun e => by have := (HOB.out.lt _ e.symm).1; omega)).trans o2))
        go_roundw
        case rel =>
          have hz5 := k5.size
          have e9 : (keepTo l s k ++ [(x1, x2)]).length = (keepTo l s k).length + 1 := by simp
          rw [e9] at h5
          refine ⟨k + 1, .slice av ((keepTo l s k).length + 1) cv, by omega, by go_num, ⟨?_, ?_, ?_⟩, ?_, ?_, ?_⟩
          · exact (World.cell?_setCell_other _ _ _ _ (by simp)).trans q0
          · exact World.cell?_setCell_same _ _ _ q1
          · rw [World.frozen?_setCell]; exact q2
          · rw [HK.out]
            exact h5.set (by simp) _
          · exact (hb.trans (k5.below (by omega) fun j h1 h2 => by have := (HOB.out.lt _ h2.symm).1; omega)).setCell (p := ⟨W.heap.size + 2, 1, none⟩) (by simp) _
          · simp; omega
        case measure => simp [intOf]; omega
      · have HK := Lib.hid (show keepTo l s (k + 1) = keepTo l s k by show keepTo l s k ++ _ = _; rw [if_neg hin, List.append_nil])
        have cC : Calls Tryz.prog 125 #[.slice va n vcap, .int .i64 k] w1 fun e w' => e = .returned (.bool false) ∧ w1 = w' := by
          have := containsI_at w1 va n vcap s (HV.out.below B1) (by omega) k
          rwa [decide_eq_false hin] at this
        have HC := Lib.hid cC
        clear cC hin
        go_wp2_with (go_at_call 125; refine HC.out.mono ?_; rintro e w' ⟨rfl, rfl⟩)
        go_roundw
        case rel => exact ⟨k + 1, vb, by omega, by go_num, ⟨o0, o1, o2⟩, by rw [HK.out]; exact HOB.out, hb, by omega⟩
        case measure => simp [intOf]; omega
    · obtain rfl : k = l.length := by omega
      obtain ⟨ab, cb, rfl, hib⟩ := HOB.out.form
      clear hib
      have HZ1 := Lib.hid (HZ.out.belowAt hb (by omega))
      obtain ⟨⟨z1, z2, z3, c0, c1⟩, ⟨f0, f1⟩, gz⟩ := HZ1.out
      have HLD := Lib.hid (laid2 (p := p) (g := W.heap.size + 1) HOB.out (by omega) (by omega) (by omega) B1)
      go_wp2_with fail
      refine bodyPost_ret (v := .agg #[.int .i64 p, .slice ab (keepTo l s l.length).length cb]) (by simp [results, Tryz.results75, go_sem, gz, c0, c1]) rfl ⟨_, rfl, HLD.out.1, HLD.out.2⟩
end Go.Proofs.YtfdhbbhfilkafaaGreat
