/- RankOfMatrix of the program and of the reference. No condition but sizes. -/
import Derived.Test.YtfbmpkdjhhcnpaaGreatTrP28
import Derived.Test.YtfbmpkdjhhcnpaaGreatTrP08
import Derived.Test.YtfbmpkdjhhcnpaaGreatTrP26
import Derived.Deep.RegionHeld3
import Derived.Deep.QuietTactic
import Derived.BigQuiet
namespace Go.Proofs.YtfbmpkdjhhcnpaaGreat
open Go.RowKit Gr
set_option maxRecDepth 100000
set_option linter.unusedVariables false
set_option linter.unusedSimpArgs false

theorem Bnd.mono {m n : Nat} {F : Nat → Nat → Int} {B C : Int} (h : Bnd m n F B) (hBC : B ≤ C) : Bnd m n F C := fun X hX c hc hl => Int.le_trans (h X hX c hc hl) hBC
end Go.Proofs.YtfbmpkdjhhcnpaaGreat

namespace Go.Proofs.YtfbmpkdjhhcnpaaGreat
open Go.RowKit Gr
set_option maxRecDepth 100000
set_option linter.unusedVariables false
set_option linter.unusedSimpArgs false

theorem OwnInts.setRow {W : World} {base b c n : Nat} {f : Nat → Int} (h : OwnInts W base (.slice (some ⟨b, 0, none⟩) n c) (rowL n f)) (k : Nat) (x : Int) : OwnInts (W.setCell ⟨b, k, none⟩ (.int .i64 x)) base (.slice (some ⟨b, 0, none⟩) n c) (rowL n fun q => if q = k then x else f q) := by
  have h1 : OwnInts W base (.slice (some ⟨b, 0, none⟩) (rowL n f).length c) (rowL n f) := by rw [rowL_length]; exact h
  have h2 := OwnInts.setAt (j := k) h1 x
  rw [rowL_set, rowL_length] at h2
  exact h2
theorem OwnInts.rowCell {W : World} {base b c n : Nat} {f : Nat → Int} (h : OwnInts W base (.slice (some ⟨b, 0, none⟩) n c) (rowL n f)) {k : Nat} (hk : k < n) : W.cell? ⟨b, k, none⟩ = some (.int .i64 (f k)) := by
  have h1 : OwnInts W base (.slice (some ⟨b, 0, none⟩) (rowL n f).length c) (rowL n f) := by rw [rowL_length]; exact h
  exact h1.cellAt (rowL_get hk)
theorem OwnInts.rowFroz {W : World} {base b c n : Nat} {f : Nat → Int} (h : OwnInts W base (.slice (some ⟨b, 0, none⟩) n c) (rowL n f)) (k : Nat) : W.frozen? ⟨b, k, none⟩ = false := by
  have h1 : OwnInts W base (.slice (some ⟨b, 0, none⟩) (rowL n f).length c) (rowL n f) := by rw [rowL_length]; exact h
  exact h1.frozAt k
theorem ownsRow_base' {W : World} {base base' : Nat} {v : Value} {ll : List (List Int)} (h : OwnIntss W base v ll) (hb : base' ≤ base) : OwnIntss W base' v ll := by
  obtain ⟨vs, h1, h2⟩ := h
  exact ⟨vs, ownsRow_base h1 hb, h2.mono hb⟩

end Go.Proofs.YtfbmpkdjhhcnpaaGreat

namespace Fo
theorem ufGo_append : ∀ (es es' : List (Nat × Nat)) (f : Nat → Nat), ufGo f (es ++ es') = (ufGo f es).bind fun g => ufGo g es'
  | [], es', f => rfl
  | (a, b) :: es, es', f => by
    simp only [List.cons_append, ufGo]
    split
    · rfl
    · exact ufGo_append es es' _
end Fo
namespace Go.Proofs.YtfbmpkdjhhcnpaaGreat
open Go.RowKit
set_option maxRecDepth 100000
set_option linter.unusedVariables false
set_option linter.unusedSimpArgs false

def eN (x : BarT) : Nat × Nat := (x.1.toNat, x.2.toNat)
def natF (f : Nat → Nat) (v : Nat) : Int := (f v : Int)
def midF (f : Nat → Nat) (a b j v : Nat) : Nat := if v < j then Fo.relab f a b v else f v
theorem midF_zero (f : Nat → Nat) (a b : Nat) : midF f a b 0 = f := funext fun v => by unfold midF; rw [if_neg (by omega)]
theorem midF_hit {f : Nat → Nat} {a b j : Nat} (h : f j = b) : (fun q => if q = j then (a : Int) else natF (midF f a b j) q) = natF (midF f a b (j + 1)) := funext fun q => by
  by_cases e : q = j
  · subst e
    simp [natF, midF, Fo.relab, h]
  · rw [if_neg e]
    unfold natF midF
    by_cases e2 : q < j
    · rw [if_pos e2, if_pos (by omega)]
    · rw [if_neg e2, if_neg (by omega)]
theorem midF_miss {f : Nat → Nat} {a b j : Nat} (h : f j ≠ b) : midF f a b (j + 1) = midF f a b j := funext fun q => by
  unfold midF
  by_cases e : q = j
  · subst e
    rw [if_pos (by omega), if_neg (by omega)]
    unfold Fo.relab
    rw [if_neg h]
  · by_cases e2 : q < j
    · rw [if_pos e2, if_pos (by omega)]
    · rw [if_neg e2, if_neg (by omega)]
theorem midF_all {f : Nat → Nat} {a b n : Nat} : ∀ k, k < n → natF (midF f a b n) k = natF (Fo.relab f a b) k := fun k hk => by
  unfold natF midF; rw [if_pos hk]
theorem rowL_snoc (n : Nat) (f : Nat → Int) : rowL (n + 1) f = rowL n f ++ [f n] := by simp [rowL, List.range_succ]
theorem ownBlk {W : World} {base : Nat} {v : Value} {n : Nat} {f : Nat → Int} (h : OwnInts W base v (rowL n f)) (hn : 0 < n) : ∃ g cg, v = .slice (some ⟨g, 0, none⟩) n cg ∧ OwnInts W base (.slice (some ⟨g, 0, none⟩) n cg) (rowL n f) ∧ base ≤ g ∧ g < W.heap.size := by
  rcases h.2 with ⟨_, h0⟩ | ⟨g, cg, cur, rfl, hb, hg, _⟩
  · rw [rowL_length] at h0; omega
  · have e : (rowL n f).length = n := rowL_length n f
    rw [e] at h
    exact ⟨g, cg, by rw [e], h, hb, (Array.getElem?_eq_some_iff.1 hg).1⟩

set_option maxHeartbeats 4000000 in
theorem isForest_at (W : World) (n : Nat) (hn1 : 1 ≤ n) (hn8 : n ≤ 8) (a : Option Addr) (cap : Nat) (l : List BarT) (h : BarsAt W a l.length l) (hl : l.length ≤ 1048576) (hr : ∀ x ∈ l, (0 ≤ x.1 ∧ x.1 < n) ∧ (0 ≤ x.2 ∧ x.2 < n)) :
    Calls Tryz.prog 50 #[.int .i64 n, .slice a l.length cap] W fun e w' => e = .returned (.bool (Fo.forestB (l.map eN))) ∧ Below W.heap.size W w' := by
  have H1 := Lib.hid h
  have HR := Lib.hid hr
  clear h hr
  have hb0 : Below W.heap.size W (W.alloc (.cells #[] 3)) := (Below.refl _ _).alloc (Nat.le_refl _) _
  have HO0 := Lib.hid (OwnInts.made W W.heap.size (Nat.le_refl _))
  go_enter Tryz.func50, Tryz.ntmps50
  go_wp2_with fail
  generalize W.alloc (.cells #[] 3) = u at *
  go_loopw [5, 14] (fun s i w9 => ∃ k : Nat, k ≤ n ∧ i = .int .i64 k ∧ OwnInts w9 W.heap.size s (rowL k (natF id)) ∧ Below W.heap.size W w9) (fun _ i _ => n - (intOf i).toNat)
  case atStart => exact ⟨0, Nat.zero_le _, rfl, HO0.out, hb0⟩
  case round =>
    clear HO0 hb0
    obtain ⟨k, hk, rfl, ho, hb⟩ := hrel
    have HO := Lib.hid ho
    clear ho
    have hbz := hb.size
    by_cases hlt : k < n
    · have hlk : (rowL k (natF id)).length < 17592186044416 := by rw [rowL_length]; omega
      go_wp2_with (at_builtin; refine app1 rfl (.tmp 17) (.tmp 19) rfl rfl HO.out (k : Int) rfl hlk hbz ?_; intro v5 w5 h5 k5)
      go_roundw
      case rel => exact ⟨k + 1, by omega, by go_num, by rw [rowL_snoc]; exact h5, hb.trans (k5.setOwn HO.out (Nat.le_refl _) hbz)⟩
      case measure => simp [intOf]; omega
    · obtain rfl : k = n := by omega
      obtain ⟨g, cg, rfl, ho2, hg1, hg2⟩ := ownBlk HO.out (by omega)
      have HO2 := Lib.hid ho2
      clear ho2 HO
      go_wp2_with fail
      go_loopw [24] (fun i w9 => ∃ j : Nat, ∃ f : Nat → Nat, j ≤ l.length ∧ i = .int .i64 j ∧ Fo.ufGo id ((l.take j).map eN) = some f ∧ (∀ v, v < k → f v < k) ∧ OwnInts w9 W.heap.size (.slice (some ⟨g, 0, none⟩) k cg) (rowL k (natF f)) ∧ Below W.heap.size W w9) (fun i _ => l.length - (intOf i).toNat)
      case atStart => exact ⟨0, id, Nat.zero_le _, rfl, rfl, fun v hv => hv, HO2.out, hb⟩
      case round =>
        clear HO2 hb hg2
        obtain ⟨j, f, hj, rfl, huf, hf, ho, hb⟩ := hrel
        have HO := Lib.hid ho
        have HUF := Lib.hid huf
        have HF := Lib.hid hf
        clear ho huf hf
        by_cases hjl : j < l.length
        · obtain ⟨bb, off, ⟨x1, x2⟩, rfl, hbl, hx, hc0, hc1⟩ := (H1.out.below hb).2 j hjl
          dsimp only at hc0 hc1
          have HX := Lib.hid hx
          obtain ⟨⟨m1, m2⟩, m3, m4⟩ := HR.out _ (List.mem_of_getElem? hx)
          dsimp only at m1 m2 m3 m4
          obtain ⟨i1, rfl⟩ := Int.eq_ofNat_of_zero_le m1
          obtain ⟨i2, rfl⟩ := Int.eq_ofNat_of_zero_le m3
          clear hx
          have hi1 : i1 < k := by omega
          have hi2 : i2 < k := by omega
          have hji : (j : Int) < (l.length : Int) := by omega
          have bpl : Below wr.heap.size wr (wr.alloc (.cells #[.int .i64 i1, .int .i64 i2] 70)) := (Below.refl _ _).alloc (Nat.le_refl _) _
          have p0 : (wr.alloc (.cells #[.int .i64 i1, .int .i64 i2] 70)).cell? ⟨wr.heap.size, 0, none⟩ = some (.int .i64 i1) := by simp [World.cell?_alloc_new]
          have p1 : (wr.alloc (.cells #[.int .i64 i1, .int .i64 i2] 70)).cell? ⟨wr.heap.size, 1, none⟩ = some (.int .i64 i2) := by simp [World.cell?_alloc_new]
          have pz : wr.heap.size < (wr.alloc (.cells #[.int .i64 i1, .int .i64 i2] 70)).heap.size := by simp
          go_upto_region 10 with (fail)
          clear hc0 hc1
          have HO1 := Lib.hid (HO.out.below bpl)
          have hb1 := hb.step bpl
          generalize (wr.alloc (.cells #[.int .i64 i1, .int .i64 i2] 70)) = w1 at *
          clear bpl
          have t0 := HO1.out.rowCell hi1
          have t1 := HO1.out.rowCell hi2
          unfold natF at t0 t1
          have hgz : g < w1.heap.size := (HO1.out.lt g rfl).2
          go_quiet (fail)
          clear t0 t1 p0 p1 pz
          have HO2 := Lib.hid (HO1.out.below (drewN_below (Below.refl _ _) nq))
          have hb2 := drewN_below hb1 nq
          generalize w1.drewN nq = w2 at *
          have HS := Lib.hid (show Fo.ufGo id ((l.take (j + 1)).map eN) = if f i1 = f i2 then none else some (Fo.relab f (f i1) (f i2)) by
            rw [take_succ_of HX.out, List.map_append, Fo.ufGo_append, HUF.out]
            simp only [Option.bind_some, List.map_cons, List.map_nil, eN, Int.toNat_natCast, Fo.ufGo])
          have HLT := Lib.hid (And.intro (HF.out i1 hi1) (HF.out i2 hi2))
          generalize hA : f i1 = A at *
          generalize hB : f i2 = B at *
          have HAA := Lib.hid (And.intro hA hB)
          clear hA hB
          by_cases hAB : A = B
          · have HE := Lib.hid (ret_bool (show Fo.forestB (l.map eN) = false by
              have h9 := HS.out
              rw [if_pos hAB] at h9
              unfold Fo.forestB
              rw [← List.take_append_drop (j + 1) l, List.map_append, Fo.ufGo_append, h9]
              rfl))
            have hABb : ((A : Int) == (B : Int)) = true := by rw [hAB]; simp
            clear hAB
            go_wp2_with fail
            go_ret
            exact ⟨HE.out.symm, hb2⟩
          · have hABb : ((A : Int) == (B : Int)) = false := by rw [beq_eq_false_iff_ne]; omega
            have HS2 := Lib.hid (show Fo.ufGo id ((l.take (j + 1)).map eN) = some (Fo.relab f A B) by have h9 := HS.out; rwa [if_neg hAB] at h9)
            clear hAB HS
            go_wp2_with fail
            go_loopw [43] (fun i w9 => ∃ v : Nat, v ≤ k ∧ i = .int .i64 v ∧ OwnInts w9 W.heap.size (.slice (some ⟨g, 0, none⟩) k cg) (rowL k (natF (midF f A B v))) ∧ Below W.heap.size W w9) (fun i _ => k - (intOf i).toNat)
            case atStart => exact ⟨0, Nat.zero_le _, rfl, by rw [midF_zero]; exact HO2.out, hb2⟩
            case round =>
              clear HO2 hb2 hb1 HO1 HO hb
              obtain ⟨v, hv, rfl, ho, hb⟩ := hrel
              have HO := Lib.hid ho
              clear ho
              by_cases hvk : v < k
              · have hmv : midF f A B v v = f v := by unfold midF; rw [if_neg (by omega)]
                have t0 := HO.out.rowCell hvk
                unfold natF at t0
                rw [hmv] at t0
                have tf := HO.out.rowFroz v
                have hgz : g < wr.heap.size := (HO.out.lt g rfl).2
                generalize hC : f v = C at *
                by_cases hCB : C = B
                · have HH := Lib.hid (midF_hit (a := A) (show f v = B from hC.trans hCB))
                  have hcb : ((C : Int) == (B : Int)) = true := by rw [hCB]; simp
                  have O1 := Lib.hid (HO.out.setRow v (A : Int))
                  clear hCB hC hmv
                  go_wp2_with fail
                  go_roundw
                  case rel => exact ⟨v + 1, by omega, by go_num, by rw [← HH.out]; exact O1.out, hb.setCell (p := ⟨g, v, none⟩) hg1 _⟩
                  case measure => simp [intOf]; omega
                · have HM := Lib.hid (midF_miss (a := A) (show f v ≠ B by rw [hC]; exact hCB))
                  have hcb : ((C : Int) == (B : Int)) = false := by rw [beq_eq_false_iff_ne]; omega
                  clear hCB hC hmv
                  go_wp2_with fail
                  go_roundw
                  case rel => exact ⟨v + 1, by omega, by go_num, by rw [HM.out]; exact HO.out, hb⟩
                  case measure => simp [intOf]; omega
              · obtain rfl : v = k := by omega
                go_wp2_with fail
                go_roundw
                case rel =>
                  refine ⟨j + 1, Fo.relab f A B, by omega, by go_num, HS2.out, fun q hq => ?_, ?_, hb⟩
                  · unfold Fo.relab
                    split
                    · exact HLT.out.1
                    · exact HF.out q hq
                  · have h9 := HO.out
                    rwa [rowL_congr midF_all] at h9
                case measure => simp [intOf]; omega
        · obtain rfl : j = l.length := by omega
          have HE := Lib.hid (ret_bool (show Fo.forestB (l.map eN) = true by
            have h9 := HUF.out
            rw [List.take_length] at h9
            unfold Fo.forestB
            rw [h9]; rfl))
          go_wp2_with fail
          go_ret
          exact ⟨HE.out.symm, hb⟩
end Go.Proofs.YtfbmpkdjhhcnpaaGreat

