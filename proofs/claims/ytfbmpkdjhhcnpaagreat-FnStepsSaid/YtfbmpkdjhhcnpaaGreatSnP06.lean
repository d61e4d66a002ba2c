/- Slices of Place: reading, owning, and the law's helpers on them (written by structgen.py). No condition but sizes below 2^44. -/
import Derived.Test.YtfbmpkdjhhcnpaaGreatSnP01
import Derived.Laws.StructEq
import Derived.Test.YtfbmpkdjhhcnpaaGreatSnP05
namespace Go.Proofs.YtfbmpkdjhhcnpaaGreat
open Go.RowKit
set_option maxRecDepth 100000
set_option linter.unusedVariables false
set_option linter.unusedSimpArgs false

abbrev PlaceT := Int × Int
def cellsPlace (x : PlaceT) : List Value := [.int .i64 x.1, .int .i64 x.2]
def PlacesAt (W : World) (a : Option Addr) (n : Nat) (l : List PlaceT) : Prop :=
 l.length = n ∧ ∀ k, k < n → ∃ b off, ∃ x : PlaceT, a = some ⟨b, off, none⟩ ∧ b < W.heap.size ∧ l[k]? = some x ∧ W.cell? ⟨b, off + k * 2, none⟩ = some (.int .i64 x.1) ∧ W.cell? ⟨b, off + k * 2 + 1, none⟩ = some (.int .i64 x.2)
abbrev GraphT := Int × List BarT
abbrev FwT := Int × List BarT × List PlaceT

def IsGraph (W : World) (v : Value) (g : GraphT) : Prop := ∃ a cap, v = .agg #[.int .i64 g.1, .slice a g.2.length cap] ∧ BarsAt W a g.2.length g.2
theorem IsGraph.below {W W' : World} {v : Value} {g : GraphT} (h : IsGraph W v g) (hb : Below W.heap.size W W') : IsGraph W' v g := by
 obtain ⟨a, cap, rfl, hi⟩ := h
 exact ⟨a, cap, rfl, hi.below hb⟩
def OwnGraph (W : World) (base : Nat) (v : Value) (g : GraphT) : Prop := ∃ vb, (∃ a cap, vb = .slice a g.2.length cap ∧ v = .agg #[.int .i64 g.1, .slice a g.2.length cap]) ∧ OwnBars W base vb g.2
theorem OwnGraph.form {W : World} {base : Nat} {v : Value} {g : GraphT} (h : OwnGraph W base v g) : IsGraph W v g := by
 obtain ⟨vb, ⟨a, cap, rfl, rfl⟩, ho⟩ := h
 obtain ⟨a', cap', he, hi⟩ := ho.form
 simp at he
 obtain ⟨rfl, rfl⟩ := he
 exact ⟨a, cap, rfl, hi⟩
def HGraph (W : World) (lo hi : Nat) (v : Value) (g : GraphT) : Prop := ∃ vb, (∃ a cap, vb = .slice a g.2.length cap ∧ v = .agg #[.int .i64 g.1, .slice a g.2.length cap]) ∧ HBars W lo hi vb g.2
theorem HGraph.own {W : World} {lo hi : Nat} {v : Value} {g : GraphT} (h : HGraph W lo hi v g) : OwnGraph W lo v g := by
 obtain ⟨vb, e, ho⟩ := h
 exact ⟨vb, e, ho.1⟩
theorem HGraph.is {W : World} {lo hi : Nat} {v : Value} {g : GraphT} (h : HGraph W lo hi v g) : IsGraph W v g := h.own.form
theorem HGraph.kept {W W' : World} {lo hi : Nat} {v : Value} {g : GraphT} {S : Nat → Prop} (h : HGraph W lo hi v g) (hk : Kept S W W') (hd : ∀ k, lo ≤ k → k < hi → ¬ S k) : HGraph W' lo hi v g := by
 obtain ⟨vb, e, ho⟩ := h
 exact ⟨vb, e, ho.kept hk hd⟩
theorem HGraph.below {W W' : World} {lo hi : Nat} {v : Value} {g : GraphT} (h : HGraph W lo hi v g) (hb : Below W.heap.size W W') : HGraph W' lo hi v g := h.kept (Kept.of_below (S := fun _ => False) hb) fun _ _ _ => id
theorem OwnGraph.h {W : World} {lo : Nat} {v : Value} {g : GraphT} (h : OwnGraph W lo v g) : HGraph W lo W.heap.size v g := by
 obtain ⟨vb, e, ho⟩ := h
 exact ⟨vb, e, ho.h⟩
def RetGraph (W : World) (g : GraphT) (e : Ending) (w' : World) : Prop := ∃ v, e = .returned v ∧ OwnGraph w' W.heap.size v g ∧ Below W.heap.size W w'
def szGraph (g : GraphT) : Nat := g.2.length
def IsFw (W : World) (v : Value) (f : FwT) : Prop := ∃ a cap b capb, v = .agg #[.int .i64 f.1, .slice a f.2.1.length cap, .slice b f.2.2.length capb] ∧ BarsAt W a f.2.1.length f.2.1 ∧ PlacesAt W b f.2.2.length f.2.2
def FwOf (v vb vp : Value) (f : FwT) : Prop := ∃ a cap b capb, vb = .slice a f.2.1.length cap ∧ vp = .slice b f.2.2.length capb ∧ v = .agg #[.int .i64 f.1, .slice a f.2.1.length cap, .slice b f.2.2.length capb]
def szFw (f : FwT) : Nat := f.2.1.length + f.2.2.length

def barLe (x y : BarT) : Bool := decide (x.1 < y.1) || (x.1 == y.1 && decide (x.2 ≤ y.2))
def barAt (p : Int) (l : List BarT) (i : Nat) : Bool := match l[i]? with
 | none => true
 | some x => decide (0 ≤ x.1) && (decide (x.1 < x.2) && (decide (x.2 < p) && (i == 0 || match l[i - 1]? with
  | none => true
  | some y => barLe y x)))
def barsOk (p : Int) (l : List BarT) : Bool := (List.range l.length).all (barAt p l)
def isGraphB (g : GraphT) : Bool := inB g.1 1 8 && (decide (g.2.length ≤ 24) && barsOk g.1 g.2)

theorem range_all_succ {p : Nat → Bool} {k : Nat} (h : (List.range k).all p = true) (hk : p k = true) : (List.range (k + 1)).all p = true := by
 rw [List.range_succ, List.all_append, h]; simp [hk]
theorem isGraph_not {p : Int} {l : List BarT} {k : Nat} (hk : k < l.length) (h : barAt p l k = false) : isGraphB (p, l) = false := by
 have : barsOk p l = false := List.all_eq_false.2 ⟨k, List.mem_range.2 hk, by simp [h]⟩
 simp [isGraphB, this]

theorem below2b {w : World} {o1 o2 : Obj} : Below w.heap.size w ((w.alloc o1).alloc o2) := ((Below.refl _ w).alloc (Nat.le_refl _) o1).alloc (by simp) o2
set_option maxHeartbeats 1000000 in
theorem l2After_any (x1 x2 y1 y2 : Int) (w : World) :
  Calls Tryz.prog 104 #[.agg #[.int .i64 x1, .int .i64 x2], .agg #[.int .i64 y1, .int .i64 y2]] w fun e w' => e = .returned (.bool (barLe (x1, x2) (y1, y2))) ∧ Below w.heap.size w w' := by
 by_cases h1 : x1 < y1
 ·have HF := Lib.hid (ret_bool (show barLe (x1, x2) (y1, y2) = true by simp [barLe, h1]))
  go_enter Tryz.func104, Tryz.ntmps104
  go_wp2
  go_ret
  exact ⟨HF.out.symm, below2b⟩
 ·by_cases h2 : x1 = y1
  ·subst h2
   by_cases h3 : x2 ≤ y2
   ·have HF := Lib.hid (ret_bool (show barLe (x1, x2) (x1, y2) = true by simp [barLe, h3]))
    go_enter Tryz.func104, Tryz.ntmps104
    go_wp2
    go_ret
    exact ⟨HF.out.symm, below2b⟩
   ·have HF := Lib.hid (ret_bool (show barLe (x1, x2) (x1, y2) = false by simp [barLe, h3]))
    go_enter Tryz.func104, Tryz.ntmps104
    go_wp2
    go_ret
    exact ⟨HF.out.symm, below2b⟩
  ·have HF := Lib.hid (ret_bool (show barLe (x1, x2) (y1, y2) = false by simp [barLe, h1, h2]))
   have hne : (x1 == y1) = false := by simpa using h2
   go_enter Tryz.func104, Tryz.ntmps104
   go_wp2
   go_ret
   exact ⟨HF.out.symm, below2b⟩

def cmpI (a b : Int) : Int := if a < b then -1 else if b < a then 1 else 0
def cmpB (x y : BarT) : Int := if cmpI x.1 y.1 = 0 then cmpI x.2 y.2 else cmpI x.1 y.1
theorem cmpB_le (x y : BarT) : (cmpB x y > 0 ↔ barLe x y = false) := by
 unfold cmpB cmpI barLe
 simp only [Bool.or_eq_false_iff, Bool.and_eq_false_iff, decide_eq_false_iff_not, beq_eq_false_iff_ne]
 split <;> split <;> (try split) <;> (try split) <;> omega

set_option maxHeartbeats 1000000 in
theorem compareInts_any (a b : Int) (w : World) : Calls Tryz.prog 143 #[.int .i64 a, .int .i64 b] w fun e w' => e = .returned (.int .i64 (cmpI a b)) ∧ w = w' := by
 by_cases h1 : a < b
 ·have HF := Lib.hid (ret_int (k := .i64) (show cmpI a b = -1 by simp [cmpI, h1]))
  go_enter Tryz.func143, Tryz.ntmps143
  go_wp2
  go_ret
  exact ⟨HF.out.symm, rfl⟩
 ·by_cases h2 : b < a
  ·have HF := Lib.hid (ret_int (k := .i64) (show cmpI a b = 1 by simp [cmpI, h1, h2]))
   go_enter Tryz.func143, Tryz.ntmps143
   go_wp2
   go_ret
   exact ⟨HF.out.symm, rfl⟩
  ·have HF := Lib.hid (ret_int (k := .i64) (show cmpI a b = 0 by simp [cmpI, h1, h2]))
   go_enter Tryz.func143, Tryz.ntmps143
   go_wp2
   go_ret
   exact ⟨HF.out.symm, rfl⟩
set_option maxHeartbeats 1000000 in
theorem compareBars_any (x1 x2 y1 y2 : Int) (w : World) :
  Calls Tryz.prog 110 #[.agg #[.int .i64 x1, .int .i64 x2], .agg #[.int .i64 y1, .int .i64 y2]] w fun e w' => e = .returned (.int .i64 (cmpB (x1, x2) (y1, y2))) ∧ Below w.heap.size w w' := by
 by_cases h1 : cmpI x1 y1 = 0
 ·have HF := Lib.hid (ret_int (k := .i64) (show cmpB (x1, x2) (y1, y2) = cmpI x2 y2 by simp [cmpB, h1]))
  have H1 := Lib.hid h1
  clear h1
  go_enter Tryz.func110, Tryz.ntmps110
  go_wp2_with fail
  refine (compareInts_any _ _ _).mono ?_
  rintro e w1 ⟨rfl, rfl⟩
  rw [H1.out]
  go_wp2_with fail
  refine (compareInts_any _ _ _).mono ?_
  rintro e w1 ⟨rfl, rfl⟩
  go_wp2_with fail
  go_ret
  exact ⟨HF.out.symm, below2b⟩
 ·have HF := Lib.hid (ret_int (k := .i64) (show cmpB (x1, x2) (y1, y2) = cmpI x1 y1 by simp [cmpB, h1]))
  have h1' : (cmpI x1 y1 != 0) = true := by simpa using h1
  clear h1
  go_enter Tryz.func110, Tryz.ntmps110
  go_wp2_with fail
  refine (compareInts_any _ _ _).mono ?_
  rintro e w1 ⟨rfl, rfl⟩
  go_wp2_with fail
  go_ret
  exact ⟨HF.out.symm, below2b⟩


set_option maxHeartbeats 8000000 in
theorem specIsGraph_at (W : World) (p : Int) (a : Option Addr) (cap : Nat) (l : List BarT) (h : BarsAt W a l.length l) (hn : l.length ≤ 1099511627776) :
  Calls Tryz.prog 51 #[.agg #[.int .i64 p, .slice a l.length cap]] W fun e w' => e = .returned (.bool (isGraphB (p, l))) ∧ Below W.heap.size W w' := by
 have hwd := @Wd.cells
 have HH := Lib.hid h
 clear h
 generalize hL : l.length = n at *
 have HL := Lib.hid hL
 clear hL
 have HB0 : Hid (Below W.heap.size W (W.alloc (.cells #[.int .i64 p, .slice a n cap] 26))) := (Below.refl _ _).alloc (Nat.le_refl _) _
 cases h1 : inB p 1 8
 ·have HF := Lib.hid (ret_bool (show isGraphB (p, l) = false by simp [isGraphB, h1]))
  go_enter Tryz.func51, Tryz.ntmps51
  go_wp2_with (go_at_call 52; refine (l1In_any _ _ _ _).mono ?_; rintro e w' ⟨rfl, rfl⟩)
  go_ret
  exact ⟨HF.out.symm, HB0.out⟩
 by_cases h24 : 24 < n
 ·have HF := Lib.hid (ret_bool (show isGraphB (p, l) = false by have := HL.out; simp [isGraphB, h1]; omega))
  go_enter Tryz.func51, Tryz.ntmps51
  go_wp2_with (go_at_call 52; refine (l1In_any _ _ _ _).mono ?_; rintro e w' ⟨rfl, rfl⟩)
  go_ret
  exact ⟨HF.out.symm, HB0.out⟩
 have hp : 1 ≤ p ∧ p ≤ 8 := by simp [inB] at h1; omega
 obtain ⟨hp1, hp8⟩ := hp
 go_enter Tryz.func51, Tryz.ntmps51
 go_wp2_with (go_at_call 52; refine (l1In_any _ _ _ _).mono ?_; rintro e w' ⟨rfl, rfl⟩)
 obtain ⟨W0, hW0⟩ : ∃ W0, W0 = W.alloc (.cells #[.int .i64 p, .slice a n cap] 26) := ⟨_, rfl⟩
 rw [← hW0]
 have hs0 : W0.heap.size = W.heap.size + 1 := by rw [hW0]; simp
 have g0 : W0.cell? ⟨W.heap.size, 0, none⟩ = some (.int .i64 p) := by rw [hW0]; simp [World.cell?_alloc_new]
 have g1 : W0.cell? ⟨W.heap.size, 1, none⟩ = some (.slice a n cap) := by rw [hW0]; simp [World.cell?_alloc_new]
 rw [← hW0] at HB0
 have HC := Lib.hid (HH.out.below HB0.out).2
 have HS0 := Lib.hid hs0
 have hs1 : W.heap.size < W0.heap.size := by omega
 clear hs0 hW0
 go_loopw [3] (fun i wr => ∃ k : Nat, k ≤ n ∧ i = .int .i64 k ∧ (List.range k).all (barAt p l) = true ∧ Below W0.heap.size W0 wr) (fun i _ => n - (intOf i).toNat)
 case atStart => exact ⟨0, Nat.zero_le _, rfl, by simp, Below.refl _ _⟩
 case round =>
  obtain ⟨k, hk, rfl, hall, hb⟩ := hrel
  have HA := Lib.hid hall
  clear hall
  have g0' := (hb.cell (p := ⟨W.heap.size, 0, none⟩) hs1).trans g0
  have g1' := (hb.cell (p := ⟨W.heap.size, 1, none⟩) hs1).trans g1
  have hbz := hb.size
  have hq1 : W.heap.size < wr.heap.size := by omega
  have hq2 : W.heap.size ≤ wr.heap.size := by omega
  have hq3 : W.heap.size < wr.heap.size + 1 := by omega
  have hkl : k < n → k < l.length := fun hh => by have := HL.out; omega
  by_cases hlt : k < n
  ·obtain ⟨b, off, ⟨x1, x2⟩, rfl, hbl, hx, hc0, hc1⟩ := HC.out k hlt
   dsimp only at hc0 hc1
   have HX := Lib.hid hx
   have d0 := (hb.cell (p := ⟨b, off + k * 2, none⟩) hbl).trans hc0
   have d1 := (hb.cell (p := ⟨b, off + k * 2 + 1, none⟩) hbl).trans hc1
   have hr1 : b < wr.heap.size := by omega
   have hr2 : b ≤ wr.heap.size := by omega
   have hr3 : b < wr.heap.size + 1 := by omega
   clear hc0 hc1 hx g0 g1
   by_cases e1 : x1 < 0
   ·have hd1 : decide (x1 < 0) = true := decide_eq_true e1
    have HF := Lib.hid (ret_bool (isGraph_not (p := p) (k := k) (hkl hlt) (by simp only [barAt, HX.out]; simp; omega)))
    go_wp2_with fail
    refine wp_region_wd (by kernel_rfl) (by kernel_rfl) ?_
    repeat (go_big_quiet_step ((first | (go_at_call 104; exact Calls.wd_of (l2After_any _ _ _ _ _)))))
    refine wpQuiet_nil ?_
    intro n1
    have hbn : Below W0.heap.size W0 n1.w := (hb.alloc hb.size _).trans (n1.h.mono (by simp; omega))
    go_wp2_with fail
    go_ret
    exact ⟨HF.out.symm, HB0.out.trans (hbn.mono (by omega))⟩
   by_cases e2 : x2 ≤ x1
   ·have hd1 : decide (x1 < 0) = false := decide_eq_false e1
    have HF := Lib.hid (ret_bool (isGraph_not (p := p) (k := k) (hkl hlt) (by simp only [barAt, HX.out]; simp; omega)))
    go_wp2_with fail
    refine wp_region_wd (by kernel_rfl) (by kernel_rfl) ?_
    repeat (go_big_quiet_step ((first | (go_at_call 104; exact Calls.wd_of (l2After_any _ _ _ _ _)))))
    refine wpQuiet_nil ?_
    intro n1
    have hbn : Below W0.heap.size W0 n1.w := (hb.alloc hb.size _).trans (n1.h.mono (by simp; omega))
    go_wp2_with fail
    go_ret
    exact ⟨HF.out.symm, HB0.out.trans (hbn.mono (by omega))⟩
   by_cases e3 : p ≤ x2
   ·have hd1 : decide (x1 < 0) = false := decide_eq_false e1
    have hd2 : decide (x2 ≤ x1) = false := decide_eq_false e2
    have HF := Lib.hid (ret_bool (isGraph_not (p := p) (k := k) (hkl hlt) (by simp only [barAt, HX.out]; simp; omega)))
    go_wp2_with fail
    refine wp_region_wd (by kernel_rfl) (by kernel_rfl) ?_
    repeat (go_big_quiet_step ((first | (go_at_call 104; exact Calls.wd_of (l2After_any _ _ _ _ _)))))
    refine wpQuiet_nil ?_
    intro n1
    have hbn : Below W0.heap.size W0 n1.w := (hb.alloc hb.size _).trans (n1.h.mono (by simp; omega))
    go_wp2_with fail
    go_ret
    exact ⟨HF.out.symm, HB0.out.trans (hbn.mono (by omega))⟩
   have hd1 : decide (x1 < 0) = false := decide_eq_false e1
   have hd2 : decide (x2 ≤ x1) = false := decide_eq_false e2
   have hd3 : decide (p ≤ x2) = false := decide_eq_false e3
   by_cases hk0 : k = 0
   ·subst hk0
    have hat : barAt p l 0 = true := by simp only [barAt, HX.out]; simp; omega
    have HAT := Lib.hid hat
    clear hat
    simp only [Nat.zero_mul, Nat.add_zero] at d0 d1
    go_wp2_with fail
    refine wp_region_wd (by kernel_rfl) (by kernel_rfl) ?_
    repeat (go_big_quiet_step ((first | (go_at_call 104; exact Calls.wd_of (l2After_any _ _ _ _ _)))))
    refine wpQuiet_nil ?_
    intro n1
    have hbn : Below W0.heap.size W0 n1.w := (hb.alloc hb.size _).trans (n1.h.mono (by simp; omega))
    go_wp2_with fail
    go_roundw
    case rel => exact ⟨1, by omega, by go_num, by simp [List.range_succ, HAT.out], hbn⟩
    case measure => simp [intOf]; omega
   ·obtain ⟨b2, off2, ⟨y1, y2⟩, hab, hbl2, hy, hy0, hy1⟩ := HC.out (k - 1) (by omega)
    simp only [Option.some.injEq, Addr.mk.injEq, and_true] at hab
    obtain ⟨rfl, rfl⟩ := hab
    dsimp only at hy0 hy1
    have HY := Lib.hid hy
    have t0 := (hb.cell (p := ⟨b, off + (k - 1) * 2, none⟩) hbl).trans hy0
    have t1 := (hb.cell (p := ⟨b, off + (k - 1) * 2 + 1, none⟩) hbl).trans hy1
    clear hy hy0 hy1
    have hk1 : (0 : Int) < (k : Int) := by omega
    have hdk : decide ((0 : Int) < (k : Int)) = true := decide_eq_true hk1
    have hdk2 : decide (0 < k) = true := decide_eq_true (by omega)
    have hkm1 : (0 : Int) ≤ (k : Int) - 1 := by omega
    have hkm2 : (k : Int) - 1 < (n : Int) := by omega
    cases e4 : barLe (y1, y2) (x1, x2)
    ·have HF := Lib.hid (ret_bool (isGraph_not (p := p) (k := k) (hkl hlt) (by simp only [barAt, HX.out, HY.out, e4]; simp [hk0])))
     have hcmp : (0 : Int) < cmpB (y1, y2) (x1, x2) := (cmpB_le _ _).2 e4
     go_wp2_with fail
     refine wp_region_wd (by kernel_rfl) (by kernel_rfl) ?_
     repeat (go_big_quiet_step ((first | (go_at_call 104; exact Calls.wd_of (l2After_any _ _ _ _ _)))))
     refine wpQuiet_nil ?_
     intro n1
     have hbn : Below W0.heap.size W0 n1.w := (hb.alloc hb.size _).trans (n1.h.mono (by simp; omega))
     go_wp2_with fail
     go_ret
     exact ⟨HF.out.symm, HB0.out.trans (hbn.mono (by omega))⟩
    ·have hcmp : ¬ (0 : Int) < cmpB (y1, y2) (x1, x2) := fun hh => by have := (cmpB_le _ _).1 hh; rw [e4] at this; cases this
     have hcmpd : decide ((0 : Int) < cmpB (y1, y2) (x1, x2)) = false := decide_eq_false hcmp
     have hat : barAt p l k = true := by simp only [barAt, HX.out, HY.out, e4]; simp; omega
     have HAT := Lib.hid hat
     clear hat
     go_wp2_with fail
     refine wp_region_wd (by kernel_rfl) (by kernel_rfl) ?_
     repeat (go_big_quiet_step ((first | (go_at_call 104; exact Calls.wd_of (l2After_any _ _ _ _ _)))))
     refine wpQuiet_nil ?_
     intro n1
     have hbn : Below W0.heap.size W0 n1.w := (hb.alloc hb.size _).trans (n1.h.mono (by simp; omega))
     go_wp2_with fail
     go_roundw
     case rel => exact ⟨k + 1, by omega, by go_num, range_all_succ HA.out HAT.out, hbn⟩
     case measure => simp [intOf]; omega
  ·obtain rfl : k = n := by omega
   have HF := Lib.hid (ret_bool (show isGraphB (p, l) = true by
    have h2 := HA.out
    have h3 := HL.out
    simp only [isGraphB, barsOk, h3, h2, h1, Bool.true_and, Bool.and_true, decide_eq_true_eq]
    omega))
   go_wp2_with fail
   go_ret
   exact ⟨HF.out.symm, HB0.out.trans (hb.mono (by omega))⟩

set_option maxHeartbeats 8000000 in
theorem implIsGraph_at (W : World) (p : Int) (a : Option Addr) (cap : Nat) (l : List BarT) (h : BarsAt W a l.length l) (hn : l.length ≤ 1099511627776) :
  Calls Tryz.prog 61 #[.agg #[.int .i64 p, .slice a l.length cap]] W fun e w' => e = .returned (.bool (isGraphB (p, l))) ∧ Below W.heap.size W w' := by
 have hwd := @Wd.cells
 have HH := Lib.hid h
 clear h
 generalize hL : l.length = n at *
 have HL := Lib.hid hL
 clear hL
 have HB0 : Hid (Below W.heap.size W (W.alloc (.cells #[.int .i64 p, .slice a n cap] 26))) := (Below.refl _ _).alloc (Nat.le_refl _) _
 cases h1 : inB p 1 8
 ·have HF := Lib.hid (ret_bool (show isGraphB (p, l) = false by simp [isGraphB, h1]))
  go_enter Tryz.func61, Tryz.ntmps61
  go_wp2_with (go_at_call 47; refine (within_any _ _ _ _).mono ?_; rintro e w' ⟨rfl, rfl⟩)
  go_ret
  exact ⟨HF.out.symm, HB0.out⟩
 by_cases h24 : 24 < n
 ·have HF := Lib.hid (ret_bool (show isGraphB (p, l) = false by have := HL.out; simp [isGraphB, h1]; omega))
  go_enter Tryz.func61, Tryz.ntmps61
  go_wp2_with (go_at_call 47; refine (within_any _ _ _ _).mono ?_; rintro e w' ⟨rfl, rfl⟩)
  go_ret
  exact ⟨HF.out.symm, HB0.out⟩
 have hp : 1 ≤ p ∧ p ≤ 8 := by simp [inB] at h1; omega
 obtain ⟨hp1, hp8⟩ := hp
 go_enter Tryz.func61, Tryz.ntmps61
 go_wp2_with (go_at_call 47; refine (within_any _ _ _ _).mono ?_; rintro e w' ⟨rfl, rfl⟩)
 obtain ⟨W0, hW0⟩ : ∃ W0, W0 = W.alloc (.cells #[.int .i64 p, .slice a n cap] 26) := ⟨_, rfl⟩
 rw [← hW0]
 have hs0 : W0.heap.size = W.heap.size + 1 := by rw [hW0]; simp
 have g0 : W0.cell? ⟨W.heap.size, 0, none⟩ = some (.int .i64 p) := by rw [hW0]; simp [World.cell?_alloc_new]
 have g1 : W0.cell? ⟨W.heap.size, 1, none⟩ = some (.slice a n cap) := by rw [hW0]; simp [World.cell?_alloc_new]
 rw [← hW0] at HB0
 have HC := Lib.hid (HH.out.below HB0.out).2
 have HS0 := Lib.hid hs0
 have hs1 : W.heap.size < W0.heap.size := by omega
 clear hs0 hW0
 go_loopw [18] (fun i wr => ∃ k : Nat, k ≤ n ∧ i = .int .i64 k ∧ (List.range k).all (barAt p l) = true ∧ Below W0.heap.size W0 wr) (fun i _ => n - (intOf i).toNat)
 case atStart => exact ⟨0, Nat.zero_le _, rfl, by simp, Below.refl _ _⟩
 case round =>
  obtain ⟨k, hk, rfl, hall, hb⟩ := hrel
  have HA := Lib.hid hall
  clear hall
  have g0' := (hb.cell (p := ⟨W.heap.size, 0, none⟩) hs1).trans g0
  have g1' := (hb.cell (p := ⟨W.heap.size, 1, none⟩) hs1).trans g1
  have hbz := hb.size
  have hq1 : W.heap.size < wr.heap.size := by omega
  have hq2 : W.heap.size ≤ wr.heap.size := by omega
  have hq3 : W.heap.size < wr.heap.size + 1 := by omega
  have hkl : k < n → k < l.length := fun hh => by have := HL.out; omega
  by_cases hlt : k < n
  ·obtain ⟨b, off, ⟨x1, x2⟩, rfl, hbl, hx, hc0, hc1⟩ := HC.out k hlt
   dsimp only at hc0 hc1
   have HX := Lib.hid hx
   have d0 := (hb.cell (p := ⟨b, off + k * 2, none⟩) hbl).trans hc0
   have d1 := (hb.cell (p := ⟨b, off + k * 2 + 1, none⟩) hbl).trans hc1
   have hr1 : b < wr.heap.size := by omega
   have hr2 : b ≤ wr.heap.size := by omega
   have hr3 : b < wr.heap.size + 1 := by omega
   clear hc0 hc1 hx g0 g1
   by_cases e1 : x1 < 0
   ·have hd1 : decide (x1 < 0) = true := decide_eq_true e1
    have HF := Lib.hid (ret_bool (isGraph_not (p := p) (k := k) (hkl hlt) (by simp only [barAt, HX.out]; simp; omega)))
    go_wp2_with fail
    refine wp_region_wd (by kernel_rfl) (by kernel_rfl) ?_
    repeat (go_big_quiet_step ((first | (go_at_call 110; exact Calls.wd_of (compareBars_any _ _ _ _ _)))))
    refine wpQuiet_nil ?_
    intro n1
    have hbn : Below W0.heap.size W0 n1.w := (hb.alloc hb.size _).trans (n1.h.mono (by simp; omega))
    go_wp2_with fail
    go_ret
    exact ⟨HF.out.symm, HB0.out.trans (hbn.mono (by omega))⟩
   by_cases e2 : x2 ≤ x1
   ·have hd1 : decide (x1 < 0) = false := decide_eq_false e1
    have HF := Lib.hid (ret_bool (isGraph_not (p := p) (k := k) (hkl hlt) (by simp only [barAt, HX.out]; simp; omega)))
    go_wp2_with fail
    refine wp_region_wd (by kernel_rfl) (by kernel_rfl) ?_
    repeat (go_big_quiet_step ((first | (go_at_call 110; exact Calls.wd_of (compareBars_any _ _ _ _ _)))))
    refine wpQuiet_nil ?_
    intro n1
    have hbn : Below W0.heap.size W0 n1.w := (hb.alloc hb.size _).trans (n1.h.mono (by simp; omega))
    go_wp2_with fail
    go_ret
    exact ⟨HF.out.symm, HB0.out.trans (hbn.mono (by omega))⟩
   by_cases e3 : p ≤ x2
   ·have hd1 : decide (x1 < 0) = false := decide_eq_false e1
    have hd2 : decide (x2 ≤ x1) = false := decide_eq_false e2
    have HF := Lib.hid (ret_bool (isGraph_not (p := p) (k := k) (hkl hlt) (by simp only [barAt, HX.out]; simp; omega)))
    go_wp2_with fail
    refine wp_region_wd (by kernel_rfl) (by kernel_rfl) ?_
    repeat (go_big_quiet_step ((first | (go_at_call 110; exact Calls.wd_of (compareBars_any _ _ _ _ _)))))
    refine wpQuiet_nil ?_
    intro n1
    have hbn : Below W0.heap.size W0 n1.w := (hb.alloc hb.size _).trans (n1.h.mono (by simp; omega))
    go_wp2_with fail
    go_ret
    exact ⟨HF.out.symm, HB0.out.trans (hbn.mono (by omega))⟩
   have hd1 : decide (x1 < 0) = false := decide_eq_false e1
   have hd2 : decide (x2 ≤ x1) = false := decide_eq_false e2
   have hd3 : decide (p ≤ x2) = false := decide_eq_false e3
   by_cases hk0 : k = 0
   ·subst hk0
    have hat : barAt p l 0 = true := by simp only [barAt, HX.out]; simp; omega
    have HAT := Lib.hid hat
    clear hat
    simp only [Nat.zero_mul, Nat.add_zero] at d0 d1
    go_wp2_with fail
    refine wp_region_wd (by kernel_rfl) (by kernel_rfl) ?_
    repeat (go_big_quiet_step ((first | (go_at_call 110; exact Calls.wd_of (compareBars_any _ _ _ _ _)))))
    refine wpQuiet_nil ?_
    intro n1
    have hbn : Below W0.heap.size W0 n1.w := (hb.alloc hb.size _).trans (n1.h.mono (by simp; omega))
    go_wp2_with fail
    go_roundw
    case rel => exact ⟨1, by omega, by go_num, by simp [List.range_succ, HAT.out], hbn⟩
    case measure => simp [intOf]; omega
   ·obtain ⟨b2, off2, ⟨y1, y2⟩, hab, hbl2, hy, hy0, hy1⟩ := HC.out (k - 1) (by omega)
    simp only [Option.some.injEq, Addr.mk.injEq, and_true] at hab
    obtain ⟨rfl, rfl⟩ := hab
    dsimp only at hy0 hy1
    have HY := Lib.hid hy
    have t0 := (hb.cell (p := ⟨b, off + (k - 1) * 2, none⟩) hbl).trans hy0
    have t1 := (hb.cell (p := ⟨b, off + (k - 1) * 2 + 1, none⟩) hbl).trans hy1
    clear hy hy0 hy1
    have hk1 : (0 : Int) < (k : Int) := by omega
    have hdk : decide ((0 : Int) < (k : Int)) = true := decide_eq_true hk1
    have hdk2 : decide (0 < k) = true := decide_eq_true (by omega)
    have hkm1 : (0 : Int) ≤ (k : Int) - 1 := by omega
    have hkm2 : (k : Int) - 1 < (n : Int) := by omega
    cases e4 : barLe (y1, y2) (x1, x2)
    ·have HF := Lib.hid (ret_bool (isGraph_not (p := p) (k := k) (hkl hlt) (by simp only [barAt, HX.out, HY.out, e4]; simp [hk0])))
     have hcmp : (0 : Int) < cmpB (y1, y2) (x1, x2) := (cmpB_le _ _).2 e4
     go_wp2_with fail
     refine wp_region_wd (by kernel_rfl) (by kernel_rfl) ?_
     repeat (go_big_quiet_step ((first | (go_at_call 110; exact Calls.wd_of (compareBars_any _ _ _ _ _)))))
     refine wpQuiet_nil ?_
     intro n1
     have hbn : Below W0.heap.size W0 n1.w := (hb.alloc hb.size _).trans (n1.h.mono (by simp; omega))
     go_wp2_with fail
     go_ret
     exact ⟨HF.out.symm, HB0.out.trans (hbn.mono (by omega))⟩
    ·have hcmp : ¬ (0 : Int) < cmpB (y1, y2) (x1, x2) := fun hh => by have := (cmpB_le _ _).1 hh; rw [e4] at this; cases this
     have hcmpd : decide ((0 : Int) < cmpB (y1, y2) (x1, x2)) = false := decide_eq_false hcmp
     have hat : barAt p l k = true := by simp only [barAt, HX.out, HY.out, e4]; simp; omega
     have HAT := Lib.hid hat
     clear hat
     go_wp2_with fail
     refine wp_region_wd (by kernel_rfl) (by kernel_rfl) ?_
     repeat (go_big_quiet_step ((first | (go_at_call 110; exact Calls.wd_of (compareBars_any _ _ _ _ _)))))
     refine wpQuiet_nil ?_
     intro n1
     have hbn : Below W0.heap.size W0 n1.w := (hb.alloc hb.size _).trans (n1.h.mono (by simp; omega))
     go_wp2_with fail
     go_roundw
     case rel => exact ⟨k + 1, by omega, by go_num, range_all_succ HA.out HAT.out, hbn⟩
     case measure => simp [intOf]; omega
  ·obtain rfl : k = n := by omega
   have HF := Lib.hid (ret_bool (show isGraphB (p, l) = true by
    have h2 := HA.out
    have h3 := HL.out
    simp only [isGraphB, barsOk, h3, h2, h1, Bool.true_and, Bool.and_true, decide_eq_true_eq]
    omega))
   go_wp2_with fail
   go_ret
   exact ⟨HF.out.symm, HB0.out.trans (hb.mono (by omega))⟩

theorem spec_IsGraph_is (W : World) (v : Value) (g : GraphT) (h : IsGraph W v g) (hn : szGraph g ≤ 1099511627776) : Calls Tryz.prog 51 #[v] W fun e w' => e = .returned (.bool (isGraphB g)) ∧ Below W.heap.size W w' := by
 obtain ⟨p, l⟩ := g
 obtain ⟨a, cap, rfl, hi⟩ := h
 exact specIsGraph_at _ _ _ _ _ hi hn
theorem impl_IsGraph_is (W : World) (v : Value) (g : GraphT) (h : IsGraph W v g) (hn : szGraph g ≤ 1099511627776) : Calls Tryz.prog 61 #[v] W fun e w' => e = .returned (.bool (isGraphB g)) ∧ Below W.heap.size W w' := by
 obtain ⟨p, l⟩ := g
 obtain ⟨a, cap, rfl, hi⟩ := h
 exact implIsGraph_at _ _ _ _ _ hi hn
end Go.Proofs.YtfbmpkdjhhcnpaaGreat

