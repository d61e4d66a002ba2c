/- Undoing a step, in plain words. No program in sight. -/
import Derived.Test.YtfbmpkdjhhcnpaaGreatSnP13
import Derived.Test.YtfbmpkdjhhcnpaaGreatSnP14
import Derived.Test.YtfbmpkdjhhcnpaaGreatSnP16
import Derived.Test.YtfbmpkdjhhcnpaaGreatSnP19
import Derived.Test.YtfbmpkdjhhcnpaaGreatSnP23
import Derived.Test.YtfbmpkdjhhcnpaaGreatSnP07
import Derived.Test.YtfbmpkdjhhcnpaaGreatSnP08
import Derived.Test.YtfbmpkdjhhcnpaaGreatSnP21
import Derived.Test.YtfbmpkdjhhcnpaaGreatSnP10
import Derived.Test.YtfbmpkdjhhcnpaaGreatSnP04
import Derived.Test.YtfbmpkdjhhcnpaaGreatSnP22
import Derived.OwnWalk
import Derived.Shelf.SlicesQ.Reverse
import Derived.Lib.MinMax
namespace Go.Proofs.YtfbmpkdjhhcnpaaGreat
open Go.RowKit
set_option maxRecDepth 100000
set_option linter.unusedVariables false
set_option linter.unusedSimpArgs false
theorem isGraphB_of {p : Int} {l : List BarT} (hp : inB p 1 8 = true) (hl : l.length ≤ 24) (hb : ∀ x ∈ l, 0 ≤ x.1 ∧ x.1 < x.2 ∧ x.2 < p) (ho : Ord l) : isGraphB (p, l) = true := by
 unfold isGraphB barsOk
 simp only [Bool.and_eq_true, decide_eq_true_eq, List.all_eq_true, List.mem_range]
 refine ⟨hp, hl, fun i hi => ?_⟩
 have hx := hb _ (List.getElem_mem hi)
 unfold barAt
 rw [List.getElem?_eq_getElem hi]
 dsimp only
 simp only [Bool.and_eq_true, decide_eq_true_eq, Bool.or_eq_true, beq_iff_eq]
 refine ⟨hx.1, hx.2.1, hx.2.2, ?_⟩
 by_cases h0 : i = 0
 ·exact .inl h0
 ·right
  rw [List.getElem?_eq_getElem (show i - 1 < l.length by omega)]
  exact List.pairwise_iff_getElem.1 ho (i - 1) i (by omega) hi (by omega)
theorem isGraphB_sub {p : Int} {l m : List BarT} (h : isGraphB (p, l) = true) (hs : m.Sublist l) : isGraphB (p, m) = true := by
 have h2 := isGraphB_bd h
 refine isGraphB_of (by simp [inB]; omega) (Nat.le_trans hs.length_le h2.2) (fun x hx => ?_) (List.Pairwise.sublist hs (isGraphB_ord h))
 obtain ⟨k, hk⟩ := List.getElem?_of_mem (hs.subset hx)
 exact isGraphB_bar h hk
theorem dropL_graph {p : Int} {l : List BarT} (v : Int) (h : isGraphB (p, l) = true) : isGraphB (p, dropL l v) = true := isGraphB_sub h List.filter_sublist
theorem near_drop (l : List BarT) (v : Int) : (nearL l v).length + (dropL l v).length = l.length := by
 unfold nearL dropL
 rw [List.length_map]
 induction l with
 | nil => rfl
 | cons x t ih =>
  cases h : hasV v x <;> simp [h] <;> omega
theorem near_sorted {p : Int} {l : List BarT} (v : Int) (h : isGraphB (p, l) = true) : (nearL l v).Pairwise (· ≤ ·) := by
 have ho := isGraphB_ord h
 unfold nearL
 rw [List.pairwise_map, List.pairwise_filter]
 have key : l.Pairwise fun x y => barLe x y = true ∧ (x.1 < x.2 ∧ y.1 < y.2) := by
  refine List.pairwise_iff_getElem.2 fun i j hi hj hij => ⟨List.pairwise_iff_getElem.1 ho i j hi hj hij, ?_, ?_⟩
  ·have := isGraphB_bar h (List.getElem?_eq_getElem hi); omega
  ·have := isGraphB_bar h (List.getElem?_eq_getElem hj); omega
 refine key.imp fun {x y} h1 hx hy => ?_
 obtain ⟨h1, h2, h3⟩ := h1
 rw [barLe_iff] at h1
 simp only [hasV, Bool.or_eq_true, beq_iff_eq] at hx hy
 omega
theorem srt_near {p : Int} {l : List BarT} (v : Int) (h : isGraphB (p, l) = true) : srtL (nearL l v) = nearL l v := by
 unfold srtL
 exact List.mergeSort_of_pairwise ((near_sorted v h).imp fun h => by simpa [leB] using h)
def und1 (l : List BarT) (v : Nat) : Option (List BarT × StepT) :=
 if (nearL l v).length = 2 then some (dropL l v, (1, (v : Int), gI (nearL l v) 0, gI (nearL l v) 1, 0)) else none
def undA (l : List BarT) (v k : Nat) : Int := gI (nearL l v) (k % 3)
def undX (l : List BarT) (v k : Nat) : List BarT := putL (dropL l v) (min (undA l v k) (undA l v (k + 1)), max (undA l v k) (undA l v (k + 1)))
def undT (l : List BarT) (v k : Nat) : StepT := (2, (v : Int), min (undA l v k) (undA l v (k + 1)), max (undA l v k) (undA l v (k + 1)), undA l v (k + 2))
def und3 (p : Int) (l : List BarT) (v k : Nat) : Option (List BarT × StepT) :=
 if sparseB (p, undX l v k) 2 3 = true then some (undX l v k, undT l v k) else none
def und2 (p : Int) (l : List BarT) (v : Nat) : Option (List BarT × StepT) :=
 if (nearL l v).length = 3 then firstS (und3 p l v) 3 else none
def undoL (p : Int) (l : List BarT) : Option (List BarT × StepT) := match firstS (und1 l) p.toNat with
 | some r => some r
 | none => firstS (und2 p l) p.toNat
theorem undoL_hit1 {p : Int} {l : List BarT} {v : Nat} (hn : ∀ j, j < v → und1 l j = none) (hv : v < p.toNat) (h : (nearL l v).length = 2) : undoL p l = some (dropL l v, (1, (v : Int), gI (nearL l v) 0, gI (nearL l v) 1, 0)) := by
 unfold undoL
 rw [firstS_hit hn (show und1 l v = some _ from if_pos h) _ hv]
theorem und1_no {l : List BarT} {v : Nat} (h : ¬ (nearL l v).length = 2) : und1 l v = none := if_neg h
theorem undoL_rest {p : Int} {l : List BarT} (hn : ∀ j, j < p.toNat → und1 l j = none) : undoL p l = firstS (und2 p l) p.toNat := by
 unfold undoL
 rw [firstS_none _ hn]
theorem und2_no {p : Int} {l : List BarT} {v : Nat} (h : ¬ (nearL l v).length = 3) : und2 p l v = none := if_neg h
theorem und2_none {p : Int} {l : List BarT} {v : Nat} (h : ∀ j, j < 3 → und3 p l v j = none) : und2 p l v = none := by
 unfold und2
 rw [firstS_none _ h]
 split <;> rfl
theorem und3_no {p : Int} {l : List BarT} {v k : Nat} (h : sparseB (p, undX l v k) 2 3 = false) : und3 p l v k = none := if_neg (by rw [h]; simp)
theorem und2_hit {p : Int} {l : List BarT} {v k : Nat} (h3 : (nearL l v).length = 3) (hn : ∀ j, j < k → und3 p l v j = none) (hk : k < 3) (h : sparseB (p, undX l v k) 2 3 = true) : und2 p l v = some (undX l v k, undT l v k) := by
 unfold und2
 rw [if_pos h3, firstS_hit hn (show und3 p l v k = some _ from if_pos h) _ hk]
theorem firstS_hit2 {p : Int} {l : List BarT} {v : Nat} {r : List BarT × StepT} (hn : ∀ j, j < v → und2 p l j = none) (hv : v < p.toNat) (h : und2 p l v = some r) : firstS (und2 p l) p.toNat = some r := firstS_hit hn h _ hv
theorem und1_len {l : List BarT} {v : Nat} {x : List BarT} {s : StepT} (h : und1 l v = some (x, s)) : x.length + 2 = l.length := by
 unfold und1 at h
 split at h
 ·rename_i h2
  have := near_drop l v
  simp only [Option.some.injEq, Prod.mk.injEq] at h
  rw [← h.1]; omega
 ·simp at h
theorem und3_len {p : Int} {l : List BarT} {v k : Nat} {x : List BarT} {s : StepT} (h3 : (nearL l v).length = 3) (h : und3 p l v k = some (x, s)) : x.length + 2 = l.length := by
 unfold und3 at h
 split at h
 ·have := near_drop l v
  simp only [Option.some.injEq, Prod.mk.injEq] at h
  rw [← h.1, undX, putL_length]; omega
 ·simp at h
theorem und2_some {p : Int} {l : List BarT} {v : Nat} {r : List BarT × StepT} (h : und2 p l v = some r) : (nearL l v).length = 3 ∧ ∃ k, k < 3 ∧ und3 p l v k = some r := by
 unfold und2 at h
 split at h
 ·rename_i h3
  exact ⟨h3, firstS_some _ h⟩
 ·simp at h
theorem undoL_some {p : Int} {l : List BarT} {r : List BarT × StepT} (h : undoL p l = some r) : (∃ v, v < p.toNat ∧ und1 l v = some r) ∨ ∃ v, v < p.toNat ∧ und2 p l v = some r := by
 unfold undoL at h
 cases h1 : firstS (und1 l) p.toNat with
 | some r' => rw [h1] at h; exact .inl (firstS_some _ (by rw [h1]; exact h))
 | none => rw [h1] at h; exact .inr (firstS_some _ h)
theorem undoL_len {p : Int} {l x : List BarT} {s : StepT} (h : undoL p l = some (x, s)) : x.length + 2 = l.length := by
 rcases undoL_some h with ⟨v, _, h1⟩ | ⟨v, _, h1⟩
 ·exact und1_len h1
 ·obtain ⟨h3, k, _, hk⟩ := und2_some h1
  exact und3_len h3 hk
theorem sparseB_graph {g : GraphT} {k r : Int} (h : sparseB g k r = true) : isGraphB g = true := by
 unfold sparseB at h
 simp only [Bool.and_eq_true] at h
 exact h.1.1
theorem undoL_graph {p : Int} {l x : List BarT} {s : StepT} (hg : isGraphB (p, l) = true) (h : undoL p l = some (x, s)) : isGraphB (p, x) = true := by
 rcases undoL_some h with ⟨v, _, h1⟩ | ⟨v, _, h1⟩
 ·unfold und1 at h1
  split at h1
  ·simp only [Option.some.injEq, Prod.mk.injEq] at h1
   rw [← h1.1]
   exact dropL_graph _ hg
  ·simp at h1
 ·obtain ⟨h3, k, _, hk⟩ := und2_some h1
  unfold und3 at hk
  split at hk
  ·rename_i hs
   simp only [Option.some.injEq, Prod.mk.injEq] at hk
   rw [← hk.1]
   exact sparseB_graph hs
  ·simp at hk
def fndL (p : Int) : Nat → List BarT → List StepT → Option (List StepT)
 | 0, _, _ => none
 | f + 1, l, out => if 1 < l.length then match undoL p l with
   | some (x, s) => fndL p f x (s :: out)
   | none => none
  else some ((0, 0, (gB l 0).1, (gB l 0).2, 0) :: out)
def findA (p : Int) (l : List BarT) : List StepT × Bool :=
 if (minB (p, l) && !(l.length == 0)) = true then match fndL p l.length l [] with
  | some s => (s, true)
  | none => ([], false)
 else ([], false)
theorem minB_len {p : Int} {l : List BarT} (h : minB (p, l) = true) : isGraphB (p, l) = true ∧ (l.length = 0 ∨ ((l.length : Int) = 2 * p - 3)) := by
 unfold minB freeG at h
 simp only [Bool.and_eq_true, beq_iff_eq] at h
 obtain ⟨h1, h2⟩ := h
 split at h1
 ·rename_i hg
  (try dsimp only at h1); (try dsimp only at h2)
  exact ⟨hg, by omega⟩
 ·omega
theorem fndL_end {p : Int} {f : Nat} {l : List BarT} {out : List StepT} (h : l.length = 1) (hf : l.length ≤ f) : fndL p f l out = some ((0, 0, (gB l 0).1, (gB l 0).2, 0) :: out) := by
 cases f with
 | zero => omega
 | succ f => exact if_neg (by omega)
theorem fndL_yes {p : Int} {f : Nat} {l x : List BarT} {s : StepT} {out : List StepT} (h : 1 < l.length) (hf : l.length ≤ f) (hu : undoL p l = some (x, s)) : ∃ f', x.length ≤ f' ∧ fndL p f l out = fndL p f' x (s :: out) := by
 have hl := undoL_len hu
 cases f with
 | zero => omega
 | succ f => exact ⟨f, by omega, by show (if 1 < l.length then _ else _) = _; rw [if_pos h, hu]⟩
theorem fndL_no {p : Int} {f : Nat} {l : List BarT} {out : List StepT} (h : 1 < l.length) (hu : undoL p l = none) : fndL p f l out = none := by
 cases f with
 | zero => rfl
 | succ f => show (if 1 < l.length then _ else _) = _; rw [if_pos h, hu]
theorem graph_put {p : Int} {l : List BarT} {x : BarT} (h : isGraphB (p, l) = true) (hl : l.length ≤ 23) (hx : 0 ≤ x.1 ∧ x.1 < x.2 ∧ x.2 < p) : isGraphB (p, putL l x) = true := by
 have h2 := isGraphB_bd h
 refine isGraphB_of (by simp [inB]; omega) (by rw [putL_length]; omega) (fun y hy => ?_) (putL_ord x (isGraphB_ord h))
 rcases mem_putL.1 hy with rfl | hy
 ·exact hx
 ·obtain ⟨k, hk⟩ := List.getElem?_of_mem hy
  exact isGraphB_bar h hk
theorem cutG_sub (l : List BarT) (k : Nat) : (cutG l k).Sublist l := by
 unfold cutG
 conv => rhs; rw [← List.take_append_drop k l]
 exact List.Sublist.append (List.Sublist.refl _) (by rw [← List.drop_drop]; exact List.drop_sublist _ _)
structure LmG (P : Int) (v m : Nat) (bs : List BarT) : Prop where
 g : isGraphB (P, bs) = true
 lo : 1 ≤ bs.length
 hi : bs.length ≤ m
 lt : ∀ x ∈ bs, x.2 < v
theorem LmG.put {P : Int} {v v' m : Nat} {bs : List BarT} (h : LmG P v m bs) (hm : m ≤ 22) (hv : v ≤ v') {x : BarT} (hx : 0 ≤ x.1 ∧ x.1 < x.2 ∧ x.2 < P) (hxv : x.2 < v') : LmG P v' (m + 1) (putL bs x) :=
 ⟨graph_put h.g (by have := h.hi; omega) hx, by rw [putL_length]; omega, by rw [putL_length]; have := h.hi; omega, fun y hy => by
  rcases mem_putL.1 hy with rfl | hy
  ·exact hxv
  ·have := h.lt y hy; omega⟩

theorem Zer2.drew {w : World} {g : Nat} (h : Zer2 w g) : Zer2 w.drew g := h
def CutGr (W0 : World) (p : Int) (l : List BarT) (s : Value) (wx : World) : Prop :=
 ∃ g ab cb lo hi, s = .pointer (some ⟨g, 0, none⟩) ∧ BoxGr wx g p ab l.length cb ∧ HGraph wx lo hi (.agg #[.int .i64 p, .slice ab l.length cb]) (p, l) ∧ (g < lo ∨ hi ≤ g) ∧ W0.heap.size ≤ lo ∧ lo ≤ hi ∧ hi ≤ wx.heap.size ∧ W0.heap.size ≤ g ∧ (wx.frozen? ⟨g, 0, none⟩ = false ∧ wx.frozen? ⟨g, 1, none⟩ = false) ∧ Below W0.heap.size W0 wx
theorem boxS2 {w : World} {g : Nat} {p : Int} {ab : Option Addr} {n cb : Nat} (h : Zer2 w g) : BoxGr ((w.setCell ⟨g, 0, none⟩ (.int .i64 p)).setCell ⟨g, 1, none⟩ (.slice ab n cb)) g p ab n cb := by
 obtain ⟨⟨a, b, c, c0, c1⟩, ⟨f0, f1⟩, hz⟩ := h
 have o01 : (⟨g, 0, none⟩ : Addr) ≠ ⟨g, 1, none⟩ := by simp
 exact ⟨by simpa using hz,
  (World.cell?_setCell_other _ _ _ _ o01.symm).trans (World.cell?_setCell_same _ _ _ c0),
  World.cell?_setCell_same _ _ _ ((World.cell?_setCell_other _ _ _ _ o01).trans c1)⟩
theorem cutA2 {W0 w : World} {g lo hi : Nat} {p : Int} {l : List BarT} {ab : Option Addr} {cb : Nat} (hz : Zer2 w g)
  (h : HGraph w lo hi (.agg #[.int .i64 p, .slice ab l.length cb]) (p, l)) (hs : g < lo ∨ hi ≤ g) (h1 : W0.heap.size ≤ lo) (h2 : lo ≤ hi) (h3 : hi ≤ w.heap.size) (h4 : W0.heap.size ≤ g) (hb : Below W0.heap.size W0 w) :
  CutGr W0 p l (.pointer (some ⟨g, 0, none⟩)) ((w.setCell ⟨g, 0, none⟩ (.int .i64 p)).setCell ⟨g, 1, none⟩ (.slice ab l.length cb)) := by
 refine ⟨g, ab, cb, lo, hi, rfl, boxS2 hz, ?_, hs, h1, h2, by simpa using h3, h4, ⟨(World.frozen?_setCell _ _ _ _).trans ((World.frozen?_setCell _ _ _ _).trans hz.2.1.1), (World.frozen?_setCell _ _ _ _).trans ((World.frozen?_setCell _ _ _ _).trans hz.2.1.2)⟩, (hb.setCell (by simp; omega) _).setCell (by simp; omega) _⟩
 refine h.kept ((keptSet' (S := fun b => b = g) rfl).trans (keptSet' (S := fun b => b = g) rfl)) fun k h5 h6 h7 => ?_
 omega
theorem cutB2 {W0 w : World} {lo hi : Nat} {p : Int} {l : List BarT} {ab : Option Addr} {cb : Nat} (ty : TypeId)
  (h : HGraph w lo hi (.agg #[.int .i64 p, .slice ab l.length cb]) (p, l)) (h1 : W0.heap.size ≤ lo) (h2 : lo ≤ hi) (h3 : hi ≤ w.heap.size) (hb : Below W0.heap.size W0 w) :
  CutGr W0 p l (.pointer (some ⟨w.heap.size, 0, none⟩)) (w.alloc (.cells #[.int .i64 p, .slice ab l.length cb] ty)) := by
 have ba : Below w.heap.size w (w.alloc (.cells #[.int .i64 p, .slice ab l.length cb] ty)) := (Below.refl _ _).alloc (Nat.le_refl _) _
 exact ⟨w.heap.size, ab, cb, lo, hi, rfl, BoxGr.at rfl, h.below ba, .inr h3, h1, h2, by simp; omega, hb.size, ⟨by simp [World.frozen?_alloc_new], by simp [World.frozen?_alloc_new]⟩, hb.step ba⟩
theorem cutC2 {W0 w : World} {lo hi : Nat} {p : Int} {l : List BarT} {ab : Option Addr} {cb : Nat} (ty : TypeId)
  (h : HGraph w lo hi (.agg #[.int .i64 p, .slice ab l.length cb]) (p, l)) (h1 : W0.heap.size ≤ lo) (h2 : lo ≤ hi) (h3 : hi ≤ w.heap.size) (hb : Below W0.heap.size W0 w) :
  CutGr W0 p l (.pointer (some ⟨w.heap.size, 0, none⟩)) (((w.alloc (.cells #[.int .i64 0, .slice none 0 0] ty)).setCell ⟨w.heap.size, 0, none⟩ (.int .i64 p)).setCell ⟨w.heap.size, 1, none⟩ (.slice ab l.length cb)) := by
 have ba : Below w.heap.size w (w.alloc (.cells #[.int .i64 0, .slice none 0 0] ty)) := (Below.refl _ _).alloc (Nat.le_refl _) _
 exact cutA2 (Zer2.at w ty) (h.below ba) (.inr h3) h1 h2 (by simp; omega) hb.size (hb.step ba)
theorem reBox {w : World} {g : Nat} {p q : Int} {a a' : Option Addr} {n c n' c' : Nat} (h : BoxGr w g p a n c) (f0 : w.frozen? ⟨g, 0, none⟩ = false) (f1 : w.frozen? ⟨g, 1, none⟩ = false) :
  BoxGr ((w.setCell ⟨g, 0, none⟩ (.int .i64 q)).setCell ⟨g, 1, none⟩ (.slice a' n' c')) g q a' n' c' ∧ ((w.setCell ⟨g, 0, none⟩ (.int .i64 q)).setCell ⟨g, 1, none⟩ (.slice a' n' c')).frozen? ⟨g, 0, none⟩ = false ∧ ((w.setCell ⟨g, 0, none⟩ (.int .i64 q)).setCell ⟨g, 1, none⟩ (.slice a' n' c')).frozen? ⟨g, 1, none⟩ = false ∧ Kept (fun b => b = g) w ((w.setCell ⟨g, 0, none⟩ (.int .i64 q)).setCell ⟨g, 1, none⟩ (.slice a' n' c')) := by
 obtain ⟨hz, c0, c1⟩ := h
 have o01 : (⟨g, 0, none⟩ : Addr) ≠ ⟨g, 1, none⟩ := by simp
 exact ⟨⟨by simpa using hz,
  (World.cell?_setCell_other _ _ _ _ o01.symm).trans (World.cell?_setCell_same _ _ _ c0),
  World.cell?_setCell_same _ _ _ ((World.cell?_setCell_other _ _ _ _ o01).trans c1)⟩, (World.frozen?_setCell _ _ _ _).trans ((World.frozen?_setCell _ _ _ _).trans f0), (World.frozen?_setCell _ _ _ _).trans ((World.frozen?_setCell _ _ _ _).trans f1), (keptSet' (S := fun b => b = g) rfl).trans (keptSet' (S := fun b => b = g) rfl)⟩
theorem BoxSt.kept {S : Nat → Prop} {w w' : World} {g : Nat} {kd pt a b c : Int} (h : BoxSt w g kd pt a b c) (hk : Kept S w w') (hs : ¬ S g) : BoxSt w' g kd pt a b c :=
 ⟨Nat.lt_of_lt_of_le h.1 hk.size, (hk.cell h.1 hs).trans h.2.1, (hk.cell h.1 hs).trans h.2.2.1, (hk.cell h.1 hs).trans h.2.2.2.1, (hk.cell h.1 hs).trans h.2.2.2.2.1, (hk.cell h.1 hs).trans h.2.2.2.2.2⟩
theorem typesApart {W : World} {b b' : Nat} {e e' : TypeId} {s s' n n' : Nat} {v v' : Value} {xs xs' : List Value} (hne : e ≠ e') (h : W.ownsRow b e s v n xs) (hr : W.ownsRow b' e' s' v' n' xs') : ∀ g, v.ownBlock = some g → v'.ownBlock ≠ some g := by
 intro g hv hu
 rcases h.2 with ⟨rfl, _⟩ | ⟨g1, cap, cur, rfl, _, hg, _⟩
 ·simp [Value.ownBlock] at hv
 ·rcases hr.2 with ⟨rfl, _⟩ | ⟨g2, cap2, cur2, rfl, _, hg2, _⟩
  ·simp [Value.ownBlock] at hu
  ·simp [Value.ownBlock] at hv hu
   subst hv
   subst hu
   rw [hg] at hg2
   simp at hg2
   exact hne hg2.2
def RetWot (W : World) (p : Int) (dl : List BarT) (nl : List Int) (e : Ending) (w' : World) : Prop :=
 ∃ a c an cn, e = .returned (.tuple #[.agg #[.int .i64 p, .slice a dl.length c], .slice an nl.length cn]) ∧ OwnBars w' W.heap.size (.slice a dl.length c) dl ∧ OwnInts w' W.heap.size (.slice an nl.length cn) nl ∧ Below W.heap.size W w'
structure WotS (W w : World) (p : Int) (a : Option Addr) (n cap : Nat) (vb o : Value) (out : List BarT) (near : List Int) : Prop where
 b : Below W.heap.size W w
 bg : BoxGr w W.heap.size p a n cap
 rz : Zer2 w (W.heap.size + 1)
 og : OutG (W.heap.size + 1 + 1) w (W.heap.size + 1 + 1) p vb out
 nr : OwnInts w (W.heap.size + 3) o near
 sz : W.heap.size + 3 ≤ w.heap.size
theorem WotS.below {W w w' : World} {p : Int} {a : Option Addr} {n cap : Nat} {vb o : Value} {out : List BarT} {near : List Int} (h : WotS W w p a n cap vb o out near) (hb : Below w.heap.size w w') : WotS W w' p a n cap vb o out near :=
 ⟨h.b.step hb, h.bg.below hb, h.rz.below hb, h.og.below hb, h.nr.below hb, Nat.le_trans h.sz hb.size⟩
theorem WotS.app {W w w' : World} {p : Int} {a : Option Addr} {n cap : Nat} {vb v' o : Value} {out out' : List BarT} {near : List Int} (h : WotS W w p a n cap vb o out near) (ho : OwnBars w' (W.heap.size + 1 + 1) v' out') (hk : Kept (fun k => some k = vb.ownBlock) w w') (ha : v'.ownBlock = vb.ownBlock ∨ ∀ b, v'.ownBlock = some b → w.heap.size ≤ b) : WotS W (w'.setCell ⟨W.heap.size + 1 + 1, 1, none⟩ v') p a n cap v' o out' near := by
 have hs := h.sz
 have nlow : ∀ g, g < W.heap.size + 1 + 1 → ¬ some g = vb.ownBlock := fun g hg e => by have := (h.og.ob.lt g e.symm).1; omega
 have ks : Kept (fun k => k = W.heap.size + 1 + 1) w' (w'.setCell ⟨W.heap.size + 1 + 1, 1, none⟩ v') := setKept
 have kw := hk.size
 have h1 : OwnInts w' (W.heap.size + 3) o near := hk.ownsRow h.nr fun k h1 h2 => typesApart (by decide) h.nr h.og.ob k h1 h2.symm
 exact ⟨(h.b.trans (hk.below h.b.size fun g hg e => nlow g (by omega) e)).setCell (p := ⟨W.heap.size + 1 + 1, 1, none⟩) (by show W.heap.size ≤ W.heap.size + 1 + 1; omega) v', (h.bg.kept hk (nlow _ (by omega))).kept ks (by omega), (h.rz.kept hk (nlow _ (by omega))).kept ks (by omega), h.og.app ho hk ha, ks.ownsRow h1 (fun k h2 h3 => by have := (World.ownsRow.lt h1 k h2).1; omega), Nat.le_trans (Nat.le_trans h.sz hk.size) ks.size⟩
theorem WotS.near {W w w' : World} {p : Int} {a : Option Addr} {n cap : Nat} {vb o o' : Value} {out : List BarT} {near near' : List Int} (h : WotS W w p a n cap vb o out near) (ho : OwnInts w' (W.heap.size + 3) o' near') (hk : Kept (fun k => some k = o.ownBlock) w w') : WotS W w' p a n cap vb o' out near' := by
 have hs := h.sz
 have nlow : ∀ g, g < W.heap.size + 3 → ¬ some g = o.ownBlock := fun g hg e => by have := (World.ownsRow.lt h.nr g e.symm).1; omega
 exact ⟨h.b.trans (hk.below h.b.size fun g hg e => nlow g (by omega) e), h.bg.kept hk (nlow _ (by omega)), h.rz.kept hk (nlow _ (by omega)), ⟨(hk.cell h.og.hi (nlow _ (by omega))).trans h.og.c0, (hk.cell h.og.hi (nlow _ (by omega))).trans h.og.c1, (hk.frozen h.og.hi (nlow _ (by omega))).trans h.og.f1, hk.ownsRow h.og.ob (fun k h1 h2 => typesApart (by decide) h.og.ob h.nr k h1 h2.symm), h.og.ne, h.og.lo, Nat.lt_of_lt_of_le h.og.hi hk.size⟩, ho, Nat.le_trans h.sz hk.size⟩
theorem othB_has {x1 x2 v : Int} (h : hasV v (x1, x2) = true) : othB (x1, x2) v = x1 + x2 - v := by
 unfold hasV at h
 unfold othB
 simp only [Bool.or_eq_true, beq_iff_eq] at h
 split
 ·rename_i h1; dsimp only at h1 ⊢; omega
 ·rename_i h1; dsimp only at h1 ⊢; omega
theorem hasB_has (W : World) (x1 x2 v : Int) : Calls Tryz.prog 126 #[.agg #[.int .i64 x1, .int .i64 x2], .int .i64 v] W fun e w' => e = .returned (.bool (hasV v (x1, x2))) ∧ Below W.heap.size W w' := by
 have := hasB_any W x1 x2 v
 rwa [show decide (x1 = v ∨ x2 = v) = hasV v (x1, x2) by unfold hasV; by_cases h1 : x1 = v <;> by_cases h2 : x2 = v <;> simp [h1, h2]] at this
set_option maxHeartbeats 8000000 in
theorem without_at (W : World) (p : Int) (a : Option Addr) (cap : Nat) (l : List BarT) (h : BarsAt W a l.length l) (hs : l.length ≤ 1048576) (hg : isGraphB (p, l) = true) (v : Int) (hv : 0 ≤ v ∧ v ≤ 64) : Calls Tryz.prog 118 #[.agg #[.int .i64 p, .slice a l.length cap], .int .i64 v] W (RetWot W p (dropL l v) (nearL l v)) := by
 have hwd := @Wd.cells
 have HGr : Hid (IsGraph W (.agg #[.int .i64 p, .slice a l.length cap]) (p, l)) := Lib.hid ⟨a, cap, rfl, h⟩
 have H1 := Lib.hid h
 clear h
 have hsz : szGraph (p, l) ≤ 1048576 := hs
 have hsz2 : szGraph (p, l) ≤ 1099511627776 := Nat.le_trans hsz (by decide)
 have B : Below W.heap.size W (W.alloc (.cells #[.int .i64 p, .slice a l.length cap] 26)) := (Below.refl _ _).alloc (Nat.le_refl _) _
 have BG : Hid (BoxGr (W.alloc (.cells #[.int .i64 p, .slice a l.length cap] 26)) W.heap.size p a l.length cap) := Lib.hid (BoxGr.at rfl)
 have HG := Lib.hid hg
 have hll := (isGraphB_bd hg).2
 clear hg
 have b1 := belAl (W.alloc (.cells #[.int .i64 p, .slice a l.length cap] 26)) (.cells #[.int .i64 0, .slice none 0 0] 26)
 have b2 := belAl ((W.alloc (.cells #[.int .i64 p, .slice a l.length cap] 26)).alloc (.cells #[.int .i64 0, .slice none 0 0] 26)) (.cells #[.int .i64 p, .slice none 0 0] 26)
 have b3 := belAl (((W.alloc (.cells #[.int .i64 p, .slice a l.length cap] 26)).alloc (.cells #[.int .i64 0, .slice none 0 0] 26)).alloc (.cells #[.int .i64 p, .slice none 0 0] 26)) (.cells #[] 3)
 have WS : Hid (WotS W ((((W.alloc (.cells #[.int .i64 p, .slice a l.length cap] 26)).alloc (.cells #[.int .i64 0, .slice none 0 0] 26)).alloc (.cells #[.int .i64 p, .slice none 0 0] 26)).alloc (.cells #[] 3)) p a l.length cap (.slice none 0 0) (.slice (some ⟨W.heap.size + 3, 0, none⟩) 0 0) [] []) := Lib.hid (by
  have hr := Zer2.at (W.alloc (.cells #[.int .i64 p, .slice a l.length cap] 26)) 26
  rw [World.size_alloc] at hr
  have e2 : ((W.alloc (.cells #[.int .i64 p, .slice a l.length cap] 26)).alloc (.cells #[.int .i64 0, .slice none 0 0] 26)).heap.size = W.heap.size + 1 + 1 := by simp
  have e3 : (((W.alloc (.cells #[.int .i64 p, .slice a l.length cap] 26)).alloc (.cells #[.int .i64 0, .slice none 0 0] 26)).alloc (.cells #[.int .i64 p, .slice none 0 0] 26)).heap.size = W.heap.size + 3 := by simp
  have n0 := World.cell?_alloc_new ((W.alloc (.cells #[.int .i64 p, .slice a l.length cap] 26)).alloc (.cells #[.int .i64 0, .slice none 0 0] 26)) #[.int .i64 p, .slice none 0 0] 26 0
  have n1 := World.cell?_alloc_new ((W.alloc (.cells #[.int .i64 p, .slice a l.length cap] 26)).alloc (.cells #[.int .i64 0, .slice none 0 0] 26)) #[.int .i64 p, .slice none 0 0] 26 1
  have n2 := World.frozen?_alloc_new ((W.alloc (.cells #[.int .i64 p, .slice a l.length cap] 26)).alloc (.cells #[.int .i64 0, .slice none 0 0] 26)) #[.int .i64 p, .slice none 0 0] 26 1
  rw [e2] at n0 n1 n2
  have hO := OwnInts.made (((W.alloc (.cells #[.int .i64 p, .slice a l.length cap] 26)).alloc (.cells #[.int .i64 0, .slice none 0 0] 26)).alloc (.cells #[.int .i64 p, .slice none 0 0] 26)) (W.heap.size + 3) (by simp)
  rw [e3] at hO
  have OG : OutG (W.heap.size + 1 + 1) (((W.alloc (.cells #[.int .i64 p, .slice a l.length cap] 26)).alloc (.cells #[.int .i64 0, .slice none 0 0] 26)).alloc (.cells #[.int .i64 p, .slice none 0 0] 26)) (W.heap.size + 1 + 1) p (.slice none 0 0) [] := ⟨by simpa using n0, by simpa using n1, by simpa using n2, OwnBars.nil _ _, by simp [Value.ownBlock], Nat.le_refl _, by simp⟩
  exact ⟨((B.step b1).step b2).step b3, ((BG.out.below b1).below b2).below b3, (hr.below b2).below b3, OG.below b3, hO, by simp⟩)
 clear b1 b2 b3
 go_enter Tryz.func118, Tryz.ntmps118
 obtain ⟨zBG, fBG0, fBG1⟩ := BG.out
 go_wp2_with fail
 clear zBG fBG0 fBG1
 clear BG
 generalize ((((W.alloc (.cells #[.int .i64 p, .slice a l.length cap] 26)).alloc (.cells #[.int .i64 0, .slice none 0 0] 26)).alloc (.cells #[.int .i64 p, .slice none 0 0] 26)).alloc (.cells #[] 3)) = u at *
 clear B
 go_loopw [7, 17] (fun o i w9 => ∃ (k : Nat) (vb : Value), k ≤ l.length ∧ i = .int .i64 k ∧ WotS W w9 p a l.length cap vb o (dropT l v k) (nearT l v k)) (fun _ i _ => l.length - (intOf i).toNat)
 case atStart => exact ⟨0, _, Nat.zero_le _, rfl, WS.out⟩
 case round =>
  clear WS
  obtain ⟨k, vb, hk, rfl, hws⟩ := hrel
  have WS := Lib.hid hws
  clear hws
  have hlk := dropT_len l v k
  have hlk2 := nearT_len l v k
  by_cases hlt : k < l.length
  ·obtain ⟨bb, off, ⟨x1, x2⟩, rfl, hbl, hx, hc0, hc1⟩ := (H1.out.below WS.out.b).2 k hlt
   dsimp only at hc0 hc1
   have hr := isGraphB_bar HG.out hx
   dsimp only at hr
   have HX := Lib.hid hx
   clear hx
   have hki : (k : Int) < (l.length : Int) := by omega
   have hk0 : (0 : Int) ≤ (k : Int) := by omega
   have bpl := belAl wr (.cells #[.int .i64 x1, .int .i64 x2] 70)
   have p0 : (wr.alloc (.cells #[.int .i64 x1, .int .i64 x2] 70)).cell? ⟨wr.heap.size, 0, none⟩ = some (.int .i64 x1) := by simp [World.cell?_alloc_new]
   have p1 : (wr.alloc (.cells #[.int .i64 x1, .int .i64 x2] 70)).cell? ⟨wr.heap.size, 1, none⟩ = some (.int .i64 x2) := by simp [World.cell?_alloc_new]
   have pz : wr.heap.size < (wr.alloc (.cells #[.int .i64 x1, .int .i64 x2] 70)).heap.size := by simp
   go_upto_region 6 with (fail)
   clear hc0 hc1
   replace WS := Lib.hid (WS.out.below bpl)
   generalize (wr.alloc (.cells #[.int .i64 x1, .int .i64 x2] 70)) = w1 at *
   clear bpl
   have HCH := Lib.hid fun w => hasB_has w x1 x2 v
   cases hin : hasV v (x1, x2)
   ·have HS := Lib.hid (dropT_yes HX.out hin)
    have HN := Lib.hid (nearT_no HX.out hin)
    rw [hin] at HCH
    clear hin
    obtain ⟨ab, cb, rfl, hib⟩ := WS.out.og.ob.form
    clear hib
    go_wp2_with fail
    refine (HCH.out _).mono ?_
    rintro e w4 ⟨rfl, b4⟩
    replace p0 := ((bcell b4).1 _ _ pz).trans p0
    replace p1 := ((bcell b4).1 _ _ pz).trans p1
    have pz4 := Nat.lt_of_lt_of_le pz b4.size
    replace WS := Lib.hid (WS.out.below b4)
    clear b4
    have o1 := WS.out.og.c1
    have o2 := WS.out.og.f1
    have oz := WS.out.og.hi
    have hz3 := WS.out.sz
    have hol2 : (dropT l v k).length < 1099511627776 := by omega
    go_wp2_with (at_builtin; go_loud (refine appBar1At rfl (.tmp 31) (.tmp 33) rfl rfl WS.out.og.ob x1 x2 rfl hol2 (by omega) ?_); intro v5 w5 h5 k5 a5; go_loud (obtain ⟨av, cv, rfl, hiv⟩ := h5.form; clear hiv; have q1 := (k5.cell oz (o := 1) (fun e => WS.out.og.ne e.symm)).trans WS.out.og.c1; have q2 := (k5.frozen oz (o := 1) (fun e => WS.out.og.ne e.symm)).trans WS.out.og.f1; have q3 := Nat.lt_of_lt_of_le oz k5.size; have WS5 := Lib.hid (WS.out.app h5 k5 a5)))
    go_roundw
    case rel =>
     have h9 := WS5.out
     rw [show (dropT l v k ++ [(x1, x2)]).length = (dropT l v k).length + 1 by simp] at h9
     exact ⟨k + 1, _, by omega, by go_num, by rw [HS.out, HN.out]; exact h9⟩
    case measure => simp [intOf]; omega
   ·have HS := Lib.hid (dropT_no HX.out hin)
    have HN := Lib.hid (nearT_yes HX.out hin)
    dsimp only at HN
    have HOA := Lib.hid fun w => other_any x1 x2 v w
    rw [othB_has hin] at HOA
    rw [hin] at HCH
    clear hin
    obtain ⟨r, hr9⟩ : ∃ r, x1 + x2 - v = r := ⟨_, rfl⟩
    rw [hr9] at HN HOA
    clear hr9
    go_wp2_with fail
    refine (HCH.out _).mono ?_
    rintro e w4 ⟨rfl, b4⟩
    replace p0 := ((bcell b4).1 _ _ pz).trans p0
    replace p1 := ((bcell b4).1 _ _ pz).trans p1
    have pz4 := Nat.lt_of_lt_of_le pz b4.size
    replace WS := Lib.hid (WS.out.below b4)
    clear b4
    go_wp2_with fail
    refine (HOA.out _).mono ?_
    rintro e w6 ⟨rfl, b6⟩
    replace WS := Lib.hid (WS.out.below b6)
    clear b6 p0 p1
    have hz3 := WS.out.sz
    go_wp2_with (at_builtin; go_loud (refine app1At rfl (.tmp 24) (.tmp 28) rfl rfl WS.out.nr r rfl (by omega) (by omega) ?_); intro v5 w5 h5 k5 a5)
    go_roundw
    case rel => exact ⟨k + 1, vb, by omega, by go_num, by rw [HS.out, HN.out]; exact WS.out.near h5 k5⟩
    case measure => simp [intOf]; omega
  ·obtain rfl : k = l.length := by omega
   have HSR := Lib.hid (srt_near v HG.out)
   rw [dropT_all, nearT_all] at WS
   obtain ⟨ab, cb, rfl, hib⟩ := WS.out.og.ob.form
   clear hib hlk hlk2 hk hlt
   have hnl : (nearL l v).length ≤ 24 := by have := near_drop l v; omega
   go_wp2_with fail
   refine (sort_own wr (W.heap.size + 3) _ (nearL l v) WS.out.nr (by omega)).mono ?_
   rintro e w7 ⟨rfl, h7, k7⟩
   rw [HSR.out] at h7
   have W7 := Lib.hid (WS.out.near h7 k7)
   clear h7 k7 WS HSR
   obtain ⟨an, cn, rfl, hin⟩ := W7.out.nr.form
   clear hin
   have g0 := W7.out.og.c0
   have g1 := W7.out.og.c1
   have g3 := W7.out.og.hi
   obtain ⟨⟨z1, z2, z3, c0, c1⟩, ⟨f0, f1⟩, gz⟩ := W7.out.rz
   have HLD := Lib.hid (laid2 (p := p) (g := W.heap.size + 1) W7.out.og.ob (by omega) (by omega) (by omega) W7.out.b)
   have HNR : Hid (∀ u v', OwnInts ((w7.setCell ⟨W.heap.size + 1, 0, none⟩ u).setCell ⟨W.heap.size + 1, 1, none⟩ v') W.heap.size (.slice an (nearL l v).length cn) (nearL l v)) := Lib.hid fun u v' => ownsRow_base (ownsRow_setCell_below (ownsRow_setCell_below W7.out.nr (by show W.heap.size + 1 < W.heap.size + 3; omega) _) (by show W.heap.size + 1 < W.heap.size + 3; omega) _) (by omega)
   clear hnl
   go_wp2_with fail
   refine bodyPost_ret (v := .tuple #[.agg #[.int .i64 p, .slice ab (dropL l v).length cb], .slice an (nearL l v).length cn]) (by simp [results, Tryz.results118, go_sem, gz, c0, c1]) rfl ?_
   refine ⟨ab, cb, an, cn, rfl, ?_, HNR.out _ _, HLD.out.2⟩
   obtain ⟨vb9, ⟨a9, c9, e9, e8⟩, ho⟩ := HLD.out.1
   simp at e8
   obtain ⟨rfl, rfl⟩ := e8
   rw [e9] at ho
   exact ho
end Go.Proofs.YtfbmpkdjhhcnpaaGreat

namespace Go.Proofs.YtfbmpkdjhhcnpaaGreat
open Go Go.RowKit
set_option maxRecDepth 100000
set_option linter.unusedVariables false
set_option linter.unusedSimpArgs false
section
variable {P : Program} {ops : Array Oper} {Q : Exit → Act → World → Prop} {md : Region.Mode} {S : World → Prop} {L : Nat}
theorem wpAnyZ_firstAny {i : Nat} {oi : Oper} {v : Value} (hi : ops[i]? = some oi) (hsel : ∀ (j : Nat) (o : Oper) cs b, ops[j]? = some o → o.op ≠ .select cs b)
  (hQ : ∀ c a w, Q (.panic c) (a.put oi.dst v) w → Q (.panic c) a w) (hiL : i ≠ L) : ∀ (n : Nat) (listed : Array Bool) (a : Act) (w : World),
   (∀ j oj, ops[j]? = some oj → j ≠ i → listed.getD j true = false → (∀ e ∈ oj.after, Region.binds md e = true → e.on ≠ i) → oi.apart ops oj = true) →
   i ∈ Region.ready md ops listed → YieldsIf P ops (fun _ => True) oi v a → (listed.getD L false = true ∨ S w) →
   wpAnyZ P md ops Q S L n (listed.setIfInBounds i true) (a.put oi.dst v) w → wpAnyZ P md ops Q S L (n + 1) listed a w := by
 have drop : ∀ (l : Array Bool), (l.setIfInBounds i true).getD L false = l.getD L false := fun l => getD_set_ne false hiL
 intro n
 induction n with
 | zero =>
  intro listed a w _ hr hy hS H
  refine ⟨fun h => absurd hr (by rw [h]; simp), fun j hj => ?_⟩
  rcases Nat.decEq j i with hji | hji
  ·have := ready_mono hj hji
   rw [H.1] at this
   cases this
  ·subst hji
   refine hy.wpOp hi trivial ⟨?_, H⟩
   rw [drop]; exact hS
 | succ n ih =>
  intro listed a w hfree hr hy hS H
  refine ⟨fun h => absurd hr (by rw [h]; simp), fun j hj => ?_⟩
  rcases Nat.decEq j i with hji | hji
  ·obtain ⟨hjun, oj, hoj, hall⟩ := mem_ready.1 hj
   have hno : ∀ e ∈ oj.after, Region.binds md e = true → e.on ≠ i := fun e he hb hon => by
    have h1 := hall e he hb
    rw [hon] at h1
    exact unl_not (mem_ready.1 hr).1 h1
   refine wpOp_mono (fun b u h3 => ?_) (wpOp_putIf hoj (hfree j oj hoj hji hjun hno) (fun cs b => hsel i oi cs b hi) (fun cs b => hsel j oj cs b hoj) hQ hy (H.2 j (ready_mono hj hji)))
   obtain ⟨hy', hz, hrest⟩ := h3
   have hz' : (listed.setIfInBounds j true).getD L false = true ∨ S u := by
    rcases hz with hz | hz
    ·left
     rw [Array.setIfInBounds_comm _ _ (Ne.symm hji), drop] at hz
     exact hz
    ·exact .inr hz
   refine ⟨hz', ih (listed.setIfInBounds j true) b u ?_ (ready_mono hr (Ne.symm hji)) hy' hz' ?_⟩
   ·intro k ok hk hki hun hnk
    refine hfree k ok hk hki ?_ hnk
    rcases Nat.decEq j k with hjk | hjk
    ·rw [getD_set_ne true hjk] at hun; exact hun
    ·subst hjk; exact hjun
   ·rw [Array.setIfInBounds_comm _ _ hji]; exact hrest
  ·subst hji
   refine hy.wpOp hi trivial ⟨?_, H⟩
   rw [drop]; exact hS
theorem wpAnyZ_takeAny {i : Nat} {oi : Oper} {v : Value} {n : Nat} {listed : Array Bool} {a : Act} {w : World} (hi : ops[i]? = some oi)
  (hs : Region.noSelect ops = true) (hf : Region.free md ops listed i = true) (hr : (Region.ready md ops listed).contains i = true) (hiL : i ≠ L)
  (hQ : ∀ c a w, Q (.panic c) (a.put oi.dst v) w → Q (.panic c) a w) (hS : S w) (hwant : Region.wanted oi (yielded ops a.tmps) = true) (hy : ∀ u, (execOp a.eval oi).run P u = .ok (.value v) u)
  (h : wpAnyZ P md ops Q S L n (listed.setIfInBounds i true) (a.put oi.dst v) w) : wpAnyZ P md ops Q S L (n + 1) listed a w :=
 wpAnyZ_firstAny hi (Region.noSelect_spec hs) hQ hiL n listed a w (Region.free_spec hi hf) (by simpa using hr) (.inl ⟨hwant, fun u _ => hy u⟩) (.inr hS) h
end
theorem quint_get {α : Type} (f : α → List Value) (hf : ∀ x, (f x).length = 5) {l : List α} {j : Nat} {u : Value} (h : (l.flatMap f)[j]? = some u) : ∃ k r x, l[k]? = some x ∧ r < 5 ∧ (f x)[r]? = some u ∧ j = k * 5 + r := by
 induction l generalizing j with
 | nil => simp at h
 | cons y l ih =>
  simp only [List.flatMap_cons] at h
  by_cases hj : j < 5
  ·rw [List.getElem?_append_left (by rw [hf]; exact hj)] at h
   exact ⟨0, j, y, rfl, hj, h, by omega⟩
  ·rw [List.getElem?_append_right (by rw [hf]; omega), hf] at h
   obtain ⟨k, r, x, h1, h2, h3, h4⟩ := ih h
   exact ⟨k + 1, r, x, by simpa using h1, h2, h3, by omega⟩
theorem steps_oneCell (l : List StepT) : ∀ u ∈ l.flatMap cellsStep, u.oneCell' = true := by
 intro u hu
 obtain ⟨x, _, hx⟩ := List.mem_flatMap.1 hu
 simp [cellsStep] at hx
 rcases hx with rfl | rfl | rfl | rfl | rfl <;> rfl
theorem steps_src {W : World} {ao : Option Addr} {n : Nat} {l : List StepT} (h : StepsAt W ao n l) : ∀ j u, (l.flatMap cellsStep)[j]? = some u → ∃ b off, ao = some ⟨b, off, none⟩ ∧ W.cell? ⟨b, off + j, none⟩ = some u := by
 intro j u hu
 obtain ⟨k, r, x, h1, h2, h3, rfl⟩ := quint_get cellsStep (fun _ => rfl) hu
 obtain ⟨b, off, y, hb, _, hy, hc0, hc1, hc2, hc3, hc4⟩ := h.2 k (by have := lt_of_getElem? h1; rw [h.1] at this; exact this)
 rw [h1] at hy
 obtain rfl := Option.some.inj hy
 refine ⟨b, off, hb, ?_⟩
 obtain rfl | rfl | rfl | rfl | rfl : r = 0 ∨ r = 1 ∨ r = 2 ∨ r = 3 ∨ r = 4 := by omega
 ·simp [cellsStep] at h3; rw [← h3]; exact hc0
 ·simp [cellsStep] at h3; rw [← h3]; exact hc1
 ·simp [cellsStep] at h3; rw [← h3]; exact hc2
 ·simp [cellsStep] at h3; rw [← h3]; exact hc3
 ·simp [cellsStep] at h3; rw [← h3]; exact hc4
theorem flat5 (l : List StepT) : (l.flatMap cellsStep).length = l.length * 5 := by
 induction l with
 | nil => rfl
 | cons x l ih => rw [List.flatMap_cons, List.length_append, ih, List.length_cons, cellsStep_length]; omega
theorem appStepsAt {w : World} {ops : Array Oper} {rest : List Oper} {o : Oper} {a : Act} {Q : Exit → Act → World → Prop} (hg : o.guard = none) (s x : Operand)
  (ho : o.op = .call { callee := .builtin .append, args := #[s, x], argTypes := #[45, 45] }) {base : Nat} {v : Value} {l0 : List StepT} (hs : a.eval s = v) (hown : OwnSteps w base v l0)
  {ao : Option Addr} {n c : Nat} {l : List StepT} (hx : a.eval x = .slice ao n c) (hat : StepsAt w ao n l) (hl : l0.length + n < 1099511627776) (hbase : base ≤ w.heap.size)
  (hK : ∀ v' w', OwnSteps w' base v' (l0 ++ l) → Kept (fun k => some k = v.ownBlock) w w' → (v'.ownBlock = v.ownBlock ∨ ∀ b, v'.ownBlock = some b → w.heap.size ≤ b) → wpList Tryz.prog ops Q rest (a.put o.dst v') w') :
  wpList Tryz.prog ops Q (o :: rest) a w := by
 obtain ⟨i0, hi, hz0, hz1, hz2⟩ := info_parts infoStep
 refine wpList_append_whole _ hg s x 45 ho base 57 i0 _ 5 40 Tryz.underlying45 hi hz0 hz1 hz2 rfl (by decide) v l0.length (l0.flatMap cellsStep) hs hown ao n c (l.flatMap cellsStep) hx (by rw [flat5, hat.1]) (steps_src hat) (steps_oneCell _) (by unfold maxLen; omega) (by omega) hbase ?_
 intro v' w' h1 h2 h3
 refine hK v' w' ?_ (Kept.of_grown h2) ?_
 ·unfold OwnSteps
  rw [List.length_append, List.flatMap_append, hat.1]
  exact h1
 ·rcases h3 with h3 | h3
  ·exact .inl h3
  ·right
   intro b hb
   rw [h3] at hb
   simp at hb
   omega
theorem stepStepsX {w : World} {ops : Array Oper} {o : Oper} {a : Act} {K : Act → World → Prop} {Q : Exit → Act → World → Prop} {E : Prop} (hg : o.guard = none) (s x : Operand)
  (ho : o.op = .call { callee := .builtin .append, args := #[s, x], argTypes := #[45, 45] }) {base : Nat} {v : Value} {l0 : List StepT} (hs : a.eval s = v) (hown : OwnSteps w base v l0)
  {ao : Option Addr} {n c : Nat} {l : List StepT} (hx : a.eval x = .slice ao n c) (hat : StepsAt w ao n l) (hl : l0.length + n < 1099511627776) (hbase : base ≤ w.heap.size)
  (hK : ∀ v' w', OwnSteps w' base v' (l0 ++ l) → Kept (fun k => some k = v.ownBlock) w w' → (v'.ownBlock = v.ownBlock ∨ ∀ b, v'.ownBlock = some b → w.heap.size ≤ b) → K (a.put o.dst v') w') :
  if Region.wanted o (yielded ops a.tmps) = true then Oper.wp Tryz.prog o a w K Q else E := by
 obtain ⟨i0, hi, hz0, hz1, hz2⟩ := info_parts infoStep
 refine step_append_whole _ hg s x 45 ho base 57 i0 _ 5 40 Tryz.underlying45 hi hz0 hz1 hz2 rfl (by decide) v l0.length (l0.flatMap cellsStep) hs hown ao n c (l.flatMap cellsStep) hx (by rw [flat5, hat.1]) (steps_src hat) (steps_oneCell _) (by unfold maxLen; omega) (by omega) hbase ?_
 intro v' w' h1 h2 h3
 refine hK v' w' ?_ (Kept.of_grown h2) ?_
 ·unfold OwnSteps
  rw [List.length_append, List.flatMap_append, hat.1]
  exact h1
 ·rcases h3 with h3 | h3
  ·exact .inl h3
  ·right
   intro b hb
   rw [h3] at hb
   simp at hb
   omega
theorem OwnSteps.below {W W' : World} {base : Nat} {v : Value} {l : List StepT} (h : OwnSteps W base v l) (hb : Below W.heap.size W W') : OwnSteps W' base v l := Below.ownsRow hb h
theorem OwnSteps.low {W : World} {base base' : Nat} {v : Value} {l : List StepT} (h : OwnSteps W base v l) (hb : base' ≤ base) : OwnSteps W base' v l := ownsRow_base h hb
theorem OwnSteps.made (W : World) (base : Nat) (h : base ≤ W.heap.size) : OwnSteps (W.alloc (.cells #[] 57)) base (.slice (some ⟨W.heap.size, 0, none⟩) 0 0) [] :=
 World.ownsRow_made W #[] 0 h (Nat.zero_le _) rfl
theorem OwnSteps.one (w : World) (base : Nat) (hb : base ≤ w.heap.size) (x1 x2 x3 x4 x5 : Int) : OwnSteps (w.alloc (.cells #[.int .i64 x1, .int .i64 x2, .int .i64 x3, .int .i64 x4, .int .i64 x5] 57)) base (.slice (some ⟨w.heap.size, 0, none⟩) 1 1) [(x1, x2, x3, x4, x5)] :=
 ⟨by simp [cellsStep], .inr ⟨w.heap.size, 1, _, rfl, hb, heap_alloc_new w _, Nat.le_refl _, by unfold maxLen; omega, by simp, by simp [cellsStep]⟩⟩
end Go.Proofs.YtfbmpkdjhhcnpaaGreat

namespace Go.Proofs
open Go.Shelf
def Tryz.revSteps_ren : Go.Shelf.Ren := ⟨fun | 35 => 77 | n => n, fun | 22 => 45 | 23 => 57 | 3 => 3 | 4 => 4 | 0 => 0 | n => n, fun | n => n⟩
theorem Tryz.revSteps : Go.Proofs.SlLaysE0.n35 Tryz.prog Tryz.revSteps_ren := {
 mixed := by kernel_rfl
 f35 := ⟨Tryz.f77.name, by decide, Tryz.func77.trans (congrArg some (by kernel_rfl))⟩
 t0 := Tryz.underlying0
 a0 := Tryz.isAgg0
 z0 := Tryz.sizeOf0
 v0 := Tryz.zeroValue0
 t3 := Tryz.underlying3
 a3 := Tryz.isAgg3
 z3 := Tryz.sizeOf3
 v3 := Tryz.zeroValue3
 t4 := Tryz.underlying4
 a4 := Tryz.isAgg4
 z4 := Tryz.sizeOf4
 v4 := Tryz.zeroValue4
 t22 := Tryz.underlying45
 a22 := Tryz.isAgg45
 z22 := Tryz.sizeOf45
 v22 := Tryz.zeroValue45 }
end Go.Proofs

namespace Go.Proofs.YtfbmpkdjhhcnpaaGreat
open Go.RowKit
set_option maxRecDepth 100000
set_option linter.unusedVariables false
set_option linter.unusedSimpArgs false
theorem flatK_steps (l : List StepT) : (Go.Sort.flatK cellsStep 5 l.toArray).toList = l.flatMap cellsStep := by
 apply List.ext_getElem?
 intro j
 by_cases hj : j < l.length * 5
 ·have e1 : ∀ (l : List StepT) (j : Nat), j < l.length * 5 → (l.flatMap cellsStep)[j]? = some (cellsStep (l[j / 5]!))[j % 5]! := by
   intro l
   induction l with
   | nil => intro j h; simp at h
   | cons y t ih =>
    intro j h
    rw [List.flatMap_cons]
    by_cases h2 : j < 5
    ·rw [List.getElem?_append_left (by simpa [cellsStep] using h2)]
     obtain rfl | rfl | rfl | rfl | rfl : j = 0 ∨ j = 1 ∨ j = 2 ∨ j = 3 ∨ j = 4 := by omega
     all_goals rfl
    ·rw [List.getElem?_append_right (by simp [cellsStep]; omega)]
     have e2 : (cellsStep y).length = 5 := rfl
     have e3 : j / 5 = (j - 5) / 5 + 1 := by omega
     have e4 : j % 5 = (j - 5) % 5 := by omega
     rw [e2, ih (j - 5) (by simp at h; omega), e3, e4]
     rfl
  rw [e1 l j hj, Array.getElem?_toList]
  have e5 := Go.Sort.get_flatK cellsStep 5 l.toArray j (by simpa using hj)
  have e6 : j < (Go.Sort.flatK cellsStep 5 l.toArray).size := by simpa using hj
  rw [getElem!_pos (Go.Sort.flatK cellsStep 5 l.toArray) j e6] at e5
  rw [Array.getElem?_eq_getElem e6, e5]
  simp
 ·rw [List.getElem?_eq_none (by simp; omega), List.getElem?_eq_none (by rw [flat5]; omega)]
theorem heapV_put {w : World} {g n : Nat} {cur : Array Value} {e : TypeId} {fr : Nat × Nat} (d : Array Value) (hb : w.heap[g]? = some (.cells cur e fr)) :
  (Go.Sort.putRow id (Go.Sort.ahead w n) g 0 d).heap[g]? = some (.cells (Go.Sort.putCells id 0 d cur) e fr) := by
 simp [Go.Sort.putRow, Go.Sort.mapBlock, Go.Sort.ahead, Array.getElem?_modify, hb, Go.Sort.onCells]
theorem keptV_put {w : World} {g n : Nat} (d : Array Value) : Kept (fun k => k = g) w (Go.Sort.putRow id (Go.Sort.ahead w n) g 0 d) := by
 refine ⟨rfl, rfl, rfl, by simp, fun k hk hne => ?_⟩
 have : g ≠ k := fun e => hne e.symm
 simp [Go.Sort.putRow, Go.Sort.mapBlock, Go.Sort.ahead, Array.getElem?_modify, this]
theorem reverse_own (W : World) (base : Nat) (v : Value) (l : List StepT) (h : OwnSteps W base v l) (hn : l.length ≤ 1099511627776) :
  Calls Tryz.prog 77 #[v] W fun e w' => e = .returned (.tuple #[]) ∧ OwnSteps w' base v l.reverse ∧ Kept (fun k => some k = v.ownBlock) W w' := by
 by_cases h0 : l.length = 0
 ·have hF : l = [] := List.eq_nil_of_length_eq_zero h0
  subst hF
  obtain ⟨a, cap, rfl, _⟩ := h.form
  refine (AnyQ.slices_Reverse_empty Tryz.revSteps a cap W).mono ?_
  rintro e w' ⟨rfl, rfl⟩
  exact ⟨rfl, h, Kept.refl _ _⟩
 ·rcases h.2 with ⟨_, e0⟩ | ⟨g, cap, cur, rfl, hb, hg, hnc, hcm, hcs, htake⟩
  ·exact absurd e0 h0
  ·have hsz : (Go.Sort.flatK cellsStep 5 l.toArray).size = l.length * 5 := by simp
   have hH : Go.Sort.HoldsK cellsStep 5 W g 0 l.toArray := holdsV_of_block hg (by rw [hsz, flatK_steps]; simpa using htake)
   have hcon := AnyQ.slices_Reverse Tryz.revSteps 5 Tryz.isAgg57 Tryz.sizeOf57 cellsStep (fun _ => rfl) (fun x v hv => by simp [cellsStep] at hv; rcases hv with rfl | rfl | rfl | rfl | rfl <;> rfl) g 0 cap l.toArray W hH (by simp; omega)
   refine hcon.mono ?_
   rintro e w' ⟨rfl, n, rfl⟩
   have hs2 : (Go.Sort.flatK cellsStep 5 l.reverse.toArray).size = l.length * 5 := by simp
   refine ⟨rfl, ?_, (keptV_put _).mono fun k _ hk => by subst hk; rfl⟩
   unfold OwnSteps
   rw [List.length_reverse]
   refine ⟨by rw [flat5, List.length_reverse], .inr ⟨g, cap, _, rfl, hb, heapV_put _ hg, hnc, hcm, by simp [Go.Sort.putCells, hcs], ?_⟩⟩
   have h9 := takeV_putCells cur (Go.Sort.flatK cellsStep 5 l.reverse.toArray) (by rw [hs2, hcs]; exact Nat.mul_le_mul_right 5 hnc)
   rw [hs2, flatK_steps] at h9
   simpa using h9
def RetUndo (W : World) (p : Int) (r : Option (List BarT × StepT)) (e : Ending) (w' : World) : Prop :=
 ∃ p' a n c kd pt x y z b, e = .returned (.tuple #[.agg #[.int .i64 p', .slice a n c], .agg #[.int .i64 kd, .int .i64 pt, .int .i64 x, .int .i64 y, .int .i64 z], .bool b]) ∧ Below W.heap.size W w' ∧ (b = false → r = none) ∧
  (b = true → ∃ l' : List BarT, r = some (l', (kd, pt, x, y, z)) ∧ p' = p ∧ n = l'.length ∧ OwnBars w' W.heap.size (.slice a n c) l')
theorem RetUndo.yes {W w' : World} {p : Int} {r : Option (List BarT × StepT)} {a : Option Addr} {c : Nat} {l' : List BarT} {kd pt x y z : Int} (h : r = some (l', (kd, pt, x, y, z))) (ho : OwnBars w' W.heap.size (.slice a l'.length c) l') (hb : Below W.heap.size W w') :
  RetUndo W p r (.returned (.tuple #[.agg #[.int .i64 p, .slice a l'.length c], .agg #[.int .i64 kd, .int .i64 pt, .int .i64 x, .int .i64 y, .int .i64 z], .bool true])) w' :=
 ⟨p, a, l'.length, c, kd, pt, x, y, z, true, rfl, hb, fun h => absurd h (by simp), fun _ => ⟨l', h, rfl, rfl, ho⟩⟩
theorem RetUndo.no {W w' : World} {p p' : Int} {r : Option (List BarT × StepT)} {a : Option Addr} {n c : Nat} {kd pt x y z : Int} (h : r = none) (hb : Below W.heap.size W w') :
  RetUndo W p r (.returned (.tuple #[.agg #[.int .i64 p', .slice a n c], .agg #[.int .i64 kd, .int .i64 pt, .int .i64 x, .int .i64 y, .int .i64 z], .bool false])) w' :=
 ⟨p', a, n, c, kd, pt, x, y, z, false, rfl, hb, fun _ => h, fun h => absurd h (by simp)⟩
def ZSt (w : World) (g : Nat) : Prop := (∃ a b c d f, BoxSt w g a b c d f) ∧ (w.frozen? ⟨g, 0, none⟩ = false ∧ w.frozen? ⟨g, 1, none⟩ = false ∧ w.frozen? ⟨g, 2, none⟩ = false ∧ w.frozen? ⟨g, 3, none⟩ = false ∧ w.frozen? ⟨g, 4, none⟩ = false)
theorem ZSt.at (w : World) : ZSt (w.alloc (.cells #[.int .i64 0, .int .i64 0, .int .i64 0, .int .i64 0, .int .i64 0] 57)) w.heap.size :=
 ⟨⟨0, 0, 0, 0, 0, BoxSt.at rfl⟩, by simp [World.frozen?_alloc_new], by simp [World.frozen?_alloc_new], by simp [World.frozen?_alloc_new], by simp [World.frozen?_alloc_new], by simp [World.frozen?_alloc_new]⟩
theorem ZSt.below {w w' : World} {g : Nat} (h : ZSt w g) (hb : Below w.heap.size w w') : ZSt w' g := by
 obtain ⟨⟨a, b, c, d, f, hx⟩, f0, f1, f2, f3, f4⟩ := h
 exact ⟨⟨a, b, c, d, f, hx.below hb⟩, ((bcell hb).2 _ _ hx.1).trans f0, ((bcell hb).2 _ _ hx.1).trans f1, ((bcell hb).2 _ _ hx.1).trans f2, ((bcell hb).2 _ _ hx.1).trans f3, ((bcell hb).2 _ _ hx.1).trans f4⟩
theorem ZSt.kept {S : Nat → Prop} {w w' : World} {g : Nat} (h : ZSt w g) (hk : Kept S w w') (hs : ¬ S g) : ZSt w' g := by
 obtain ⟨⟨a, b, c, d, f, hx⟩, f0, f1, f2, f3, f4⟩ := h
 exact ⟨⟨a, b, c, d, f, hx.kept hk hs⟩, (hk.frozen hx.1 hs).trans f0, (hk.frozen hx.1 hs).trans f1, (hk.frozen hx.1 hs).trans f2, (hk.frozen hx.1 hs).trans f3, (hk.frozen hx.1 hs).trans f4⟩
theorem Kept.trans' {S T : Nat → Prop} {w w' w2 : World} (h : Kept S w w') (h2 : Kept T w' w2) : Kept (fun b => S b ∨ T b) w w2 := (h.mono fun k _ h => .inl h).trans (h2.mono fun k _ h => .inr h)
structure UndS (W w : World) (p : Int) (a : Option Addr) (n cap : Nat) : Prop where
 b : Below W.heap.size W w
 bg : BoxGr w W.heap.size p a n cap
 rz : Zer2 w (W.heap.size + 1)
 zs : ZSt w (W.heap.size + 1 + 1)
 sz : W.heap.size + 3 ≤ w.heap.size
theorem UndS.below {W w w' : World} {p : Int} {a : Option Addr} {n cap : Nat} (h : UndS W w p a n cap) (hb : Below w.heap.size w w') : UndS W w' p a n cap :=
 ⟨h.b.step hb, h.bg.below hb, h.rz.below hb, h.zs.below hb, Nat.le_trans h.sz hb.size⟩
theorem UndS.start (W : World) (p : Int) (a : Option Addr) (cap : Nat) (l : List BarT) (h : BarsAt W a l.length l) (hs : l.length ≤ 1048576) : UndS W (((W.alloc (.cells #[.int .i64 p, .slice a l.length cap] 26)).alloc (.cells #[.int .i64 0, .slice none 0 0] 26)).alloc (.cells #[.int .i64 0, .int .i64 0, .int .i64 0, .int .i64 0, .int .i64 0] 57)) p a l.length cap := by
 have b1 := belAl (W.alloc (.cells #[.int .i64 p, .slice a l.length cap] 26)) (.cells #[.int .i64 0, .slice none 0 0] 26)
 have b2 := belAl ((W.alloc (.cells #[.int .i64 p, .slice a l.length cap] 26)).alloc (.cells #[.int .i64 0, .slice none 0 0] 26)) (.cells #[.int .i64 0, .int .i64 0, .int .i64 0, .int .i64 0, .int .i64 0] 57)
 have B : Below W.heap.size W (W.alloc (.cells #[.int .i64 p, .slice a l.length cap] 26)) := (Below.refl _ _).alloc (Nat.le_refl _) _
 have BG : BoxGr (W.alloc (.cells #[.int .i64 p, .slice a l.length cap] 26)) W.heap.size p a l.length cap := BoxGr.at rfl
 have hr := Zer2.at (W.alloc (.cells #[.int .i64 p, .slice a l.length cap] 26)) 26
 have hz := ZSt.at ((W.alloc (.cells #[.int .i64 p, .slice a l.length cap] 26)).alloc (.cells #[.int .i64 0, .slice none 0 0] 26))
 rw [World.size_alloc] at hr
 have e2 : ((W.alloc (.cells #[.int .i64 p, .slice a l.length cap] 26)).alloc (.cells #[.int .i64 0, .slice none 0 0] 26)).heap.size = W.heap.size + 2 := by simp
 rw [e2] at hz
 exact ⟨B.step (b1.step b2), BG.below (b1.step b2), hr.below b2, hz, by simp⟩
theorem putSt {w : World} {g : Nat} {kd pt x y z : Int} (h : ZSt w g) : BoxSt (((((w.setCell ⟨g, 0, none⟩ (.int .i64 kd)).setCell ⟨g, 1, none⟩ (.int .i64 pt)).setCell ⟨g, 2, none⟩ (.int .i64 x)).setCell ⟨g, 3, none⟩ (.int .i64 y)).setCell ⟨g, 4, none⟩ (.int .i64 z)) g kd pt x y z := by
 obtain ⟨⟨a, b, c, d, f, hz, h0, h1, h2, h3, h4⟩, f0, f1, f2, f3, f4⟩ := h
 refine ⟨by simpa using hz, ?_, ?_, ?_, ?_, ?_⟩ <;> simp [go_sem, h0, h1, h2, h3, h4, hz]
theorem UndS.fin0 {W w : World} {p : Int} {a : Option Addr} {n cap : Nat} (U : UndS W w p a n cap) {p' : Int} {ad : Option Addr} {n' cd : Nat} (kd pt x y z : Int) :
  ∀ w9, w9 = ((((((w.setCell ⟨W.heap.size + 1, 0, none⟩ (.int .i64 p')).setCell ⟨W.heap.size + 1, 1, none⟩ (.slice ad n' cd)).setCell ⟨W.heap.size + 1 + 1, 0, none⟩ (.int .i64 kd)).setCell ⟨W.heap.size + 1 + 1, 1, none⟩ (.int .i64 pt)).setCell ⟨W.heap.size + 1 + 1, 2, none⟩ (.int .i64 x)).setCell ⟨W.heap.size + 1 + 1, 3, none⟩ (.int .i64 y)).setCell ⟨W.heap.size + 1 + 1, 4, none⟩ (.int .i64 z) →
   BoxGr w9 (W.heap.size + 1) p' ad n' cd ∧ BoxSt w9 (W.heap.size + 1 + 1) kd pt x y z ∧ Below W.heap.size W w9 := by
 rintro w9 rfl
 have k2 : Kept (fun b => b = W.heap.size + 1) w ((w.setCell ⟨W.heap.size + 1, 0, none⟩ (.int .i64 p')).setCell ⟨W.heap.size + 1, 1, none⟩ (.slice ad n' cd)) := (keptSet' (S := fun b => b = W.heap.size + 1) rfl).trans (keptSet' (S := fun b => b = W.heap.size + 1) rfl)
 have h1 := boxS2 (p := p') (ab := ad) (n := n') (cb := cd) U.rz
 have hz : ZSt ((w.setCell ⟨W.heap.size + 1, 0, none⟩ (.int .i64 p')).setCell ⟨W.heap.size + 1, 1, none⟩ (.slice ad n' cd)) (W.heap.size + 1 + 1) := U.zs.kept k2 (by omega)
 have k5 : ∀ w2 : World, Kept (fun b => b = W.heap.size + 1 + 1) w2 (((((w2.setCell ⟨W.heap.size + 1 + 1, 0, none⟩ (.int .i64 kd)).setCell ⟨W.heap.size + 1 + 1, 1, none⟩ (.int .i64 pt)).setCell ⟨W.heap.size + 1 + 1, 2, none⟩ (.int .i64 x)).setCell ⟨W.heap.size + 1 + 1, 3, none⟩ (.int .i64 y)).setCell ⟨W.heap.size + 1 + 1, 4, none⟩ (.int .i64 z)) := fun w2 => ((((keptSet' (S := fun b => b = W.heap.size + 1 + 1) rfl).trans (keptSet' (S := fun b => b = W.heap.size + 1 + 1) rfl)).trans (keptSet' (S := fun b => b = W.heap.size + 1 + 1) rfl)).trans (keptSet' (S := fun b => b = W.heap.size + 1 + 1) rfl)).trans (keptSet' (S := fun b => b = W.heap.size + 1 + 1) rfl)
 refine ⟨h1.kept (k5 _) (by omega), putSt hz, ?_⟩
 exact U.b.trans ((k2.trans' (k5 _)).below U.b.size fun k hk h => by omega)
theorem UndS.fin {W w : World} {p : Int} {a : Option Addr} {n cap : Nat} (U : UndS W w p a n cap) {base : Nat} (hb : W.heap.size + 3 ≤ base) {p' : Int} {ad : Option Addr} {cd : Nat} {l' : List BarT} (ob : OwnBars w base (.slice ad l'.length cd) l') (kd pt x y z : Int) :
  ∀ w9, w9 = ((((((w.setCell ⟨W.heap.size + 1, 0, none⟩ (.int .i64 p')).setCell ⟨W.heap.size + 1, 1, none⟩ (.slice ad l'.length cd)).setCell ⟨W.heap.size + 1 + 1, 0, none⟩ (.int .i64 kd)).setCell ⟨W.heap.size + 1 + 1, 1, none⟩ (.int .i64 pt)).setCell ⟨W.heap.size + 1 + 1, 2, none⟩ (.int .i64 x)).setCell ⟨W.heap.size + 1 + 1, 3, none⟩ (.int .i64 y)).setCell ⟨W.heap.size + 1 + 1, 4, none⟩ (.int .i64 z) →
   BoxGr w9 (W.heap.size + 1) p' ad l'.length cd ∧ BoxSt w9 (W.heap.size + 1 + 1) kd pt x y z ∧ OwnBars w9 W.heap.size (.slice ad l'.length cd) l' ∧ Below W.heap.size W w9 := by
 rintro w9 rfl
 have k2 : Kept (fun b => b = W.heap.size + 1) w ((w.setCell ⟨W.heap.size + 1, 0, none⟩ (.int .i64 p')).setCell ⟨W.heap.size + 1, 1, none⟩ (.slice ad l'.length cd)) := (keptSet' (S := fun b => b = W.heap.size + 1) rfl).trans (keptSet' (S := fun b => b = W.heap.size + 1) rfl)
 have h1 := boxS2 (p := p') (ab := ad) (n := l'.length) (cb := cd) U.rz
 have hz : ZSt ((w.setCell ⟨W.heap.size + 1, 0, none⟩ (.int .i64 p')).setCell ⟨W.heap.size + 1, 1, none⟩ (.slice ad l'.length cd)) (W.heap.size + 1 + 1) := U.zs.kept k2 (by omega)
 have k5 : ∀ w2 : World, Kept (fun b => b = W.heap.size + 1 + 1) w2 (((((w2.setCell ⟨W.heap.size + 1 + 1, 0, none⟩ (.int .i64 kd)).setCell ⟨W.heap.size + 1 + 1, 1, none⟩ (.int .i64 pt)).setCell ⟨W.heap.size + 1 + 1, 2, none⟩ (.int .i64 x)).setCell ⟨W.heap.size + 1 + 1, 3, none⟩ (.int .i64 y)).setCell ⟨W.heap.size + 1 + 1, 4, none⟩ (.int .i64 z)) := fun w2 => ((((keptSet' (S := fun b => b = W.heap.size + 1 + 1) rfl).trans (keptSet' (S := fun b => b = W.heap.size + 1 + 1) rfl)).trans (keptSet' (S := fun b => b = W.heap.size + 1 + 1) rfl)).trans (keptSet' (S := fun b => b = W.heap.size + 1 + 1) rfl)).trans (keptSet' (S := fun b => b = W.heap.size + 1 + 1) rfl)
 refine ⟨h1.kept (k5 _) (by omega), putSt hz, ?_, ?_⟩
 ·exact (((((((ob.set (by show W.heap.size + 1 < base; omega) _).set (by show W.heap.size + 1 < base; omega) _).set (by show W.heap.size + 1 + 1 < base; omega) _).set (by show W.heap.size + 1 + 1 < base; omega) _).set (by show W.heap.size + 1 + 1 < base; omega) _).set (by show W.heap.size + 1 + 1 < base; omega) _).set (by show W.heap.size + 1 + 1 < base; omega) _).low (by omega)
 ·exact U.b.trans ((k2.trans' (k5 _)).below U.b.size fun k hk h => by omega)
theorem ints3 {w : World} {a : Option Addr} {l : List Int} (h : IntsAt w a l.length l) (hl : l.length = 3) : ∃ b off, a = some ⟨b, off, none⟩ ∧ b < w.heap.size ∧ w.cell? ⟨b, off, none⟩ = some (.int .i64 (gI l 0)) ∧ w.cell? ⟨b, off + 1, none⟩ = some (.int .i64 (gI l 1)) ∧ w.cell? ⟨b, off + 2, none⟩ = some (.int .i64 (gI l 2)) := by
 obtain ⟨b, off, x, rfl, hb, hx, hc⟩ := h.2 0 (by omega)
 obtain ⟨b', off', x', e, hb', hx', hc'⟩ := h.2 1 (by omega)
 obtain ⟨b2, off2, x2, e2, hb2, hx2, hc2⟩ := h.2 2 (by omega)
 obtain ⟨rfl, rfl⟩ : b = b' ∧ off = off' := by simpa using e
 obtain ⟨rfl, rfl⟩ : b = b2 ∧ off = off2 := by simpa using e2
 exact ⟨b, off, rfl, hb, by unfold gI; rw [hx]; exact hc, by unfold gI; rw [hx']; exact hc', by unfold gI; rw [hx2]; exact hc2⟩
structure UndI (W w : World) (p : Int) (a : Option Addr) (n cap nb off : Nat) (x0 x1 x2 : Int) (g9 : Nat) (ad : Option Addr) (cd : Nat) (dl : List BarT) : Prop where
 us : UndS W w p a n cap
 nw : W.heap.size + 3 ≤ nb
 nz : nb < w.heap.size
 c0 : w.cell? ⟨nb, off, none⟩ = some (.int .i64 x0)
 c1 : w.cell? ⟨nb, off + 1, none⟩ = some (.int .i64 x1)
 c2 : w.cell? ⟨nb, off + 2, none⟩ = some (.int .i64 x2)
 bd : BoxGr w g9 p ad dl.length cd
 bi : BarsAt w ad dl.length dl
theorem UndI.below {W w w' : World} {p : Int} {a : Option Addr} {n cap nb off : Nat} {x0 x1 x2 : Int} {g9 : Nat} {ad : Option Addr} {cd : Nat} {dl : List BarT} (h : UndI W w p a n cap nb off x0 x1 x2 g9 ad cd dl) (hb : Below w.heap.size w w') : UndI W w' p a n cap nb off x0 x1 x2 g9 ad cd dl :=
 ⟨h.us.below hb, h.nw, Nat.lt_of_lt_of_le h.nz hb.size, (hb.cell (p := ⟨nb, off, none⟩) h.nz).trans h.c0, (hb.cell (p := ⟨nb, off + 1, none⟩) h.nz).trans h.c1, (hb.cell (p := ⟨nb, off + 2, none⟩) h.nz).trans h.c2, h.bd.below hb, h.bi.below hb⟩
theorem cs2 {w : World} {b g k : Nat} {v v' : Value} {x : Option Value} (h : w.cell? ⟨b, k, none⟩ = x) (hne : b ≠ g) : ((w.setCell ⟨g, 0, none⟩ v).setCell ⟨g, 1, none⟩ v').cell? ⟨b, k, none⟩ = x :=
 (World.cell?_setCell_other _ _ _ _ (by simp [hne])).trans ((World.cell?_setCell_other _ _ _ _ (by simp [hne])).trans h)
theorem ints2 {w : World} {a : Option Addr} {l : List Int} (h : IntsAt w a l.length l) (hl : l.length = 2) : ∃ b off, a = some ⟨b, off, none⟩ ∧ b < w.heap.size ∧ w.cell? ⟨b, off, none⟩ = some (.int .i64 (gI l 0)) ∧ w.cell? ⟨b, off + 1, none⟩ = some (.int .i64 (gI l 1)) := by
 obtain ⟨b, off, x, rfl, hb, hx, hc⟩ := h.2 0 (by omega)
 obtain ⟨b', off', x', e, hb', hx', hc'⟩ := h.2 1 (by omega)
 obtain ⟨rfl, rfl⟩ : b = b' ∧ off = off' := by simpa using e
 exact ⟨b, off, rfl, hb, by unfold gI; rw [hx]; exact hc, by unfold gI; rw [hx']; exact hc'⟩
end Go.Proofs.YtfbmpkdjhhcnpaaGreat

