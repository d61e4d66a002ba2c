/- OnlyBars of the program. No condition but sizes. -/
import Derived.Test.YtfbmpkdjhhcnpaaGreatSnP07
import Derived.Deep.RegionLaw
import Derived.Test.YtfbmpkdjhhcnpaaGreatSnP04
import Derived.Test.YtfbmpkdjhhcnpaaGreatSnP02
import Derived.Test.YtfbmpkdjhhcnpaaGreatSnP06
import Derived.Deep.RegionHeld3
import Derived.BigRegion
namespace Go.Proofs.YtfbmpkdjhhcnpaaGreat
open Go.RowKit
set_option maxRecDepth 100000
set_option linter.unusedVariables false
set_option linter.unusedSimpArgs false

theorem appBar1At {w : World} {ops : Array Oper} {rest : List Oper} {o : Oper} {a : Act} {Q : Exit → Act → World → Prop} (hg : o.guard = none) (s x : Operand)
  (ho : o.op = .call { callee := .builtin .append, args := #[s, x], argTypes := #[24, 24] }) {base : Nat} {v : Value} {l : List BarT} (hs : a.eval s = v) (hown : OwnBars w base v l) (y1 y2 : Int)
  (hx : a.eval x = .slice (some ⟨w.heap.size, 0, none⟩) 1 1) (hl : l.length < 1099511627776) (hbase : base ≤ w.heap.size)
  (hK : ∀ v' w', OwnBars w' base v' (l ++ [(y1, y2)]) → Kept (fun k => some k = v.ownBlock) w w' → (v'.ownBlock = v.ownBlock ∨ ∀ b, v'.ownBlock = some b → w.heap.size ≤ b) → wpList Tryz.prog ops Q rest (a.put o.dst v') w') :
  wpList Tryz.prog ops Q (o :: rest) a (w.alloc (.cells #[.int .i64 y1, .int .i64 y2] 70)) := by
 obtain ⟨i0, hi, hz0, hz1, hz2⟩ := info_parts infoBar
 refine wpList_append_whole _ hg s x 24 ho base 70 i0 _ 2 16 Tryz.underlying24 hi hz0 hz1 hz2 rfl (by decide) v l.length (l.flatMap cellsBar) hs (World.ownsRow.alloc hown _) (some ⟨w.heap.size, 0, none⟩) 1 1 [.int .i64 y1, .int .i64 y2] hx rfl ?_ (by intro u hu; simp at hu; rcases hu with rfl | rfl <;> rfl) (by unfold maxLen; omega) (by omega) (by simp; omega) ?_
 ·intro j u hu
  have hj : j < 2 := by have := lt_of_getElem? hu; simpa using this
  obtain rfl | rfl : j = 0 ∨ j = 1 := by omega
  ·simp at hu; subst hu; exact ⟨w.heap.size, 0, rfl, by simp [World.cell?_alloc_new]⟩
  ·simp at hu; subst hu; exact ⟨w.heap.size, 0, rfl, by simp [World.cell?_alloc_new]⟩
 ·intro v' w' h1 h2 h3
  refine hK v' w' (by unfold OwnBars; simpa [cellsBar] using h1) ((Kept.of_below ((Below.refl _ _).alloc (Nat.le_refl _) _)).trans ⟨h2.os, h2.tape, h2.output, h2.size, fun k hk hs => h2.block k hk hs⟩) ?_
  rcases h3 with h3 | h3
  ·exact .inl h3
  ·right
   intro b hb
   rw [h3] at hb
   simp at hb
   omega
theorem keptSet' {S : Nat → Prop} {W : World} {b j : Nat} {x : Value} (hS : S b) : Kept S W (W.setCell ⟨b, j, none⟩ x) :=
 ⟨rfl, rfl, rfl, by simp, fun k hk hs => by
  have : k ≠ b := fun e => hs (e ▸ hS)
  simp [World.setCell, Array.getElem?_modify, Ne.symm this]⟩
def Zer2 (w : World) (g : Nat) : Prop := (∃ a b c, w.cell? ⟨g, 0, none⟩ = some (.int .i64 a) ∧ w.cell? ⟨g, 1, none⟩ = some (.slice none b c)) ∧ (w.frozen? ⟨g, 0, none⟩ = false ∧ w.frozen? ⟨g, 1, none⟩ = false) ∧ g < w.heap.size
theorem Zer2.at (w : World) (ty : TypeId) : Zer2 (w.alloc (.cells #[.int .i64 0, .slice none 0 0] ty)) w.heap.size :=
 ⟨⟨0, 0, 0, by simp [World.cell?_alloc_new], by simp [World.cell?_alloc_new]⟩, ⟨by simp [World.frozen?_alloc_new], by simp [World.frozen?_alloc_new]⟩, by simp⟩
theorem Zer2.kept {S : Nat → Prop} {w w' : World} {g : Nat} (h : Zer2 w g) (hk : Kept S w w') (hs : ¬ S g) : Zer2 w' g := by
 obtain ⟨⟨a, b, c, c0, c1⟩, ⟨f0, f1⟩, hz⟩ := h
 exact ⟨⟨a, b, c, (hk.cell hz hs).trans c0, (hk.cell hz hs).trans c1⟩, ⟨(hk.frozen hz hs).trans f0, (hk.frozen hz hs).trans f1⟩, Nat.lt_of_lt_of_le hz hk.size⟩
theorem Zer2.below {w w' : World} {g : Nat} (h : Zer2 w g) (hb : Below w.heap.size w w') : Zer2 w' g := h.kept (Kept.of_below (S := fun _ => False) hb) id
theorem laid2 {W w : World} {p : Int} {ab : Option Addr} {cb lo g : Nat} {l : List BarT} (hb : OwnBars w lo (.slice ab l.length cb) l) (hg : W.heap.size ≤ g) (hgl : g < lo) (hlo : W.heap.size ≤ lo) (hbe : Below W.heap.size W w) :
  OwnGraph ((w.setCell ⟨g, 0, none⟩ (.int .i64 p)).setCell ⟨g, 1, none⟩ (.slice ab l.length cb)) W.heap.size (.agg #[.int .i64 p, .slice ab l.length cb]) (p, l)
  ∧ Below W.heap.size W ((w.setCell ⟨g, 0, none⟩ (.int .i64 p)).setCell ⟨g, 1, none⟩ (.slice ab l.length cb)) :=
 ⟨⟨.slice ab l.length cb, ⟨ab, cb, rfl, rfl⟩, ownsRow_base ((hb.set (by simp; omega) _).set (by simp; omega) _) hlo⟩, (hbe.setCell (by simp; omega) _).setCell (by simp; omega) _⟩


def aft (x y : BarT) : Bool := barLe x y
def putL : List BarT → BarT → List BarT
 | [], x => [x]
 | y :: t, x => if aft y x = true then y :: putL t x else x :: y :: t
theorem mem_putL {l : List BarT} {x z : BarT} : z ∈ putL l x ↔ z = x ∨ z ∈ l := by
 induction l with
 | nil => simp [putL]
 | cons y t ih =>
  unfold putL
  split
  ·rw [List.mem_cons, ih, List.mem_cons]
   constructor
   ·rintro (h | h | h)
    ·exact .inr (.inl h)
    ·exact .inl h
    ·exact .inr (.inr h)
   ·rintro (h | h | h)
    ·exact .inr (.inl h)
    ·exact .inl h
    ·exact .inr (.inr h)
  ·rw [List.mem_cons]
theorem putL_length (l : List BarT) (x : BarT) : (putL l x).length = l.length + 1 := by
 induction l with
 | nil => rfl
 | cons y t ih => unfold putL; split <;> simp [ih]
theorem putL_all {l : List BarT} {x : BarT} (h : ∀ y ∈ l, aft y x = true) : putL l x = l ++ [x] := by
 induction l with
 | nil => rfl
 | cons y t ih => unfold putL; rw [if_pos (h y (by simp)), ih fun z hz => h z (by simp [hz])]; rfl
theorem putL_snoc {l : List BarT} {x z : BarT} (h : ∃ y ∈ l, ¬ aft y x = true) : putL (l ++ [z]) x = putL l x ++ [z] := by
 induction l with
 | nil => obtain ⟨y, hy, _⟩ := h; simp at hy
 | cons y t ih =>
  rw [List.cons_append]
  unfold putL
  by_cases e : aft y x = true
  ·rw [if_pos e, if_pos e, List.cons_append, ih]
   obtain ⟨w, hw, hn⟩ := h
   rcases List.mem_cons.1 hw with rfl | hw
   ·exact absurd e hn
   ·exact ⟨w, hw, hn⟩
  ·rw [if_neg e, if_neg e]; rfl
theorem putL_first {l : List BarT} {x z : BarT} (h : ∀ y ∈ l, aft y x = true) (hz : ¬ aft z x = true) : putL (l ++ [z]) x = l ++ [x, z] := by
 induction l with
 | nil => show (if aft z x = true then _ else _) = _; rw [if_neg hz]; rfl
 | cons y t ih => rw [List.cons_append]; unfold putL; rw [if_pos (h y (by simp)), ih fun w hw => h w (by simp [hw])]; rfl
def PutR (l : List BarT) (x : BarT) (i : Nat) (pl : Bool) (out : List BarT) : Prop :=
 (pl = false → out = l.take i ∧ ∀ y ∈ l.take i, aft y x = true) ∧ (pl = true → out = putL (l.take i) x ∧ ∃ y ∈ l.take i, ¬ aft y x = true)
theorem PutR.len {l : List BarT} {x : BarT} {i : Nat} {pl : Bool} {out : List BarT} (h : PutR l x i pl out) : out.length ≤ l.length + 1 := by
 cases pl
 ·rw [(h.1 rfl).1, List.length_take]; omega
 ·rw [(h.2 rfl).1, putL_length, List.length_take]; omega
theorem PutR.go {l : List BarT} {x z : BarT} {i : Nat} {out : List BarT} (h : PutR l x i true out) (hz : l[i]? = some z) : PutR l x (i + 1) true (out ++ [z]) := by
 obtain ⟨h1, y, hy, hn⟩ := h.2 rfl
 refine ⟨fun e => (by cases e), fun _ => ⟨?_, y, ?_, hn⟩⟩
 ·rw [take_succ_of hz, h1, putL_snoc ⟨y, hy, hn⟩]
 ·rw [take_succ_of hz]; simp [hy]
theorem PutR.stay {l : List BarT} {x z : BarT} {i : Nat} {out : List BarT} (h : PutR l x i false out) (hz : l[i]? = some z) (ha : aft z x = true) : PutR l x (i + 1) false (out ++ [z]) := by
 obtain ⟨h1, h2⟩ := h.1 rfl
 refine ⟨fun _ => ⟨?_, ?_⟩, fun e => (by cases e)⟩
 ·rw [take_succ_of hz, h1]
 ·rw [take_succ_of hz]
  intro y hy
  rcases List.mem_append.1 hy with hy | hy
  ·exact h2 y hy
  ·simp at hy; rw [hy]; exact ha
theorem PutR.here {l : List BarT} {x z : BarT} {i : Nat} {out : List BarT} (h : PutR l x i false out) (hz : l[i]? = some z) (ha : ¬ aft z x = true) : PutR l x (i + 1) true ((out ++ [x]) ++ [z]) := by
 obtain ⟨h1, h2⟩ := h.1 rfl
 refine ⟨fun e => (by cases e), fun _ => ⟨?_, z, ?_, ha⟩⟩
 ·rw [take_succ_of hz, h1, putL_first h2 ha, List.append_assoc]; rfl
 ·rw [take_succ_of hz]; simp

theorem stepBarX {w : World} {ops : Array Oper} {o : Oper} {a : Act} {K : Act → World → Prop} {Q : Exit → Act → World → Prop} {E : Prop} (hg : o.guard = none) (s x : Operand)
  (ho : o.op = .call { callee := .builtin .append, args := #[s, x], argTypes := #[24, 24] }) {base : Nat} {v : Value} {l : List BarT} (hs : a.eval s = v) (hown : OwnBars w base v l)
  (y1 y2 : Int) (g : Nat) (hx : a.eval x = .slice (some ⟨g, 0, none⟩) 1 1) (hc0 : w.cell? ⟨g, 0, none⟩ = some (.int .i64 y1)) (hc1 : w.cell? ⟨g, 1, none⟩ = some (.int .i64 y2)) (hl : l.length < 1099511627776) (hbase : base ≤ w.heap.size)
  (hK : ∀ v' w', OwnBars w' base v' (l ++ [(y1, y2)]) → Kept (fun k => some k = v.ownBlock) w w' → (v'.ownBlock = v.ownBlock ∨ v'.ownBlock = some w.heap.size) → K (a.put o.dst v') w') :
  if Region.wanted o (yielded ops a.tmps) = true then Oper.wp Tryz.prog o a w K Q else E := by
 obtain ⟨i0, hi, hz0, hz1, hz2⟩ := info_parts infoBar
 refine step_append_whole _ hg s x 24 ho base 70 i0 _ 2 16 Tryz.underlying24 hi hz0 hz1 hz2 rfl (by decide) v l.length (l.flatMap cellsBar) hs hown (some ⟨g, 0, none⟩) 1 1 [.int .i64 y1, .int .i64 y2] hx rfl ?_ (by intro u hu; simp at hu; rcases hu with rfl | rfl <;> rfl) (by unfold maxLen; omega) (by omega) hbase ?_
 ·intro j u hu
  have hj : j < 2 := by have := lt_of_getElem? hu; simpa using this
  obtain rfl | rfl : j = 0 ∨ j = 1 := by omega
  ·simp at hu; subst hu; exact ⟨g, 0, rfl, hc0⟩
  ·simp at hu; subst hu; exact ⟨g, 0, rfl, hc1⟩
 ·intro v' w' h1 h2 h3
  refine hK v' w' ?_ (Kept.of_grown h2) h3
  unfold OwnBars
  simpa [cellsBar] using h1

structure OutG (base : Nat) (w : World) (gb : Nat) (p : Int) (vb : Value) (l : List BarT) : Prop where
 c0 : w.cell? ⟨gb, 0, none⟩ = some (.int .i64 p)
 c1 : w.cell? ⟨gb, 1, none⟩ = some vb
 f1 : w.frozen? ⟨gb, 1, none⟩ = false
 ob : OwnBars w base vb l
 ne : vb.ownBlock ≠ some gb
 lo : base ≤ gb
 hi : gb < w.heap.size
theorem OutG.below {base gb : Nat} {w w' : World} {p : Int} {vb : Value} {l : List BarT} (h : OutG base w gb p vb l) (hb : Below w.heap.size w w') : OutG base w' gb p vb l :=
 ⟨((bcell hb).1 _ _ h.hi).trans h.c0, ((bcell hb).1 _ _ h.hi).trans h.c1, ((bcell hb).2 _ _ h.hi).trans h.f1, h.ob.below hb, h.ne, h.lo, Nat.lt_of_lt_of_le h.hi hb.size⟩
theorem OutG.app {base gb : Nat} {w w' : World} {p : Int} {vb v' : Value} {l l' : List BarT} (h : OutG base w gb p vb l) (ho : OwnBars w' base v' l') (hk : Kept (fun k => some k = vb.ownBlock) w w') (ha : v'.ownBlock = vb.ownBlock ∨ ∀ b, v'.ownBlock = some b → w.heap.size ≤ b) : OutG base (w'.setCell ⟨gb, 1, none⟩ v') gb p v' l' := by
 have n0 : ¬ some gb = vb.ownBlock := fun e => h.ne e.symm
 have hp' : v'.ownBlock ≠ some gb := fun e => by
  rcases ha with ha | ha
  ·exact h.ne (ha.symm.trans e)
  ·have := ha gb e; have := h.hi; omega
 have ks : Kept (fun k => k = gb) w' (w'.setCell ⟨gb, 1, none⟩ v') := setKept
 exact ⟨(World.cell?_setCell_other _ _ _ _ (by simp)).trans ((hk.cell h.hi n0).trans h.c0), cellSame ((hk.cell h.hi n0).trans h.c1), (World.frozen?_setCell _ _ _ _).trans ((hk.frozen h.hi n0).trans h.f1), ks.ownsRow ho fun k hk1 e => hp' (by rw [hk1, e]), hp', h.lo, Nat.lt_of_lt_of_le (Nat.lt_of_lt_of_le h.hi hk.size) ks.size⟩
structure PutS (W w : World) (p : Int) (a : Option Addr) (n cap : Nat) (x1 x2 : Int) (vb : Value) (out : List BarT) : Prop where
 b : Below W.heap.size W w
 bg : BoxGr w W.heap.size p a n cap
 x0 : w.cell? ⟨W.heap.size + 1, 0, none⟩ = some (.int .i64 x1)
 x1 : w.cell? ⟨W.heap.size + 1, 1, none⟩ = some (.int .i64 x2)
 rz : Zer2 w (W.heap.size + 2)
 og : OutG (W.heap.size + 3) w (W.heap.size + 4) p vb out
 sz : W.heap.size + 5 ≤ w.heap.size
theorem PutS.below {W w w' : World} {p : Int} {a : Option Addr} {n cap : Nat} {x1 x2 : Int} {vb : Value} {out : List BarT} (h : PutS W w p a n cap x1 x2 vb out) (hb : Below w.heap.size w w') : PutS W w' p a n cap x1 x2 vb out := by
 have hs := h.sz
 exact ⟨h.b.step hb, h.bg.below hb, ((bcell hb).1 _ _ (by omega)).trans h.x0, ((bcell hb).1 _ _ (by omega)).trans h.x1, h.rz.below hb, h.og.below hb, Nat.le_trans h.sz hb.size⟩
theorem PutS.app {W w w' : World} {p : Int} {a : Option Addr} {n cap : Nat} {x1 x2 : Int} {vb v' : Value} {out out' : List BarT} (h : PutS W w p a n cap x1 x2 vb out) (ho : OwnBars w' (W.heap.size + 3) v' out') (hk : Kept (fun k => some k = vb.ownBlock) w w') (ha : v'.ownBlock = vb.ownBlock ∨ ∀ b, v'.ownBlock = some b → w.heap.size ≤ b) : PutS W (w'.setCell ⟨W.heap.size + 4, 1, none⟩ v') p a n cap x1 x2 v' out' := by
 have hs := h.sz
 have nlow : ∀ g, g < W.heap.size + 3 → ¬ some g = vb.ownBlock := fun g hg e => by have := (h.og.ob.lt g e.symm).1; omega
 have ks : Kept (fun k => k = W.heap.size + 4) w' (w'.setCell ⟨W.heap.size + 4, 1, none⟩ v') := setKept
 have kw := hk.size
 refine ⟨(h.b.trans (hk.below h.b.size fun g hg e => nlow g (by omega) e)).setCell (p := ⟨W.heap.size + 4, 1, none⟩) (by simp) v', (h.bg.kept hk (nlow _ (by omega))).kept ks (by omega), ?_, ?_, (h.rz.kept hk (nlow _ (by omega))).kept ks (by omega), h.og.app ho hk ha, Nat.le_trans (Nat.le_trans h.sz hk.size) ks.size⟩
 ·exact (ks.cell (by omega) (by omega)).trans ((hk.cell (by omega) (nlow _ (by omega))).trans h.x0)
 ·exact (ks.cell (by omega) (by omega)).trans ((hk.cell (by omega) (nlow _ (by omega))).trans h.x1)

theorem ncells2 (w : World) (a b : Value) (ty : TypeId) : (w.alloc (.cells #[a, b] ty)).cell? ⟨w.heap.size, 0, none⟩ = some a ∧ (w.alloc (.cells #[a, b] ty)).cell? ⟨w.heap.size, 1, none⟩ = some b := ⟨by simp [World.cell?_alloc_new], by simp [World.cell?_alloc_new]⟩
theorem aft_any (y1 y2 x1 x2 : Int) (w : World) : Calls Tryz.prog 104 #[.agg #[.int .i64 y1, .int .i64 y2], .agg #[.int .i64 x1, .int .i64 x2]] w fun e w' => e = .returned (.bool (aft (y1, y2) (x1, x2))) ∧ Below w.heap.size w w' := by
 exact l2After_any y1 y2 x1 x2 w

set_option maxHeartbeats 8000000 in
theorem l2Put_at (W : World) (p : Int) (a : Option Addr) (cap : Nat) (l : List BarT) (h : BarsAt W a l.length l) (hs : l.length ≤ 1048576) (x1 x2 : Int) :
  Calls Tryz.prog 98 #[.agg #[.int .i64 p, .slice a l.length cap], .agg #[.int .i64 x1, .int .i64 x2]] W (RetGraph W (p, putL l (x1, x2))) := by
 have H1 := Lib.hid h
 clear h
 have PS : Hid (PutS W (((((W.alloc (.cells #[.int .i64 p, .slice a l.length cap] 26)).alloc (.cells #[.int .i64 x1, .int .i64 x2] 70)).alloc (.cells #[.int .i64 0, .slice none 0 0] 26)).alloc (.cells #[] 70)).alloc (.cells #[.int .i64 p, .slice (some ⟨W.heap.size + 3, 0, none⟩) 0 0] 26)) p a l.length cap x1 x2 (.slice (some ⟨W.heap.size + 3, 0, none⟩) 0 0) []) := Lib.hid (by
  have b1 := belAl W (.cells #[.int .i64 p, .slice a l.length cap] 26)
  have b2 := belAl (W.alloc (.cells #[.int .i64 p, .slice a l.length cap] 26)) (.cells #[.int .i64 x1, .int .i64 x2] 70)
  have b3 := belAl ((W.alloc (.cells #[.int .i64 p, .slice a l.length cap] 26)).alloc (.cells #[.int .i64 x1, .int .i64 x2] 70)) (.cells #[.int .i64 0, .slice none 0 0] 26)
  have b4 := belAl (((W.alloc (.cells #[.int .i64 p, .slice a l.length cap] 26)).alloc (.cells #[.int .i64 x1, .int .i64 x2] 70)).alloc (.cells #[.int .i64 0, .slice none 0 0] 26)) (.cells #[] 70)
  have b5 := belAl ((((W.alloc (.cells #[.int .i64 p, .slice a l.length cap] 26)).alloc (.cells #[.int .i64 x1, .int .i64 x2] 70)).alloc (.cells #[.int .i64 0, .slice none 0 0] 26)).alloc (.cells #[] 70)) (.cells #[.int .i64 p, .slice (some ⟨W.heap.size + 3, 0, none⟩) 0 0] 26)
  have e3 : (((W.alloc (.cells #[.int .i64 p, .slice a l.length cap] 26)).alloc (.cells #[.int .i64 x1, .int .i64 x2] 70)).alloc (.cells #[.int .i64 0, .slice none 0 0] 26)).heap.size = W.heap.size + 3 := by simp
  have e4 : ((((W.alloc (.cells #[.int .i64 p, .slice a l.length cap] 26)).alloc (.cells #[.int .i64 x1, .int .i64 x2] 70)).alloc (.cells #[.int .i64 0, .slice none 0 0] 26)).alloc (.cells #[] 70)).heap.size = W.heap.size + 4 := by simp
  have hob := OwnBars.made (((W.alloc (.cells #[.int .i64 p, .slice a l.length cap] 26)).alloc (.cells #[.int .i64 x1, .int .i64 x2] 70)).alloc (.cells #[.int .i64 0, .slice none 0 0] 26)) (W.heap.size + 3) (by omega)
  rw [e3] at hob
  have n0 := World.cell?_alloc_new ((((W.alloc (.cells #[.int .i64 p, .slice a l.length cap] 26)).alloc (.cells #[.int .i64 x1, .int .i64 x2] 70)).alloc (.cells #[.int .i64 0, .slice none 0 0] 26)).alloc (.cells #[] 70)) #[.int .i64 p, .slice (some ⟨W.heap.size + 3, 0, none⟩) 0 0] 26 0
  have n1 := World.cell?_alloc_new ((((W.alloc (.cells #[.int .i64 p, .slice a l.length cap] 26)).alloc (.cells #[.int .i64 x1, .int .i64 x2] 70)).alloc (.cells #[.int .i64 0, .slice none 0 0] 26)).alloc (.cells #[] 70)) #[.int .i64 p, .slice (some ⟨W.heap.size + 3, 0, none⟩) 0 0] 26 1
  have n2 := World.frozen?_alloc_new ((((W.alloc (.cells #[.int .i64 p, .slice a l.length cap] 26)).alloc (.cells #[.int .i64 x1, .int .i64 x2] 70)).alloc (.cells #[.int .i64 0, .slice none 0 0] 26)).alloc (.cells #[] 70)) #[.int .i64 p, .slice (some ⟨W.heap.size + 3, 0, none⟩) 0 0] 26 1
  rw [e4] at n0 n1 n2
  have m0 : ((W.alloc (.cells #[.int .i64 p, .slice a l.length cap] 26)).alloc (.cells #[.int .i64 x1, .int .i64 x2] 70)).cell? ⟨W.heap.size + 1, 0, none⟩ = some (.int .i64 x1) := by
   have := World.cell?_alloc_new (W.alloc (.cells #[.int .i64 p, .slice a l.length cap] 26)) #[.int .i64 x1, .int .i64 x2] 70 0
   clear this
   simp
  have m1 : ((W.alloc (.cells #[.int .i64 p, .slice a l.length cap] 26)).alloc (.cells #[.int .i64 x1, .int .i64 x2] 70)).cell? ⟨W.heap.size + 1, 1, none⟩ = some (.int .i64 x2) := by
   have := World.cell?_alloc_new (W.alloc (.cells #[.int .i64 p, .slice a l.length cap] 26)) #[.int .i64 x1, .int .i64 x2] 70 1
   clear this
   simp
  have hr := Zer2.at ((W.alloc (.cells #[.int .i64 p, .slice a l.length cap] 26)).alloc (.cells #[.int .i64 x1, .int .i64 x2] 70)) 26
  rw [World.size_alloc, World.size_alloc] at hr
  have b45 := b4.step b5
  have b345 := b3.step b45
  refine ⟨(b1.step b2).step b345, ((BoxGr.at rfl).below b2).below b345, ((bcell b345).1 _ _ (by simp)).trans m0, ((bcell b345).1 _ _ (by simp)).trans m1, hr.below b45, ⟨by simpa using n0, by simpa using n1, by simpa using n2, hob.below b5, fun e => by have : W.heap.size + 3 = W.heap.size + 4 := Option.some.inj e; omega, by omega, by simp⟩, by simp⟩)
 go_enter Tryz.func98, Tryz.ntmps98
 go_upto_region 2 with (fail)
 generalize (((((W.alloc (.cells #[.int .i64 p, .slice a l.length cap] 26)).alloc (.cells #[.int .i64 x1, .int .i64 x2] 70)).alloc (.cells #[.int .i64 0, .slice none 0 0] 26)).alloc (.cells #[] 70)).alloc (.cells #[.int .i64 p, .slice (some ⟨W.heap.size + 3, 0, none⟩) 0 0] 26)) = u at *
 go_wp2_with fail
 go_loopw [6, 7] (fun s i w9 => ∃ (j : Nat) (pl : Bool) (vb : Value) (out : List BarT), j ≤ l.length ∧ i = .int .i64 j ∧ s = .bool pl ∧ PutS W w9 p a l.length cap x1 x2 vb out ∧ PutR l (x1, x2) j pl out) (fun _ i _ => l.length - (intOf i).toNat)
 case atStart => exact ⟨0, false, _, [], Nat.zero_le _, rfl, rfl, PS.out, ⟨fun _ => ⟨rfl, fun y hy => by simp at hy⟩, fun e => by cases e⟩⟩
 case round =>
  clear PS
  obtain ⟨j, pl, vb, out, hj, rfl, rfl, hps, hpr⟩ := hrel
  obtain ⟨ab, cb, rfl, -⟩ := hps.og.ob.form
  have PS := Lib.hid hps
  have HR := Lib.hid hpr
  have hol := hpr.len
  have hz := hps.sz
  clear hps hpr
  obtain ⟨zBG, fBG0, fBG1⟩ := PS.out.bg
  by_cases hlt : j < l.length
  ·obtain ⟨bb, off, ⟨y1, y2⟩, rfl, hbl, hx, d0, d1⟩ := (H1.out.below PS.out.b).2 j hlt
   dsimp only at d0 d1
   have HX := Lib.hid hx
   clear hx
   have hki : (j : Int) < (l.length : Int) := by omega
   have x0 := PS.out.x0
   have xx1 := PS.out.x1
   have hz1 : W.heap.size + 1 < wr.heap.size := by omega
   cases pl
   ·cases hA : aft (y1, y2) (x1, x2)
    ·have HC : Hid (∀ w, Calls Tryz.prog 104 #[.agg #[.int .i64 y1, .int .i64 y2], .agg #[.int .i64 x1, .int .i64 x2]] w fun e w' => e = .returned (.bool false) ∧ Below w.heap.size w w') := Lib.hid fun w => by have := aft_any y1 y2 x1 x2 w; rwa [hA] at this
     have HR2 := Lib.hid (HR.out.here HX.out (by rw [hA]; simp))
     clear hA
     go_wp2_with fail
     have hwd := @Wd.cells
     refine wp_region_wd (by kernel_rfl) (by kernel_rfl) ?_
     repeat (go_big_quiet_step (first | (go_at_call 104; exact Calls.wd_of (HC.out _))))
     refine wpQuiet_nil ?_
     intro n1
     have bn := n1.h
     replace PS := Lib.hid (PS.out.below bn)
     clear d0 d1 zBG fBG0 fBG1 x0 xx1 hwd bn HC hbl
     have hz := PS.out.sz
     generalize n1.w = w3 at *
     have o1 := PS.out.og.c1
     have o2 := PS.out.og.f1
     have oz := PS.out.og.hi
     have x0 := PS.out.x0
     have xx1 := PS.out.x1
     have hz1 : W.heap.size + 1 < w3.heap.size := by omega
     have hol2 : out.length < 1099511627776 := by omega
     have hz3 : W.heap.size + 3 ≤ w3.heap.size := by omega
     go_upto_region 8 with (at_builtin; refine appBar1At rfl (.tmp 32) (.tmp 34) rfl rfl PS.out.og.ob x1 x2 rfl hol2 hz3 ?_; intro v5 w5 h5 k5 a5; obtain ⟨av, cv, rfl, hiv⟩ := h5.form; clear hiv; rw [show (out ++ [(x1, x2)]).length = out.length + 1 from by simp] at h5 a5 ⊢; have q1 := (k5.cell oz (o := 1) (fun e => PS.out.og.ne e.symm)).trans o1; have q2 := (k5.frozen oz (o := 1) (fun e => PS.out.og.ne e.symm)).trans o2; have q3 := Nat.lt_of_lt_of_le oz k5.size; have PS5 := Lib.hid (PS.out.app h5 k5 a5); clear o1 o2 oz x0 xx1)
     clear q1 q2 q3 h5 k5 a5 PS hz1 hz3
     generalize w5.setCell ⟨W.heap.size + 4, 1, none⟩ (.slice av (out.length + 1) cv) = w6 at *
     replace PS := PS5
     clear PS5
     obtain ⟨bb', off', ⟨y1', y2'⟩, hab', hbl, hx', d0, d1⟩ := (H1.out.below PS.out.b).2 j hlt
     simp only [Option.some.injEq, Addr.mk.injEq, and_true] at hab'
     obtain ⟨rfl, rfl⟩ := hab'
     have hyy := HX.out.symm.trans hx'
     simp only [Option.some.injEq, Prod.mk.injEq] at hyy
     obtain ⟨rfl, rfl⟩ := hyy
     dsimp only at d0 d1
     obtain ⟨_, _, _, hab2, hbW, _⟩ := H1.out.2 j hlt
     simp only [Option.some.injEq, Addr.mk.injEq, and_true] at hab2
     obtain ⟨rfl, -⟩ := hab2
     clear hx'
     have hz := PS.out.sz
     have o1 := PS.out.og.c1
     have o2 := PS.out.og.f1
     have oz := PS.out.og.hi
     have SK : Hid (∀ w', Below w6.drew.heap.size w6.drew w' → w'.cell? ⟨W.heap.size + 4, 1, none⟩ = some (.slice av (out.length + 1) cv) ∧ w'.cell? ⟨W.heap.size, 1, none⟩ = some (.slice (some ⟨bb, off, none⟩) l.length cap) ∧ w'.cell? ⟨bb, off + j * 2, none⟩ = some (.int .i64 y1) ∧ w'.cell? ⟨bb, off + j * 2 + 1, none⟩ = some (.int .i64 y2)) := Lib.hid fun w' hb => ⟨((bcell hb).1 _ _ (by show _ < w6.heap.size; omega)).trans o1, ((bcell hb).1 _ _ (by show _ < w6.heap.size; omega)).trans PS.out.bg.c1, ((bcell hb).1 _ _ hbl).trans d0, ((bcell hb).1 _ _ hbl).trans d1⟩
     have bd : Below w6.drew.heap.size w6.drew w6.drew := Below.refl _ _
     have PSD := Lib.hid (PS.out.below (Below.refl _ w6).drew)
     have hole : out.length + 1 ≤ l.length + 2 := by omega
     go_wp2_with fail
     refine wp_regionZ (fun w' => w'.cell? ⟨W.heap.size + 4, 1, none⟩ = some (.slice av (out.length + 1) cv) ∧ w'.cell? ⟨W.heap.size, 1, none⟩ = some (.slice (some ⟨bb, off, none⟩) l.length cap) ∧ w'.cell? ⟨bb, off + j * 2, none⟩ = some (.int .i64 y1) ∧ w'.cell? ⟨bb, off + j * 2 + 1, none⟩ = some (.int .i64 y2)) 10 (by kernel_rfl) ?_
     refine wpAnyZ_take (i := 0) (v := ?_) rfl (by kernel_rfl) (by kernel_rfl) (by kernel_rfl) (by kernel_rfl) (by kernel_rfl) (fun _ _ _ h => h) (SK.out _ bd) (by rfl) ?_ ?_
     rotate_left
     · intro x hx; obtain ⟨u1, u2, u3, u4⟩ := hx; go_simp; try (with_reducible rfl)
     try simp only [Act.put, List.setIfInBounds_toArray, List.set_cons_zero, List.set_cons_succ]
     refine wpAnyZ_take (i := 1) (v := ?_) rfl (by kernel_rfl) (by kernel_rfl) (by kernel_rfl) (by kernel_rfl) (by kernel_rfl) (fun _ _ _ h => h) (SK.out _ bd) (by rfl) ?_ ?_
     rotate_left
     · intro x hx; obtain ⟨u1, u2, u3, u4⟩ := hx; go_simp; try (with_reducible rfl)
     try simp only [Act.put, List.setIfInBounds_toArray, List.set_cons_zero, List.set_cons_succ]
     refine wpAnyZ_take (i := 2) (v := ?_) rfl (by kernel_rfl) (by kernel_rfl) (by kernel_rfl) (by kernel_rfl) (by kernel_rfl) (fun _ _ _ h => h) (SK.out _ bd) (by rfl) ?_ ?_
     rotate_left
     · intro x hx; obtain ⟨u1, u2, u3, u4⟩ := hx; go_simp; try (with_reducible rfl)
     try simp only [Act.put, List.setIfInBounds_toArray, List.set_cons_zero, List.set_cons_succ]
     refine wpAnyZ_take (i := 3) (v := ?_) rfl (by kernel_rfl) (by kernel_rfl) (by kernel_rfl) (by kernel_rfl) (by kernel_rfl) (fun _ _ _ h => h) (SK.out _ bd) (by rfl) ?_ ?_
     rotate_left
     · intro x hx; obtain ⟨u1, u2, u3, u4⟩ := hx; go_simp; try (with_reducible rfl)
     try simp only [Act.put, List.setIfInBounds_toArray, List.set_cons_zero, List.set_cons_succ]
     refine wpAnyZ_take (i := 4) (v := ?_) rfl (by kernel_rfl) (by kernel_rfl) (by kernel_rfl) (by kernel_rfl) (by kernel_rfl) (fun _ _ _ h => h) (SK.out _ bd) (by rfl) ?_ ?_
     rotate_left
     · intro x hx; obtain ⟨u1, u2, u3, u4⟩ := hx; go_simp; try (with_reducible rfl)
     try simp only [Act.put, List.setIfInBounds_toArray, List.set_cons_zero, List.set_cons_succ]
     refine wpAnyZ_take (i := 5) (v := ?_) rfl (by kernel_rfl) (by kernel_rfl) (by kernel_rfl) (by kernel_rfl) (by kernel_rfl) (fun _ _ _ h => h) (SK.out _ bd) (by rfl) ?_ ?_
     rotate_left
     · intro x hx; obtain ⟨u1, u2, u3, u4⟩ := hx; go_simp; try (with_reducible rfl)
     try simp only [Act.put, List.setIfInBounds_toArray, List.set_cons_zero, List.set_cons_succ]
     refine wpAnyZ_take (i := 6) (v := ?_) rfl (by kernel_rfl) (by kernel_rfl) (by kernel_rfl) (by kernel_rfl) (by kernel_rfl) (fun _ _ _ h => h) (SK.out _ bd) (by rfl) ?_ ?_
     rotate_left
     · intro x hx; obtain ⟨u1, u2, u3, u4⟩ := hx; go_simp; try (with_reducible rfl)
     try simp only [Act.put, List.setIfInBounds_toArray, List.set_cons_zero, List.set_cons_succ]
     have bA : Below w6.drew.heap.size w6.drew (w6.alloc (.cells #[.int .i64 y1, .int .i64 y2] 70)).drew := (by have h0 := (belAl w6 (.cells #[.int .i64 y1, .int .i64 y2] 70)).drew; exact ⟨h0.os, h0.tape, h0.output, h0.size, h0.block⟩)
     have bd7 := bd.step bA
     have PSA := Lib.hid (PSD.out.below bA)
     have nA0 : (w6.alloc (.cells #[.int .i64 y1, .int .i64 y2] 70)).drew.cell? ⟨w6.heap.size, 0, none⟩ = some (.int .i64 y1) := (ncells2 w6 _ _ _).1
     have nA1 : (w6.alloc (.cells #[.int .i64 y1, .int .i64 y2] 70)).drew.cell? ⟨w6.heap.size, 1, none⟩ = some (.int .i64 y2) := (ncells2 w6 _ _ _).2
     clear bA
     refine wpAnyZ_step (i := 7) (by kernel_rfl) rfl (by rfl) ?_
     intro KK hKK
     go_simp
     refine hKK.out _ _ (.inr (SK.out _ bd7)) ?_
     clear hKK KK
     try simp only [Act.put, List.setIfInBounds_toArray, List.set_cons_zero, List.set_cons_succ]
     generalize (w6.alloc (.cells #[.int .i64 y1, .int .i64 y2] 70)).drew = wA at *
     have hzA := PSA.out.sz
     have hol2 : out.length + 1 < 1099511627776 := by omega
     refine wpAnyZ_step (i := 8) (by kernel_rfl) rfl (by rfl) ?_
     intro KK hKK
     refine stepBarX (by rfl) _ _ (by rfl) (by rfl) PSA.out.og.ob y1 y2 w6.heap.size (by rfl) nA0 nA1 (by rw [show (out ++ [(x1, x2)]).length = out.length + 1 from by simp]; omega) (by omega) ?_
     intro v8 w8 h8 k8 a8
     obtain ⟨av8, cv8, rfl, -⟩ := h8.form
     rw [show ((out ++ [(x1, x2)]) ++ [(y1, y2)]).length = out.length + 2 from by simp] at h8 a8 ⊢
     have PS8 := Lib.hid (PSA.out.app h8 k8 (a8.imp id fun e b hb => by rw [e] at hb; exact Nat.le_of_eq (Option.some.inj hb)))
     have s7 := SK.out _ bd7
     have nb : ∀ g, (g < W.heap.size + 3 ∨ g = W.heap.size + 4) → ¬ some g = Value.ownBlock (.slice av (out.length + 1) cv) := fun g hg e => by
      rcases hg with hg | hg
      ·have := (PSA.out.og.ob.lt g e.symm).1; omega
      ·exact PSA.out.og.ne (by rw [← hg]; exact e.symm)
     have oA := PSA.out.sz
     have q1 := (k8.cell (b := W.heap.size + 4) (o := 1) (by omega) (nb _ (.inr rfl))).trans s7.1
     have q2 := (k8.frozen (b := W.heap.size + 4) (o := 1) (by omega) (nb _ (.inr rfl))).trans PSA.out.og.f1
     have q3 : W.heap.size + 4 < w8.heap.size := Nat.lt_of_lt_of_le (by omega) k8.size
     have s8 := And.intro q1 (And.intro ((k8.cell (b := W.heap.size) (o := 1) (by omega) (nb _ (.inl (by omega)))).trans s7.2.1) (And.intro ((k8.cell (b := bb) (o := off + j * 2) (by omega) (nb _ (.inl (by omega)))).trans s7.2.2.1) ((k8.cell (b := bb) (o := off + j * 2 + 1) (by omega) (nb _ (.inl (by omega)))).trans s7.2.2.2)))
     refine hKK.out _ _ (.inr s8) ?_
     clear hKK KK
     try simp only [Act.put, List.setIfInBounds_toArray, List.set_cons_zero, List.set_cons_succ]
     refine wpAnyZ_take (i := 9) (v := ?_) rfl (by kernel_rfl) (by kernel_rfl) (by kernel_rfl) (by kernel_rfl) (by kernel_rfl) (fun _ _ _ h => h) (s8) (by rfl) ?_ ?_
     rotate_left
     · intro x hx; obtain ⟨u1, u2, u3, u4⟩ := hx; go_simp; try (with_reducible rfl)
     try simp only [Act.put, List.setIfInBounds_toArray, List.set_cons_zero, List.set_cons_succ]
     refine wpAnyZ_step (i := 10) (by kernel_rfl) rfl (by rfl) ?_
     intro KK hKK
     go_simp
     refine hKK.out _ _ (.inl (by kernel_rfl)) ?_
     clear hKK KK
     try simp only [Act.put, List.setIfInBounds_toArray, List.set_cons_zero, List.set_cons_succ]
     refine wpAnyZ_done (by kernel_rfl) ?_ _
     clear s7 s8 q1 q2 q3 nb k8 a8 h8 PSA PSD SK nA0 nA1 bd bd7 o1 o2 oz d0 d1 hbl hbW PS oA
     go_wp2_with fail
     go_roundw
     case rel => exact ⟨j + 1, true, .slice av8 (out.length + 2) cv8, (out ++ [(x1, x2)]) ++ [(y1, y2)], by omega, by go_num, rfl, PS8.out, HR2.out⟩
     case measure => simp [intOf]; omega
    ·have HC : Hid (∀ w, Calls Tryz.prog 104 #[.agg #[.int .i64 y1, .int .i64 y2], .agg #[.int .i64 x1, .int .i64 x2]] w fun e w' => e = .returned (.bool true) ∧ Below w.heap.size w w') := Lib.hid fun w => by have := aft_any y1 y2 x1 x2 w; rwa [hA] at this
     have HR2 := Lib.hid (HR.out.stay HX.out hA)
     clear hA
     go_wp2_with fail
     have hwd := @Wd.cells
     refine wp_region_wd (by kernel_rfl) (by kernel_rfl) ?_
     repeat (go_big_quiet_step (first | (go_at_call 104; exact Calls.wd_of (HC.out _))))
     refine wpQuiet_nil ?_
     intro n1
     have bn := n1.h
     replace PS := Lib.hid (PS.out.below bn)
     clear d0 d1 zBG fBG0 fBG1 x0 xx1 hwd bn HC hbl hz1
     generalize n1.w = w6 at *
     obtain ⟨bb', off', ⟨y1', y2'⟩, hab', hbl, hx', d0, d1⟩ := (H1.out.below PS.out.b).2 j hlt
     simp only [Option.some.injEq, Addr.mk.injEq, and_true] at hab'
     obtain ⟨rfl, rfl⟩ := hab'
     have hyy := HX.out.symm.trans hx'
     simp only [Option.some.injEq, Prod.mk.injEq] at hyy
     obtain ⟨rfl, rfl⟩ := hyy
     dsimp only at d0 d1
     obtain ⟨_, _, _, hab2, hbW, _⟩ := H1.out.2 j hlt
     simp only [Option.some.injEq, Addr.mk.injEq, and_true] at hab2
     obtain ⟨rfl, -⟩ := hab2
     clear hx'
     have hz := PS.out.sz
     have o1 := PS.out.og.c1
     have o2 := PS.out.og.f1
     have oz := PS.out.og.hi
     have SK : Hid (∀ w', Below w6.drew.heap.size w6.drew w' → w'.cell? ⟨W.heap.size + 4, 1, none⟩ = some (.slice ab out.length cb) ∧ w'.cell? ⟨W.heap.size, 1, none⟩ = some (.slice (some ⟨bb, off, none⟩) l.length cap) ∧ w'.cell? ⟨bb, off + j * 2, none⟩ = some (.int .i64 y1) ∧ w'.cell? ⟨bb, off + j * 2 + 1, none⟩ = some (.int .i64 y2)) := Lib.hid fun w' hb => ⟨((bcell hb).1 _ _ (by show _ < w6.heap.size; omega)).trans o1, ((bcell hb).1 _ _ (by show _ < w6.heap.size; omega)).trans PS.out.bg.c1, ((bcell hb).1 _ _ hbl).trans d0, ((bcell hb).1 _ _ hbl).trans d1⟩
     have bd : Below w6.drew.heap.size w6.drew w6.drew := Below.refl _ _
     have PSD := Lib.hid (PS.out.below (Below.refl _ w6).drew)
     have hole : out.length ≤ l.length + 2 := by omega
     go_wp2_with fail
     refine wp_regionZ (fun w' => w'.cell? ⟨W.heap.size + 4, 1, none⟩ = some (.slice ab out.length cb) ∧ w'.cell? ⟨W.heap.size, 1, none⟩ = some (.slice (some ⟨bb, off, none⟩) l.length cap) ∧ w'.cell? ⟨bb, off + j * 2, none⟩ = some (.int .i64 y1) ∧ w'.cell? ⟨bb, off + j * 2 + 1, none⟩ = some (.int .i64 y2)) 10 (by kernel_rfl) ?_
     refine wpAnyZ_take (i := 0) (v := ?_) rfl (by kernel_rfl) (by kernel_rfl) (by kernel_rfl) (by kernel_rfl) (by kernel_rfl) (fun _ _ _ h => h) (SK.out _ bd) (by rfl) ?_ ?_
     rotate_left
     · intro x hx; obtain ⟨u1, u2, u3, u4⟩ := hx; go_simp; try (with_reducible rfl)
     try simp only [Act.put, List.setIfInBounds_toArray, List.set_cons_zero, List.set_cons_succ]
     refine wpAnyZ_take (i := 1) (v := ?_) rfl (by kernel_rfl) (by kernel_rfl) (by kernel_rfl) (by kernel_rfl) (by kernel_rfl) (fun _ _ _ h => h) (SK.out _ bd) (by rfl) ?_ ?_
     rotate_left
     · intro x hx; obtain ⟨u1, u2, u3, u4⟩ := hx; go_simp; try (with_reducible rfl)
     try simp only [Act.put, List.setIfInBounds_toArray, List.set_cons_zero, List.set_cons_succ]
     refine wpAnyZ_take (i := 2) (v := ?_) rfl (by kernel_rfl) (by kernel_rfl) (by kernel_rfl) (by kernel_rfl) (by kernel_rfl) (fun _ _ _ h => h) (SK.out _ bd) (by rfl) ?_ ?_
     rotate_left
     · intro x hx; obtain ⟨u1, u2, u3, u4⟩ := hx; go_simp; try (with_reducible rfl)
     try simp only [Act.put, List.setIfInBounds_toArray, List.set_cons_zero, List.set_cons_succ]
     refine wpAnyZ_take (i := 3) (v := ?_) rfl (by kernel_rfl) (by kernel_rfl) (by kernel_rfl) (by kernel_rfl) (by kernel_rfl) (fun _ _ _ h => h) (SK.out _ bd) (by rfl) ?_ ?_
     rotate_left
     · intro x hx; obtain ⟨u1, u2, u3, u4⟩ := hx; go_simp; try (with_reducible rfl)
     try simp only [Act.put, List.setIfInBounds_toArray, List.set_cons_zero, List.set_cons_succ]
     refine wpAnyZ_take (i := 4) (v := ?_) rfl (by kernel_rfl) (by kernel_rfl) (by kernel_rfl) (by kernel_rfl) (by kernel_rfl) (fun _ _ _ h => h) (SK.out _ bd) (by rfl) ?_ ?_
     rotate_left
     · intro x hx; obtain ⟨u1, u2, u3, u4⟩ := hx; go_simp; try (with_reducible rfl)
     try simp only [Act.put, List.setIfInBounds_toArray, List.set_cons_zero, List.set_cons_succ]
     refine wpAnyZ_take (i := 5) (v := ?_) rfl (by kernel_rfl) (by kernel_rfl) (by kernel_rfl) (by kernel_rfl) (by kernel_rfl) (fun _ _ _ h => h) (SK.out _ bd) (by rfl) ?_ ?_
     rotate_left
     · intro x hx; obtain ⟨u1, u2, u3, u4⟩ := hx; go_simp; try (with_reducible rfl)
     try simp only [Act.put, List.setIfInBounds_toArray, List.set_cons_zero, List.set_cons_succ]
     refine wpAnyZ_take (i := 6) (v := ?_) rfl (by kernel_rfl) (by kernel_rfl) (by kernel_rfl) (by kernel_rfl) (by kernel_rfl) (fun _ _ _ h => h) (SK.out _ bd) (by rfl) ?_ ?_
     rotate_left
     · intro x hx; obtain ⟨u1, u2, u3, u4⟩ := hx; go_simp; try (with_reducible rfl)
     try simp only [Act.put, List.setIfInBounds_toArray, List.set_cons_zero, List.set_cons_succ]
     have bA : Below w6.drew.heap.size w6.drew (w6.alloc (.cells #[.int .i64 y1, .int .i64 y2] 70)).drew := (by have h0 := (belAl w6 (.cells #[.int .i64 y1, .int .i64 y2] 70)).drew; exact ⟨h0.os, h0.tape, h0.output, h0.size, h0.block⟩)
     have bd7 := bd.step bA
     have PSA := Lib.hid (PSD.out.below bA)
     have nA0 : (w6.alloc (.cells #[.int .i64 y1, .int .i64 y2] 70)).drew.cell? ⟨w6.heap.size, 0, none⟩ = some (.int .i64 y1) := (ncells2 w6 _ _ _).1
     have nA1 : (w6.alloc (.cells #[.int .i64 y1, .int .i64 y2] 70)).drew.cell? ⟨w6.heap.size, 1, none⟩ = some (.int .i64 y2) := (ncells2 w6 _ _ _).2
     clear bA
     refine wpAnyZ_step (i := 7) (by kernel_rfl) rfl (by rfl) ?_
     intro KK hKK
     go_simp
     refine hKK.out _ _ (.inr (SK.out _ bd7)) ?_
     clear hKK KK
     try simp only [Act.put, List.setIfInBounds_toArray, List.set_cons_zero, List.set_cons_succ]
     generalize (w6.alloc (.cells #[.int .i64 y1, .int .i64 y2] 70)).drew = wA at *
     have hzA := PSA.out.sz
     have hol2 : out.length < 1099511627776 := by omega
     refine wpAnyZ_step (i := 8) (by kernel_rfl) rfl (by rfl) ?_
     intro KK hKK
     refine stepBarX (by rfl) _ _ (by rfl) (by rfl) PSA.out.og.ob y1 y2 w6.heap.size (by rfl) nA0 nA1 (by omega) (by omega) ?_
     intro v8 w8 h8 k8 a8
     obtain ⟨av8, cv8, rfl, -⟩ := h8.form
     rw [show (out ++ [(y1, y2)]).length = out.length + 1 from by simp] at h8 a8 ⊢
     have PS8 := Lib.hid (PSA.out.app h8 k8 (a8.imp id fun e b hb => by rw [e] at hb; exact Nat.le_of_eq (Option.some.inj hb)))
     have s7 := SK.out _ bd7
     have nb : ∀ g, (g < W.heap.size + 3 ∨ g = W.heap.size + 4) → ¬ some g = Value.ownBlock (.slice ab out.length cb) := fun g hg e => by
      rcases hg with hg | hg
      ·have := (PSA.out.og.ob.lt g e.symm).1; omega
      ·exact PSA.out.og.ne (by rw [← hg]; exact e.symm)
     have oA := PSA.out.sz
     have q1 := (k8.cell (b := W.heap.size + 4) (o := 1) (by omega) (nb _ (.inr rfl))).trans s7.1
     have q2 := (k8.frozen (b := W.heap.size + 4) (o := 1) (by omega) (nb _ (.inr rfl))).trans PSA.out.og.f1
     have q3 : W.heap.size + 4 < w8.heap.size := Nat.lt_of_lt_of_le (by omega) k8.size
     have s8 := And.intro q1 (And.intro ((k8.cell (b := W.heap.size) (o := 1) (by omega) (nb _ (.inl (by omega)))).trans s7.2.1) (And.intro ((k8.cell (b := bb) (o := off + j * 2) (by omega) (nb _ (.inl (by omega)))).trans s7.2.2.1) ((k8.cell (b := bb) (o := off + j * 2 + 1) (by omega) (nb _ (.inl (by omega)))).trans s7.2.2.2)))
     refine hKK.out _ _ (.inr s8) ?_
     clear hKK KK
     try simp only [Act.put, List.setIfInBounds_toArray, List.set_cons_zero, List.set_cons_succ]
     refine wpAnyZ_take (i := 9) (v := ?_) rfl (by kernel_rfl) (by kernel_rfl) (by kernel_rfl) (by kernel_rfl) (by kernel_rfl) (fun _ _ _ h => h) (s8) (by rfl) ?_ ?_
     rotate_left
     · intro x hx; obtain ⟨u1, u2, u3, u4⟩ := hx; go_simp; try (with_reducible rfl)
     try simp only [Act.put, List.setIfInBounds_toArray, List.set_cons_zero, List.set_cons_succ]
     refine wpAnyZ_step (i := 10) (by kernel_rfl) rfl (by rfl) ?_
     intro KK hKK
     go_simp
     refine hKK.out _ _ (.inl (by kernel_rfl)) ?_
     clear hKK KK
     try simp only [Act.put, List.setIfInBounds_toArray, List.set_cons_zero, List.set_cons_succ]
     refine wpAnyZ_done (by kernel_rfl) ?_ _
     clear s7 s8 q1 q2 q3 nb k8 a8 h8 PSA PSD SK nA0 nA1 bd bd7 o1 o2 oz d0 d1 hbl hbW PS oA
     go_wp2_with fail
     go_roundw
     case rel => exact ⟨j + 1, false, .slice av8 (out.length + 1) cv8, out ++ [(y1, y2)], by omega, by go_num, rfl, PS8.out, HR2.out⟩
     case measure => simp [intOf]; omega
   ·have HR2 := Lib.hid (HR.out.go HX.out)
    go_wp2_with fail
    have hwd := @Wd.cells
    refine wp_region_wd (by kernel_rfl) (by kernel_rfl) ?_
    repeat (go_big_quiet_step (fail))
    refine wpQuiet_nil ?_
    intro n1
    have bn := n1.h
    replace PS := Lib.hid (PS.out.below bn)
    clear d0 d1 zBG fBG0 fBG1 x0 xx1 hwd bn hbl hz1
    generalize n1.w = w6 at *
    obtain ⟨bb', off', ⟨y1', y2'⟩, hab', hbl, hx', d0, d1⟩ := (H1.out.below PS.out.b).2 j hlt
    simp only [Option.some.injEq, Addr.mk.injEq, and_true] at hab'
    obtain ⟨rfl, rfl⟩ := hab'
    have hyy := HX.out.symm.trans hx'
    simp only [Option.some.injEq, Prod.mk.injEq] at hyy
    obtain ⟨rfl, rfl⟩ := hyy
    dsimp only at d0 d1
    obtain ⟨_, _, _, hab2, hbW, _⟩ := H1.out.2 j hlt
    simp only [Option.some.injEq, Addr.mk.injEq, and_true] at hab2
    obtain ⟨rfl, -⟩ := hab2
    clear hx'
    have hz := PS.out.sz
    have o1 := PS.out.og.c1
    have o2 := PS.out.og.f1
    have oz := PS.out.og.hi
    have SK : Hid (∀ w', Below w6.drew.heap.size w6.drew w' → w'.cell? ⟨W.heap.size + 4, 1, none⟩ = some (.slice ab out.length cb) ∧ w'.cell? ⟨W.heap.size, 1, none⟩ = some (.slice (some ⟨bb, off, none⟩) l.length cap) ∧ w'.cell? ⟨bb, off + j * 2, none⟩ = some (.int .i64 y1) ∧ w'.cell? ⟨bb, off + j * 2 + 1, none⟩ = some (.int .i64 y2)) := Lib.hid fun w' hb => ⟨((bcell hb).1 _ _ (by show _ < w6.heap.size; omega)).trans o1, ((bcell hb).1 _ _ (by show _ < w6.heap.size; omega)).trans PS.out.bg.c1, ((bcell hb).1 _ _ hbl).trans d0, ((bcell hb).1 _ _ hbl).trans d1⟩
    have bd : Below w6.drew.heap.size w6.drew w6.drew := Below.refl _ _
    have PSD := Lib.hid (PS.out.below (Below.refl _ w6).drew)
    have hole : out.length ≤ l.length + 2 := by omega
    go_wp2_with fail
    refine wp_regionZ (fun w' => w'.cell? ⟨W.heap.size + 4, 1, none⟩ = some (.slice ab out.length cb) ∧ w'.cell? ⟨W.heap.size, 1, none⟩ = some (.slice (some ⟨bb, off, none⟩) l.length cap) ∧ w'.cell? ⟨bb, off + j * 2, none⟩ = some (.int .i64 y1) ∧ w'.cell? ⟨bb, off + j * 2 + 1, none⟩ = some (.int .i64 y2)) 10 (by kernel_rfl) ?_
    refine wpAnyZ_take (i := 0) (v := ?_) rfl (by kernel_rfl) (by kernel_rfl) (by kernel_rfl) (by kernel_rfl) (by kernel_rfl) (fun _ _ _ h => h) (SK.out _ bd) (by rfl) ?_ ?_
    rotate_left
    · intro x hx; obtain ⟨u1, u2, u3, u4⟩ := hx; go_simp; try (with_reducible rfl)
    try simp only [Act.put, List.setIfInBounds_toArray, List.set_cons_zero, List.set_cons_succ]
    refine wpAnyZ_take (i := 1) (v := ?_) rfl (by kernel_rfl) (by kernel_rfl) (by kernel_rfl) (by kernel_rfl) (by kernel_rfl) (fun _ _ _ h => h) (SK.out _ bd) (by rfl) ?_ ?_
    rotate_left
    · intro x hx; obtain ⟨u1, u2, u3, u4⟩ := hx; go_simp; try (with_reducible rfl)
    try simp only [Act.put, List.setIfInBounds_toArray, List.set_cons_zero, List.set_cons_succ]
    refine wpAnyZ_take (i := 2) (v := ?_) rfl (by kernel_rfl) (by kernel_rfl) (by kernel_rfl) (by kernel_rfl) (by kernel_rfl) (fun _ _ _ h => h) (SK.out _ bd) (by rfl) ?_ ?_
    rotate_left
    · intro x hx; obtain ⟨u1, u2, u3, u4⟩ := hx; go_simp; try (with_reducible rfl)
    try simp only [Act.put, List.setIfInBounds_toArray, List.set_cons_zero, List.set_cons_succ]
    refine wpAnyZ_take (i := 3) (v := ?_) rfl (by kernel_rfl) (by kernel_rfl) (by kernel_rfl) (by kernel_rfl) (by kernel_rfl) (fun _ _ _ h => h) (SK.out _ bd) (by rfl) ?_ ?_
    rotate_left
    · intro x hx; obtain ⟨u1, u2, u3, u4⟩ := hx; go_simp; try (with_reducible rfl)
    try simp only [Act.put, List.setIfInBounds_toArray, List.set_cons_zero, List.set_cons_succ]
    refine wpAnyZ_take (i := 4) (v := ?_) rfl (by kernel_rfl) (by kernel_rfl) (by kernel_rfl) (by kernel_rfl) (by kernel_rfl) (fun _ _ _ h => h) (SK.out _ bd) (by rfl) ?_ ?_
    rotate_left
    · intro x hx; obtain ⟨u1, u2, u3, u4⟩ := hx; go_simp; try (with_reducible rfl)
    try simp only [Act.put, List.setIfInBounds_toArray, List.set_cons_zero, List.set_cons_succ]
    refine wpAnyZ_take (i := 5) (v := ?_) rfl (by kernel_rfl) (by kernel_rfl) (by kernel_rfl) (by kernel_rfl) (by kernel_rfl) (fun _ _ _ h => h) (SK.out _ bd) (by rfl) ?_ ?_
    rotate_left
    · intro x hx; obtain ⟨u1, u2, u3, u4⟩ := hx; go_simp; try (with_reducible rfl)
    try simp only [Act.put, List.setIfInBounds_toArray, List.set_cons_zero, List.set_cons_succ]
    refine wpAnyZ_take (i := 6) (v := ?_) rfl (by kernel_rfl) (by kernel_rfl) (by kernel_rfl) (by kernel_rfl) (by kernel_rfl) (fun _ _ _ h => h) (SK.out _ bd) (by rfl) ?_ ?_
    rotate_left
    · intro x hx; obtain ⟨u1, u2, u3, u4⟩ := hx; go_simp; try (with_reducible rfl)
    try simp only [Act.put, List.setIfInBounds_toArray, List.set_cons_zero, List.set_cons_succ]
    have bA : Below w6.drew.heap.size w6.drew (w6.alloc (.cells #[.int .i64 y1, .int .i64 y2] 70)).drew := (by have h0 := (belAl w6 (.cells #[.int .i64 y1, .int .i64 y2] 70)).drew; exact ⟨h0.os, h0.tape, h0.output, h0.size, h0.block⟩)
    have bd7 := bd.step bA
    have PSA := Lib.hid (PSD.out.below bA)
    have nA0 : (w6.alloc (.cells #[.int .i64 y1, .int .i64 y2] 70)).drew.cell? ⟨w6.heap.size, 0, none⟩ = some (.int .i64 y1) := (ncells2 w6 _ _ _).1
    have nA1 : (w6.alloc (.cells #[.int .i64 y1, .int .i64 y2] 70)).drew.cell? ⟨w6.heap.size, 1, none⟩ = some (.int .i64 y2) := (ncells2 w6 _ _ _).2
    clear bA
    refine wpAnyZ_step (i := 7) (by kernel_rfl) rfl (by rfl) ?_
    intro KK hKK
    go_simp
    refine hKK.out _ _ (.inr (SK.out _ bd7)) ?_
    clear hKK KK
    try simp only [Act.put, List.setIfInBounds_toArray, List.set_cons_zero, List.set_cons_succ]
    generalize (w6.alloc (.cells #[.int .i64 y1, .int .i64 y2] 70)).drew = wA at *
    have hzA := PSA.out.sz
    have hol2 : out.length < 1099511627776 := by omega
    refine wpAnyZ_step (i := 8) (by kernel_rfl) rfl (by rfl) ?_
    intro KK hKK
    refine stepBarX (by rfl) _ _ (by rfl) (by rfl) PSA.out.og.ob y1 y2 w6.heap.size (by rfl) nA0 nA1 (by omega) (by omega) ?_
    intro v8 w8 h8 k8 a8
    obtain ⟨av8, cv8, rfl, -⟩ := h8.form
    rw [show (out ++ [(y1, y2)]).length = out.length + 1 from by simp] at h8 a8 ⊢
    have PS8 := Lib.hid (PSA.out.app h8 k8 (a8.imp id fun e b hb => by rw [e] at hb; exact Nat.le_of_eq (Option.some.inj hb)))
    have s7 := SK.out _ bd7
    have nb : ∀ g, (g < W.heap.size + 3 ∨ g = W.heap.size + 4) → ¬ some g = Value.ownBlock (.slice ab out.length cb) := fun g hg e => by
     rcases hg with hg | hg
     ·have := (PSA.out.og.ob.lt g e.symm).1; omega
     ·exact PSA.out.og.ne (by rw [← hg]; exact e.symm)
    have oA := PSA.out.sz
    have q1 := (k8.cell (b := W.heap.size + 4) (o := 1) (by omega) (nb _ (.inr rfl))).trans s7.1
    have q2 := (k8.frozen (b := W.heap.size + 4) (o := 1) (by omega) (nb _ (.inr rfl))).trans PSA.out.og.f1
    have q3 : W.heap.size + 4 < w8.heap.size := Nat.lt_of_lt_of_le (by omega) k8.size
    have s8 := And.intro q1 (And.intro ((k8.cell (b := W.heap.size) (o := 1) (by omega) (nb _ (.inl (by omega)))).trans s7.2.1) (And.intro ((k8.cell (b := bb) (o := off + j * 2) (by omega) (nb _ (.inl (by omega)))).trans s7.2.2.1) ((k8.cell (b := bb) (o := off + j * 2 + 1) (by omega) (nb _ (.inl (by omega)))).trans s7.2.2.2)))
    refine hKK.out _ _ (.inr s8) ?_
    clear hKK KK
    try simp only [Act.put, List.setIfInBounds_toArray, List.set_cons_zero, List.set_cons_succ]
    refine wpAnyZ_take (i := 9) (v := ?_) rfl (by kernel_rfl) (by kernel_rfl) (by kernel_rfl) (by kernel_rfl) (by kernel_rfl) (fun _ _ _ h => h) (s8) (by rfl) ?_ ?_
    rotate_left
    · intro x hx; obtain ⟨u1, u2, u3, u4⟩ := hx; go_simp; try (with_reducible rfl)
    try simp only [Act.put, List.setIfInBounds_toArray, List.set_cons_zero, List.set_cons_succ]
    refine wpAnyZ_step (i := 10) (by kernel_rfl) rfl (by rfl) ?_
    intro KK hKK
    go_simp
    refine hKK.out _ _ (.inl (by kernel_rfl)) ?_
    clear hKK KK
    try simp only [Act.put, List.setIfInBounds_toArray, List.set_cons_zero, List.set_cons_succ]
    refine wpAnyZ_done (by kernel_rfl) ?_ _
    clear s7 s8 q1 q2 q3 nb k8 a8 h8 PSA PSD SK nA0 nA1 bd bd7 o1 o2 oz d0 d1 hbl hbW PS oA
    go_wp2_with fail
    go_roundw
    case rel => exact ⟨j + 1, true, .slice av8 (out.length + 1) cv8, out ++ [(y1, y2)], by omega, by go_num, rfl, PS8.out, HR2.out⟩
    case measure => simp [intOf]; omega
  ·have hje : j = l.length := by omega
   have o0 := PS.out.og.c0
   have o1 := PS.out.og.c1
   have o2 := PS.out.og.f1
   have oz := PS.out.og.hi
   cases pl
   ·have HE := Lib.hid (show out ++ [(x1, x2)] = putL l (x1, x2) by
     obtain ⟨h1, h2⟩ := HR.out.1 rfl
     rw [hje, List.take_length] at h1 h2
     rw [h1, putL_all h2])
    have x0 := PS.out.x0
    have xx1 := PS.out.x1
    have hz1 : W.heap.size + 1 < wr.heap.size := by omega
    have hol2 : out.length < 1099511627776 := by omega
    have hz3 : W.heap.size + 3 ≤ wr.heap.size := by omega
    clear hje
    go_upto_region 12 with (at_builtin; refine appBar1At rfl (.tmp 50) (.tmp 52) rfl rfl PS.out.og.ob x1 x2 rfl hol2 hz3 ?_; intro v5 w5 h5 k5 a5; obtain ⟨av, cv, rfl, hiv⟩ := h5.form; clear hiv; rw [show (out ++ [(x1, x2)]).length = out.length + 1 from by simp] at h5 a5 ⊢; have q1 := (k5.cell oz (o := 1) (fun e => PS.out.og.ne e.symm)).trans o1; have q2 := (k5.frozen oz (o := 1) (fun e => PS.out.og.ne e.symm)).trans o2; have q3 := Nat.lt_of_lt_of_le oz k5.size; have PS5 := Lib.hid (PS.out.app h5 k5 a5); clear o0 o1 o2 oz x0 xx1)
    clear q1 q2 q3 h5 k5 a5 PS hz1 hz3 zBG fBG0 fBG1
    generalize w5.setCell ⟨W.heap.size + 4, 1, none⟩ (.slice av (out.length + 1) cv) = w6 at *
    have o0 := PS5.out.og.c0
    have o1 := PS5.out.og.c1
    have oz := PS5.out.og.hi
    obtain ⟨⟨z1, z2, z3, c0, c1⟩, ⟨f0, f1⟩, gz⟩ := PS5.out.rz
    have hob := PS5.out.og.ob
    rw [show out.length + 1 = (out ++ [(x1, x2)]).length from by simp] at hob
    have HLD := Lib.hid (laid2 (W := W) (p := p) (g := W.heap.size + 2) hob (by omega) (by omega) (by omega) PS5.out.b)
    rw [show (out ++ [(x1, x2)]).length = out.length + 1 from by simp] at HLD
    clear hob
    go_wp2_with fail
    refine bodyPost_ret (v := .agg #[.int .i64 p, .slice av (out.length + 1) cv]) (by simp [results, Tryz.results98, go_sem, gz, c0, c1]) rfl ⟨_, rfl, ?_, HLD.out.2⟩
    rw [← HE.out]
    exact HLD.out.1
   ·have HE := Lib.hid (show out = putL l (x1, x2) by
     obtain ⟨h1, h2⟩ := HR.out.2 rfl
     rw [hje, List.take_length] at h1
     exact h1)
    clear hje
    obtain ⟨⟨z1, z2, z3, c0, c1⟩, ⟨f0, f1⟩, gz⟩ := PS.out.rz
    have HLD := Lib.hid (laid2 (W := W) (p := p) (g := W.heap.size + 2) PS.out.og.ob (by omega) (by omega) (by omega) PS.out.b)
    go_wp2_with fail
    refine bodyPost_ret (v := .agg #[.int .i64 p, .slice ab out.length cb]) (by simp [results, Tryz.results98, go_sem, gz, c0, c1]) rfl ⟨_, rfl, ?_, HLD.out.2⟩
    rw [← HE.out]
    exact HLD.out.1
end Go.Proofs.YtfbmpkdjhhcnpaaGreat

