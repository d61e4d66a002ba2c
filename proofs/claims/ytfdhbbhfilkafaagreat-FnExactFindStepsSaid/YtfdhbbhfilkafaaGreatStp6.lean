/- One step on a graph, in plain words; the boxes of a step. No condition. -/
import Derived.Test.YtfdhbbhfilkafaaGreatStp5
import Derived.Test.YtfdhbbhfilkafaaGreatStepA
namespace Go.Proofs.YtfdhbbhfilkafaaGreat
open Go.RowKit
set_option maxRecDepth 100000
set_option linter.unusedVariables false
set_option linter.unusedSimpArgs false

def barM (x y : Int) : BarT := (min x y, max x y)
def cnd0 (p : Int) (l : List BarT) (kd pt a b c : Int) : Bool := (kd == 0) && ((pt == 0) && ((c == 0) && (((l.length : Int) == 0) && difB p [a, b])))
def cnd1 (p : Int) (l : List BarT) (kd pt a b c : Int) : Bool := (kd == 1) && ((c == 0) && (difB p [pt, a, b] && (!decide (0 < degB l pt) && (decide (0 < degB l a) && decide (0 < degB l b)))))
def cnd2 (p : Int) (l : List BarT) (kd pt a b c : Int) : Bool := (kd == 2) && (difB p [pt, a, b, c] && (!decide (0 < degB l pt) && (decide (0 < degB l c) && decide (0 ≤ idxB l (barM a b)))))
def stepF (g : GraphT) (s : StepT) : GraphT × Bool :=
  if isGraphB g && decide (g.2.length ≤ 21) then
    if cnd0 g.1 g.2 s.1 s.2.1 s.2.2.1 s.2.2.2.1 s.2.2.2.2 then ((g.1, putsL g.2 [barM s.2.2.1 s.2.2.2.1]), true)
    else if cnd1 g.1 g.2 s.1 s.2.1 s.2.2.1 s.2.2.2.1 s.2.2.2.2 then ((g.1, putsL g.2 [barM s.2.1 s.2.2.1, barM s.2.1 s.2.2.2.1]), true)
    else if cnd2 g.1 g.2 s.1 s.2.1 s.2.2.1 s.2.2.2.1 s.2.2.2.2 then ((g.1, putsL (cutG g.2 (idxB g.2 (barM s.2.2.1 s.2.2.2.1)).toNat) [barM s.2.1 s.2.2.1, barM s.2.1 s.2.2.2.1, barM s.2.1 s.2.2.2.2]), true)
    else (g, false)
  else (g, false)
theorem stepF_len (g : GraphT) (s : StepT) : (stepF g s).1.2.length ≤ g.2.length + 3 := by
  unfold stepF
  split
  · split
    · simp [putsL_length]
    · split
      · simp [putsL_length]
      · split
        · simp only [putsL_length, cutG, List.length_append, List.length_take, List.length_drop, List.length_cons, List.length_nil]; omega
        · simp
  · simp
theorem isGraphB_ord {p : Int} {l : List BarT} (h : isGraphB (p, l) = true) : Ord l := by
  have key : ∀ i x y, l[i]? = some x → l[i + 1]? = some y → barLe x y = true := by
    intro i x y hx hy
    simp only [isGraphB, Bool.and_eq_true] at h
    have h1 := List.all_eq_true.1 h.2.2 (i + 1) (List.mem_range.2 (lt_of_getElem? hy))
    simp only [barAt, hy, Nat.add_sub_cancel, hx, Bool.and_eq_true, Bool.or_eq_true, beq_iff_eq] at h1
    rcases h1.2.2.2 with h2 | h2
    · omega
    · exact h2
  have all : ∀ (d i : Nat) x y, l[i]? = some x → l[i + d]? = some y → barLe x y = true := by
    intro d
    induction d with
    | zero => intro i x y hx hy; rw [Nat.add_zero, hx] at hy; rw [Option.some.inj hy, barLe_iff]; omega
    | succ d ih =>
      intro i x y hx hy
      have hl := lt_of_getElem? hy
      have e1 := ih i x _ hx (List.getElem?_eq_getElem (show i + d < l.length by omega))
      have e2 := key (i + d) _ y (List.getElem?_eq_getElem (show i + d < l.length by omega)) hy
      rw [barLe_iff] at *
      omega
  refine List.pairwise_iff_getElem.2 fun i j hi hj hij => ?_
  exact all (j - i) i _ _ (List.getElem?_eq_getElem hi) (by rw [show i + (j - i) = j by omega]; exact List.getElem?_eq_getElem hj)
theorem cutG_ord {l : List BarT} (k : Nat) (h : Ord l) : Ord (cutG l k) := by
  have h1 : (cutG l k).Sublist l := by
    unfold cutG
    have h2 : (l.take k ++ l.drop (k + 1)).Sublist (l.take k ++ l.drop k) := by
      refine List.Sublist.append_left ?_ _
      rw [← List.drop_drop (i := 1) (j := k)]
      exact List.drop_sublist _ _
    rwa [List.take_append_drop] at h2
  exact List.Pairwise.sublist h1 h
def BoxSt (w : World) (g : Nat) (kd pt a b c : Int) : Prop := g < w.heap.size ∧ w.cell? ⟨g, 0, none⟩ = some (.int .i64 kd) ∧ w.cell? ⟨g, 1, none⟩ = some (.int .i64 pt) ∧ w.cell? ⟨g, 2, none⟩ = some (.int .i64 a) ∧ w.cell? ⟨g, 3, none⟩ = some (.int .i64 b) ∧ w.cell? ⟨g, 4, none⟩ = some (.int .i64 c)
theorem BoxSt.below {w w' : World} {g : Nat} {kd pt a b c : Int} (h : BoxSt w g kd pt a b c) (hb : Below w.heap.size w w') : BoxSt w' g kd pt a b c :=
  ⟨Nat.lt_of_lt_of_le h.1 hb.size, ((bcell hb).1 _ _ h.1).trans h.2.1, ((bcell hb).1 _ _ h.1).trans h.2.2.1, ((bcell hb).1 _ _ h.1).trans h.2.2.2.1, ((bcell hb).1 _ _ h.1).trans h.2.2.2.2.1, ((bcell hb).1 _ _ h.1).trans h.2.2.2.2.2⟩
theorem BoxSt.at {w : World} {g : Nat} {kd pt a b c : Int} {ty : Nat} (hg : g = w.heap.size) : BoxSt (w.alloc (.cells #[.int .i64 kd, .int .i64 pt, .int .i64 a, .int .i64 b, .int .i64 c] ty)) g kd pt a b c := by
  subst hg
  exact ⟨by simp, by simp [World.cell?_alloc_new], by simp [World.cell?_alloc_new], by simp [World.cell?_alloc_new], by simp [World.cell?_alloc_new], by simp [World.cell?_alloc_new]⟩
theorem litInts {w : World} (l : List Int) {n : Nat} (hn : l.length = n) (h1 : n ≤ 1000) : IntsAt (w.alloc (.cells (l.map (Value.int .i64)).toArray 3)) (some ⟨w.heap.size, 0, none⟩) n l := by
  subst hn
  refine ⟨rfl, fun k hk => ⟨w.heap.size, 0, l[k], rfl, by simp, List.getElem?_eq_getElem hk, ?_⟩⟩
  rw [Nat.zero_add, World.cell?_alloc_new]
  simp [hk]
end Go.Proofs.YtfdhbbhfilkafaaGreat
