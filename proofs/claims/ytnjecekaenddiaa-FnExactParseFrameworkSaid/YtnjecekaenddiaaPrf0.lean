/- Parsing frameworks: the plain law, boxes of three cells. No condition but sizes. -/
import Derived.Test.YtnjecekaenddiaaCuw
import Derived.Test.YtnjecekaenddiaaFmf
namespace Go.Proofs.Ytnjecekaenddiaa
open Go.RowKit
set_option maxRecDepth 100000
set_option linter.unusedVariables false
set_option linter.unusedSimpArgs false

/-- what a parsed framework and the word on it answer to -/
def OkPF (l : List UInt8) (f : FwT) (b : Bool) : Prop := (b = true → isFwB f = true ∧ l = fmtF f) ∧ (b = false → f = (0, [], [])) ∧ ∀ f0, isFwB f0 = true → l = fmtF f0 → b = true ∧ f = f0
theorem OkPF.uniq {l : List UInt8} {f g : FwT} {b c : Bool} (h : OkPF l f b) (k : OkPF l g c) : f = g ∧ b = c := by
  cases b with
  | true => obtain ⟨h1, h2⟩ := h.1 rfl; obtain ⟨h3, h4⟩ := k.2.2 f h1 h2; exact ⟨h4.symm, h3.symm⟩
  | false =>
    cases c with
    | true => obtain ⟨h1, h2⟩ := k.1 rfl; exact absurd (h.2.2 g h1 h2).1 (by simp)
    | false => rw [h.2.1 rfl, k.2.1 rfl]; exact ⟨rfl, rfl⟩
theorem OkPF.no {l : List UInt8} (h : ∀ f0, isFwB f0 = true → l = fmtF f0 → False) : OkPF l (0, [], []) false := ⟨by simp, fun _ => rfl, fun f0 h1 h2 => (h f0 h1 h2).elim⟩
theorem OkPF.yes {l : List UInt8} {f : FwT} (h1 : isFwB f = true) (h2 : fmtF f = l) (h : ∀ f0, isFwB f0 = true → l = fmtF f0 → f = f0) : OkPF l f true := ⟨fun _ => ⟨h1, h2.symm⟩, by simp, fun f0 h3 h4 => ⟨rfl, h f0 h3 h4⟩⟩
theorem OkPF.sz {l : List UInt8} {f : FwT} {b : Bool} (h : OkPF l f b) : szFw f ≤ 1048576 := by
  cases b with
  | true =>
    obtain ⟨p, m, q⟩ := f
    obtain ⟨h1, h2⟩ := h.1 rfl
    obtain ⟨a1, a2, a3, a4, a5⟩ := isFw_facts2 h1
    have := isGraphB_bd a4
    unfold szFw
    dsimp only at *
    omega
  | false => rw [h.2.1 rfl]; decide
def RetPF (W : World) (l : List UInt8) (e : Ending) (w' : World) : Prop := ∃ v f b, e = .returned (.tuple #[v, .bool b]) ∧ OwnFw w' W.heap.size v f ∧ OkPF l f b ∧ Below W.heap.size W w'
theorem RetPF.mk {W : World} {l : List UInt8} {e : Ending} {w' : World} {v : Value} {f : FwT} {b : Bool} (h : e = .returned (.tuple #[v, .bool b])) (h1 : OwnFw w' W.heap.size v f) (h2 : OkPF l f b) (h3 : Below W.heap.size W w') : RetPF W l e w' := ⟨v, f, b, h, h1, h2, h3⟩
theorem pf_at {l : List UInt8} {k : Nat} (hk : (cutL 32 l)[k]? = some [97, 116] ∨ k = (cutL 32 l).length) (hlt : ∀ j, j < k → (cutL 32 l)[j]? ≠ some [97, 116]) {f0 : FwT} (hv : isFwB f0 = true) (hl : l = fmtF f0) : k = f0.2.1.length + 1 ∧ (cutL 32 l).length = f0.2.1.length + 1 + f0.2.2.length + 1 ∧ jnTo [32] (cutL 32 l) k = fmtG (f0.1, f0.2.1) := by
  rw [hl, fmtF_cut hv] at hk hlt ⊢
  have e := wordsF_at hv hk hlt
  refine ⟨e, by unfold wordsF; simp; omega, ?_⟩
  rw [e, wordsF_take hv]
theorem pf_place {l t : List UInt8} {k i : Nat} (h : (cutL 32 l)[k + 1 + i]? = some t) {f0 : FwT} (hv : isFwB f0 = true) (hl : l = fmtF f0) (hk : k = f0.2.1.length + 1) : ∃ x, f0.2.2[i]? = some x ∧ cutL 44 t = [fmtI x.1, fmtI x.2] ∧ 0 ≤ x.1 ∧ x.1 < 10 ∧ 0 ≤ x.2 ∧ x.2 < 10 := by
  obtain ⟨h1, h2⟩ := okF hv
  rw [hl, fmtF_cut hv, hk, wordsF_place, List.getElem?_map] at h
  cases hx : f0.2.2[i]? with
  | none => rw [hx] at h; simp at h
  | some x =>
    rw [hx] at h
    simp only [Option.map_some, Option.some.injEq] at h
    subst h
    have hb := h2 x (List.mem_of_getElem? hx)
    exact ⟨x, rfl, tx_cut (by decide) hb, hb⟩
theorem pf_two {l t : List UInt8} {k i : Nat} (h : (cutL 32 l)[k + 1 + i]? = some t) {f0 : FwT} (hv : isFwB f0 = true) (hl : l = fmtF f0) (hk : k = f0.2.1.length + 1) : (cutL 44 t).length = 2 := by
  obtain ⟨x, _, e, _⟩ := pf_place h hv hl hk
  rw [e]; rfl
theorem pf_step {l t u v : List UInt8} {k i : Nat} {x1 x2 : Int} (h : (cutL 32 l)[k + 1 + i]? = some t) (hu : (cutL 44 t)[0]? = some u) (hv2 : (cutL 44 t)[1]? = some v) (n1 : Nm u x1) (n2 : Nm v x2) {ps : List PlaceT} {f0 : FwT} (hv : isFwB f0 = true) (hl : l = fmtF f0) (hk : k = f0.2.1.length + 1) (ih : ps = f0.2.2.take i) : ps ++ [(x1, x2)] = f0.2.2.take (i + 1) := by
  obtain ⟨x, hx, e, hb⟩ := pf_place h hv hl hk
  rw [e] at hu hv2
  simp only [List.getElem?_cons_zero, List.getElem?_cons_succ, Option.some.injEq] at hu hv2
  subst hu
  subst hv2
  rw [take_succ_of hx, ih, n1.fmt hb.1 hb.2.1, n2.fmt hb.2.2.1 hb.2.2.2]
theorem pf_valid {l : List UInt8} {k : Nat} (h : (cutL 32 l)[k]? = some [97, 116]) {f : FwT} (e : fmtF f = l) : isFwB f = true := by
  cases hb : isFwB f with
  | true => rfl
  | false =>
    unfold fmtF at e
    rw [hb] at e
    simp at e
    subst e
    exfalso
    have : cutL 32 [] = [[]] := rfl
    rw [this] at h
    cases k with
    | zero => simp at h
    | succ k => simp at h
theorem pf_count {l : List UInt8} {k : Nat} (hk : k ≤ (cutL 32 l).length) : (jnTo [32] (cutL 32 l) k).count 32 = k - 1 := jn_count (fun t ht => (cutL_mem ht).2) k hk

/-- the cells of a framework that stands for a result -/
def Zer3' (w : World) (g : Nat) : Prop := (∃ a b c, w.cell? ⟨g, 0, none⟩ = some (.int .i64 a) ∧ w.cell? ⟨g, 1, none⟩ = some (.slice none b c) ∧ w.cell? ⟨g, 2, none⟩ = some (.slice none b c)) ∧ (w.frozen? ⟨g, 0, none⟩ = false ∧ w.frozen? ⟨g, 1, none⟩ = false ∧ w.frozen? ⟨g, 2, none⟩ = false) ∧ g < w.heap.size
theorem Zer3'.at (w : World) (ty : TypeId) : Zer3' (w.alloc (.cells #[.int .i64 0, .slice none 0 0, .slice none 0 0] ty)) w.heap.size :=
  ⟨⟨0, 0, 0, by simp [World.cell?_alloc_new], by simp [World.cell?_alloc_new], by simp [World.cell?_alloc_new]⟩, ⟨by simp [World.frozen?_alloc_new], by simp [World.frozen?_alloc_new], by simp [World.frozen?_alloc_new]⟩, by simp⟩
theorem Zer3'.kept {S : Nat → Prop} {w w' : World} {g : Nat} (h : Zer3' w g) (hk : Kept S w w') (hs : ¬ S g) : Zer3' w' g := by
  obtain ⟨⟨a, b, c, c0, c1, c2⟩, ⟨f0, f1, f2⟩, hz⟩ := h
  exact ⟨⟨a, b, c, (hk.cell hz hs).trans c0, (hk.cell hz hs).trans c1, (hk.cell hz hs).trans c2⟩, ⟨(hk.frozen hz hs).trans f0, (hk.frozen hz hs).trans f1, (hk.frozen hz hs).trans f2⟩, Nat.lt_of_lt_of_le hz hk.size⟩
theorem Zer3'.below {w w' : World} {g : Nat} (h : Zer3' w g) (hb : Below w.heap.size w w') : Zer3' w' g := h.kept (Kept.of_below (S := fun _ => False) hb) id
/-- a framework laid into the place of the result -/
theorem laid3' {W w : World} {p : Int} {ab ap : Option Addr} {cb cp lo g : Nat} {l : List BarT} {q : List PlaceT} (hb : OwnBars w lo (.slice ab l.length cb) l) (hp : OwnPlaces w lo (.slice ap q.length cp) q) (hg : W.heap.size ≤ g) (hgl : g < lo) (hlo : W.heap.size ≤ lo) (hbe : Below W.heap.size W w) :
    OwnFw (((w.setCell ⟨g, 0, none⟩ (.int .i64 p)).setCell ⟨g, 1, none⟩ (.slice ab l.length cb)).setCell ⟨g, 2, none⟩ (.slice ap q.length cp)) W.heap.size (.agg #[.int .i64 p, .slice ab l.length cb, .slice ap q.length cp]) (p, l, q)
    ∧ Below W.heap.size W (((w.setCell ⟨g, 0, none⟩ (.int .i64 p)).setCell ⟨g, 1, none⟩ (.slice ab l.length cb)).setCell ⟨g, 2, none⟩ (.slice ap q.length cp)) :=
  ⟨⟨.slice ab l.length cb, .slice ap q.length cp, ⟨ab, cb, ap, cp, rfl, rfl, rfl⟩, ownsRow_base (((hb.set (by simp; omega) _).set (by simp; omega) _).set (by simp; omega) _) hlo, ownsRow_base (((hp.set (by simp; omega) _).set (by simp; omega) _).set (by simp; omega) _) hlo⟩, ((hbe.setCell (by simp; omega) _).setCell (by simp; omega) _).setCell (by simp; omega) _⟩
/-- a framework boxed at g, its three cells not frozen -/
def BoxT (w : World) (g : Nat) (p : Int) (vb vp : Value) : Prop := g < w.heap.size ∧ (w.cell? ⟨g, 0, none⟩ = some (.int .i64 p) ∧ w.cell? ⟨g, 1, none⟩ = some vb ∧ w.cell? ⟨g, 2, none⟩ = some vp) ∧ (w.frozen? ⟨g, 0, none⟩ = false ∧ w.frozen? ⟨g, 1, none⟩ = false ∧ w.frozen? ⟨g, 2, none⟩ = false)
theorem BoxT.kept {S : Nat → Prop} {w w' : World} {g : Nat} {p : Int} {vb vp : Value} (h : BoxT w g p vb vp) (hk : Kept S w w') (hs : ¬ S g) : BoxT w' g p vb vp := by
  obtain ⟨hz, ⟨c0, c1, c2⟩, f0, f1, f2⟩ := h
  exact ⟨Nat.lt_of_lt_of_le hz hk.size, ⟨(hk.cell hz hs).trans c0, (hk.cell hz hs).trans c1, (hk.cell hz hs).trans c2⟩, (hk.frozen hz hs).trans f0, (hk.frozen hz hs).trans f1, (hk.frozen hz hs).trans f2⟩
theorem BoxT.below {w w' : World} {g : Nat} {p : Int} {vb vp : Value} (h : BoxT w g p vb vp) (hb : Below w.heap.size w w') : BoxT w' g p vb vp := h.kept (Kept.of_below (S := fun _ => False) hb) id
theorem BoxT.at {w : World} {g : Nat} {p : Int} {vb vp : Value} {ty : TypeId} (hg : g = w.heap.size) : BoxT (w.alloc (.cells #[.int .i64 p, vb, vp] ty)) g p vb vp := by
  subst hg
  exact ⟨by simp, ⟨by simp [World.cell?_alloc_new], by simp [World.cell?_alloc_new], by simp [World.cell?_alloc_new]⟩, by simp [World.frozen?_alloc_new], by simp [World.frozen?_alloc_new], by simp [World.frozen?_alloc_new]⟩
theorem BoxT.set2 {w : World} {g : Nat} {p : Int} {vb vp vn : Value} (h : BoxT w g p vb vp) : BoxT (w.setCell ⟨g, 2, none⟩ vn) g p vb vn := by
  obtain ⟨hz, ⟨c0, c1, c2⟩, f0, f1, f2⟩ := h
  exact ⟨by simpa using hz, ⟨(World.cell?_setCell_other _ _ _ _ (by simp)).trans c0, (World.cell?_setCell_other _ _ _ _ (by simp)).trans c1, World.cell?_setCell_same _ _ _ c2⟩, by rw [World.frozen?_setCell]; exact f0, by rw [World.frozen?_setCell]; exact f1, by rw [World.frozen?_setCell]; exact f2⟩
theorem BoxT.set01 {w : World} {g : Nat} {p n : Int} {vb vp vn : Value} (h : BoxT w g p vb vp) : BoxT ((w.setCell ⟨g, 0, none⟩ (.int .i64 n)).setCell ⟨g, 1, none⟩ vn) g n vn vp := by
  obtain ⟨hz, ⟨c0, c1, c2⟩, f0, f1, f2⟩ := h
  exact ⟨by simpa using hz, ⟨(World.cell?_setCell_other _ _ _ _ (by simp)).trans (World.cell?_setCell_same _ _ _ c0), World.cell?_setCell_same _ _ _ ((World.cell?_setCell_other _ _ _ _ (by simp)).trans c1), (World.cell?_setCell_other _ _ _ _ (by simp)).trans ((World.cell?_setCell_other _ _ _ _ (by simp)).trans c2)⟩, by rw [World.frozen?_setCell, World.frozen?_setCell]; exact f0, by rw [World.frozen?_setCell, World.frozen?_setCell]; exact f1, by rw [World.frozen?_setCell, World.frozen?_setCell]; exact f2⟩
end Go.Proofs.Ytnjecekaenddiaa
