/- A list of steps from bare points, in plain words; what the loop over them holds. No condition. -/
import Derived.Test.YtmfeabfbhaiaeaaStb
import Derived.Test.YtmfeabfbhaiaeaaSteps
namespace Go.Proofs.Ytmfeabfbhaiaeaa
open Go.RowKit
set_option maxRecDepth 100000
set_option linter.unusedVariables false
set_option linter.unusedSimpArgs false

def bldTo (n : Int) (l : List StepT) : Nat → Option GraphT
  | 0 => some (n, [])
  | k + 1 => match bldTo n l k, l[k]? with
    | some g, some s => if (stepF g s).2 = true then some (stepF g s).1 else none
    | _, _ => none
def bldF (n : Int) (l : List StepT) : GraphT × Bool :=
  if inB n 1 8 = true then match bldTo n l l.length with
    | some g => (g, true)
    | none => ((0, []), false)
  else ((0, []), false)
theorem bldTo_none {n : Int} {l : List StepT} {k : Nat} (h : bldTo n l k = none) : ∀ d, bldTo n l (k + d) = none
  | 0 => h
  | d + 1 => by
    show (match bldTo n l (k + d), l[k + d]? with
      | some g, some s => if (stepF g s).2 = true then some (stepF g s).1 else none
      | _, _ => none) = none
    rw [bldTo_none h d]
theorem bldTo_yes {n : Int} {l : List StepT} {k : Nat} {g : GraphT} {s : StepT} (h : bldTo n l k = some g) (hs : l[k]? = some s) (ho : (stepF g s).2 = true) : bldTo n l (k + 1) = some (stepF g s).1 := by
  show (match bldTo n l k, l[k]? with
      | some g, some s => if (stepF g s).2 = true then some (stepF g s).1 else none
      | _, _ => none) = _
  rw [h, hs]
  exact if_pos ho
theorem bldTo_no {n : Int} {l : List StepT} {k : Nat} {g : GraphT} {s : StepT} (h : bldTo n l k = some g) (hs : l[k]? = some s) (ho : (stepF g s).2 = false) : bldTo n l l.length = none := by
  have hk := lt_of_getElem? hs
  have h1 : bldTo n l (k + 1) = none := by
    show (match bldTo n l k, l[k]? with
      | some g, some s => if (stepF g s).2 = true then some (stepF g s).1 else none
      | _, _ => none) = none
    rw [h, hs]
    exact if_neg (by rw [ho]; simp)
  have h2 := bldTo_none h1 (l.length - (k + 1))
  rwa [show k + 1 + (l.length - (k + 1)) = l.length by omega] at h2
theorem stepF_24 (g : GraphT) (s : StepT) (h : g.2.length ≤ 24) : (stepF g s).1.2.length ≤ 24 := by
  have h1 := stepF_len g s
  by_cases hl : g.2.length ≤ 21
  · omega
  · have e : stepF g s = (g, false) := by unfold stepF; rw [decide_eq_false hl, Bool.and_false]; rfl
    rw [e]; exact h
theorem bldTo_24 {n : Int} {l : List StepT} : ∀ {k : Nat} {g : GraphT}, bldTo n l k = some g → g.2.length ≤ 24
  | 0, g, h => by cases h; exact Nat.zero_le _
  | k + 1, g, h => by
    have h' : (match bldTo n l k, l[k]? with
      | some g, some s => if (stepF g s).2 = true then some (stepF g s).1 else none
      | _, _ => none) = some g := h
    cases e1 : bldTo n l k with
    | none => rw [e1] at h'; cases h'
    | some g0 =>
      cases e2 : l[k]? with
      | none => rw [e1, e2] at h'; cases h'
      | some s =>
        rw [e1, e2] at h'
        dsimp only at h'
        split at h'
        · have := Option.some.inj h'
          rw [← this]
          exact stepF_24 g0 s (bldTo_24 e1)
        · cases h'
theorem bldF_sz (n : Int) (l : List StepT) : szGraph (bldF n l).1 ≤ 24 := by
  unfold bldF
  split
  · cases e : bldTo n l l.length with
    | none => exact Nat.zero_le _
    | some g => exact bldTo_24 e
  · exact Nat.zero_le _
/-- a graph in a box of the call's own -/
structure BldS (W w : World) (G base : Nat) (p : Int) (a : Option Addr) (c : Nat) (l : List BarT) : Prop where
  bx : BoxGr w G p a l.length c
  f0 : w.frozen? ⟨G, 0, none⟩ = false
  f1 : w.frozen? ⟨G, 1, none⟩ = false
  ob : OwnBars w base (.slice a l.length c) l
  wl : W.heap.size ≤ G
  rz : Zer2 w W.heap.size
  b : Below W.heap.size W w
  sz : base ≤ w.heap.size
theorem BldS.below {W w w' : World} {G base : Nat} {p : Int} {a : Option Addr} {c : Nat} {l : List BarT} (h : BldS W w G base p a c l) (hb : Below w.heap.size w w') : BldS W w' G base p a c l :=
  ⟨h.bx.below hb, ((bcell hb).2 _ _ h.bx.1).trans h.f0, ((bcell hb).2 _ _ h.bx.1).trans h.f1, h.ob.below hb, h.wl, h.rz.below hb, h.b.step hb, Nat.le_trans h.sz hb.size⟩
/-- the graph in the box is changed for another one of the call's own -/
theorem BldS.set {W w : World} {G base lo : Nat} {p p' : Int} {a a' : Option Addr} {c c' : Nat} {l l' : List BarT} (h : BldS W w G base p a c l) (hG : G ≠ W.heap.size) (ho : OwnBars w lo (.slice a' l'.length c') l') (hlo : base ≤ lo) (hgb : G < lo) :
    BldS W ((w.setCell ⟨G, 0, none⟩ (.int .i64 p')).setCell ⟨G, 1, none⟩ (.slice a' l'.length c')) G base p' a' c' l' := by
  obtain ⟨r1, r2, r3, rk⟩ := reBox (q := p') (a' := a') (n' := l'.length) (c' := c') h.bx h.f0 h.f1
  have hwl := h.wl
  exact ⟨r1, r2, r3, ((ho.set (p := ⟨G, 0, none⟩) (by simp; omega) _).set (p := ⟨G, 1, none⟩) (by simp; omega) _).low hlo, h.wl, h.rz.kept rk (fun e => hG e.symm), (h.b.setCell (p := ⟨G, 0, none⟩) (by simp; exact h.wl) _).setCell (p := ⟨G, 1, none⟩) (by simp; exact h.wl) _, Nat.le_trans h.sz rk.size⟩
end Go.Proofs.Ytmfeabfbhaiaeaa
