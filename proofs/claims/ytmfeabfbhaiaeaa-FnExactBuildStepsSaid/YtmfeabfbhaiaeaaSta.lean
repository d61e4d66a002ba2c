/- ApplyStep of both sides: one step on a graph, as stepF says. No condition but sizes and, for the reference, room behind the bars. -/
import Derived.Test.YtmfeabfbhaiaeaaStp7
import Derived.Test.YtmfeabfbhaiaeaaStq7
import Derived.Test.YtmfeabfbhaiaeaaStr7
import Derived.Test.YtmfeabfbhaiaeaaStp8
import Derived.Test.YtmfeabfbhaiaeaaStq8
import Derived.Test.YtmfeabfbhaiaeaaStr8
namespace Go.Proofs.Ytmfeabfbhaiaeaa
open Go.RowKit
set_option maxRecDepth 100000
set_option linter.unusedVariables false
set_option linter.unusedSimpArgs false

def stepV (s : StepT) : Value := .agg #[.int .i64 s.1, .int .i64 s.2.1, .int .i64 s.2.2.1, .int .i64 s.2.2.2.1, .int .i64 s.2.2.2.2]
theorem specApp_all (W : World) (p : Int) (a : Option Addr) (cap : Nat) (l : List BarT) (h : BarsAt W a l.length l) (hs : l.length ≤ 1048576) (hcap : l.length ≤ cap) (hcm : cap ≤ 9223372036854775807) (s : StepT) :
    Calls Try.prog 22 #[.agg #[.int .i64 p, .slice a l.length cap], stepV s] W (RetGB W (stepF (p, l) s).1 (stepF (p, l) s).2) := by
  obtain ⟨kd, pt, x, y, z⟩ := s
  by_cases hb : isGraphB (p, l) = false ∨ 21 < l.length
  · exact specAppG W p a cap l h hs hcap hcm kd pt x y z hb
  have hg : isGraphB (p, l) = true := by
    cases e : isGraphB (p, l)
    · exact absurd (.inl e) hb
    · rfl
  have hl : l.length ≤ 21 := by
    by_cases e : 21 < l.length
    · exact absurd (.inr e) hb
    · omega
  cases k0 : (kd == 0)
  · cases k1 : (kd == 1)
    · cases k2 : (kd == 2)
      · exact specApp3 W p a cap l h hs hcap hcm kd pt x y z hg hl k0 k1 k2
      · exact specApp2 W p a cap l h hs hcap hcm kd pt x y z hg hl k0 k1 k2
    · have k2 : (kd == 2) = false := by have := eq_of_beq k1; rw [this]; rfl
      exact specApp1 W p a cap l h hs hcap hcm kd pt x y z hg hl k0 k1 k2
  · have k1 : (kd == 1) = false := by have := eq_of_beq k0; rw [this]; rfl
    have k2 : (kd == 2) = false := by have := eq_of_beq k0; rw [this]; rfl
    exact specApp0 W p a cap l h hs hcap hcm kd pt x y z hg hl k0 k1 k2
theorem implApp_all (W : World) (p : Int) (a : Option Addr) (cap : Nat) (l : List BarT) (h : BarsAt W a l.length l) (hs : l.length ≤ 1048576) (s : StepT) :
    Calls Try.prog 24 #[.agg #[.int .i64 p, .slice a l.length cap], stepV s] W (RetGB W (stepF (p, l) s).1 (stepF (p, l) s).2) := by
  obtain ⟨kd, pt, x, y, z⟩ := s
  by_cases hb : isGraphB (p, l) = false ∨ 21 < l.length
  · exact implAppG W p a cap l h hs kd pt x y z hb
  have hg : isGraphB (p, l) = true := by
    cases e : isGraphB (p, l)
    · exact absurd (.inl e) hb
    · rfl
  have hl : l.length ≤ 21 := by
    by_cases e : 21 < l.length
    · exact absurd (.inr e) hb
    · omega
  cases k0 : (kd == 0)
  · cases k1 : (kd == 1)
    · cases k2 : (kd == 2)
      · exact implApp3 W p a cap l h hs kd pt x y z hg hl k0 k1 k2
      · exact implApp2 W p a cap l h hs kd pt x y z hg hl k0 k1 k2
    · have k2 : (kd == 2) = false := by have := eq_of_beq k1; rw [this]; rfl
      exact implApp1 W p a cap l h hs kd pt x y z hg hl k0 k1 k2
  · have k1 : (kd == 1) = false := by have := eq_of_beq k0; rw [this]; rfl
    have k2 : (kd == 2) = false := by have := eq_of_beq k0; rw [this]; rfl
    exact implApp0 W p a cap l h hs kd pt x y z hg hl k0 k1 k2
theorem spec_ApplyStep (W : World) (v : Value) (g : GraphT) (h : ∃ lo hi, HGraph W lo hi v g) (s : StepT) (hs : szGraph g ≤ 1048576) : Calls Try.prog 22 #[v, stepV s] W (RetGB W (stepF g s).1 (stepF g s).2) := by
  obtain ⟨p, l⟩ := g
  obtain ⟨lo, hi, vb, ⟨a, cap, rfl, rfl⟩, ho⟩ := h
  obtain ⟨hc, hm⟩ := ho.1.cap
  obtain ⟨a9, c9, e9, i9⟩ := ho.1.form
  simp at e9
  obtain ⟨rfl, rfl⟩ := e9
  exact specApp_all W p a cap l i9 hs hc hm s
theorem impl_ApplyStep (W : World) (v : Value) (g : GraphT) (h : IsGraph W v g) (s : StepT) (hs : szGraph g ≤ 1048576) : Calls Try.prog 24 #[v, stepV s] W (RetGB W (stepF g s).1 (stepF g s).2) := by
  obtain ⟨p, l⟩ := g
  obtain ⟨a, cap, rfl, hi⟩ := h
  exact implApp_all W p a cap l hi hs s
end Go.Proofs.Ytmfeabfbhaiaeaa
