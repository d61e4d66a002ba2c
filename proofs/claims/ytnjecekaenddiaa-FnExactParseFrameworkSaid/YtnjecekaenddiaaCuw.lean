/- Reslices of texts, and how much room the parts of a text need. No condition but those named. -/
import Derived.Test.YtnjecekaenddiaaPrs1
import Derived.OwnWalk
namespace Go.Proofs.Ytnjecekaenddiaa
open Go.RowKit
set_option maxRecDepth 100000
set_option linter.unusedVariables false
set_option linter.unusedSimpArgs false

/-- a reslice from a place on -/
theorem cutW {g n m j cw : Nat} {ji : Int} (hji : ji = (j : Int)) (hn : n = m + j) (hj : 0 < j) (hc : n ≤ cw) (hm : cw ≤ 9223372036854775807) : ∃ o' c', (∀ w, (Instr.slice 60 (.slice (some ⟨g, 0, none⟩) n cw) (some (.int .i64 ji)) none none).run Try.prog w = .ok (.slice (some ⟨g, o', none⟩) m c') w) ∧ (0 < m → o' = j) := by
  subst hji
  subst hn
  by_cases h : cw = j
  · have hm0 : m = 0 := by omega
    subst hm0
    subst h
    refine ⟨0, 0, fun w => ?_, fun h => absurd h (by omega)⟩
    go_simp
  · refine ⟨j, cw - j, fun w => ?_, fun _ => rfl⟩
    go_simp
    omega
theorem cutWto {g n j cw : Nat} {ji : Int} (hji : ji = (j : Int)) (hn : j ≤ n) (hc : n ≤ cw) (hm : cw ≤ 9223372036854775807) (w : World) : (Instr.slice 60 (.slice (some ⟨g, 0, none⟩) n cw) none (some (.int .i64 ji)) none).run Try.prog w = .ok (.slice (some ⟨g, 0, none⟩) j cw) w := by
  subst hji
  go_simp
  intro h
  omega
theorem OwnStrs.cap {W : World} {base : Nat} {g n c : Nat} {l : List (List UInt8)} (h : OwnStrs W base (.slice (some ⟨g, 0, none⟩) n c) l) : n ≤ c ∧ c ≤ 9223372036854775807 := by
  rcases h.2 with ⟨h1, h0⟩ | ⟨g', cap, cur, h1, hb, hg, h2⟩
  · simp at h1
  · simp at h1
    have : maxLen = 9223372036854775807 := rfl
    omega
theorem cutF_room (b : UInt8) (l : List UInt8) : (∀ t ∈ (cutF b l).1, t.length + l.count b ≤ l.length) ∧ (cutF b l).2.length + l.count b ≤ l.length := by
  induction l using snoc_ind with
  | h0 => simp [cutF]
  | h1 l c ih =>
    obtain ⟨h3, h2⟩ := ih
    rw [cutF_snoc, cutStep]
    split
    · next h =>
      subst h
      refine ⟨?_, by simp; have := List.count_le_length (a := c) (l := l); omega⟩
      intro t ht
      simp at ht
      rcases ht with ht | rfl
      · have := h3 t ht; simp; omega
      · simp; omega
    · next h =>
      refine ⟨?_, by simp [h]; omega⟩
      intro t ht
      have := h3 t ht; simp [h]; omega
theorem cutL_room {b : UInt8} {l t : List UInt8} (h : t ∈ cutL b l) : t.length + l.count b ≤ l.length := by
  unfold cutL at h
  simp at h
  rcases h with h | rfl
  · exact (cutF_room b l).1 t h
  · exact (cutF_room b l).2
end Go.Proofs.Ytnjecekaenddiaa
