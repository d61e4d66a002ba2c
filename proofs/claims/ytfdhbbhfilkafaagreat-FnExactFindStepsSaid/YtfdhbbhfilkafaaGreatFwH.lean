/- The law's helpers on graphs and frameworks. No condition but sizes. -/
import Derived.Test.YtfdhbbhfilkafaaGreatFw
namespace Go.Proofs.YtfdhbbhfilkafaaGreat
open Go.RowKit
set_option maxRecDepth 100000
set_option linter.unusedVariables false
set_option linter.unusedSimpArgs false

theorem OwnBars.set {W : World} {base : Nat} {v : Value} {l : List BarT} (h : OwnBars W base v l) {p : Addr} (hp : p.block < base) (u : Value) : OwnBars (W.setCell p u) base v l := ownsRow_setCell_below h hp u
theorem OwnBars.low {W : World} {base base' : Nat} {v : Value} {l : List BarT} (h : OwnBars W base v l) (hb : base' ≤ base) : OwnBars W base' v l := ownsRow_base h hb
theorem OwnBars.below {W W' : World} {base : Nat} {v : Value} {l : List BarT} (h : OwnBars W base v l) (hb : Below W.heap.size W W') : OwnBars W' base v l := Below.ownsRow hb h
set_option maxHeartbeats 2000000 in
theorem toGraph_h (W : World) (v : Value) (g : GraphT) (h : IsGraph W v g) (hn : szGraph g ≤ 1048576) : Calls Tryz.prog 47 #[v] W (RetGraph W g) := by
  obtain ⟨p, l⟩ := g
  obtain ⟨a, cap, rfl, hi⟩ := h
  have HI := Lib.hid hi
  clear hi
  have hn' : l.length ≤ 1048576 := hn
  dsimp only
  go_enter Tryz.func47, Tryz.ntmps47
  go_wp2_with fail
  refine (toBars_any a l.length cap l _ (HI.out.below (by repeat (first | exact Below.refl _ _ | refine Below.setCell ?_ (by simp) _ | refine Below.alloc ?_ (by simp <;> omega) _))) (by omega)).mono ?_
  rintro e w1 ⟨vb, rfl, ob, b1⟩
  obtain ⟨ab, cb, rfl, ib⟩ := ob.form
  obtain ⟨hc, hf⟩ := bcell b1
  have hz : W.heap.size + 1 + 1 < w1.heap.size := by have := b1.size; simp at this; omega
  go_wp2_with fail
  refine bodyPost_ret (v := .agg #[.int .i64 p, .slice ab l.length cb]) (by simp [results, Tryz.results47, go_sem, hc, hz]) rfl ⟨_, rfl, ⟨.slice ab l.length cb, ⟨ab, cb, rfl, rfl⟩, ?_⟩, ?_⟩
  · exact (((ob.set (by simp) _).set (by simp) _).set (by simp) _).low (by simp; omega)
  · have b2 := ((((Below.refl W.heap.size W).alloc (Nat.le_refl _) (.cells #[.int .i64 p, .slice a l.length cap] 65)).alloc (by simp) (.cells #[.int .i64 0, .slice none 0 0] 26)).alloc (by simp; omega) (.cells #[.int .i64 p, .slice none 0 0] 26)).trans (b1.mono (by simp; omega))
    exact ((b2.setCell (by simp; omega) _).setCell (by simp) _).setCell (by simp) _

set_option maxHeartbeats 2000000 in
theorem eqGraph_any (W : World) (v v' : Value) (g g' : GraphT) (h : IsGraph W v g) (h' : IsGraph W v' g') (hn : szGraph g ≤ 1099511627776) : Calls Tryz.prog 49 #[v, v'] W fun e w' => e = .returned (.bool (decide (g = g'))) ∧ Below W.heap.size W w' := by
  obtain ⟨p, l⟩ := g
  obtain ⟨p', l'⟩ := g'
  obtain ⟨a, cap, rfl, hi⟩ := h
  obtain ⟨a', cap', rfl, hi'⟩ := h'
  have HI := Lib.hid hi
  have HI' := Lib.hid hi'
  clear hi hi'
  have hn' : l.length ≤ 1099511627776 := hn
  dsimp only
  by_cases hp : p = p'
  · subst hp
    go_enter Tryz.func49, Tryz.ntmps49
    go_wp2_with fail
    refine (eqBars_any _ _ _ _ _ _ _ _ _ (HI.out.below (by repeat (first | exact Below.refl _ _ | refine Below.alloc ?_ (by simp <;> omega) _))) (HI'.out.below (by repeat (first | exact Below.refl _ _ | refine Below.alloc ?_ (by simp <;> omega) _))) (by omega)).mono ?_
    rintro e w1 ⟨rfl, b1⟩
    have b2 := ((((Below.refl W.heap.size W).alloc (Nat.le_refl _) (.cells #[.int .i64 p, .slice a l.length cap] 26)).alloc (by simp) (.cells #[.int .i64 p, .slice a' l'.length cap'] 26))).trans (b1.mono (by simp; omega))
    by_cases hl : l = l'
    · have hd : decide (l = l') = true := decide_eq_true hl
      have hd2 : decide ((p, l) = (p, l')) = true := by simp [hl]
      have HD2 := Lib.hid hd2
      rw [hd]
      clear hl hd hd2
      go_wp2_with fail
      go_ret
      exact ⟨by rw [HD2.out]; try rfl, b2⟩
    · have hd : decide (l = l') = false := decide_eq_false hl
      have hd2 : decide ((p, l) = (p, l')) = false := by simp [hl]
      have HD2 := Lib.hid hd2
      rw [hd]
      clear hl hd hd2
      go_wp2_with fail
      go_ret
      exact ⟨by rw [HD2.out]; try rfl, b2⟩
  · have hne : (p != p') = true := by simpa using hp
    have hd2 : (decide (p = p') && decide (l = l')) = false := by simp [hp]
    have HD2 := Lib.hid hd2
    clear hp hd2
    go_enter Tryz.func49, Tryz.ntmps49
    go_wp2_with fail
    go_ret
    exact ⟨by rw [HD2.out]; try rfl, ((Below.refl W.heap.size W).alloc (Nat.le_refl _) _).alloc (by simp) _⟩
theorem eqGraph_h (W : World) (v v' : Value) (g : GraphT) (h : IsGraph W v g) (h' : IsGraph W v' g) (hn : szGraph g ≤ 1099511627776) : Calls Tryz.prog 49 #[v, v'] W fun e w' => e = .returned (.bool true) ∧ Below W.heap.size W w' :=
  (eqGraph_any W v v' g g h h' hn).mono fun _ _ ⟨he, hb⟩ => ⟨by rw [he]; simp, hb⟩

set_option maxHeartbeats 2000000 in
theorem szGraph_h (W : World) (v : Value) (g : GraphT) (k : Int) (h : IsGraph W v g) (hn : OkGraph g) (hk0 : 0 ≤ k) (hk : k ≤ 1048576) :
    Calls Tryz.prog 46 #[v, .int .i64 k] W fun e w' => e = .returned (.int .i64 (szRes k (szGraph g))) ∧ Below W.heap.size W w' := by
  obtain ⟨p, l⟩ := g
  obtain ⟨a, cap, rfl, hi⟩ := h
  have hn1 : l.length ≤ 9223372036854775807 := hn.2.1
  clear hi hn
  dsimp only
  have HB : Hid (Below W.heap.size W (W.alloc (.cells #[.int .i64 p, .slice a l.length cap] 65))) := (Below.refl _ _).alloc (Nat.le_refl _) _
  by_cases hlt : k < l.length
  · have HS := Lib.hid (szRes_pos hlt)
    go_enter Tryz.func46, Tryz.ntmps46
    go_wp2_with fail
    refine (szBars_any _ _ _ _ _ hn1 hk0 hk).mono ?_
    rintro e w1 ⟨rfl, rfl⟩
    rw [HS.out]
    go_wp2_with fail
    go_ret
    exact ⟨by unfold szGraph; rw [HS.out]; try rfl, HB.out⟩
  · have HS := Lib.hid (szRes_neg hlt)
    go_enter Tryz.func46, Tryz.ntmps46
    go_wp2_with fail
    refine (szBars_any _ _ _ _ _ hn1 hk0 hk).mono ?_
    rintro e w1 ⟨rfl, rfl⟩
    rw [HS.out]
    go_wp2_with fail
    go_ret
    exact ⟨by unfold szGraph; rw [HS.out]; try rfl, HB.out⟩



end Go.Proofs.YtfdhbbhfilkafaaGreat
