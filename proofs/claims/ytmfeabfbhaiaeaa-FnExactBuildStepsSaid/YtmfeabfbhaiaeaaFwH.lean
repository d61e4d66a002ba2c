/- The law's helpers on graphs and frameworks. No condition but sizes. -/
import Derived.Test.YtmfeabfbhaiaeaaFw
namespace Go.Proofs.Ytmfeabfbhaiaeaa
open Go.RowKit
set_option maxRecDepth 100000
set_option linter.unusedVariables false
set_option linter.unusedSimpArgs false

theorem OwnBars.set {W : World} {base : Nat} {v : Value} {l : List BarT} (h : OwnBars W base v l) {p : Addr} (hp : p.block < base) (u : Value) : OwnBars (W.setCell p u) base v l := ownsRow_setCell_below h hp u
theorem OwnPlaces.set {W : World} {base : Nat} {v : Value} {l : List PlaceT} (h : OwnPlaces W base v l) {p : Addr} (hp : p.block < base) (u : Value) : OwnPlaces (W.setCell p u) base v l := ownsRow_setCell_below h hp u
theorem OwnBars.low {W : World} {base base' : Nat} {v : Value} {l : List BarT} (h : OwnBars W base v l) (hb : base' ≤ base) : OwnBars W base' v l := ownsRow_base h hb
theorem OwnPlaces.low {W : World} {base base' : Nat} {v : Value} {l : List PlaceT} (h : OwnPlaces W base v l) (hb : base' ≤ base) : OwnPlaces W base' v l := ownsRow_base h hb
theorem OwnBars.below {W W' : World} {base : Nat} {v : Value} {l : List BarT} (h : OwnBars W base v l) (hb : Below W.heap.size W W') : OwnBars W' base v l := Below.ownsRow hb h
theorem OwnPlaces.below {W W' : World} {base : Nat} {v : Value} {l : List PlaceT} (h : OwnPlaces W base v l) (hb : Below W.heap.size W W') : OwnPlaces W' base v l := Below.ownsRow hb h

set_option maxHeartbeats 2000000 in
theorem toGraph_h (W : World) (v : Value) (g : GraphT) (h : IsGraph W v g) (hn : szGraph g ≤ 1048576) : Calls Try.prog 15 #[v] W (RetGraph W g) := by
  obtain ⟨p, l⟩ := g
  obtain ⟨a, cap, rfl, hi⟩ := h
  have HI := Lib.hid hi
  clear hi
  have hn' : l.length ≤ 1048576 := hn
  dsimp only
  go_enter Try.func15, Try.ntmps15
  go_wp2_with fail
  refine (toBars_any a l.length cap l _ (HI.out.below (by repeat (first | exact Below.refl _ _ | refine Below.setCell ?_ (by simp) _ | refine Below.alloc ?_ (by simp <;> omega) _))) (by omega)).mono ?_
  rintro e w1 ⟨vb, rfl, ob, b1⟩
  obtain ⟨ab, cb, rfl, ib⟩ := ob.form
  obtain ⟨hc, hf⟩ := bcell b1
  have hz : W.heap.size + 1 + 1 < w1.heap.size := by have := b1.size; simp at this; omega
  go_wp2_with fail
  refine bodyPost_ret (v := .agg #[.int .i64 p, .slice ab l.length cb]) (by simp [results, Try.results15, go_sem, hc, hz]) rfl ⟨_, rfl, ⟨.slice ab l.length cb, ⟨ab, cb, rfl, rfl⟩, ?_⟩, ?_⟩
  · exact (((ob.set (by simp) _).set (by simp) _).set (by simp) _).low (by simp; omega)
  · have b2 := ((((Below.refl W.heap.size W).alloc (Nat.le_refl _) (.cells #[.int .i64 p, .slice a l.length cap] 24)).alloc (by simp) (.cells #[.int .i64 0, .slice none 0 0] 32)).alloc (by simp; omega) (.cells #[.int .i64 p, .slice none 0 0] 32)).trans (b1.mono (by simp; omega))
    exact ((b2.setCell (by simp; omega) _).setCell (by simp) _).setCell (by simp) _

set_option maxHeartbeats 2000000 in
theorem eqGraph_any (W : World) (v v' : Value) (g g' : GraphT) (h : IsGraph W v g) (h' : IsGraph W v' g') (hn : szGraph g ≤ 1099511627776) : Calls Try.prog 18 #[v, v'] W fun e w' => e = .returned (.bool (decide (g = g'))) ∧ Below W.heap.size W w' := by
  obtain ⟨p, l⟩ := g
  obtain ⟨p', l'⟩ := g'
  obtain ⟨a, cap, rfl, hi⟩ := h
  obtain ⟨a', cap', rfl, hi'⟩ := h'
  have HI := Lib.hid hi
  have HI' := Lib.hid hi'
  clear hi hi'
  have hn' : l.length ≤ 1099511627776 := hn
  dsimp only
  by_cases hp : p = p'
  · subst hp
    go_enter Try.func18, Try.ntmps18
    go_wp2_with fail
    refine (eqBars_any _ _ _ _ _ _ _ _ _ (HI.out.below (by repeat (first | exact Below.refl _ _ | refine Below.alloc ?_ (by simp <;> omega) _))) (HI'.out.below (by repeat (first | exact Below.refl _ _ | refine Below.alloc ?_ (by simp <;> omega) _))) (by omega)).mono ?_
    rintro e w1 ⟨rfl, b1⟩
    have b2 := ((((Below.refl W.heap.size W).alloc (Nat.le_refl _) (.cells #[.int .i64 p, .slice a l.length cap] 32)).alloc (by simp) (.cells #[.int .i64 p, .slice a' l'.length cap'] 32))).trans (b1.mono (by simp; omega))
    by_cases hl : l = l'
    · have hd : decide (l = l') = true := decide_eq_true hl
      have hd2 : decide ((p, l) = (p, l')) = true := by simp [hl]
      have HD2 := Lib.hid hd2
      rw [hd]
      clear hl hd hd2
      go_wp2_with fail
      go_ret
      exact ⟨by rw [HD2.out]; try rfl, b2⟩
    · have hd : decide (l = l') = false := decide_eq_false hl
      have hd2 : decide ((p, l) = (p, l')) = false := by simp [hl]
      have HD2 := Lib.hid hd2
      rw [hd]
      clear hl hd hd2
      go_wp2_with fail
      go_ret
      exact ⟨by rw [HD2.out]; try rfl, b2⟩
  · have hne : (p != p') = true := by simpa using hp
    have hd2 : (decide (p = p') && decide (l = l')) = false := by simp [hp]
    have HD2 := Lib.hid hd2
    clear hp hd2
    go_enter Try.func18, Try.ntmps18
    go_wp2_with fail
    go_ret
    exact ⟨by rw [HD2.out]; try rfl, ((Below.refl W.heap.size W).alloc (Nat.le_refl _) _).alloc (by simp) _⟩
theorem eqGraph_h (W : World) (v v' : Value) (g : GraphT) (h : IsGraph W v g) (h' : IsGraph W v' g) (hn : szGraph g ≤ 1099511627776) : Calls Try.prog 18 #[v, v'] W fun e w' => e = .returned (.bool true) ∧ Below W.heap.size W w' :=
  (eqGraph_any W v v' g g h h' hn).mono fun _ _ ⟨he, hb⟩ => ⟨by rw [he]; simp, hb⟩

set_option maxHeartbeats 2000000 in
theorem szGraph_h (W : World) (v : Value) (g : GraphT) (k : Int) (h : IsGraph W v g) (hn : OkGraph g) (hk0 : 0 ≤ k) (hk : k ≤ 1048576) :
    Calls Try.prog 13 #[v, .int .i64 k] W fun e w' => e = .returned (.int .i64 (szRes k (szGraph g))) ∧ Below W.heap.size W w' := by
  obtain ⟨p, l⟩ := g
  obtain ⟨a, cap, rfl, hi⟩ := h
  have hn1 : l.length ≤ 9223372036854775807 := hn.2.1
  clear hi hn
  dsimp only
  have HB : Hid (Below W.heap.size W (W.alloc (.cells #[.int .i64 p, .slice a l.length cap] 24))) := (Below.refl _ _).alloc (Nat.le_refl _) _
  by_cases hlt : k < l.length
  · have HS := Lib.hid (szRes_pos hlt)
    go_enter Try.func13, Try.ntmps13
    go_wp2_with fail
    refine (szBars_any _ _ _ _ _ hn1 hk0 hk).mono ?_
    rintro e w1 ⟨rfl, rfl⟩
    rw [HS.out]
    go_wp2_with fail
    go_ret
    exact ⟨by unfold szGraph; rw [HS.out]; try rfl, HB.out⟩
  · have HS := Lib.hid (szRes_neg hlt)
    go_enter Try.func13, Try.ntmps13
    go_wp2_with fail
    refine (szBars_any _ _ _ _ _ hn1 hk0 hk).mono ?_
    rintro e w1 ⟨rfl, rfl⟩
    rw [HS.out]
    go_wp2_with fail
    go_ret
    exact ⟨by unfold szGraph; rw [HS.out]; try rfl, HB.out⟩

set_option maxHeartbeats 4000000 in
theorem toFw_h (W : World) (v : Value) (f : FwT) (h : IsFw W v f) (hn : szFw f ≤ 1048576) : Calls Try.prog 10 #[v] W (RetFw W f) := by
  obtain ⟨p, l, q⟩ := f
  obtain ⟨a, cap, c, capc, rfl, hi, hj⟩ := h
  have HI := Lib.hid hi
  have HJ := Lib.hid hj
  clear hi hj
  have hn1 : l.length + q.length ≤ 1048576 := hn
  have hg : szGraph (p, l) ≤ 1048576 := by show l.length ≤ _; omega
  dsimp only
  go_enter Try.func10, Try.ntmps10
  go_wp2_with fail
  refine (toGraph_h _ _ (p, l) ⟨a, cap, rfl, HI.out.below (by repeat (first | exact Below.refl _ _ | refine Below.setCell ?_ (by simp) _ | refine Below.alloc ?_ (by simp <;> omega) _))⟩ hg).mono ?_
  rintro e w1 ⟨vg, rfl, ⟨vb, ⟨ab, cb, rfl, rfl⟩, ob⟩, b1⟩
  obtain ⟨hc, hf⟩ := bcell b1
  have hz : W.heap.size + 1 + 1 < w1.heap.size := by have := b1.size; simp at this; omega
  have hza : W.heap.size + 1 < w1.heap.size := by omega
  have hzb : W.heap.size < w1.heap.size := by omega
  have hb2 : Below W.heap.size W w1 := ((((Below.refl W.heap.size W).alloc (Nat.le_refl _) (.cells #[.int .i64 p, .slice a l.length cap, .slice c q.length capc] 27)).alloc (by simp) (.cells #[.int .i64 0, .slice none 0 0, .slice none 0 0] 35)).alloc (by simp; omega) (.cells #[.int .i64 0, .slice none 0 0, .slice none 0 0] 35)).trans (b1.mono (by simp; omega))
  have hob : OwnBars w1 (W.heap.size + 1 + 1 + 1) (.slice ab l.length cb) l := ob.low (by simp)
  have HB2 := Lib.hid hb2
  have HOB := Lib.hid hob
  clear b1 hb2 ob hob
  dsimp only
  go_wp2_with fail
  refine (toPlaces_any c q.length capc q _ (HJ.out.below ((HB2.out.setCell (by simp <;> omega) _).setCell (by simp <;> omega) _)) (by omega)).mono ?_
  rintro e w2 ⟨vp, rfl, op, b3⟩
  obtain ⟨ap, cp, rfl, ip⟩ := op.form
  obtain ⟨hc3, hf3⟩ := bcell b3
  have hz3 : W.heap.size + 1 + 1 < w2.heap.size := by have := b3.size; simp at this; omega
  have hz3a : W.heap.size + 1 < w2.heap.size := by omega
  have hz3b : W.heap.size < w2.heap.size := by omega
  have hb4 : Below W.heap.size W w2 := ((HB2.out.setCell (by simp; omega) _).setCell (by simp; omega) _).trans (b3.mono (by simp; omega))
  have hob3 : OwnBars w2 (W.heap.size + 1 + 1 + 1) (.slice ab l.length cb) l := ((HOB.out.set (by simp) _).set (by simp) _).below b3
  have hop3 : OwnPlaces w2 (W.heap.size + 1 + 1 + 1) (.slice ap q.length cp) q := op.low (by simp; omega)
  have HB4 := Lib.hid hb4
  have HOB3 := Lib.hid hob3
  have HOP3 := Lib.hid hop3
  clear hb4 hob3 hop3 b3 op ip
  go_wp2_with fail
  refine bodyPost_ret (v := .agg #[.int .i64 p, .slice ab l.length cb, .slice ap q.length cp]) (by simp [results, Try.results10, go_sem, hc3, hz3, hz3a, hz3b, hc, hz, hza, hzb]) rfl ⟨_, rfl, ⟨.slice ab l.length cb, .slice ap q.length cp, ⟨ab, cb, ap, cp, rfl, rfl, rfl⟩, ?_, ?_⟩, ?_⟩
  · exact ((((HOB3.out.set (by simp) _).set (by simp) _).set (by simp) _).set (by simp) _).low (by omega)
  · exact ((((HOP3.out.set (by simp) _).set (by simp) _).set (by simp) _).set (by simp) _).low (by omega)
  · exact (((HB4.out.setCell (by simp; omega) _).setCell (by simp) _).setCell (by simp) _).setCell (by simp) _

set_option maxHeartbeats 4000000 in
theorem eqFw_any (W : World) (v v' : Value) (f f' : FwT) (h : IsFw W v f) (h' : IsFw W v' f') (hn : szFw f ≤ 1099511627776) : Calls Try.prog 12 #[v, v'] W fun e w' => e = .returned (.bool (decide (f = f'))) ∧ Below W.heap.size W w' := by
  obtain ⟨p, l, q⟩ := f
  obtain ⟨p', l', q'⟩ := f'
  obtain ⟨a, cap, c, capc, rfl, hi, hj⟩ := h
  obtain ⟨a', cap', c', capc', rfl, hi', hj'⟩ := h'
  have HI := Lib.hid hi
  have HI' := Lib.hid hi'
  have HJ := Lib.hid hj
  have HJ' := Lib.hid hj'
  clear hi hi' hj hj'
  have hn1 : l.length + q.length ≤ 1099511627776 := hn
  dsimp only
  have hb0 : Below W.heap.size W ((W.alloc (.cells #[.int .i64 p, .slice a l.length cap, .slice c q.length capc] 35)).alloc (.cells #[.int .i64 p', .slice a' l'.length cap', .slice c' q'.length capc'] 35)) := ((Below.refl W.heap.size W).alloc (Nat.le_refl _) _).alloc (by simp) _
  have HB0 := Lib.hid hb0
  clear hb0
  have hg : szGraph (p, l) ≤ 1099511627776 := by show l.length ≤ _; omega
  by_cases hpl : ((p, l) : GraphT) = (p', l')
  · have hd : decide (((p, l) : GraphT) = (p', l')) = true := decide_eq_true hpl
    go_enter Try.func12, Try.ntmps12
    go_wp2_with fail
    refine (eqGraph_any _ _ _ (p, l) (p', l') ⟨a, cap, rfl, HI.out.below HB0.out⟩ ⟨a', cap', rfl, HI'.out.below HB0.out⟩ hg).mono ?_
    rintro e w1 ⟨rfl, b1⟩
    rw [hd]
    obtain ⟨hc, hf⟩ := bcell b1
    have hz : W.heap.size + 1 < w1.heap.size := by have := b1.size; simp at this; omega
    have hb1 : Below W.heap.size W w1 := HB0.out.trans (b1.mono (by simp; omega))
    have HB1 := Lib.hid hb1
    have HPL := Lib.hid hpl
    clear b1 hb1 hpl hd
    go_wp2_with fail
    refine (eqPlaces_any _ _ _ _ _ _ _ _ _ (HJ.out.below HB1.out) (HJ'.out.below HB1.out) (by omega)).mono ?_
    rintro e w2 ⟨rfl, b2⟩
    have HB2 := Lib.hid (HB1.out.step b2)
    clear b2 hc hf
    by_cases hq : q = q'
    · have hd2 : decide (q = q') = true := decide_eq_true hq
      have hfin : decide (((p, l, q) : FwT) = (p', l', q')) = true := by
        have h1 := HPL.out
        simp only [Prod.mk.injEq] at h1
        simp [h1.1, h1.2, hq]
      have HF := Lib.hid (ret_bool hfin)
      rw [hd2]
      clear hq hd2 hfin
      go_wp2_with fail
      go_ret
      exact ⟨HF.out.symm, HB2.out⟩
    · have hd2 : decide (q = q') = false := decide_eq_false hq
      have hfin : decide (((p, l, q) : FwT) = (p', l', q')) = false := by simp [hq]
      have HF := Lib.hid (ret_bool hfin)
      rw [hd2]
      clear hq hd2 hfin
      go_wp2_with fail
      go_ret
      exact ⟨HF.out.symm, HB2.out⟩
  · have hd : decide (((p, l) : GraphT) = (p', l')) = false := decide_eq_false hpl
    have hfin : decide (((p, l, q) : FwT) = (p', l', q')) = false := by
      refine decide_eq_false fun e => hpl ?_
      simp only [Prod.mk.injEq] at e
      simp [e.1, e.2.1]
    have HF := Lib.hid (ret_bool hfin)
    go_enter Try.func12, Try.ntmps12
    go_wp2_with fail
    refine (eqGraph_any _ _ _ (p, l) (p', l') ⟨a, cap, rfl, HI.out.below HB0.out⟩ ⟨a', cap', rfl, HI'.out.below HB0.out⟩ hg).mono ?_
    rintro e w1 ⟨rfl, b1⟩
    rw [hd]
    have hb1 : Below W.heap.size W w1 := HB0.out.trans (b1.mono (by simp; omega))
    have HB1 := Lib.hid hb1
    clear b1 hb1 hpl hd hfin
    go_wp2_with fail
    go_ret
    exact ⟨HF.out.symm, HB1.out⟩
theorem eqFw_h (W : World) (v v' : Value) (f : FwT) (h : IsFw W v f) (h' : IsFw W v' f) (hn : szFw f ≤ 1099511627776) : Calls Try.prog 12 #[v, v'] W fun e w' => e = .returned (.bool true) ∧ Below W.heap.size W w' :=
  (eqFw_any W v v' f f h h' hn).mono fun _ _ ⟨he, hb⟩ => ⟨by rw [he]; simp, hb⟩

set_option maxHeartbeats 4000000 in
theorem szFw_h (W : World) (v : Value) (f : FwT) (k : Int) (h : IsFw W v f) (hn : OkFw f) (hk0 : 0 ≤ k) (hk : k ≤ 1048576) :
    Calls Try.prog 8 #[v, .int .i64 k] W fun e w' => e = .returned (.int .i64 (szRes k (szFw f))) ∧ Below W.heap.size W w' := by
  obtain ⟨p, l, q⟩ := f
  obtain ⟨a, cap, c, capc, rfl, hi, hj⟩ := h
  obtain ⟨hn1, hn2, hn3⟩ := hn
  have hn4 : q.length ≤ 9223372036854775807 := hn3.1
  have hn5 : l.length ≤ 9223372036854775807 := hn2.1
  have HI := Lib.hid hi
  have HN : Hid (OkGraph (p, l)) := ⟨hn1, hn2⟩
  clear hi hj hn1 hn2 hn3
  dsimp only
  have HB : Hid (Below W.heap.size W (W.alloc (.cells #[.int .i64 p, .slice a l.length cap, .slice c q.length capc] 27))) := (Below.refl _ _).alloc (Nat.le_refl _) _
  have hsz : szFw (p, l, q) = l.length + q.length := rfl
  have HSZ := Lib.hid hsz
  clear hsz
  go_enter Try.func8, Try.ntmps8
  go_wp2_with fail
  refine (szGraph_h _ _ (p, l) k ⟨a, cap, rfl, HI.out.below HB.out⟩ HN.out hk0 hk).mono ?_
  rintro e w1 ⟨rfl, b1⟩
  obtain ⟨hc, hf⟩ := bcell b1
  have HB1 : Hid (Below W.heap.size W w1) := HB.out.trans (b1.mono (by simp))
  clear b1
  by_cases hlt : k < l.length
  · have h1 : szRes k (szGraph (p, l)) = -1 := szRes_pos hlt
    have h2 : szRes k (szFw (p, l, q)) = -1 := szRes_pos (by rw [HSZ.out]; omega)
    have H2 := Lib.hid h2
    rw [h1]
    clear h1 h2
    go_wp2_with fail
    go_ret
    exact ⟨by rw [H2.out]; try rfl, HB1.out⟩
  · have h1 : szRes k (szGraph (p, l)) = k - l.length := szRes_neg hlt
    rw [h1]
    clear h1
    by_cases hlt2 : k - l.length < q.length
    · have h2 : szRes k (szFw (p, l, q)) = -1 := szRes_pos (by rw [HSZ.out]; omega)
      have h3 : szRes (k - l.length) q.length = -1 := szRes_pos hlt2
      have H2 := Lib.hid h2
      have H3 := Lib.hid h3
      clear h2 h3
      go_wp2_with fail
      refine (szPlaces_any _ _ _ _ _ hn4 (by omega) (by omega)).mono ?_
      rintro e w2 ⟨rfl, rfl⟩
      rw [H3.out]
      go_wp2_with fail
      go_ret
      exact ⟨by rw [H2.out]; try rfl, HB1.out⟩
    · have h2 : szRes k (szFw (p, l, q)) = k - l.length - q.length := by rw [szRes_neg (by rw [HSZ.out]; omega), HSZ.out]; omega
      have h3 : szRes (k - l.length) q.length = k - l.length - q.length := szRes_neg hlt2
      have H2 := Lib.hid h2
      have H3 := Lib.hid h3
      clear h2 h3
      go_wp2_with fail
      refine (szPlaces_any _ _ _ _ _ hn4 (by omega) (by omega)).mono ?_
      rintro e w2 ⟨rfl, rfl⟩
      rw [H3.out]
      go_wp2_with fail
      go_ret
      exact ⟨by rw [H2.out]; try rfl, HB1.out⟩
end Go.Proofs.Ytmfeabfbhaiaeaa
