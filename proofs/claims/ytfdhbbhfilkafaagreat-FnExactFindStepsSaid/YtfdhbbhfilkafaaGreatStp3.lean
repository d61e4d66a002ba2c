/- Bars put into a graph by the program. No condition but sizes. -/
import Derived.Test.YtfdhbbhfilkafaaGreatStp2
import Derived.Deep.RegionHeld3
namespace Go.Proofs.YtfdhbbhfilkafaaGreat
open Go.RowKit
set_option maxRecDepth 100000
set_option linter.unusedVariables false
set_option linter.unusedSimpArgs false

/-- 'append(s, l...)' of bars -/
theorem appBarsAt {w : World} {ops : Array Oper} {rest : List Oper} {o : Oper} {a : Act} {Q : Exit → Act → World → Prop} (hg : o.guard = none) (s x : Operand)
    (ho : o.op = .call { callee := .builtin .append, args := #[s, x], argTypes := #[24, 24] }) {base : Nat} {v : Value} {l0 : List BarT} (hs : a.eval s = v) (hown : OwnBars w base v l0)
    {ao : Option Addr} {n c : Nat} {l : List BarT} (hx : a.eval x = .slice ao n c) (hat : BarsAt w ao n l) (hl : l0.length + n < 1099511627776) (hbase : base ≤ w.heap.size)
    (hK : ∀ v' w', OwnBars w' base v' (l0 ++ l) → Kept (fun k => some k = v.ownBlock) w w' → (v'.ownBlock = v.ownBlock ∨ ∀ b, v'.ownBlock = some b → w.heap.size ≤ b) → wpList Tryz.prog ops Q rest (a.put o.dst v') w') :
    wpList Tryz.prog ops Q (o :: rest) a w := by
  obtain ⟨i0, hi, hz0, hz1, hz2⟩ := info_parts infoBar
  refine wpList_append_whole _ hg s x 24 ho base 78 i0 _ 2 16 Tryz.underlying24 hi hz0 hz1 hz2 rfl (by decide) v l0.length (l0.flatMap cellsBar) hs hown ao n c (l.flatMap cellsBar) hx (by rw [flat2 cellsBar (fun _ => rfl), hat.1]) (bars_src hat) (bars_oneCell _) (by unfold maxLen; omega) (by omega) hbase ?_
  intro v' w' h1 h2 h3
  refine hK v' w' ?_ (Kept.of_grown h2) ?_
  · unfold OwnBars
    rw [List.length_append, List.flatMap_append, hat.1]
    exact h1
  · rcases h3 with h3 | h3
    · exact .inl h3
    · right
      intro b hb
      rw [h3] at hb
      simp at hb
      omega
theorem OutG.kept {base gb : Nat} {w w' : World} {p : Int} {vb : Value} {l l' : List BarT} (h : OutG base w gb p vb l) (ho : OwnBars w' base vb l') (hk : Kept (fun k => some k = vb.ownBlock) w w') : OutG base w' gb p vb l' := by
  have n0 : ¬ some gb = vb.ownBlock := fun e => h.ne e.symm
  exact ⟨(hk.cell h.hi n0).trans h.c0, (hk.cell h.hi n0).trans h.c1, (hk.frozen h.hi n0).trans h.f1, ho, h.ne, h.lo, Nat.lt_of_lt_of_le h.hi hk.size⟩

set_option maxHeartbeats 4000000 in
theorem withBars_at (W : World) (p : Int) (a : Option Addr) (cap : Nat) (l : List BarT) (h : BarsAt W a l.length l) (hs : l.length ≤ 1048576) (va : Option Addr) (n vcap : Nat) (xs : List BarT) (hv : BarsAt W va n xs) (hn : n ≤ 1048576) :
    Calls Tryz.prog 100 #[.agg #[.int .i64 p, .slice a l.length cap], .slice va n vcap] W (RetGraph W (p, sortB (l ++ xs))) := by
  have hwd := @Wd.cells
  have HGr : Hid (IsGraph W (.agg #[.int .i64 p, .slice a l.length cap]) (p, l)) := Lib.hid ⟨a, cap, rfl, h⟩
  have H1 := Lib.hid h
  clear h
  have hsz : szGraph (p, l) ≤ 1048576 := hs
  have hsz2 : szGraph (p, l) ≤ 1099511627776 := Nat.le_trans hsz (by decide)
  have B : Below W.heap.size W (W.alloc (.cells #[.int .i64 p, .slice a l.length cap] 26)) := (Below.refl _ _).alloc (Nat.le_refl _) _
  have BG : Hid (BoxGr (W.alloc (.cells #[.int .i64 p, .slice a l.length cap] 26)) W.heap.size p a l.length cap) := Lib.hid (BoxGr.at rfl)
  have HV := Lib.hid hv
  clear hv
  have HZ : Hid (Zer2 ((W.alloc (.cells #[.int .i64 p, .slice a l.length cap] 26)).alloc (.cells #[.int .i64 0, .slice none 0 0] 26)) (W.heap.size + 1)) := Lib.hid (by have := Zer2.at (W.alloc (.cells #[.int .i64 p, .slice a l.length cap] 26)) 26; rwa [World.size_alloc] at this)
  have ba := belAl (W.alloc (.cells #[.int .i64 p, .slice a l.length cap] 26)) (.cells #[.int .i64 0, .slice none 0 0] 26)
  have hz : W.heap.size + 2 ≤ ((W.alloc (.cells #[.int .i64 p, .slice a l.length cap] 26)).alloc (.cells #[.int .i64 0, .slice none 0 0] 26)).heap.size := by simp
  replace B := B.step ba
  replace BG := Lib.hid (BG.out.below ba)
  clear ba
  go_enter Tryz.func100, Tryz.ntmps100
  go_upto_region 1 with (fail)
  generalize ((W.alloc (.cells #[.int .i64 p, .slice a l.length cap] 26)).alloc (.cells #[.int .i64 0, .slice none 0 0] 26)) = u at *
  obtain ⟨zBG, fBG0, fBG1⟩ := BG.out
  go_wp2_with fail
  clear zBG fBG0 fBG1
  refine (implCpG_at u p a cap l.length l (H1.out.below B) hs).mono ?_
  rintro e w1 ⟨v1, rfl, o1, b1⟩
  obtain ⟨vb, ⟨a1, c1, rfl, rfl⟩, ob⟩ := o1
  dsimp only at ob
  have hz1 := b1.size
  have hob : ∀ b, Value.ownBlock (.slice a1 l.length c1) = some b → u.heap.size ≤ b ∧ b < w1.heap.size := fun b hb => ob.lt b hb
  have B1 := B.step b1
  have Z1 := Lib.hid (HZ.out.below b1)
  have b2 := belAl w1 (.cells #[.int .i64 p, .slice a1 l.length c1] 26)
  have OG : Hid (OutG (W.heap.size + 2) (w1.alloc (.cells #[.int .i64 p, .slice a1 l.length c1] 26)) w1.heap.size p (.slice a1 l.length c1) l) := Lib.hid ⟨by simp [World.cell?_alloc_new], by simp [World.cell?_alloc_new], by simp [World.frozen?_alloc_new], (ob.low (by omega)).below b2, fun e => by have := (hob _ e).2; omega, by omega, by simp⟩
  have B2 := B1.step b2
  have Z2 := Lib.hid (Z1.out.below b2)
  clear B1 Z1 HZ B
  go_upto_region 2 with (fail)
  generalize (w1.alloc (.cells #[.int .i64 p, .slice a1 l.length c1] 26)) = w2 at *
  have hz2 := b2.size
  have hvx := Lib.hid (HV.out.below B2)
  have og := OG.out
  obtain ⟨g0, g1, g2, g3, g4, g5, g6⟩ := og
  go_wp2_with (at_builtin; refine appBarsAt (by rfl) _ _ (by rfl) (by rfl) OG.out.ob (by rfl) hvx.out (by omega) (by omega) ?_; intro v' w3 h3 k3 ha3; obtain ⟨av, cv, rfl, hiv⟩ := h3.form; clear hiv; have q1 := (k3.cell (o := 1) g6 (fun e => g4 e.symm)).trans g1; have q0 := (k3.cell (o := 0) g6 (fun e => g4 e.symm)).trans g0; have q2 := (k3.frozen (o := 1) g6 (fun e => g4 e.symm)).trans g2; have OG3 := Lib.hid (OG.out.app h3 k3 ha3); have Z3 := Lib.hid ((Z2.out.kept k3 (fun e => by have := (g3.lt _ e.symm).1; omega)).kept (setKept (b := w1.heap.size) (j := 1) (x := .slice av (l ++ xs).length cv)) (by omega)); have B3 := Lib.hid ((B2.trans (k3.below B2.size fun j h1 h2 => by have := (g3.lt _ h2.symm).1; omega)).setCell (p := ⟨w1.heap.size, 1, none⟩) (by simp; omega) (.slice av (l ++ xs).length cv)); have hz3 := k3.size; clear g0 g1 g2 g3 g4 k3 ha3 h3)
  have HLM := Lib.hid (show (l ++ xs).length = l.length + xs.length from List.length_append)
  rw [HLM.out] at OG3 Z3 B3
  have hzc : w3.heap.size ≤ (w3.setCell ⟨w1.heap.size, 1, none⟩ (.slice av (l.length + xs.length) cv)).heap.size := by simp
  have HN : Hid ((l ++ xs).length ≤ 1099511627776) := Lib.hid (by have := hvx.out.1; rw [HLM.out]; omega)
  generalize (w3.setCell ⟨w1.heap.size, 1, none⟩ (.slice av (l.length + xs.length) cv)) = w4 at *
  clear hvx HV q1 q0 q2
  refine (sortFunc_own w4 (W.heap.size + 2) (.slice av (l.length + xs.length) cv) (l ++ xs) OG3.out.ob HN.out).mono ?_
  rintro e w5 ⟨rfl, h5, k5⟩
  have OG5 := Lib.hid (OG3.out.kept h5 k5)
  have B5 := Lib.hid (B3.out.trans (k5.below B3.out.size fun j h1 h2 => by have := (OG3.out.ob.lt _ h2.symm).1; omega))
  have Z5 := Lib.hid (Z3.out.kept k5 (fun e => by have := (OG3.out.ob.lt _ e.symm).1; omega))
  have hz5 := k5.size
  have HS := Lib.hid (sortB_length (l ++ xs))
  clear k5 h5 OG3 Z3 B3
  obtain ⟨g0, g1, g2, g3, g4, g5', g6'⟩ := OG5.out
  obtain ⟨⟨r0, r1, r2, c0, c1'⟩, ⟨y0, y1⟩, zg⟩ := Z5.out
  go_wp2_with fail
  refine bodyPost_ret (v := .agg #[.int .i64 p, .slice av (l.length + xs.length) cv]) (by simp [results, Tryz.results100, go_sem, zg, c0, c1']) rfl ⟨_, rfl, ?_⟩
  have h9 := g3
  rw [← HLM.out, ← HS.out] at h9 ⊢
  exact laid2 h9 (by omega) (by omega) (by omega) B5.out
end Go.Proofs.YtfdhbbhfilkafaaGreat
