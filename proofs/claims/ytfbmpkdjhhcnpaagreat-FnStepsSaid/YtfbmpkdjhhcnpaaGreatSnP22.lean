/- What a step asks of a graph, the program's side: degrees, the place of a bar, different points, bars put in. No condition but sizes. -/
import Derived.Test.YtfbmpkdjhhcnpaaGreatSnP21
import Derived.Test.YtfbmpkdjhhcnpaaGreatSnP08
import Derived.Deep.RegionHeld3
import Derived.Deep.QuietTactic
import Derived.BigQuiet
import Derived.BigRegion
import Derived.OwnWalk
namespace Go.Proofs.YtfbmpkdjhhcnpaaGreat
open Go.RowKit
set_option maxRecDepth 100000
set_option linter.unusedVariables false
set_option linter.unusedSimpArgs false

set_option maxHeartbeats 1000000 in
theorem hasB_any (W : World) (a b v : Int) :
    Calls Tryz.prog 126 #[.agg #[.int .i64 a, .int .i64 b], .int .i64 v] W fun e w' => e = .returned (.bool (decide (a = v ∨ b = v))) ∧ Below W.heap.size W w' := by
  by_cases h1 : a = v <;> by_cases h2 : b = v
  all_goals
    have h3 : (a == v) = decide (a = v) := rfl
    have h4 : (b == v) = decide (b = v) := rfl
    simp only [h1, h2, decide_true, decide_false] at h3 h4
    go_enter Tryz.func126, Tryz.ntmps126
    go_wp2_with fail
    go_ret
    exact ⟨by simp [h1, h2], (Below.refl _ _).alloc (Nat.le_refl _) _⟩
set_option maxHeartbeats 4000000 in
theorem implDeg_at (W : World) (p : Int) (a : Option Addr) (cap : Nat) (l : List BarT) (h : BarsAt W a l.length l) (hs : l.length ≤ 1048576) (v : Int) : Calls Tryz.prog 94 #[.agg #[.int .i64 p, .slice a l.length cap], .int .i64 v] W fun e w' => e = .returned (.int .i64 (degB l v)) ∧ Below W.heap.size W w' := by
  have hwd := @Wd.cells
  have HGr : Hid (IsGraph W (.agg #[.int .i64 p, .slice a l.length cap]) (p, l)) := Lib.hid ⟨a, cap, rfl, h⟩
  have H1 := Lib.hid h
  clear h
  have hsz : szGraph (p, l) ≤ 1048576 := hs
  have hsz2 : szGraph (p, l) ≤ 1099511627776 := Nat.le_trans hsz (by decide)
  have B : Below W.heap.size W (W.alloc (.cells #[.int .i64 p, .slice a l.length cap] 26)) := (Below.refl _ _).alloc (Nat.le_refl _) _
  have BG : Hid (BoxGr (W.alloc (.cells #[.int .i64 p, .slice a l.length cap] 26)) W.heap.size p a l.length cap) := Lib.hid (BoxGr.at rfl)
  go_enter Tryz.func94, Tryz.ntmps94
  obtain ⟨zBG, fBG0, fBG1⟩ := BG.out
  go_wp2_with fail
  clear zBG fBG0 fBG1
  generalize (W.alloc (.cells #[.int .i64 p, .slice a l.length cap] 26)) = u at *
  go_loopw [5, 11] (fun c i w9 => ∃ k : Nat, k ≤ l.length ∧ i = .int .i64 k ∧ c = .int .i64 (degTo l v k) ∧ Below W.heap.size W w9) (fun _ i _ => l.length - (intOf i).toNat)
  case atStart => exact ⟨0, Nat.zero_le _, rfl, rfl, B⟩
  case round =>
    obtain ⟨k, hk, rfl, rfl, B1⟩ := hrel
    have hbd := degTo_bd l v k
    by_cases hlt : k < l.length
    · obtain ⟨bb, off, ⟨x1, x2⟩, rfl, hbl, hx, hc0, hc1⟩ := (H1.out.below B1).2 k hlt
      dsimp only at hc0 hc1
      have hki : (k : Int) < (l.length : Int) := by omega
      have hk0 : (0 : Int) ≤ (k : Int) := by omega
      have HS : Hid (degTo l v (k + 1) = if x1 = v ∨ x2 = v then degTo l v k + 1 else degTo l v k) := Lib.hid (by simp only [degTo, hx])
      clear hx
      have ba := belAl wr (.cells #[.int .i64 x1, .int .i64 x2] 70)
      by_cases h1 : x1 = v ∨ x2 = v
      · have HT := Lib.hid (HS.out.trans (if_pos h1))
        have HC : Hid (∀ w, Calls Tryz.prog 126 #[.agg #[.int .i64 x1, .int .i64 x2], .int .i64 v] w fun e w' => e = .returned (.bool true) ∧ Below w.heap.size w w') := Lib.hid fun w => by have := hasB_any w x1 x2 v; rwa [decide_eq_true h1] at this
        clear h1
        generalize degTo l v k = D at *
        go_wp2_with (go_at_call 126; refine (HC.out _).mono ?_; rintro e w1 ⟨rfl, b⟩)
        go_roundw
        case rel => exact ⟨k + 1, by omega, by go_num, by rw [HT.out], (B1.step ba).step b⟩
        case measure => simp [intOf]; omega
      · have HT := Lib.hid (HS.out.trans (if_neg h1))
        have HC : Hid (∀ w, Calls Tryz.prog 126 #[.agg #[.int .i64 x1, .int .i64 x2], .int .i64 v] w fun e w' => e = .returned (.bool false) ∧ Below w.heap.size w w') := Lib.hid fun w => by have := hasB_any w x1 x2 v; rwa [decide_eq_false h1] at this
        clear h1
        generalize degTo l v k = D at *
        go_wp2_with (go_at_call 126; refine (HC.out _).mono ?_; rintro e w1 ⟨rfl, b⟩)
        go_roundw
        case rel => exact ⟨k + 1, by omega, by go_num, by rw [HT.out], (B1.step ba).step b⟩
        case measure => simp [intOf]; omega
    · obtain rfl : k = l.length := by omega
      go_wp2_with fail
      go_ret
      exact ⟨rfl, B1⟩
set_option maxHeartbeats 2000000 in
theorem indexB_at (W : World) (a : Option Addr) (n cap : Nat) (l : List BarT) (h : BarsAt W a n l) (hn : n ≤ 1048576) (x1 x2 : Int) :
    Calls Tryz.prog 95 #[.slice a n cap, .agg #[.int .i64 x1, .int .i64 x2]] W fun e w' => e = .returned (.int .i64 (idxB l (x1, x2))) ∧ Below W.heap.size W w' := by
  have HL := Lib.hid h.1
  have HV := Lib.hid h
  clear h
  have hwd := @Wd.cells
  have B := belAl W (.cells #[.int .i64 x1, .int .i64 x2] 70)
  have BP : Hid (BoxPl (W.alloc (.cells #[.int .i64 x1, .int .i64 x2] 70)) W.heap.size x1 x2) := Lib.hid (BoxPl.at rfl)
  go_enter Tryz.func95, Tryz.ntmps95
  go_wp2_with fail
  generalize (W.alloc (.cells #[.int .i64 x1, .int .i64 x2] 70)) = u at *
  go_loopw [8] (fun i w9 => ∃ k : Nat, k ≤ n ∧ i = .int .i64 k ∧ (x1, x2) ∉ l.take k ∧ Below W.heap.size W w9 ∧ BoxPl w9 W.heap.size x1 x2) (fun i _ => n - (intOf i).toNat)
  case atStart => exact ⟨0, Nat.zero_le _, rfl, by simp, B, BP.out⟩
  case round =>
    clear B BP
    obtain ⟨k, hk, rfl, hnm, B, bp⟩ := hrel
    have HN := Lib.hid hnm
    have BP := Lib.hid bp
    clear hnm bp
    by_cases hlt : k < n
    · obtain ⟨b, off, ⟨y1, y2⟩, rfl, hbl, hx, hc0, hc1⟩ := (HV.out.below B).2 k hlt
      dsimp only at hc0 hc1
      have HX := Lib.hid hx
      clear hx
      have hki : (k : Int) < (n : Int) := by omega
      have hk0 : (0 : Int) ≤ (k : Int) := by omega
      obtain ⟨zF, f0, f1⟩ := BP.out
      have hbw : b < wr.heap.size := by have := B.size; omega
      by_cases hxy : ((x1, x2) : BarT) = (y1, y2)
      · have hq := fun w => eqlBar_t hxy w
        have HE := Lib.hid (idxB_at (HX.out.trans (congrArg some hxy.symm)) HN.out)
        clear hxy
        go_wp2_with fail
        refine wp_region_wd (by kernel_rfl) (by kernel_rfl) ?_
        repeat (go_big_quiet_step (fail))
        refine wpQuiet_nil ?_
        intro n1
        have b1 := n1.h
        go_wp2_with fail
        go_ret
        exact ⟨by rw [HE.out]; rfl, B.step b1⟩
      · have hq := fun w => eqlBar_f hxy w
        have HT := Lib.hid (notMemB HN.out HX.out hxy)
        clear hxy
        go_wp2_with fail
        refine wp_region_wd (by kernel_rfl) (by kernel_rfl) ?_
        repeat (go_big_quiet_step (fail))
        refine wpQuiet_nil ?_
        intro n1
        have b1 := n1.h
        go_wp2_with fail
        go_roundw
        case rel => exact ⟨k + 1, by omega, by go_num, HT.out, B.step b1, BP.out.below b1⟩
        case measure => simp [intOf]; omega
    · obtain rfl : k = n := by omega
      have HE := Lib.hid (idxB_none (s := l) (x := (x1, x2)) (by have := HN.out; rwa [← HL.out] at this))
      go_wp2_with fail
      go_ret
      exact ⟨by rw [HE.out]; rfl, B⟩
set_option maxHeartbeats 4000000 in
theorem areDif_at (W : World) (p : Int) (a : Option Addr) (cap : Nat) (l : List BarT) (h : BarsAt W a l.length l) (hs : l.length ≤ 1048576) (va : Option Addr) (n : Nat) (s : List Int) (hv : IntsAt W va n s) (hvn : n ≤ 1048576) (hp : 1 ≤ p ∧ p ≤ 8) : Calls Tryz.prog 91 #[.agg #[.int .i64 p, .slice a l.length cap], .slice va n n] W fun e w' => e = .returned (.bool (difB p s)) ∧ Below W.heap.size W w' := by
  have hwd := @Wd.cells
  have HGr : Hid (IsGraph W (.agg #[.int .i64 p, .slice a l.length cap]) (p, l)) := Lib.hid ⟨a, cap, rfl, h⟩
  have H1 := Lib.hid h
  clear h
  have hsz : szGraph (p, l) ≤ 1048576 := hs
  have hsz2 : szGraph (p, l) ≤ 1099511627776 := Nat.le_trans hsz (by decide)
  have B : Below W.heap.size W (W.alloc (.cells #[.int .i64 p, .slice a l.length cap] 26)) := (Below.refl _ _).alloc (Nat.le_refl _) _
  have BG : Hid (BoxGr (W.alloc (.cells #[.int .i64 p, .slice a l.length cap] 26)) W.heap.size p a l.length cap) := Lib.hid (BoxGr.at rfl)
  have HV := Lib.hid hv
  have HL := Lib.hid hv.1
  clear hv
  go_enter Tryz.func91, Tryz.ntmps91
  go_wp2_with fail
  generalize (W.alloc (.cells #[.int .i64 p, .slice a l.length cap] 26)) = u at *
  go_loopw [9] (fun i w9 => ∃ k : Nat, k ≤ n ∧ i = .int .i64 k ∧ difTo p s k = true ∧ Below W.heap.size W w9 ∧ BoxGr w9 W.heap.size p a l.length cap) (fun i _ => n - (intOf i).toNat)
  case atStart => exact ⟨0, Nat.zero_le _, rfl, rfl, B, BG.out⟩
  case round =>
    clear B BG
    obtain ⟨k, hk, rfl, hd, B, bg⟩ := hrel
    have BG := Lib.hid bg
    have HD := Lib.hid hd
    clear hd bg
    by_cases hlt : k < n
    · obtain ⟨b, off, y, rfl, hbl, hy, hcell⟩ := (HV.out.below B).2 k hlt
      have HY := Lib.hid hy
      have HC : Hid (∀ w, Below W.heap.size W w → ∀ cp, Calls Tryz.prog 112 #[.slice (some ⟨b, off, none⟩) k cp, .int .i64 y] w fun e w' => e = .returned (.bool (decide (y ∈ s.take k))) ∧ w = w') :=
        Lib.hid fun w hw cp => (containsI_at w _ k cp _ ((HV.out.below hw).takeS (by omega)) (by omega) y)
      clear hy
      have hki : (k : Int) < (n : Int) := by omega
      have hk0 : (0 : Int) ≤ (k : Int) := by omega
      have hkn : (k : Int) ≤ (n : Int) := by omega
      have hS : ∀ w, (Instr.slice 35 (.slice (some ⟨b, off, none⟩) n n) none (some (.int .i64 (k : Int))) none).run Tryz.prog w = .ok (.slice (some ⟨b, off, none⟩) k n) w := fun w => by go_simp
      have HH : Hid (∀ w, Calls Tryz.prog 124 #[.agg #[.int .i64 p, .slice a l.length cap], .int .i64 y] w fun e w' => e = .returned (.bool (inB y 0 (p - 1))) ∧ Below w.heap.size w w') := Lib.hid fun w => hasG_any w p a l.length cap y hp.1 hp.2
      obtain ⟨zBG, fBG0, fBG1⟩ := BG.out
      cases e1 : inB y 0 (p - 1)
      · rw [e1] at HH
        have HF := Lib.hid (ret_bool (difB_not (p := p) HY.out (.inl e1)))
        clear e1
        go_wp2_with (go_at_call 124; refine (HH.out _).mono ?_; rintro e w1 ⟨rfl, b⟩)
        go_ret
        exact ⟨HF.out.symm, B.step b⟩
      · rw [e1] at HH
        by_cases e3 : y ∈ s.take k
        · have HF := Lib.hid (ret_bool (difB_not (p := p) HY.out (.inr e3)))
          rw [decide_eq_true e3] at HC
          clear e1 e3
          go_wp2_with (go_at_call 124; refine (HH.out _).mono ?_; rintro e w1 ⟨rfl, b⟩)
          refine (HC.out _ (B.step b) _).mono ?_
          rintro e w2 ⟨rfl, rfl⟩
          go_wp2_with fail
          go_ret
          exact ⟨HF.out.symm, B.step b⟩
        · have HT := Lib.hid (difTo_succ HD.out HY.out e1 e3)
          rw [decide_eq_false e3] at HC
          clear e1 e3
          go_wp2_with (go_at_call 124; refine (HH.out _).mono ?_; rintro e w1 ⟨rfl, b⟩)
          refine (HC.out _ (B.step b) _).mono ?_
          rintro e w2 ⟨rfl, rfl⟩
          go_wp2_with fail
          go_roundw
          case rel => exact ⟨k + 1, by omega, by go_num, HT.out, B.step b, BG.out.below b⟩
          case measure => simp [intOf]; omega
    · obtain rfl : k = n := by omega
      have HE := Lib.hid (show difB p s = true by have h1 := HD.out; unfold difB; rwa [HL.out])
      go_wp2_with fail
      go_ret
      exact ⟨by rw [HE.out]; rfl, B⟩

theorem appBarsAt {w : World} {ops : Array Oper} {rest : List Oper} {o : Oper} {a : Act} {Q : Exit → Act → World → Prop} (hg : o.guard = none) (s x : Operand)
    (ho : o.op = .call { callee := .builtin .append, args := #[s, x], argTypes := #[24, 24] }) {base : Nat} {v : Value} {l0 : List BarT} (hs : a.eval s = v) (hown : OwnBars w base v l0)
    {ao : Option Addr} {n c : Nat} {l : List BarT} (hx : a.eval x = .slice ao n c) (hat : BarsAt w ao n l) (hl : l0.length + n < 1099511627776) (hbase : base ≤ w.heap.size)
    (hK : ∀ v' w', OwnBars w' base v' (l0 ++ l) → Kept (fun k => some k = v.ownBlock) w w' → (v'.ownBlock = v.ownBlock ∨ ∀ b, v'.ownBlock = some b → w.heap.size ≤ b) → wpList Tryz.prog ops Q rest (a.put o.dst v') w') :
    wpList Tryz.prog ops Q (o :: rest) a w := by
  obtain ⟨i0, hi, hz0, hz1, hz2⟩ := info_parts infoBar
  refine wpList_append_whole _ hg s x 24 ho base 70 i0 _ 2 16 Tryz.underlying24 hi hz0 hz1 hz2 rfl (by decide) v l0.length (l0.flatMap cellsBar) hs hown ao n c (l.flatMap cellsBar) hx (by rw [flat2 cellsBar (fun _ => rfl), hat.1]) (bars_src hat) (bars_oneCell _) (by unfold maxLen; omega) (by omega) hbase ?_
  intro v' w' h1 h2 h3
  refine hK v' w' ?_ (Kept.of_grown h2) ?_
  · unfold OwnBars
    rw [List.length_append, List.flatMap_append, hat.1]
    exact h1
  · rcases h3 with h3 | h3
    · exact .inl h3
    · right
      intro b hb
      rw [h3] at hb
      simp at hb
      omega
theorem OutG.kept {base gb : Nat} {w w' : World} {p : Int} {vb : Value} {l l' : List BarT} (h : OutG base w gb p vb l) (ho : OwnBars w' base vb l') (hk : Kept (fun k => some k = vb.ownBlock) w w') : OutG base w' gb p vb l' := by
  have n0 : ¬ some gb = vb.ownBlock := fun e => h.ne e.symm
  exact ⟨(hk.cell h.hi n0).trans h.c0, (hk.cell h.hi n0).trans h.c1, (hk.frozen h.hi n0).trans h.f1, ho, h.ne, h.lo, Nat.lt_of_lt_of_le h.hi hk.size⟩

set_option maxHeartbeats 4000000 in
theorem withBars_at (W : World) (p : Int) (a : Option Addr) (cap : Nat) (l : List BarT) (h : BarsAt W a l.length l) (hs : l.length ≤ 1048576) (va : Option Addr) (n vcap : Nat) (xs : List BarT) (hv : BarsAt W va n xs) (hn : n ≤ 1048576) :
    Calls Tryz.prog 92 #[.agg #[.int .i64 p, .slice a l.length cap], .slice va n vcap] W (RetGraph W (p, sortB (l ++ xs))) := by
  have hwd := @Wd.cells
  have HGr : Hid (IsGraph W (.agg #[.int .i64 p, .slice a l.length cap]) (p, l)) := Lib.hid ⟨a, cap, rfl, h⟩
  have H1 := Lib.hid h
  clear h
  have hsz : szGraph (p, l) ≤ 1048576 := hs
  have hsz2 : szGraph (p, l) ≤ 1099511627776 := Nat.le_trans hsz (by decide)
  have B : Below W.heap.size W (W.alloc (.cells #[.int .i64 p, .slice a l.length cap] 26)) := (Below.refl _ _).alloc (Nat.le_refl _) _
  have BG : Hid (BoxGr (W.alloc (.cells #[.int .i64 p, .slice a l.length cap] 26)) W.heap.size p a l.length cap) := Lib.hid (BoxGr.at rfl)
  have HV := Lib.hid hv
  clear hv
  have HZ : Hid (Zer2 ((W.alloc (.cells #[.int .i64 p, .slice a l.length cap] 26)).alloc (.cells #[.int .i64 0, .slice none 0 0] 26)) (W.heap.size + 1)) := Lib.hid (by have := Zer2.at (W.alloc (.cells #[.int .i64 p, .slice a l.length cap] 26)) 26; rwa [World.size_alloc] at this)
  have ba := belAl (W.alloc (.cells #[.int .i64 p, .slice a l.length cap] 26)) (.cells #[.int .i64 0, .slice none 0 0] 26)
  have hz : W.heap.size + 2 ≤ ((W.alloc (.cells #[.int .i64 p, .slice a l.length cap] 26)).alloc (.cells #[.int .i64 0, .slice none 0 0] 26)).heap.size := by simp
  replace B := B.step ba
  replace BG := Lib.hid (BG.out.below ba)
  clear ba
  go_enter Tryz.func92, Tryz.ntmps92
  go_upto_region 1 with (fail)
  generalize ((W.alloc (.cells #[.int .i64 p, .slice a l.length cap] 26)).alloc (.cells #[.int .i64 0, .slice none 0 0] 26)) = u at *
  obtain ⟨zBG, fBG0, fBG1⟩ := BG.out
  go_wp2_with fail
  clear zBG fBG0 fBG1
  refine (implCpG_at u p a cap l.length l (H1.out.below B) hs).mono ?_
  rintro e w1 ⟨v1, rfl, o1, b1⟩
  obtain ⟨vb, ⟨a1, c1, rfl, rfl⟩, ob⟩ := o1
  dsimp only at ob
  have hz1 := b1.size
  have hob : ∀ b, Value.ownBlock (.slice a1 l.length c1) = some b → u.heap.size ≤ b ∧ b < w1.heap.size := fun b hb => ob.lt b hb
  have B1 := B.step b1
  have Z1 := Lib.hid (HZ.out.below b1)
  have b2 := belAl w1 (.cells #[.int .i64 p, .slice a1 l.length c1] 26)
  have OG : Hid (OutG (W.heap.size + 2) (w1.alloc (.cells #[.int .i64 p, .slice a1 l.length c1] 26)) w1.heap.size p (.slice a1 l.length c1) l) := Lib.hid ⟨by simp [World.cell?_alloc_new], by simp [World.cell?_alloc_new], by simp [World.frozen?_alloc_new], (ob.low (by omega)).below b2, fun e => by have := (hob _ e).2; omega, by omega, by simp⟩
  have B2 := B1.step b2
  have Z2 := Lib.hid (Z1.out.below b2)
  clear B1 Z1 HZ B
  go_upto_region 2 with (fail)
  generalize (w1.alloc (.cells #[.int .i64 p, .slice a1 l.length c1] 26)) = w2 at *
  have hz2 := b2.size
  have hvx := Lib.hid (HV.out.below B2)
  have og := OG.out
  obtain ⟨g0, g1, g2, g3, g4, g5, g6⟩ := og
  go_wp2_with (at_builtin; refine appBarsAt (by rfl) _ _ (by rfl) (by rfl) OG.out.ob (by rfl) hvx.out (by omega) (by omega) ?_; intro v' w3 h3 k3 ha3; obtain ⟨av, cv, rfl, hiv⟩ := h3.form; clear hiv; have q1 := (k3.cell (o := 1) g6 (fun e => g4 e.symm)).trans g1; have q0 := (k3.cell (o := 0) g6 (fun e => g4 e.symm)).trans g0; have q2 := (k3.frozen (o := 1) g6 (fun e => g4 e.symm)).trans g2; have OG3 := Lib.hid (OG.out.app h3 k3 ha3); have Z3 := Lib.hid ((Z2.out.kept k3 (fun e => by have := (g3.lt _ e.symm).1; omega)).kept (setKept (b := w1.heap.size) (j := 1) (x := .slice av (l ++ xs).length cv)) (by omega)); have B3 := Lib.hid ((B2.trans (k3.below B2.size fun j h1 h2 => by have := (g3.lt _ h2.symm).1; omega)).setCell (p := ⟨w1.heap.size, 1, none⟩) (by simp; omega) (.slice av (l ++ xs).length cv)); have hz3 := k3.size; clear g0 g1 g2 g3 g4 k3 ha3 h3)
  have HLM := Lib.hid (show (l ++ xs).length = l.length + xs.length from List.length_append)
  rw [HLM.out] at OG3 Z3 B3
  have hzc : w3.heap.size ≤ (w3.setCell ⟨w1.heap.size, 1, none⟩ (.slice av (l.length + xs.length) cv)).heap.size := by simp
  have HN : Hid ((l ++ xs).length ≤ 1099511627776) := Lib.hid (by have := hvx.out.1; rw [HLM.out]; omega)
  generalize (w3.setCell ⟨w1.heap.size, 1, none⟩ (.slice av (l.length + xs.length) cv)) = w4 at *
  clear hvx HV q1 q0 q2
  refine (sortFunc_own w4 (W.heap.size + 2) (.slice av (l.length + xs.length) cv) (l ++ xs) OG3.out.ob HN.out).mono ?_
  rintro e w5 ⟨rfl, h5, k5⟩
  have OG5 := Lib.hid (OG3.out.kept h5 k5)
  have B5 := Lib.hid (B3.out.trans (k5.below B3.out.size fun j h1 h2 => by have := (OG3.out.ob.lt _ h2.symm).1; omega))
  have Z5 := Lib.hid (Z3.out.kept k5 (fun e => by have := (OG3.out.ob.lt _ e.symm).1; omega))
  have hz5 := k5.size
  have HS := Lib.hid (sortB_length (l ++ xs))
  clear k5 h5 OG3 Z3 B3
  obtain ⟨g0, g1, g2, g3, g4, g5', g6'⟩ := OG5.out
  obtain ⟨⟨r0, r1, r2, c0, c1'⟩, ⟨y0, y1⟩, zg⟩ := Z5.out
  go_wp2_with fail
  refine bodyPost_ret (v := .agg #[.int .i64 p, .slice av (l.length + xs.length) cv]) (by simp [results, Tryz.results92, go_sem, zg, c0, c1']) rfl ⟨_, rfl, ?_⟩
  have h9 := g3
  rw [← HLM.out, ← HS.out] at h9 ⊢
  exact laid2 h9 (by omega) (by omega) (by omega) B5.out

theorem cutBfrom {b off n m j c : Nat} (hn : n = m + j) (hc : n ≤ c) (hm : c ≤ 9223372036854775807) : ∃ o' c', (∀ w, (Instr.slice 24 (.slice (some ⟨b, off, none⟩) n c) (some (.int .i64 (j : Int))) none none).run Tryz.prog w = .ok (.slice (some ⟨b, o', none⟩) m c') w) ∧ (0 < m → o' = off + j * 2) := by
  subst hn
  by_cases h : c = j
  · have hm0 : m = 0 := by omega
    subst hm0
    subst h
    refine ⟨off, 0, fun w => ?_, fun h => absurd h (by omega)⟩
    go_simp
  · refine ⟨off + j * 2, c - j, fun w => ?_, fun _ => rfl⟩
    go_simp
    omega
theorem cutBto {b off n j c : Nat} (hn : j ≤ n) (hc : n ≤ c) (hm : c ≤ 9223372036854775807) (w : World) : (Instr.slice 24 (.slice (some ⟨b, off, none⟩) n c) none (some (.int .i64 (j : Int))) none).run Tryz.prog w = .ok (.slice (some ⟨b, off, none⟩) j c) w := by
  go_simp
  intro h
  omega
theorem BarsAt.takeB {W : World} {a : Option Addr} {n m : Nat} {r : List BarT} (h : BarsAt W a n r) (hm : m ≤ n) : BarsAt W a m (r.take m) :=
  ⟨by rw [List.length_take, h.1]; omega, fun k hk => by
    obtain ⟨b, off, x, h1, h2, h3, h4⟩ := h.2 k (by omega)
    exact ⟨b, off, x, h1, h2, by rw [List.getElem?_take_of_lt hk]; exact h3, h4⟩⟩
theorem BarsAt.dropB {W : World} {b off o' : Nat} {n m j : Nat} {r : List BarT} (h : BarsAt W (some ⟨b, off, none⟩) n r) (hn : n = m + j) (ho : 0 < m → o' = off + j * 2) : BarsAt W (some ⟨b, o', none⟩) m (r.drop j) :=
  ⟨by rw [List.length_drop, h.1]; omega, fun k hk => by
    obtain ⟨b1, off1, x, h1, h2, h3, h4, h5⟩ := h.2 (k + j) (by omega)
    obtain ⟨rfl, rfl⟩ : b = b1 ∧ off = off1 := by simp at h1; exact h1
    rw [ho (by omega)]
    refine ⟨b, off + j * 2, x, rfl, h2, by rw [List.getElem?_drop, Nat.add_comm]; exact h3, ?_, ?_⟩
    · rw [show off + j * 2 + k * 2 = off + (k + j) * 2 by omega]; exact h4
    · rw [show off + j * 2 + k * 2 + 1 = off + (k + j) * 2 + 1 by omega]; exact h5⟩
theorem BarsAt.keptB {S : Nat → Prop} {W W' : World} {b off n : Nat} {r : List BarT} (h : BarsAt W (some ⟨b, off, none⟩) n r) (hk : Kept S W W') (hs : ¬ S b) : BarsAt W' (some ⟨b, off, none⟩) n r :=
  ⟨h.1, fun k hkn => by
    obtain ⟨b1, off1, x, h1, h2, h3, h4, h5⟩ := h.2 k hkn
    obtain ⟨rfl, rfl⟩ : b = b1 ∧ off = off1 := by simp at h1; exact h1
    exact ⟨b, off, x, rfl, Nat.lt_of_lt_of_le h2 hk.size, h3, (hk.cell h2 hs).trans h4, (hk.cell h2 hs).trans h5⟩⟩
theorem OwnBars.cap {W : World} {base : Nat} {a : Option Addr} {n c : Nat} {l : List BarT} (h : OwnBars W base (.slice a n c) l) : n ≤ c ∧ c ≤ 9223372036854775807 := by
  rcases h.2 with ⟨h1, h0⟩ | ⟨g', cap, cur, h1, hb, hg, h2⟩
  · simp at h1
    omega
  · simp at h1
    have : maxLen = 9223372036854775807 := rfl
    omega
theorem OwnBars.takeB {W : World} {base : Nat} {g n c j : Nat} {l : List BarT} (h : OwnBars W base (.slice (some ⟨g, 0, none⟩) n c) l) (hj : j ≤ l.length) : OwnBars W base (.slice (some ⟨g, 0, none⟩) j c) (l.take j) := by
  rcases h.2 with ⟨h1, h0⟩ | ⟨g', cap, cur, h1, hb, hg, h2, h3, h4, h5⟩
  · simp at h1
  · simp at h1
    obtain ⟨rfl, rfl, rfl⟩ := h1
    have hl : (l.take j).length = j := by rw [List.length_take]; omega
    have e1 : (l.take j).flatMap cellsBar = (l.flatMap cellsBar).take (j * 2) := by
      have e2 : l.flatMap cellsBar = (l.take j).flatMap cellsBar ++ (l.drop j).flatMap cellsBar := by rw [← List.flatMap_append, List.take_append_drop]
      have e3 : ((l.take j).flatMap cellsBar).length = j * 2 := by rw [flat2 cellsBar (fun _ => rfl), hl]
      conv => rhs; rw [e2]
      rw [List.take_append_of_le_length (Nat.le_of_eq e3.symm), List.take_of_length_le (Nat.le_of_eq e3)]
    unfold OwnBars
    rw [hl]
    refine ⟨by rw [flat2 cellsBar (fun _ => rfl), hl], .inr ⟨g, c, cur, rfl, hb, hg, by omega, h3, h4, ?_⟩⟩
    rw [e1, ← h5, List.take_take, Nat.min_eq_left (by omega)]
def cutG (l : List BarT) (k : Nat) : List BarT := l.take k ++ l.drop (k + 1)
theorem cutG_length {l : List BarT} {k : Nat} (h : k < l.length) : (cutG l k).length = l.length - 1 := by
  unfold cutG; rw [List.length_append, List.length_take, List.length_drop]; omega
def RetGB (W : World) (g : GraphT) (b : Bool) (e : Ending) (w' : World) : Prop := ∃ v, e = .returned (.tuple #[v, .bool b]) ∧ OwnGraph w' W.heap.size v g ∧ Below W.heap.size W w'

set_option maxHeartbeats 8000000 in
theorem specRem_at (W : World) (p : Int) (a : Option Addr) (cap : Nat) (l : List BarT) (h : BarsAt W a l.length l) (hs : l.length ≤ 1048576) (hg : isGraphB (p, l) = true) (k : Nat) (hk : k < l.length) (hcap : l.length ≤ cap) (hcm : cap ≤ 9223372036854775807) :
    Calls Tryz.prog 101 #[.agg #[.int .i64 p, .slice a l.length cap], .int .i64 (k : Int)] W (RetGB W (p, cutG l k) true) := by
  have hwd := @Wd.cells
  have HGr : Hid (IsGraph W (.agg #[.int .i64 p, .slice a l.length cap]) (p, l)) := Lib.hid ⟨a, cap, rfl, h⟩
  have H1 := Lib.hid h
  clear h
  have hsz : szGraph (p, l) ≤ 1048576 := hs
  have hsz2 : szGraph (p, l) ≤ 1099511627776 := Nat.le_trans hsz (by decide)
  have B : Below W.heap.size W (W.alloc (.cells #[.int .i64 p, .slice a l.length cap] 26)) := (Below.refl _ _).alloc (Nat.le_refl _) _
  have BG : Hid (BoxGr (W.alloc (.cells #[.int .i64 p, .slice a l.length cap] 26)) W.heap.size p a l.length cap) := Lib.hid (BoxGr.at rfl)
  have HG := Lib.hid hg
  clear hg
  have HZ : Hid (Zer2 ((W.alloc (.cells #[.int .i64 p, .slice a l.length cap] 26)).alloc (.cells #[.int .i64 0, .slice none 0 0] 26)) (W.heap.size + 1)) := Lib.hid (by have := Zer2.at (W.alloc (.cells #[.int .i64 p, .slice a l.length cap] 26)) 26; rwa [World.size_alloc] at this)
  have ba := belAl (W.alloc (.cells #[.int .i64 p, .slice a l.length cap] 26)) (.cells #[.int .i64 0, .slice none 0 0] 26)
  have hz : W.heap.size + 2 ≤ ((W.alloc (.cells #[.int .i64 p, .slice a l.length cap] 26)).alloc (.cells #[.int .i64 0, .slice none 0 0] 26)).heap.size := by simp
  replace B := B.step ba
  replace BG := Lib.hid (BG.out.below ba)
  clear ba
  have hki : ¬ ((k : Int) ≥ (l.length : Int)) := by omega
  have hki2 : ¬ ((l.length : Int) ≤ (k : Int)) := by omega
  have hk0 : ¬ ((k : Int) < 0) := by omega
  go_enter Tryz.func101, Tryz.ntmps101
  go_upto_region 1 with (fail)
  generalize ((W.alloc (.cells #[.int .i64 p, .slice a l.length cap] 26)).alloc (.cells #[.int .i64 0, .slice none 0 0] 26)) = u at *
  obtain ⟨zBG, fBG0, fBG1⟩ := BG.out
  go_wp2_with fail
  clear zBG fBG0 fBG1
  refine (specIsGraph_at u p a cap l (H1.out.below B) (by omega)).mono ?_
  rintro e w1 ⟨rfl, b1⟩
  rw [HG.out]
  have hz1 := b1.size
  have B1 := B.step b1
  have BG1 := Lib.hid (BG.out.below b1)
  have Z1 := Lib.hid (HZ.out.below b1)
  obtain ⟨bb, off, x, rfl, hbl, -, -, -⟩ := H1.out.2 k hk
  have HI1 := Lib.hid (H1.out.below B1)
  clear b1 B BG HZ
  obtain ⟨o2, c2, hS2, ho2⟩ := cutBfrom (b := bb) (off := off) (n := l.length) (m := l.length - (k + 1)) (j := k + 1) (c := cap) (by omega) hcap hcm
  have hS1 := fun w => cutBto (b := bb) (off := off) (n := l.length) (j := k) (c := cap) (by omega) hcap hcm w
  have hadd := IntWalk.i64_in ((k : Int) + 1) (by omega)
  have hcast : ((k : Int) + 1) = ((k + 1 : Nat) : Int) := by omega
  rw [← hcast] at hS2
  have HO2 := Lib.hid ho2
  clear ho2 hcast
  have d0 : w1.drew.cell? ⟨W.heap.size, 0, none⟩ = _ := BG1.out.c0
  have d1 : w1.drew.cell? ⟨W.heap.size, 1, none⟩ = _ := BG1.out.c1
  have bu : Below w1.heap.size w1 (w1.alloc (.cells #[] 70)).drew := ((Below.refl _ w1).alloc (Nat.le_refl _) _).drew
  have k0 : (w1.alloc (.cells #[] 70)).drew.cell? ⟨W.heap.size, 0, none⟩ = some (.int .i64 p) := ((bcell bu).1 _ _ (by omega)).trans BG1.out.c0
  have k1 : (w1.alloc (.cells #[] 70)).drew.cell? ⟨W.heap.size, 1, none⟩ = some (.slice (some ⟨bb, off, none⟩) l.length cap) := ((bcell bu).1 _ _ (by omega)).trans BG1.out.c1
  have hz2 : w1.heap.size + 1 ≤ (w1.alloc (.cells #[] 70)).drew.heap.size := by show _ ≤ (w1.alloc (.cells #[] 70)).heap.size; simp
  have HHO : Hid (OwnBars (w1.alloc (.cells #[] 70)).drew w1.heap.size (.slice (some ⟨w1.heap.size, 0, none⟩) 0 0) []) := Lib.hid (OwnBars.made w1 _ (Nat.le_refl _))
  have HHS : Hid (BarsAt (w1.alloc (.cells #[] 70)).drew (some ⟨bb, off, none⟩) l.length l) := Lib.hid (HI1.out.below bu)
  have e0 : W.heap.size < w1.drew.heap.size := by show _ < w1.heap.size; omega
  have e1 : W.heap.size + 1 < w1.drew.heap.size := by show _ < w1.heap.size; omega
  have hbb : bb < w1.heap.size := by omega
  have ZA := Lib.hid (Z1.out.below bu)
  have BA := Lib.hid (B1.step bu)
  have tk1 := True.intro
  have tk2 := True.intro
  obtain ⟨zBG, fBG0, fBG1⟩ := BG1.out
  go_wp2_with fail
  clear zBG fBG0 fBG1
  go_region_held3 (fun w' => w'.cell? ⟨W.heap.size, 0, none⟩ = some (.int .i64 p) ∧ w'.cell? ⟨W.heap.size, 1, none⟩ = some (.slice (some ⟨bb, off, none⟩) l.length cap))
    (first | (with_reducible exact ⟨d0, d1⟩) | (with_reducible exact ⟨k0, k1⟩) | (with_reducible exact ⟨c0, c1⟩) | (with_reducible exact ⟨cc0, cc1⟩) | (go_keep))
    (first
      | (clear tk1
         refine stepAppBars (by rfl) _ _ (by rfl) (by rfl) HHO.out (by rfl) (HHS.out.takeB (m := k) (by omega)) (by simp; omega) (by simp [World.drew]) ?_
         intro v' w2 ho hk2 ha
         rw [List.nil_append] at ho
         have HB := Lib.hid ho
         obtain ⟨a', c', rfl, hi'⟩ := ho.form
         clear ho
         have hnb : ∀ b, b < w1.heap.size → ¬ (some b = Value.ownBlock (.slice (some ⟨w1.heap.size, 0, none⟩) 0 0)) := fun b hb hh => by simp [Value.ownBlock] at hh; omega
         have c0 := (hk2.cell (o := 0) (by omega) (hnb W.heap.size (by omega))).trans k0
         have c1 := (hk2.cell (o := 1) (by omega) (hnb W.heap.size (by omega))).trans k1
         have HK2 := Lib.hid (HHS.out.keptB hk2 (hnb bb hbb))
         have Z2 := Lib.hid (ZA.out.kept hk2 (hnb _ (by omega)))
         have B2 := Lib.hid (BA.out.trans (hk2.setOwn HHO.out (B := W.heap.size) (by omega) (by omega)))
         have hsz2' := hk2.size
         have hz3 : w1.heap.size + 1 ≤ w2.heap.size := by omega
         have hlt := (HB.out.lt)
         have HLT := Lib.hid hlt
         clear hlt)
      | (clear tk2
         refine stepAppBars (by rfl) _ _ (by rfl) (by rfl) HB.out (by rfl) (HK2.out.dropB (j := k + 1) (by omega) HO2.out) (by simp; omega) (by omega) ?_
         intro v'' w3 ho3 hk3 ha3
         have HB3 := Lib.hid ho3
         obtain ⟨a'', c'', rfl, hi''⟩ := ho3.form
         clear ho3
         have hnb3 : ∀ b, b < w1.heap.size → ¬ (some b = Value.ownBlock (.slice a' (l.take k).length c')) := fun b hb hh => by have := (HLT.out b hh.symm).1; omega
         have cc0 := (hk3.cell (o := 0) (by omega) (hnb3 W.heap.size (by omega))).trans c0
         have cc1 := (hk3.cell (o := 1) (by omega) (hnb3 W.heap.size (by omega))).trans c1
         have Z3 := Lib.hid (Z2.out.kept hk3 (hnb3 _ (by omega)))
         obtain ⟨⟨r0, r1, r2, q0, q1⟩, ⟨y0, y1⟩, zg⟩ := Z3.out
         have B3 := Lib.hid (B2.out.trans (hk3.below (by omega) fun j h1 h2 => by have := (HLT.out j h2.symm).1; omega))
         have hsz3' := hk3.size
         have hz4 : w1.heap.size + 1 ≤ w3.heap.size := by omega))
  have HLM := Lib.hid (show min k l.length + (l.length - (k + 1)) = (cutG l k).length by rw [cutG_length hk]; omega)
  rw [HLM.out]
  go_wp2_with fail
  refine bodyPost_ret (v := .tuple #[.agg #[.int .i64 p, .slice a'' (cutG l k).length c''], .bool true]) (by simp [results, Tryz.results101, go_sem, zg, q0, q1]) rfl ⟨_, rfl, ?_⟩
  have h9 : OwnBars w3 w1.heap.size (.slice a'' (cutG l k).length c'') (cutG l k) := by
    have := HB3.out
    rw [← HLM.out]
    show OwnBars _ _ _ (l.take k ++ l.drop (k + 1))
    simpa using this
  exact laid2 h9 (by omega) (by omega) (by omega) B3.out


set_option maxHeartbeats 8000000 in
theorem implRem_at (W : World) (p : Int) (a : Option Addr) (cap : Nat) (l : List BarT) (h : BarsAt W a l.length l) (hs : l.length ≤ 1048576) (hg : isGraphB (p, l) = true) (k : Nat) (hk : k < l.length) :
    Calls Tryz.prog 96 #[.agg #[.int .i64 p, .slice a l.length cap], .int .i64 (k : Int)] W (RetGB W (p, cutG l k) true) := by
  have hwd := @Wd.cells
  have HGr : Hid (IsGraph W (.agg #[.int .i64 p, .slice a l.length cap]) (p, l)) := Lib.hid ⟨a, cap, rfl, h⟩
  have H1 := Lib.hid h
  clear h
  have hsz : szGraph (p, l) ≤ 1048576 := hs
  have hsz2 : szGraph (p, l) ≤ 1099511627776 := Nat.le_trans hsz (by decide)
  have B : Below W.heap.size W (W.alloc (.cells #[.int .i64 p, .slice a l.length cap] 26)) := (Below.refl _ _).alloc (Nat.le_refl _) _
  have BG : Hid (BoxGr (W.alloc (.cells #[.int .i64 p, .slice a l.length cap] 26)) W.heap.size p a l.length cap) := Lib.hid (BoxGr.at rfl)
  have HG := Lib.hid hg
  clear hg
  have HZ : Hid (Zer2 ((W.alloc (.cells #[.int .i64 p, .slice a l.length cap] 26)).alloc (.cells #[.int .i64 0, .slice none 0 0] 26)) (W.heap.size + 1)) := Lib.hid (by have := Zer2.at (W.alloc (.cells #[.int .i64 p, .slice a l.length cap] 26)) 26; rwa [World.size_alloc] at this)
  have ba := belAl (W.alloc (.cells #[.int .i64 p, .slice a l.length cap] 26)) (.cells #[.int .i64 0, .slice none 0 0] 26)
  have hz : W.heap.size + 2 ≤ ((W.alloc (.cells #[.int .i64 p, .slice a l.length cap] 26)).alloc (.cells #[.int .i64 0, .slice none 0 0] 26)).heap.size := by simp
  replace B := B.step ba
  replace BG := Lib.hid (BG.out.below ba)
  clear ba
  have hwi : Hid (∀ w, Calls Tryz.prog 47 #[.int .i64 (k : Int), .int .i64 0, .int .i64 ((l.length : Int) - 1)] w fun e w' => e = .returned (.bool true) ∧ w = w') := Lib.hid fun w => by
    have := within_any (k : Int) 0 ((l.length : Int) - 1) w
    rwa [show inB (k : Int) 0 ((l.length : Int) - 1) = true by simp [inB]; omega] at this
  have hsub := IntWalk.i64_in ((l.length : Int) - 1) (by omega)
  go_enter Tryz.func96, Tryz.ntmps96
  go_upto_region 1 with (fail)
  generalize ((W.alloc (.cells #[.int .i64 p, .slice a l.length cap] 26)).alloc (.cells #[.int .i64 0, .slice none 0 0] 26)) = u at *
  obtain ⟨zBG, fBG0, fBG1⟩ := BG.out
  go_wp2_with fail
  clear zBG fBG0 fBG1
  refine (implCpG_at u p a cap l.length l (H1.out.below B) hs).mono ?_
  rintro e w1 ⟨v1, rfl, o1, b1⟩
  obtain ⟨vb, ⟨a1, c1, rfl, rfl⟩, ob⟩ := o1
  dsimp only at ob
  have hz1 := b1.size
  obtain ⟨hcap, hcm⟩ := ob.cap
  obtain ⟨g, rfl⟩ : ∃ g, a1 = some ⟨g, 0, none⟩ := by
    rcases ob.2 with ⟨h1, h0⟩ | ⟨g', cap', cur, h1, _⟩
    · omega
    · simp at h1; exact ⟨g', h1.1⟩
  have hob := (ob.lt g rfl)
  have B1 := B.step b1
  have Z1 := Lib.hid (HZ.out.below b1)
  have BG1 := Lib.hid (BG.out.below b1)
  have b2 := belAl w1 (.cells #[.int .i64 p, .slice (some ⟨g, 0, none⟩) l.length c1] 26)
  have OG : Hid (OutG (W.heap.size + 2) (w1.alloc (.cells #[.int .i64 p, .slice (some ⟨g, 0, none⟩) l.length c1] 26)) w1.heap.size p (.slice (some ⟨g, 0, none⟩) l.length c1) l) := Lib.hid ⟨by simp [World.cell?_alloc_new], by simp [World.cell?_alloc_new], by simp [World.frozen?_alloc_new], (ob.low (by omega)).below b2, fun e => by simp [Value.ownBlock] at e; omega, by omega, by simp⟩
  have B2 := B1.step b2
  have Z2 := Lib.hid (Z1.out.below b2)
  have BG2 := Lib.hid (BG1.out.below b2)
  clear B1 Z1 HZ B BG BG1
  go_upto_region 2 with (fail)
  generalize (w1.alloc (.cells #[.int .i64 p, .slice (some ⟨g, 0, none⟩) l.length c1] 26)) = w2 at *
  have hz2 := b2.size
  obtain ⟨zBG, fBG0, fBG1⟩ := BG2.out
  go_wp2_with fail
  clear zBG fBG0 fBG1
  refine (implIsGraph_at w2 p a cap l (H1.out.below B2) (by omega)).mono ?_
  rintro e w3 ⟨rfl, b3⟩
  rw [HG.out]
  have hz3 := b3.size
  have B3 := B2.step b3
  have Z3 := Lib.hid (Z2.out.below b3)
  have BG3 := Lib.hid (BG2.out.below b3)
  have OG3 := Lib.hid (OG.out.below b3)
  clear B2 Z2 BG2 OG b3 b2 b1
  obtain ⟨zBG, fBG0, fBG1⟩ := BG3.out
  go_wp2_with (go_at_call 47; refine (hwi.out _).mono ?_; rintro e w1 ⟨rfl, rfl⟩)
  clear zBG fBG0 fBG1
  obtain ⟨gb, hgb⟩ : ∃ gb, gb = w1.heap.size := ⟨_, rfl⟩
  rw [← hgb] at OG3 ⊢
  have hgz : W.heap.size + 2 ≤ gb := by omega
  have hgg : g < gb := by omega
  clear hgb
  obtain ⟨o2, c2, hS2, ho2⟩ := cutBfrom (b := g) (off := 0) (n := l.length) (m := l.length - (k + 1)) (j := k + 1) (c := c1) (by omega) hcap hcm
  have hS1 := fun w => cutBto (b := g) (off := 0) (n := l.length) (j := k) (c := c1) (by omega) hcap hcm w
  have hadd := IntWalk.i64_in ((k : Int) + 1) (by omega)
  have hcast : ((k : Int) + 1) = ((k + 1 : Nat) : Int) := by omega
  rw [← hcast] at hS2
  have HO2 := Lib.hid ho2
  clear ho2 hcast
  have bd : Below w3.heap.size w3 w3.drew := (Below.refl _ _).drew
  have OGD := Lib.hid (OG3.out.below bd)
  have ZD := Lib.hid (Z3.out.below bd)
  have BD := Lib.hid (B3.step bd)
  have s0 : w3.drew.cell? ⟨gb, 1, none⟩ = some (.slice (some ⟨g, 0, none⟩) l.length c1) ∧ w3.drew.cell? ⟨gb, 0, none⟩ = some (.int .i64 p) := ⟨OGD.out.c1, OGD.out.c0⟩
  have hgd := OGD.out.hi
  have hzd : w3.heap.size ≤ w3.drew.heap.size := bd.size
  clear bd OG3 Z3 B3 BG3
  refine wp_regionZ (fun w' => w'.cell? ⟨gb, 1, none⟩ = some (.slice (some ⟨g, 0, none⟩) l.length c1) ∧ w'.cell? ⟨gb, 0, none⟩ = some (.int .i64 p)) 11 (by kernel_rfl) ?_
  generalize w3.drew = wd at *
  refine wpAnyZ_take (i := 0) (v := ?_) rfl (by kernel_rfl) (by kernel_rfl) (by kernel_rfl) (by kernel_rfl) (by kernel_rfl) (fun _ _ _ h => h) (s0) (by rfl) ?_ ?_
  rotate_left
  · intro x hx; obtain ⟨u1, u2⟩ := hx; go_simp; try (with_reducible rfl)
  try simp only [Act.put, List.setIfInBounds_toArray, List.set_cons_zero, List.set_cons_succ, List.getElem_toArray, List.getElem_cons_zero, List.getElem_cons_succ]
  refine wpAnyZ_take (i := 1) (v := ?_) rfl (by kernel_rfl) (by kernel_rfl) (by kernel_rfl) (by kernel_rfl) (by kernel_rfl) (fun _ _ _ h => h) (s0) (by rfl) ?_ ?_
  rotate_left
  · intro x hx; obtain ⟨u1, u2⟩ := hx; go_simp; try (with_reducible rfl)
  try simp only [Act.put, List.setIfInBounds_toArray, List.set_cons_zero, List.set_cons_succ, List.getElem_toArray, List.getElem_cons_zero, List.getElem_cons_succ]
  refine wpAnyZ_take (i := 2) (v := ?_) rfl (by kernel_rfl) (by kernel_rfl) (by kernel_rfl) (by kernel_rfl) (by kernel_rfl) (fun _ _ _ h => h) (s0) (by rfl) ?_ ?_
  rotate_left
  · intro x hx; obtain ⟨u1, u2⟩ := hx; go_simp; try (with_reducible rfl)
  try simp only [Act.put, List.setIfInBounds_toArray, List.set_cons_zero, List.set_cons_succ, List.getElem_toArray, List.getElem_cons_zero, List.getElem_cons_succ]
  refine wpAnyZ_take (i := 3) (v := ?_) rfl (by kernel_rfl) (by kernel_rfl) (by kernel_rfl) (by kernel_rfl) (by kernel_rfl) (fun _ _ _ h => h) (s0) (by rfl) ?_ ?_
  rotate_left
  · intro x hx; obtain ⟨u1, u2⟩ := hx; go_simp; try (with_reducible rfl)
  try simp only [Act.put, List.setIfInBounds_toArray, List.set_cons_zero, List.set_cons_succ, List.getElem_toArray, List.getElem_cons_zero, List.getElem_cons_succ]
  refine wpAnyZ_take (i := 4) (v := ?_) rfl (by kernel_rfl) (by kernel_rfl) (by kernel_rfl) (by kernel_rfl) (by kernel_rfl) (fun _ _ _ h => h) (s0) (by rfl) ?_ ?_
  rotate_left
  · intro x hx; obtain ⟨u1, u2⟩ := hx; go_simp; try (with_reducible rfl)
  try simp only [Act.put, List.setIfInBounds_toArray, List.set_cons_zero, List.set_cons_succ, List.getElem_toArray, List.getElem_cons_zero, List.getElem_cons_succ]
  refine wpAnyZ_take (i := 5) (v := ?_) rfl (by kernel_rfl) (by kernel_rfl) (by kernel_rfl) (by kernel_rfl) (by kernel_rfl) (fun _ _ _ h => h) (s0) (by rfl) ?_ ?_
  rotate_left
  · intro x hx; obtain ⟨u1, u2⟩ := hx; go_simp; try (with_reducible rfl)
  try simp only [Act.put, List.setIfInBounds_toArray, List.set_cons_zero, List.set_cons_succ, List.getElem_toArray, List.getElem_cons_zero, List.getElem_cons_succ]
  refine wpAnyZ_take (i := 6) (v := ?_) rfl (by kernel_rfl) (by kernel_rfl) (by kernel_rfl) (by kernel_rfl) (by kernel_rfl) (fun _ _ _ h => h) (s0) (by rfl) ?_ ?_
  rotate_left
  · intro x hx; obtain ⟨u1, u2⟩ := hx; go_simp; try (with_reducible rfl)
  try simp only [Act.put, List.setIfInBounds_toArray, List.set_cons_zero, List.set_cons_succ, List.getElem_toArray, List.getElem_cons_zero, List.getElem_cons_succ]
  refine wpAnyZ_take (i := 7) (v := ?_) rfl (by kernel_rfl) (by kernel_rfl) (by kernel_rfl) (by kernel_rfl) (by kernel_rfl) (fun _ _ _ h => h) (s0) (by rfl) ?_ ?_
  rotate_left
  · intro x hx; obtain ⟨u1, u2⟩ := hx; go_simp; try (with_reducible rfl)
  try simp only [Act.put, List.setIfInBounds_toArray, List.set_cons_zero, List.set_cons_succ, List.getElem_toArray, List.getElem_cons_zero, List.getElem_cons_succ]
  refine wpAnyZ_take (i := 8) (v := ?_) rfl (by kernel_rfl) (by kernel_rfl) (by kernel_rfl) (by kernel_rfl) (by kernel_rfl) (fun _ _ _ h => h) (s0) (by rfl) ?_ ?_
  rotate_left
  · intro x hx; obtain ⟨u1, u2⟩ := hx; go_simp; try (with_reducible rfl)
  try simp only [Act.put, List.setIfInBounds_toArray, List.set_cons_zero, List.set_cons_succ, List.getElem_toArray, List.getElem_cons_zero, List.getElem_cons_succ]
  refine wpAnyZ_step (i := 9) (by kernel_rfl) rfl (by rfl) ?_
  intro KK hKK
  have HSRC : Hid (BarsAt wd (some ⟨g, o2, none⟩) (l.length - (k + 1)) (l.drop (k + 1))) := Lib.hid (by
    obtain ⟨a9, c9, e9, hi9⟩ := OGD.out.ob.form
    simp at e9
    obtain ⟨rfl, -⟩ := e9
    exact hi9.dropB (j := k + 1) (by omega) HO2.out)
  have HDST := Lib.hid (OGD.out.ob.takeB (j := k) (by omega))
  refine stepAppBars (by rfl) _ _ (by rfl) (by rfl) HDST.out (by rfl) HSRC.out (by simp; omega) (by omega) ?_
  intro v' w5 h5 k5 a5
  have HC5 : Hid (OwnBars w5 (W.heap.size + 2) v' (cutG l k)) := Lib.hid h5
  obtain ⟨av, cv, rfl, -⟩ := h5.form
  have HLM := Lib.hid (show (l.take k ++ l.drop (k + 1)).length = (cutG l k).length from rfl)
  rw [HLM.out] at HC5 a5 ⊢
  have k5' : Kept (fun k => some k = (Value.slice (some ⟨g, 0, none⟩) l.length c1).ownBlock) wd w5 := k5
  have OG5 := Lib.hid (OGD.out.app HC5.out k5' (a5.imp id fun e b hb => by rw [e] at hb; exact Nat.le_of_eq (Option.some.inj hb)))
  have hnb : ∀ b, b ≠ g → ¬ some b = Value.ownBlock (.slice (some ⟨g, 0, none⟩) k c1) := fun b hb e => by simp [Value.ownBlock] at e; exact hb e
  have q1 := (k5.cell (b := gb) (o := 1) hgd (hnb _ (by omega))).trans s0.1
  have q0 := (k5.cell (b := gb) (o := 0) hgd (hnb _ (by omega))).trans OGD.out.c0
  have q2 := (k5.frozen (b := gb) (o := 1) hgd (hnb _ (by omega))).trans OGD.out.f1
  have q3 : gb < w5.heap.size := Nat.lt_of_lt_of_le hgd k5.size
  have s5 := And.intro q1 q0
  refine hKK.out _ _ (.inr s5) ?_
  clear hKK KK
  try simp only [Act.put, List.setIfInBounds_toArray, List.set_cons_zero, List.set_cons_succ, List.getElem_toArray, List.getElem_cons_zero, List.getElem_cons_succ]
  refine wpAnyZ_take (i := 10) (v := ?_) rfl (by kernel_rfl) (by kernel_rfl) (by kernel_rfl) (by kernel_rfl) (by kernel_rfl) (fun _ _ _ h => h) (s5) (by rfl) ?_ ?_
  rotate_left
  · intro x hx; obtain ⟨u1, u2⟩ := hx; go_simp; try (with_reducible rfl)
  try simp only [Act.put, List.setIfInBounds_toArray, List.set_cons_zero, List.set_cons_succ, List.getElem_toArray, List.getElem_cons_zero, List.getElem_cons_succ]
  refine wpAnyZ_step (i := 11) (by kernel_rfl) rfl (by rfl) ?_
  intro KK hKK
  go_simp
  refine hKK.out _ _ (.inl (by kernel_rfl)) ?_
  clear hKK KK
  try simp only [Act.put, List.setIfInBounds_toArray, List.set_cons_zero, List.set_cons_succ, List.getElem_toArray, List.getElem_cons_zero, List.getElem_cons_succ]
  refine wpAnyZ_done (by kernel_rfl) ?_ _
  have Z5 := Lib.hid ((ZD.out.kept k5 (hnb _ (by omega))).kept (setKept (b := gb) (j := 1) (x := .slice av (cutG l k).length cv)) (by omega))
  have B5 := Lib.hid ((BD.out.trans (k5.below (by omega) fun j h1 h2 => by simp [Value.ownBlock] at h2; omega)).setCell (p := ⟨gb, 1, none⟩) (by simp; omega) (.slice av (cutG l k).length cv))
  have hz5 := k5.size
  have hz6 : w5.heap.size ≤ (w5.setCell ⟨gb, 1, none⟩ (.slice av (cutG l k).length cv)).heap.size := by simp
  clear s5 q0 q1 q2 s0 k5 k5' a5 h5
  generalize (w5.setCell ⟨gb, 1, none⟩ (.slice av (cutG l k).length cv)) = w6 at *
  obtain ⟨g0, g1, g2, g3, g4, g5', g6'⟩ := OG5.out
  obtain ⟨⟨r0, r1, r2, c0, c1'⟩, ⟨y0, y1⟩, zg⟩ := Z5.out
  go_wp2_with fail
  refine bodyPost_ret (v := .tuple #[.agg #[.int .i64 p, .slice av (cutG l k).length cv], .bool true]) (by simp [results, Tryz.results96, go_sem, zg, c0, c1']) rfl ⟨_, rfl, ?_⟩
  exact laid2 g3 (by omega) (by omega) (by omega) B5.out
end Go.Proofs.YtfbmpkdjhhcnpaaGreat

