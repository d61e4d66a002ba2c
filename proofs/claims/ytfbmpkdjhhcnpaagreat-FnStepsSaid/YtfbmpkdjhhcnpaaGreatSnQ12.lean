/- Drawing steps: l7Step, l7Steps, DrawBuildSteps, DrawAreSameSteps, DrawFindSteps of the reference. No condition but sizes. -/
import Derived.Test.YtfbmpkdjhhcnpaaGreatSnQ05
import Derived.Test.YtfbmpkdjhhcnpaaGreatSnQ10
import Derived.Test.YtfbmpkdjhhcnpaaGreatSnQ11
import Derived.Test.YtfbmpkdjhhcnpaaGreatSnP01
import Derived.Test.YtfbmpkdjhhcnpaaGreatSnP18
import Derived.Test.YtfbmpkdjhhcnpaaGreatSnP20
import Derived.Test.YtfbmpkdjhhcnpaaGreatSnQ01
import Derived.Test.YtfbmpkdjhhcnpaaGreatSnP06
namespace Go.Proofs.YtfbmpkdjhhcnpaaGreat
open Go.RowKit
set_option maxRecDepth 100000
set_option linter.unusedVariables false
set_option linter.unusedSimpArgs false
def RetDst (W0 w : World) (g : Nat) (ca : Option Addr) (n cap : Nat) (l : List Int) (e : Ending) (w' : World) : Prop :=
  ∃ kd pt x y z, e = .returned (.agg #[.int .i64 kd, .int .i64 pt, .int .i64 x, .int .i64 y, .int .i64 z]) ∧ Drw W0 w' g ca n cap l ∧ Kept (fun b => b = g) w w'
set_option maxHeartbeats 8000000 in
theorem l7Step_at (W0 w : World) (g : Nat) (ca : Option Addr) (n cap : Nat) (l : List Int) (hB : BytesAt W0 ca n l) (hn : n ≤ 1099511627776) (h : Drw W0 w g ca n cap l) :
    Calls Tryz.prog 89 #[.pointer (some ⟨g, 0, none⟩)] w (RetDst W0 w g ca n cap l) := by
  have HD : Hid (∀ (m : Int) w9, 1 ≤ m ∧ m ≤ 256 → Drw W0 w9 g ca n cap l → Calls Tryz.prog 88 #[.pointer (some ⟨g, 0, none⟩), .int .i64 m] w9 (RetDi W0 w9 g ca n cap l 0 (m - 1))) := Lib.hid fun m w9 hm h9 => l1Below_at W0 w9 g ca n cap l hB hn h9 m hm
  have ba := belAl w (.cells #[.int .i64 0, .int .i64 0, .int .i64 0, .int .i64 0, .int .i64 0] 57)
  have Z := Lib.hid (ZSt.at w)
  have D := Lib.hid (h.below ba)
  have K := Lib.hid (Kept.of_below (S := fun b => b = g) ba)
  have hgw := h.hi
  have hlow := h.low
  clear hB h ba
  go_enter Tryz.func89, Tryz.ntmps89
  go_wp2_with fail
  generalize (w.alloc (.cells #[.int .i64 0, .int .i64 0, .int .i64 0, .int .i64 0, .int .i64 0] 57)) = u at *
  refine (HD.out 6 u (by decide) D.out).mono ?_
  rintro e w1 ⟨x1, hx1, rfl, d1, k1⟩
  replace D := Lib.hid d1
  replace K := Lib.hid (K.out.trans k1)
  replace Z := Lib.hid (Z.out.kept k1 (by omega))
  clear d1 k1
  go_wp2_with fail
  refine (HD.out 6 w1 (by decide) D.out).mono ?_
  rintro e w2 ⟨x2, hx2, rfl, d1, k1⟩
  replace D := Lib.hid d1
  replace K := Lib.hid (K.out.trans k1)
  replace Z := Lib.hid (Z.out.kept k1 (by omega))
  clear d1 k1
  go_wp2_with fail
  refine (HD.out 6 w2 (by decide) D.out).mono ?_
  rintro e w3 ⟨x3, hx3, rfl, d1, k1⟩
  replace D := Lib.hid d1
  replace K := Lib.hid (K.out.trans k1)
  replace Z := Lib.hid (Z.out.kept k1 (by omega))
  clear d1 k1
  go_wp2_with fail
  refine (HD.out 4 w3 (by decide) D.out).mono ?_
  rintro e w4 ⟨x4, hx4, rfl, d1, k1⟩
  replace D := Lib.hid d1
  replace K := Lib.hid (K.out.trans k1)
  replace Z := Lib.hid (Z.out.kept k1 (by omega))
  clear d1 k1
  go_wp2_with fail
  refine (HD.out 6 w4 (by decide) D.out).mono ?_
  rintro e w5 ⟨x5, hx5, rfl, d1, k1⟩
  replace D := Lib.hid d1
  replace K := Lib.hid (K.out.trans k1)
  replace Z := Lib.hid (Z.out.kept k1 (by omega))
  clear d1 k1
  go_wp2_with fail
  refine (HD.out 2 w5 (by decide) D.out).mono ?_
  rintro e w6 ⟨x6, hx6, rfl, d1, k1⟩
  replace D := Lib.hid d1
  replace K := Lib.hid (K.out.trans k1)
  replace Z := Lib.hid (Z.out.kept k1 (by omega))
  clear d1 k1
  have hbm : 0 ≤ x5 * x6 ∧ x5 * x6 ≤ 5 := by
    rcases (by omega : x6 = 0 ∨ x6 = 1) with h | h <;> rw [h] <;> omega
  have hwm := IntWalk.i64_in (x5 * x6) (by omega)
  have HP := Lib.hid (putSt (kd := x4) (pt := x1) (x := x2) (y := x3) (z := x5 * x6) Z.out)
  have k2 : Kept (fun b => b = w.heap.size) w6 (((((w6.setCell ⟨w.heap.size, 0, none⟩ (.int .i64 x4)).setCell ⟨w.heap.size, 1, none⟩ (.int .i64 x1)).setCell ⟨w.heap.size, 2, none⟩ (.int .i64 x2)).setCell ⟨w.heap.size, 3, none⟩ (.int .i64 x3)).setCell ⟨w.heap.size, 4, none⟩ (.int .i64 (x5 * x6))) :=
    ((((keptSet' (S := fun b => b = w.heap.size) rfl).trans (keptSet' (S := fun b => b = w.heap.size) rfl)).trans (keptSet' (S := fun b => b = w.heap.size) rfl)).trans (keptSet' (S := fun b => b = w.heap.size) rfl)).trans (keptSet' (S := fun b => b = w.heap.size) rfl)
  have HF := Lib.hid (And.intro (D.out.kept k2 (by omega) (fun b hb => by omega)) (K.out.on k2 fun i h1 h2 => by omega))
  obtain ⟨⟨q1, q2, q3, q4, q5, hz, c0, c1, c2, c3, c4⟩, f0, f1, f2, f3, f4⟩ := Z.out
  clear k2 D K
  go_wp2_with fail
  obtain ⟨hz9, d0, d1, d2, d3, d4⟩ := HP.out
  refine bodyPost_ret (v := .agg #[.int .i64 x4, .int .i64 x1, .int .i64 x2, .int .i64 x3, .int .i64 (x5 * x6)]) (by simp [results, Tryz.results89, go_sem, hz, c0, c1, c2, c3, c4]) rfl ?_
  exact ⟨x4, x1, x2, x3, x5 * x6, rfl, HF.out.1, HF.out.2⟩
def RetDs (W0 w : World) (g : Nat) (ca : Option Addr) (n cap : Nat) (l : List Int) (e : Ending) (w' : World) : Prop :=
  ∃ p v ls, e = .returned (.tuple #[.int .i64 p, v]) ∧ OwnSteps w' w.heap.size v ls ∧ ls.length ≤ 30 ∧ Drw W0 w' g ca n cap l ∧ Kept (fun b => b = g) w w'
theorem fsA_len' (p : Int) (l : List BarT) : (fsA (p, l)).length ≤ l.length + 1 := by
  unfold fsA findA
  dsimp only
  split
  · cases hf : fndL p l.length l [] with
    | none => simp
    | some s =>
      have := fndL_len _ _ _ _ hf
      simp at this ⊢
      omega
  · simp
theorem OwnSteps.on {w w' : World} {base g : Nat} {v : Value} {xs : List StepT} (h : OwnSteps w base v xs) (k : Kept (fun b => b = g) w w') (hg : g < base) : OwnSteps w' base v xs :=
  k.ownsRow h fun b h1 h2 => by have := (World.ownsRow.lt h b h1).1; omega
theorem litStep (w : World) (x1 x2 x3 x4 x5 : Int) : StepsAt (w.alloc (.cells #[.int .i64 x1, .int .i64 x2, .int .i64 x3, .int .i64 x4, .int .i64 x5] 57)) (some ⟨w.heap.size, 0, none⟩) 1 [(x1, x2, x3, x4, x5)] := by
  obtain ⟨a, c, e, h⟩ := (OwnSteps.one w w.heap.size (Nat.le_refl _) x1 x2 x3 x4 x5).form
  simp at e
  obtain ⟨rfl, rfl⟩ := e
  exact h
set_option maxHeartbeats 8000000 in
theorem l7Steps_at (W0 w : World) (g : Nat) (ca : Option Addr) (n cap : Nat) (l : List Int) (hB : BytesAt W0 ca n l) (hn : n ≤ 1099511627776) (h : Drw W0 w g ca n cap l) :
    Calls Tryz.prog 85 #[.pointer (some ⟨g, 0, none⟩)] w (RetDs W0 w g ca n cap l) := by
  have HD : Hid (∀ (m : Int) w9, 1 ≤ m ∧ m ≤ 256 → Drw W0 w9 g ca n cap l → Calls Tryz.prog 88 #[.pointer (some ⟨g, 0, none⟩), .int .i64 m] w9 (RetDi W0 w9 g ca n cap l 0 (m - 1))) := Lib.hid fun m w9 hm h9 => l1Below_at W0 w9 g ca n cap l hB hn h9 m hm
  have HON : Hid (∀ (m : Int) w9, 1 ≤ m ∧ m ≤ 256 → Drw W0 w9 g ca n cap l → Calls Tryz.prog 58 #[.pointer (some ⟨g, 0, none⟩), .int .i64 m] w9 (RetDb W0 w9 g ca n cap l)) := Lib.hid fun m w9 hm h9 => l1Once_at W0 w9 g ca n cap l hB hn h9 m hm
  have HLM : Hid (∀ (P : Nat) w9, 1 ≤ P ∧ P ≤ 6 → Drw W0 w9 g ca n cap l → Calls Tryz.prog 114 #[.pointer (some ⟨g, 0, none⟩), .int .i64 P] w9 (RetDg W0 w9 g ca n cap l fun p bs => p = (P : Int) ∧ isGraphB ((P : Int), bs) = true ∧ bs.length ≤ 18 ∧ (2 ≤ P → 1 ≤ bs.length))) := Lib.hid fun P w9 hP h9 => l6Laman_at W0 w9 g ca n cap l hB hn h9 P hP
  have HST : Hid (∀ w9, Drw W0 w9 g ca n cap l → Calls Tryz.prog 89 #[.pointer (some ⟨g, 0, none⟩)] w9 (RetDst W0 w9 g ca n cap l)) := Lib.hid fun w9 h9 => l7Step_at W0 w9 g ca n cap l hB hn h9
  have D := Lib.hid h
  have K := Lib.hid (Kept.refl (S := fun b => b = g) w)
  have hgw := h.hi
  have hlow := h.low
  clear hB h
  go_enter Tryz.func85, Tryz.ntmps85
  go_wp2_with fail
  refine (HD.out 5 w (by decide) D.out).mono ?_
  rintro e w1 ⟨y, hy, rfl, d1, k1⟩
  replace D := Lib.hid d1
  replace K := Lib.hid (K.out.trans k1)
  have hz1 := k1.size
  clear d1 k1
  have hwx := IntWalk.i64_in (2 + y) (by omega)
  obtain ⟨P, hP⟩ : ∃ P : Nat, 2 + y = P := ⟨(2 + y).toNat, by omega⟩
  have hP2 : 2 ≤ P ∧ P ≤ 6 := by omega
  rw [hP] at hwx
  go_wp2_with fail
  try rw [hP]
  clear hP hwx hy
  refine (HLM.out P w1 (by omega) D.out).mono ?_
  rintro e w3 ⟨p, a, c, bs, rfl, ob, ⟨rfl, -, hbl, -⟩, d1, k1⟩
  have ba := belAl w3 (.cells #[.int .i64 (P : Int), .slice a bs.length c] 26)
  have hbx : BoxGr (w3.alloc (.cells #[.int .i64 (P : Int), .slice a bs.length c] 26)) w3.heap.size P a bs.length c := BoxGr.at rfl
  have HFN := Lib.hid (spec_FindSteps (w3.alloc (.cells #[.int .i64 (P : Int), .slice a bs.length c] 26)) _ ((P : Int), bs) ⟨a, c, rfl, (ownBars_at ob).below ba⟩ (by show bs.length ≤ 1048576; omega))
  have hlen := fsA_len' (P : Int) bs
  replace D := Lib.hid (d1.below ba)
  replace K := Lib.hid ((K.out.trans k1).trans (Kept.of_below ba))
  have hz4 : w.heap.size ≤ (w3.alloc (.cells #[.int .i64 (P : Int), .slice a bs.length c] 26)).heap.size := K.out.size
  obtain ⟨L, hL⟩ : ∃ L, L = fsA ((P : Int), bs) := ⟨_, rfl⟩
  obtain ⟨fb, hfb⟩ : ∃ b, b = fsB ((P : Int), bs) := ⟨_, rfl⟩
  rw [← hL, ← hfb] at HFN
  rw [← hL] at hlen
  clear d1 k1 ob hL hfb
  obtain ⟨zB, cB0, cB1⟩ := hbx
  go_wp2_with fail
  generalize (w3.alloc (.cells #[.int .i64 (P : Int), .slice a bs.length c] 26)) = w4 at *
  refine HFN.out.mono ?_
  rintro e w5 ⟨v, rfl, ho, b5⟩
  replace D := Lib.hid (D.out.below b5)
  replace K := Lib.hid (K.out.trans (Kept.of_below b5))
  have OS := Lib.hid (OwnSteps.low ho hz4)
  have hz5 := K.out.size
  have hg5 : g < w5.heap.size := by omega
  have hob : ∀ k, v.ownBlock = some k → w.heap.size ≤ k := fun k hk => (World.ownsRow.lt OS.out k hk).1
  have HOB := Lib.hid hob
  clear HFN ho b5 zB cB0 cB1 ba hob
  go_wp2_with fail
  refine (HON.out 5 w5 (by decide) D.out).mono ?_
  rintro e w6 ⟨bq, rfl, d1, k1⟩
  replace D := Lib.hid d1
  replace K := Lib.hid (K.out.trans k1)
  replace OS := Lib.hid (OS.out.on k1 hgw)
  clear d1 k1
  cases bq
  · go_wp2_with fail
    refine bodyPost_ret (v := .tuple #[.int .i64 (P : Int), v]) (by simp [results, Tryz.results85, go_sem]) rfl ?_
    exact ⟨(P : Int), v, L, rfl, OS.out, by omega, D.out, K.out⟩
  · go_wp2_with fail
    refine (HST.out w6 D.out).mono ?_
    rintro e w7 ⟨kd, pt, s1, s2, s3, rfl, d1, k1⟩
    replace D := Lib.hid d1
    replace K := Lib.hid (K.out.trans k1)
    replace OS := Lib.hid (OS.out.on k1 hgw)
    clear d1 k1
    have ba := belAl w7 (.cells #[.int .i64 kd, .int .i64 pt, .int .i64 s1, .int .i64 s2, .int .i64 s3] 57)
    have bb := belAl (w7.alloc (.cells #[.int .i64 kd, .int .i64 pt, .int .i64 s1, .int .i64 s2, .int .i64 s3] 57)) (.cells #[.int .i64 kd, .int .i64 pt, .int .i64 s1, .int .i64 s2, .int .i64 s3] 57)
    have HLI := Lib.hid (litStep (w7.alloc (.cells #[.int .i64 kd, .int .i64 pt, .int .i64 s1, .int .i64 s2, .int .i64 s3] 57)) kd pt s1 s2 s3)
    have hs1 : (w7.alloc (.cells #[.int .i64 kd, .int .i64 pt, .int .i64 s1, .int .i64 s2, .int .i64 s3] 57)).heap.size = w7.heap.size + 1 := by simp
    have hbx : BoxSt (w7.alloc (.cells #[.int .i64 kd, .int .i64 pt, .int .i64 s1, .int .i64 s2, .int .i64 s3] 57)) w7.heap.size kd pt s1 s2 s3 := BoxSt.at rfl
    rw [hs1] at HLI
    have hz7 := K.out.size
    replace D := Lib.hid ((D.out.below ba).below bb)
    replace K := Lib.hid ((K.out.trans (Kept.of_below ba)).trans (Kept.of_below bb))
    replace OS := Lib.hid ((OS.out.below ba).below bb)
    have hz9 := K.out.size
    obtain ⟨hbz, y0, y1, y2, y3, y4⟩ := hbx
    clear ba bb
    go_wp2_with (at_builtin; refine appStepsAt rfl (.tmp 24) (.tmp 26) rfl rfl OS.out rfl HLI.out (by omega) (by omega) ?_; intro v8 w8 h8 k8 a8)
    refine bodyPost_ret (v := .tuple #[.int .i64 (P : Int), v8]) (by simp [results, Tryz.results85, go_sem]) rfl ?_
    exact ⟨(P : Int), v8, L ++ [(kd, pt, s1, s2, s3)], rfl, h8, by simp; omega, D.out.kept k8 (fun e => by have := HOB.out _ e.symm; omega) (fun b hb e => by have := HOB.out _ e.symm; omega), K.out.on k8 fun i hi e => by have := HOB.out _ e.symm; omega⟩
def RetBs (W : World) (e : Ending) (w' : World) : Prop :=
  ∃ p v ls, e = .returned (.tuple #[.int .i64 p, v]) ∧ OwnSteps w' W.heap.size v ls ∧ ls.length ≤ 30 ∧ Below W.heap.size W w'
def RetTs (W : World) (e : Ending) (w' : World) : Prop :=
  ∃ v ls v' ls', e = .returned (.tuple #[v, v']) ∧ (IsSteps w' v ls ∧ IsSteps w' v' ls') ∧ (ls.length ≤ 30 ∧ ls'.length ≤ 30) ∧ Below W.heap.size W w'
def RetGo (W : World) (e : Ending) (w' : World) : Prop :=
  ∃ p a c bs, e = .returned (.agg #[.int .i64 p, .slice a bs.length c]) ∧ OwnBars w' W.heap.size (.slice a bs.length c) bs ∧ bs.length ≤ 25 ∧ Below W.heap.size W w'
def RetHs (W : World) (e : Ending) (w' : World) : Prop :=
  ∃ p a c bs kd pt x y z, e = .returned (.tuple #[.agg #[.int .i64 p, .slice a bs.length c], .agg #[.int .i64 kd, .int .i64 pt, .int .i64 x, .int .i64 y, .int .i64 z]]) ∧ OwnBars w' W.heap.size (.slice a bs.length c) bs ∧ bs.length ≤ 25 ∧ Below W.heap.size W w'
theorem layG {W w' : World} {p : Int} {a : Option Addr} {c lo : Nat} {bs : List BarT} (hb : Below W.heap.size W w') (ho : OwnBars w' lo (.slice a bs.length c) bs) (hlo : W.heap.size < lo) :
    OwnBars ((w'.setCell ⟨W.heap.size, 0, none⟩ (.int .i64 p)).setCell ⟨W.heap.size, 1, none⟩ (.slice a bs.length c)) W.heap.size (.slice a bs.length c) bs ∧ Below W.heap.size W ((w'.setCell ⟨W.heap.size, 0, none⟩ (.int .i64 p)).setCell ⟨W.heap.size, 1, none⟩ (.slice a bs.length c)) := by
  have k2 : Kept (fun b => b = W.heap.size) w' ((w'.setCell ⟨W.heap.size, 0, none⟩ (.int .i64 p)).setCell ⟨W.heap.size, 1, none⟩ (.slice a bs.length c)) := (keptSet' (S := fun b => b = W.heap.size) rfl).trans (keptSet' (S := fun b => b = W.heap.size) rfl)
  exact ⟨ownsRow_base (k2.ownsRow ho fun b h1 h2 => by have := (ho.lt b h1).1; omega) (by omega), (hb.setCell (p := ⟨W.heap.size, 0, none⟩) (Nat.le_refl _) _).setCell (p := ⟨W.heap.size, 1, none⟩) (Nat.le_refl _) _⟩
set_option maxHeartbeats 8000000 in
theorem drawBld_at (W : World) (ca : Option Addr) (n cap : Nat) (l : List Int) (hB : BytesAt W ca n l) (hn : n ≤ 1048576) : Calls Tryz.prog 36 #[.slice ca n cap] W (RetBs W) := by
  have HN := Lib.hid (l1New_at W ca n cap l hB hn)
  have HS : Hid (∀ w9 g, Drw W w9 g ca n cap l → Calls Tryz.prog 85 #[.pointer (some ⟨g, 0, none⟩)] w9 (RetDs W w9 g ca n cap l)) := Lib.hid fun w9 g h9 => l7Steps_at W w9 g ca n cap l hB (by omega) h9
  clear hB
  go_enter Tryz.func36, Tryz.ntmps36
  go_wp2_with fail
  refine HN.out.mono ?_
  rintro e w1 ⟨g, rfl, d1⟩
  have hz1 := d1.bel.size
  have hg0 := d1.low
  go_wp2_with fail
  refine (HS.out w1 g d1).mono ?_
  rintro e w2 ⟨p, v, ls, rfl, os, hl, d2, k2⟩
  have BW := Lib.hid (d1.bel.trans (k2.below d1.bel.size fun k h1 h2 => by omega))
  have OS := Lib.hid (OwnSteps.low os hz1)
  clear d1 d2 k2 os HN HS
  go_wp2_with fail
  refine bodyPost_ret (v := .tuple #[.int .i64 p, v]) (by simp [results, Tryz.results36, go_sem]) rfl ?_
  exact ⟨p, v, ls, rfl, OS.out, hl, BW.out⟩
set_option maxHeartbeats 8000000 in
theorem drawSam_at (W : World) (ca : Option Addr) (n cap : Nat) (l : List Int) (hB : BytesAt W ca n l) (hn : n ≤ 1048576) : Calls Tryz.prog 42 #[.slice ca n cap] W (RetTs W) := by
  have HN := Lib.hid (l1New_at W ca n cap l hB hn)
  have HS : Hid (∀ w9 g, Drw W w9 g ca n cap l → Calls Tryz.prog 85 #[.pointer (some ⟨g, 0, none⟩)] w9 (RetDs W w9 g ca n cap l)) := Lib.hid fun w9 g h9 => l7Steps_at W w9 g ca n cap l hB (by omega) h9
  have HON : Hid (∀ (m : Int) w9 g, 1 ≤ m ∧ m ≤ 256 → Drw W w9 g ca n cap l → Calls Tryz.prog 58 #[.pointer (some ⟨g, 0, none⟩), .int .i64 m] w9 (RetDb W w9 g ca n cap l)) := Lib.hid fun m w9 g hm h9 => l1Once_at W w9 g ca n cap l hB (by omega) h9 m hm
  clear hB
  go_enter Tryz.func42, Tryz.ntmps42
  go_wp2_with fail
  refine HN.out.mono ?_
  rintro e w1 ⟨g, rfl, d1⟩
  have hz1 := d1.bel.size
  have hg0 := d1.low
  have hg1 := d1.hi
  have D := Lib.hid d1
  clear d1
  go_wp2_with fail
  refine (HS.out w1 g D.out).mono ?_
  rintro e w2 ⟨p, v, ls, rfl, os, hl, d2, k2⟩
  have BW := Lib.hid (D.out.bel.trans (k2.below D.out.bel.size fun k h1 h2 => by omega))
  replace D := Lib.hid d2
  have OS := Lib.hid os
  clear d2 k2 os
  go_wp2_with fail
  refine (HON.out 2 w2 g (by decide) D.out).mono ?_
  rintro e w3 ⟨bq, rfl, d3, k3⟩
  replace BW := Lib.hid (BW.out.trans (k3.below BW.out.size fun k h1 h2 => by omega))
  replace D := Lib.hid d3
  replace OS := Lib.hid (OS.out.on k3 hg1)
  clear d3 k3
  cases bq
  · go_wp2_with fail
    refine (HS.out w3 g D.out).mono ?_
    rintro e w4 ⟨p', v', ls', rfl, os', hl', d4, k4⟩
    replace BW := Lib.hid (BW.out.trans (k4.below BW.out.size fun k h1 h2 => by omega))
    replace OS := Lib.hid (OS.out.on k4 hg1)
    have OS' := Lib.hid os'
    clear d4 k4 os' D
    go_wp2_with fail
    refine bodyPost_ret (v := .tuple #[v, v']) (by simp [results, Tryz.results42, go_sem]) rfl ?_
    exact ⟨v, ls, v', ls', rfl, ⟨OS.out.form, OS'.out.form⟩, ⟨hl, hl'⟩, BW.out⟩
  · have ba := belAl w3 (.cells #[] 57)
    have HMD := Lib.hid (OwnSteps.made w3 w3.heap.size (Nat.le_refl _))
    have hne : ∀ k, v.ownBlock = some k → k < w3.heap.size := fun k hk => (World.ownsRow.lt OS.out k hk).2
    have HNE := Lib.hid hne
    replace BW := Lib.hid (BW.out.step ba)
    replace OS := Lib.hid (OwnSteps.below OS.out ba)
    obtain ⟨av, cv, rfl, hat⟩ := OS.out.form
    have HAT := Lib.hid hat
    have hz3 : w3.heap.size ≤ (w3.alloc (.cells #[] 57)).heap.size := ba.size
    have hzW : W.heap.size ≤ w3.heap.size := by
      have := BW.out.size
      have := D.out.bel.size
      omega
    clear ba hne hat D
    go_wp2_with (at_builtin; refine appStepsAt rfl (.tmp 19) (.tmp 20) rfl rfl HMD.out rfl HAT.out (by simp; omega) hz3 ?_; intro v8 w8 h8 k8 a8)
    have hn8 : ∀ k, some k = (Value.slice (some ⟨w3.heap.size, 0, none⟩) 0 0).ownBlock → k = w3.heap.size := fun k hk => Option.some.inj hk
    refine bodyPost_ret (v := .tuple #[.slice av ls.length cv, v8]) (by simp [results, Tryz.results42, go_sem]) rfl ?_
    refine ⟨_, ls, v8, [] ++ ls, rfl, ⟨?_, h8.form⟩, ⟨hl, by simpa using hl⟩, BW.out.trans (k8.below BW.out.size fun k h1 h2 => by have := hn8 k h2; omega)⟩
    exact (show OwnSteps w8 w1.heap.size (.slice av ls.length cv) ls from k8.ownsRow OS.out fun k h1 h2 => by have := hn8 k h2; have := HNE.out k h1; omega).form
set_option maxHeartbeats 8000000 in
theorem drawFsg_at (W : World) (ca : Option Addr) (n cap : Nat) (l : List Int) (hB : BytesAt W ca n l) (hn : n ≤ 1048576) : Calls Tryz.prog 25 #[.slice ca n cap] W (RetGo W) := by
  have ba := belAl W (.cells #[.int .i64 0, .slice none 0 0] 26)
  have Z := Lib.hid (Zer2.at W 26)
  have hBu := BytesAt.below hB ba
  have hzu : (W.alloc (.cells #[.int .i64 0, .slice none 0 0] 26)).heap.size = W.heap.size + 1 := by simp
  have BA := Lib.hid ba
  clear hB ba
  go_enter Tryz.func25, Tryz.ntmps25
  go_wp2_with fail
  generalize (W.alloc (.cells #[.int .i64 0, .slice none 0 0] 26)) = u at *
  have HN := Lib.hid (l1New_at u ca n cap l hBu hn)
  have HA : Hid (∀ w9 g, Drw u w9 g ca n cap l → Calls Tryz.prog 74 #[.pointer (some ⟨g, 0, none⟩)] w9 (RetDg u w9 g ca n cap l fun p bs => bs.length ≤ 25)) := Lib.hid fun w9 g h9 => l6Any_at u w9 g ca n cap l hBu (by omega) h9
  have hzu1 : W.heap.size < u.heap.size := by omega
  clear hBu hzu
  refine HN.out.mono ?_
  rintro e w1 ⟨g, rfl, d1⟩
  have D := Lib.hid d1
  have hz1 := d1.bel.size
  have hg0 := d1.low
  have hg1 := d1.hi
  have B := Lib.hid (BA.out.step d1.bel)
  replace Z := Lib.hid (Z.out.below d1.bel)
  clear d1 HN BA
  go_wp2_with fail
  refine (HA.out w1 g D.out).mono ?_
  rintro e w2 ⟨p, a, c, bs, rfl, ob, hsm, d2, k2⟩
  have HL := Lib.hid (layG (p := p) (B.out.trans (k2.below B.out.size fun k h1 h2 => by omega)) ob (by omega))
  have Z2 := Z.out.kept k2 (by omega)
  obtain ⟨⟨z1, z2, z3, c0, c1⟩, ⟨f0, f1⟩, gz⟩ := Z2
  clear ob d2 k2 D B Z HA
  go_wp2_with fail
  refine bodyPost_ret (v := .agg #[.int .i64 p, .slice a bs.length c]) (by simp [results, Tryz.results25, go_sem, gz, c0, c1]) rfl ?_
  exact ⟨p, a, c, bs, rfl, HL.out.1, hsm, HL.out.2⟩
theorem cutStA {b off n j c : Nat} (hn : j ≤ n) (hc : n ≤ c) (hm : c ≤ 9223372036854775807) (w : World) : (Instr.slice 45 (.slice (some ⟨b, off, none⟩) n c) none (some (.int .i64 (j : Int))) none).run Tryz.prog w = .ok (.slice (some ⟨b, off, none⟩) j c) w := by
  go_simp
  intro h
  omega
theorem cutStN (w : World) : (Instr.slice 45 (.slice none 0 0) none (some (.int .i64 ((0 : Nat) : Int))) none).run Tryz.prog w = .ok (.slice none 0 0) w := by
  go_simp
theorem StepsAt.takeS {W : World} {a : Option Addr} {n m : Nat} {r : List StepT} (h : StepsAt W a n r) (hm : m ≤ n) : StepsAt W a m (r.take m) :=
  ⟨by rw [List.length_take, h.1]; omega, fun k hk => by
    obtain ⟨b, off, x, h1, h2, h3, h4⟩ := h.2 k (by omega)
    exact ⟨b, off, x, h1, h2, by rw [List.getElem?_take_of_lt hk]; exact h3, h4⟩⟩
theorem cutSt {W : World} {base : Nat} {v : Value} {ls : List StepT} (h : OwnSteps W base v ls) {j : Nat} (hj : j ≤ ls.length) : ∃ a c, v = .slice a ls.length c ∧ StepsAt W a ls.length ls ∧ ∀ w, (Instr.slice 45 (.slice a ls.length c) none (some (.int .i64 (j : Int))) none).run Tryz.prog w = .ok (.slice a j c) w := by
  rcases h.2 with ⟨rfl, h0⟩ | ⟨g, cap, cur, rfl, hb, hg, hnc, hcm, hcs, htake⟩
  · obtain ⟨a, c, e, hi⟩ := OwnSteps.form h
    injection e with e1 e2 e3
    subst e1
    subst e3
    have hj0 : j = 0 := by omega
    refine ⟨none, 0, by rw [h0], hi, fun w => ?_⟩
    rw [h0, hj0]
    exact cutStN w
  · obtain ⟨a, c, e, hi⟩ := OwnSteps.form h
    simp at e
    obtain ⟨rfl, rfl⟩ := e
    exact ⟨_, _, rfl, hi, fun w => cutStA hj hnc (by have : maxLen = 9223372036854775807 := rfl; omega) w⟩
structure HaS (W u w : World) (g gt ga lo : Nat) (ca : Option Addr) (n cap : Nat) (l : List Int) (av : Option Addr) (ls : List StepT) (p : Int) (a : Option Addr) (c : Nat) (bs : List BarT) : Prop where
  d : Drw u w g ca n cap l
  b : Below W.heap.size W w
  z : Zer2 w W.heap.size
  zs : ZSt w (W.heap.size + 1)
  st : StepsAt w av ls.length ls
  lt : ∀ x off, av = some ⟨x, off, none⟩ → ga ≤ x
  bx : BoxGr w gt p a bs.length c
  ob : OwnBars w lo (.slice a bs.length c) bs
theorem HaS.draw {W u w w' : World} {g gt ga lo : Nat} {ca : Option Addr} {n cap : Nat} {l : List Int} {av : Option Addr} {ls : List StepT} {p : Int} {a : Option Addr} {c : Nat} {bs : List BarT} (h : HaS W u w g gt ga lo ca n cap l av ls p a c bs) (hd : Drw u w' g ca n cap l) (hk : Kept (fun b => b = g) w w') (hgW : W.heap.size + 1 < g) (hgt : g < gt) (hga : g < ga) (hlo : g < lo) : HaS W u w' g gt ga lo ca n cap l av ls p a c bs :=
  ⟨hd, h.b.trans (hk.below h.b.size fun k h1 h2 => by omega), h.z.kept hk (by omega), h.zs.kept hk (by omega), ⟨h.st.1, fun k hkn => by
    obtain ⟨x, off, y, e, hx, hy, c0, c1, c2, c3, c4⟩ := h.st.2 k hkn
    have hxg : ¬ x = g := by have := h.lt x off e; omega
    exact ⟨x, off, y, e, Nat.lt_of_lt_of_le hx hk.size, hy, (hk.cell hx hxg).trans c0, (hk.cell hx hxg).trans c1, (hk.cell hx hxg).trans c2, (hk.cell hx hxg).trans c3, (hk.cell hx hxg).trans c4⟩⟩, h.lt, h.bx.kept hk (by omega), h.ob.on hk hlo⟩
theorem HaS.below {W u w w' : World} {g gt ga lo : Nat} {ca : Option Addr} {n cap : Nat} {l : List Int} {av : Option Addr} {ls : List StepT} {p : Int} {a : Option Addr} {c : Nat} {bs : List BarT} (h : HaS W u w g gt ga lo ca n cap l av ls p a c bs) (hb : Below w.heap.size w w') : HaS W u w' g gt ga lo ca n cap l av ls p a c bs :=
  ⟨h.d.below hb, h.b.step hb, h.z.below hb, h.zs.below hb, h.st.below hb, h.lt, h.bx.below hb, OwnBars.below h.ob hb⟩
theorem layGS {W w' : World} {p : Int} {a : Option Addr} {c lo : Nat} {bs : List BarT} (kd pt x y z : Int) (hb : Below W.heap.size W w') (ho : OwnBars w' lo (.slice a bs.length c) bs) (hlo : W.heap.size + 1 < lo) :
    OwnBars (((((((w'.setCell ⟨W.heap.size, 0, none⟩ (.int .i64 p)).setCell ⟨W.heap.size, 1, none⟩ (.slice a bs.length c)).setCell ⟨W.heap.size + 1, 0, none⟩ (.int .i64 kd)).setCell ⟨W.heap.size + 1, 1, none⟩ (.int .i64 pt)).setCell ⟨W.heap.size + 1, 2, none⟩ (.int .i64 x)).setCell ⟨W.heap.size + 1, 3, none⟩ (.int .i64 y)).setCell ⟨W.heap.size + 1, 4, none⟩ (.int .i64 z)) W.heap.size (.slice a bs.length c) bs ∧
    Below W.heap.size W (((((((w'.setCell ⟨W.heap.size, 0, none⟩ (.int .i64 p)).setCell ⟨W.heap.size, 1, none⟩ (.slice a bs.length c)).setCell ⟨W.heap.size + 1, 0, none⟩ (.int .i64 kd)).setCell ⟨W.heap.size + 1, 1, none⟩ (.int .i64 pt)).setCell ⟨W.heap.size + 1, 2, none⟩ (.int .i64 x)).setCell ⟨W.heap.size + 1, 3, none⟩ (.int .i64 y)).setCell ⟨W.heap.size + 1, 4, none⟩ (.int .i64 z)) := by
  refine ⟨OwnBars.low (OwnBars.set (OwnBars.set (OwnBars.set (OwnBars.set (OwnBars.set (OwnBars.set (OwnBars.set ho (by show W.heap.size < lo; omega) _) (by show W.heap.size < lo; omega) _) (by show W.heap.size + 1 < lo; omega) _) (by show W.heap.size + 1 < lo; omega) _) (by show W.heap.size + 1 < lo; omega) _) (by show W.heap.size + 1 < lo; omega) _) (by show W.heap.size + 1 < lo; omega) _) (by omega), ?_⟩
  exact ((((((hb.setCell (p := ⟨W.heap.size, 0, none⟩) (Nat.le_refl _) _).setCell (p := ⟨W.heap.size, 1, none⟩) (Nat.le_refl _) _).setCell (p := ⟨W.heap.size + 1, 0, none⟩) (Nat.le_succ _) _).setCell (p := ⟨W.heap.size + 1, 1, none⟩) (Nat.le_succ _) _).setCell (p := ⟨W.heap.size + 1, 2, none⟩) (Nat.le_succ _) _).setCell (p := ⟨W.heap.size + 1, 3, none⟩) (Nat.le_succ _) _).setCell (p := ⟨W.heap.size + 1, 4, none⟩) (Nat.le_succ _) _
set_option maxHeartbeats 16000000 in
theorem drawApp_at (W : World) (ca : Option Addr) (n cap : Nat) (l : List Int) (hB : BytesAt W ca n l) (hn : n ≤ 1048576) : Calls Tryz.prog 39 #[.slice ca n cap] W (RetHs W) := by
  have ba := belAl W (.cells #[.int .i64 0, .slice none 0 0] 26)
  have bb := belAl (W.alloc (.cells #[.int .i64 0, .slice none 0 0] 26)) (.cells #[.int .i64 0, .int .i64 0, .int .i64 0, .int .i64 0, .int .i64 0] 57)
  have Z := Lib.hid ((Zer2.at W 26).below bb)
  have ZS := Lib.hid (ZSt.at (W.alloc (.cells #[.int .i64 0, .slice none 0 0] 26)))
  have hs1 : (W.alloc (.cells #[.int .i64 0, .slice none 0 0] 26)).heap.size = W.heap.size + 1 := by simp
  rw [hs1] at ZS
  have hBu := BytesAt.below (BytesAt.below hB ba) bb
  have hzu : ((W.alloc (.cells #[.int .i64 0, .slice none 0 0] 26)).alloc (.cells #[.int .i64 0, .int .i64 0, .int .i64 0, .int .i64 0, .int .i64 0] 57)).heap.size = W.heap.size + 2 := by simp
  have BA := Lib.hid (ba.step bb)
  clear hB ba bb hs1
  go_enter Tryz.func39, Tryz.ntmps39
  go_wp2_with fail
  generalize ((W.alloc (.cells #[.int .i64 0, .slice none 0 0] 26)).alloc (.cells #[.int .i64 0, .int .i64 0, .int .i64 0, .int .i64 0, .int .i64 0] 57)) = u at *
  have HN := Lib.hid (l1New_at u ca n cap l hBu hn)
  have HD : Hid (∀ (m : Int) w9 g, 1 ≤ m ∧ m ≤ 256 → Drw u w9 g ca n cap l → Calls Tryz.prog 88 #[.pointer (some ⟨g, 0, none⟩), .int .i64 m] w9 (RetDi u w9 g ca n cap l 0 (m - 1))) := Lib.hid fun m w9 g hm h9 => l1Below_at u w9 g ca n cap l hBu (by omega) h9 m hm
  have HON : Hid (∀ (m : Int) w9 g, 1 ≤ m ∧ m ≤ 256 → Drw u w9 g ca n cap l → Calls Tryz.prog 58 #[.pointer (some ⟨g, 0, none⟩), .int .i64 m] w9 (RetDb u w9 g ca n cap l)) := Lib.hid fun m w9 g hm h9 => l1Once_at u w9 g ca n cap l hBu (by omega) h9 m hm
  have HS : Hid (∀ w9 g, Drw u w9 g ca n cap l → Calls Tryz.prog 85 #[.pointer (some ⟨g, 0, none⟩)] w9 (RetDs u w9 g ca n cap l)) := Lib.hid fun w9 g h9 => l7Steps_at u w9 g ca n cap l hBu (by omega) h9
  have HST : Hid (∀ w9 g, Drw u w9 g ca n cap l → Calls Tryz.prog 89 #[.pointer (some ⟨g, 0, none⟩)] w9 (RetDst u w9 g ca n cap l)) := Lib.hid fun w9 g h9 => l7Step_at u w9 g ca n cap l hBu (by omega) h9
  have HA : Hid (∀ w9 g, Drw u w9 g ca n cap l → Calls Tryz.prog 57 #[.pointer (some ⟨g, 0, none⟩)] w9 (RetDg u w9 g ca n cap l fun p bs => bs.length ≤ 25)) := Lib.hid fun w9 g h9 => l2Any_at u w9 g ca n cap l hBu (by omega) h9
  have hzu1 : W.heap.size + 1 < u.heap.size := by omega
  clear hBu hzu
  refine HN.out.mono ?_
  rintro e w1 ⟨g, rfl, d1⟩
  have D := Lib.hid d1
  have hz1 := d1.bel.size
  have hg0 := d1.low
  have hg1 := d1.hi
  have B := Lib.hid (BA.out.step d1.bel)
  replace Z := Lib.hid (Z.out.below d1.bel)
  replace ZS := Lib.hid (ZS.out.below d1.bel)
  have hgW : W.heap.size + 1 < g := by omega
  clear d1 HN BA
  go_wp2_with fail
  refine (HS.out w1 g D.out).mono ?_
  rintro e w2 ⟨nn, v, ls, rfl, os, hl, d1, k1⟩
  have hz2 := k1.size
  replace B := Lib.hid (B.out.trans (k1.below B.out.size fun k h1 h2 => by omega))
  replace Z := Lib.hid (Z.out.kept k1 (by omega))
  replace ZS := Lib.hid (ZS.out.kept k1 (by omega))
  replace D := Lib.hid d1
  have OS := Lib.hid os
  obtain ⟨av, cv, rfl, -⟩ := os.form
  clear d1 k1 os HS
  have hw3 := IntWalk.i64_in ((ls.length : Int) + 1) (by omega)
  go_wp2_with fail
  refine (HD.out ((ls.length : Int) + 1) w2 g (by omega) D.out).mono ?_
  rintro e w3 ⟨z, hz, rfl, d1, k1⟩
  have hz3 := k1.size
  replace B := Lib.hid (B.out.trans (k1.below B.out.size fun k h1 h2 => by omega))
  replace Z := Lib.hid (Z.out.kept k1 (by omega))
  replace ZS := Lib.hid (ZS.out.kept k1 (by omega))
  replace D := Lib.hid d1
  replace OS := Lib.hid (OS.out.on k1 hg1)
  obtain ⟨K, rfl⟩ : ∃ K : Nat, z = (K : Int) := ⟨z.toNat, by omega⟩
  have hKl : K ≤ ls.length := by omega
  clear d1 k1 hw3 hz HD
  obtain ⟨a9, c9, e9, hat, hcut⟩ := cutSt OS.out hKl
  simp at e9
  obtain ⟨rfl, rfl⟩ := e9
  have htk : (ls.take K).length = K := by rw [List.length_take]; omega
  have HBS := Lib.hid (spec_BuildSteps w3 nn (.slice av K cv) (ls.take K) ⟨av, cv, by rw [htk], by rw [htk]; exact hat.takeS hKl⟩ (by omega))
  have hlts : ∀ x off, av = some ⟨x, off, none⟩ → w1.heap.size ≤ x := fun x off e => (World.ownsRow.lt OS.out x (by subst e; rfl)).1
  have HLT := Lib.hid hlts
  have HAT := Lib.hid hat
  have hsz := bldF_sz nn (ls.take K)
  obtain ⟨⟨q, bs⟩, hG⟩ : ∃ G, G = (bldF nn (ls.take K)).1 := ⟨_, rfl⟩
  obtain ⟨ok, hok⟩ : ∃ b, b = (bldF nn (ls.take K)).2 := ⟨_, rfl⟩
  rw [← hG, ← hok] at HBS
  rw [← hG] at hsz
  have hbl : bs.length ≤ 24 := hsz
  clear hG hok hsz hat hlts htk
  go_wp2_with fail
  refine HBS.out.mono ?_
  rintro e w4 ⟨vg, rfl, ⟨vb, ⟨a, c, rfl, rfl⟩, ob⟩, b4⟩
  dsimp only at ob ⊢
  have ba := belAl w4 (.cells #[.int .i64 q, .slice a bs.length c] 26)
  have hbx : BoxGr (w4.alloc (.cells #[.int .i64 q, .slice a bs.length c] 26)) w4.heap.size q a bs.length c := BoxGr.at rfl
  have hz4 := b4.size
  obtain ⟨gt, hgt0⟩ : ∃ q, q = w4.heap.size := ⟨_, rfl⟩
  rw [← hgt0] at hbx
  have H : Hid (HaS W u (w4.alloc (.cells #[.int .i64 q, .slice a bs.length c] 26)) g gt w1.heap.size w3.heap.size ca n cap l av ls q a c bs) := Lib.hid ⟨(D.out.below b4).below ba, (B.out.step b4).step ba, (Z.out.below b4).below ba, (ZS.out.below b4).below ba, (HAT.out.below b4).below ba, HLT.out, hbx, OwnBars.below ob ba⟩
  have hgt : g < gt := by omega
  have hg3 : g < w3.heap.size := by omega
  have hnW : ∀ x off, av = some ⟨x, off, none⟩ → ¬ x = W.heap.size ∧ ¬ x = gt := fun x off e => by
    have h1 := HLT.out x off e
    have h2 := (World.ownsRow.lt OS.out x (by subst e; rfl)).2
    omega
  have HNW := Lib.hid hnW
  clear HBS ob b4 ba hbx D B Z ZS OS HAT HLT hnW
  go_upto_region 5 with (fail)
  try rw [← hgt0]
  generalize (w4.alloc (.cells #[.int .i64 q, .slice a bs.length c] 26)) = w5 at *
  clear hgt0
  go_cut [41] from 30 to 41 (fun s wx => ∃ bq, s = .bool bq ∧ (bq = true → K < ls.length) ∧ HaS W u wx g gt w1.heap.size w3.heap.size ca n cap l av ls q a c bs)
  case first =>
    cases ok
    · go_wp2_with fail
      go_meet
      exact ⟨false, rfl, fun h => Bool.noConfusion h, H.out⟩
    · by_cases hkl : K < ls.length
      · have hkli : (K : Int) < (ls.length : Int) := by omega
        go_wp2_with fail
        refine (HON.out 4 w5 g (by decide) H.out.d).mono ?_
        rintro e w6 ⟨bq, rfl, d1, k1⟩
        replace H := Lib.hid (H.out.draw d1 k1 hgW hgt hg1 hg3)
        clear d1 k1
        cases bq
        · go_wp2_with fail
          go_meet
          exact ⟨true, rfl, fun _ => hkl, H.out⟩
        · go_wp2_with fail
          go_meet
          exact ⟨false, rfl, fun h => Bool.noConfusion h, H.out⟩
      · have hkli : ¬ (K : Int) < (ls.length : Int) := by omega
        go_wp2_with fail
        go_meet
        exact ⟨false, rfl, fun h => Bool.noConfusion h, H.out⟩
  case rest =>
    clear H
    obtain ⟨bq, rfl, hkl, hh⟩ := hcut
    have H := Lib.hid hh
    clear hh
    cases bq
    · go_wp2_with fail
      refine (HA.out wc g H.out.d).mono ?_
      rintro e w6 ⟨p', a', c', bs', rfl, ob', hbl', d1, k1⟩
      have H6 := Lib.hid (H.out.draw d1 k1 hgW hgt hg1 hg3)
      have hzc : u.heap.size ≤ wc.heap.size := H.out.d.bel.size
      have hgc := H.out.d.hi
      have OB := Lib.hid ob'
      clear d1 k1 ob' H
      go_wp2_with fail
      refine (HST.out w6 g H6.out.d).mono ?_
      rintro e w7 ⟨kd, pt, x, y, z, rfl, d1, k1⟩
      have H7 := Lib.hid (H6.out.draw d1 k1 hgW hgt hg1 hg3)
      replace OB := Lib.hid (OB.out.on k1 hgc)
      have HL := Lib.hid (layGS (p := p') kd pt x y z H7.out.b OB.out (by omega))
      obtain ⟨⟨z1, z2, z3, c0, c1⟩, ⟨f0, f1⟩, gz⟩ := H7.out.z
      obtain ⟨⟨q1, q2, q3, q4, q5, hzs, s0, s1, s2, s3, s4⟩, r0, r1, r2, r3, r4⟩ := H7.out.zs
      clear d1 k1 OB H6 H7
      go_wp2_with fail
      refine bodyPost_ret (v := .tuple #[.agg #[.int .i64 p', .slice a' bs'.length c'], .agg #[.int .i64 kd, .int .i64 pt, .int .i64 x, .int .i64 y, .int .i64 z]]) (by simp [results, Tryz.results39, go_sem, gz, c0, c1, hzs, s0, s1, s2, s3, s4]) rfl ?_
      exact ⟨p', a', c', bs', kd, pt, x, y, z, rfl, HL.out.1, hbl', HL.out.2⟩
    · have hk := hkl rfl
      have hki : (K : Int) < (ls.length : Int) := by omega
      have hk0 : (0 : Int) ≤ (K : Int) := by omega
      obtain ⟨x, off, ⟨kd, pt, x1, x2, x3⟩, rfl, hxb, hx, y0, y1, y2, y3, y4⟩ := H.out.st.2 K hk
      have hne := HNW.out x off rfl
      have hgtz : W.heap.size < gt := by omega
      dsimp only at y0 y1 y2 y3 y4
      go_upto_region 6 with (fail)
      have dr : Below wc.heap.size wc wc.drew := (Below.refl _ _).drew
      have HFD := Lib.hid (H.out.below dr)
      have e0 := (dr.cell (p := ⟨x, off + K * 5, none⟩) hxb).trans y0
      have e1 := (dr.cell (p := ⟨x, off + K * 5 + 1, none⟩) hxb).trans y1
      have e2 := (dr.cell (p := ⟨x, off + K * 5 + 2, none⟩) hxb).trans y2
      have e3 := (dr.cell (p := ⟨x, off + K * 5 + 3, none⟩) hxb).trans y3
      have e4 := (dr.cell (p := ⟨x, off + K * 5 + 4, none⟩) hxb).trans y4
      refine wp_regionZ (fun w9 => w9.cell? ⟨gt, 0, none⟩ = some (.int .i64 q) ∧ w9.cell? ⟨gt, 1, none⟩ = some (.slice a bs.length c) ∧ w9.cell? ⟨x, off + K * 5, none⟩ = some (.int .i64 kd) ∧ w9.cell? ⟨x, off + K * 5 + 1, none⟩ = some (.int .i64 pt) ∧ w9.cell? ⟨x, off + K * 5 + 2, none⟩ = some (.int .i64 x1) ∧ w9.cell? ⟨x, off + K * 5 + 3, none⟩ = some (.int .i64 x2) ∧ w9.cell? ⟨x, off + K * 5 + 4, none⟩ = some (.int .i64 x3) ∧ True) 6 (by kernel_rfl) ?_
      clear H y0 y1 y2 y3 y4
      generalize wc.drew = wd at *
      have s0 : wd.cell? ⟨gt, 0, none⟩ = some (.int .i64 q) ∧ wd.cell? ⟨gt, 1, none⟩ = some (.slice a bs.length c) ∧ wd.cell? ⟨x, off + K * 5, none⟩ = some (.int .i64 kd) ∧ wd.cell? ⟨x, off + K * 5 + 1, none⟩ = some (.int .i64 pt) ∧ wd.cell? ⟨x, off + K * 5 + 2, none⟩ = some (.int .i64 x1) ∧ wd.cell? ⟨x, off + K * 5 + 3, none⟩ = some (.int .i64 x2) ∧ wd.cell? ⟨x, off + K * 5 + 4, none⟩ = some (.int .i64 x3) ∧ True := ⟨HFD.out.bx.2.1, HFD.out.bx.2.2, e0, e1, e2, e3, e4, trivial⟩
      have n1 : ¬ x = W.heap.size := hne.1
      have n2 : ¬ gt = W.heap.size := by omega
      have kf : Kept (fun b => b = W.heap.size) wd ((wd.setCell ⟨W.heap.size, 0, none⟩ (.int .i64 q)).setCell ⟨W.heap.size, 1, none⟩ (.slice a bs.length c)) := (keptSet' (S := fun b => b = W.heap.size) rfl).trans (keptSet' (S := fun b => b = W.heap.size) rfl)
      have hxd : x < wd.heap.size := Nat.lt_of_lt_of_le hxb dr.size
      have hgd := HFD.out.bx.1
      have sF : ((wd.setCell ⟨W.heap.size, 0, none⟩ (.int .i64 q)).setCell ⟨W.heap.size, 1, none⟩ (.slice a bs.length c)).cell? ⟨gt, 0, none⟩ = some (.int .i64 q) ∧ ((wd.setCell ⟨W.heap.size, 0, none⟩ (.int .i64 q)).setCell ⟨W.heap.size, 1, none⟩ (.slice a bs.length c)).cell? ⟨gt, 1, none⟩ = some (.slice a bs.length c) ∧ ((wd.setCell ⟨W.heap.size, 0, none⟩ (.int .i64 q)).setCell ⟨W.heap.size, 1, none⟩ (.slice a bs.length c)).cell? ⟨x, off + K * 5, none⟩ = some (.int .i64 kd) ∧ ((wd.setCell ⟨W.heap.size, 0, none⟩ (.int .i64 q)).setCell ⟨W.heap.size, 1, none⟩ (.slice a bs.length c)).cell? ⟨x, off + K * 5 + 1, none⟩ = some (.int .i64 pt) ∧ ((wd.setCell ⟨W.heap.size, 0, none⟩ (.int .i64 q)).setCell ⟨W.heap.size, 1, none⟩ (.slice a bs.length c)).cell? ⟨x, off + K * 5 + 2, none⟩ = some (.int .i64 x1) ∧ ((wd.setCell ⟨W.heap.size, 0, none⟩ (.int .i64 q)).setCell ⟨W.heap.size, 1, none⟩ (.slice a bs.length c)).cell? ⟨x, off + K * 5 + 3, none⟩ = some (.int .i64 x2) ∧ ((wd.setCell ⟨W.heap.size, 0, none⟩ (.int .i64 q)).setCell ⟨W.heap.size, 1, none⟩ (.slice a bs.length c)).cell? ⟨x, off + K * 5 + 4, none⟩ = some (.int .i64 x3) ∧ True :=
        ⟨(kf.cell hgd n2).trans HFD.out.bx.2.1, (kf.cell hgd n2).trans HFD.out.bx.2.2, (kf.cell hxd n1).trans e0, (kf.cell hxd n1).trans e1, (kf.cell hxd n1).trans e2, (kf.cell hxd n1).trans e3, (kf.cell hxd n1).trans e4, trivial⟩
      clear kf hxd hgd dr hxb e0 e1 e2 e3 e4
      refine wpAnyZ_takeC (i := 0) (v := ?_) [6] rfl (by kernel_rfl) (by kernel_rfl) (by kernel_rfl) (by kernel_rfl) (by kernel_rfl) (by kernel_rfl) (fun _ _ _ h => h) (s0) (by rfl) ?_ ?_
      rotate_left
      · intro x hx; obtain ⟨u1, u2, u3, u4, u5, u6, u7, u8⟩ := hx; go_simp; try (with_reducible rfl)
      try simp only [Act.put, List.setIfInBounds_toArray, List.set_cons_zero, List.set_cons_succ, List.getElem_toArray, List.getElem_cons_zero, List.getElem_cons_succ]
      refine wpAnyZ_takeC (i := 1) (v := ?_) [6] rfl (by kernel_rfl) (by kernel_rfl) (by kernel_rfl) (by kernel_rfl) (by kernel_rfl) (by kernel_rfl) (fun _ _ _ h => h) (s0) (by rfl) ?_ ?_
      rotate_left
      · intro x hx; obtain ⟨u1, u2, u3, u4, u5, u6, u7, u8⟩ := hx; go_simp; try (with_reducible rfl)
      try simp only [Act.put, List.setIfInBounds_toArray, List.set_cons_zero, List.set_cons_succ, List.getElem_toArray, List.getElem_cons_zero, List.getElem_cons_succ]
      refine wpAnyZ_takeC (i := 2) (v := ?_) [6] rfl (by kernel_rfl) (by kernel_rfl) (by kernel_rfl) (by kernel_rfl) (by kernel_rfl) (by kernel_rfl) (fun _ _ _ h => h) (s0) (by rfl) ?_ ?_
      rotate_left
      · intro x hx; obtain ⟨u1, u2, u3, u4, u5, u6, u7, u8⟩ := hx; go_simp; try (with_reducible rfl)
      try simp only [Act.put, List.setIfInBounds_toArray, List.set_cons_zero, List.set_cons_succ, List.getElem_toArray, List.getElem_cons_zero, List.getElem_cons_succ]
      refine wpAnyZ_takeC (i := 3) (v := ?_) [6] rfl (by kernel_rfl) (by kernel_rfl) (by kernel_rfl) (by kernel_rfl) (by kernel_rfl) (by kernel_rfl) (fun _ _ _ h => h) (s0) (by rfl) ?_ ?_
      rotate_left
      · intro x hx; obtain ⟨u1, u2, u3, u4, u5, u6, u7, u8⟩ := hx; go_simp; try (with_reducible rfl)
      try simp only [Act.put, List.setIfInBounds_toArray, List.set_cons_zero, List.set_cons_succ, List.getElem_toArray, List.getElem_cons_zero, List.getElem_cons_succ]
      refine wpAnyZ_takeC (i := 4) (v := ?_) [6] rfl (by kernel_rfl) (by kernel_rfl) (by kernel_rfl) (by kernel_rfl) (by kernel_rfl) (by kernel_rfl) (fun _ _ _ h => h) (s0) (by rfl) ?_ ?_
      rotate_left
      · intro x hx; obtain ⟨u1, u2, u3, u4, u5, u6, u7, u8⟩ := hx; go_simp; try (with_reducible rfl)
      try simp only [Act.put, List.setIfInBounds_toArray, List.set_cons_zero, List.set_cons_succ, List.getElem_toArray, List.getElem_cons_zero, List.getElem_cons_succ]
      clear s0
      have HL := Lib.hid (layGS (p := q) kd pt x1 x2 x3 HFD.out.b HFD.out.ob (by omega))
      obtain ⟨⟨z1, z2, z3, c0, c1⟩, ⟨f0, f1⟩, gz⟩ := HFD.out.z
      obtain ⟨⟨q1, q2, q3, q4, q5, hzs, t0, t1, t2, t3, t4⟩, r0, r1, r2, r3, r4⟩ := HFD.out.zs
      refine wpAnyZ_step (i := 5) (by kernel_rfl) rfl (by rfl) ?_
      intro KK hKK
      go_simp
      refine hKK.out _ _ (.inr sF) ?_
      clear hKK KK
      try simp only [Act.put, List.setIfInBounds_toArray, List.set_cons_zero, List.set_cons_succ, List.getElem_toArray, List.getElem_cons_zero, List.getElem_cons_succ]
      clear sF
      refine wpAnyZ_step (i := 6) (by kernel_rfl) rfl (by rfl) ?_
      intro KK hKK
      go_simp
      refine hKK.out _ _ (.inl (by kernel_rfl)) ?_
      clear hKK KK
      try simp only [Act.put, List.setIfInBounds_toArray, List.set_cons_zero, List.set_cons_succ, List.getElem_toArray, List.getElem_cons_zero, List.getElem_cons_succ]
      refine wpAnyZ_done (by kernel_rfl) ?_ _
      go_wp2_with fail
      refine bodyPost_ret (v := .tuple #[.agg #[.int .i64 q, .slice a bs.length c], .agg #[.int .i64 kd, .int .i64 pt, .int .i64 x1, .int .i64 x2, .int .i64 x3]]) (by simp [results, Tryz.results39, go_sem, gz, c0, c1, hzs, t0, t1, t2, t3, t4]) rfl ?_
      exact ⟨q, a, c, bs, kd, pt, x1, x2, x3, rfl, HL.out.1, by omega, HL.out.2⟩
end Go.Proofs.YtfbmpkdjhhcnpaaGreat

namespace Fo
set_option linter.unusedVariables false
set_option linter.unusedSimpArgs false

def cnt (n : Nat) (p : Nat → Bool) : Nat := ((List.range n).filter p).length
theorem cnt_succ (n : Nat) (p : Nat → Bool) : cnt (n + 1) p = cnt n p + (if p n then 1 else 0) := by
  unfold cnt
  rw [List.range_succ, List.filter_append, List.length_append]
  cases h : p n <;> simp [h]
theorem cnt_congr {n : Nat} {p q : Nat → Bool} (h : ∀ i, i < n → p i = q i) : cnt n p = cnt n q := by
  induction n with
  | zero => rfl
  | succ n ih => rw [cnt_succ, cnt_succ, ih fun i hi => h i (by omega), h n (by omega)]
end Fo

namespace Go.Proofs.YtfbmpkdjhhcnpaaGreat
open Go.RowKit
set_option maxRecDepth 100000
set_option linter.unusedVariables false
set_option linter.unusedSimpArgs false
def maskOf (U : Nat → Bool) : Nat → Nat
  | 0 => 0
  | v + 1 => maskOf U v + (if U v = true then 2 ^ v else 0)
theorem maskOf_lt (U : Nat → Bool) : ∀ p, maskOf U p < 2 ^ p
  | 0 => by show 0 < 1; omega
  | v + 1 => by
    have := maskOf_lt U v
    unfold maskOf
    rw [Nat.pow_succ]
    split <;> omega
theorem bit_add {M v p b : Nat} (h : v < p) : (M + b * 2 ^ p) / 2 ^ v % 2 = M / 2 ^ v % 2 := by
  obtain ⟨d, rfl⟩ : ∃ d, p = v + (d + 1) := ⟨p - v - 1, by omega⟩
  have e : M + b * 2 ^ (v + (d + 1)) = M + 2 ^ v * (2 * (b * 2 ^ d)) := by rw [Nat.pow_add, Nat.pow_succ]; grind
  rw [e, Nat.add_mul_div_left _ _ (Nat.two_pow_pos v)]
  omega
theorem bit_mask (U : Nat → Bool) : ∀ p v, v < p → bitB (maskOf U p) v = U v
  | 0, v, h => by omega
  | p + 1, v, h => by
    unfold maskOf bitB
    by_cases e : v = p
    · subst e
      have h1 := maskOf_lt U v
      cases hu : U v
      · rw [if_neg (by simp), Nat.add_zero, Nat.div_eq_of_lt h1]; rfl
      · rw [if_pos rfl, Nat.add_div_right _ (Nat.two_pow_pos v), Nat.div_eq_of_lt h1]; rfl
    · have ih := bit_mask U p v (by omega)
      unfold bitB at ih
      cases hu : U p
      · rw [if_neg (by simp), Nat.add_zero]; exact ih
      · rw [if_pos rfl]
        have := bit_add (M := maskOf U p) (b := 1) (show v < p by omega)
        rw [Nat.one_mul] at this
        rw [this]; exact ih
theorem sizeM_cnt (m : Nat) : ∀ p, sizeM m p = Fo.cnt p (bitB m)
  | 0 => rfl
  | p + 1 => by rw [sizeM_succ, Fo.cnt_succ, sizeM_cnt m p]
def spU (l : List BarT) (U : Nat → Bool) : Nat := l.countP fun x => U x.1.toNat && U x.2.toNat
theorem spanM_sp {P : Nat} {l : List BarT} (hr : ∀ x ∈ l, (0 ≤ x.1 ∧ x.1 < P) ∧ (0 ≤ x.2 ∧ x.2 < P)) {m : Nat} {U : Nat → Bool} (h : ∀ v, v < P → bitB m v = U v) : spanM l m l.length = spU l U := by
  unfold spanM spU
  rw [List.take_length, ← List.countP_eq_length_filter]
  refine List.countP_congr fun x hx => ?_
  have := hr x hx
  unfold bothB
  rw [h _ (by omega), h _ (by omega)]
theorem over_iff {P : Nat} {l : List BarT} {k r : Int} (hr : ∀ x ∈ l, (0 ≤ x.1 ∧ x.1 < P) ∧ (0 ≤ x.2 ∧ x.2 < P)) : overB P l k r = false ↔ ∀ U : Nat → Bool, 0 < spU l U → (spU l U : Int) + r ≤ k * Fo.cnt P U := by
  constructor
  · intro h U hU
    have h1 : overAt P l k r (maskOf U P) = false := Bool.eq_false_iff.2 fun hc => by
      rw [overB_yes (maskOf_lt U P) hc] at h; exact Bool.noConfusion h
    unfold overAt at h1
    rw [spanM_sp hr (U := U) (bit_mask U P), sizeM_cnt, Fo.cnt_congr (fun v hv => bit_mask U P v hv), decide_eq_true hU, Bool.true_and, decide_eq_false_iff_not] at h1
    omega
  · intro h
    refine overB_no fun m hm => ?_
    unfold overAt
    rw [spanM_sp hr (U := bitB m) (fun v _ => rfl), sizeM_cnt, Bool.and_eq_false_iff, decide_eq_false_iff_not, decide_eq_false_iff_not]
    by_cases h0 : 0 < spU l (bitB m)
    · right; have := h _ h0; omega
    · exact .inl h0
theorem spU_ic {P : Nat} {l : List BarT} (hr : ∀ x ∈ l, (0 ≤ x.1 ∧ x.1 < P) ∧ (0 ≤ x.2 ∧ x.2 < P)) (U : Nat → Bool) (S : Int → Bool) (h : ∀ v : Nat, U v = S (v : Int)) : spU l U = Mtr.ic l S := by
  unfold spU Mtr.ic
  refine List.countP_congr fun x hx => ?_
  have := hr x hx
  unfold Mtr.inn
  rw [h, h, Int.toNat_of_nonneg (by omega), Int.toNat_of_nonneg (by omega)]
theorem cnt_sz (P : Nat) (U : Nat → Bool) (S : Int → Bool) (h : ∀ v : Nat, U v = S (v : Int)) : Fo.cnt P U = Mtr.sz P S := by
  unfold Fo.cnt Mtr.sz
  rw [← List.countP_eq_length_filter]
  exact List.countP_congr fun v _ => by rw [h v]
theorem ind_over {P : Nat} {l : List BarT} (hr : ∀ x ∈ l, (0 ≤ x.1 ∧ x.1 < P) ∧ (0 ≤ x.2 ∧ x.2 < P)) : overB P l 2 3 = false ↔ Mtr.Ind P l := by
  rw [over_iff hr]
  constructor
  · intro h S hS
    have h1 := h (fun v => S (v : Int))
    rw [spU_ic hr _ S (fun _ => rfl), cnt_sz P _ S (fun _ => rfl)] at h1
    have := h1 hS
    omega
  · intro h U hU
    have e : ∀ v : Nat, U v = (fun x : Int => U x.toNat) (v : Int) := fun v => by simp
    have h1 := h (fun x : Int => U x.toNat)
    rw [← spU_ic hr U _ e, ← cnt_sz P U _ e] at h1
    have := h1 hU
    omega
end Go.Proofs.YtfbmpkdjhhcnpaaGreat

set_option linter.unusedSimpArgs false
set_option linter.unusedVariables false
namespace Mtr
def tch (v : Int) (e : E) : Bool := e.1 == v || e.2 == v
def deg (l : List E) (v : Int) : Nat := l.countP (tch v)
def drp (l : List E) (v : Int) : List E := l.filter fun e => !tch v e
def used (l : List E) : Int → Bool := fun v => decide (0 < deg l v)
def oth (e : E) (v : Int) : Int := e.1 + e.2 - v
def mkE (a b : Int) : E := (min a b, max a b)
theorem countP_split {α : Type} (p q : α → Bool) : ∀ l : List α, l.countP p = (l.filter q).countP p + (l.filter fun e => !q e).countP p
  | [] => rfl
  | a :: l => by
    have := countP_split p q l
    cases hq : q a
    · rw [List.filter_cons_of_neg (by simp [hq]), List.filter_cons_of_pos (by simp [hq]), List.countP_cons, List.countP_cons]; omega
    · rw [List.filter_cons_of_pos (by simp [hq]), List.filter_cons_of_neg (by simp [hq]), List.countP_cons, List.countP_cons]; omega
theorem len_drp (l : List E) (v : Int) : (drp l v).length + deg l v = l.length := by
  have := countP_not (tch v) l
  unfold drp deg
  rw [← List.countP_eq_length_filter]
  omega
theorem sz_one (n : Nat) (v : Int) : sz n (fun x => x == v) = if 0 ≤ v ∧ v < n then 1 else 0 := by
  induction n with
  | zero => rw [if_neg (by omega)]; rfl
  | succ n ih =>
    unfold sz at ih ⊢
    rw [List.range_succ, List.countP_append, ih, List.countP_singleton]
    by_cases e : (n : Int) = v
    · subst e
      simp
      omega
    · have : ((n : Int) == v) = false := by simpa using e
      simp only [this, Bool.false_eq_true, if_false]
      split <;> split <;> omega
theorem sz_zero {n : Nat} {S : Int → Bool} (h : ∀ v : Nat, v < n → S v = false) : sz n S = 0 := by
  unfold sz
  rw [List.countP_eq_zero]
  intro v hv
  rw [h v (List.mem_range.1 hv)]
  simp
theorem sz_congr {n : Nat} {S T : Int → Bool} (h : ∀ v : Nat, v < n → S v = T v) : sz n S = sz n T := by
  unfold sz
  exact List.countP_congr fun v hv => by rw [h v (List.mem_range.1 hv)]
theorem sz_add {n : Nat} {S : Int → Bool} {v : Int} (hv : 0 ≤ v ∧ v < n) (h : S v = false) : sz n (uni S fun x => x == v) = sz n S + 1 := by
  have h1 := sz_mod n S fun x => x == v
  have h2 : sz n (int S fun x => x == v) = 0 := sz_zero fun u hu => by
    unfold int
    by_cases e : (u : Int) = v
    · rw [e, h]; rfl
    · have : ((u : Int) == v) = false := by simpa using e
      show (S u && ((u : Int) == v)) = false
      rw [this, Bool.and_false]
  rw [sz_one, if_pos hv] at h1
  omega
theorem sz_sub {n : Nat} {S : Int → Bool} {v : Int} (hv : 0 ≤ v ∧ v < n) (h : S v = true) : sz n (fun x => S x && !(x == v)) + 1 = sz n S := by
  have h1 := sz_add (S := fun x => S x && !(x == v)) hv (by simp)
  rw [← h1]
  refine sz_congr fun u hu => ?_
  unfold uni
  by_cases e : (u : Int) = v
  · rw [e, h]; simp
  · have : ((u : Int) == v) = false := by simpa using e
    show ((S u && !((u : Int) == v)) || ((u : Int) == v)) = S u
    rw [this]; simp
theorem sz_pair (n : Nat) (v w : Int) : sz n (uni (fun x => x == v) fun x => x == w) ≤ 2 := by
  have h1 := sz_mod n (fun x => x == v) fun x => x == w
  have h2 := sz_one n v
  have h3 := sz_one n w
  split at h2 <;> split at h3 <;> omega
theorem sz_pair2 {n : Nat} {v w : Int} (hv : 0 ≤ v ∧ v < n) (hw : 0 ≤ w ∧ w < n) (h : v ≠ w) : sz n (uni (fun x => x == v) fun x => x == w) = 2 := by
  rw [sz_add hw (by simpa using Ne.symm h), sz_one, if_pos hv]
theorem ic_perm {I J : List E} (h : I.Perm J) (S : Int → Bool) : ic I S = ic J S := h.countP_eq _
theorem Ind.perm {n : Nat} {I J : List E} (h : Ind n I) (hp : I.Perm J) : Ind n J := fun S hS => by
  rw [← ic_perm hp] at hS ⊢
  exact h S hS
theorem Ind.sub {n : Nat} {I J : List E} (h : Ind n J) (hs : I.Sublist J) : Ind n I := fun S hS => by
  have h1 := ic_sub hs S
  have h2 := h S (by omega)
  omega
theorem mult {n : Nat} {l : List E} (hI : Ind n l) (hb : ∀ e ∈ l, Bk n e) (v w : Int) (hvw : v ≠ w) : l.countP (fun e => tch v e && tch w e) ≤ 1 := by
  refine Nat.le_of_not_lt fun hc => ?_
  have h1 : l.countP (fun e => tch v e && tch w e) ≤ ic l (uni (fun x => x == v) fun x => x == w) := List.countP_mono_left fun e he h => by
    have hbe := hb e he
    unfold Bk at hbe
    simp only [tch, Bool.and_eq_true, Bool.or_eq_true, beq_iff_eq] at h
    simp only [inn, uni, Bool.and_eq_true, Bool.or_eq_true, beq_iff_eq]
    omega
  have h2 := hI (uni (fun x => x == v) fun x => x == w) (by omega)
  have h3 := sz_pair n v w
  omega
theorem used_ends {l : List E} {e : E} (he : e ∈ l) : used l e.1 = true ∧ used l e.2 = true := by
  constructor
  · exact decide_eq_true (List.countP_pos_iff.2 ⟨e, he, by simp [tch]⟩)
  · exact decide_eq_true (List.countP_pos_iff.2 ⟨e, he, by simp [tch]⟩)
theorem used_rng {n : Nat} {l : List E} (hb : ∀ e ∈ l, Bk n e) {v : Int} (h : 0 < deg l v) : 0 ≤ v ∧ v < n := by
  obtain ⟨e, he, ht⟩ := List.countP_pos_iff.1 h
  have := hb e he
  unfold Bk at this
  simp only [tch, Bool.or_eq_true, beq_iff_eq] at ht
  omega
structure Lam (n : Nat) (l : List E) : Prop where
  ind : Ind n l
  bk : ∀ e ∈ l, Bk n e
  cnt : l.length + 3 = 2 * sz n (used l)
theorem deg_perm {I J : List E} (h : I.Perm J) (v : Int) : deg I v = deg J v := h.countP_eq _
theorem used_perm {I J : List E} (h : I.Perm J) : used I = used J := funext fun v => by unfold used; rw [deg_perm h]
theorem Lam.perm {n : Nat} {I J : List E} (h : Lam n I) (hp : I.Perm J) : Lam n J := ⟨h.ind.perm hp, fun e he => h.bk e (hp.mem_iff.2 he), by rw [← used_perm hp, ← hp.length_eq]; exact h.cnt⟩
theorem Lam.two {n : Nat} {l : List E} (h : Lam n l) (hl : 2 ≤ l.length) {v : Int} (hv : 0 < deg l v) : 2 ≤ deg l v := by
  have hr := used_rng h.bk hv
  have h1 := sz_sub (n := n) (S := used l) hr (decide_eq_true hv)
  have h2 : ic l (fun x => used l x && !(x == v)) = (drp l v).length := by
    unfold ic drp
    rw [← List.countP_eq_length_filter]
    refine List.countP_congr fun e he => ?_
    obtain ⟨u1, u2⟩ := used_ends he
    simp only [inn, tch, u1, u2, Bool.true_and, Bool.not_or]
  have h3 := len_drp l v
  have h4 := h.ind (fun x => used l x && !(x == v))
  have h5 := h.cnt
  omega
theorem sum_add_ind (f g : Nat → Nat) (p : Nat → Bool) (h : ∀ v, f v = g v + if p v = true then 1 else 0) : ∀ L : List Nat, (L.map f).sum = (L.map g).sum + L.countP p
  | [] => rfl
  | a :: L => by
    rw [List.map_cons, List.map_cons, List.sum_cons, List.sum_cons, List.countP_cons, sum_add_ind f g p h L, h a]
    omega
theorem deg_sum {n : Nat} : ∀ l : List E, (∀ e ∈ l, Bk n e) → ((List.range n).map fun v : Nat => deg l v).sum = 2 * l.length
  | [], _ => by
    have : ((List.range n).map fun v : Nat => deg [] v) = List.replicate n 0 := List.eq_replicate_iff.2 ⟨by simp, fun b hb => by obtain ⟨x, _, rfl⟩ := List.mem_map.1 hb; rfl⟩
    rw [this]; simp
  | e :: l, hb => by
    have ih := deg_sum l fun x hx => hb x (List.mem_cons_of_mem _ hx)
    have he := hb e (List.mem_cons_self ..)
    unfold Bk at he
    rw [sum_add_ind (fun v : Nat => deg (e :: l) v) (fun v : Nat => deg l v) (fun v : Nat => tch v e) (fun v => by unfold deg; rw [List.countP_cons]), ih]
    have h1 : (List.range n).countP (fun v : Nat => tch v e) = 2 := by
      have h2 := sz_mod n (fun x => x == e.1) fun x => x == e.2
      have h3 : sz n (int (fun x => x == e.1) fun x => x == e.2) = 0 := sz_zero fun u hu => by
        unfold int
        rw [Bool.eq_false_iff]
        intro hc
        simp only [Bool.and_eq_true, beq_iff_eq] at hc
        omega
      rw [sz_one, sz_one, if_pos (by omega), if_pos (by omega), h3] at h2
      have h4 : sz n (uni (fun x => x == e.1) fun x => x == e.2) = (List.range n).countP (fun v : Nat => tch v e) := by
        unfold sz
        refine List.countP_congr fun u hu => ?_
        simp only [uni, tch, Bool.or_eq_true, beq_iff_eq]
        omega
      omega
    rw [h1, List.length_cons]; omega
theorem sum_ge {f : Nat → Nat} {p : Nat → Bool} : ∀ L : List Nat, (∀ v ∈ L, p v = true → 4 ≤ f v) → 4 * L.countP p ≤ (L.map f).sum
  | [], _ => Nat.le_refl _
  | a :: L, h => by
    have ih := sum_ge L fun v hv => h v (List.mem_cons_of_mem _ hv)
    have ha := h a (List.mem_cons_self ..)
    rw [List.map_cons, List.sum_cons, List.countP_cons]
    cases hp : p a
    · simp; omega
    · have := ha hp
      simp; omega
theorem Lam.small {n : Nat} {l : List E} (h : Lam n l) (hl : 2 ≤ l.length) : ∃ v : Nat, v < n ∧ (deg l v = 2 ∨ deg l v = 3) := by
  refine Classical.byContradiction fun hc => ?_
  have h1 : ∀ v ∈ List.range n, (fun v : Nat => used l v) v = true → 4 ≤ deg l (v : Int) := fun v hv hu => by
    have h2 := h.two hl (of_decide_eq_true hu)
    have h3 : ¬ (deg l v = 2 ∨ deg l v = 3) := fun h4 => hc ⟨v, List.mem_range.1 hv, h4⟩
    omega
  have h5 := sum_ge (List.range n) h1
  rw [deg_sum l h.bk] at h5
  have h6 := h.cnt
  unfold sz at h6
  omega
theorem Lam.left {n : Nat} {l : List E} (h : Lam n l) (hl : 2 ≤ l.length) {v : Int} (hv : 0 < deg l v) : (∀ w, w ≠ v → used l w = true → used (drp l v) w = true) ∧ used (drp l v) v = false ∧ sz n (used (drp l v)) + 1 = sz n (used l) := by
  have h0 : used (drp l v) v = false := by
    refine decide_eq_false ?_
    unfold deg drp
    rw [List.countP_filter, List.countP_eq_zero.2 (fun e _ => by simp)]
    omega
  have h1 : ∀ w, w ≠ v → used l w = true → used (drp l v) w = true := fun w hw hu => by
    have h2 := h.two hl (of_decide_eq_true hu)
    have h3 := countP_split (tch w) (tch v) l
    have h4 := mult h.ind h.bk v w (Ne.symm hw)
    rw [List.countP_filter] at h3
    have h5 : l.countP (fun a => tch w a && tch v a) = l.countP (fun e => tch v e && tch w e) := List.countP_congr fun e _ => by rw [Bool.and_comm]
    refine decide_eq_true ?_
    unfold deg drp at *
    omega
  refine ⟨h1, h0, ?_⟩
  rw [← sz_sub (S := used l) (used_rng h.bk hv) (decide_eq_true hv)]
  congr 1
  refine sz_congr fun u hu => ?_
  by_cases e : (u : Int) = v
  · rw [e, h0]; simp
  · have e2 : ((u : Int) == v) = false := by simpa using e
    rw [e2, Bool.not_false, Bool.and_true, Bool.eq_iff_iff]
    refine ⟨fun h7 => ?_, h1 _ e⟩
    have h8 := of_decide_eq_true h7
    have h9 : deg (drp l v) u ≤ deg l u := List.Sublist.countP_le List.filter_sublist
    exact decide_eq_true (by omega)
theorem Lam.drop2 {n : Nat} {l : List E} (h : Lam n l) (hl : 2 ≤ l.length) {v : Int} (hd : deg l v = 2) : Lam n (drp l v) := by
  obtain ⟨h1, h2, h3⟩ := h.left hl (show 0 < deg l v by omega)
  have h4 := len_drp l v
  have h5 := h.cnt
  exact ⟨h.ind.sub List.filter_sublist, fun e he => h.bk e ((List.mem_filter.1 he).1), by omega⟩
theorem Lam.drop3 {n : Nat} {l : List E} (h : Lam n l) (hl : 2 ≤ l.length) {v : Int} (hd : deg l v = 3) {x : E} (hx : Bk n x) (hi : Ind n (x :: drp l v)) (ha : x.1 ≠ v ∧ used l x.1 = true) (hb : x.2 ≠ v ∧ used l x.2 = true) : Lam n (x :: drp l v) := by
  obtain ⟨h1, h2, h3⟩ := h.left hl (show 0 < deg l v by omega)
  have h4 := len_drp l v
  have h5 := h.cnt
  have h6 : sz n (used (x :: drp l v)) = sz n (used (drp l v)) := sz_congr fun u hu => by
    have e1 : deg (x :: drp l v) u = deg (drp l v) u + if tch u x = true then 1 else 0 := by unfold deg; rw [List.countP_cons]
    cases ht : tch (u : Int) x
    · unfold used; rw [e1, ht]; simp
    · have : used (drp l v) u = true := by
        simp only [tch, Bool.or_eq_true, beq_iff_eq] at ht
        rcases ht with ht | ht
        · rw [← ht]; exact h1 _ ha.1 ha.2
        · rw [← ht]; exact h1 _ hb.1 hb.2
      rw [this]
      exact decide_eq_true (by rw [e1, ht]; simp)
  refine ⟨hi, fun e he => ?_, by rw [h6, List.length_cons]; omega⟩
  rcases List.mem_cons.1 he with rfl | he
  · exact hx
  · exact h.bk e ((List.mem_filter.1 he).1)
theorem block {n : Nat} {l : List E} (hI : Ind n l) {x : E} (hx : Bk n x) (h : ¬ Ind n (x :: l)) : Spn n l x := by
  unfold Ind at h
  obtain ⟨S, hS⟩ := Classical.not_forall.1 h
  obtain ⟨h1, h2⟩ := Classical.not_imp.1 hS
  have e1 : ic (x :: l) S = ic l S + if inn S x = true then 1 else 0 := by unfold ic; rw [List.countP_cons]
  cases hi : inn S x
  · rw [hi] at e1
    simp at e1
    have h3 := hI S (by omega)
    omega
  · rw [hi] at e1
    simp at e1
    have h3 := sz_two hx hi
    by_cases h0 : 0 < ic l S
    · have h4 := hI S h0
      exact ⟨S, ⟨h0, by omega⟩, hi⟩
    · omega
theorem bk_mk {n : Nat} {a b : Int} (ha : 0 ≤ a ∧ a < n) (hb : 0 ≤ b ∧ b < n) (hab : a ≠ b) : Bk n (mkE a b) := by
  unfold Bk mkE; simp only; omega
theorem inn_mk {S : Int → Bool} {a b : Int} : inn S (mkE a b) = true ↔ S a = true ∧ S b = true := by
  unfold inn mkE
  simp only [Bool.and_eq_true]
  by_cases h : a ≤ b
  · rw [Int.min_eq_left h, Int.max_eq_right h]
  · rw [Int.min_eq_right (by omega), Int.max_eq_left (by omega)]
    exact And.comm
theorem meet {n : Nat} {l : List E} (hI : Ind n l) {S T : Int → Bool} (hS : Tgt n l S) (hT : Tgt n l T) {b : Int} (hb : 0 ≤ b ∧ b < n) (h1 : S b = true) (h2 : T b = true) : Tgt n l (uni S T) ∨ ∀ u : Nat, u < n → S u = true → T u = true → (u : Int) = b := by
  by_cases hc : ∀ u : Nat, u < n → S u = true → T u = true → (u : Int) = b
  · exact .inr hc
  · left
    obtain ⟨u, hu⟩ := Classical.not_forall.1 hc
    obtain ⟨hun, hu⟩ := Classical.not_imp.1 hu
    obtain ⟨hus, hu⟩ := Classical.not_imp.1 hu
    obtain ⟨hut, hne⟩ := Classical.not_imp.1 hu
    exact tgt_uni hI hS hT (bk_mk (n := n) (a := (u : Int)) (b := b) (by omega) hb hne) (inn_mk.2 ⟨hus, h1⟩) (inn_mk.2 ⟨hut, h2⟩)
theorem meet3 {n : Nat} {l : List E} (hI : Ind n l) (hbk : ∀ e ∈ l, Bk n e) {a b c : Int} (ha : 0 ≤ a ∧ a < n) (hb : 0 ≤ b ∧ b < n) (hc : 0 ≤ c ∧ c < n) (hab : a ≠ b) (hbc : b ≠ c) (hca : c ≠ a) (h1 : Spn n l (mkE a b)) (h2 : Spn n l (mkE b c)) (h3 : Spn n l (mkE c a)) :
    ∃ T, Tgt n l T ∧ T a = true ∧ T b = true ∧ T c = true := by
  obtain ⟨X, hX, iX⟩ := h1
  obtain ⟨Y, hY, iY⟩ := h2
  obtain ⟨Z, hZ, iZ⟩ := h3
  obtain ⟨xa, xb⟩ := inn_mk.1 iX
  obtain ⟨yb, yc⟩ := inn_mk.1 iY
  obtain ⟨zc, za⟩ := inn_mk.1 iZ
  rcases meet hI hX hY hb xb yb with t | mxy
  · exact ⟨_, t, by simp [uni, xa], by simp [uni, xb], by simp [uni, yc]⟩
  rcases meet hI hY hZ hc yc zc with t | myz
  · exact ⟨_, t, by simp [uni, za], by simp [uni, yb], by simp [uni, yc]⟩
  rcases meet hI hZ hX ha za xa with t | mzx
  · exact ⟨_, t, by simp [uni, xa], by simp [uni, xb], by simp [uni, zc]⟩
  refine ⟨uni (uni X Y) Z, ?_, by simp [uni, xa], by simp [uni, xb], by simp [uni, yc]⟩
  have s1 := sz_mod n X Y
  have s2 := sz_mod n (uni X Y) Z
  have s3 : sz n (int X Y) ≤ 1 := by
    have : sz n (int X Y) ≤ sz n (fun x => x == b) := sz_mono fun u hu h => by
      simp only [int, Bool.and_eq_true] at h
      simpa using mxy u hu h.1 h.2
    have h9 := sz_one n b
    rw [if_pos hb] at h9
    omega
  have s4 : sz n (int (uni X Y) Z) ≤ 2 := by
    have : sz n (int (uni X Y) Z) ≤ sz n (uni (fun x => x == c) fun x => x == a) := sz_mono fun u hu h => by
      simp only [int, uni, Bool.and_eq_true, Bool.or_eq_true, beq_iff_eq] at h ⊢
      rcases h with ⟨h | h, hz⟩
      · exact .inr (mzx u hu hz h)
      · exact .inl (myz u hu h hz)
    have := sz_pair n c a
    omega
  have s5 : 1 ≤ sz n (int X Y) := by
    have : sz n (fun x => x == b) ≤ sz n (int X Y) := sz_mono fun u hu h => by
      have e : (u : Int) = b := by simpa using h
      rw [e]; simp [int, xb, yb]
    have h9 := sz_one n b
    rw [if_pos hb] at h9
    omega
  have s6 : 2 ≤ sz n (int (uni X Y) Z) := by
    have : sz n (uni (fun x => x == c) fun x => x == a) ≤ sz n (int (uni X Y) Z) := sz_mono fun u hu h => by
      simp only [uni, Bool.or_eq_true, beq_iff_eq] at h
      rcases h with e | e
      · rw [e]; simp [int, uni, yc, zc]
      · rw [e]; simp [int, uni, xa, za]
    have := sz_pair2 hc ha hca
    omega
  have no : ∀ {S T : Int → Bool} {q : Int}, (∀ u : Nat, u < n → S u = true → T u = true → (u : Int) = q) → ∀ e ∈ l, inn S e = true → inn T e = true → False := fun {S T q} hm e he k1 k2 => by
    have hbe := hbk e he
    obtain ⟨e1, e2⟩ := e
    unfold Bk at hbe
    simp only [inn, Bool.and_eq_true] at k1 k2 hbe
    obtain ⟨x, rfl⟩ := Int.eq_ofNat_of_zero_le hbe.1
    obtain ⟨y, rfl⟩ := Int.eq_ofNat_of_zero_le (show 0 ≤ e2 by omega)
    have := hm x (by omega) k1.1 k2.1
    have := hm y (by omega) k1.2 k2.2
    omega
  have i1 : ic l X + ic l Y + ic l Z ≤ ic l (uni (uni X Y) Z) := by
    have key : ∀ J : List E, (∀ e ∈ J, e ∈ l) → ic J X + ic J Y + ic J Z ≤ ic J (uni (uni X Y) Z) := by
      intro J
      induction J with
      | nil => intro _; exact Nat.le_refl _
      | cons e J ih =>
        intro hJ
        have ih := ih fun x hx => hJ x (List.mem_cons_of_mem _ hx)
        have hel := hJ e (List.mem_cons_self ..)
        have n1 := no mxy e hel
        have n2 := no myz e hel
        have n3 := no mzx e hel
        unfold ic at ih ⊢
        rw [List.countP_cons, List.countP_cons, List.countP_cons, List.countP_cons]
        have u1 : inn X e = true → inn (uni (uni X Y) Z) e = true := fun h => by
          simp only [inn, uni, Bool.and_eq_true, Bool.or_eq_true] at h ⊢; exact ⟨.inl (.inl h.1), .inl (.inl h.2)⟩
        have u2 : inn Y e = true → inn (uni (uni X Y) Z) e = true := fun h => by
          simp only [inn, uni, Bool.and_eq_true, Bool.or_eq_true] at h ⊢; exact ⟨.inl (.inr h.1), .inl (.inr h.2)⟩
        have u3 : inn Z e = true → inn (uni (uni X Y) Z) e = true := fun h => by
          simp only [inn, uni, Bool.and_eq_true, Bool.or_eq_true] at h ⊢; exact ⟨.inr h.1, .inr h.2⟩
        by_cases hx : inn X e = true
        · have hy : inn Y e = false := Bool.eq_false_iff.2 fun h => n1 hx h
          have hz : inn Z e = false := Bool.eq_false_iff.2 fun h => n3 h hx
          rw [u1 hx, hx, hy, hz]; simp; omega
        · by_cases hy : inn Y e = true
          · have hz : inn Z e = false := Bool.eq_false_iff.2 fun h => n2 hy h
            have hx' : inn X e = false := Bool.eq_false_iff.2 hx
            rw [u2 hy, hx', hy, hz]; simp; omega
          · by_cases hz : inn Z e = true
            · have hx' : inn X e = false := Bool.eq_false_iff.2 hx
              have hy' : inn Y e = false := Bool.eq_false_iff.2 hy
              rw [u3 hz, hx', hy', hz]; simp; omega
            · have hx' : inn X e = false := Bool.eq_false_iff.2 hx
              have hy' : inn Y e = false := Bool.eq_false_iff.2 hy
              have hz' : inn Z e = false := Bool.eq_false_iff.2 hz
              rw [hx', hy', hz']; simp; omega
    exact key l fun e he => he
  have h0 := hX.1
  have h4 := hI (uni (uni X Y) Z) (by omega)
  have := hX.2
  have := hY.2
  have := hZ.2
  exact ⟨by omega, by omega⟩
theorem oth_facts {n : Nat} {e : E} {v : Int} (hb : Bk n e) (ht : tch v e = true) : (0 ≤ oth e v ∧ oth e v < n) ∧ oth e v ≠ v ∧ e = mkE v (oth e v) ∧ tch (oth e v) e = true := by
  obtain ⟨x, y⟩ := e
  unfold Bk at hb
  simp only [tch, Bool.or_eq_true, beq_iff_eq] at ht
  simp only [oth, mkE, tch, Bool.or_eq_true, beq_iff_eq, Prod.mk.injEq] at hb ht ⊢
  omega
theorem Lam.three {n : Nat} {l : List E} (h : Lam n l) {v : Int} {e1 e2 e3 : E} (hf : l.filter (tch v) = [e1, e2, e3]) :
    Ind n (mkE (oth e1 v) (oth e2 v) :: drp l v) ∨ Ind n (mkE (oth e2 v) (oth e3 v) :: drp l v) ∨ Ind n (mkE (oth e3 v) (oth e1 v) :: drp l v) := by
  have hm : ∀ e ∈ [e1, e2, e3], e ∈ l ∧ tch v e = true := fun e he => by rw [← hf] at he; exact List.mem_filter.1 he
  obtain ⟨m1, t1⟩ := hm e1 (by simp)
  obtain ⟨m2, t2⟩ := hm e2 (by simp)
  obtain ⟨m3, t3⟩ := hm e3 (by simp)
  obtain ⟨r1, n1, q1, k1⟩ := oth_facts (h.bk _ m1) t1
  obtain ⟨r2, n2, q2, k2⟩ := oth_facts (h.bk _ m2) t2
  obtain ⟨r3, n3, q3, k3⟩ := oth_facts (h.bk _ m3) t3
  have hv := used_rng h.bk (show 0 < deg l v by unfold deg; rw [List.countP_eq_length_filter, hf]; simp)
  have hne : ∀ w, w ≠ v → ([e1, e2, e3].countP (tch w)) ≤ 1 := fun w hw => by
    have := mult h.ind h.bk v w (Ne.symm hw)
    rw [← hf, List.countP_filter]
    have h5 : l.countP (fun a => tch w a && tch v a) = l.countP (fun e => tch v e && tch w e) := List.countP_congr fun e _ => by rw [Bool.and_comm]
    omega
  have d12 : oth e1 v ≠ oth e2 v := fun e => by
    have := hne _ n1
    have k2' : tch (oth e1 v) e2 = true := by rw [e]; exact k2
    simp only [List.countP_cons, k1, k2'] at this
    simp at this <;> omega
  have d23 : oth e2 v ≠ oth e3 v := fun e => by
    have := hne _ n2
    have k2' : tch (oth e2 v) e3 = true := by rw [e]; exact k3
    simp only [List.countP_cons, k2, k2'] at this
    simp at this <;> omega
  have d31 : oth e3 v ≠ oth e1 v := fun e => by
    have := hne _ n3
    have k2' : tch (oth e3 v) e1 = true := by rw [e]; exact k1
    simp only [List.countP_cons, k3, k2'] at this
    simp at this <;> omega
  have hI : Ind n (drp l v) := h.ind.sub List.filter_sublist
  have hbk : ∀ e ∈ drp l v, Bk n e := fun e he => h.bk e ((List.mem_filter.1 he).1)
  refine Classical.byContradiction fun hc => ?_
  have c1 : ¬ Ind n (mkE (oth e1 v) (oth e2 v) :: drp l v) := fun h1 => hc (.inl h1)
  have c2 : ¬ Ind n (mkE (oth e2 v) (oth e3 v) :: drp l v) := fun h1 => hc (.inr (.inl h1))
  have c3 : ¬ Ind n (mkE (oth e3 v) (oth e1 v) :: drp l v) := fun h1 => hc (.inr (.inr h1))
  obtain ⟨T, hT, ta, tb, tc⟩ := meet3 hI hbk r1 r2 r3 d12 d23 d31 (block hI (bk_mk r1 r2 d12) c1) (block hI (bk_mk r2 r3 d23) c2) (block hI (bk_mk r3 r1 d31) c3)
  -- the set with v
  have e1' : ic l (uni T fun x => x == v) = 3 + ic (drp l v) (uni T fun x => x == v) := by
    unfold ic drp
    rw [countP_split (inn (uni T fun x => x == v)) (tch v) l, hf]
    congr 1
    have key : ∀ e : E, Bk n e → tch v e = true → T (oth e v) = true → inn (uni T fun x => x == v) e = true := fun e hb ht hT' => by
      obtain ⟨_, _, q, _⟩ := oth_facts hb ht
      rw [q, inn_mk]
      exact ⟨by simp [uni], by simp [uni, hT']⟩
    simp only [List.countP_cons, key e1 (h.bk _ m1) t1 ta, key e2 (h.bk _ m2) t2 tb, key e3 (h.bk _ m3) t3 tc]
    simp
  have e2' : ic (drp l v) T ≤ ic (drp l v) (uni T fun x => x == v) := ic_mono fun e he hi => by
    simp only [inn, uni, Bool.and_eq_true, Bool.or_eq_true] at hi ⊢
    exact ⟨.inl hi.1, .inl hi.2⟩
  have e3' : sz n (uni T fun x => x == v) ≤ sz n T + 1 := by
    have h1 := sz_mod n T fun x => x == v
    have h2 := sz_one n v
    rw [if_pos hv] at h2
    omega
  have e4 := h.ind (uni T fun x => x == v) (by omega)
  have e5 := hT.2
  omega
end Mtr

set_option linter.unusedSimpArgs false
set_option linter.unusedVariables false
namespace Mtr
theorem deg_zero {J : List E} {v : Int} (h : deg J v = 0) : ∀ e ∈ J, e.1 ≠ v ∧ e.2 ≠ v := fun e he => by
  unfold deg at h
  have := List.countP_eq_zero.1 h e he
  simp [tch] at this
  exact this
def wo (S : Int → Bool) (v : Int) : Int → Bool := fun x => S x && !(x == v)
theorem ic_wo {J : List E} {v : Int} (h : deg J v = 0) (S : Int → Bool) : ic J (wo S v) = ic J S := by
  unfold ic
  refine List.countP_congr fun e he => ?_
  obtain ⟨h1, h2⟩ := deg_zero h e he
  have e1 : (e.1 == v) = false := by simpa using h1
  have e2 : (e.2 == v) = false := by simpa using h2
  unfold inn wo
  simp only [e1, e2, Bool.not_false, Bool.and_true]
theorem ic_star (K : List Int) (v : Int) (S : Int → Bool) : ic (K.map (mkE v)) S = if S v = true then K.countP S else 0 := by
  induction K with
  | nil => simp [ic]
  | cons a K ih =>
    unfold ic at ih ⊢
    rw [List.map_cons, List.countP_cons, ih, List.countP_cons]
    by_cases hv : S v = true
    · rw [if_pos hv, if_pos hv]
      by_cases ha : S a = true
      · rw [if_pos ha, if_pos (inn_mk.2 ⟨hv, ha⟩)]
      · rw [if_neg ha, if_neg (fun h => ha (inn_mk.1 h).2)]
    · rw [if_neg hv, if_neg hv, if_neg (fun h => hv (inn_mk.1 h).1)]
theorem Ind.star {n : Nat} {J : List E} {v : Int} {K : List Int} (hJ : Ind n J) (h0 : deg J v = 0) (hv : 0 ≤ v ∧ v < n) (hK : v ∉ K) (H : ∀ S : Int → Bool, S v = false → 0 < K.countP S + ic J S → K.countP S + ic J S + 1 ≤ 2 * sz n S) : Ind n (K.map (mkE v) ++ J) := by
  intro S hS
  have e1 : ic (K.map (mkE v) ++ J) S = ic (K.map (mkE v)) S + ic J S := List.countP_append
  rw [e1, ic_star] at hS ⊢
  by_cases hvS : S v = true
  · rw [if_pos hvS] at hS ⊢
    have h1 := H (wo S v) (by unfold wo; simp)
    have h2 : K.countP (wo S v) = K.countP S := List.countP_congr fun x hx => by
      have : (x == v) = false := by
        rw [beq_eq_false_iff_ne]; rintro rfl; exact hK hx
      unfold wo; simp [this]
    rw [h2, ic_wo h0] at h1
    have h3 : sz n (wo S v) + 1 = sz n S := sz_sub hv hvS
    have := h1 hS
    omega
  · rw [if_neg hvS, Nat.zero_add] at hS ⊢
    exact hJ S hS
theorem one_le {n : Nat} {S : Int → Bool} {a : Int} (ha : 0 ≤ a ∧ a < n) (h : S a = true) : 1 ≤ sz n S := by
  have h1 : sz n (fun x => x == a) = 1 := by rw [sz_one, if_pos ha]
  rw [← h1]
  refine sz_mono fun v hv e => ?_
  have : (v : Int) = a := by simpa using e
  rw [this]; exact h
theorem two_le {n : Nat} {S : Int → Bool} {a b : Int} (ha : 0 ≤ a ∧ a < n) (hb : 0 ≤ b ∧ b < n) (hab : a ≠ b) (h1 : S a = true) (h2 : S b = true) : 2 ≤ sz n S := by
  rw [← sz_pair2 ha hb hab]
  refine sz_mono fun v hv e => ?_
  unfold uni at e
  simp only [Bool.or_eq_true, beq_iff_eq] at e
  rcases e with e | e <;> (rw [e]; assumption)
theorem Ind.two {n : Nat} {J : List E} {v a b : Int} (hJ : Ind n J) (h0 : deg J v = 0) (hv : 0 ≤ v ∧ v < n) (ha : 0 ≤ a ∧ a < n) (hb : 0 ≤ b ∧ b < n) (h1 : v ≠ a) (h2 : v ≠ b) (h3 : a ≠ b) : Ind n (mkE v a :: mkE v b :: J) := by
  refine hJ.star (K := [a, b]) h0 hv (by simp [h1, h2]) fun S _ hp => ?_
  have hJS := hJ S
  have k1 := fun h => one_le (S := S) ha h
  have k2 := fun h => one_le (S := S) hb h
  have k3 := fun h h' => two_le (S := S) ha hb h3 h h'
  rw [List.countP_cons, List.countP_cons, List.countP_nil] at hp ⊢
  cases e1 : S a <;> cases e2 : S b <;> simp only [e1, e2, if_true, if_false, Bool.false_eq_true] at hp k1 k2 k3 ⊢
  · omega
  · have := k2 trivial; omega
  · have := k1 trivial; omega
  · have := k3 trivial trivial; omega
theorem Ind.three {n : Nat} {J : List E} {v a b c : Int} (hJ : Ind n (mkE a b :: J)) (h0 : deg J v = 0) (hv : 0 ≤ v ∧ v < n) (ha : 0 ≤ a ∧ a < n) (hb : 0 ≤ b ∧ b < n) (hc : 0 ≤ c ∧ c < n) (h1 : v ≠ a) (h2 : v ≠ b) (h3 : v ≠ c) (h4 : a ≠ b) (h5 : a ≠ c) (h6 : b ≠ c) : Ind n (mkE v a :: mkE v b :: mkE v c :: J) := by
  have hJ' : Ind n J := hJ.sub (List.sublist_cons_self _ _)
  refine hJ'.star (K := [a, b, c]) h0 hv (by simp [h1, h2, h3]) fun S _ hp => ?_
  have hJS := hJ' S
  have hJS2 := hJ S
  have e0 : ic (mkE a b :: J) S = ic J S + if inn S (mkE a b) = true then 1 else 0 := List.countP_cons
  have k1 := fun h => one_le (S := S) ha h
  have k2 := fun h => one_le (S := S) hb h
  have k3 := fun h => one_le (S := S) hc h
  have k4 := fun h h' => two_le (S := S) ha hb h4 h h'
  have k5 := fun h h' => two_le (S := S) ha hc h5 h h'
  have k6 := fun h h' => two_le (S := S) hb hc h6 h h'
  have e3 : (inn S (mkE a b) = true) = (S a = true ∧ S b = true) := propext inn_mk
  rw [e0] at hJS2
  simp only [e3] at hJS2
  rw [List.countP_cons, List.countP_cons, List.countP_cons, List.countP_nil] at hp ⊢
  cases ea : S a <;> cases eb : S b <;> cases ec : S c <;> simp only [ea, eb, ec, if_true, if_false, Bool.false_eq_true, and_self, and_true, and_false, false_and, true_and, Nat.add_zero] at hp k1 k2 k3 k4 k5 k6 hJS2 ⊢
  · omega
  · have := k3 trivial; omega
  · have := k2 trivial; omega
  · have := k6 trivial trivial; omega
  · have := k1 trivial; omega
  · have := k5 trivial trivial; omega
  · have := k4 trivial trivial; omega
  · omega
theorem Ind.nil (n : Nat) : Ind n [] := fun S h => by simp [ic] at h
theorem Ind.one {n : Nat} {x : E} (hx : Bk n x) : Ind n [x] := fun S h => by
  unfold ic at h ⊢
  rw [List.countP_cons, List.countP_nil] at h ⊢
  split at h
  · rename_i hi
    rw [if_pos hi]
    have := sz_two hx hi
    omega
  · omega
theorem Lam.of {n : Nat} {l : List E} (hI : Ind n l) (hb : ∀ e ∈ l, Bk n e) (h0 : 0 < l.length) (hc : l.length + 3 = 2 * n) : Lam n l := by
  refine ⟨hI, hb, ?_⟩
  have h1 : ic l (used l) = l.length := by
    unfold ic
    rw [List.countP_eq_length]
    intro e he
    unfold inn
    rw [(used_ends he).1, (used_ends he).2]; rfl
  have h2 := hI (used l) (by omega)
  have h3 := sz_le n (used l)
  omega
end Mtr

namespace Go.Proofs.YtfbmpkdjhhcnpaaGreat
open Go.RowKit
set_option maxRecDepth 100000
set_option linter.unusedVariables false
set_option linter.unusedSimpArgs false
theorem ord_eq {l m : List BarT} (hl : Ord l) (hm : Ord m) (hp : l.Perm m) : l = m :=
  hp.eq_of_pairwise (fun a b _ _ h1 h2 => by rw [barLe_iff] at h1 h2; exact Prod.ext (by omega) (by omega)) hl hm
theorem bkG {P : Nat} {l : List BarT} (h : isGraphB ((P : Int), l) = true) : ∀ e ∈ l, Mtr.Bk P e := fun e he => by
  obtain ⟨k, hk⟩ := List.getElem?_of_mem he
  exact isGraphB_bar h hk
theorem sparse_ind {P : Nat} {l : List BarT} (hg : isGraphB ((P : Int), l) = true) : sparseB ((P : Int), l) 2 3 = true ↔ Mtr.Ind P l := by
  rw [← ind_over (isGraphB_ends hg)]
  unfold sparseB
  rw [hg, show rangeB 2 3 = true by decide]
  simp
theorem degTo_cnt (l : List BarT) (v : Int) : ∀ k, degTo l v k = (((l.take k).countP (Mtr.tch v) : Nat) : Int)
  | 0 => by simp [degTo]
  | k + 1 => by
    unfold degTo
    rw [degTo_cnt l v k]
    cases h : l[k]? with
    | none =>
      have h1 : l.length ≤ k := List.getElem?_eq_none_iff.1 h
      rw [List.take_of_length_le h1, List.take_of_length_le (by omega)]
    | some x =>
      rw [take_succ_of h, List.countP_append, List.countP_cons, List.countP_nil]
      have e : (Mtr.tch v x = true) = (x.1 = v ∨ x.2 = v) := by unfold Mtr.tch; simp
      dsimp only
      by_cases hx : x.1 = v ∨ x.2 = v
      · rw [if_pos hx, if_pos (by rw [e]; exact hx)]; omega
      · rw [if_neg hx, if_neg (by rw [e]; exact hx)]; omega
theorem degB_deg (l : List BarT) (v : Int) : degB l v = ((Mtr.deg l v : Nat) : Int) := by
  unfold degB Mtr.deg
  rw [degTo_cnt, List.take_length]
theorem near_deg (l : List BarT) (v : Int) : (nearL l v).length = Mtr.deg l v := by
  unfold nearL Mtr.deg
  rw [List.length_map, List.countP_eq_length_filter]
  rfl
theorem drop_drp (l : List BarT) (v : Int) : dropL l v = Mtr.drp l v := rfl
theorem dif2 {p a b : Int} : difB p [a, b] = true ↔ (0 ≤ a ∧ a < p) ∧ (0 ≤ b ∧ b < p) ∧ a ≠ b := by
  simp [difB, difTo, inB]; omega
theorem dif3 {p a b c : Int} : difB p [a, b, c] = true ↔ (0 ≤ a ∧ a < p) ∧ (0 ≤ b ∧ b < p) ∧ (0 ≤ c ∧ c < p) ∧ a ≠ b ∧ a ≠ c ∧ b ≠ c := by
  simp [difB, difTo, inB]; omega
theorem dif4 {p a b c d : Int} : difB p [a, b, c, d] = true ↔ (0 ≤ a ∧ a < p) ∧ (0 ≤ b ∧ b < p) ∧ (0 ≤ c ∧ c < p) ∧ (0 ≤ d ∧ d < p) ∧ a ≠ b ∧ a ≠ c ∧ a ≠ d ∧ b ≠ c ∧ b ≠ d ∧ c ≠ d := by
  simp [difB, difTo, inB]; omega
theorem barM_mk (a b : Int) : barM a b = Mtr.mkE a b := rfl
theorem mk_mm (a b : Int) : Mtr.mkE (min a b) (max a b) = Mtr.mkE a b := by unfold Mtr.mkE; exact Prod.ext (by dsimp only; omega) (by dsimp only; omega)
theorem idx_mem {l : List BarT} {x : BarT} : 0 ≤ idxB l x ↔ x ∈ l := by
  unfold idxB
  split
  · rename_i h; simp [h]
  · rename_i h; simp [h]
theorem cut_perm {l : List BarT} {x : BarT} (h : x ∈ l) : l.Perm (x :: cutG l (idxB l x).toNat) := by
  unfold idxB
  rw [if_pos h, Int.toNat_natCast]
  have hk := List.idxOf_lt_length_iff.2 h
  have e : l = l.take (l.idxOf x) ++ x :: l.drop (l.idxOf x + 1) := by
    conv => lhs; rw [← List.take_append_drop (l.idxOf x) l, List.drop_eq_getElem_cons hk]
    rw [List.getElem_idxOf]
  unfold cutG
  conv => lhs; rw [e]
  exact List.perm_middle
theorem step_one {P : Nat} {a b : Int} (hP : 1 ≤ P ∧ P ≤ 8) (hd : difB P [a, b] = true) : stepF ((P : Int), []) (0, 0, a, b, 0) = (((P : Int), [barM a b]), true) := by
  have hg : isGraphB ((P : Int), []) = true := by
    refine isGraphB_of (by simp [inB]; omega) (by simp) (by simp) List.Pairwise.nil
  unfold stepF cnd0
  rw [hg]
  dsimp only
  rw [hd]
  rfl
theorem step_two {P : Nat} {x : List BarT} {v a b : Int} (hg : isGraphB ((P : Int), x) = true) (hl : x.length ≤ 21) (hd : difB P [v, a, b] = true) (hv : Mtr.deg x v = 0) (ha : 0 < Mtr.deg x a) (hb : 0 < Mtr.deg x b) :
    stepF ((P : Int), x) (1, v, a, b, 0) = (((P : Int), putsL x [barM v a, barM v b]), true) := by
  unfold stepF cnd0 cnd1
  dsimp only
  rw [hg, hd, degB_deg, degB_deg, degB_deg, hv]
  rw [decide_eq_true (show (0 : Int) < (Mtr.deg x a : Nat) by omega), decide_eq_true (show (0 : Int) < (Mtr.deg x b : Nat) by omega), decide_eq_true hl]
  rfl
theorem step_three {P : Nat} {x : List BarT} {v a b c : Int} (hg : isGraphB ((P : Int), x) = true) (hl : x.length ≤ 21) (hd : difB P [v, a, b, c] = true) (hv : Mtr.deg x v = 0) (hc : 0 < Mtr.deg x c) (hm : barM a b ∈ x) :
    stepF ((P : Int), x) (2, v, a, b, c) = (((P : Int), putsL (cutG x (idxB x (barM a b)).toNat) [barM v a, barM v b, barM v c]), true) := by
  unfold stepF cnd0 cnd1 cnd2
  dsimp only
  rw [hg, hd, degB_deg x v, degB_deg x c, hv]
  rw [decide_eq_true (show (0 : Int) < (Mtr.deg x c : Nat) by omega), decide_eq_true (idx_mem.2 hm), decide_eq_true hl]
  rfl
theorem puts_ind {n : Nat} {x K : List BarT} (h : Mtr.Ind n (K ++ x)) : Mtr.Ind n (putsL x K) := h.perm ((List.perm_append_comm).trans (putsL_perm K x).symm)
theorem stepF_cases {p : Int} {l : List BarT} {s : StepT} {g : GraphT} (h : stepF (p, l) s = (g, true)) : isGraphB (p, l) = true ∧ l.length ≤ 21 ∧
    ((l = [] ∧ ∃ a b, difB p [a, b] = true ∧ g = (p, putsL l [barM a b])) ∨
     (∃ v a b, difB p [v, a, b] = true ∧ Mtr.deg l v = 0 ∧ 0 < Mtr.deg l a ∧ 0 < Mtr.deg l b ∧ g = (p, putsL l [barM v a, barM v b])) ∨
     (∃ v a b c, difB p [v, a, b, c] = true ∧ Mtr.deg l v = 0 ∧ 0 < Mtr.deg l c ∧ barM a b ∈ l ∧ g = (p, putsL (cutG l (idxB l (barM a b)).toNat) [barM v a, barM v b, barM v c]))) := by
  unfold stepF at h
  split at h
  · rename_i hc
    simp only [Bool.and_eq_true, decide_eq_true_eq] at hc
    refine ⟨hc.1, hc.2, ?_⟩
    split at h
    · rename_i h0
      unfold cnd0 at h0
      simp only [Bool.and_eq_true, beq_iff_eq] at h0
      refine .inl ⟨List.eq_nil_of_length_eq_zero (by have := h0.2.2.2.1; omega), _, _, h0.2.2.2.2, ?_⟩
      have := congrArg Prod.fst h
      exact this.symm
    · split at h
      · rename_i h1
        unfold cnd1 at h1
        simp only [Bool.and_eq_true, beq_iff_eq, Bool.not_eq_true', decide_eq_true_eq, decide_eq_false_iff_not, degB_deg] at h1
        refine .inr (.inl ⟨_, _, _, h1.2.2.1, by have := h1.2.2.2.1; omega, by have := h1.2.2.2.2.1; omega, by have := h1.2.2.2.2.2; omega, ?_⟩)
        have := congrArg Prod.fst h
        exact this.symm
      · split at h
        · rename_i h2
          unfold cnd2 at h2
          simp only [Bool.and_eq_true, beq_iff_eq, Bool.not_eq_true', decide_eq_true_eq, decide_eq_false_iff_not, degB_deg] at h2
          refine .inr (.inr ⟨_, _, _, _, h2.2.1, by have := h2.2.2.1; omega, by have := h2.2.2.2.1; omega, idx_mem.1 h2.2.2.2.2, ?_⟩)
          have := congrArg Prod.fst h
          exact this.symm
        · have := congrArg Prod.snd h
          cases this
  · have := congrArg Prod.snd h
    cases this
theorem step_keep {P : Nat} {l : List BarT} {s : StepT} {g : GraphT} (h : stepF ((P : Int), l) s = (g, true)) (hI : Mtr.Ind P l) : ∃ m, g = ((P : Int), m) ∧ isGraphB ((P : Int), m) = true ∧ Mtr.Ind P m ∧ (l = [] → m.length = 1) ∧ (l ≠ [] → m.length = l.length + 2) := by
  obtain ⟨hg, hl, hc⟩ := stepF_cases h
  have hbd := isGraphB_bd hg
  have key : ∀ (x K : List BarT), isGraphB ((P : Int), x) = true → x.length + K.length ≤ 24 → (∀ e ∈ K, Mtr.Bk P e) → isGraphB ((P : Int), putsL x K) = true := fun x K hx hlen hK =>
    isGraphB_of (by simp [inB]; omega) (by rw [putsL_length]; exact hlen) (fun e he => by
      have := (putsL_perm K x).mem_iff.1 he
      rcases List.mem_append.1 this with h1 | h1
      · exact bkG hx e h1
      · exact hK e h1) (putsL_ord K (isGraphB_ord hx))
  rcases hc with ⟨rfl, a, b, hd, rfl⟩ | ⟨v, a, b, hd, hv, ha, hb, rfl⟩ | ⟨v, a, b, c, hd, hv, hcc, hm, rfl⟩
  · obtain ⟨h1, h2, h3⟩ := dif2.1 hd
    have hbk : Mtr.Bk P (Mtr.mkE a b) := Mtr.bk_mk h1 h2 h3
    refine ⟨_, rfl, key _ _ hg (by simp) (fun e he => by rw [List.mem_singleton.1 he]; exact hbk), puts_ind (Mtr.Ind.one hbk), fun _ => rfl, fun h => absurd rfl h⟩
  · obtain ⟨h1, h2, h3, h4, h5, h6⟩ := dif3.1 hd
    refine ⟨_, rfl, key _ _ hg (by simp; omega) (fun e he => ?_), puts_ind (hI.two hv h1 h2 h3 h4 h5 h6), fun h => ?_, fun _ => by rw [putsL_length]; rfl⟩
    · rcases List.mem_cons.1 he with rfl | he
      · exact Mtr.bk_mk h1 h2 h4
      · rw [List.mem_singleton.1 he]; exact Mtr.bk_mk h1 h3 h5
    · subst h; simp [Mtr.deg] at ha
  · obtain ⟨h1, h2, h3, h4, h5, h6, h7, h8, h9, h10⟩ := dif4.1 hd
    have hp := cut_perm hm
    have hx := isGraphB_sub hg (cutG_sub l (idxB l (barM a b)).toNat)
    have hlen := hp.length_eq
    rw [List.length_cons] at hlen
    have hdv : Mtr.deg (cutG l (idxB l (barM a b)).toNat) v = 0 := by
      have := (cutG_sub l (idxB l (barM a b)).toNat).countP_le (p := Mtr.tch v)
      unfold Mtr.deg at hv ⊢
      omega
    refine ⟨_, rfl, key _ _ hx (by simp; omega) (fun e he => ?_), puts_ind ((hI.perm hp).three hdv h1 h2 h3 h4 h5 h6 h7 h8 h9 h10), fun h => ?_, fun _ => by rw [putsL_length]; simp; omega⟩
    · rcases List.mem_cons.1 he with rfl | he
      · exact Mtr.bk_mk h1 h2 h5
      · rcases List.mem_cons.1 he with rfl | he
        · exact Mtr.bk_mk h1 h3 h6
        · rw [List.mem_singleton.1 he]; exact Mtr.bk_mk h1 h4 h7
    · subst h; simp at hm
theorem len_two {α : Type} {l : List α} (h : l.length = 2) : ∃ a b, l = [a, b] := match l, h with
  | [a, b], _ => ⟨a, b, rfl⟩
theorem len_three {α : Type} {l : List α} (h : l.length = 3) : ∃ a b c, l = [a, b, c] := match l, h with
  | [a, b, c], _ => ⟨a, b, c, rfl⟩
theorem near_le {P : Nat} {l : List BarT} (hI : Mtr.Ind P l) (hb : ∀ e ∈ l, Mtr.Bk P e) {a v : Int} (hne : a ≠ v) : (l.filter (Mtr.tch v)).countP (Mtr.tch a) ≤ 1 := by
  rw [List.countP_filter]
  exact Mtr.mult hI hb a v hne
theorem used_of {l : List BarT} {e : BarT} {a : Int} (he : e ∈ l) (h : Mtr.tch a e = true) : Mtr.used l a = true := decide_eq_true (List.countP_pos_iff.2 ⟨e, he, h⟩)
theorem used_pos {l : List BarT} {a : Int} (h : Mtr.used l a = true) : 0 < Mtr.deg l a := of_decide_eq_true h
theorem used_zero {l : List BarT} {a : Int} (h : Mtr.used l a = false) : Mtr.deg l a = 0 := by
  have := of_decide_eq_false h
  omega
theorem undo_two {P : Nat} {l : List BarT} {v : Nat} (hv : v < P) (hg : isGraphB ((P : Int), l) = true) (hL : Mtr.Lam P l) (h2 : 2 ≤ l.length) (hl : l.length ≤ 22) (hd : (nearL l v).length = 2) :
    Mtr.Lam P (dropL l v) ∧ stepF ((P : Int), dropL l v) (1, (v : Int), gI (nearL l v) 0, gI (nearL l v) 1, 0) = (((P : Int), l), true) := by
  have hd' : Mtr.deg l v = 2 := by rw [← near_deg]; exact hd
  obtain ⟨e1, e2, hf⟩ : ∃ e1 e2, l.filter (Mtr.tch v) = [e1, e2] := len_two (by rw [← List.countP_eq_length_filter]; exact hd')
  have hm : ∀ e ∈ [e1, e2], e ∈ l ∧ Mtr.tch v e = true := fun e he => by rw [← hf] at he; exact List.mem_filter.1 he
  obtain ⟨m1, t1⟩ := hm e1 (by simp)
  obtain ⟨m2, t2⟩ := hm e2 (by simp)
  obtain ⟨r1, n1, q1, u1⟩ := Mtr.oth_facts (bkG hg e1 m1) t1
  obtain ⟨r2, n2, q2, u2⟩ := Mtr.oth_facts (bkG hg e2 m2) t2
  have hn : nearL l v = [Mtr.oth e1 v, Mtr.oth e2 v] := by
    unfold nearL
    rw [show l.filter (hasV v) = l.filter (Mtr.tch v) from rfl, hf]; rfl
  have hp : l.Perm (e1 :: e2 :: dropL l v) := by
    have := (List.filter_append_perm (Mtr.tch v) l).symm
    rw [hf] at this
    exact this
  have hc1 := near_le hL.ind hL.bk n1
  rw [hf] at hc1
  generalize Mtr.oth e1 v = a at *
  generalize Mtr.oth e2 v = b at *
  have hab : a ≠ b := by
    rintro rfl
    rw [List.countP_cons, List.countP_cons, List.countP_nil, if_pos u1, if_pos u2] at hc1
    omega
  obtain ⟨k1, k2, -⟩ := hL.left h2 (show 0 < Mtr.deg l v by omega)
  have ka := used_pos (k1 a n1 (used_of m1 u1))
  have kb := used_pos (k1 b n2 (used_of m2 u2))
  have hgd := dropL_graph (v : Int) hg
  have hlen := hp.length_eq
  simp only [List.length_cons] at hlen
  refine ⟨hL.drop2 h2 hd', ?_⟩
  rw [hn]
  show stepF ((P : Int), dropL l v) (1, (v : Int), a, b, 0) = _
  rw [step_two hgd (by omega) (dif3.2 ⟨⟨by omega, by omega⟩, r1, r2, n1.symm, n2.symm, hab⟩) (used_zero k2) ka kb]
  have e : putsL (dropL l v) [barM v a, barM v b] = l := by
    refine ord_eq (putsL_ord _ (isGraphB_ord hgd)) (isGraphB_ord hg) ?_
    refine (putsL_perm _ _).trans (List.perm_append_comm.trans ?_)
    rw [barM_mk, barM_mk, ← q1, ← q2]
    exact hp.symm
  rw [e]
theorem undo_three {P : Nat} {l : List BarT} {v a b c : Int} (hg : isGraphB ((P : Int), l) = true) (hL : Mtr.Lam P l) (h2 : 2 ≤ l.length) (hl : l.length ≤ 22) (hd : Mtr.deg l v = 3) (hv : 0 ≤ v ∧ v < P)
    (hp : l.Perm (Mtr.mkE v a :: Mtr.mkE v b :: Mtr.mkE v c :: dropL l v)) (ra : 0 ≤ a ∧ a < P) (rb : 0 ≤ b ∧ b < P) (rc : 0 ≤ c ∧ c < P) (na : a ≠ v) (nb : b ≠ v) (nc : c ≠ v) (hab : a ≠ b) (hac : a ≠ c) (hbc : b ≠ c)
    (ua : Mtr.used l a = true) (ub : Mtr.used l b = true) (uc : Mtr.used l c = true) (hS : sparseB ((P : Int), putL (dropL l v) (min a b, max a b)) 2 3 = true) :
    Mtr.Lam P (putL (dropL l v) (min a b, max a b)) ∧ stepF ((P : Int), putL (dropL l v) (min a b, max a b)) (2, v, min a b, max a b, c) = (((P : Int), l), true) := by
  have hgx := sparseB_graph hS
  have hIx := (sparse_ind hgx).1 hS
  have hq : (putL (dropL l v) (min a b, max a b)).Perm (Mtr.mkE a b :: Mtr.drp l v) := putL_perm _ _
  have hlen := hp.length_eq
  have hlx := hq.length_eq
  simp only [List.length_cons, ← drop_drp] at hlen hlx
  obtain ⟨k1, k2, -⟩ := hL.left h2 (show 0 < Mtr.deg l v by omega)
  have hends : ((Mtr.mkE a b).1 ≠ v ∧ Mtr.used l (Mtr.mkE a b).1 = true) ∧ ((Mtr.mkE a b).2 ≠ v ∧ Mtr.used l (Mtr.mkE a b).2 = true) := by
    unfold Mtr.mkE
    dsimp only
    constructor
    · rcases (by omega : min a b = a ∨ min a b = b) with e | e
      · rw [e]; exact ⟨na, ua⟩
      · rw [e]; exact ⟨nb, ub⟩
    · rcases (by omega : max a b = a ∨ max a b = b) with e | e
      · rw [e]; exact ⟨na, ua⟩
      · rw [e]; exact ⟨nb, ub⟩
  have hLx : Mtr.Lam P (putL (dropL l v) (min a b, max a b)) := (hL.drop3 h2 hd (Mtr.bk_mk ra rb hab) (hIx.perm hq) hends.1 hends.2).perm hq.symm
  refine ⟨hLx, ?_⟩
  have hdx : Mtr.deg (putL (dropL l v) (min a b, max a b)) v = 0 := by
    rw [Mtr.deg_perm hq]
    unfold Mtr.deg
    have h0 := used_zero k2
    unfold Mtr.deg at h0
    rw [List.countP_cons, h0, if_neg]
    unfold Mtr.tch
    simp only [Bool.or_eq_true, beq_iff_eq]
    have := hends.1.1
    have := hends.2.1
    omega
  have hcx : 0 < Mtr.deg (putL (dropL l v) (min a b, max a b)) c := by
    rw [Mtr.deg_perm hq]
    have := used_pos (k1 c nc uc)
    unfold Mtr.deg at this ⊢
    rw [List.countP_cons]
    omega
  have hmem : barM (min a b) (max a b) ∈ putL (dropL l v) (min a b, max a b) := by
    rw [barM_mk, mk_mm]
    exact hq.mem_iff.2 (by simp)
  rw [step_three hgx (by omega) (dif4.2 ⟨hv, by omega, by omega, rc, by omega, by omega, nc.symm, by omega, by omega, by omega⟩) hdx hcx hmem]
  have hy := cut_perm hmem
  generalize hY : cutG (putL (dropL l v) (min a b, max a b)) (idxB (putL (dropL l v) (min a b, max a b)) (barM (min a b) (max a b))).toNat = Y at *
  have hyo : Ord Y := by rw [← hY]; exact cutG_ord _ (isGraphB_ord hgx)
  rw [barM_mk, mk_mm] at hy
  have hyd : Y.Perm (dropL l v) := (hy.symm.trans hq).cons_inv
  have e : putsL Y [barM v (min a b), barM v (max a b), barM v c] = l := by
    refine ord_eq (putsL_ord _ hyo) (isGraphB_ord hg) ?_
    refine (putsL_perm _ _).trans (List.perm_append_comm.trans ?_)
    refine List.Perm.trans ?_ hp.symm
    rw [barM_mk, barM_mk, barM_mk]
    have hK : [Mtr.mkE v (min a b), Mtr.mkE v (max a b), Mtr.mkE v c].Perm [Mtr.mkE v a, Mtr.mkE v b, Mtr.mkE v c] := by
      rcases Int.le_total a b with h | h
      · rw [show min a b = a by omega, show max a b = b by omega]
      · rw [show min a b = b by omega, show max a b = a by omega]
        exact List.Perm.swap _ _ _
    exact hK.append hyd
  rw [e]
theorem three_ends {P : Nat} {l : List BarT} {v : Nat} (hg : isGraphB ((P : Int), l) = true) (hL : Mtr.Lam P l) (hd : (nearL l v).length = 3) : ∃ a b c, nearL l v = [a, b, c] ∧ l.Perm (Mtr.mkE v a :: Mtr.mkE v b :: Mtr.mkE v c :: dropL l v) ∧
    ((0 ≤ a ∧ a < P) ∧ (0 ≤ b ∧ b < P) ∧ (0 ≤ c ∧ c < P)) ∧ (a ≠ v ∧ b ≠ v ∧ c ≠ v) ∧ (a ≠ b ∧ a ≠ c ∧ b ≠ c) ∧ (Mtr.used l a = true ∧ Mtr.used l b = true ∧ Mtr.used l c = true) ∧
    (Mtr.Ind P (Mtr.mkE a b :: dropL l v) ∨ Mtr.Ind P (Mtr.mkE b c :: dropL l v) ∨ Mtr.Ind P (Mtr.mkE c a :: dropL l v)) := by
  have hd' : Mtr.deg l v = 3 := by rw [← near_deg]; exact hd
  obtain ⟨e1, e2, e3, hf⟩ : ∃ e1 e2 e3, l.filter (Mtr.tch v) = [e1, e2, e3] := len_three (by rw [← List.countP_eq_length_filter]; exact hd')
  have h3 := hL.three hf
  have hm : ∀ e ∈ [e1, e2, e3], e ∈ l ∧ Mtr.tch v e = true := fun e he => by rw [← hf] at he; exact List.mem_filter.1 he
  obtain ⟨m1, t1⟩ := hm e1 (by simp)
  obtain ⟨m2, t2⟩ := hm e2 (by simp)
  obtain ⟨m3, t3⟩ := hm e3 (by simp)
  obtain ⟨r1, n1, q1, u1⟩ := Mtr.oth_facts (bkG hg e1 m1) t1
  obtain ⟨r2, n2, q2, u2⟩ := Mtr.oth_facts (bkG hg e2 m2) t2
  obtain ⟨r3, n3, q3, u3⟩ := Mtr.oth_facts (bkG hg e3 m3) t3
  have hn : nearL l v = [Mtr.oth e1 v, Mtr.oth e2 v, Mtr.oth e3 v] := by
    unfold nearL
    rw [show l.filter (hasV v) = l.filter (Mtr.tch v) from rfl, hf]; rfl
  have hp : l.Perm (e1 :: e2 :: e3 :: dropL l v) := by
    have := (List.filter_append_perm (Mtr.tch v) l).symm
    rw [hf] at this
    exact this
  have hc1 := near_le hL.ind hL.bk n1
  have hc2 := near_le hL.ind hL.bk n2
  rw [hf] at hc1 hc2
  generalize Mtr.oth e1 v = a at *
  generalize Mtr.oth e2 v = b at *
  generalize Mtr.oth e3 v = c at *
  rw [List.countP_cons, List.countP_cons, List.countP_cons, List.countP_nil] at hc1 hc2
  refine ⟨a, b, c, hn, by rw [← q1, ← q2, ← q3]; exact hp, ⟨r1, r2, r3⟩, ⟨n1, n2, n3⟩, ⟨?_, ?_, ?_⟩, ⟨used_of m1 u1, used_of m2 u2, used_of m3 u3⟩, h3⟩
  · rintro rfl; rw [if_pos u1, if_pos u2] at hc1; omega
  · rintro rfl; rw [if_pos u1, if_pos u3] at hc1; omega
  · rintro rfl; rw [if_pos u2, if_pos u3] at hc2; omega
theorem undX_eq {l : List BarT} {v : Nat} {a b c : Int} (hn : nearL l v = [a, b, c]) : (undX l v 0 = putL (dropL l v) (min a b, max a b) ∧ undT l v 0 = (2, (v : Int), min a b, max a b, c)) ∧ (undX l v 1 = putL (dropL l v) (min b c, max b c) ∧ undT l v 1 = (2, (v : Int), min b c, max b c, a)) ∧ (undX l v 2 = putL (dropL l v) (min c a, max c a) ∧ undT l v 2 = (2, (v : Int), min c a, max c a, b)) := by
  unfold undX undT undA
  rw [hn]
  exact ⟨⟨rfl, rfl⟩, ⟨rfl, rfl⟩, rfl, rfl⟩
theorem undo_ok {P : Nat} {l : List BarT} (hg : isGraphB ((P : Int), l) = true) (hL : Mtr.Lam P l) (h2 : 2 ≤ l.length) (hl : l.length ≤ 22) : ∃ x s, undoL P l = some (x, s) ∧ isGraphB ((P : Int), x) = true ∧ Mtr.Lam P x ∧ stepF ((P : Int), x) s = (((P : Int), l), true) := by
  have fin : ∀ x s, undoL P l = some (x, s) → (Mtr.Lam P x ∧ stepF ((P : Int), x) s = (((P : Int), l), true)) → ∃ x s, undoL P l = some (x, s) ∧ isGraphB ((P : Int), x) = true ∧ Mtr.Lam P x ∧ stepF ((P : Int), x) s = (((P : Int), l), true) := fun x s h1 h2 => ⟨x, s, h1, undoL_graph hg h1, h2⟩
  cases h1 : firstS (und1 l) P with
  | some r =>
    obtain ⟨v, hv, hr⟩ := firstS_some _ h1
    have hd : (nearL l v).length = 2 := by
      unfold und1 at hr
      split at hr
      · assumption
      · cases hr
    have hr2 := hr
    unfold und1 at hr2
    rw [if_pos hd] at hr2
    cases hr2
    refine fin _ _ ?_ (undo_two hv hg hL h2 hl hd)
    unfold undoL
    rw [Int.toNat_natCast, h1]
  | none =>
    have hall := firstS_all _ h1
    obtain ⟨v0, hv0, hd0⟩ := hL.small h2
    have hd3 : (nearL l v0).length = 3 := by
      rw [near_deg]
      rcases hd0 with h | h
      · have := hall v0 hv0
        unfold und1 at this
        rw [if_pos (by rw [near_deg]; exact h)] at this
        cases this
      · exact h
    have hu : undoL P l = firstS (und2 P l) P := by
      unfold undoL
      rw [Int.toNat_natCast, h1]
    cases h3 : firstS (und2 P l) P with
    | none =>
      exfalso
      have hno := firstS_all _ h3 v0 hv0
      unfold und2 at hno
      rw [if_pos hd3] at hno
      have hk := firstS_all _ hno
      obtain ⟨a, b, c, hn, hp, ⟨ra, rb, rc⟩, ⟨na, nb, nc⟩, ⟨hab, hac, hbc⟩, ⟨ua, ub, uc⟩, hI⟩ := three_ends hg hL hd3
      obtain ⟨⟨x0, -⟩, ⟨x1, -⟩, ⟨x2, -⟩⟩ := undX_eq hn
      have hlen := hp.length_eq
      simp only [List.length_cons] at hlen
      have hgd := dropL_graph (v0 : Int) hg
      have key : ∀ y z : Int, (0 ≤ y ∧ y < P) → (0 ≤ z ∧ z < P) → y ≠ z → Mtr.Ind P (Mtr.mkE y z :: dropL l v0) → sparseB ((P : Int), putL (dropL l v0) (min y z, max y z)) 2 3 = true := fun y z hy hz hyz hi => by
        have hgp : isGraphB ((P : Int), putL (dropL l v0) (min y z, max y z)) = true := graph_put hgd (by omega) (by dsimp only; omega)
        exact (sparse_ind hgp).2 (hi.perm (putL_perm _ _).symm)
      have no : ∀ k, k < 3 → sparseB ((P : Int), undX l v0 k) 2 3 = false := fun k hk3 => by
        have := hk k hk3
        unfold und3 at this
        split at this
        · cases this
        · rename_i h; exact Bool.eq_false_iff.2 h
      rcases hI with hI | hI | hI
      · have h4 := no 0 (by decide); rw [x0, key a b ra rb hab hI] at h4; cases h4
      · have h4 := no 1 (by decide); rw [x1, key b c rb rc hbc hI] at h4; cases h4
      · have h4 := no 2 (by decide); rw [x2, key c a rc ra (Ne.symm hac) hI] at h4; cases h4
    | some r =>
      obtain ⟨v, hv, hr⟩ := firstS_some _ h3
      obtain ⟨hd, k, hk, hrk⟩ := und2_some hr
      obtain ⟨a, b, c, hn, hp, ⟨ra, rb, rc⟩, ⟨na, nb, nc⟩, ⟨hab, hac, hbc⟩, ⟨ua, ub, uc⟩, -⟩ := three_ends hg hL hd
      obtain ⟨⟨x0, y0⟩, ⟨x1, y1⟩, ⟨x2, y2⟩⟩ := undX_eq hn
      have hvr : 0 ≤ (v : Int) ∧ (v : Int) < P := by omega
      have hdg : Mtr.deg l v = 3 := by rw [← near_deg]; exact hd
      unfold und3 at hrk
      split at hrk
      · rename_i hS
        cases hrk
        refine fin _ _ (hu.trans h3) ?_
        obtain rfl | rfl | rfl : k = 0 ∨ k = 1 ∨ k = 2 := by omega
        · rw [x0] at hS ⊢; rw [y0]
          exact undo_three hg hL h2 hl hdg hvr hp ra rb rc na nb nc hab hac hbc ua ub uc hS
        · rw [x1] at hS ⊢; rw [y1]
          refine undo_three hg hL h2 hl hdg hvr (hp.trans ?_) rb rc ra nb nc na hbc (Ne.symm hab) (Ne.symm hac) ub uc ua hS
          exact (List.Perm.swap _ _ _).trans ((List.Perm.swap _ _ _).cons _)
        · rw [x2] at hS ⊢; rw [y2]
          refine undo_three hg hL h2 hl hdg hvr (hp.trans ?_) rc ra rb nc na nb (Ne.symm hac) (Ne.symm hbc) hab uc ua ub hS
          exact ((List.Perm.swap _ _ _).cons _).trans (List.Perm.swap _ _ _)
      · cases hrk
end Go.Proofs.YtfbmpkdjhhcnpaaGreat

namespace Go.Proofs.YtfbmpkdjhhcnpaaGreat
open Go.RowKit Mtr
set_option maxRecDepth 100000
set_option linter.unusedVariables false
set_option linter.unusedSimpArgs false
theorem bldTo_pre {n : Int} {l r : List StepT} : ∀ k, k ≤ l.length → bldTo n (l ++ r) k = bldTo n l k
  | 0, _ => rfl
  | k + 1, h => by
    show (match bldTo n (l ++ r) k, (l ++ r)[k]? with
      | some g, some s => if (stepF g s).2 = true then some (stepF g s).1 else none
      | _, _ => none) = (match bldTo n l k, l[k]? with
      | some g, some s => if (stepF g s).2 = true then some (stepF g s).1 else none
      | _, _ => none)
    rw [bldTo_pre k (by omega), List.getElem?_append_left (by omega)]
theorem fnd_ok {P : Nat} : ∀ (f : Nat) (l : List BarT) (out : List StepT), isGraphB ((P : Int), l) = true → Mtr.Lam P l → 1 ≤ l.length → l.length ≤ 22 → l.length ≤ f → ∃ m, fndL P f l out = some (m ++ out) ∧ bldTo P m m.length = some ((P : Int), l) ∧ 2 * m.length = l.length + 1
  | 0, l, out, _, _, h1, _, h2 => by omega
  | f + 1, l, out, hg, hL, h1, hl, hf => by
    by_cases h2 : 1 < l.length
    · obtain ⟨x, s, hu, hgx, hLx, hs⟩ := undo_ok hg hL h2 hl
      have hlen := undoL_len hu
      have hc := hLx.cnt
      obtain ⟨m, e1, e2, e3⟩ := fnd_ok f x (s :: out) hgx hLx (by omega) (by omega) (by omega)
      refine ⟨m ++ [s], ?_, ?_, by rw [List.length_append, List.length_singleton]; omega⟩
      · show (if 1 < l.length then _ else _) = _
        rw [if_pos h2, hu]
        dsimp only
        rw [e1]
        simp
      · rw [List.length_append, List.length_singleton]
        have e4 : bldTo P (m ++ [s]) m.length = some ((P : Int), x) := by rw [bldTo_pre _ (Nat.le_refl _)]; exact e2
        have e5 : (m ++ [s])[m.length]? = some s := by simp
        rw [bldTo_yes e4 e5 (by rw [hs]), hs]
    · obtain ⟨e, rfl⟩ : ∃ e, l = [e] := List.length_eq_one_iff.1 (by omega)
      have hb := bkG hg e (by simp)
      unfold Mtr.Bk at hb
      have hbd := isGraphB_bd hg
      refine ⟨[(0, 0, (gB [e] 0).1, (gB [e] 0).2, 0)], ?_, ?_, rfl⟩
      · show (if 1 < [e].length then _ else _) = _
        rw [if_neg h2]
        rfl
      · have hs := step_one (P := P) (a := e.1) (b := e.2) (by omega) (dif2.2 ⟨by omega, by omega, by omega⟩)
        have e4 : barM e.1 e.2 = e := by unfold barM; exact Prod.ext (by dsimp only; omega) (by dsimp only; omega)
        rw [e4] at hs
        show bldTo P [(0, 0, e.1, e.2, 0)] 1 = _
        rw [bldTo_yes (k := 0) (g := ((P : Int), [])) (s := (0, 0, e.1, e.2, 0)) rfl rfl (by rw [hs]), hs]
theorem full_idx {E : Nat} {F : List Int} (h2 : ∀ j : Nat, j < E → 0 ≤ gI F j ∧ gI F j < E) (h3 : ∀ j : Nat, j + 1 < E → gI F j < gI F (j + 1)) : ∀ j : Nat, j < E → gI F j = j := by
  have lo : ∀ j : Nat, j < E → (j : Int) ≤ gI F j := by
    intro j
    induction j with
    | zero => intro h; have := (h2 0 h).1; omega
    | succ j ih =>
      intro h
      have h4 := ih (by omega)
      have h5 := h3 j h
      omega
  have hi : ∀ d : Nat, d < E → gI F (E - 1 - d) ≤ ((E - 1 - d : Nat) : Int) := by
    intro d
    induction d with
    | zero =>
      intro h
      have := (h2 (E - 1 - 0) (by omega)).2
      omega
    | succ d ih =>
      intro h
      have h4 := ih (by omega)
      have h5 := h3 (E - 1 - (d + 1)) (by omega)
      rw [show E - 1 - (d + 1) + 1 = E - 1 - d by omega] at h5
      omega
  intro j hj
  have h6 := lo j hj
  have h7 := hi (E - 1 - j) (by omega)
  rw [show E - 1 - (E - 1 - j) = j by omega] at h7
  omega
theorem plB_full {n : Nat} {k : Int} {bars : List BarT} {S : PebT} (h : Inv n k bars bars.length S) (hl : S.2.2.length = bars.length) : plB bars S = bars := by
  have hF := full_idx (E := bars.length) (F := S.2.2) (fun j hj => by
    obtain ⟨e, he, he2, _⟩ := h.pl j (by omega)
    omega) fun j hj => h.inc j (by omega)
  refine List.ext_getElem? fun j => ?_
  unfold plB
  rw [List.getElem?_map]
  by_cases hj : j < bars.length
  · have h1 := hF j hj
    unfold gI at h1
    rw [List.getElem?_eq_getElem (show j < S.2.2.length by omega), Option.getD_some] at h1
    rw [List.getElem?_eq_getElem (show j < S.2.2.length by omega), h1, List.getElem?_eq_getElem hj]
    show some (gB bars (j : Int).toNat) = _
    rw [Int.toNat_natCast]
    unfold gB
    rw [List.getElem?_eq_getElem hj, Option.getD_some]
  · rw [List.getElem?_eq_none (by omega), List.getElem?_eq_none (by omega)]
    rfl
theorem min_lam {P : Nat} {l : List BarT} (h : minB ((P : Int), l) = true) (h0 : 0 < l.length) : isGraphB ((P : Int), l) = true ∧ Mtr.Lam P l ∧ l.length + 3 = 2 * P := by
  obtain ⟨hg, hlen⟩ := minB_len h
  have hlen2 : (l.length : Int) = 2 * P - 3 := by rcases hlen with h | h <;> omega
  have hbd := isGraphB_bd hg
  have hb : Bok P l := fun e he => by
    have := isGraphB_bar hg (List.getElem?_eq_getElem he)
    unfold gB
    rw [List.getElem?_eq_getElem he, Option.getD_some]
    omega
  have hI : Inv P 2 l l.length (playP P l 2 3) := playTo_ok (n := P) (k := 2) (l := 3) (bars := l) (by decide) hb (by omega) (by decide) l.length (Nat.le_refl _)
  have hr : (playP P l 2 3).2.2.length = l.length := by
    unfold minB at h
    simp only [Bool.and_eq_true, beq_iff_eq] at h
    have h2 := h.2
    unfold rankG at h2
    rw [if_pos (by unfold runOk; rw [hg]; decide)] at h2
    simp only [Int.toNat_natCast] at h2
    omega
  have hi : Mtr.Ind P l := by
    have := (play_ind hb (by omega) l.length (Nat.le_refl _)).1
    have e := plB_full hI hr
    unfold playP at e
    rw [e] at this
    exact this
  exact ⟨hg, Mtr.Lam.of hi (bkG hg) h0 (by omega), by omega⟩
theorem find_ok {p : Int} {l : List BarT} (h : minB (p, l) = true) (h0 : 0 < l.length) : ∃ m, findA p l = (m, true) ∧ bldF p m = ((p, l), true) ∧ (m.length : Int) = p - 1 := by
  have hbd := isGraphB_bd (minB_len h).1
  obtain ⟨P, rfl⟩ : ∃ P : Nat, p = P := ⟨p.toNat, by omega⟩
  obtain ⟨hg, hL, hc⟩ := min_lam h h0
  obtain ⟨m, e1, e2, e3⟩ := fnd_ok l.length l [] hg hL h0 (by omega) (Nat.le_refl _)
  rw [List.append_nil] at e1
  refine ⟨m, ?_, ?_, by omega⟩
  · unfold findA
    rw [if_pos (by rw [h, Bool.true_and, Bool.not_eq_true', beq_eq_false_iff_ne]; omega), e1]
  · unfold bldF
    rw [if_pos (by simp [inB]; omega), e2]
theorem fsB_iff (g : GraphT) : (findA g.1 g.2).2 = (minB g && decide (0 < g.2.length)) := by
  obtain ⟨p, l⟩ := g
  by_cases h : minB (p, l) = true ∧ 0 < l.length
  · obtain ⟨m, e, -⟩ := find_ok h.1 h.2
    dsimp only
    rw [e, h.1, decide_eq_true h.2]; rfl
  · have e : (minB (p, l) && !(l.length == 0)) = false := by
      rw [Bool.eq_false_iff]
      intro hc
      simp only [Bool.and_eq_true, Bool.not_eq_true', beq_eq_false_iff_ne] at hc
      exact h ⟨hc.1, by omega⟩
    have e2 : (minB (p, l) && decide (0 < l.length)) = false := by
      rw [Bool.eq_false_iff]
      intro hc
      simp only [Bool.and_eq_true, decide_eq_true_eq] at hc
      exact h hc
    dsimp only
    rw [e2]
    unfold findA
    rw [if_neg (by rw [e]; simp)]
theorem bldTo_keep {P : Nat} {l : List StepT} (hP : 1 ≤ P ∧ P ≤ 8) : ∀ k g, bldTo P l k = some g → ∃ m, g = ((P : Int), m) ∧ isGraphB ((P : Int), m) = true ∧ Mtr.Ind P m ∧ (k = 0 → m = []) ∧ (0 < k → m.length + 1 = 2 * k)
  | 0, g, h => by
    cases h
    exact ⟨[], rfl, isGraphB_of (by simp [inB]; omega) (by simp) (by simp) List.Pairwise.nil, Mtr.Ind.nil P, fun _ => rfl, fun h => absurd h (by omega)⟩
  | k + 1, g, h => by
    have h' : (match bldTo P l k, l[k]? with
      | some g, some s => if (stepF g s).2 = true then some (stepF g s).1 else none
      | _, _ => none) = some g := h
    cases e1 : bldTo P l k with
    | none => rw [e1] at h'; cases h'
    | some g0 =>
      cases e2 : l[k]? with
      | none => rw [e1, e2] at h'; cases h'
      | some s =>
        rw [e1, e2] at h'
        dsimp only at h'
        split at h'
        · rename_i hs
          obtain ⟨m, rfl, hg, hI, hz, hc⟩ := bldTo_keep hP k g0 e1
          have h3 : stepF ((P : Int), m) s = (g, true) := Prod.ext (Option.some.inj h') hs
          obtain ⟨m', rfl, hg', hI', k1, k2⟩ := step_keep h3 hI
          refine ⟨m', rfl, hg', hI', fun h => absurd h (by omega), fun _ => ?_⟩
          by_cases hm : m = []
          · have h5 := k1 hm
            rcases Nat.eq_zero_or_pos k with h4 | h4
            · omega
            · have h6 := hc h4
              rw [hm] at h6
              simp at h6
              omega
          · have h5 := k2 hm
            rcases Nat.eq_zero_or_pos k with h4 | h4
            · exact absurd (hz h4) hm
            · have := hc h4; omega
        · cases h'
theorem bldF_keep {n : Int} {l : List StepT} (h : (bldF n l).2 = true) : sparseB (bldF n l).1 2 3 = true ∧ (0 < l.length → (((bldF n l).1.2.length : Nat) : Int) = 2 * l.length - 1) := by
  unfold bldF at h ⊢
  split at h
  · rename_i hn
    rw [if_pos hn]
    have hn2 : 1 ≤ n ∧ n ≤ 8 := by simpa [inB] using hn
    obtain ⟨P, rfl⟩ : ∃ P : Nat, n = P := ⟨n.toNat, by omega⟩
    cases e : bldTo P l l.length with
    | none => rw [e] at h; cases h
    | some g =>
      obtain ⟨m, rfl, hg, hI, hz, hc⟩ := bldTo_keep (by omega) _ _ e
      refine ⟨(sparse_ind hg).2 hI, fun h0 => ?_⟩
      have := hc h0
      dsimp only
      omega
  · cases h
theorem stepF_sparse {g : GraphT} {s : StepT} (h : (stepF g s).2 = true) (hS : sparseB g 2 3 = true) : sparseB (stepF g s).1 2 3 = true := by
  obtain ⟨p, l⟩ := g
  have hg := sparseB_graph hS
  have hbd := isGraphB_bd hg
  obtain ⟨P, rfl⟩ : ∃ P : Nat, p = P := ⟨p.toNat, by omega⟩
  obtain ⟨m, e, hg', hI', -⟩ := step_keep (g := (stepF ((P : Int), l) s).1) (Prod.ext rfl h) ((sparse_ind hg).1 hS)
  rw [e]
  exact (sparse_ind hg').2 hI'
def OkSt (x : StepT) : Prop := (-9223372036854775808 ≤ x.1 ∧ x.1 ≤ 9223372036854775807) ∧ (-9223372036854775808 ≤ x.2.1 ∧ x.2.1 ≤ 9223372036854775807) ∧ (-9223372036854775808 ≤ x.2.2.1 ∧ x.2.2.1 ≤ 9223372036854775807) ∧ (-9223372036854775808 ≤ x.2.2.2.1 ∧ x.2.2.2.1 ≤ 9223372036854775807) ∧ (-9223372036854775808 ≤ x.2.2.2.2 ∧ x.2.2.2.2 ≤ 9223372036854775807)
theorem step_bd {g : GraphT} {s : StepT} (h : (stepF g s).2 = true) : OkSt s := by
  obtain ⟨p, l⟩ := g
  obtain ⟨kd, pt, a, b, c⟩ := s
  unfold stepF at h
  split at h
  · rename_i hc
    simp only [Bool.and_eq_true, decide_eq_true_eq] at hc
    have hp := (isGraphB_bd hc.1).1
    unfold OkSt
    dsimp only at h ⊢
    split at h
    · rename_i h0
      unfold cnd0 at h0
      simp only [Bool.and_eq_true, beq_iff_eq] at h0
      have := dif2.1 h0.2.2.2.2
      omega
    · split at h
      · rename_i h1
        unfold cnd1 at h1
        simp only [Bool.and_eq_true, beq_iff_eq] at h1
        have := dif3.1 h1.2.2.1
        omega
      · split at h
        · rename_i h2
          unfold cnd2 at h2
          simp only [Bool.and_eq_true, beq_iff_eq] at h2
          have := dif4.1 h2.2.1
          omega
        · cases h
  · cases h
theorem bldTo_mem {n : Int} {l : List StepT} : ∀ k g, bldTo n l k = some g → ∀ j, j < k → ∃ s, l[j]? = some s ∧ OkSt s
  | 0, _, _, j, hj => absurd hj (Nat.not_lt_zero _)
  | k + 1, g, h, j, hj => by
    have h' : (match bldTo n l k, l[k]? with
      | some g, some s => if (stepF g s).2 = true then some (stepF g s).1 else none
      | _, _ => none) = some g := h
    cases e1 : bldTo n l k with
    | none => rw [e1] at h'; cases h'
    | some g0 =>
      cases e2 : l[k]? with
      | none => rw [e1, e2] at h'; cases h'
      | some s =>
        rw [e1, e2] at h'
        dsimp only at h'
        split at h'
        · rename_i hs
          by_cases e : j = k
          · subst e; exact ⟨s, e2, step_bd hs⟩
          · exact bldTo_mem k g0 e1 j (by omega)
        · cases h'
theorem fs_no {g : GraphT} (h : (minB g && decide (0 < g.2.length)) = false) : fsA g = [] ∧ fsB g = false := by
  have h2 := fsB_iff g
  rw [h] at h2
  unfold fsA fsB
  refine ⟨?_, h2⟩
  unfold findA at h2 ⊢
  split
  · rename_i hc
    rw [if_pos hc] at h2
    cases hf : fndL g.1 g.2.length g.2 [] with
    | none => rfl
    | some s => rw [hf] at h2; cases h2
  · rfl
theorem fs_yes {g : GraphT} (h : (minB g && decide (0 < g.2.length)) = true) : fsB g = true ∧ bldF g.1 (fsA g) = (g, true) ∧ ((fsA g).length : Int) = g.1 - 1 := by
  obtain ⟨p, l⟩ := g
  simp only [Bool.and_eq_true, decide_eq_true_eq] at h
  obtain ⟨m, e1, e2, e3⟩ := find_ok h.1 h.2
  unfold fsA fsB
  dsimp only
  rw [e1]
  exact ⟨rfl, e2, e3⟩
theorem fsA_ok (g : GraphT) : OkSteps (fsA g) := by
  have hlen := fsA_len g
  cases h : (minB g && decide (0 < g.2.length))
  · rw [(fs_no h).1]
    exact ⟨by simp, by simp⟩
  · obtain ⟨-, h2, -⟩ := fs_yes h
    refine ⟨by omega, fun x hx => ?_⟩
    obtain ⟨j, hj⟩ := List.getElem?_of_mem hx
    unfold bldF at h2
    split at h2
    · cases e : bldTo g.1 (fsA g) (fsA g).length with
      | none => rw [e] at h2; cases h2
      | some g' =>
        obtain ⟨s, e1, e2⟩ := bldTo_mem _ _ e j (lt_of_getElem? hj)
        rw [hj] at e1
        cases e1
        exact e2
    · cases h2
set_option maxHeartbeats 4000000 in
theorem specEqG_any (W : World) (p p' : Int) (a a' : Option Addr) (cap cap' : Nat) (l l' : List BarT) (h : BarsAt W a l.length l) (h' : BarsAt W a' l'.length l') (hn : l.length ≤ 1099511627776) :
    Calls Tryz.prog 35 #[.agg #[.int .i64 p, .slice a l.length cap], .agg #[.int .i64 p', .slice a' l'.length cap']] W fun e w' => e = .returned (.bool (p == p' && decide (l = l'))) ∧ Below W.heap.size W w' := by
  have hgd := guardBar
  have HI := Lib.hid h
  have HI' := Lib.hid h'
  clear h h'
  generalize hL : l.length = n at *
  generalize hL' : l'.length = n' at *
  have HL := Lib.hid hL
  have HL' := Lib.hid hL'
  clear hL hL'
  have HB0 : Hid (Below W.heap.size W ((W.alloc (.cells #[.int .i64 p, .slice a n cap] 26)).alloc (.cells #[.int .i64 p', .slice a' n' cap'] 26))) := ((Below.refl _ W).alloc (Nat.le_refl _) _).alloc (by simp) _
  by_cases hp : p = p'
  · subst hp
    by_cases hnn : n = n'
    · subst hnn
      go_enter Tryz.func35, Tryz.ntmps35
      go_wp2_with fail
      obtain ⟨W0, hW0⟩ : ∃ W0, W0 = (W.alloc (.cells #[.int .i64 p, .slice a n cap] 26)).alloc (.cells #[.int .i64 p, .slice a' n cap'] 26) := ⟨_, rfl⟩
      rw [← hW0]
      have hs0 : W0.heap.size = W.heap.size + 1 + 1 := by rw [hW0]; simp
      have g0 : W0.cell? ⟨W.heap.size, 1, none⟩ = some (.slice a n cap) := by rw [hW0]; simp [World.cell?_alloc_new]
      have g1 : W0.cell? ⟨W.heap.size + 1, 1, none⟩ = some (.slice a' n cap') := by rw [hW0]; simp [World.cell?_alloc_new]
      rw [← hW0] at HB0
      have HC := Lib.hid (HI.out.below HB0.out).2
      have HC' := Lib.hid (HI'.out.below HB0.out).2
      have hs1 : W.heap.size < W0.heap.size := by omega
      have hs2 : W.heap.size + 1 < W0.heap.size := by omega
      clear hs0 hW0
      go_loopw [5] (fun i wr => ∃ k : Nat, k ≤ n ∧ i = .int .i64 k ∧ Below W0.heap.size W0 wr ∧ l.take k = l'.take k) (fun i _ => n - (intOf i).toNat)
      case atStart => exact ⟨0, Nat.zero_le _, rfl, Below.refl _ _, rfl⟩
      case round =>
        obtain ⟨k, hk, rfl, hb, hpp⟩ := hrel
        have HP := Lib.hid hpp
        clear hpp
        have g0' := (hb.cell (p := ⟨W.heap.size, 1, none⟩) hs1).trans g0
        have g1' := (hb.cell (p := ⟨W.heap.size + 1, 1, none⟩) hs2).trans g1
        have hbz := hb.size
        have hq1 : W.heap.size < wr.heap.size := by omega
        have hq2 : W.heap.size + 1 < wr.heap.size := by omega
        by_cases hlt : k < n
        · obtain ⟨b, off, ⟨x1, x2⟩, rfl, hbl, hx, hc0, hc1⟩ := HC.out k hlt
          obtain ⟨b', off', ⟨y1, y2⟩, rfl, hbl', hy, hy0, hy1⟩ := HC'.out k hlt
          dsimp only at hc0 hc1 hy0 hy1
          have HX := Lib.hid hx
          have HY := Lib.hid hy
          have d0 := (hb.cell (p := ⟨b, off + k * 2, none⟩) hbl).trans hc0
          have d1 := (hb.cell (p := ⟨b, off + k * 2 + 1, none⟩) hbl).trans hc1
          have t0 := (hb.cell (p := ⟨b', off' + k * 2, none⟩) hbl').trans hy0
          have t1 := (hb.cell (p := ⟨b', off' + k * 2 + 1, none⟩) hbl').trans hy1
          clear hx hy hc0 hc1 hy0 hy1 g0 g1
          by_cases hxx : (((x1, x2) : BarT) = (y1, y2))
          · have HXX := Lib.hid hxx
            have hcmp := fun w => neqBar_t hxx w
            clear hxx
            go_wp2_with fail
            go_quiet (fail)
            go_wp2_with fail
            go_roundw
            case rel => exact ⟨k + 1, by omega, by go_num, by first | exact below_drewN hb _ | exact hb, by rw [take_succ_of HX.out, take_succ_of HY.out, HP.out, HXX.out]⟩
            case measure => simp [intOf]; omega
          · have HXX := Lib.hid hxx
            have hcmp := fun w => neqBar_f hxx w
            clear hxx
            have hll : ¬ l = l' := fun e => HXX.out (Option.some.inj (by rw [← HX.out, ← HY.out, e]))
            have HF := Lib.hid (ret_bool (show (p == p && decide (l = l')) = false by simp [hll]))
            clear hll
            go_wp2_with fail
            go_quiet (fail)
            go_wp2_with fail
            go_ret
            exact ⟨HF.out.symm, HB0.out.trans ((below_drewN hb _).mono (by omega))⟩
        · obtain rfl : k = n := by omega
          have h1 := HP.out
          rw [List.take_of_length_le (by have := HL.out; omega), List.take_of_length_le (by have := HL'.out; omega)] at h1
          have HF := Lib.hid (ret_bool (show (p == p && decide (l = l')) = true by simp [h1]))
          clear h1
          go_wp2_with fail
          go_ret
          exact ⟨HF.out.symm, HB0.out.trans (hb.mono (by omega))⟩

    · have hne : (n != n') = true := by simpa using hnn
      have hne2 : ((n : Int) != (n' : Int)) = true := by simp; omega
      have HF := Lib.hid (ret_bool (show (p == p && decide (l = l')) = false by
        have h1 : ¬ l = l' := fun e => hnn (by rw [← HL.out, ← HL'.out, e])
        simp [h1]))
      go_enter Tryz.func35, Tryz.ntmps35
      go_wp2_with fail
      go_ret
      exact ⟨HF.out.symm, HB0.out⟩
  · have hpp : (p == p') = false := by simpa using hp
    have hpp2 : (p != p') = true := by simpa using hp
    have HF := Lib.hid (ret_bool (show (p == p' && decide (l = l')) = false by simp [hpp]))
    go_enter Tryz.func35, Tryz.ntmps35
    go_wp2_with fail
    go_ret
    exact ⟨HF.out.symm, HB0.out⟩

end Go.Proofs.YtfbmpkdjhhcnpaaGreat

