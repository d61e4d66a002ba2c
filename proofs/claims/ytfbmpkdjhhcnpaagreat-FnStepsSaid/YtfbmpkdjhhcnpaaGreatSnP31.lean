/- Drawing steps: l7Step, l7Steps, DrawBuildSteps, DrawAreSameSteps, DrawFindSteps of the reference. No condition but sizes. -/
import Derived.Test.YtfbmpkdjhhcnpaaGreatSnP26
import Derived.Test.YtfbmpkdjhhcnpaaGreatSnP30
import Derived.Test.YtfbmpkdjhhcnpaaGreatSnP23
import Derived.Lib.MinMax
import Derived.Deep.RegionHeld3
import Derived.Deep.CutRange
import Derived.OwnWalk
namespace Go.Proofs.YtfbmpkdjhhcnpaaGreat
open Go.RowKit
set_option maxRecDepth 100000
set_option linter.unusedVariables false
set_option linter.unusedSimpArgs false
def RetDst (W0 w : World) (g : Nat) (ca : Option Addr) (n cap : Nat) (l : List Int) (e : Ending) (w' : World) : Prop :=
 ∃ kd pt x y z, e = .returned (.agg #[.int .i64 kd, .int .i64 pt, .int .i64 x, .int .i64 y, .int .i64 z]) ∧ Drw W0 w' g ca n cap l ∧ Kept (fun b => b = g) w w'
set_option maxHeartbeats 8000000 in
theorem l7Step_at (W0 w : World) (g : Nat) (ca : Option Addr) (n cap : Nat) (l : List Int) (hB : BytesAt W0 ca n l) (hn : n ≤ 1099511627776) (h : Drw W0 w g ca n cap l) :
  Calls Tryz.prog 89 #[.pointer (some ⟨g, 0, none⟩)] w (RetDst W0 w g ca n cap l) := by
 have HD : Hid (∀ (m : Int) w9, 1 ≤ m ∧ m ≤ 256 → Drw W0 w9 g ca n cap l → Calls Tryz.prog 88 #[.pointer (some ⟨g, 0, none⟩), .int .i64 m] w9 (RetDi W0 w9 g ca n cap l 0 (m - 1))) := Lib.hid fun m w9 hm h9 => l1Below_at W0 w9 g ca n cap l hB hn h9 m hm
 have ba := belAl w (.cells #[.int .i64 0, .int .i64 0, .int .i64 0, .int .i64 0, .int .i64 0] 57)
 have Z := Lib.hid (ZSt.at w)
 have D := Lib.hid (h.below ba)
 have K := Lib.hid (Kept.of_below (S := fun b => b = g) ba)
 have hgw := h.hi
 have hlow := h.low
 clear hB h ba
 go_enter Tryz.func89, Tryz.ntmps89
 go_wp2_with fail
 generalize (w.alloc (.cells #[.int .i64 0, .int .i64 0, .int .i64 0, .int .i64 0, .int .i64 0] 57)) = u at *
 refine (HD.out 6 u (by decide) D.out).mono ?_
 rintro e w1 ⟨x1, hx1, rfl, d1, k1⟩
 replace D := Lib.hid d1
 replace K := Lib.hid (K.out.trans k1)
 replace Z := Lib.hid (Z.out.kept k1 (by omega))
 clear d1 k1
 go_wp2_with fail
 refine (HD.out 6 w1 (by decide) D.out).mono ?_
 rintro e w2 ⟨x2, hx2, rfl, d1, k1⟩
 replace D := Lib.hid d1
 replace K := Lib.hid (K.out.trans k1)
 replace Z := Lib.hid (Z.out.kept k1 (by omega))
 clear d1 k1
 go_wp2_with fail
 refine (HD.out 6 w2 (by decide) D.out).mono ?_
 rintro e w3 ⟨x3, hx3, rfl, d1, k1⟩
 replace D := Lib.hid d1
 replace K := Lib.hid (K.out.trans k1)
 replace Z := Lib.hid (Z.out.kept k1 (by omega))
 clear d1 k1
 go_wp2_with fail
 refine (HD.out 4 w3 (by decide) D.out).mono ?_
 rintro e w4 ⟨x4, hx4, rfl, d1, k1⟩
 replace D := Lib.hid d1
 replace K := Lib.hid (K.out.trans k1)
 replace Z := Lib.hid (Z.out.kept k1 (by omega))
 clear d1 k1
 go_wp2_with fail
 refine (HD.out 6 w4 (by decide) D.out).mono ?_
 rintro e w5 ⟨x5, hx5, rfl, d1, k1⟩
 replace D := Lib.hid d1
 replace K := Lib.hid (K.out.trans k1)
 replace Z := Lib.hid (Z.out.kept k1 (by omega))
 clear d1 k1
 go_wp2_with fail
 refine (HD.out 2 w5 (by decide) D.out).mono ?_
 rintro e w6 ⟨x6, hx6, rfl, d1, k1⟩
 replace D := Lib.hid d1
 replace K := Lib.hid (K.out.trans k1)
 replace Z := Lib.hid (Z.out.kept k1 (by omega))
 clear d1 k1
 have hbm : 0 ≤ x5 * x6 ∧ x5 * x6 ≤ 5 := by
  rcases (by omega : x6 = 0 ∨ x6 = 1) with h | h <;> rw [h] <;> omega
 have hwm := IntWalk.i64_in (x5 * x6) (by omega)
 have HP := Lib.hid (putSt (kd := x4) (pt := x1) (x := x2) (y := x3) (z := x5 * x6) Z.out)
 have k2 : Kept (fun b => b = w.heap.size) w6 (((((w6.setCell ⟨w.heap.size, 0, none⟩ (.int .i64 x4)).setCell ⟨w.heap.size, 1, none⟩ (.int .i64 x1)).setCell ⟨w.heap.size, 2, none⟩ (.int .i64 x2)).setCell ⟨w.heap.size, 3, none⟩ (.int .i64 x3)).setCell ⟨w.heap.size, 4, none⟩ (.int .i64 (x5 * x6))) :=
  ((((keptSet' (S := fun b => b = w.heap.size) rfl).trans (keptSet' (S := fun b => b = w.heap.size) rfl)).trans (keptSet' (S := fun b => b = w.heap.size) rfl)).trans (keptSet' (S := fun b => b = w.heap.size) rfl)).trans (keptSet' (S := fun b => b = w.heap.size) rfl)
 have HF := Lib.hid (And.intro (D.out.kept k2 (by omega) (fun b hb => by omega)) (K.out.on k2 fun i h1 h2 => by omega))
 obtain ⟨⟨q1, q2, q3, q4, q5, hz, c0, c1, c2, c3, c4⟩, f0, f1, f2, f3, f4⟩ := Z.out
 clear k2 D K
 go_wp2_with fail
 obtain ⟨hz9, d0, d1, d2, d3, d4⟩ := HP.out
 refine bodyPost_ret (v := .agg #[.int .i64 x4, .int .i64 x1, .int .i64 x2, .int .i64 x3, .int .i64 (x5 * x6)]) (by simp [results, Tryz.results89, go_sem, hz, c0, c1, c2, c3, c4]) rfl ?_
 exact ⟨x4, x1, x2, x3, x5 * x6, rfl, HF.out.1, HF.out.2⟩
def RetDs (W0 w : World) (g : Nat) (ca : Option Addr) (n cap : Nat) (l : List Int) (e : Ending) (w' : World) : Prop :=
 ∃ p v ls, e = .returned (.tuple #[.int .i64 p, v]) ∧ OwnSteps w' w.heap.size v ls ∧ ls.length ≤ 30 ∧ Drw W0 w' g ca n cap l ∧ Kept (fun b => b = g) w w'
theorem fsA_len' (p : Int) (l : List BarT) : (fsA (p, l)).length ≤ l.length + 1 := by
 unfold fsA findA
 dsimp only
 split
 ·cases hf : fndL p l.length l [] with
  | none => simp
  | some s =>
   have := fndL_len _ _ _ _ hf
   simp at this ⊢
   omega
 ·simp
theorem OwnSteps.on {w w' : World} {base g : Nat} {v : Value} {xs : List StepT} (h : OwnSteps w base v xs) (k : Kept (fun b => b = g) w w') (hg : g < base) : OwnSteps w' base v xs :=
 k.ownsRow h fun b h1 h2 => by have := (World.ownsRow.lt h b h1).1; omega
theorem litStep (w : World) (x1 x2 x3 x4 x5 : Int) : StepsAt (w.alloc (.cells #[.int .i64 x1, .int .i64 x2, .int .i64 x3, .int .i64 x4, .int .i64 x5] 57)) (some ⟨w.heap.size, 0, none⟩) 1 [(x1, x2, x3, x4, x5)] := by
 obtain ⟨a, c, e, h⟩ := (OwnSteps.one w w.heap.size (Nat.le_refl _) x1 x2 x3 x4 x5).form
 simp at e
 obtain ⟨rfl, rfl⟩ := e
 exact h
set_option maxHeartbeats 8000000 in
theorem l7Steps_at (W0 w : World) (g : Nat) (ca : Option Addr) (n cap : Nat) (l : List Int) (hB : BytesAt W0 ca n l) (hn : n ≤ 1099511627776) (h : Drw W0 w g ca n cap l) :
  Calls Tryz.prog 85 #[.pointer (some ⟨g, 0, none⟩)] w (RetDs W0 w g ca n cap l) := by
 have HD : Hid (∀ (m : Int) w9, 1 ≤ m ∧ m ≤ 256 → Drw W0 w9 g ca n cap l → Calls Tryz.prog 88 #[.pointer (some ⟨g, 0, none⟩), .int .i64 m] w9 (RetDi W0 w9 g ca n cap l 0 (m - 1))) := Lib.hid fun m w9 hm h9 => l1Below_at W0 w9 g ca n cap l hB hn h9 m hm
 have HON : Hid (∀ (m : Int) w9, 1 ≤ m ∧ m ≤ 256 → Drw W0 w9 g ca n cap l → Calls Tryz.prog 58 #[.pointer (some ⟨g, 0, none⟩), .int .i64 m] w9 (RetDb W0 w9 g ca n cap l)) := Lib.hid fun m w9 hm h9 => l1Once_at W0 w9 g ca n cap l hB hn h9 m hm
 have HLM : Hid (∀ (P : Nat) w9, 1 ≤ P ∧ P ≤ 6 → Drw W0 w9 g ca n cap l → Calls Tryz.prog 114 #[.pointer (some ⟨g, 0, none⟩), .int .i64 P] w9 (RetDg W0 w9 g ca n cap l fun p bs => p = (P : Int) ∧ isGraphB ((P : Int), bs) = true ∧ bs.length ≤ 18 ∧ (2 ≤ P → 1 ≤ bs.length))) := Lib.hid fun P w9 hP h9 => l6Laman_at W0 w9 g ca n cap l hB hn h9 P hP
 have HST : Hid (∀ w9, Drw W0 w9 g ca n cap l → Calls Tryz.prog 89 #[.pointer (some ⟨g, 0, none⟩)] w9 (RetDst W0 w9 g ca n cap l)) := Lib.hid fun w9 h9 => l7Step_at W0 w9 g ca n cap l hB hn h9
 have D := Lib.hid h
 have K := Lib.hid (Kept.refl (S := fun b => b = g) w)
 have hgw := h.hi
 have hlow := h.low
 clear hB h
 go_enter Tryz.func85, Tryz.ntmps85
 go_wp2_with fail
 refine (HD.out 5 w (by decide) D.out).mono ?_
 rintro e w1 ⟨y, hy, rfl, d1, k1⟩
 replace D := Lib.hid d1
 replace K := Lib.hid (K.out.trans k1)
 have hz1 := k1.size
 clear d1 k1
 have hwx := IntWalk.i64_in (2 + y) (by omega)
 obtain ⟨P, hP⟩ : ∃ P : Nat, 2 + y = P := ⟨(2 + y).toNat, by omega⟩
 have hP2 : 2 ≤ P ∧ P ≤ 6 := by omega
 rw [hP] at hwx
 go_wp2_with fail
 try rw [hP]
 clear hP hwx hy
 refine (HLM.out P w1 (by omega) D.out).mono ?_
 rintro e w3 ⟨p, a, c, bs, rfl, ob, ⟨rfl, -, hbl, -⟩, d1, k1⟩
 have ba := belAl w3 (.cells #[.int .i64 (P : Int), .slice a bs.length c] 26)
 have hbx : BoxGr (w3.alloc (.cells #[.int .i64 (P : Int), .slice a bs.length c] 26)) w3.heap.size P a bs.length c := BoxGr.at rfl
 have HFN := Lib.hid (spec_FindSteps (w3.alloc (.cells #[.int .i64 (P : Int), .slice a bs.length c] 26)) _ ((P : Int), bs) ⟨a, c, rfl, (ownBars_at ob).below ba⟩ (by show bs.length ≤ 1048576; omega))
 have hlen := fsA_len' (P : Int) bs
 replace D := Lib.hid (d1.below ba)
 replace K := Lib.hid ((K.out.trans k1).trans (Kept.of_below ba))
 have hz4 : w.heap.size ≤ (w3.alloc (.cells #[.int .i64 (P : Int), .slice a bs.length c] 26)).heap.size := K.out.size
 obtain ⟨L, hL⟩ : ∃ L, L = fsA ((P : Int), bs) := ⟨_, rfl⟩
 obtain ⟨fb, hfb⟩ : ∃ b, b = fsB ((P : Int), bs) := ⟨_, rfl⟩
 rw [← hL, ← hfb] at HFN
 rw [← hL] at hlen
 clear d1 k1 ob hL hfb
 obtain ⟨zB, cB0, cB1⟩ := hbx
 go_wp2_with fail
 generalize (w3.alloc (.cells #[.int .i64 (P : Int), .slice a bs.length c] 26)) = w4 at *
 refine HFN.out.mono ?_
 rintro e w5 ⟨v, rfl, ho, b5⟩
 replace D := Lib.hid (D.out.below b5)
 replace K := Lib.hid (K.out.trans (Kept.of_below b5))
 have OS := Lib.hid (OwnSteps.low ho hz4)
 have hz5 := K.out.size
 have hg5 : g < w5.heap.size := by omega
 have hob : ∀ k, v.ownBlock = some k → w.heap.size ≤ k := fun k hk => (World.ownsRow.lt OS.out k hk).1
 have HOB := Lib.hid hob
 clear HFN ho b5 zB cB0 cB1 ba hob
 go_wp2_with fail
 refine (HON.out 5 w5 (by decide) D.out).mono ?_
 rintro e w6 ⟨bq, rfl, d1, k1⟩
 replace D := Lib.hid d1
 replace K := Lib.hid (K.out.trans k1)
 replace OS := Lib.hid (OS.out.on k1 hgw)
 clear d1 k1
 cases bq
 ·go_wp2_with fail
  refine bodyPost_ret (v := .tuple #[.int .i64 (P : Int), v]) (by simp [results, Tryz.results85, go_sem]) rfl ?_
  exact ⟨(P : Int), v, L, rfl, OS.out, by omega, D.out, K.out⟩
 ·go_wp2_with fail
  refine (HST.out w6 D.out).mono ?_
  rintro e w7 ⟨kd, pt, s1, s2, s3, rfl, d1, k1⟩
  replace D := Lib.hid d1
  replace K := Lib.hid (K.out.trans k1)
  replace OS := Lib.hid (OS.out.on k1 hgw)
  clear d1 k1
  have ba := belAl w7 (.cells #[.int .i64 kd, .int .i64 pt, .int .i64 s1, .int .i64 s2, .int .i64 s3] 57)
  have bb := belAl (w7.alloc (.cells #[.int .i64 kd, .int .i64 pt, .int .i64 s1, .int .i64 s2, .int .i64 s3] 57)) (.cells #[.int .i64 kd, .int .i64 pt, .int .i64 s1, .int .i64 s2, .int .i64 s3] 57)
  have HLI := Lib.hid (litStep (w7.alloc (.cells #[.int .i64 kd, .int .i64 pt, .int .i64 s1, .int .i64 s2, .int .i64 s3] 57)) kd pt s1 s2 s3)
  have hs1 : (w7.alloc (.cells #[.int .i64 kd, .int .i64 pt, .int .i64 s1, .int .i64 s2, .int .i64 s3] 57)).heap.size = w7.heap.size + 1 := by simp
  have hbx : BoxSt (w7.alloc (.cells #[.int .i64 kd, .int .i64 pt, .int .i64 s1, .int .i64 s2, .int .i64 s3] 57)) w7.heap.size kd pt s1 s2 s3 := BoxSt.at rfl
  rw [hs1] at HLI
  have hz7 := K.out.size
  replace D := Lib.hid ((D.out.below ba).below bb)
  replace K := Lib.hid ((K.out.trans (Kept.of_below ba)).trans (Kept.of_below bb))
  replace OS := Lib.hid ((OS.out.below ba).below bb)
  have hz9 := K.out.size
  obtain ⟨hbz, y0, y1, y2, y3, y4⟩ := hbx
  clear ba bb
  go_wp2_with (at_builtin; refine appStepsAt rfl (.tmp 24) (.tmp 26) rfl rfl OS.out rfl HLI.out (by omega) (by omega) ?_; intro v8 w8 h8 k8 a8)
  refine bodyPost_ret (v := .tuple #[.int .i64 (P : Int), v8]) (by simp [results, Tryz.results85, go_sem]) rfl ?_
  exact ⟨(P : Int), v8, L ++ [(kd, pt, s1, s2, s3)], rfl, h8, by simp; omega, D.out.kept k8 (fun e => by have := HOB.out _ e.symm; omega) (fun b hb e => by have := HOB.out _ e.symm; omega), K.out.on k8 fun i hi e => by have := HOB.out _ e.symm; omega⟩

set_option maxHeartbeats 16000000 in
theorem specAppG (W : World) (p : Int) (a : Option Addr) (cap : Nat) (l : List BarT) (h : BarsAt W a l.length l) (hs : l.length ≤ 1048576) (hcap : l.length ≤ cap) (hcm : cap ≤ 9223372036854775807) (kd pt x y z : Int) (hbad : isGraphB (p, l) = false ∨ 21 < l.length) :
  Calls Tryz.prog 41 #[.agg #[.int .i64 p, .slice a l.length cap], .agg #[.int .i64 kd, .int .i64 pt, .int .i64 x, .int .i64 y, .int .i64 z]] W (RetGB W (stepF (p, l) (kd, pt, x, y, z)).1 (stepF (p, l) (kd, pt, x, y, z)).2) := by
 have HE := Lib.hid (show stepF (p, l) (kd, pt, x, y, z) = ((p, l), false) by unfold stepF; rcases hbad with h | h; (rw [h]; rfl); (rw [decide_eq_false (show ¬ (p, l).2.length ≤ 21 by dsimp only; omega), Bool.and_false]; rfl))
 have hwd := @Wd.cells
 have HGr : Hid (IsGraph W (.agg #[.int .i64 p, .slice a l.length cap]) (p, l)) := Lib.hid ⟨a, cap, rfl, h⟩
 have H1 := Lib.hid h
 clear h
 have hsz : szGraph (p, l) ≤ 1048576 := hs
 have hsz2 : szGraph (p, l) ≤ 1099511627776 := Nat.le_trans hsz (by decide)
 have B : Below W.heap.size W (W.alloc (.cells #[.int .i64 p, .slice a l.length cap] 26)) := (Below.refl _ _).alloc (Nat.le_refl _) _
 have BG : Hid (BoxGr (W.alloc (.cells #[.int .i64 p, .slice a l.length cap] 26)) W.heap.size p a l.length cap) := Lib.hid (BoxGr.at rfl)
 obtain ⟨hcap, hcm⟩ := And.intro hcap hcm
 have BS : Hid (BoxSt ((W.alloc (.cells #[.int .i64 p, .slice a l.length cap] 26)).alloc (.cells #[.int .i64 kd, .int .i64 pt, .int .i64 x, .int .i64 y, .int .i64 z] 57)) (W.heap.size + 1) kd pt x y z) := Lib.hid (BoxSt.at (by simp))
 have HZ : Hid (Zer2 (((W.alloc (.cells #[.int .i64 p, .slice a l.length cap] 26)).alloc (.cells #[.int .i64 kd, .int .i64 pt, .int .i64 x, .int .i64 y, .int .i64 z] 57)).alloc (.cells #[.int .i64 0, .slice none 0 0] 26)) (W.heap.size + 2)) := Lib.hid (by have := Zer2.at ((W.alloc (.cells #[.int .i64 p, .slice a l.length cap] 26)).alloc (.cells #[.int .i64 kd, .int .i64 pt, .int .i64 x, .int .i64 y, .int .i64 z] 57)) 26; rwa [World.size_alloc, World.size_alloc] at this)
 have ba := belAl (W.alloc (.cells #[.int .i64 p, .slice a l.length cap] 26)) (.cells #[.int .i64 kd, .int .i64 pt, .int .i64 x, .int .i64 y, .int .i64 z] 57)
 have bb := belAl ((W.alloc (.cells #[.int .i64 p, .slice a l.length cap] 26)).alloc (.cells #[.int .i64 kd, .int .i64 pt, .int .i64 x, .int .i64 y, .int .i64 z] 57)) (.cells #[.int .i64 0, .slice none 0 0] 26)
 have hz : W.heap.size + 3 ≤ (((W.alloc (.cells #[.int .i64 p, .slice a l.length cap] 26)).alloc (.cells #[.int .i64 kd, .int .i64 pt, .int .i64 x, .int .i64 y, .int .i64 z] 57)).alloc (.cells #[.int .i64 0, .slice none 0 0] 26)).heap.size := by simp
 replace B := (B.step ba).step bb
 replace BG := Lib.hid ((BG.out.below ba).below bb)
 replace BS := Lib.hid (BS.out.below bb)
 clear ba bb
 go_enter Tryz.func41, Tryz.ntmps41
 go_upto_region 1 with (fail)
 generalize (((W.alloc (.cells #[.int .i64 p, .slice a l.length cap] 26)).alloc (.cells #[.int .i64 kd, .int .i64 pt, .int .i64 x, .int .i64 y, .int .i64 z] 57)).alloc (.cells #[.int .i64 0, .slice none 0 0] 26)) = u at *
 obtain ⟨zBG, fBG0, fBG1⟩ := BG.out
 obtain ⟨zBS, fBS0, fBS1, fBS2, fBS3, fBS4⟩ := BS.out
 go_wp2_with fail
 clear zBG fBG0 fBG1 zBS fBS0 fBS1 fBS2 fBS3 fBS4
 refine (specIsGraph_at u p a cap l (H1.out.below B) (by omega)).mono ?_
 rintro e w1 ⟨rfl, b⟩
 have hz1 := b.size
 have hzu := hz
 replace B := B.step b
 replace BG := Lib.hid (BG.out.below b)
 replace BS := Lib.hid (BS.out.below b)
 replace HZ := Lib.hid (HZ.out.below b)
 clear b
 cases hg : isGraphB (p, l)
 ·skip
  clear hg hbad
  obtain ⟨zBG, fBG0, fBG1⟩ := BG.out
  obtain ⟨zBS, fBS0, fBS1, fBS2, fBS3, fBS4⟩ := BS.out
  go_wp2_with fail
  clear zBG fBG0 fBG1 zBS fBS0 fBS1 fBS2 fBS3 fBS4
  refine (specCpG_at _ p a cap l.length l (H1.out.below B) hs).mono ?_
  rintro e wc1 ⟨v1, rfl, o1, b⟩
  obtain ⟨vb, ⟨a1, c1, rfl, rfl⟩, ob⟩ := o1
  dsimp only at ob
  have hzc := b.size
  replace B := B.step b
  replace BG := Lib.hid (BG.out.below b)
  replace BS := Lib.hid (BS.out.below b)
  replace HZ := Lib.hid (HZ.out.below b)
  obtain ⟨⟨r0, r1, r2, c0, c1x⟩, ⟨y0, y1⟩, zg⟩ := HZ.out
  go_wp2_with fail
  refine bodyPost_ret (v := .tuple #[.agg #[.int .i64 p, .slice a1 l.length c1], .bool false]) (by simp [results, Tryz.results41, go_sem, zg, c0, c1x]) rfl ?_
  rw [HE.out]
  exact ⟨_, rfl, laid2 ob (by omega) (by omega) (by omega) B⟩
 have hl21 : 21 < l.length := by rcases hbad with h | h; (rw [hg] at h; cases h); exact h
 have hli : (l.length : Int) > 21 := by omega
 clear hg hbad
 obtain ⟨zBG, fBG0, fBG1⟩ := BG.out
 obtain ⟨zBS, fBS0, fBS1, fBS2, fBS3, fBS4⟩ := BS.out
 go_wp2_with fail
 clear zBG fBG0 fBG1 zBS fBS0 fBS1 fBS2 fBS3 fBS4
 refine (specCpG_at _ p a cap l.length l (H1.out.below B) hs).mono ?_
 rintro e wc1 ⟨v1, rfl, o1, b⟩
 obtain ⟨vb, ⟨a1, c1, rfl, rfl⟩, ob⟩ := o1
 dsimp only at ob
 have hzc := b.size
 replace B := B.step b
 replace BG := Lib.hid (BG.out.below b)
 replace BS := Lib.hid (BS.out.below b)
 replace HZ := Lib.hid (HZ.out.below b)
 obtain ⟨⟨r0, r1, r2, c0, c1x⟩, ⟨y0, y1⟩, zg⟩ := HZ.out
 go_wp2_with fail
 refine bodyPost_ret (v := .tuple #[.agg #[.int .i64 p, .slice a1 l.length c1], .bool false]) (by simp [results, Tryz.results41, go_sem, zg, c0, c1x]) rfl ?_
 rw [HE.out]
 exact ⟨_, rfl, laid2 ob (by omega) (by omega) (by omega) B⟩
set_option maxHeartbeats 16000000 in
theorem specApp0 (W : World) (p : Int) (a : Option Addr) (cap : Nat) (l : List BarT) (h : BarsAt W a l.length l) (hs : l.length ≤ 1048576) (hcap : l.length ≤ cap) (hcm : cap ≤ 9223372036854775807) (kd pt x y z : Int) (hg : isGraphB (p, l) = true) (hl21 : l.length ≤ 21) (k0 : (kd == 0) = true) (k1 : (kd == 1) = false) (k2 : (kd == 2) = false) :
  Calls Tryz.prog 41 #[.agg #[.int .i64 p, .slice a l.length cap], .agg #[.int .i64 kd, .int .i64 pt, .int .i64 x, .int .i64 y, .int .i64 z]] W (RetGB W (stepF (p, l) (kd, pt, x, y, z)).1 (stepF (p, l) (kd, pt, x, y, z)).2) := by
 have hwd := @Wd.cells
 have HGr : Hid (IsGraph W (.agg #[.int .i64 p, .slice a l.length cap]) (p, l)) := Lib.hid ⟨a, cap, rfl, h⟩
 have H1 := Lib.hid h
 clear h
 have hsz : szGraph (p, l) ≤ 1048576 := hs
 have hsz2 : szGraph (p, l) ≤ 1099511627776 := Nat.le_trans hsz (by decide)
 have B : Below W.heap.size W (W.alloc (.cells #[.int .i64 p, .slice a l.length cap] 26)) := (Below.refl _ _).alloc (Nat.le_refl _) _
 have BG : Hid (BoxGr (W.alloc (.cells #[.int .i64 p, .slice a l.length cap] 26)) W.heap.size p a l.length cap) := Lib.hid (BoxGr.at rfl)
 obtain ⟨hcap, hcm⟩ := And.intro hcap hcm
 have BS : Hid (BoxSt ((W.alloc (.cells #[.int .i64 p, .slice a l.length cap] 26)).alloc (.cells #[.int .i64 kd, .int .i64 pt, .int .i64 x, .int .i64 y, .int .i64 z] 57)) (W.heap.size + 1) kd pt x y z) := Lib.hid (BoxSt.at (by simp))
 have HZ : Hid (Zer2 (((W.alloc (.cells #[.int .i64 p, .slice a l.length cap] 26)).alloc (.cells #[.int .i64 kd, .int .i64 pt, .int .i64 x, .int .i64 y, .int .i64 z] 57)).alloc (.cells #[.int .i64 0, .slice none 0 0] 26)) (W.heap.size + 2)) := Lib.hid (by have := Zer2.at ((W.alloc (.cells #[.int .i64 p, .slice a l.length cap] 26)).alloc (.cells #[.int .i64 kd, .int .i64 pt, .int .i64 x, .int .i64 y, .int .i64 z] 57)) 26; rwa [World.size_alloc, World.size_alloc] at this)
 have ba := belAl (W.alloc (.cells #[.int .i64 p, .slice a l.length cap] 26)) (.cells #[.int .i64 kd, .int .i64 pt, .int .i64 x, .int .i64 y, .int .i64 z] 57)
 have bb := belAl ((W.alloc (.cells #[.int .i64 p, .slice a l.length cap] 26)).alloc (.cells #[.int .i64 kd, .int .i64 pt, .int .i64 x, .int .i64 y, .int .i64 z] 57)) (.cells #[.int .i64 0, .slice none 0 0] 26)
 have hz : W.heap.size + 3 ≤ (((W.alloc (.cells #[.int .i64 p, .slice a l.length cap] 26)).alloc (.cells #[.int .i64 kd, .int .i64 pt, .int .i64 x, .int .i64 y, .int .i64 z] 57)).alloc (.cells #[.int .i64 0, .slice none 0 0] 26)).heap.size := by simp
 replace B := (B.step ba).step bb
 replace BG := Lib.hid ((BG.out.below ba).below bb)
 replace BS := Lib.hid (BS.out.below bb)
 clear ba bb
 go_enter Tryz.func41, Tryz.ntmps41
 go_upto_region 1 with (fail)
 generalize (((W.alloc (.cells #[.int .i64 p, .slice a l.length cap] 26)).alloc (.cells #[.int .i64 kd, .int .i64 pt, .int .i64 x, .int .i64 y, .int .i64 z] 57)).alloc (.cells #[.int .i64 0, .slice none 0 0] 26)) = u at *
 obtain ⟨zBG, fBG0, fBG1⟩ := BG.out
 obtain ⟨zBS, fBS0, fBS1, fBS2, fBS3, fBS4⟩ := BS.out
 go_wp2_with fail
 clear zBG fBG0 fBG1 zBS fBS0 fBS1 fBS2 fBS3 fBS4
 refine (specIsGraph_at u p a cap l (H1.out.below B) (by omega)).mono ?_
 rintro e w1 ⟨rfl, b⟩
 have hz1 := b.size
 have hzu := hz
 replace B := B.step b
 replace BG := Lib.hid (BG.out.below b)
 replace BS := Lib.hid (BS.out.below b)
 replace HZ := Lib.hid (HZ.out.below b)
 clear b
 rw [hg]
 have HG := Lib.hid hg
 have hli : ¬ (l.length : Int) > 21 := by omega
 have hpb := (isGraphB_bd hg).1
 have HS : Hid (stepF (p, l) (kd, pt, x, y, z) = if cnd0 p l kd pt x y z then ((p, putsL l [barM x y]), true) else if cnd1 p l kd pt x y z then ((p, putsL l [barM pt x, barM pt y]), true) else if cnd2 p l kd pt x y z then ((p, putsL (cutG l (idxB l (barM x y)).toNat) [barM pt x, barM pt y, barM pt z]), true) else ((p, l), false)) := Lib.hid (by unfold stepF; rw [hg, decide_eq_true (show (p, l).2.length ≤ 21 from hl21)]; rfl)
 have hor := Lib.hid (isGraphB_ord hg)
 clear hg
 have e1 : cnd1 p l kd pt x y z = false := by unfold cnd1; rw [k1]; simp
 have e2 : cnd2 p l kd pt x y z = false := by unfold cnd2; rw [k2]; simp
 obtain ⟨zBG, fBG0, fBG1⟩ := BG.out
 obtain ⟨zBS, fBS0, fBS1, fBS2, fBS3, fBS4⟩ := BS.out
 go_upto_region 3 with (fail)
 clear zBG fBG0 fBG1 zBS fBS0 fBS1 fBS2 fBS3 fBS4
 obtain ⟨wo, hwo⟩ : ∃ wo, wo = w1 := ⟨_, rfl⟩
 subst hwo
 go_cut [20] (fun s wx => s = .bool (cnd0 p l kd pt x y z) ∧ Below wo.heap.size wo wx)
 case first =>
  obtain ⟨zBG, fBG0, fBG1⟩ := BG.out
  obtain ⟨zBS, fBS0, fBS1, fBS2, fBS3, fBS4⟩ := BS.out
  cases h2 : (pt == 0)
  ·skip
   have HC := Lib.hid (show cnd0 p l kd pt x y z = false by unfold cnd0; rw [k0, h2]; simp)
   go_wp2_with fail
   go_meet
   exact ⟨by rw [HC.out], Below.refl _ _⟩
  cases h3 : (z == 0)
  ·skip
   have HC := Lib.hid (show cnd0 p l kd pt x y z = false by unfold cnd0; rw [k0, h2, h3]; simp)
   go_wp2_with fail
   go_meet
   exact ⟨by rw [HC.out], Below.refl _ _⟩
  cases h4 : ((l.length : Int) == 0)
  ·skip
   have HC := Lib.hid (show cnd0 p l kd pt x y z = false by unfold cnd0; rw [k0, h2, h3, h4]; simp)
   go_wp2_with fail
   go_meet
   exact ⟨by rw [HC.out], Below.refl _ _⟩
  have bl := belAl wo (.cells #[.int .i64 x, .int .i64 y] 3)
  have HI : Hid (IntsAt (wo.alloc (.cells #[.int .i64 x, .int .i64 y] 3)) (some ⟨wo.heap.size, 0, none⟩) 2 [x, y]) := Lib.hid (litInts [x, y] rfl (by decide))
  go_wp2_with fail
  clear zBG fBG0 fBG1 zBS fBS0 fBS1 fBS2 fBS3 fBS4
  refine (l7Points_at _ p a cap l (H1.out.below (B.step bl)) hs (some ⟨wo.heap.size, 0, none⟩) 2 [x, y] HI.out (by decide) hpb).mono ?_
  rintro e w5 ⟨rfl, b⟩
  have b5 := bl.step b
  clear b bl HI
  replace B := B.step b5
  replace BG := Lib.hid (BG.out.below b5)
  replace BS := Lib.hid (BS.out.below b5)
  obtain ⟨zBG, fBG0, fBG1⟩ := BG.out
  obtain ⟨zBS, fBS0, fBS1, fBS2, fBS3, fBS4⟩ := BS.out
  cases hd : difB p [x, y]
  ·skip
   have HC := Lib.hid (show cnd0 p l kd pt x y z = false by unfold cnd0; rw [k0, h2, h3, h4, hd]; simp)
   go_wp2_with fail
   go_meet
   exact ⟨by rw [HC.out], b5⟩
  have HC := Lib.hid (show cnd0 p l kd pt x y z = true by unfold cnd0; rw [k0, h2, h3, h4, hd]; rfl)
  go_wp2_with fail
  go_meet
  exact ⟨by rw [HC.out], b5⟩
 case rest =>
  obtain ⟨rfl, b⟩ := hcut
  have hz_w2 := b.size
  replace B := B.step b
  replace BG := Lib.hid (BG.out.below b)
  replace BS := Lib.hid (BS.out.below b)
  replace HZ := Lib.hid (HZ.out.below b)
  clear b
  obtain ⟨w2, hwe⟩ : ∃ we, we = wc := ⟨_, rfl⟩
  subst hwe
  cases hc0 : cnd0 p l kd pt x y z
  rotate_left
  ·skip
   have HE := Lib.hid (show stepF (p, l) (kd, pt, x, y, z) = ((p, putsL l [barM x y]), true) by rw [HS.out, if_pos hc0])
   obtain ⟨zBG, fBG0, fBG1⟩ := BG.out
   obtain ⟨zBS, fBS0, fBS1, fBS2, fBS3, fBS4⟩ := BS.out
   go_wp2_with fail
   clear zBG fBG0 fBG1 zBS fBS0 fBS1 fBS2 fBS3 fBS4
   refine (l2Put_at _ p a cap l (H1.out.below B) hs (min x y) (max x y)).mono ?_
   rintro e wf ⟨v1, rfl, o1, b⟩
   obtain ⟨vb, ⟨a1, c1, rfl, rfl⟩, ob⟩ := o1
   dsimp only at ob
   have hzf := b.size
   replace B := B.step b
   replace BG := Lib.hid (BG.out.below b)
   replace BS := Lib.hid (BS.out.below b)
   replace HZ := Lib.hid (HZ.out.below b)
   obtain ⟨⟨r0, r1, r2, c0, c1x⟩, ⟨y0, y1⟩, zg⟩ := HZ.out
   go_wp2_with fail
   refine bodyPost_ret (v := .tuple #[.agg #[.int .i64 p, .slice a1 (putL l (min x y, max x y)).length c1], .bool true]) (by simp [results, Tryz.results41, go_sem, zg, c0, c1x]) rfl ?_
   rw [HE.out]
   exact ⟨_, rfl, laid2 ob (by omega) (by omega) (by omega) B⟩
  have HE := Lib.hid (show stepF (p, l) (kd, pt, x, y, z) = ((p, l), false) by rw [HS.out, hc0, e1, e2]; rfl)
  clear hc0
  go_upto_region 5 with (fail)
  obtain ⟨wo, hwo⟩ : ∃ wo, wo = w2 := ⟨_, rfl⟩
  subst hwo
  go_cut [62] (fun s wx => s = .bool (cnd1 p l kd pt x y z) ∧ Below wo.heap.size wo wx)
  case first =>
   obtain ⟨zBG, fBG0, fBG1⟩ := BG.out
   obtain ⟨zBS, fBS0, fBS1, fBS2, fBS3, fBS4⟩ := BS.out
   have HC := Lib.hid (show cnd1 p l kd pt x y z = false by unfold cnd1; rw [k1]; simp)
   go_wp2_with fail
   go_meet
   exact ⟨by rw [HC.out], Below.refl _ _⟩
  case rest =>
   obtain ⟨rfl, b⟩ := hcut
   have hz_w3 := b.size
   replace B := B.step b
   replace BG := Lib.hid (BG.out.below b)
   replace BS := Lib.hid (BS.out.below b)
   replace HZ := Lib.hid (HZ.out.below b)
   clear b
   obtain ⟨w3, hwe⟩ : ∃ we, we = wc := ⟨_, rfl⟩
   subst hwe
   rw [e1]
   go_upto_region 8 with (fail)
   obtain ⟨wo, hwo⟩ : ∃ wo, wo = w3 := ⟨_, rfl⟩
   subst hwo
   go_cut [127] (fun s wx => s = .bool (cnd2 p l kd pt x y z) ∧ Below wo.heap.size wo wx)
   case first =>
    obtain ⟨zBG, fBG0, fBG1⟩ := BG.out
    obtain ⟨zBS, fBS0, fBS1, fBS2, fBS3, fBS4⟩ := BS.out
    have HC := Lib.hid (show cnd2 p l kd pt x y z = false by unfold cnd2; rw [k2]; simp)
    go_wp2_with fail
    go_meet
    exact ⟨by rw [HC.out], Below.refl _ _⟩
   case rest =>
    obtain ⟨rfl, b⟩ := hcut
    have hz_w4 := b.size
    replace B := B.step b
    replace BG := Lib.hid (BG.out.below b)
    replace BS := Lib.hid (BS.out.below b)
    replace HZ := Lib.hid (HZ.out.below b)
    clear b
    obtain ⟨w4, hwe⟩ : ∃ we, we = wc := ⟨_, rfl⟩
    subst hwe
    rw [e2]
    obtain ⟨zBG, fBG0, fBG1⟩ := BG.out
    obtain ⟨zBS, fBS0, fBS1, fBS2, fBS3, fBS4⟩ := BS.out
    go_wp2_with fail
    clear zBG fBG0 fBG1 zBS fBS0 fBS1 fBS2 fBS3 fBS4
    refine (specCpG_at _ p a cap l.length l (H1.out.below B) hs).mono ?_
    rintro e wc1 ⟨v1, rfl, o1, b⟩
    obtain ⟨vb, ⟨a1, c1, rfl, rfl⟩, ob⟩ := o1
    dsimp only at ob
    have hzc := b.size
    replace B := B.step b
    replace BG := Lib.hid (BG.out.below b)
    replace BS := Lib.hid (BS.out.below b)
    replace HZ := Lib.hid (HZ.out.below b)
    obtain ⟨⟨r0, r1, r2, c0, c1x⟩, ⟨y0, y1⟩, zg⟩ := HZ.out
    go_wp2_with fail
    refine bodyPost_ret (v := .tuple #[.agg #[.int .i64 p, .slice a1 l.length c1], .bool false]) (by simp [results, Tryz.results41, go_sem, zg, c0, c1x]) rfl ?_
    rw [HE.out]
    exact ⟨_, rfl, laid2 ob (by omega) (by omega) (by omega) B⟩
set_option maxHeartbeats 16000000 in
theorem specApp3 (W : World) (p : Int) (a : Option Addr) (cap : Nat) (l : List BarT) (h : BarsAt W a l.length l) (hs : l.length ≤ 1048576) (hcap : l.length ≤ cap) (hcm : cap ≤ 9223372036854775807) (kd pt x y z : Int) (hg : isGraphB (p, l) = true) (hl21 : l.length ≤ 21) (k0 : (kd == 0) = false) (k1 : (kd == 1) = false) (k2 : (kd == 2) = false) :
  Calls Tryz.prog 41 #[.agg #[.int .i64 p, .slice a l.length cap], .agg #[.int .i64 kd, .int .i64 pt, .int .i64 x, .int .i64 y, .int .i64 z]] W (RetGB W (stepF (p, l) (kd, pt, x, y, z)).1 (stepF (p, l) (kd, pt, x, y, z)).2) := by
 have hwd := @Wd.cells
 have HGr : Hid (IsGraph W (.agg #[.int .i64 p, .slice a l.length cap]) (p, l)) := Lib.hid ⟨a, cap, rfl, h⟩
 have H1 := Lib.hid h
 clear h
 have hsz : szGraph (p, l) ≤ 1048576 := hs
 have hsz2 : szGraph (p, l) ≤ 1099511627776 := Nat.le_trans hsz (by decide)
 have B : Below W.heap.size W (W.alloc (.cells #[.int .i64 p, .slice a l.length cap] 26)) := (Below.refl _ _).alloc (Nat.le_refl _) _
 have BG : Hid (BoxGr (W.alloc (.cells #[.int .i64 p, .slice a l.length cap] 26)) W.heap.size p a l.length cap) := Lib.hid (BoxGr.at rfl)
 obtain ⟨hcap, hcm⟩ := And.intro hcap hcm
 have BS : Hid (BoxSt ((W.alloc (.cells #[.int .i64 p, .slice a l.length cap] 26)).alloc (.cells #[.int .i64 kd, .int .i64 pt, .int .i64 x, .int .i64 y, .int .i64 z] 57)) (W.heap.size + 1) kd pt x y z) := Lib.hid (BoxSt.at (by simp))
 have HZ : Hid (Zer2 (((W.alloc (.cells #[.int .i64 p, .slice a l.length cap] 26)).alloc (.cells #[.int .i64 kd, .int .i64 pt, .int .i64 x, .int .i64 y, .int .i64 z] 57)).alloc (.cells #[.int .i64 0, .slice none 0 0] 26)) (W.heap.size + 2)) := Lib.hid (by have := Zer2.at ((W.alloc (.cells #[.int .i64 p, .slice a l.length cap] 26)).alloc (.cells #[.int .i64 kd, .int .i64 pt, .int .i64 x, .int .i64 y, .int .i64 z] 57)) 26; rwa [World.size_alloc, World.size_alloc] at this)
 have ba := belAl (W.alloc (.cells #[.int .i64 p, .slice a l.length cap] 26)) (.cells #[.int .i64 kd, .int .i64 pt, .int .i64 x, .int .i64 y, .int .i64 z] 57)
 have bb := belAl ((W.alloc (.cells #[.int .i64 p, .slice a l.length cap] 26)).alloc (.cells #[.int .i64 kd, .int .i64 pt, .int .i64 x, .int .i64 y, .int .i64 z] 57)) (.cells #[.int .i64 0, .slice none 0 0] 26)
 have hz : W.heap.size + 3 ≤ (((W.alloc (.cells #[.int .i64 p, .slice a l.length cap] 26)).alloc (.cells #[.int .i64 kd, .int .i64 pt, .int .i64 x, .int .i64 y, .int .i64 z] 57)).alloc (.cells #[.int .i64 0, .slice none 0 0] 26)).heap.size := by simp
 replace B := (B.step ba).step bb
 replace BG := Lib.hid ((BG.out.below ba).below bb)
 replace BS := Lib.hid (BS.out.below bb)
 clear ba bb
 go_enter Tryz.func41, Tryz.ntmps41
 go_upto_region 1 with (fail)
 generalize (((W.alloc (.cells #[.int .i64 p, .slice a l.length cap] 26)).alloc (.cells #[.int .i64 kd, .int .i64 pt, .int .i64 x, .int .i64 y, .int .i64 z] 57)).alloc (.cells #[.int .i64 0, .slice none 0 0] 26)) = u at *
 obtain ⟨zBG, fBG0, fBG1⟩ := BG.out
 obtain ⟨zBS, fBS0, fBS1, fBS2, fBS3, fBS4⟩ := BS.out
 go_wp2_with fail
 clear zBG fBG0 fBG1 zBS fBS0 fBS1 fBS2 fBS3 fBS4
 refine (specIsGraph_at u p a cap l (H1.out.below B) (by omega)).mono ?_
 rintro e w1 ⟨rfl, b⟩
 have hz1 := b.size
 have hzu := hz
 replace B := B.step b
 replace BG := Lib.hid (BG.out.below b)
 replace BS := Lib.hid (BS.out.below b)
 replace HZ := Lib.hid (HZ.out.below b)
 clear b
 rw [hg]
 have HG := Lib.hid hg
 have hli : ¬ (l.length : Int) > 21 := by omega
 have hpb := (isGraphB_bd hg).1
 have HS : Hid (stepF (p, l) (kd, pt, x, y, z) = if cnd0 p l kd pt x y z then ((p, putsL l [barM x y]), true) else if cnd1 p l kd pt x y z then ((p, putsL l [barM pt x, barM pt y]), true) else if cnd2 p l kd pt x y z then ((p, putsL (cutG l (idxB l (barM x y)).toNat) [barM pt x, barM pt y, barM pt z]), true) else ((p, l), false)) := Lib.hid (by unfold stepF; rw [hg, decide_eq_true (show (p, l).2.length ≤ 21 from hl21)]; rfl)
 have hor := Lib.hid (isGraphB_ord hg)
 clear hg
 have e0 : cnd0 p l kd pt x y z = false := by unfold cnd0; rw [k0]; simp
 have e1 : cnd1 p l kd pt x y z = false := by unfold cnd1; rw [k1]; simp
 have e2 : cnd2 p l kd pt x y z = false := by unfold cnd2; rw [k2]; simp
 obtain ⟨zBG, fBG0, fBG1⟩ := BG.out
 obtain ⟨zBS, fBS0, fBS1, fBS2, fBS3, fBS4⟩ := BS.out
 go_upto_region 3 with (fail)
 clear zBG fBG0 fBG1 zBS fBS0 fBS1 fBS2 fBS3 fBS4
 obtain ⟨wo, hwo⟩ : ∃ wo, wo = w1 := ⟨_, rfl⟩
 subst hwo
 go_cut [20] (fun s wx => s = .bool (cnd0 p l kd pt x y z) ∧ Below wo.heap.size wo wx)
 case first =>
  obtain ⟨zBG, fBG0, fBG1⟩ := BG.out
  obtain ⟨zBS, fBS0, fBS1, fBS2, fBS3, fBS4⟩ := BS.out
  have HC := Lib.hid (show cnd0 p l kd pt x y z = false by unfold cnd0; rw [k0]; simp)
  go_wp2_with fail
  go_meet
  exact ⟨by rw [HC.out], Below.refl _ _⟩
 case rest =>
  obtain ⟨rfl, b⟩ := hcut
  have hz_w2 := b.size
  replace B := B.step b
  replace BG := Lib.hid (BG.out.below b)
  replace BS := Lib.hid (BS.out.below b)
  replace HZ := Lib.hid (HZ.out.below b)
  clear b
  obtain ⟨w2, hwe⟩ : ∃ we, we = wc := ⟨_, rfl⟩
  subst hwe
  rw [e0]
  go_upto_region 5 with (fail)
  obtain ⟨wo, hwo⟩ : ∃ wo, wo = w2 := ⟨_, rfl⟩
  subst hwo
  go_cut [62] (fun s wx => s = .bool (cnd1 p l kd pt x y z) ∧ Below wo.heap.size wo wx)
  case first =>
   obtain ⟨zBG, fBG0, fBG1⟩ := BG.out
   obtain ⟨zBS, fBS0, fBS1, fBS2, fBS3, fBS4⟩ := BS.out
   have HC := Lib.hid (show cnd1 p l kd pt x y z = false by unfold cnd1; rw [k1]; simp)
   go_wp2_with fail
   go_meet
   exact ⟨by rw [HC.out], Below.refl _ _⟩
  case rest =>
   obtain ⟨rfl, b⟩ := hcut
   have hz_w3 := b.size
   replace B := B.step b
   replace BG := Lib.hid (BG.out.below b)
   replace BS := Lib.hid (BS.out.below b)
   replace HZ := Lib.hid (HZ.out.below b)
   clear b
   obtain ⟨w3, hwe⟩ : ∃ we, we = wc := ⟨_, rfl⟩
   subst hwe
   rw [e1]
   go_upto_region 8 with (fail)
   obtain ⟨wo, hwo⟩ : ∃ wo, wo = w3 := ⟨_, rfl⟩
   subst hwo
   go_cut [127] (fun s wx => s = .bool (cnd2 p l kd pt x y z) ∧ Below wo.heap.size wo wx)
   case first =>
    obtain ⟨zBG, fBG0, fBG1⟩ := BG.out
    obtain ⟨zBS, fBS0, fBS1, fBS2, fBS3, fBS4⟩ := BS.out
    have HC := Lib.hid (show cnd2 p l kd pt x y z = false by unfold cnd2; rw [k2]; simp)
    go_wp2_with fail
    go_meet
    exact ⟨by rw [HC.out], Below.refl _ _⟩
   case rest =>
    obtain ⟨rfl, b⟩ := hcut
    have hz_w4 := b.size
    replace B := B.step b
    replace BG := Lib.hid (BG.out.below b)
    replace BS := Lib.hid (BS.out.below b)
    replace HZ := Lib.hid (HZ.out.below b)
    clear b
    obtain ⟨w4, hwe⟩ : ∃ we, we = wc := ⟨_, rfl⟩
    subst hwe
    have HE := Lib.hid (show stepF (p, l) (kd, pt, x, y, z) = ((p, l), false) by rw [HS.out, e0, e1, e2]; rfl)
    rw [e2]
    obtain ⟨zBG, fBG0, fBG1⟩ := BG.out
    obtain ⟨zBS, fBS0, fBS1, fBS2, fBS3, fBS4⟩ := BS.out
    go_wp2_with fail
    clear zBG fBG0 fBG1 zBS fBS0 fBS1 fBS2 fBS3 fBS4
    refine (specCpG_at _ p a cap l.length l (H1.out.below B) hs).mono ?_
    rintro e wc1 ⟨v1, rfl, o1, b⟩
    obtain ⟨vb, ⟨a1, c1, rfl, rfl⟩, ob⟩ := o1
    dsimp only at ob
    have hzc := b.size
    replace B := B.step b
    replace BG := Lib.hid (BG.out.below b)
    replace BS := Lib.hid (BS.out.below b)
    replace HZ := Lib.hid (HZ.out.below b)
    obtain ⟨⟨r0, r1, r2, c0, c1x⟩, ⟨y0, y1⟩, zg⟩ := HZ.out
    go_wp2_with fail
    refine bodyPost_ret (v := .tuple #[.agg #[.int .i64 p, .slice a1 l.length c1], .bool false]) (by simp [results, Tryz.results41, go_sem, zg, c0, c1x]) rfl ?_
    rw [HE.out]
    exact ⟨_, rfl, laid2 ob (by omega) (by omega) (by omega) B⟩

set_option maxHeartbeats 16000000 in
theorem specApp1 (W : World) (p : Int) (a : Option Addr) (cap : Nat) (l : List BarT) (h : BarsAt W a l.length l) (hs : l.length ≤ 1048576) (hcap : l.length ≤ cap) (hcm : cap ≤ 9223372036854775807) (kd pt x y z : Int) (hg : isGraphB (p, l) = true) (hl21 : l.length ≤ 21) (k0 : (kd == 0) = false) (k1 : (kd == 1) = true) (k2 : (kd == 2) = false) :
  Calls Tryz.prog 41 #[.agg #[.int .i64 p, .slice a l.length cap], .agg #[.int .i64 kd, .int .i64 pt, .int .i64 x, .int .i64 y, .int .i64 z]] W (RetGB W (stepF (p, l) (kd, pt, x, y, z)).1 (stepF (p, l) (kd, pt, x, y, z)).2) := by
 have hwd := @Wd.cells
 have HGr : Hid (IsGraph W (.agg #[.int .i64 p, .slice a l.length cap]) (p, l)) := Lib.hid ⟨a, cap, rfl, h⟩
 have H1 := Lib.hid h
 clear h
 have hsz : szGraph (p, l) ≤ 1048576 := hs
 have hsz2 : szGraph (p, l) ≤ 1099511627776 := Nat.le_trans hsz (by decide)
 have B : Below W.heap.size W (W.alloc (.cells #[.int .i64 p, .slice a l.length cap] 26)) := (Below.refl _ _).alloc (Nat.le_refl _) _
 have BG : Hid (BoxGr (W.alloc (.cells #[.int .i64 p, .slice a l.length cap] 26)) W.heap.size p a l.length cap) := Lib.hid (BoxGr.at rfl)
 obtain ⟨hcap, hcm⟩ := And.intro hcap hcm
 have BS : Hid (BoxSt ((W.alloc (.cells #[.int .i64 p, .slice a l.length cap] 26)).alloc (.cells #[.int .i64 kd, .int .i64 pt, .int .i64 x, .int .i64 y, .int .i64 z] 57)) (W.heap.size + 1) kd pt x y z) := Lib.hid (BoxSt.at (by simp))
 have HZ : Hid (Zer2 (((W.alloc (.cells #[.int .i64 p, .slice a l.length cap] 26)).alloc (.cells #[.int .i64 kd, .int .i64 pt, .int .i64 x, .int .i64 y, .int .i64 z] 57)).alloc (.cells #[.int .i64 0, .slice none 0 0] 26)) (W.heap.size + 2)) := Lib.hid (by have := Zer2.at ((W.alloc (.cells #[.int .i64 p, .slice a l.length cap] 26)).alloc (.cells #[.int .i64 kd, .int .i64 pt, .int .i64 x, .int .i64 y, .int .i64 z] 57)) 26; rwa [World.size_alloc, World.size_alloc] at this)
 have ba := belAl (W.alloc (.cells #[.int .i64 p, .slice a l.length cap] 26)) (.cells #[.int .i64 kd, .int .i64 pt, .int .i64 x, .int .i64 y, .int .i64 z] 57)
 have bb := belAl ((W.alloc (.cells #[.int .i64 p, .slice a l.length cap] 26)).alloc (.cells #[.int .i64 kd, .int .i64 pt, .int .i64 x, .int .i64 y, .int .i64 z] 57)) (.cells #[.int .i64 0, .slice none 0 0] 26)
 have hz : W.heap.size + 3 ≤ (((W.alloc (.cells #[.int .i64 p, .slice a l.length cap] 26)).alloc (.cells #[.int .i64 kd, .int .i64 pt, .int .i64 x, .int .i64 y, .int .i64 z] 57)).alloc (.cells #[.int .i64 0, .slice none 0 0] 26)).heap.size := by simp
 replace B := (B.step ba).step bb
 replace BG := Lib.hid ((BG.out.below ba).below bb)
 replace BS := Lib.hid (BS.out.below bb)
 clear ba bb
 go_enter Tryz.func41, Tryz.ntmps41
 go_upto_region 1 with (fail)
 generalize (((W.alloc (.cells #[.int .i64 p, .slice a l.length cap] 26)).alloc (.cells #[.int .i64 kd, .int .i64 pt, .int .i64 x, .int .i64 y, .int .i64 z] 57)).alloc (.cells #[.int .i64 0, .slice none 0 0] 26)) = u at *
 obtain ⟨zBG, fBG0, fBG1⟩ := BG.out
 obtain ⟨zBS, fBS0, fBS1, fBS2, fBS3, fBS4⟩ := BS.out
 go_wp2_with fail
 clear zBG fBG0 fBG1 zBS fBS0 fBS1 fBS2 fBS3 fBS4
 refine (specIsGraph_at u p a cap l (H1.out.below B) (by omega)).mono ?_
 rintro e w1 ⟨rfl, b⟩
 have hz1 := b.size
 have hzu := hz
 replace B := B.step b
 replace BG := Lib.hid (BG.out.below b)
 replace BS := Lib.hid (BS.out.below b)
 replace HZ := Lib.hid (HZ.out.below b)
 clear b
 rw [hg]
 have HG := Lib.hid hg
 have hli : ¬ (l.length : Int) > 21 := by omega
 have hpb := (isGraphB_bd hg).1
 have HS : Hid (stepF (p, l) (kd, pt, x, y, z) = if cnd0 p l kd pt x y z then ((p, putsL l [barM x y]), true) else if cnd1 p l kd pt x y z then ((p, putsL l [barM pt x, barM pt y]), true) else if cnd2 p l kd pt x y z then ((p, putsL (cutG l (idxB l (barM x y)).toNat) [barM pt x, barM pt y, barM pt z]), true) else ((p, l), false)) := Lib.hid (by unfold stepF; rw [hg, decide_eq_true (show (p, l).2.length ≤ 21 from hl21)]; rfl)
 have hor := Lib.hid (isGraphB_ord hg)
 clear hg
 have e0 : cnd0 p l kd pt x y z = false := by unfold cnd0; rw [k0]; simp
 have e2 : cnd2 p l kd pt x y z = false := by unfold cnd2; rw [k2]; simp
 obtain ⟨zBG, fBG0, fBG1⟩ := BG.out
 obtain ⟨zBS, fBS0, fBS1, fBS2, fBS3, fBS4⟩ := BS.out
 go_upto_region 3 with (fail)
 clear zBG fBG0 fBG1 zBS fBS0 fBS1 fBS2 fBS3 fBS4
 obtain ⟨wo, hwo⟩ : ∃ wo, wo = w1 := ⟨_, rfl⟩
 subst hwo
 go_cut [20] (fun s wx => s = .bool (cnd0 p l kd pt x y z) ∧ Below wo.heap.size wo wx)
 case first =>
  obtain ⟨zBG, fBG0, fBG1⟩ := BG.out
  obtain ⟨zBS, fBS0, fBS1, fBS2, fBS3, fBS4⟩ := BS.out
  have HC := Lib.hid (show cnd0 p l kd pt x y z = false by unfold cnd0; rw [k0]; simp)
  go_wp2_with fail
  go_meet
  exact ⟨by rw [HC.out], Below.refl _ _⟩
 case rest =>
  obtain ⟨rfl, b⟩ := hcut
  have hz_w2 := b.size
  replace B := B.step b
  replace BG := Lib.hid (BG.out.below b)
  replace BS := Lib.hid (BS.out.below b)
  replace HZ := Lib.hid (HZ.out.below b)
  clear b
  obtain ⟨w2, hwe⟩ : ∃ we, we = wc := ⟨_, rfl⟩
  subst hwe
  rw [e0]
  go_upto_region 5 with (fail)
  obtain ⟨wo, hwo⟩ : ∃ wo, wo = w2 := ⟨_, rfl⟩
  subst hwo
  go_cut [62] (fun s wx => s = .bool (cnd1 p l kd pt x y z) ∧ Below wo.heap.size wo wx)
  case first =>
   obtain ⟨zBG, fBG0, fBG1⟩ := BG.out
   obtain ⟨zBS, fBS0, fBS1, fBS2, fBS3, fBS4⟩ := BS.out
   cases h2 : (z == 0)
   ·skip
    have HC := Lib.hid (show cnd1 p l kd pt x y z = false by unfold cnd1; rw [k1, h2]; simp)
    go_wp2_with fail
    go_meet
    exact ⟨by rw [HC.out], Below.refl _ _⟩
   have bl := belAl wo (.cells #[.int .i64 pt, .int .i64 x, .int .i64 y] 3)
   have HI : Hid (IntsAt (wo.alloc (.cells #[.int .i64 pt, .int .i64 x, .int .i64 y] 3)) (some ⟨wo.heap.size, 0, none⟩) 3 [pt, x, y]) := Lib.hid (litInts [pt, x, y] rfl (by decide))
   go_wp2_with fail
   clear zBG fBG0 fBG1 zBS fBS0 fBS1 fBS2 fBS3 fBS4
   refine (l7Points_at _ p a cap l (H1.out.below (B.step bl)) hs (some ⟨wo.heap.size, 0, none⟩) 3 [pt, x, y] HI.out (by decide) hpb).mono ?_
   rintro e w5 ⟨rfl, b⟩
   have b5 := bl.step b
   clear b bl HI
   replace B := B.step b5
   replace BG := Lib.hid (BG.out.below b5)
   replace BS := Lib.hid (BS.out.below b5)
   obtain ⟨zBG, fBG0, fBG1⟩ := BG.out
   obtain ⟨zBS, fBS0, fBS1, fBS2, fBS3, fBS4⟩ := BS.out
   cases hd : difB p [pt, x, y]
   ·skip
    have HC := Lib.hid (show cnd1 p l kd pt x y z = false by unfold cnd1; rw [k1, h2, hd]; simp)
    go_wp2_with fail
    go_meet
    exact ⟨by rw [HC.out], b5⟩
   go_wp2_with fail
   clear zBG fBG0 fBG1 zBS fBS0 fBS1 fBS2 fBS3 fBS4
   refine (used_any _ p a cap l (H1.out.below B) hs pt).mono ?_
   rintro e w6 ⟨rfl, b⟩
   replace b5 := b5.step b
   replace B := B.step b
   replace BG := Lib.hid (BG.out.below b)
   replace BS := Lib.hid (BS.out.below b)
   clear b
   obtain ⟨zBG, fBG0, fBG1⟩ := BG.out
   obtain ⟨zBS, fBS0, fBS1, fBS2, fBS3, fBS4⟩ := BS.out
   cases h5 : decide (0 < degB l pt)
   rotate_left
   ·skip
    have HC := Lib.hid (show cnd1 p l kd pt x y z = false by unfold cnd1; rw [k1, h2, hd, h5]; simp)
    go_wp2_with fail
    go_meet
    exact ⟨by rw [HC.out], b5⟩
   go_wp2_with fail
   clear zBG fBG0 fBG1 zBS fBS0 fBS1 fBS2 fBS3 fBS4
   refine (used_any _ p a cap l (H1.out.below B) hs x).mono ?_
   rintro e w6 ⟨rfl, b⟩
   replace b5 := b5.step b
   replace B := B.step b
   replace BG := Lib.hid (BG.out.below b)
   replace BS := Lib.hid (BS.out.below b)
   clear b
   obtain ⟨zBG, fBG0, fBG1⟩ := BG.out
   obtain ⟨zBS, fBS0, fBS1, fBS2, fBS3, fBS4⟩ := BS.out
   cases h6 : decide (0 < degB l x)
   ·skip
    have HC := Lib.hid (show cnd1 p l kd pt x y z = false by unfold cnd1; rw [k1, h2, hd, h5, h6]; simp)
    go_wp2_with fail
    go_meet
    exact ⟨by rw [HC.out], b5⟩
   go_wp2_with fail
   clear zBG fBG0 fBG1 zBS fBS0 fBS1 fBS2 fBS3 fBS4
   refine (used_any _ p a cap l (H1.out.below B) hs y).mono ?_
   rintro e w6 ⟨rfl, b⟩
   replace b5 := b5.step b
   replace B := B.step b
   replace BG := Lib.hid (BG.out.below b)
   replace BS := Lib.hid (BS.out.below b)
   clear b
   obtain ⟨zBG, fBG0, fBG1⟩ := BG.out
   obtain ⟨zBS, fBS0, fBS1, fBS2, fBS3, fBS4⟩ := BS.out
   cases h7 : decide (0 < degB l y)
   ·skip
    have HC := Lib.hid (show cnd1 p l kd pt x y z = false by unfold cnd1; rw [k1, h2, hd, h5, h6, h7]; simp)
    go_wp2_with fail
    go_meet
    exact ⟨by rw [HC.out], b5⟩
   have HC := Lib.hid (show cnd1 p l kd pt x y z = true by unfold cnd1; rw [k1, h2, hd, h5, h6, h7]; rfl)
   go_wp2_with fail
   go_meet
   exact ⟨by rw [HC.out], b5⟩
  case rest =>
   obtain ⟨rfl, b⟩ := hcut
   have hz_w3 := b.size
   replace B := B.step b
   replace BG := Lib.hid (BG.out.below b)
   replace BS := Lib.hid (BS.out.below b)
   replace HZ := Lib.hid (HZ.out.below b)
   clear b
   obtain ⟨w3, hwe⟩ : ∃ we, we = wc := ⟨_, rfl⟩
   subst hwe
   cases hc1 : cnd1 p l kd pt x y z
   rotate_left
   ·skip
    have HE := Lib.hid (show stepF (p, l) (kd, pt, x, y, z) = ((p, putsL l [barM pt x, barM pt y]), true) by rw [HS.out, e0, hc1]; rfl)
    obtain ⟨zBG, fBG0, fBG1⟩ := BG.out
    obtain ⟨zBS, fBS0, fBS1, fBS2, fBS3, fBS4⟩ := BS.out
    go_wp2_with fail
    clear zBG fBG0 fBG1 zBS fBS0 fBS1 fBS2 fBS3 fBS4
    refine (l2Put_at _ p a cap l (H1.out.below B) hs (min pt x) (max pt x)).mono ?_
    rintro e wm ⟨v2, rfl, o2, b⟩
    obtain ⟨vb2, ⟨a2, c2, rfl, rfl⟩, ob2⟩ := o2
    dsimp only at ob2
    have hzm := b.size
    replace B := B.step b
    replace BG := Lib.hid (BG.out.below b)
    replace BS := Lib.hid (BS.out.below b)
    replace HZ := Lib.hid (HZ.out.below b)
    clear b
    obtain ⟨l2, hl2⟩ : ∃ l2, l2 = putL l (min pt x, max pt x) := ⟨_, rfl⟩
    have hn2 : l2.length ≤ 1048576 := by rw [hl2]; rw [putL_length]; omega
    rw [← hl2] at ob2 ⊢
    have HL2 := Lib.hid hl2
    clear hl2
    have HF2 : Hid (IsGraph wm (.agg #[.int .i64 p, .slice a2 l2.length c2]) (p, l2)) := Lib.hid (OwnGraph.form ⟨_, ⟨a2, c2, rfl, rfl⟩, ob2⟩)
    have bx := belAl wm (.cells #[.int .i64 p, .slice a2 l2.length c2] 26)
    have BX : Hid (BoxGr (wm.alloc (.cells #[.int .i64 p, .slice a2 l2.length c2] 26)) wm.heap.size p a2 l2.length c2) := Lib.hid (BoxGr.at rfl)
    have H2 : Hid (BarsAt (wm.alloc (.cells #[.int .i64 p, .slice a2 l2.length c2] 26)) a2 l2.length l2) := Lib.hid (by obtain ⟨a9, c9, e9, i9⟩ := HF2.out; simp at e9; obtain ⟨rfl, rfl⟩ := e9; exact BarsAt.below i9 bx)
    replace B := B.step bx
    replace BG := Lib.hid (BG.out.below bx)
    replace BS := Lib.hid (BS.out.below bx)
    replace HZ := Lib.hid (HZ.out.below bx)
    go_upto_region 7 with (fail)
    have hzx := bx.size
    clear bx
    generalize (wm.alloc (.cells #[.int .i64 p, .slice a2 l2.length c2] 26)) = wx at *
    obtain ⟨zBG, fBG0, fBG1⟩ := BG.out
    obtain ⟨zBS, fBS0, fBS1, fBS2, fBS3, fBS4⟩ := BS.out
    obtain ⟨zBX, fBX0, fBX1⟩ := BX.out
    go_wp2_with fail
    clear zBG fBG0 fBG1 zBS fBS0 fBS1 fBS2 fBS3 fBS4
    clear zBX fBX0 fBX1
    refine (l2Put_at _ p a2 c2 l2 H2.out hn2 (min pt y) (max pt y)).mono ?_
    have HP2 := Lib.hid (show putL l2 (min pt y, max pt y) = putsL l [barM pt x, barM pt y] by rw [HL2.out]; rfl)
    rw [HP2.out]
    rintro e wf ⟨v1, rfl, o1, b⟩
    obtain ⟨vb, ⟨a1, c1, rfl, rfl⟩, ob⟩ := o1
    dsimp only at ob
    have hzf := b.size
    replace B := B.step b
    replace BG := Lib.hid (BG.out.below b)
    replace BS := Lib.hid (BS.out.below b)
    replace HZ := Lib.hid (HZ.out.below b)
    obtain ⟨⟨r0, r1, r2, c0, c1x⟩, ⟨y0, y1⟩, zg⟩ := HZ.out
    go_wp2_with fail
    refine bodyPost_ret (v := .tuple #[.agg #[.int .i64 p, .slice a1 (putsL l [barM pt x, barM pt y]).length c1], .bool true]) (by simp [results, Tryz.results41, go_sem, zg, c0, c1x]) rfl ?_
    rw [HE.out]
    exact ⟨_, rfl, laid2 ob (by omega) (by omega) (by omega) B⟩
   have HE := Lib.hid (show stepF (p, l) (kd, pt, x, y, z) = ((p, l), false) by rw [HS.out, e0, hc1, e2]; rfl)
   clear hc1
   go_upto_region 8 with (fail)
   obtain ⟨wo, hwo⟩ : ∃ wo, wo = w3 := ⟨_, rfl⟩
   subst hwo
   go_cut [127] (fun s wx => s = .bool (cnd2 p l kd pt x y z) ∧ Below wo.heap.size wo wx)
   case first =>
    obtain ⟨zBG, fBG0, fBG1⟩ := BG.out
    obtain ⟨zBS, fBS0, fBS1, fBS2, fBS3, fBS4⟩ := BS.out
    have HC := Lib.hid (show cnd2 p l kd pt x y z = false by unfold cnd2; rw [k2]; simp)
    go_wp2_with fail
    go_meet
    exact ⟨by rw [HC.out], Below.refl _ _⟩
   case rest =>
    obtain ⟨rfl, b⟩ := hcut
    have hz_w4 := b.size
    replace B := B.step b
    replace BG := Lib.hid (BG.out.below b)
    replace BS := Lib.hid (BS.out.below b)
    replace HZ := Lib.hid (HZ.out.below b)
    clear b
    obtain ⟨w4, hwe⟩ : ∃ we, we = wc := ⟨_, rfl⟩
    subst hwe
    rw [e2]
    obtain ⟨zBG, fBG0, fBG1⟩ := BG.out
    obtain ⟨zBS, fBS0, fBS1, fBS2, fBS3, fBS4⟩ := BS.out
    go_wp2_with fail
    clear zBG fBG0 fBG1 zBS fBS0 fBS1 fBS2 fBS3 fBS4
    refine (specCpG_at _ p a cap l.length l (H1.out.below B) hs).mono ?_
    rintro e wc1 ⟨v1, rfl, o1, b⟩
    obtain ⟨vb, ⟨a1, c1, rfl, rfl⟩, ob⟩ := o1
    dsimp only at ob
    have hzc := b.size
    replace B := B.step b
    replace BG := Lib.hid (BG.out.below b)
    replace BS := Lib.hid (BS.out.below b)
    replace HZ := Lib.hid (HZ.out.below b)
    obtain ⟨⟨r0, r1, r2, c0, c1x⟩, ⟨y0, y1⟩, zg⟩ := HZ.out
    go_wp2_with fail
    refine bodyPost_ret (v := .tuple #[.agg #[.int .i64 p, .slice a1 l.length c1], .bool false]) (by simp [results, Tryz.results41, go_sem, zg, c0, c1x]) rfl ?_
    rw [HE.out]
    exact ⟨_, rfl, laid2 ob (by omega) (by omega) (by omega) B⟩
end Go.Proofs.YtfbmpkdjhhcnpaaGreat

