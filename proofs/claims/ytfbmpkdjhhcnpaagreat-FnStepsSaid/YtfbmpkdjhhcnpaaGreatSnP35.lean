/- Drawing for the law on steps: DrawBuildSteps, DrawAreSameSteps, DrawFindSteps, DrawApplyStep of the reference. No condition but sizes. -/
import Derived.Test.YtfbmpkdjhhcnpaaGreatSnP31
import Derived.Test.YtfbmpkdjhhcnpaaGreatSnP34
import Derived.Test.YtfbmpkdjhhcnpaaGreatSnP01
namespace Go.Proofs.YtfbmpkdjhhcnpaaGreat
open Go.RowKit
set_option maxRecDepth 100000
set_option linter.unusedVariables false
set_option linter.unusedSimpArgs false
def RetBs (W : World) (e : Ending) (w' : World) : Prop :=
 ∃ p v ls, e = .returned (.tuple #[.int .i64 p, v]) ∧ OwnSteps w' W.heap.size v ls ∧ ls.length ≤ 30 ∧ Below W.heap.size W w'
def RetTs (W : World) (e : Ending) (w' : World) : Prop :=
 ∃ v ls v' ls', e = .returned (.tuple #[v, v']) ∧ (IsSteps w' v ls ∧ IsSteps w' v' ls') ∧ (ls.length ≤ 30 ∧ ls'.length ≤ 30) ∧ Below W.heap.size W w'
def RetGo (W : World) (e : Ending) (w' : World) : Prop :=
 ∃ p a c bs, e = .returned (.agg #[.int .i64 p, .slice a bs.length c]) ∧ OwnBars w' W.heap.size (.slice a bs.length c) bs ∧ bs.length ≤ 25 ∧ Below W.heap.size W w'
def RetHs (W : World) (e : Ending) (w' : World) : Prop :=
 ∃ p a c bs kd pt x y z, e = .returned (.tuple #[.agg #[.int .i64 p, .slice a bs.length c], .agg #[.int .i64 kd, .int .i64 pt, .int .i64 x, .int .i64 y, .int .i64 z]]) ∧ OwnBars w' W.heap.size (.slice a bs.length c) bs ∧ bs.length ≤ 25 ∧ Below W.heap.size W w'
theorem layG {W w' : World} {p : Int} {a : Option Addr} {c lo : Nat} {bs : List BarT} (hb : Below W.heap.size W w') (ho : OwnBars w' lo (.slice a bs.length c) bs) (hlo : W.heap.size < lo) :
  OwnBars ((w'.setCell ⟨W.heap.size, 0, none⟩ (.int .i64 p)).setCell ⟨W.heap.size, 1, none⟩ (.slice a bs.length c)) W.heap.size (.slice a bs.length c) bs ∧ Below W.heap.size W ((w'.setCell ⟨W.heap.size, 0, none⟩ (.int .i64 p)).setCell ⟨W.heap.size, 1, none⟩ (.slice a bs.length c)) := by
 have k2 : Kept (fun b => b = W.heap.size) w' ((w'.setCell ⟨W.heap.size, 0, none⟩ (.int .i64 p)).setCell ⟨W.heap.size, 1, none⟩ (.slice a bs.length c)) := (keptSet' (S := fun b => b = W.heap.size) rfl).trans (keptSet' (S := fun b => b = W.heap.size) rfl)
 exact ⟨ownsRow_base (k2.ownsRow ho fun b h1 h2 => by have := (ho.lt b h1).1; omega) (by omega), (hb.setCell (p := ⟨W.heap.size, 0, none⟩) (Nat.le_refl _) _).setCell (p := ⟨W.heap.size, 1, none⟩) (Nat.le_refl _) _⟩
set_option maxHeartbeats 8000000 in
theorem drawBld_at (W : World) (ca : Option Addr) (n cap : Nat) (l : List Int) (hB : BytesAt W ca n l) (hn : n ≤ 1048576) : Calls Tryz.prog 36 #[.slice ca n cap] W (RetBs W) := by
 have HN := Lib.hid (l1New_at W ca n cap l hB hn)
 have HS : Hid (∀ w9 g, Drw W w9 g ca n cap l → Calls Tryz.prog 85 #[.pointer (some ⟨g, 0, none⟩)] w9 (RetDs W w9 g ca n cap l)) := Lib.hid fun w9 g h9 => l7Steps_at W w9 g ca n cap l hB (by omega) h9
 clear hB
 go_enter Tryz.func36, Tryz.ntmps36
 go_wp2_with fail
 refine HN.out.mono ?_
 rintro e w1 ⟨g, rfl, d1⟩
 have hz1 := d1.bel.size
 have hg0 := d1.low
 go_wp2_with fail
 refine (HS.out w1 g d1).mono ?_
 rintro e w2 ⟨p, v, ls, rfl, os, hl, d2, k2⟩
 have BW := Lib.hid (d1.bel.trans (k2.below d1.bel.size fun k h1 h2 => by omega))
 have OS := Lib.hid (OwnSteps.low os hz1)
 clear d1 d2 k2 os HN HS
 go_wp2_with fail
 refine bodyPost_ret (v := .tuple #[.int .i64 p, v]) (by simp [results, Tryz.results36, go_sem]) rfl ?_
 exact ⟨p, v, ls, rfl, OS.out, hl, BW.out⟩
set_option maxHeartbeats 8000000 in
theorem drawSam_at (W : World) (ca : Option Addr) (n cap : Nat) (l : List Int) (hB : BytesAt W ca n l) (hn : n ≤ 1048576) : Calls Tryz.prog 42 #[.slice ca n cap] W (RetTs W) := by
 have HN := Lib.hid (l1New_at W ca n cap l hB hn)
 have HS : Hid (∀ w9 g, Drw W w9 g ca n cap l → Calls Tryz.prog 85 #[.pointer (some ⟨g, 0, none⟩)] w9 (RetDs W w9 g ca n cap l)) := Lib.hid fun w9 g h9 => l7Steps_at W w9 g ca n cap l hB (by omega) h9
 have HON : Hid (∀ (m : Int) w9 g, 1 ≤ m ∧ m ≤ 256 → Drw W w9 g ca n cap l → Calls Tryz.prog 58 #[.pointer (some ⟨g, 0, none⟩), .int .i64 m] w9 (RetDb W w9 g ca n cap l)) := Lib.hid fun m w9 g hm h9 => l1Once_at W w9 g ca n cap l hB (by omega) h9 m hm
 clear hB
 go_enter Tryz.func42, Tryz.ntmps42
 go_wp2_with fail
 refine HN.out.mono ?_
 rintro e w1 ⟨g, rfl, d1⟩
 have hz1 := d1.bel.size
 have hg0 := d1.low
 have hg1 := d1.hi
 have D := Lib.hid d1
 clear d1
 go_wp2_with fail
 refine (HS.out w1 g D.out).mono ?_
 rintro e w2 ⟨p, v, ls, rfl, os, hl, d2, k2⟩
 have BW := Lib.hid (D.out.bel.trans (k2.below D.out.bel.size fun k h1 h2 => by omega))
 replace D := Lib.hid d2
 have OS := Lib.hid os
 clear d2 k2 os
 go_wp2_with fail
 refine (HON.out 2 w2 g (by decide) D.out).mono ?_
 rintro e w3 ⟨bq, rfl, d3, k3⟩
 replace BW := Lib.hid (BW.out.trans (k3.below BW.out.size fun k h1 h2 => by omega))
 replace D := Lib.hid d3
 replace OS := Lib.hid (OS.out.on k3 hg1)
 clear d3 k3
 cases bq
 ·go_wp2_with fail
  refine (HS.out w3 g D.out).mono ?_
  rintro e w4 ⟨p', v', ls', rfl, os', hl', d4, k4⟩
  replace BW := Lib.hid (BW.out.trans (k4.below BW.out.size fun k h1 h2 => by omega))
  replace OS := Lib.hid (OS.out.on k4 hg1)
  have OS' := Lib.hid os'
  clear d4 k4 os' D
  go_wp2_with fail
  refine bodyPost_ret (v := .tuple #[v, v']) (by simp [results, Tryz.results42, go_sem]) rfl ?_
  exact ⟨v, ls, v', ls', rfl, ⟨OS.out.form, OS'.out.form⟩, ⟨hl, hl'⟩, BW.out⟩
 ·have ba := belAl w3 (.cells #[] 57)
  have HMD := Lib.hid (OwnSteps.made w3 w3.heap.size (Nat.le_refl _))
  have hne : ∀ k, v.ownBlock = some k → k < w3.heap.size := fun k hk => (World.ownsRow.lt OS.out k hk).2
  have HNE := Lib.hid hne
  replace BW := Lib.hid (BW.out.step ba)
  replace OS := Lib.hid (OwnSteps.below OS.out ba)
  obtain ⟨av, cv, rfl, hat⟩ := OS.out.form
  have HAT := Lib.hid hat
  have hz3 : w3.heap.size ≤ (w3.alloc (.cells #[] 57)).heap.size := ba.size
  have hzW : W.heap.size ≤ w3.heap.size := by
   have := BW.out.size
   have := D.out.bel.size
   omega
  clear ba hne hat D
  go_wp2_with (at_builtin; refine appStepsAt rfl (.tmp 19) (.tmp 20) rfl rfl HMD.out rfl HAT.out (by simp; omega) hz3 ?_; intro v8 w8 h8 k8 a8)
  have hn8 : ∀ k, some k = (Value.slice (some ⟨w3.heap.size, 0, none⟩) 0 0).ownBlock → k = w3.heap.size := fun k hk => Option.some.inj hk
  refine bodyPost_ret (v := .tuple #[.slice av ls.length cv, v8]) (by simp [results, Tryz.results42, go_sem]) rfl ?_
  refine ⟨_, ls, v8, [] ++ ls, rfl, ⟨?_, h8.form⟩, ⟨hl, by simpa using hl⟩, BW.out.trans (k8.below BW.out.size fun k h1 h2 => by have := hn8 k h2; omega)⟩
  exact (show OwnSteps w8 w1.heap.size (.slice av ls.length cv) ls from k8.ownsRow OS.out fun k h1 h2 => by have := hn8 k h2; have := HNE.out k h1; omega).form
set_option maxHeartbeats 8000000 in
theorem drawFsg_at (W : World) (ca : Option Addr) (n cap : Nat) (l : List Int) (hB : BytesAt W ca n l) (hn : n ≤ 1048576) : Calls Tryz.prog 25 #[.slice ca n cap] W (RetGo W) := by
 have ba := belAl W (.cells #[.int .i64 0, .slice none 0 0] 26)
 have Z := Lib.hid (Zer2.at W 26)
 have hBu := BytesAt.below hB ba
 have hzu : (W.alloc (.cells #[.int .i64 0, .slice none 0 0] 26)).heap.size = W.heap.size + 1 := by simp
 have BA := Lib.hid ba
 clear hB ba
 go_enter Tryz.func25, Tryz.ntmps25
 go_wp2_with fail
 generalize (W.alloc (.cells #[.int .i64 0, .slice none 0 0] 26)) = u at *
 have HN := Lib.hid (l1New_at u ca n cap l hBu hn)
 have HA : Hid (∀ w9 g, Drw u w9 g ca n cap l → Calls Tryz.prog 74 #[.pointer (some ⟨g, 0, none⟩)] w9 (RetDg u w9 g ca n cap l fun p bs => bs.length ≤ 25)) := Lib.hid fun w9 g h9 => l6Any_at u w9 g ca n cap l hBu (by omega) h9
 have hzu1 : W.heap.size < u.heap.size := by omega
 clear hBu hzu
 refine HN.out.mono ?_
 rintro e w1 ⟨g, rfl, d1⟩
 have D := Lib.hid d1
 have hz1 := d1.bel.size
 have hg0 := d1.low
 have hg1 := d1.hi
 have B := Lib.hid (BA.out.step d1.bel)
 replace Z := Lib.hid (Z.out.below d1.bel)
 clear d1 HN BA
 go_wp2_with fail
 refine (HA.out w1 g D.out).mono ?_
 rintro e w2 ⟨p, a, c, bs, rfl, ob, hsm, d2, k2⟩
 have HL := Lib.hid (layG (p := p) (B.out.trans (k2.below B.out.size fun k h1 h2 => by omega)) ob (by omega))
 have Z2 := Z.out.kept k2 (by omega)
 obtain ⟨⟨z1, z2, z3, c0, c1⟩, ⟨f0, f1⟩, gz⟩ := Z2
 clear ob d2 k2 D B Z HA
 go_wp2_with fail
 refine bodyPost_ret (v := .agg #[.int .i64 p, .slice a bs.length c]) (by simp [results, Tryz.results25, go_sem, gz, c0, c1]) rfl ?_
 exact ⟨p, a, c, bs, rfl, HL.out.1, hsm, HL.out.2⟩
theorem cutStA {b off n j c : Nat} (hn : j ≤ n) (hc : n ≤ c) (hm : c ≤ 9223372036854775807) (w : World) : (Instr.slice 45 (.slice (some ⟨b, off, none⟩) n c) none (some (.int .i64 (j : Int))) none).run Tryz.prog w = .ok (.slice (some ⟨b, off, none⟩) j c) w := by
 go_simp
 intro h
 omega
theorem cutStN (w : World) : (Instr.slice 45 (.slice none 0 0) none (some (.int .i64 ((0 : Nat) : Int))) none).run Tryz.prog w = .ok (.slice none 0 0) w := by
 go_simp
theorem StepsAt.takeS {W : World} {a : Option Addr} {n m : Nat} {r : List StepT} (h : StepsAt W a n r) (hm : m ≤ n) : StepsAt W a m (r.take m) :=
 ⟨by rw [List.length_take, h.1]; omega, fun k hk => by
  obtain ⟨b, off, x, h1, h2, h3, h4⟩ := h.2 k (by omega)
  exact ⟨b, off, x, h1, h2, by rw [List.getElem?_take_of_lt hk]; exact h3, h4⟩⟩
theorem cutSt {W : World} {base : Nat} {v : Value} {ls : List StepT} (h : OwnSteps W base v ls) {j : Nat} (hj : j ≤ ls.length) : ∃ a c, v = .slice a ls.length c ∧ StepsAt W a ls.length ls ∧ ∀ w, (Instr.slice 45 (.slice a ls.length c) none (some (.int .i64 (j : Int))) none).run Tryz.prog w = .ok (.slice a j c) w := by
 rcases h.2 with ⟨rfl, h0⟩ | ⟨g, cap, cur, rfl, hb, hg, hnc, hcm, hcs, htake⟩
 ·obtain ⟨a, c, e, hi⟩ := OwnSteps.form h
  injection e with e1 e2 e3
  subst e1
  subst e3
  have hj0 : j = 0 := by omega
  refine ⟨none, 0, by rw [h0], hi, fun w => ?_⟩
  rw [h0, hj0]
  exact cutStN w
 ·obtain ⟨a, c, e, hi⟩ := OwnSteps.form h
  simp at e
  obtain ⟨rfl, rfl⟩ := e
  exact ⟨_, _, rfl, hi, fun w => cutStA hj hnc (by have : maxLen = 9223372036854775807 := rfl; omega) w⟩
structure HaS (W u w : World) (g gt ga lo : Nat) (ca : Option Addr) (n cap : Nat) (l : List Int) (av : Option Addr) (ls : List StepT) (p : Int) (a : Option Addr) (c : Nat) (bs : List BarT) : Prop where
 d : Drw u w g ca n cap l
 b : Below W.heap.size W w
 z : Zer2 w W.heap.size
 zs : ZSt w (W.heap.size + 1)
 st : StepsAt w av ls.length ls
 lt : ∀ x off, av = some ⟨x, off, none⟩ → ga ≤ x
 bx : BoxGr w gt p a bs.length c
 ob : OwnBars w lo (.slice a bs.length c) bs
theorem HaS.draw {W u w w' : World} {g gt ga lo : Nat} {ca : Option Addr} {n cap : Nat} {l : List Int} {av : Option Addr} {ls : List StepT} {p : Int} {a : Option Addr} {c : Nat} {bs : List BarT} (h : HaS W u w g gt ga lo ca n cap l av ls p a c bs) (hd : Drw u w' g ca n cap l) (hk : Kept (fun b => b = g) w w') (hgW : W.heap.size + 1 < g) (hgt : g < gt) (hga : g < ga) (hlo : g < lo) : HaS W u w' g gt ga lo ca n cap l av ls p a c bs :=
 ⟨hd, h.b.trans (hk.below h.b.size fun k h1 h2 => by omega), h.z.kept hk (by omega), h.zs.kept hk (by omega), ⟨h.st.1, fun k hkn => by
  obtain ⟨x, off, y, e, hx, hy, c0, c1, c2, c3, c4⟩ := h.st.2 k hkn
  have hxg : ¬ x = g := by have := h.lt x off e; omega
  exact ⟨x, off, y, e, Nat.lt_of_lt_of_le hx hk.size, hy, (hk.cell hx hxg).trans c0, (hk.cell hx hxg).trans c1, (hk.cell hx hxg).trans c2, (hk.cell hx hxg).trans c3, (hk.cell hx hxg).trans c4⟩⟩, h.lt, h.bx.kept hk (by omega), h.ob.on hk hlo⟩
theorem HaS.below {W u w w' : World} {g gt ga lo : Nat} {ca : Option Addr} {n cap : Nat} {l : List Int} {av : Option Addr} {ls : List StepT} {p : Int} {a : Option Addr} {c : Nat} {bs : List BarT} (h : HaS W u w g gt ga lo ca n cap l av ls p a c bs) (hb : Below w.heap.size w w') : HaS W u w' g gt ga lo ca n cap l av ls p a c bs :=
 ⟨h.d.below hb, h.b.step hb, h.z.below hb, h.zs.below hb, h.st.below hb, h.lt, h.bx.below hb, OwnBars.below h.ob hb⟩
theorem layGS {W w' : World} {p : Int} {a : Option Addr} {c lo : Nat} {bs : List BarT} (kd pt x y z : Int) (hb : Below W.heap.size W w') (ho : OwnBars w' lo (.slice a bs.length c) bs) (hlo : W.heap.size + 1 < lo) :
  OwnBars (((((((w'.setCell ⟨W.heap.size, 0, none⟩ (.int .i64 p)).setCell ⟨W.heap.size, 1, none⟩ (.slice a bs.length c)).setCell ⟨W.heap.size + 1, 0, none⟩ (.int .i64 kd)).setCell ⟨W.heap.size + 1, 1, none⟩ (.int .i64 pt)).setCell ⟨W.heap.size + 1, 2, none⟩ (.int .i64 x)).setCell ⟨W.heap.size + 1, 3, none⟩ (.int .i64 y)).setCell ⟨W.heap.size + 1, 4, none⟩ (.int .i64 z)) W.heap.size (.slice a bs.length c) bs ∧
  Below W.heap.size W (((((((w'.setCell ⟨W.heap.size, 0, none⟩ (.int .i64 p)).setCell ⟨W.heap.size, 1, none⟩ (.slice a bs.length c)).setCell ⟨W.heap.size + 1, 0, none⟩ (.int .i64 kd)).setCell ⟨W.heap.size + 1, 1, none⟩ (.int .i64 pt)).setCell ⟨W.heap.size + 1, 2, none⟩ (.int .i64 x)).setCell ⟨W.heap.size + 1, 3, none⟩ (.int .i64 y)).setCell ⟨W.heap.size + 1, 4, none⟩ (.int .i64 z)) := by
 refine ⟨OwnBars.low (OwnBars.set (OwnBars.set (OwnBars.set (OwnBars.set (OwnBars.set (OwnBars.set (OwnBars.set ho (by show W.heap.size < lo; omega) _) (by show W.heap.size < lo; omega) _) (by show W.heap.size + 1 < lo; omega) _) (by show W.heap.size + 1 < lo; omega) _) (by show W.heap.size + 1 < lo; omega) _) (by show W.heap.size + 1 < lo; omega) _) (by show W.heap.size + 1 < lo; omega) _) (by omega), ?_⟩
 exact ((((((hb.setCell (p := ⟨W.heap.size, 0, none⟩) (Nat.le_refl _) _).setCell (p := ⟨W.heap.size, 1, none⟩) (Nat.le_refl _) _).setCell (p := ⟨W.heap.size + 1, 0, none⟩) (Nat.le_succ _) _).setCell (p := ⟨W.heap.size + 1, 1, none⟩) (Nat.le_succ _) _).setCell (p := ⟨W.heap.size + 1, 2, none⟩) (Nat.le_succ _) _).setCell (p := ⟨W.heap.size + 1, 3, none⟩) (Nat.le_succ _) _).setCell (p := ⟨W.heap.size + 1, 4, none⟩) (Nat.le_succ _) _
set_option maxHeartbeats 16000000 in
theorem drawApp_at (W : World) (ca : Option Addr) (n cap : Nat) (l : List Int) (hB : BytesAt W ca n l) (hn : n ≤ 1048576) : Calls Tryz.prog 39 #[.slice ca n cap] W (RetHs W) := by
 have ba := belAl W (.cells #[.int .i64 0, .slice none 0 0] 26)
 have bb := belAl (W.alloc (.cells #[.int .i64 0, .slice none 0 0] 26)) (.cells #[.int .i64 0, .int .i64 0, .int .i64 0, .int .i64 0, .int .i64 0] 57)
 have Z := Lib.hid ((Zer2.at W 26).below bb)
 have ZS := Lib.hid (ZSt.at (W.alloc (.cells #[.int .i64 0, .slice none 0 0] 26)))
 have hs1 : (W.alloc (.cells #[.int .i64 0, .slice none 0 0] 26)).heap.size = W.heap.size + 1 := by simp
 rw [hs1] at ZS
 have hBu := BytesAt.below (BytesAt.below hB ba) bb
 have hzu : ((W.alloc (.cells #[.int .i64 0, .slice none 0 0] 26)).alloc (.cells #[.int .i64 0, .int .i64 0, .int .i64 0, .int .i64 0, .int .i64 0] 57)).heap.size = W.heap.size + 2 := by simp
 have BA := Lib.hid (ba.step bb)
 clear hB ba bb hs1
 go_enter Tryz.func39, Tryz.ntmps39
 go_wp2_with fail
 generalize ((W.alloc (.cells #[.int .i64 0, .slice none 0 0] 26)).alloc (.cells #[.int .i64 0, .int .i64 0, .int .i64 0, .int .i64 0, .int .i64 0] 57)) = u at *
 have HN := Lib.hid (l1New_at u ca n cap l hBu hn)
 have HD : Hid (∀ (m : Int) w9 g, 1 ≤ m ∧ m ≤ 256 → Drw u w9 g ca n cap l → Calls Tryz.prog 88 #[.pointer (some ⟨g, 0, none⟩), .int .i64 m] w9 (RetDi u w9 g ca n cap l 0 (m - 1))) := Lib.hid fun m w9 g hm h9 => l1Below_at u w9 g ca n cap l hBu (by omega) h9 m hm
 have HON : Hid (∀ (m : Int) w9 g, 1 ≤ m ∧ m ≤ 256 → Drw u w9 g ca n cap l → Calls Tryz.prog 58 #[.pointer (some ⟨g, 0, none⟩), .int .i64 m] w9 (RetDb u w9 g ca n cap l)) := Lib.hid fun m w9 g hm h9 => l1Once_at u w9 g ca n cap l hBu (by omega) h9 m hm
 have HS : Hid (∀ w9 g, Drw u w9 g ca n cap l → Calls Tryz.prog 85 #[.pointer (some ⟨g, 0, none⟩)] w9 (RetDs u w9 g ca n cap l)) := Lib.hid fun w9 g h9 => l7Steps_at u w9 g ca n cap l hBu (by omega) h9
 have HST : Hid (∀ w9 g, Drw u w9 g ca n cap l → Calls Tryz.prog 89 #[.pointer (some ⟨g, 0, none⟩)] w9 (RetDst u w9 g ca n cap l)) := Lib.hid fun w9 g h9 => l7Step_at u w9 g ca n cap l hBu (by omega) h9
 have HA : Hid (∀ w9 g, Drw u w9 g ca n cap l → Calls Tryz.prog 57 #[.pointer (some ⟨g, 0, none⟩)] w9 (RetDg u w9 g ca n cap l fun p bs => bs.length ≤ 25)) := Lib.hid fun w9 g h9 => l2Any_at u w9 g ca n cap l hBu (by omega) h9
 have hzu1 : W.heap.size + 1 < u.heap.size := by omega
 clear hBu hzu
 refine HN.out.mono ?_
 rintro e w1 ⟨g, rfl, d1⟩
 have D := Lib.hid d1
 have hz1 := d1.bel.size
 have hg0 := d1.low
 have hg1 := d1.hi
 have B := Lib.hid (BA.out.step d1.bel)
 replace Z := Lib.hid (Z.out.below d1.bel)
 replace ZS := Lib.hid (ZS.out.below d1.bel)
 have hgW : W.heap.size + 1 < g := by omega
 clear d1 HN BA
 go_wp2_with fail
 refine (HS.out w1 g D.out).mono ?_
 rintro e w2 ⟨nn, v, ls, rfl, os, hl, d1, k1⟩
 have hz2 := k1.size
 replace B := Lib.hid (B.out.trans (k1.below B.out.size fun k h1 h2 => by omega))
 replace Z := Lib.hid (Z.out.kept k1 (by omega))
 replace ZS := Lib.hid (ZS.out.kept k1 (by omega))
 replace D := Lib.hid d1
 have OS := Lib.hid os
 obtain ⟨av, cv, rfl, -⟩ := os.form
 clear d1 k1 os HS
 have hw3 := IntWalk.i64_in ((ls.length : Int) + 1) (by omega)
 go_wp2_with fail
 refine (HD.out ((ls.length : Int) + 1) w2 g (by omega) D.out).mono ?_
 rintro e w3 ⟨z, hz, rfl, d1, k1⟩
 have hz3 := k1.size
 replace B := Lib.hid (B.out.trans (k1.below B.out.size fun k h1 h2 => by omega))
 replace Z := Lib.hid (Z.out.kept k1 (by omega))
 replace ZS := Lib.hid (ZS.out.kept k1 (by omega))
 replace D := Lib.hid d1
 replace OS := Lib.hid (OS.out.on k1 hg1)
 obtain ⟨K, rfl⟩ : ∃ K : Nat, z = (K : Int) := ⟨z.toNat, by omega⟩
 have hKl : K ≤ ls.length := by omega
 clear d1 k1 hw3 hz HD
 obtain ⟨a9, c9, e9, hat, hcut⟩ := cutSt OS.out hKl
 simp at e9
 obtain ⟨rfl, rfl⟩ := e9
 have htk : (ls.take K).length = K := by rw [List.length_take]; omega
 have HBS := Lib.hid (spec_BuildSteps w3 nn (.slice av K cv) (ls.take K) ⟨av, cv, by rw [htk], by rw [htk]; exact hat.takeS hKl⟩ (by omega))
 have hlts : ∀ x off, av = some ⟨x, off, none⟩ → w1.heap.size ≤ x := fun x off e => (World.ownsRow.lt OS.out x (by subst e; rfl)).1
 have HLT := Lib.hid hlts
 have HAT := Lib.hid hat
 have hsz := bldF_sz nn (ls.take K)
 obtain ⟨⟨q, bs⟩, hG⟩ : ∃ G, G = (bldF nn (ls.take K)).1 := ⟨_, rfl⟩
 obtain ⟨ok, hok⟩ : ∃ b, b = (bldF nn (ls.take K)).2 := ⟨_, rfl⟩
 rw [← hG, ← hok] at HBS
 rw [← hG] at hsz
 have hbl : bs.length ≤ 24 := hsz
 clear hG hok hsz hat hlts htk
 go_wp2_with fail
 refine HBS.out.mono ?_
 rintro e w4 ⟨vg, rfl, ⟨vb, ⟨a, c, rfl, rfl⟩, ob⟩, b4⟩
 dsimp only at ob ⊢
 have ba := belAl w4 (.cells #[.int .i64 q, .slice a bs.length c] 26)
 have hbx : BoxGr (w4.alloc (.cells #[.int .i64 q, .slice a bs.length c] 26)) w4.heap.size q a bs.length c := BoxGr.at rfl
 have hz4 := b4.size
 obtain ⟨gt, hgt0⟩ : ∃ q, q = w4.heap.size := ⟨_, rfl⟩
 rw [← hgt0] at hbx
 have H : Hid (HaS W u (w4.alloc (.cells #[.int .i64 q, .slice a bs.length c] 26)) g gt w1.heap.size w3.heap.size ca n cap l av ls q a c bs) := Lib.hid ⟨(D.out.below b4).below ba, (B.out.step b4).step ba, (Z.out.below b4).below ba, (ZS.out.below b4).below ba, (HAT.out.below b4).below ba, HLT.out, hbx, OwnBars.below ob ba⟩
 have hgt : g < gt := by omega
 have hg3 : g < w3.heap.size := by omega
 have hnW : ∀ x off, av = some ⟨x, off, none⟩ → ¬ x = W.heap.size ∧ ¬ x = gt := fun x off e => by
  have h1 := HLT.out x off e
  have h2 := (World.ownsRow.lt OS.out x (by subst e; rfl)).2
  omega
 have HNW := Lib.hid hnW
 clear HBS ob b4 ba hbx D B Z ZS OS HAT HLT hnW
 go_upto_region 5 with (fail)
 try rw [← hgt0]
 generalize (w4.alloc (.cells #[.int .i64 q, .slice a bs.length c] 26)) = w5 at *
 clear hgt0
 go_cut [41] from 30 to 41 (fun s wx => ∃ bq, s = .bool bq ∧ (bq = true → K < ls.length) ∧ HaS W u wx g gt w1.heap.size w3.heap.size ca n cap l av ls q a c bs)
 case first =>
  cases ok
  ·go_wp2_with fail
   go_meet
   exact ⟨false, rfl, fun h => Bool.noConfusion h, H.out⟩
  ·by_cases hkl : K < ls.length
   ·have hkli : (K : Int) < (ls.length : Int) := by omega
    go_wp2_with fail
    refine (HON.out 4 w5 g (by decide) H.out.d).mono ?_
    rintro e w6 ⟨bq, rfl, d1, k1⟩
    replace H := Lib.hid (H.out.draw d1 k1 hgW hgt hg1 hg3)
    clear d1 k1
    cases bq
    ·go_wp2_with fail
     go_meet
     exact ⟨true, rfl, fun _ => hkl, H.out⟩
    ·go_wp2_with fail
     go_meet
     exact ⟨false, rfl, fun h => Bool.noConfusion h, H.out⟩
   ·have hkli : ¬ (K : Int) < (ls.length : Int) := by omega
    go_wp2_with fail
    go_meet
    exact ⟨false, rfl, fun h => Bool.noConfusion h, H.out⟩
 case rest =>
  clear H
  obtain ⟨bq, rfl, hkl, hh⟩ := hcut
  have H := Lib.hid hh
  clear hh
  cases bq
  ·go_wp2_with fail
   refine (HA.out wc g H.out.d).mono ?_
   rintro e w6 ⟨p', a', c', bs', rfl, ob', hbl', d1, k1⟩
   have H6 := Lib.hid (H.out.draw d1 k1 hgW hgt hg1 hg3)
   have hzc : u.heap.size ≤ wc.heap.size := H.out.d.bel.size
   have hgc := H.out.d.hi
   have OB := Lib.hid ob'
   clear d1 k1 ob' H
   go_wp2_with fail
   refine (HST.out w6 g H6.out.d).mono ?_
   rintro e w7 ⟨kd, pt, x, y, z, rfl, d1, k1⟩
   have H7 := Lib.hid (H6.out.draw d1 k1 hgW hgt hg1 hg3)
   replace OB := Lib.hid (OB.out.on k1 hgc)
   have HL := Lib.hid (layGS (p := p') kd pt x y z H7.out.b OB.out (by omega))
   obtain ⟨⟨z1, z2, z3, c0, c1⟩, ⟨f0, f1⟩, gz⟩ := H7.out.z
   obtain ⟨⟨q1, q2, q3, q4, q5, hzs, s0, s1, s2, s3, s4⟩, r0, r1, r2, r3, r4⟩ := H7.out.zs
   clear d1 k1 OB H6 H7
   go_wp2_with fail
   refine bodyPost_ret (v := .tuple #[.agg #[.int .i64 p', .slice a' bs'.length c'], .agg #[.int .i64 kd, .int .i64 pt, .int .i64 x, .int .i64 y, .int .i64 z]]) (by simp [results, Tryz.results39, go_sem, gz, c0, c1, hzs, s0, s1, s2, s3, s4]) rfl ?_
   exact ⟨p', a', c', bs', kd, pt, x, y, z, rfl, HL.out.1, hbl', HL.out.2⟩
  ·have hk := hkl rfl
   have hki : (K : Int) < (ls.length : Int) := by omega
   have hk0 : (0 : Int) ≤ (K : Int) := by omega
   obtain ⟨x, off, ⟨kd, pt, x1, x2, x3⟩, rfl, hxb, hx, y0, y1, y2, y3, y4⟩ := H.out.st.2 K hk
   have hne := HNW.out x off rfl
   have hgtz : W.heap.size < gt := by omega
   dsimp only at y0 y1 y2 y3 y4
   go_upto_region 6 with (fail)
   have dr : Below wc.heap.size wc wc.drew := (Below.refl _ _).drew
   have HFD := Lib.hid (H.out.below dr)
   have e0 := (dr.cell (p := ⟨x, off + K * 5, none⟩) hxb).trans y0
   have e1 := (dr.cell (p := ⟨x, off + K * 5 + 1, none⟩) hxb).trans y1
   have e2 := (dr.cell (p := ⟨x, off + K * 5 + 2, none⟩) hxb).trans y2
   have e3 := (dr.cell (p := ⟨x, off + K * 5 + 3, none⟩) hxb).trans y3
   have e4 := (dr.cell (p := ⟨x, off + K * 5 + 4, none⟩) hxb).trans y4
   refine wp_regionZ (fun w9 => w9.cell? ⟨gt, 0, none⟩ = some (.int .i64 q) ∧ w9.cell? ⟨gt, 1, none⟩ = some (.slice a bs.length c) ∧ w9.cell? ⟨x, off + K * 5, none⟩ = some (.int .i64 kd) ∧ w9.cell? ⟨x, off + K * 5 + 1, none⟩ = some (.int .i64 pt) ∧ w9.cell? ⟨x, off + K * 5 + 2, none⟩ = some (.int .i64 x1) ∧ w9.cell? ⟨x, off + K * 5 + 3, none⟩ = some (.int .i64 x2) ∧ w9.cell? ⟨x, off + K * 5 + 4, none⟩ = some (.int .i64 x3) ∧ True) 6 (by kernel_rfl) ?_
   clear H y0 y1 y2 y3 y4
   generalize wc.drew = wd at *
   have s0 : wd.cell? ⟨gt, 0, none⟩ = some (.int .i64 q) ∧ wd.cell? ⟨gt, 1, none⟩ = some (.slice a bs.length c) ∧ wd.cell? ⟨x, off + K * 5, none⟩ = some (.int .i64 kd) ∧ wd.cell? ⟨x, off + K * 5 + 1, none⟩ = some (.int .i64 pt) ∧ wd.cell? ⟨x, off + K * 5 + 2, none⟩ = some (.int .i64 x1) ∧ wd.cell? ⟨x, off + K * 5 + 3, none⟩ = some (.int .i64 x2) ∧ wd.cell? ⟨x, off + K * 5 + 4, none⟩ = some (.int .i64 x3) ∧ True := ⟨HFD.out.bx.2.1, HFD.out.bx.2.2, e0, e1, e2, e3, e4, trivial⟩
   have n1 : ¬ x = W.heap.size := hne.1
   have n2 : ¬ gt = W.heap.size := by omega
   have kf : Kept (fun b => b = W.heap.size) wd ((wd.setCell ⟨W.heap.size, 0, none⟩ (.int .i64 q)).setCell ⟨W.heap.size, 1, none⟩ (.slice a bs.length c)) := (keptSet' (S := fun b => b = W.heap.size) rfl).trans (keptSet' (S := fun b => b = W.heap.size) rfl)
   have hxd : x < wd.heap.size := Nat.lt_of_lt_of_le hxb dr.size
   have hgd := HFD.out.bx.1
   have sF : ((wd.setCell ⟨W.heap.size, 0, none⟩ (.int .i64 q)).setCell ⟨W.heap.size, 1, none⟩ (.slice a bs.length c)).cell? ⟨gt, 0, none⟩ = some (.int .i64 q) ∧ ((wd.setCell ⟨W.heap.size, 0, none⟩ (.int .i64 q)).setCell ⟨W.heap.size, 1, none⟩ (.slice a bs.length c)).cell? ⟨gt, 1, none⟩ = some (.slice a bs.length c) ∧ ((wd.setCell ⟨W.heap.size, 0, none⟩ (.int .i64 q)).setCell ⟨W.heap.size, 1, none⟩ (.slice a bs.length c)).cell? ⟨x, off + K * 5, none⟩ = some (.int .i64 kd) ∧ ((wd.setCell ⟨W.heap.size, 0, none⟩ (.int .i64 q)).setCell ⟨W.heap.size, 1, none⟩ (.slice a bs.length c)).cell? ⟨x, off + K * 5 + 1, none⟩ = some (.int .i64 pt) ∧ ((wd.setCell ⟨W.heap.size, 0, none⟩ (.int .i64 q)).setCell ⟨W.heap.size, 1, none⟩ (.slice a bs.length c)).cell? ⟨x, off + K * 5 + 2, none⟩ = some (.int .i64 x1) ∧ ((wd.setCell ⟨W.heap.size, 0, none⟩ (.int .i64 q)).setCell ⟨W.heap.size, 1, none⟩ (.slice a bs.length c)).cell? ⟨x, off + K * 5 + 3, none⟩ = some (.int .i64 x2) ∧ ((wd.setCell ⟨W.heap.size, 0, none⟩ (.int .i64 q)).setCell ⟨W.heap.size, 1, none⟩ (.slice a bs.length c)).cell? ⟨x, off + K * 5 + 4, none⟩ = some (.int .i64 x3) ∧ True :=
    ⟨(kf.cell hgd n2).trans HFD.out.bx.2.1, (kf.cell hgd n2).trans HFD.out.bx.2.2, (kf.cell hxd n1).trans e0, (kf.cell hxd n1).trans e1, (kf.cell hxd n1).trans e2, (kf.cell hxd n1).trans e3, (kf.cell hxd n1).trans e4, trivial⟩
   clear kf hxd hgd dr hxb e0 e1 e2 e3 e4
   refine wpAnyZ_takeC (i := 0) (v := ?_) [6] rfl (by kernel_rfl) (by kernel_rfl) (by kernel_rfl) (by kernel_rfl) (by kernel_rfl) (by kernel_rfl) (fun _ _ _ h => h) (s0) (by rfl) ?_ ?_
   rotate_left
   · intro x hx; obtain ⟨u1, u2, u3, u4, u5, u6, u7, u8⟩ := hx; go_simp; try (with_reducible rfl)
   try simp only [Act.put, List.setIfInBounds_toArray, List.set_cons_zero, List.set_cons_succ, List.getElem_toArray, List.getElem_cons_zero, List.getElem_cons_succ]
   refine wpAnyZ_takeC (i := 1) (v := ?_) [6] rfl (by kernel_rfl) (by kernel_rfl) (by kernel_rfl) (by kernel_rfl) (by kernel_rfl) (by kernel_rfl) (fun _ _ _ h => h) (s0) (by rfl) ?_ ?_
   rotate_left
   · intro x hx; obtain ⟨u1, u2, u3, u4, u5, u6, u7, u8⟩ := hx; go_simp; try (with_reducible rfl)
   try simp only [Act.put, List.setIfInBounds_toArray, List.set_cons_zero, List.set_cons_succ, List.getElem_toArray, List.getElem_cons_zero, List.getElem_cons_succ]
   refine wpAnyZ_takeC (i := 2) (v := ?_) [6] rfl (by kernel_rfl) (by kernel_rfl) (by kernel_rfl) (by kernel_rfl) (by kernel_rfl) (by kernel_rfl) (fun _ _ _ h => h) (s0) (by rfl) ?_ ?_
   rotate_left
   · intro x hx; obtain ⟨u1, u2, u3, u4, u5, u6, u7, u8⟩ := hx; go_simp; try (with_reducible rfl)
   try simp only [Act.put, List.setIfInBounds_toArray, List.set_cons_zero, List.set_cons_succ, List.getElem_toArray, List.getElem_cons_zero, List.getElem_cons_succ]
   refine wpAnyZ_takeC (i := 3) (v := ?_) [6] rfl (by kernel_rfl) (by kernel_rfl) (by kernel_rfl) (by kernel_rfl) (by kernel_rfl) (by kernel_rfl) (fun _ _ _ h => h) (s0) (by rfl) ?_ ?_
   rotate_left
   · intro x hx; obtain ⟨u1, u2, u3, u4, u5, u6, u7, u8⟩ := hx; go_simp; try (with_reducible rfl)
   try simp only [Act.put, List.setIfInBounds_toArray, List.set_cons_zero, List.set_cons_succ, List.getElem_toArray, List.getElem_cons_zero, List.getElem_cons_succ]
   refine wpAnyZ_takeC (i := 4) (v := ?_) [6] rfl (by kernel_rfl) (by kernel_rfl) (by kernel_rfl) (by kernel_rfl) (by kernel_rfl) (by kernel_rfl) (fun _ _ _ h => h) (s0) (by rfl) ?_ ?_
   rotate_left
   · intro x hx; obtain ⟨u1, u2, u3, u4, u5, u6, u7, u8⟩ := hx; go_simp; try (with_reducible rfl)
   try simp only [Act.put, List.setIfInBounds_toArray, List.set_cons_zero, List.set_cons_succ, List.getElem_toArray, List.getElem_cons_zero, List.getElem_cons_succ]
   clear s0
   have HL := Lib.hid (layGS (p := q) kd pt x1 x2 x3 HFD.out.b HFD.out.ob (by omega))
   obtain ⟨⟨z1, z2, z3, c0, c1⟩, ⟨f0, f1⟩, gz⟩ := HFD.out.z
   obtain ⟨⟨q1, q2, q3, q4, q5, hzs, t0, t1, t2, t3, t4⟩, r0, r1, r2, r3, r4⟩ := HFD.out.zs
   refine wpAnyZ_step (i := 5) (by kernel_rfl) rfl (by rfl) ?_
   intro KK hKK
   go_simp
   refine hKK.out _ _ (.inr sF) ?_
   clear hKK KK
   try simp only [Act.put, List.setIfInBounds_toArray, List.set_cons_zero, List.set_cons_succ, List.getElem_toArray, List.getElem_cons_zero, List.getElem_cons_succ]
   clear sF
   refine wpAnyZ_step (i := 6) (by kernel_rfl) rfl (by rfl) ?_
   intro KK hKK
   go_simp
   refine hKK.out _ _ (.inl (by kernel_rfl)) ?_
   clear hKK KK
   try simp only [Act.put, List.setIfInBounds_toArray, List.set_cons_zero, List.set_cons_succ, List.getElem_toArray, List.getElem_cons_zero, List.getElem_cons_succ]
   refine wpAnyZ_done (by kernel_rfl) ?_ _
   go_wp2_with fail
   refine bodyPost_ret (v := .tuple #[.agg #[.int .i64 q, .slice a bs.length c], .agg #[.int .i64 kd, .int .i64 pt, .int .i64 x1, .int .i64 x2, .int .i64 x3]]) (by simp [results, Tryz.results39, go_sem, gz, c0, c1, hzs, t0, t1, t2, t3, t4]) rfl ?_
   exact ⟨q, a, c, bs, kd, pt, x1, x2, x3, rfl, HL.out.1, by omega, HL.out.2⟩
end Go.Proofs.YtfbmpkdjhhcnpaaGreat

namespace Fo
set_option linter.unusedVariables false
set_option linter.unusedSimpArgs false

def cnt (n : Nat) (p : Nat → Bool) : Nat := ((List.range n).filter p).length
theorem cnt_succ (n : Nat) (p : Nat → Bool) : cnt (n + 1) p = cnt n p + (if p n then 1 else 0) := by
 unfold cnt
 rw [List.range_succ, List.filter_append, List.length_append]
 cases h : p n <;> simp [h]
theorem cnt_congr {n : Nat} {p q : Nat → Bool} (h : ∀ i, i < n → p i = q i) : cnt n p = cnt n q := by
 induction n with
 | zero => rfl
 | succ n ih => rw [cnt_succ, cnt_succ, ih fun i hi => h i (by omega), h n (by omega)]
end Fo

