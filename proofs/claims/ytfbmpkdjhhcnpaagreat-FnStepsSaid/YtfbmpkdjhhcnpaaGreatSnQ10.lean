/- FindSteps of the reference. No condition but sizes. -/
import Derived.Test.YtfbmpkdjhhcnpaaGreatSnQ03
import Derived.Test.YtfbmpkdjhhcnpaaGreatSnQ01
import Derived.Test.YtfbmpkdjhhcnpaaGreatSnP21
import Derived.OwnWalk
import Derived.Test.YtfbmpkdjhhcnpaaGreatSnQ02
namespace Go.Proofs.YtfbmpkdjhhcnpaaGreat
open Go.RowKit
set_option maxRecDepth 100000
set_option linter.unusedVariables false
set_option linter.unusedSimpArgs false
def RetSB (W : World) (l : List StepT) (b : Bool) (e : Ending) (w' : World) : Prop := ∃ v, e = .returned (.tuple #[v, .bool b]) ∧ OwnSteps w' W.heap.size v l ∧ Below W.heap.size W w'
structure FndS (W w : World) (g5 : Nat) (p : Int) (a : Option Addr) (c : Nat) (x : List BarT) : Prop where
 b : Below W.heap.size W w
 bx : BoxGr w g5 p a x.length c
 f0 : w.frozen? ⟨g5, 0, none⟩ = false
 f1 : w.frozen? ⟨g5, 1, none⟩ = false
 ob : OwnBars w W.heap.size (.slice a x.length c) x
 ne : (Value.slice a x.length c).ownBlock ≠ some g5
 wl : W.heap.size ≤ g5
theorem FndS.below {W w w' : World} {g5 : Nat} {p : Int} {a : Option Addr} {c : Nat} {x : List BarT} (h : FndS W w g5 p a c x) (hb : Below w.heap.size w w') : FndS W w' g5 p a c x :=
 ⟨h.b.step hb, h.bx.below hb, ((bcell hb).2 _ _ h.bx.1).trans h.f0, ((bcell hb).2 _ _ h.bx.1).trans h.f1, h.ob.below hb, h.ne, h.wl⟩
theorem FndS.kept {W w w' : World} {g5 : Nat} {p : Int} {a : Option Addr} {c : Nat} {x : List BarT} {S : Nat → Prop} (h : FndS W w g5 p a c x) (hk : Kept S w w') (h5 : ∀ k, k ≤ g5 → ¬ S k) (hs : ∀ k, (Value.slice a x.length c).ownBlock = some k → ¬ S k) : FndS W w' g5 p a c x :=
 ⟨h.b.trans (hk.below h.b.size fun k h1 h2 => h5 k (by have := h.wl; omega) h2), h.bx.kept hk (h5 _ (Nat.le_refl _)), (hk.frozen h.bx.1 (h5 _ (Nat.le_refl _))).trans h.f0, (hk.frozen h.bx.1 (h5 _ (Nat.le_refl _))).trans h.f1, hk.ownsRow h.ob hs, h.ne, h.wl⟩
theorem FndS.set {W w : World} {g5 lo : Nat} {p : Int} {a a' : Option Addr} {c c' : Nat} {x x' : List BarT} (h : FndS W w g5 p a c x) (ho : OwnBars w lo (.slice a' x'.length c') x') (hlo : g5 + 1 ≤ lo) :
  FndS W ((w.setCell ⟨g5, 0, none⟩ (.int .i64 p)).setCell ⟨g5, 1, none⟩ (.slice a' x'.length c')) g5 p a' c' x' := by
 obtain ⟨r1, r2, r3, rk⟩ := reBox (q := p) (a' := a') (n' := x'.length) (c' := c') h.bx h.f0 h.f1
 exact ⟨h.b.trans (rk.below h.b.size fun k h1 h2 => by have := h.wl; omega), r1, r2, r3, ((ho.set (by show g5 < lo; omega) _).set (by show g5 < lo; omega) _).low (by have := h.wl; omega), fun e => by have := (ho.lt g5 e).1; omega, h.wl⟩
set_option maxHeartbeats 16000000 in
theorem specFnd_at (W : World) (p : Int) (a : Option Addr) (cap : Nat) (l : List BarT) (h : BarsAt W a l.length l) (hs : l.length ≤ 1048576) : Calls Tryz.prog 27 #[.agg #[.int .i64 p, .slice a l.length cap]] W (RetSB W (findA p l).1 (findA p l).2) := by
 have hwd := @Wd.cells
 have HGr : Hid (IsGraph W (.agg #[.int .i64 p, .slice a l.length cap]) (p, l)) := Lib.hid ⟨a, cap, rfl, h⟩
 have H1 := Lib.hid h
 clear h
 have hsz : szGraph (p, l) ≤ 1048576 := hs
 have hsz2 : szGraph (p, l) ≤ 1099511627776 := Nat.le_trans hsz (by decide)
 have B : Below W.heap.size W (W.alloc (.cells #[.int .i64 p, .slice a l.length cap] 26)) := (Below.refl _ _).alloc (Nat.le_refl _) _
 have BG : Hid (BoxGr (W.alloc (.cells #[.int .i64 p, .slice a l.length cap] 26)) W.heap.size p a l.length cap) := Lib.hid (BoxGr.at rfl)
 have hgz0 : (W.alloc (.cells #[.int .i64 p, .slice a l.length cap] 26)).heap.size = W.heap.size + 1 := by simp
 have ba := belAl (W.alloc (.cells #[.int .i64 p, .slice a l.length cap] 26)) (.cells #[] 57)
 have HO0 : Hid (OwnSteps ((W.alloc (.cells #[.int .i64 p, .slice a l.length cap] 26)).alloc (.cells #[] 57)) (W.heap.size + 1) (.slice (some ⟨W.heap.size + 1, 0, none⟩) 0 0) []) := Lib.hid (by have h9 := OwnSteps.made (W.alloc (.cells #[.int .i64 p, .slice a l.length cap] 26)) (W.heap.size + 1) (by simp); simpa using h9)
 replace B := B.step ba
 replace BG := Lib.hid (BG.out.below ba)
 have hzu : W.heap.size + 2 ≤ ((W.alloc (.cells #[.int .i64 p, .slice a l.length cap] 26)).alloc (.cells #[] 57)).heap.size := by simp
 clear ba hgz0
 go_enter Tryz.func27, Tryz.ntmps27
 go_upto_region 2 with (fail)
 generalize ((W.alloc (.cells #[.int .i64 p, .slice a l.length cap] 26)).alloc (.cells #[] 57)) = u at *
 obtain ⟨zBG, fBG0, fBG1⟩ := BG.out
 go_wp2_with fail
 clear zBG fBG0 fBG1
 refine (specMin_at u p a cap l (H1.out.below B) hs).mono ?_
 rintro e w1 ⟨rfl, b⟩
 have hz1 := b.size
 replace B := B.step b
 replace BG := Lib.hid (BG.out.below b)
 replace HO0 := Lib.hid (HO0.out.below b)
 clear b
 obtain ⟨zBG, fBG0, fBG1⟩ := BG.out
 cases hm : minB (p, l)
 ·have HE : Hid (findA p l = ([], false)) := Lib.hid (by unfold findA; rw [hm]; rfl)
  clear hm
  go_wp2_with fail
  refine bodyPost_ret (v := .tuple #[.slice (some ⟨W.heap.size + 1, 0, none⟩) 0 0, .bool false]) (by simp [results, Tryz.results27, go_sem]) rfl ?_
  rw [HE.out]
  exact ⟨_, rfl, HO0.out.low (by omega), B⟩
 cases h0 : ((l.length : Int) == 0)
 rotate_left
 ·have h00 : l.length = 0 := by rw [beq_iff_eq] at h0; omega
  have HE : Hid (findA p l = ([], false)) := Lib.hid (by unfold findA; rw [hm, h00]; rfl)
  clear hm h00
  go_wp2_with fail
  refine bodyPost_ret (v := .tuple #[.slice (some ⟨W.heap.size + 1, 0, none⟩) 0 0, .bool false]) (by simp [results, Tryz.results27, go_sem]) rfl ?_
  rw [HE.out]
  exact ⟨_, rfl, HO0.out.low (by omega), B⟩
 have hl0 : ¬ l.length = 0 := fun h => by rw [h] at h0; exact absurd h0 (by decide)
 obtain ⟨hg, hle⟩ := minB_len hm
 have HG := Lib.hid hg
 have hodd : l.length % 2 = 1 := by omega
 have hl24 := (isGraphB_bd hg).2
 have HE : Hid (findA p l = match fndL p l.length l [] with | some s => (s, true) | none => ([], false)) := Lib.hid (by unfold findA; rw [hm, show (l.length == 0) = false by simpa using hl0]; rfl)
 clear hm hg hle
 go_wp2_with fail
 clear zBG fBG0 fBG1
 refine (specCpG_at w1 p a cap l.length l (H1.out.below B) hs).mono ?_
 rintro e w2 ⟨v2, rfl, o2, b⟩
 obtain ⟨vb, ⟨a2, c2, rfl, rfl⟩, ob⟩ := o2
 dsimp only at ob
 have hz2 := b.size
 have bx := belAl w2 (.cells #[.int .i64 p, .slice a2 l.length c2] 26)
 replace B := B.step b
 replace HO0 := Lib.hid (HO0.out.below (b.step bx))
 have FS : Hid (FndS W (w2.alloc (.cells #[.int .i64 p, .slice a2 l.length c2] 26)) w2.heap.size p a2 c2 l) := Lib.hid ⟨B.step bx, BoxGr.at rfl, by simp [World.frozen?_alloc_new], by simp [World.frozen?_alloc_new], (OwnBars.below ob bx).low (by omega), fun e => by have := (ob.lt _ e).2; omega, by omega⟩
 have hg5 : W.heap.size + 2 ≤ w2.heap.size := by omega
 obtain ⟨g5, hgg⟩ : ∃ g, g = w2.heap.size := ⟨_, rfl⟩
 rw [← hgg] at FS hg5
 clear b BG B ob bx
 go_wp2_with fail
 rw [← hgg]
 generalize (w2.alloc (.cells #[.int .i64 p, .slice a2 l.length c2] 26)) = u2 at *
 clear hgg hz2
 go_loopw [4] (fun o w9 => ∃ (f : Nat) (x : List BarT) (a' : Option Addr) (c' : Nat) (out : List StepT), x.length ≤ f ∧ fndL p f x out = fndL p l.length l [] ∧ isGraphB (p, x) = true ∧ x.length % 2 = 1 ∧ x.length + 2 * out.length = l.length ∧ OwnSteps w9 (W.heap.size + 1) o out ∧ o.ownBlock ≠ some g5 ∧ FndS W w9 g5 p a' c' x) (fun _ w9 => match w9.cell? ⟨g5, 1, none⟩ with | some (.slice _ n _) => n | _ => 0)
 case atStart => exact ⟨l.length, l, a2, c2, [], Nat.le_refl _, rfl, HG.out, hodd, by simp, HO0.out, fun e => by have : W.heap.size + 1 = g5 := Option.some.inj e; omega, FS.out⟩
 case round =>
  clear FS HO0
  obtain ⟨f, x, a', c', out, hxf, hto, hgx, hxo, hxn, hos, hon, hfs⟩ := hrel
  have HTO := Lib.hid hto
  have HGX := Lib.hid hgx
  have HOS := Lib.hid hos
  have HON := Lib.hid hon
  have FS := Lib.hid hfs
  clear hto hgx hos hon hfs
  obtain ⟨ao, co, rfl, hao⟩ := HOS.out.form
  clear hao
  obtain ⟨zB, fB0, fB1⟩ := FS.out.bx
  have hx24 := (isGraphB_bd HGX.out).2
  have hzf := FS.out.b.size
  by_cases hlt : (1 : Int) < (x.length : Int)
  ·have hbx : BarsAt wr a' x.length x := by
    obtain ⟨a9, c9, e9, i9⟩ := FS.out.ob.form
    simp at e9
    obtain ⟨rfl, rfl⟩ := e9
    exact i9
   have HCU := Lib.hid (specUndo_at wr p a' c' x hbx (by omega) HGX.out)
   clear hbx
   go_wp2_with fail
   refine HCU.out.mono ?_
   rintro e w3 ⟨p', a3, n3, c3, kd, pt, s1, s2, s3, b3, rfl, bb, hno, hyes⟩
   have hz3 := bb.size
   have ba := belAl w3 (.cells #[.int .i64 p', .slice a3 n3 c3] 26)
   have bc := belAl (w3.alloc (.cells #[.int .i64 p', .slice a3 n3 c3] 26)) (.cells #[.int .i64 kd, .int .i64 pt, .int .i64 s1, .int .i64 s2, .int .i64 s3] 57)
   have HB3 := Lib.hid (bb.step (ba.step bc))
   have HFB := Lib.hid fB1
   clear HCU zB fB0 fB1
   cases b3
   ·have HN := Lib.hid (fndL_no (p := p) (f := f) (out := out) (show 1 < x.length by omega) (hno rfl))
    have HE2 : Hid (findA p l = ([], false)) := Lib.hid (by rw [HE.out, ← HTO.out, HN.out])
    clear hno hyes ba bc
    go_wp2_with fail
    refine bodyPost_ret (v := .tuple #[.slice (some ⟨w3.heap.size + 1 + 1, 0, none⟩) 0 0, .bool false]) (by simp [results, Tryz.results27, go_sem]) rfl ?_
    rw [HE2.out]
    have hm := OwnSteps.made ((w3.alloc (.cells #[.int .i64 p', .slice a3 n3 c3] 26)).alloc (.cells #[.int .i64 kd, .int .i64 pt, .int .i64 s1, .int .i64 s2, .int .i64 s3] 57)) W.heap.size (by simp; omega)
    refine ⟨_, rfl, by simpa using hm, FS.out.b.step (HB3.out.step (belAl _ _))⟩
   ·obtain ⟨l', hr, hp, rfl, ho⟩ := hyes rfl
    obtain rfl : p = p' := hp.symm
    obtain ⟨f', hf', hto'⟩ := fndL_yes (f := f) (out := out) (show 1 < x.length by omega) hxf hr
    have hl' := undoL_len hr
    have HG' := Lib.hid (undoL_graph HGX.out hr)
    have HTO' := Lib.hid (hto'.symm.trans HTO.out)
    have HF' := Lib.hid (And.intro hf' (And.intro hxo (And.intro hxn hl')))
    have hout : out.length ≤ 24 := by omega
    clear hno hyes hp hto' hr hf' hxf hxo hl'
    have bl := belAl ((w3.alloc (.cells #[.int .i64 p, .slice a3 l'.length c3] 26)).alloc (.cells #[.int .i64 kd, .int .i64 pt, .int .i64 s1, .int .i64 s2, .int .i64 s3] 57)) (.cells #[.int .i64 kd, .int .i64 pt, .int .i64 s1, .int .i64 s2, .int .i64 s3] 57)
    have HLIT : Hid (OwnSteps (((w3.alloc (.cells #[.int .i64 p, .slice a3 l'.length c3] 26)).alloc (.cells #[.int .i64 kd, .int .i64 pt, .int .i64 s1, .int .i64 s2, .int .i64 s3] 57)).alloc (.cells #[.int .i64 kd, .int .i64 pt, .int .i64 s1, .int .i64 s2, .int .i64 s3] 57)) (W.heap.size + 1) (.slice (some ⟨w3.heap.size + 1 + 1, 0, none⟩) 1 1) [(kd, pt, s1, s2, s3)]) := Lib.hid (by have h9 := OwnSteps.one ((w3.alloc (.cells #[.int .i64 p, .slice a3 l'.length c3] 26)).alloc (.cells #[.int .i64 kd, .int .i64 pt, .int .i64 s1, .int .i64 s2, .int .i64 s3] 57)) (W.heap.size + 1) (by simp; omega) kd pt s1 s2 s3; simpa using h9)
    have HOUT : Hid (StepsAt (((w3.alloc (.cells #[.int .i64 p, .slice a3 l'.length c3] 26)).alloc (.cells #[.int .i64 kd, .int .i64 pt, .int .i64 s1, .int .i64 s2, .int .i64 s3] 57)).alloc (.cells #[.int .i64 kd, .int .i64 pt, .int .i64 s1, .int .i64 s2, .int .i64 s3] 57)) ao out.length out) := Lib.hid (by
     obtain ⟨a9, c9, e9, i9⟩ := HOS.out.form
     simp at e9
     obtain ⟨rfl, rfl⟩ := e9
     exact i9.below (HB3.out.step bl))
    have FS4 := Lib.hid (FS.out.below (HB3.out.step bl))
    have HX4 : Hid (BoxGr (((w3.alloc (.cells #[.int .i64 p, .slice a3 l'.length c3] 26)).alloc (.cells #[.int .i64 kd, .int .i64 pt, .int .i64 s1, .int .i64 s2, .int .i64 s3] 57)).alloc (.cells #[.int .i64 kd, .int .i64 pt, .int .i64 s1, .int .i64 s2, .int .i64 s3] 57)) w3.heap.size p a3 l'.length c3) := Lib.hid ((BoxGr.at rfl).below (bc.step bl))
    have HO4 : Hid (OwnBars (((w3.alloc (.cells #[.int .i64 p, .slice a3 l'.length c3] 26)).alloc (.cells #[.int .i64 kd, .int .i64 pt, .int .i64 s1, .int .i64 s2, .int .i64 s3] 57)).alloc (.cells #[.int .i64 kd, .int .i64 pt, .int .i64 s1, .int .i64 s2, .int .i64 s3] 57)) wr.heap.size (.slice a3 l'.length c3) l') := Lib.hid (OwnBars.below ho (ba.step (bc.step bl)))
    have hzl : (((w3.alloc (.cells #[.int .i64 p, .slice a3 l'.length c3] 26)).alloc (.cells #[.int .i64 kd, .int .i64 pt, .int .i64 s1, .int .i64 s2, .int .i64 s3] 57)).alloc (.cells #[.int .i64 kd, .int .i64 pt, .int .i64 s1, .int .i64 s2, .int .i64 s3] 57)).heap.size = w3.heap.size + 3 := by simp
    have hg5r : g5 < wr.heap.size := FS.out.bx.1
    have hxb : ∀ k, (Value.slice a' x.length c').ownBlock = some k → k < wr.heap.size := fun k hk => (FS.out.ob.lt k hk).2
    have hob : ∀ k, (Value.slice a3 l'.length c3).ownBlock = some k → k < w3.heap.size := fun k hk => (ho.lt k hk).2
    have HBD := Lib.hid (And.intro hxb hob)
    clear ho bl ba bc FS HOS hxb hob HB3
    go_wp2_with (at_builtin; go_loud (refine appStepsAt rfl (.tmp 36) (.tmp 37) rfl rfl HLIT.out rfl HOUT.out (by first | omega | (simp; omega)) (by first | omega | (simp; omega)) ?_); intro v5 w5 h5 k5 a5; go_loud (have F5 := Lib.hid (FS4.out.kept k5 (fun k h1 h2 => by have h3 : k = w3.heap.size + 1 + 1 := Option.some.inj h2; omega) (fun k h1 h2 => by have h3 : k = w3.heap.size + 1 + 1 := Option.some.inj h2; have := HBD.out.1 k h1; omega)); have X5 := Lib.hid (HX4.out.kept k5 (fun h2 => by have h3 : w3.heap.size = w3.heap.size + 1 + 1 := Option.some.inj h2; omega)); have O5 := Lib.hid (show OwnBars w5 wr.heap.size (.slice a3 l'.length c3) l' from k5.ownsRow HO4.out (fun k h1 h2 => by have h3 : k = w3.heap.size + 1 + 1 := Option.some.inj h2; have := HBD.out.2 k h1; omega)); obtain ⟨zX, fX0, fX1⟩ := X5.out; obtain ⟨zB, fB0, fB1⟩ := F5.out.bx; have q0 := F5.out.f0; have q1 := F5.out.f1))
    go_roundw
    case rel =>
     have hne : v5.ownBlock ≠ some g5 := by
      intro e
      rcases a5 with h | h
      ·rw [h] at e
       have h3 : w3.heap.size + 1 + 1 = g5 := Option.some.inj e
       omega
      ·have := h g5 e
       omega
     have k2 : ∀ u v, Kept (fun b => b = g5) w5 ((w5.setCell ⟨g5, 0, none⟩ u).setCell ⟨g5, 1, none⟩ v) := fun u v => (keptSet' (S := fun b => b = g5) rfl).trans (keptSet' (S := fun b => b = g5) rfl)
     exact ⟨f', l', a3, c3, (kd, pt, s1, s2, s3) :: out, HF'.out.1, HTO'.out, HG'.out, by have := HF'.out; omega, by have := HF'.out; simp; omega, (k2 _ _).ownsRow h5 (fun k h1 h2 => hne (by rw [h1, h2])), hne, F5.out.set O5.out (by omega)⟩
    case measure =>
     have h9 := (F5.out.set (a' := a3) (c' := c3) (x' := l') O5.out (by omega)).bx.c1
     rw [h9, HFB.out]
     have := HF'.out
     show l'.length < x.length
     omega
  ·have hx1 : x.length = 1 := by omega
   have HE2 : Hid (findA p l = ((0, 0, (gB x 0).1, (gB x 0).2, 0) :: out, true)) := Lib.hid (by rw [HE.out, ← HTO.out, fndL_end hx1 hxf])
   obtain ⟨bb, off, ⟨y1, y2⟩, rfl, hbb, hxy, d0, d1⟩ : ∃ bb off, ∃ y : BarT, a' = some ⟨bb, off, none⟩ ∧ bb < wr.heap.size ∧ x[0]? = some y ∧ wr.cell? ⟨bb, off, none⟩ = some (.int .i64 y.1) ∧ wr.cell? ⟨bb, off + 1, none⟩ = some (.int .i64 y.2) := by
    obtain ⟨a9, c9, e9, i9⟩ := FS.out.ob.form
    simp at e9
    obtain ⟨rfl, rfl⟩ := e9
    obtain ⟨b, o, y, h1, h2, h3, h4, h5⟩ := i9.2 0 (by omega)
    exact ⟨b, o, y, h1, h2, h3, by simpa using h4, by simpa using h5⟩
   dsimp only at d0 d1
   have hgb : gB x 0 = (y1, y2) := by unfold gB; rw [hxy]; rfl
   rw [hgb] at HE2
   have hout : out.length ≤ 24 := by omega
   have HX1 := Lib.hid hx1
   clear hgb hxy hxn hxo hxf hlt
   generalize x.length = nx at *
   obtain rfl : nx = 1 := HX1.out
   go_wp2_with fail
   have s0 : wr.drew.cell? ⟨g5, 1, none⟩ = some (.slice (some ⟨bb, off, none⟩) 1 c') ∧ wr.drew.cell? ⟨bb, off, none⟩ = some (.int .i64 y1) ∧ wr.drew.cell? ⟨bb, off + 1, none⟩ = some (.int .i64 y2) := ⟨fB1, d0, d1⟩
   refine wp_regionZ (fun w' => w'.cell? ⟨g5, 1, none⟩ = some (.slice (some ⟨bb, off, none⟩) 1 c') ∧ w'.cell? ⟨bb, off, none⟩ = some (.int .i64 y1) ∧ w'.cell? ⟨bb, off + 1, none⟩ = some (.int .i64 y2)) 14 (by kernel_rfl) ?_
   have HOD := Lib.hid (OwnSteps.below (W' := wr.drew) HOS.out (Below.refl _ _).drew)
   have BD : Below W.heap.size W wr.drew := FS.out.b.step (Below.refl _ _).drew
   have hbd : bb < wr.drew.heap.size := hbb
   have hgd : g5 < wr.drew.heap.size := zB
   clear zB fB0 fB1 d0 d1 hbb FS HOS hzf
   generalize wr.drew = wd at *
   refine wpAnyZ_take (i := 0) (v := ?_) rfl (by kernel_rfl) (by kernel_rfl) (by kernel_rfl) (by kernel_rfl) (by kernel_rfl) (fun _ _ _ h => h) (s0) (by rfl) ?_ ?_
   rotate_left
   · intro x hx; obtain ⟨u1, u2, u3⟩ := hx; go_simp; try (with_reducible rfl)
   try simp only [Act.put, List.setIfInBounds_toArray, List.set_cons_zero, List.set_cons_succ, List.getElem_toArray, List.getElem_cons_zero, List.getElem_cons_succ]
   refine wpAnyZ_take (i := 1) (v := ?_) rfl (by kernel_rfl) (by kernel_rfl) (by kernel_rfl) (by kernel_rfl) (by kernel_rfl) (fun _ _ _ h => h) (s0) (by rfl) ?_ ?_
   rotate_left
   · intro x hx; obtain ⟨u1, u2, u3⟩ := hx; go_simp; try (with_reducible rfl)
   try simp only [Act.put, List.setIfInBounds_toArray, List.set_cons_zero, List.set_cons_succ, List.getElem_toArray, List.getElem_cons_zero, List.getElem_cons_succ]
   refine wpAnyZ_take (i := 2) (v := ?_) rfl (by kernel_rfl) (by kernel_rfl) (by kernel_rfl) (by kernel_rfl) (by kernel_rfl) (fun _ _ _ h => h) (s0) (by rfl) ?_ ?_
   rotate_left
   · intro x hx; obtain ⟨u1, u2, u3⟩ := hx; go_simp; try (with_reducible rfl)
   try simp only [Act.put, List.setIfInBounds_toArray, List.set_cons_zero, List.set_cons_succ, List.getElem_toArray, List.getElem_cons_zero, List.getElem_cons_succ]
   refine wpAnyZ_take (i := 3) (v := ?_) rfl (by kernel_rfl) (by kernel_rfl) (by kernel_rfl) (by kernel_rfl) (by kernel_rfl) (fun _ _ _ h => h) (s0) (by rfl) ?_ ?_
   rotate_left
   · intro x hx; obtain ⟨u1, u2, u3⟩ := hx; go_simp; try (with_reducible rfl)
   try simp only [Act.put, List.setIfInBounds_toArray, List.set_cons_zero, List.set_cons_succ, List.getElem_toArray, List.getElem_cons_zero, List.getElem_cons_succ]
   refine wpAnyZ_take (i := 4) (v := ?_) rfl (by kernel_rfl) (by kernel_rfl) (by kernel_rfl) (by kernel_rfl) (by kernel_rfl) (fun _ _ _ h => h) (s0) (by rfl) ?_ ?_
   rotate_left
   · intro x hx; obtain ⟨u1, u2, u3⟩ := hx; go_simp; try (with_reducible rfl)
   try simp only [Act.put, List.setIfInBounds_toArray, List.set_cons_zero, List.set_cons_succ, List.getElem_toArray, List.getElem_cons_zero, List.getElem_cons_succ]
   refine wpAnyZ_take (i := 5) (v := ?_) rfl (by kernel_rfl) (by kernel_rfl) (by kernel_rfl) (by kernel_rfl) (by kernel_rfl) (fun _ _ _ h => h) (s0) (by rfl) ?_ ?_
   rotate_left
   · intro x hx; obtain ⟨u1, u2, u3⟩ := hx; go_simp; try (with_reducible rfl)
   try simp only [Act.put, List.setIfInBounds_toArray, List.set_cons_zero, List.set_cons_succ, List.getElem_toArray, List.getElem_cons_zero, List.getElem_cons_succ]
   refine wpAnyZ_take (i := 6) (v := ?_) rfl (by kernel_rfl) (by kernel_rfl) (by kernel_rfl) (by kernel_rfl) (by kernel_rfl) (fun _ _ _ h => h) (s0) (by rfl) ?_ ?_
   rotate_left
   · intro x hx; obtain ⟨u1, u2, u3⟩ := hx; go_simp; try (with_reducible rfl)
   try simp only [Act.put, List.setIfInBounds_toArray, List.set_cons_zero, List.set_cons_succ, List.getElem_toArray, List.getElem_cons_zero, List.getElem_cons_succ]
   refine wpAnyZ_take (i := 7) (v := ?_) rfl (by kernel_rfl) (by kernel_rfl) (by kernel_rfl) (by kernel_rfl) (by kernel_rfl) (fun _ _ _ h => h) (s0) (by rfl) ?_ ?_
   rotate_left
   · intro x hx; obtain ⟨u1, u2, u3⟩ := hx; go_simp; try (with_reducible rfl)
   try simp only [Act.put, List.setIfInBounds_toArray, List.set_cons_zero, List.set_cons_succ, List.getElem_toArray, List.getElem_cons_zero, List.getElem_cons_succ]
   refine wpAnyZ_take (i := 8) (v := ?_) rfl (by kernel_rfl) (by kernel_rfl) (by kernel_rfl) (by kernel_rfl) (by kernel_rfl) (fun _ _ _ h => h) (s0) (by rfl) ?_ ?_
   rotate_left
   · intro x hx; obtain ⟨u1, u2, u3⟩ := hx; go_simp; try (with_reducible rfl)
   try simp only [Act.put, List.setIfInBounds_toArray, List.set_cons_zero, List.set_cons_succ, List.getElem_toArray, List.getElem_cons_zero, List.getElem_cons_succ]
   refine wpAnyZ_take (i := 9) (v := ?_) rfl (by kernel_rfl) (by kernel_rfl) (by kernel_rfl) (by kernel_rfl) (by kernel_rfl) (fun _ _ _ h => h) (s0) (by rfl) ?_ ?_
   rotate_left
   · intro x hx; obtain ⟨u1, u2, u3⟩ := hx; go_simp; try (with_reducible rfl)
   try simp only [Act.put, List.setIfInBounds_toArray, List.set_cons_zero, List.set_cons_succ, List.getElem_toArray, List.getElem_cons_zero, List.getElem_cons_succ]
   refine wpAnyZ_take (i := 10) (v := ?_) rfl (by kernel_rfl) (by kernel_rfl) (by kernel_rfl) (by kernel_rfl) (by kernel_rfl) (fun _ _ _ h => h) (s0) (by rfl) ?_ ?_
   rotate_left
   · intro x hx; obtain ⟨u1, u2, u3⟩ := hx; go_simp; try (with_reducible rfl)
   try simp only [Act.put, List.setIfInBounds_toArray, List.set_cons_zero, List.set_cons_succ, List.getElem_toArray, List.getElem_cons_zero, List.getElem_cons_succ]
   refine wpAnyZ_take (i := 12) (v := ?_) rfl (by kernel_rfl) (by kernel_rfl) (by kernel_rfl) (by kernel_rfl) (by kernel_rfl) (fun _ _ _ h => h) (s0) (by rfl) ?_ ?_
   rotate_left
   · intro x hx; obtain ⟨u1, u2, u3⟩ := hx; go_simp; try (with_reducible rfl)
   try simp only [Act.put, List.setIfInBounds_toArray, List.set_cons_zero, List.set_cons_succ, List.getElem_toArray, List.getElem_cons_zero, List.getElem_cons_succ]
   have bl := belAl wd (.cells #[.int .i64 0, .int .i64 0, .int .i64 y1, .int .i64 y2, .int .i64 0] 57)
   have HLIT := Lib.hid (OwnSteps.one wd W.heap.size BD.size 0 0 y1 y2 0)
   have HOUT : Hid (StepsAt (wd.alloc (.cells #[.int .i64 0, .int .i64 0, .int .i64 y1, .int .i64 y2, .int .i64 0] 57)) ao out.length out) := Lib.hid (by
    obtain ⟨a9, c9, e9, i9⟩ := HOD.out.form
    simp at e9
    obtain ⟨rfl, rfl⟩ := e9
    exact i9.below bl)
   have sA : (wd.alloc (.cells #[.int .i64 0, .int .i64 0, .int .i64 y1, .int .i64 y2, .int .i64 0] 57)).cell? ⟨g5, 1, none⟩ = some (.slice (some ⟨bb, off, none⟩) 1 c') ∧ (wd.alloc (.cells #[.int .i64 0, .int .i64 0, .int .i64 y1, .int .i64 y2, .int .i64 0] 57)).cell? ⟨bb, off, none⟩ = some (.int .i64 y1) ∧ (wd.alloc (.cells #[.int .i64 0, .int .i64 0, .int .i64 y1, .int .i64 y2, .int .i64 0] 57)).cell? ⟨bb, off + 1, none⟩ = some (.int .i64 y2) := ⟨(bl.cell (p := ⟨g5, 1, none⟩) hgd).trans s0.1, (bl.cell (p := ⟨bb, off, none⟩) hbd).trans s0.2.1, (bl.cell (p := ⟨bb, off + 1, none⟩) hbd).trans s0.2.2⟩
   have hzl : (wd.alloc (.cells #[.int .i64 0, .int .i64 0, .int .i64 y1, .int .i64 y2, .int .i64 0] 57)).heap.size = wd.heap.size + 1 := by simp
   have BA := Lib.hid (BD.step bl)
   have hbz := BD.size
   clear HOD bl
   refine wpAnyZ_step (i := 11) (by kernel_rfl) rfl (by rfl) ?_
   intro KK hKK
   go_simp
   refine hKK.out _ _ (.inr sA) ?_
   clear hKK KK
   try simp only [Act.put, List.setIfInBounds_toArray, List.set_cons_zero, List.set_cons_succ, List.getElem_toArray, List.getElem_cons_zero, List.getElem_cons_succ]
   refine wpAnyZ_step (i := 13) (by kernel_rfl) rfl (by rfl) ?_
   intro KK hKK
   refine stepStepsX (by rfl) _ _ (by rfl) (by rfl) HLIT.out (by rfl) HOUT.out (by simp; omega) (by omega) ?_
   intro v5 w5 h5 k5 a5
   have s5 : w5.cell? ⟨g5, 1, none⟩ = some (.slice (some ⟨bb, off, none⟩) 1 c') ∧ w5.cell? ⟨bb, off, none⟩ = some (.int .i64 y1) ∧ w5.cell? ⟨bb, off + 1, none⟩ = some (.int .i64 y2) := ⟨(k5.cell (by omega) (fun h => by have h3 : g5 = wd.heap.size := Option.some.inj h; omega)).trans sA.1, (k5.cell (by omega) (fun h => by have h3 : bb = wd.heap.size := Option.some.inj h; omega)).trans sA.2.1, (k5.cell (by omega) (fun h => by have h3 : bb = wd.heap.size := Option.some.inj h; omega)).trans sA.2.2⟩
   have B5 := Lib.hid (BA.out.trans (k5.below BA.out.size (fun k h1 h2 => by have h3 : k = wd.heap.size := Option.some.inj h2; omega)))
   have H5 := Lib.hid h5
   clear h5 k5 a5 HLIT HOUT sA BA s0
   refine hKK.out _ _ (.inr s5) ?_
   clear hKK KK
   try simp only [Act.put, List.setIfInBounds_toArray, List.set_cons_zero, List.set_cons_succ, List.getElem_toArray, List.getElem_cons_zero, List.getElem_cons_succ]
   refine wpAnyZ_step (i := 14) (by kernel_rfl) rfl (by rfl) ?_
   intro KK hKK
   go_simp
   refine hKK.out _ _ (.inl (by kernel_rfl)) ?_
   clear hKK KK
   try simp only [Act.put, List.setIfInBounds_toArray, List.set_cons_zero, List.set_cons_succ, List.getElem_toArray, List.getElem_cons_zero, List.getElem_cons_succ]
   refine wpAnyZ_step (i := 15) (by kernel_rfl) rfl (by rfl) ?_
   intro KK hKK
   go_simp
   refine hKK.out _ _ (.inl (by kernel_rfl)) ?_
   clear hKK KK
   try simp only [Act.put, List.setIfInBounds_toArray, List.set_cons_zero, List.set_cons_succ, List.getElem_toArray, List.getElem_cons_zero, List.getElem_cons_succ]
   refine wpAnyZ_done (by kernel_rfl) ?_ _
   clear s5
   go_wp2_with fail
   refine bodyPost_ret (v := .tuple #[v5, .bool true]) (by simp [results, Tryz.results27, go_sem]) rfl ?_
   rw [HE2.out]
   exact ⟨_, rfl, H5.out, B5.out⟩
structure FdiS (W w : World) (p : Int) (a : Option Addr) (c : Nat) (x : List BarT) : Prop where
 b : Below W.heap.size W w
 bx : BoxGr w W.heap.size p a x.length c
 f0 : w.frozen? ⟨W.heap.size, 0, none⟩ = false
 f1 : w.frozen? ⟨W.heap.size, 1, none⟩ = false
 ob : BarsAt W a x.length x ∨ OwnBars w (W.heap.size + 1) (.slice a x.length c) x
theorem FdiS.below {W w w' : World} {p : Int} {a : Option Addr} {c : Nat} {x : List BarT} (h : FdiS W w p a c x) (hb : Below w.heap.size w w') : FdiS W w' p a c x :=
 ⟨h.b.step hb, h.bx.below hb, ((bcell hb).2 _ _ h.bx.1).trans h.f0, ((bcell hb).2 _ _ h.bx.1).trans h.f1, h.ob.imp id fun h => h.below hb⟩
theorem FdiS.bars {W w : World} {p : Int} {a : Option Addr} {c : Nat} {x : List BarT} (h : FdiS W w p a c x) : BarsAt w a x.length x := by
 rcases h.ob with h1 | h1
 ·exact h1.below h.b
 ·obtain ⟨a9, c9, e9, i9⟩ := h1.form
  simp at e9
  obtain ⟨rfl, rfl⟩ := e9
  exact i9
theorem FdiS.app {W w w' : World} {p : Int} {a : Option Addr} {c lo : Nat} {x : List BarT} {o : Value} {q : List StepT} (h : FdiS W w p a c x) (hk : Kept (fun k => some k = o.ownBlock) w w') (ho : OwnSteps w lo o q) (hlo : W.heap.size + 1 ≤ lo) : FdiS W w' p a c x := by
 have hne : ∀ k, k < W.heap.size + 1 → ¬ some k = o.ownBlock := fun k h1 h2 => by have := (ho.lt k h2.symm).1; omega
 exact ⟨h.b.trans (hk.below h.b.size fun k h1 h2 => hne k (by omega) h2), h.bx.kept hk (hne _ (by omega)), (hk.frozen h.bx.1 (hne _ (by omega))).trans h.f0, (hk.frozen h.bx.1 (hne _ (by omega))).trans h.f1, h.ob.imp id fun h2 => hk.ownsRow h2 fun k h3 h4 => typesApart (by decide) h2 ho k h3 h4.symm⟩
theorem FdiS.set {W w : World} {lo : Nat} {p : Int} {a a' : Option Addr} {c c' : Nat} {x x' : List BarT} (h : FdiS W w p a c x) (ho : OwnBars w lo (.slice a' x'.length c') x') (hlo : W.heap.size + 1 ≤ lo) :
  FdiS W ((w.setCell ⟨W.heap.size, 0, none⟩ (.int .i64 p)).setCell ⟨W.heap.size, 1, none⟩ (.slice a' x'.length c')) p a' c' x' := by
 obtain ⟨r1, r2, r3, rk⟩ := reBox (q := p) (a' := a') (n' := x'.length) (c' := c') h.bx h.f0 h.f1
 exact ⟨h.b.trans (rk.below h.b.size fun k h1 h2 => by omega), r1, r2, r3, .inr (((ho.set (by show W.heap.size < lo; omega) _).set (by show W.heap.size < lo; omega) _).low (by omega))⟩
set_option maxHeartbeats 16000000 in
theorem implFnd_at (W : World) (p : Int) (a : Option Addr) (cap : Nat) (l : List BarT) (h : BarsAt W a l.length l) (hs : l.length ≤ 1048576) : Calls Tryz.prog 26 #[.agg #[.int .i64 p, .slice a l.length cap]] W (RetSB W (findA p l).1 (findA p l).2) := by
 have hwd := @Wd.cells
 have HGr : Hid (IsGraph W (.agg #[.int .i64 p, .slice a l.length cap]) (p, l)) := Lib.hid ⟨a, cap, rfl, h⟩
 have H1 := Lib.hid h
 clear h
 have hsz : szGraph (p, l) ≤ 1048576 := hs
 have hsz2 : szGraph (p, l) ≤ 1099511627776 := Nat.le_trans hsz (by decide)
 have B : Below W.heap.size W (W.alloc (.cells #[.int .i64 p, .slice a l.length cap] 26)) := (Below.refl _ _).alloc (Nat.le_refl _) _
 have BG : Hid (BoxGr (W.alloc (.cells #[.int .i64 p, .slice a l.length cap] 26)) W.heap.size p a l.length cap) := Lib.hid (BoxGr.at rfl)
 have FS : Hid (FdiS W (W.alloc (.cells #[.int .i64 p, .slice a l.length cap] 26)) p a cap l) := Lib.hid ⟨B, BG.out, by simp [World.frozen?_alloc_new], by simp [World.frozen?_alloc_new], .inl H1.out⟩
 have hzu : W.heap.size + 1 ≤ (W.alloc (.cells #[.int .i64 p, .slice a l.length cap] 26)).heap.size := by simp
 go_enter Tryz.func26, Tryz.ntmps26
 go_upto_region 1 with (fail)
 generalize (W.alloc (.cells #[.int .i64 p, .slice a l.length cap] 26)) = u at *
 obtain ⟨zBG, fBG0, fBG1⟩ := BG.out
 go_wp2_with fail
 clear zBG fBG0 fBG1
 refine (implMin_at u p a cap l (H1.out.below B) hs).mono ?_
 rintro e w1 ⟨rfl, b⟩
 have hz1 := b.size
 replace B := B.step b
 replace BG := Lib.hid (BG.out.below b)
 replace FS := Lib.hid (FS.out.below b)
 clear b
 obtain ⟨zBG, fBG0, fBG1⟩ := BG.out
 cases hm : minB (p, l)
 ·have HE : Hid (findA p l = ([], false)) := Lib.hid (by unfold findA; rw [hm]; rfl)
  clear hm
  go_wp2_with fail
  refine bodyPost_ret (v := .tuple #[.slice (some ⟨w1.heap.size, 0, none⟩) 0 0, .bool false]) (by simp [results, Tryz.results26, go_sem]) rfl ?_
  rw [HE.out]
  exact ⟨_, rfl, OwnSteps.made w1 W.heap.size (by omega), B.step (belAl _ _)⟩
 cases h0 : ((l.length : Int) == 0)
 rotate_left
 ·have h00 : l.length = 0 := by rw [beq_iff_eq] at h0; omega
  have HE : Hid (findA p l = ([], false)) := Lib.hid (by unfold findA; rw [hm, h00]; rfl)
  clear hm h00
  go_wp2_with fail
  refine bodyPost_ret (v := .tuple #[.slice (some ⟨w1.heap.size, 0, none⟩) 0 0, .bool false]) (by simp [results, Tryz.results26, go_sem]) rfl ?_
  rw [HE.out]
  exact ⟨_, rfl, OwnSteps.made w1 W.heap.size (by omega), B.step (belAl _ _)⟩
 have hl0 : ¬ l.length = 0 := fun h => by rw [h] at h0; exact absurd h0 (by decide)
 obtain ⟨hg, hle⟩ := minB_len hm
 have HG := Lib.hid hg
 have hodd : l.length % 2 = 1 := by omega
 have hl24 := (isGraphB_bd hg).2
 have HE : Hid (findA p l = match fndL p l.length l [] with | some s => (s, true) | none => ([], false)) := Lib.hid (by unfold findA; rw [hm, show (l.length == 0) = false by simpa using hl0]; rfl)
 have ba := belAl w1 (.cells #[] 57)
 have HO0 := Lib.hid (OwnSteps.made w1 (W.heap.size + 1) (by omega))
 replace FS := Lib.hid (FS.out.below ba)
 clear hm hg hle ba
 go_wp2_with fail
 clear zBG fBG0 fBG1 BG B
 generalize (w1.alloc (.cells #[] 57)) = u2 at *
 go_loopw [4] (fun o w9 => ∃ (f : Nat) (x : List BarT) (a' : Option Addr) (c' : Nat) (q : List StepT), x.length ≤ f ∧ fndL p f x q.reverse = fndL p l.length l [] ∧ isGraphB (p, x) = true ∧ x.length % 2 = 1 ∧ x.length + 2 * q.length = l.length ∧ OwnSteps w9 (W.heap.size + 1) o q ∧ FdiS W w9 p a' c' x) (fun _ w9 => match w9.cell? ⟨W.heap.size, 1, none⟩ with | some (.slice _ n _) => n | _ => 0)
 case atStart => exact ⟨l.length, l, a, cap, [], Nat.le_refl _, rfl, HG.out, hodd, by simp, HO0.out, FS.out⟩
 case round =>
  clear FS HO0
  obtain ⟨f, x, a', c', q, hxf, hto, hgx, hxo, hxn, hos, hfs⟩ := hrel
  have HTO := Lib.hid hto
  have HGX := Lib.hid hgx
  have HOS := Lib.hid hos
  have FS := Lib.hid hfs
  clear hto hgx hos hfs
  obtain ⟨ao, co, rfl, hao⟩ := HOS.out.form
  clear hao
  obtain ⟨zB, fB0, fB1⟩ := FS.out.bx
  have hx24 := (isGraphB_bd HGX.out).2
  have hzf := FS.out.b.size
  by_cases hlt : (1 : Int) < (x.length : Int)
  ·have HCU := Lib.hid (implUndo_at wr p a' c' x FS.out.bars (by omega) HGX.out)
   go_wp2_with fail
   refine HCU.out.mono ?_
   rintro e w3 ⟨p', a3, n3, c3, kd, pt, s1, s2, s3, b3, rfl, bb, hno, hyes⟩
   have hz3 := bb.size
   have ba := belAl w3 (.cells #[.int .i64 p', .slice a3 n3 c3] 26)
   have bc := belAl (w3.alloc (.cells #[.int .i64 p', .slice a3 n3 c3] 26)) (.cells #[.int .i64 kd, .int .i64 pt, .int .i64 s1, .int .i64 s2, .int .i64 s3] 57)
   have HB3 := Lib.hid (bb.step (ba.step bc))
   have HFB := Lib.hid fB1
   clear HCU zB fB0 fB1
   cases b3
   ·have HN := Lib.hid (fndL_no (p := p) (f := f) (out := q.reverse) (show 1 < x.length by omega) (hno rfl))
    have HE2 : Hid (findA p l = ([], false)) := Lib.hid (by rw [HE.out, ← HTO.out, HN.out])
    clear hno hyes ba bc
    go_wp2_with fail
    refine bodyPost_ret (v := .tuple #[.slice (some ⟨w3.heap.size + 1 + 1, 0, none⟩) 0 0, .bool false]) (by simp [results, Tryz.results26, go_sem]) rfl ?_
    rw [HE2.out]
    have hm := OwnSteps.made ((w3.alloc (.cells #[.int .i64 p', .slice a3 n3 c3] 26)).alloc (.cells #[.int .i64 kd, .int .i64 pt, .int .i64 s1, .int .i64 s2, .int .i64 s3] 57)) W.heap.size (by simp; omega)
    refine ⟨_, rfl, by simpa using hm, FS.out.b.step (HB3.out.step (belAl _ _))⟩
   ·obtain ⟨l', hr, hp, rfl, ho⟩ := hyes rfl
    obtain rfl : p = p' := hp.symm
    obtain ⟨f', hf', hto'⟩ := fndL_yes (f := f) (out := q.reverse) (show 1 < x.length by omega) hxf hr
    have hl' := undoL_len hr
    have HG' := Lib.hid (undoL_graph HGX.out hr)
    have HTO' := Lib.hid (hto'.symm.trans HTO.out)
    have HF' := Lib.hid (And.intro hf' (And.intro hxo (And.intro hxn hl')))
    have hout : q.length ≤ 24 := by omega
    clear hno hyes hp hto' hr hf' hxf hxo hl'
    have bl := belAl ((w3.alloc (.cells #[.int .i64 p, .slice a3 l'.length c3] 26)).alloc (.cells #[.int .i64 kd, .int .i64 pt, .int .i64 s1, .int .i64 s2, .int .i64 s3] 57)) (.cells #[.int .i64 kd, .int .i64 pt, .int .i64 s1, .int .i64 s2, .int .i64 s3] 57)
    have HLIT : Hid (StepsAt (((w3.alloc (.cells #[.int .i64 p, .slice a3 l'.length c3] 26)).alloc (.cells #[.int .i64 kd, .int .i64 pt, .int .i64 s1, .int .i64 s2, .int .i64 s3] 57)).alloc (.cells #[.int .i64 kd, .int .i64 pt, .int .i64 s1, .int .i64 s2, .int .i64 s3] 57)) (some ⟨w3.heap.size + 1 + 1, 0, none⟩) 1 [(kd, pt, s1, s2, s3)]) := Lib.hid (by
     have h9 := OwnSteps.one ((w3.alloc (.cells #[.int .i64 p, .slice a3 l'.length c3] 26)).alloc (.cells #[.int .i64 kd, .int .i64 pt, .int .i64 s1, .int .i64 s2, .int .i64 s3] 57)) (W.heap.size + 1) (by simp; omega) kd pt s1 s2 s3
     obtain ⟨a9, c9, e9, i9⟩ := h9.form
     simp at e9
     obtain ⟨rfl, rfl⟩ := e9
     simpa using i9)
    have HO4 : Hid (OwnBars (((w3.alloc (.cells #[.int .i64 p, .slice a3 l'.length c3] 26)).alloc (.cells #[.int .i64 kd, .int .i64 pt, .int .i64 s1, .int .i64 s2, .int .i64 s3] 57)).alloc (.cells #[.int .i64 kd, .int .i64 pt, .int .i64 s1, .int .i64 s2, .int .i64 s3] 57)) wr.heap.size (.slice a3 l'.length c3) l') := Lib.hid (OwnBars.below ho (ba.step (bc.step bl)))
    have HX4 : Hid (BoxGr (((w3.alloc (.cells #[.int .i64 p, .slice a3 l'.length c3] 26)).alloc (.cells #[.int .i64 kd, .int .i64 pt, .int .i64 s1, .int .i64 s2, .int .i64 s3] 57)).alloc (.cells #[.int .i64 kd, .int .i64 pt, .int .i64 s1, .int .i64 s2, .int .i64 s3] 57)) w3.heap.size p a3 l'.length c3) := Lib.hid ((BoxGr.at rfl).below (bc.step bl))
    have FS4 := Lib.hid (FS.out.below (HB3.out.step bl))
    have HOS4 := Lib.hid (OwnSteps.below HOS.out (HB3.out.step bl))
    have hzl : (((w3.alloc (.cells #[.int .i64 p, .slice a3 l'.length c3] 26)).alloc (.cells #[.int .i64 kd, .int .i64 pt, .int .i64 s1, .int .i64 s2, .int .i64 s3] 57)).alloc (.cells #[.int .i64 kd, .int .i64 pt, .int .i64 s1, .int .i64 s2, .int .i64 s3] 57)).heap.size = w3.heap.size + 3 := by simp
    have HOL := Lib.hid (fun k (hk : some k = (Value.slice ao q.length co).ownBlock) => HOS.out.lt k hk.symm)
    have hwb : W.heap.size + 1 ≤ wr.heap.size := by have := FS.out.bx.1; omega
    clear ho bl ba bc FS HOS HB3
    go_wp2_with (at_builtin; go_loud (refine appStepsAt rfl (.tmp 32) (.tmp 34) rfl rfl HOS4.out rfl HLIT.out (by first | omega | (simp; omega)) (by first | omega | (simp; omega)) ?_); intro v5 w5 h5 k5 a5; go_loud (have F5 := Lib.hid (FS4.out.app k5 HOS4.out (Nat.le_refl _)); have X5 := Lib.hid (HX4.out.kept k5 (fun h2 => by have h3 := (HOL.out _ h2).2; omega)); have O5 := Lib.hid (show OwnBars w5 wr.heap.size (.slice a3 l'.length c3) l' from k5.ownsRow HO4.out (fun k h1 h2 => typesApart (by decide) HO4.out HOS4.out k h1 h2.symm)); obtain ⟨zX, fX0, fX1⟩ := X5.out; obtain ⟨zB, fB0, fB1⟩ := F5.out.bx; have q0 := F5.out.f0; have q1 := F5.out.f1))
    go_roundw
    case rel =>
     have hne : ∀ k, v5.ownBlock = some k → k ≠ W.heap.size := fun k hk => by have := (h5.lt k hk).1; omega
     have k2 : ∀ u v, Kept (fun b => b = W.heap.size) w5 ((w5.setCell ⟨W.heap.size, 0, none⟩ u).setCell ⟨W.heap.size, 1, none⟩ v) := fun u v => (keptSet' (S := fun b => b = W.heap.size) rfl).trans (keptSet' (S := fun b => b = W.heap.size) rfl)
     exact ⟨f', l', a3, c3, q ++ [(kd, pt, s1, s2, s3)], HF'.out.1, by rw [List.reverse_append]; exact HTO'.out, HG'.out, by have := HF'.out; omega, by have := HF'.out; simp; omega, (k2 _ _).ownsRow h5 (fun k h1 h2 => hne k h1 h2), F5.out.set O5.out hwb⟩
    case measure =>
     have h9 := (F5.out.set (a' := a3) (c' := c3) (x' := l') O5.out hwb).bx.c1
     rw [h9, HFB.out]
     have := HF'.out
     show l'.length < x.length
     omega
  ·have hx1 : x.length = 1 := by omega
   have HE2 : Hid (findA p l = ((0, 0, (gB x 0).1, (gB x 0).2, 0) :: q.reverse, true)) := Lib.hid (by rw [HE.out, ← HTO.out, fndL_end hx1 hxf])
   obtain ⟨bb, off, ⟨y1, y2⟩, rfl, hbb, hxy, d0, d1⟩ : ∃ bb off, ∃ y : BarT, a' = some ⟨bb, off, none⟩ ∧ bb < wr.heap.size ∧ x[0]? = some y ∧ wr.cell? ⟨bb, off, none⟩ = some (.int .i64 y.1) ∧ wr.cell? ⟨bb, off + 1, none⟩ = some (.int .i64 y.2) := by
    obtain ⟨b, o, y, h1, h2, h3, h4, h5⟩ := FS.out.bars.2 0 (by omega)
    exact ⟨b, o, y, h1, h2, h3, by simpa using h4, by simpa using h5⟩
   dsimp only at d0 d1
   have hgb : gB x 0 = (y1, y2) := by unfold gB; rw [hxy]; rfl
   rw [hgb] at HE2
   have hout : q.length ≤ 24 := by omega
   have HX1 := Lib.hid hx1
   clear hgb hxy hxn hxo hxf hlt
   generalize x.length = nx at *
   obtain rfl : nx = 1 := HX1.out
   go_wp2_with fail
   have s0 : wr.drew.cell? ⟨W.heap.size, 1, none⟩ = some (.slice (some ⟨bb, off, none⟩) 1 c') ∧ wr.drew.cell? ⟨bb, off, none⟩ = some (.int .i64 y1) ∧ wr.drew.cell? ⟨bb, off + 1, none⟩ = some (.int .i64 y2) := ⟨fB1, d0, d1⟩
   refine wp_regionZ (fun w' => w'.cell? ⟨W.heap.size, 1, none⟩ = some (.slice (some ⟨bb, off, none⟩) 1 c') ∧ w'.cell? ⟨bb, off, none⟩ = some (.int .i64 y1) ∧ w'.cell? ⟨bb, off + 1, none⟩ = some (.int .i64 y2)) 13 (by kernel_rfl) ?_
   have HOD := Lib.hid (OwnSteps.below (W' := wr.drew) HOS.out (Below.refl _ _).drew)
   have BD : Below W.heap.size W wr.drew := FS.out.b.step (Below.refl _ _).drew
   have hbd : bb < wr.drew.heap.size := hbb
   have hgd : W.heap.size < wr.drew.heap.size := zB
   clear zB fB0 fB1 d0 d1 hbb FS HOS hzf
   generalize wr.drew = wd at *
   refine wpAnyZ_takeC (i := 0) (v := ?_) [13] rfl (by kernel_rfl) (by kernel_rfl) (by kernel_rfl) (by kernel_rfl) (by kernel_rfl) (by kernel_rfl) (fun _ _ _ h => h) (s0) (by rfl) ?_ ?_
   rotate_left
   · intro x hx; obtain ⟨u1, u2, u3⟩ := hx; go_simp; try (with_reducible rfl)
   try simp only [Act.put, List.setIfInBounds_toArray, List.set_cons_zero, List.set_cons_succ, List.getElem_toArray, List.getElem_cons_zero, List.getElem_cons_succ]
   refine wpAnyZ_takeC (i := 1) (v := ?_) [2, 3, 4, 5, 11, 12, 13] rfl (by kernel_rfl) (by kernel_rfl) (by kernel_rfl) (by kernel_rfl) (by kernel_rfl) (by kernel_rfl) (fun _ _ _ h => h) (s0) (by rfl) ?_ ?_
   rotate_left
   · intro x hx; obtain ⟨u1, u2, u3⟩ := hx; go_simp; try (with_reducible rfl)
   try simp only [Act.put, List.setIfInBounds_toArray, List.set_cons_zero, List.set_cons_succ, List.getElem_toArray, List.getElem_cons_zero, List.getElem_cons_succ]
   refine wpAnyZ_takeC (i := 2) (v := ?_) [3, 4, 5, 11, 12, 13] rfl (by kernel_rfl) (by kernel_rfl) (by kernel_rfl) (by kernel_rfl) (by kernel_rfl) (by kernel_rfl) (fun _ _ _ h => h) (s0) (by rfl) ?_ ?_
   rotate_left
   · intro x hx; obtain ⟨u1, u2, u3⟩ := hx; go_simp; try (with_reducible rfl)
   try simp only [Act.put, List.setIfInBounds_toArray, List.set_cons_zero, List.set_cons_succ, List.getElem_toArray, List.getElem_cons_zero, List.getElem_cons_succ]
   refine wpAnyZ_takeC (i := 3) (v := ?_) [4, 5, 11, 12, 13] rfl (by kernel_rfl) (by kernel_rfl) (by kernel_rfl) (by kernel_rfl) (by kernel_rfl) (by kernel_rfl) (fun _ _ _ h => h) (s0) (by rfl) ?_ ?_
   rotate_left
   · intro x hx; obtain ⟨u1, u2, u3⟩ := hx; go_simp; try (with_reducible rfl)
   try simp only [Act.put, List.setIfInBounds_toArray, List.set_cons_zero, List.set_cons_succ, List.getElem_toArray, List.getElem_cons_zero, List.getElem_cons_succ]
   refine wpAnyZ_takeC (i := 4) (v := ?_) [5, 11, 12, 13] rfl (by kernel_rfl) (by kernel_rfl) (by kernel_rfl) (by kernel_rfl) (by kernel_rfl) (by kernel_rfl) (fun _ _ _ h => h) (s0) (by rfl) ?_ ?_
   rotate_left
   · intro x hx; obtain ⟨u1, u2, u3⟩ := hx; go_simp; try (with_reducible rfl)
   try simp only [Act.put, List.setIfInBounds_toArray, List.set_cons_zero, List.set_cons_succ, List.getElem_toArray, List.getElem_cons_zero, List.getElem_cons_succ]
   refine wpAnyZ_takeC (i := 5) (v := ?_) [11, 12, 13] rfl (by kernel_rfl) (by kernel_rfl) (by kernel_rfl) (by kernel_rfl) (by kernel_rfl) (by kernel_rfl) (fun _ _ _ h => h) (s0) (by rfl) ?_ ?_
   rotate_left
   · intro x hx; obtain ⟨u1, u2, u3⟩ := hx; go_simp; try (with_reducible rfl)
   try simp only [Act.put, List.setIfInBounds_toArray, List.set_cons_zero, List.set_cons_succ, List.getElem_toArray, List.getElem_cons_zero, List.getElem_cons_succ]
   refine wpAnyZ_takeC (i := 6) (v := ?_) [7, 8, 9, 10, 11, 12, 13] rfl (by kernel_rfl) (by kernel_rfl) (by kernel_rfl) (by kernel_rfl) (by kernel_rfl) (by kernel_rfl) (fun _ _ _ h => h) (s0) (by rfl) ?_ ?_
   rotate_left
   · intro x hx; obtain ⟨u1, u2, u3⟩ := hx; go_simp; try (with_reducible rfl)
   try simp only [Act.put, List.setIfInBounds_toArray, List.set_cons_zero, List.set_cons_succ, List.getElem_toArray, List.getElem_cons_zero, List.getElem_cons_succ]
   refine wpAnyZ_takeC (i := 7) (v := ?_) [8, 9, 10, 11, 12, 13] rfl (by kernel_rfl) (by kernel_rfl) (by kernel_rfl) (by kernel_rfl) (by kernel_rfl) (by kernel_rfl) (fun _ _ _ h => h) (s0) (by rfl) ?_ ?_
   rotate_left
   · intro x hx; obtain ⟨u1, u2, u3⟩ := hx; go_simp; try (with_reducible rfl)
   try simp only [Act.put, List.setIfInBounds_toArray, List.set_cons_zero, List.set_cons_succ, List.getElem_toArray, List.getElem_cons_zero, List.getElem_cons_succ]
   refine wpAnyZ_takeC (i := 8) (v := ?_) [9, 10, 11, 12, 13] rfl (by kernel_rfl) (by kernel_rfl) (by kernel_rfl) (by kernel_rfl) (by kernel_rfl) (by kernel_rfl) (fun _ _ _ h => h) (s0) (by rfl) ?_ ?_
   rotate_left
   · intro x hx; obtain ⟨u1, u2, u3⟩ := hx; go_simp; try (with_reducible rfl)
   try simp only [Act.put, List.setIfInBounds_toArray, List.set_cons_zero, List.set_cons_succ, List.getElem_toArray, List.getElem_cons_zero, List.getElem_cons_succ]
   refine wpAnyZ_takeC (i := 9) (v := ?_) [10, 11, 12, 13] rfl (by kernel_rfl) (by kernel_rfl) (by kernel_rfl) (by kernel_rfl) (by kernel_rfl) (by kernel_rfl) (fun _ _ _ h => h) (s0) (by rfl) ?_ ?_
   rotate_left
   · intro x hx; obtain ⟨u1, u2, u3⟩ := hx; go_simp; try (with_reducible rfl)
   try simp only [Act.put, List.setIfInBounds_toArray, List.set_cons_zero, List.set_cons_succ, List.getElem_toArray, List.getElem_cons_zero, List.getElem_cons_succ]
   refine wpAnyZ_takeC (i := 10) (v := ?_) [11, 12, 13] rfl (by kernel_rfl) (by kernel_rfl) (by kernel_rfl) (by kernel_rfl) (by kernel_rfl) (by kernel_rfl) (fun _ _ _ h => h) (s0) (by rfl) ?_ ?_
   rotate_left
   · intro x hx; obtain ⟨u1, u2, u3⟩ := hx; go_simp; try (with_reducible rfl)
   try simp only [Act.put, List.setIfInBounds_toArray, List.set_cons_zero, List.set_cons_succ, List.getElem_toArray, List.getElem_cons_zero, List.getElem_cons_succ]
   refine wpAnyZ_takeC (i := 11) (v := ?_) [12, 13] rfl (by kernel_rfl) (by kernel_rfl) (by kernel_rfl) (by kernel_rfl) (by kernel_rfl) (by kernel_rfl) (fun _ _ _ h => h) (s0) (by rfl) ?_ ?_
   rotate_left
   · intro x hx; obtain ⟨u1, u2, u3⟩ := hx; go_simp; try (with_reducible rfl)
   try simp only [Act.put, List.setIfInBounds_toArray, List.set_cons_zero, List.set_cons_succ, List.getElem_toArray, List.getElem_cons_zero, List.getElem_cons_succ]
   have bl := belAl wd (.cells #[.int .i64 0, .int .i64 0, .int .i64 y1, .int .i64 y2, .int .i64 0] 57)
   have HLIT : Hid (StepsAt (wd.alloc (.cells #[.int .i64 0, .int .i64 0, .int .i64 y1, .int .i64 y2, .int .i64 0] 57)) (some ⟨wd.heap.size, 0, none⟩) 1 [(0, 0, y1, y2, 0)]) := Lib.hid (by
    have h9 := OwnSteps.one wd W.heap.size BD.size 0 0 y1 y2 0
    obtain ⟨a9, c9, e9, i9⟩ := h9.form
    simp at e9
    obtain ⟨rfl, rfl⟩ := e9
    exact i9)
   have HOA := Lib.hid (HOD.out.below bl)
   have sA : (wd.alloc (.cells #[.int .i64 0, .int .i64 0, .int .i64 y1, .int .i64 y2, .int .i64 0] 57)).cell? ⟨W.heap.size, 1, none⟩ = some (.slice (some ⟨bb, off, none⟩) 1 c') ∧ (wd.alloc (.cells #[.int .i64 0, .int .i64 0, .int .i64 y1, .int .i64 y2, .int .i64 0] 57)).cell? ⟨bb, off, none⟩ = some (.int .i64 y1) ∧ (wd.alloc (.cells #[.int .i64 0, .int .i64 0, .int .i64 y1, .int .i64 y2, .int .i64 0] 57)).cell? ⟨bb, off + 1, none⟩ = some (.int .i64 y2) := ⟨(bl.cell (p := ⟨W.heap.size, 1, none⟩) hgd).trans s0.1, (bl.cell (p := ⟨bb, off, none⟩) hbd).trans s0.2.1, (bl.cell (p := ⟨bb, off + 1, none⟩) hbd).trans s0.2.2⟩
   have hzl : (wd.alloc (.cells #[.int .i64 0, .int .i64 0, .int .i64 y1, .int .i64 y2, .int .i64 0] 57)).heap.size = wd.heap.size + 1 := by simp
   have BA := Lib.hid (BD.step bl)
   have hbz := BD.size
   clear HOD bl
   refine wpAnyZ_step (i := 12) (by kernel_rfl) rfl (by rfl) ?_
   intro KK hKK
   go_simp
   refine hKK.out _ _ (.inr sA) ?_
   clear hKK KK
   try simp only [Act.put, List.setIfInBounds_toArray, List.set_cons_zero, List.set_cons_succ, List.getElem_toArray, List.getElem_cons_zero, List.getElem_cons_succ]
   refine wpAnyZ_step (i := 13) (by kernel_rfl) rfl (by rfl) ?_
   intro KK hKK
   refine stepStepsX (by rfl) _ _ (by rfl) (by rfl) HOA.out (by rfl) HLIT.out (by omega) (by omega) ?_
   intro v5 w5 h5 k5 a5
   have H5 := Lib.hid h5
   have B5 := Lib.hid (BA.out.trans (k5.below BA.out.size (fun k h1 h2 => by have := (HOA.out.lt k h2.symm).1; omega)))
   refine hKK.out _ _ (.inl (by kernel_rfl)) ?_
   clear hKK KK
   try simp only [Act.put, List.setIfInBounds_toArray, List.set_cons_zero, List.set_cons_succ, List.getElem_toArray, List.getElem_cons_zero, List.getElem_cons_succ]
   clear h5 k5 a5 HLIT HOA sA BA s0
   refine wpAnyZ_step (i := 14) (by kernel_rfl) rfl (by rfl) ?_
   intro KK hKK
   go_simp
   refine hKK.out _ _ (.inl (by kernel_rfl)) ?_
   clear hKK KK
   try simp only [Act.put, List.setIfInBounds_toArray, List.set_cons_zero, List.set_cons_succ, List.getElem_toArray, List.getElem_cons_zero, List.getElem_cons_succ]
   refine wpAnyZ_done (by kernel_rfl) ?_ _
   go_wp2_with fail
   refine (reverse_own w5 _ v5 _ H5.out (by simp; omega)).mono ?_
   rintro e w6 ⟨rfl, o6, k6⟩
   have H6 := Lib.hid o6
   have B6 := Lib.hid (B5.out.trans (k6.below B5.out.size (fun k h1 h2 => by have := (H5.out.lt k h2.symm).1; omega)))
   clear o6 k6
   go_wp2_with fail
   refine bodyPost_ret (v := .tuple #[v5, .bool true]) (by simp [results, Tryz.results26, go_sem]) rfl ?_
   rw [HE2.out]
   exact ⟨_, rfl, by have h9 := H6.out; rw [List.reverse_append] at h9; exact h9.low (by omega), B6.out⟩
theorem fndL_len {p : Int} : ∀ (f : Nat) (l : List BarT) (out s : List StepT), fndL p f l out = some s → s.length ≤ out.length + l.length + 1
 | 0, l, out, s, h => by simp [fndL] at h
 | f + 1, l, out, s, h => by
  unfold fndL at h
  split at h
  ·rename_i h1
   cases hu : undoL p l with
   | none => rw [hu] at h; simp at h
   | some r =>
    obtain ⟨x, t⟩ := r
    rw [hu] at h
    have h2 := undoL_len hu
    have h3 := fndL_len f x (t :: out) s h
    simp at h3
    omega
  ·simp at h
   rw [← h]
   simp
def fsA (g : GraphT) : List StepT := (findA g.1 g.2).1
def fsB (g : GraphT) : Bool := (findA g.1 g.2).2
theorem fsA_len (g : GraphT) : (fsA g).length ≤ 1048576 := by
 obtain ⟨p, l⟩ := g
 unfold fsA findA
 dsimp only
 split
 ·rename_i h
  simp only [Bool.and_eq_true] at h
  have h1 := (isGraphB_bd (minB_len h.1).1).2
  cases hf : fndL p l.length l [] with
  | none => simp
  | some s =>
   have := fndL_len _ _ _ _ hf
   simp at this ⊢
   omega
 ·simp
theorem spec_FindSteps (W : World) (v : Value) (g : GraphT) (h : IsGraph W v g) (hn : szGraph g ≤ 1048576) : Calls Tryz.prog 27 #[v] W (RetSB W (fsA g) (fsB g)) := by
 obtain ⟨p, l⟩ := g
 obtain ⟨a, cap, rfl, hi⟩ := h
 exact specFnd_at _ _ _ _ _ hi hn
theorem impl_FindSteps (W : World) (v : Value) (g : GraphT) (h : IsGraph W v g) (hn : szGraph g ≤ 1048576) : Calls Tryz.prog 26 #[v] W (RetSB W (fsA g) (fsB g)) := by
 obtain ⟨p, l⟩ := g
 obtain ⟨a, cap, rfl, hi⟩ := h
 exact implFnd_at _ _ _ _ _ hi hn
end Go.Proofs.YtfbmpkdjhhcnpaaGreat

