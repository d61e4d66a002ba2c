/- ApplyStep of both sides: one step on a graph, as stepF says. No condition but sizes and, for the reference, room behind the bars. -/
import Derived.Test.YtfbmpkdjhhcnpaaGreatSnQ06
import Derived.Test.YtfbmpkdjhhcnpaaGreatSnQ07
import Derived.Test.YtfbmpkdjhhcnpaaGreatSnQ08
import Derived.Test.YtfbmpkdjhhcnpaaGreatSnQ09
import Derived.Test.YtfbmpkdjhhcnpaaGreatSnP23
import Derived.OwnWalk
import Derived.Deep.RegionHeld3
import Derived.Deep.CutRange
namespace Go.Proofs.YtfbmpkdjhhcnpaaGreat
open Go.RowKit
set_option maxRecDepth 100000
set_option linter.unusedVariables false
set_option linter.unusedSimpArgs false

def stepV (s : StepT) : Value := .agg #[.int .i64 s.1, .int .i64 s.2.1, .int .i64 s.2.2.1, .int .i64 s.2.2.2.1, .int .i64 s.2.2.2.2]
theorem specApp_all (W : World) (p : Int) (a : Option Addr) (cap : Nat) (l : List BarT) (h : BarsAt W a l.length l) (hs : l.length ≤ 1048576) (hcap : l.length ≤ cap) (hcm : cap ≤ 9223372036854775807) (s : StepT) :
  Calls Tryz.prog 41 #[.agg #[.int .i64 p, .slice a l.length cap], stepV s] W (RetGB W (stepF (p, l) s).1 (stepF (p, l) s).2) := by
 obtain ⟨kd, pt, x, y, z⟩ := s
 by_cases hb : isGraphB (p, l) = false ∨ 21 < l.length
 ·exact specAppG W p a cap l h hs hcap hcm kd pt x y z hb
 have hg : isGraphB (p, l) = true := by
  cases e : isGraphB (p, l)
  ·exact absurd (.inl e) hb
  ·rfl
 have hl : l.length ≤ 21 := by
  by_cases e : 21 < l.length
  ·exact absurd (.inr e) hb
  ·omega
 cases k0 : (kd == 0)
 ·cases k1 : (kd == 1)
  ·cases k2 : (kd == 2)
   ·exact specApp3 W p a cap l h hs hcap hcm kd pt x y z hg hl k0 k1 k2
   ·exact specApp2 W p a cap l h hs hcap hcm kd pt x y z hg hl k0 k1 k2
  ·have k2 : (kd == 2) = false := by have := eq_of_beq k1; rw [this]; rfl
   exact specApp1 W p a cap l h hs hcap hcm kd pt x y z hg hl k0 k1 k2
 ·have k1 : (kd == 1) = false := by have := eq_of_beq k0; rw [this]; rfl
  have k2 : (kd == 2) = false := by have := eq_of_beq k0; rw [this]; rfl
  exact specApp0 W p a cap l h hs hcap hcm kd pt x y z hg hl k0 k1 k2
theorem implApp_all (W : World) (p : Int) (a : Option Addr) (cap : Nat) (l : List BarT) (h : BarsAt W a l.length l) (hs : l.length ≤ 1048576) (s : StepT) :
  Calls Tryz.prog 40 #[.agg #[.int .i64 p, .slice a l.length cap], stepV s] W (RetGB W (stepF (p, l) s).1 (stepF (p, l) s).2) := by
 obtain ⟨kd, pt, x, y, z⟩ := s
 by_cases hb : isGraphB (p, l) = false ∨ 21 < l.length
 ·exact implAppG W p a cap l h hs kd pt x y z hb
 have hg : isGraphB (p, l) = true := by
  cases e : isGraphB (p, l)
  ·exact absurd (.inl e) hb
  ·rfl
 have hl : l.length ≤ 21 := by
  by_cases e : 21 < l.length
  ·exact absurd (.inr e) hb
  ·omega
 cases k0 : (kd == 0)
 ·cases k1 : (kd == 1)
  ·cases k2 : (kd == 2)
   ·exact implApp3 W p a cap l h hs kd pt x y z hg hl k0 k1 k2
   ·exact implApp2 W p a cap l h hs kd pt x y z hg hl k0 k1 k2
  ·have k2 : (kd == 2) = false := by have := eq_of_beq k1; rw [this]; rfl
   exact implApp1 W p a cap l h hs kd pt x y z hg hl k0 k1 k2
 ·have k1 : (kd == 1) = false := by have := eq_of_beq k0; rw [this]; rfl
  have k2 : (kd == 2) = false := by have := eq_of_beq k0; rw [this]; rfl
  exact implApp0 W p a cap l h hs kd pt x y z hg hl k0 k1 k2
theorem spec_ApplyStep (W : World) (v : Value) (g : GraphT) (h : ∃ lo hi, HGraph W lo hi v g) (s : StepT) (hs : szGraph g ≤ 1048576) : Calls Tryz.prog 41 #[v, stepV s] W (RetGB W (stepF g s).1 (stepF g s).2) := by
 obtain ⟨p, l⟩ := g
 obtain ⟨lo, hi, vb, ⟨a, cap, rfl, rfl⟩, ho⟩ := h
 obtain ⟨hc, hm⟩ := ho.1.cap
 obtain ⟨a9, c9, e9, i9⟩ := ho.1.form
 simp at e9
 obtain ⟨rfl, rfl⟩ := e9
 exact specApp_all W p a cap l i9 hs hc hm s
theorem impl_ApplyStep (W : World) (v : Value) (g : GraphT) (h : IsGraph W v g) (s : StepT) (hs : szGraph g ≤ 1048576) : Calls Tryz.prog 40 #[v, stepV s] W (RetGB W (stepF g s).1 (stepF g s).2) := by
 obtain ⟨p, l⟩ := g
 obtain ⟨a, cap, rfl, hi⟩ := h
 exact implApp_all W p a cap l hi hs s
end Go.Proofs.YtfbmpkdjhhcnpaaGreat

namespace Go.Proofs.YtfbmpkdjhhcnpaaGreat
open Go.RowKit
set_option maxRecDepth 100000
set_option linter.unusedVariables false
set_option linter.unusedSimpArgs false

def bldTo (n : Int) (l : List StepT) : Nat → Option GraphT
 | 0 => some (n, [])
 | k + 1 => match bldTo n l k, l[k]? with
  | some g, some s => if (stepF g s).2 = true then some (stepF g s).1 else none
  | _, _ => none
def bldF (n : Int) (l : List StepT) : GraphT × Bool :=
 if inB n 1 8 = true then match bldTo n l l.length with
  | some g => (g, true)
  | none => ((0, []), false)
 else ((0, []), false)
theorem bldTo_none {n : Int} {l : List StepT} {k : Nat} (h : bldTo n l k = none) : ∀ d, bldTo n l (k + d) = none
 | 0 => h
 | d + 1 => by
  show (match bldTo n l (k + d), l[k + d]? with
   | some g, some s => if (stepF g s).2 = true then some (stepF g s).1 else none
   | _, _ => none) = none
  rw [bldTo_none h d]
theorem bldTo_yes {n : Int} {l : List StepT} {k : Nat} {g : GraphT} {s : StepT} (h : bldTo n l k = some g) (hs : l[k]? = some s) (ho : (stepF g s).2 = true) : bldTo n l (k + 1) = some (stepF g s).1 := by
 show (match bldTo n l k, l[k]? with
   | some g, some s => if (stepF g s).2 = true then some (stepF g s).1 else none
   | _, _ => none) = _
 rw [h, hs]
 exact if_pos ho
theorem bldTo_no {n : Int} {l : List StepT} {k : Nat} {g : GraphT} {s : StepT} (h : bldTo n l k = some g) (hs : l[k]? = some s) (ho : (stepF g s).2 = false) : bldTo n l l.length = none := by
 have hk := lt_of_getElem? hs
 have h1 : bldTo n l (k + 1) = none := by
  show (match bldTo n l k, l[k]? with
   | some g, some s => if (stepF g s).2 = true then some (stepF g s).1 else none
   | _, _ => none) = none
  rw [h, hs]
  exact if_neg (by rw [ho]; simp)
 have h2 := bldTo_none h1 (l.length - (k + 1))
 rwa [show k + 1 + (l.length - (k + 1)) = l.length by omega] at h2
theorem stepF_24 (g : GraphT) (s : StepT) (h : g.2.length ≤ 24) : (stepF g s).1.2.length ≤ 24 := by
 have h1 := stepF_len g s
 by_cases hl : g.2.length ≤ 21
 ·omega
 ·have e : stepF g s = (g, false) := by unfold stepF; rw [decide_eq_false hl, Bool.and_false]; rfl
  rw [e]; exact h
theorem bldTo_24 {n : Int} {l : List StepT} : ∀ {k : Nat} {g : GraphT}, bldTo n l k = some g → g.2.length ≤ 24
 | 0, g, h => by cases h; exact Nat.zero_le _
 | k + 1, g, h => by
  have h' : (match bldTo n l k, l[k]? with
   | some g, some s => if (stepF g s).2 = true then some (stepF g s).1 else none
   | _, _ => none) = some g := h
  cases e1 : bldTo n l k with
  | none => rw [e1] at h'; cases h'
  | some g0 =>
   cases e2 : l[k]? with
   | none => rw [e1, e2] at h'; cases h'
   | some s =>
    rw [e1, e2] at h'
    dsimp only at h'
    split at h'
    ·have := Option.some.inj h'
     rw [← this]
     exact stepF_24 g0 s (bldTo_24 e1)
    ·cases h'
theorem bldF_sz (n : Int) (l : List StepT) : szGraph (bldF n l).1 ≤ 24 := by
 unfold bldF
 split
 ·cases e : bldTo n l l.length with
  | none => exact Nat.zero_le _
  | some g => exact bldTo_24 e
 ·exact Nat.zero_le _
structure BldS (W w : World) (G base : Nat) (p : Int) (a : Option Addr) (c : Nat) (l : List BarT) : Prop where
 bx : BoxGr w G p a l.length c
 f0 : w.frozen? ⟨G, 0, none⟩ = false
 f1 : w.frozen? ⟨G, 1, none⟩ = false
 ob : OwnBars w base (.slice a l.length c) l
 wl : W.heap.size ≤ G
 rz : Zer2 w W.heap.size
 b : Below W.heap.size W w
 sz : base ≤ w.heap.size
theorem BldS.below {W w w' : World} {G base : Nat} {p : Int} {a : Option Addr} {c : Nat} {l : List BarT} (h : BldS W w G base p a c l) (hb : Below w.heap.size w w') : BldS W w' G base p a c l :=
 ⟨h.bx.below hb, ((bcell hb).2 _ _ h.bx.1).trans h.f0, ((bcell hb).2 _ _ h.bx.1).trans h.f1, h.ob.below hb, h.wl, h.rz.below hb, h.b.step hb, Nat.le_trans h.sz hb.size⟩
theorem BldS.set {W w : World} {G base lo : Nat} {p p' : Int} {a a' : Option Addr} {c c' : Nat} {l l' : List BarT} (h : BldS W w G base p a c l) (hG : G ≠ W.heap.size) (ho : OwnBars w lo (.slice a' l'.length c') l') (hlo : base ≤ lo) (hgb : G < lo) :
  BldS W ((w.setCell ⟨G, 0, none⟩ (.int .i64 p')).setCell ⟨G, 1, none⟩ (.slice a' l'.length c')) G base p' a' c' l' := by
 obtain ⟨r1, r2, r3, rk⟩ := reBox (q := p') (a' := a') (n' := l'.length) (c' := c') h.bx h.f0 h.f1
 have hwl := h.wl
 exact ⟨r1, r2, r3, ((ho.set (p := ⟨G, 0, none⟩) (by simp; omega) _).set (p := ⟨G, 1, none⟩) (by simp; omega) _).low hlo, h.wl, h.rz.kept rk (fun e => hG e.symm), (h.b.setCell (p := ⟨G, 0, none⟩) (by simp; exact h.wl) _).setCell (p := ⟨G, 1, none⟩) (by simp; exact h.wl) _, Nat.le_trans h.sz rk.size⟩

set_option maxHeartbeats 16000000 in
theorem implBld_at (W : World) (n : Int) (va : Option Addr) (m vcap : Nat) (s : List StepT) (hv : StepsAt W va m s) (hm : m ≤ 1048576) :
  Calls Tryz.prog 34 #[.int .i64 n, .slice va m vcap] W (RetGB W (bldF n s).1 (bldF n s).2) := by
 have HV := Lib.hid hv
 have HL := Lib.hid hv.1
 clear hv
 have HZ : Hid (Zer2 (W.alloc (.cells #[.int .i64 0, .slice none 0 0] 26)) W.heap.size) := Lib.hid (Zer2.at W _)
 have B := belAl W (.cells #[.int .i64 0, .slice none 0 0] 26)
 have hz : W.heap.size + 1 ≤ (W.alloc (.cells #[.int .i64 0, .slice none 0 0] 26)).heap.size := by simp
 have hz' : (W.alloc (.cells #[.int .i64 0, .slice none 0 0] 26)).heap.size ≤ W.heap.size + 1 := by simp
 cases hb : inB n 1 8
 ·have HE : Hid (bldF n s = ((0, []), false)) := Lib.hid (by unfold bldF; rw [hb]; rfl)
  have HW : Hid (∀ w, Calls Tryz.prog 47 #[.int .i64 n, .int .i64 1, .int .i64 8] w fun e w' => e = .returned (.bool false) ∧ w = w') := Lib.hid fun w => by have := within_any n 1 8 w; rwa [hb] at this
  clear hb
  go_enter Tryz.func34, Tryz.ntmps34
  go_upto_region 1 with (fail)
  generalize (W.alloc (.cells #[.int .i64 0, .slice none 0 0] 26)) = u at *
  obtain ⟨⟨r0, r1, r2, c0, c1x⟩, ⟨y0, y1⟩, zg⟩ := HZ.out
  go_wp2_with (go_at_call 47; refine (HW.out _).mono ?_; rintro e w1 ⟨rfl, rfl⟩)
  refine bodyPost_ret (v := .tuple #[.agg #[.int .i64 0, .slice none 0 0], .bool false]) (by simp [results, Tryz.results34, go_sem, zg, c0, c1x]) rfl ?_
  rw [HE.out]
  exact ⟨_, rfl, ⟨.slice none 0 0, ⟨none, 0, rfl, rfl⟩, OwnBars.nil _ _⟩, (B.setCell (p := ⟨W.heap.size, 0, none⟩) (by simp) _).setCell (p := ⟨W.heap.size, 1, none⟩) (by simp) _⟩
 have HW : Hid (∀ w, Calls Tryz.prog 47 #[.int .i64 n, .int .i64 1, .int .i64 8] w fun e w' => e = .returned (.bool true) ∧ w = w') := Lib.hid fun w => by have := within_any n 1 8 w; rwa [hb] at this
 have HS : Hid (bldF n s = match bldTo n s s.length with | some g => (g, true) | none => ((0, []), false)) := Lib.hid (by unfold bldF; rw [hb]; rfl)
 clear hb
 have bs0 := belAl (W.alloc (.cells #[.int .i64 0, .slice none 0 0] 26)) (.cells #[.int .i64 n, .slice none 0 0] 26)
 have BS : Hid (BldS W ((W.alloc (.cells #[.int .i64 0, .slice none 0 0] 26)).alloc (.cells #[.int .i64 n, .slice none 0 0] 26)) (W.heap.size + 1) (W.heap.size + 2) n none 0 []) := Lib.hid ⟨BoxGr.at (by simp), by simp, by simp, OwnBars.nil _ _, by omega, HZ.out.below bs0, B.step bs0, by simp⟩
 clear B HZ bs0
 go_enter Tryz.func34, Tryz.ntmps34
 go_wp2_with (go_at_call 47; refine (HW.out _).mono ?_; rintro e w1 ⟨rfl, rfl⟩)
 generalize ((W.alloc (.cells #[.int .i64 0, .slice none 0 0] 26)).alloc (.cells #[.int .i64 n, .slice none 0 0] 26)) = u at *
 go_loopw [19] (fun i w9 => ∃ (k : Nat) (p : Int) (a : Option Addr) (c : Nat) (l : List BarT), k ≤ m ∧ i = .int .i64 k ∧ bldTo n s k = some (p, l) ∧ BldS W w9 (W.heap.size + 1) (W.heap.size + 2) p a c l) (fun i _ => m - (intOf i).toNat)
 case atStart => exact ⟨0, n, none, 0, [], Nat.zero_le _, rfl, rfl, BS.out⟩
 case round =>
  clear BS
  obtain ⟨k, p, a, c, l, hk, rfl, hto, hbs⟩ := hrel
  have HT := Lib.hid hto
  have BS := Lib.hid hbs
  have h24 : l.length ≤ 24 := bldTo_24 hto
  clear hto hbs
  by_cases hlt : k < m
  ·obtain ⟨b, off, ⟨kd, pt, x, y, z⟩, rfl, hbl, hx, d0, d1, d2, d3, d4⟩ := (HV.out.below BS.out.b).2 k hlt
   dsimp only at d0 d1 d2 d3 d4
   have HX := Lib.hid hx
   clear hx
   have hki : (k : Int) < (m : Int) := by omega
   have hk0 : (0 : Int) ≤ (k : Int) := by omega
   have b1 := belAl wr (.cells #[.int .i64 kd, .int .i64 pt, .int .i64 x, .int .i64 y, .int .i64 z] 57)
   have ST : Hid (BoxSt (wr.alloc (.cells #[.int .i64 kd, .int .i64 pt, .int .i64 x, .int .i64 y, .int .i64 z] 57)) wr.heap.size kd pt x y z) := Lib.hid (BoxSt.at rfl)
   have BS1 := Lib.hid (BS.out.below b1)
   have HI : Hid (IsGraph (wr.alloc (.cells #[.int .i64 kd, .int .i64 pt, .int .i64 x, .int .i64 y, .int .i64 z] 57)) (.agg #[.int .i64 p, .slice a l.length c]) (p, l)) := Lib.hid (OwnGraph.form ⟨_, ⟨a, c, rfl, rfl⟩, BS1.out.ob⟩)
   obtain ⟨zST, fS0, fS1, fS2, fS3, fS4⟩ := ST.out
   obtain ⟨zB, fB0, fB1⟩ := BS1.out.bx
   have hzr : (wr.alloc (.cells #[.int .i64 kd, .int .i64 pt, .int .i64 x, .int .i64 y, .int .i64 z] 57)).heap.size = wr.heap.size + 1 := by simp
   go_wp2_with fail
   generalize (wr.alloc (.cells #[.int .i64 kd, .int .i64 pt, .int .i64 x, .int .i64 y, .int .i64 z] 57)) = w1 at *
   clear zST fS0 fS1 fS2 fS3 fS4 zB fB0 fB1 d0 d1 d2 d3 d4
   have HC := Lib.hid (impl_ApplyStep w1 _ (p, l) HI.out (kd, pt, x, y, z) (show l.length ≤ 1048576 by omega))
   obtain ⟨⟨p', l'⟩, hR⟩ : ∃ R, R = (stepF (p, l) (kd, pt, x, y, z)).1 := ⟨_, rfl⟩
   cases ho : (stepF (p, l) (kd, pt, x, y, z)).2
   ·have HN := Lib.hid (bldTo_no HT.out HX.out ho)
    have HE : Hid (bldF n s = ((0, []), false)) := Lib.hid (by rw [HS.out, HN.out])
    rw [ho, ← hR] at HC
    clear ho hR
    refine HC.out.mono ?_
    rintro e w2 ⟨v2, rfl, o2, b2⟩
    obtain ⟨vb2, ⟨a2, c2, rfl, rfl⟩, ob2⟩ := o2
    dsimp only at ob2
    have b3 := belAl w2 (.cells #[.int .i64 p', .slice a2 l'.length c2] 26)
    have BS3 := Lib.hid ((BS1.out.below b2).below b3)
    obtain ⟨⟨r0, r1, r2, c0, c1x⟩, ⟨y0, y1⟩, zg⟩ := BS3.out.rz
    go_wp2_with fail
    refine bodyPost_ret (v := .tuple #[.agg #[.int .i64 0, .slice none 0 0], .bool false]) (by simp [results, Tryz.results34, go_sem, zg, c0, c1x]) rfl ?_
    rw [HE.out]
    exact ⟨_, rfl, ⟨.slice none 0 0, ⟨none, 0, rfl, rfl⟩, OwnBars.nil _ _⟩, (BS3.out.b.setCell (p := ⟨W.heap.size, 0, none⟩) (by simp) _).setCell (p := ⟨W.heap.size, 1, none⟩) (by simp) _⟩
   ·have HY := Lib.hid (bldTo_yes HT.out HX.out ho)
    rw [← hR] at HY
    rw [ho, ← hR] at HC
    clear ho hR
    refine HC.out.mono ?_
    rintro e w2 ⟨v2, rfl, o2, b2⟩
    obtain ⟨vb2, ⟨a2, c2, rfl, rfl⟩, ob2⟩ := o2
    dsimp only at ob2
    have hz2 := b2.size
    have b3 := belAl w2 (.cells #[.int .i64 p', .slice a2 l'.length c2] 26)
    have BS3 := Lib.hid ((BS1.out.below b2).below b3)
    have BX : Hid (BoxGr (w2.alloc (.cells #[.int .i64 p', .slice a2 l'.length c2] 26)) w2.heap.size p' a2 l'.length c2) := Lib.hid (BoxGr.at rfl)
    have hsz := BS1.out.sz
    have BS4 := Lib.hid (BS3.out.set (p' := p') (a' := a2) (c' := c2) (l' := l') (lo := w1.heap.size) (by omega) (ob2.below b3) hsz (by omega))
    obtain ⟨zB, fB0, fB1⟩ := BS3.out.bx
    obtain ⟨zX, fX0, fX1⟩ := BX.out
    have g0 := BS3.out.f0
    have g1 := BS3.out.f1
    go_wp2_with fail
    go_roundw
    case rel => exact ⟨k + 1, p', a2, c2, l', by omega, by go_num, HY.out, BS4.out⟩
    case measure => simp [intOf]; omega
  ·obtain rfl : k = m := by omega
   have HE : Hid (bldF n s = ((p, l), true)) := Lib.hid (by rw [HS.out, HL.out, HT.out])
   obtain ⟨zB, fB0, fB1⟩ := BS.out.bx
   obtain ⟨⟨r0, r1, r2, c0, c1x⟩, ⟨y0, y1⟩, zg⟩ := BS.out.rz
   have hsz := BS.out.sz
   go_wp2_with fail
   refine bodyPost_ret (v := .tuple #[.agg #[.int .i64 p, .slice a l.length c], .bool true]) (by simp [results, Tryz.results34, go_sem, zg, c0, c1x]) rfl ?_
   rw [HE.out]
   exact ⟨_, rfl, laid2 BS.out.ob (by omega) (by omega) (by omega) BS.out.b⟩

set_option maxHeartbeats 16000000 in
theorem specBld_at (W : World) (n : Int) (va : Option Addr) (m vcap : Nat) (s : List StepT) (hv : StepsAt W va m s) (hm : m ≤ 1048576) :
  Calls Tryz.prog 37 #[.int .i64 n, .slice va m vcap] W (RetGB W (bldF n s).1 (bldF n s).2) := by
 have HV := Lib.hid hv
 have HL := Lib.hid hv.1
 clear hv
 have HZ : Hid (Zer2 (W.alloc (.cells #[.int .i64 0, .slice none 0 0] 26)) W.heap.size) := Lib.hid (Zer2.at W _)
 have B := belAl W (.cells #[.int .i64 0, .slice none 0 0] 26)
 have hz : W.heap.size + 1 ≤ (W.alloc (.cells #[.int .i64 0, .slice none 0 0] 26)).heap.size := by simp
 have hz' : (W.alloc (.cells #[.int .i64 0, .slice none 0 0] 26)).heap.size ≤ W.heap.size + 1 := by simp
 have hgi : isGraphB (n, []) = inB n 1 8 := by unfold isGraphB; cases inB n 1 8 <;> rfl
 have bs0 := belAl (W.alloc (.cells #[.int .i64 0, .slice none 0 0] 26)) (.cells #[] 70)
 have bs1 := belAl ((W.alloc (.cells #[.int .i64 0, .slice none 0 0] 26)).alloc (.cells #[] 70)) (.cells #[.int .i64 n, .slice (some ⟨W.heap.size + 1, 0, none⟩) 0 0] 26)
 have hob : OwnBars ((W.alloc (.cells #[.int .i64 0, .slice none 0 0] 26)).alloc (.cells #[] 70)) (W.heap.size + 1) (.slice (some ⟨W.heap.size + 1, 0, none⟩) 0 0) [] := by have := OwnBars.made (W.alloc (.cells #[.int .i64 0, .slice none 0 0] 26)) (W.heap.size + 1) (by simp); simpa using this
 have OB : Hid (OwnBars (((W.alloc (.cells #[.int .i64 0, .slice none 0 0] 26)).alloc (.cells #[] 70)).alloc (.cells #[.int .i64 n, .slice (some ⟨W.heap.size + 1, 0, none⟩) 0 0] 26)) (W.heap.size + 1) (.slice (some ⟨W.heap.size + 1, 0, none⟩) 0 0) []) := Lib.hid (hob.below bs1)
 have BX : Hid (BoxGr (((W.alloc (.cells #[.int .i64 0, .slice none 0 0] 26)).alloc (.cells #[] 70)).alloc (.cells #[.int .i64 n, .slice (some ⟨W.heap.size + 1, 0, none⟩) 0 0] 26)) (W.heap.size + 1 + 1) n (some ⟨W.heap.size + 1, 0, none⟩) 0 0) := Lib.hid (BoxGr.at (by simp))
 have hf0 : (((W.alloc (.cells #[.int .i64 0, .slice none 0 0] 26)).alloc (.cells #[] 70)).alloc (.cells #[.int .i64 n, .slice (some ⟨W.heap.size + 1, 0, none⟩) 0 0] 26)).frozen? ⟨W.heap.size + 1 + 1, 0, none⟩ = false := by have := World.frozen?_alloc_new ((W.alloc (.cells #[.int .i64 0, .slice none 0 0] 26)).alloc (.cells #[] 70)) #[.int .i64 n, .slice (some ⟨W.heap.size + 1, 0, none⟩) 0 0] 26 0; simpa using this
 have hf1 : (((W.alloc (.cells #[.int .i64 0, .slice none 0 0] 26)).alloc (.cells #[] 70)).alloc (.cells #[.int .i64 n, .slice (some ⟨W.heap.size + 1, 0, none⟩) 0 0] 26)).frozen? ⟨W.heap.size + 1 + 1, 1, none⟩ = false := by have := World.frozen?_alloc_new ((W.alloc (.cells #[.int .i64 0, .slice none 0 0] 26)).alloc (.cells #[] 70)) #[.int .i64 n, .slice (some ⟨W.heap.size + 1, 0, none⟩) 0 0] 26 1; simpa using this
 have HF := Lib.hid (And.intro hf0 hf1)
 have HI : Hid (IsGraph (((W.alloc (.cells #[.int .i64 0, .slice none 0 0] 26)).alloc (.cells #[] 70)).alloc (.cells #[.int .i64 n, .slice (some ⟨W.heap.size + 1, 0, none⟩) 0 0] 26)) (.agg #[.int .i64 n, .slice (some ⟨W.heap.size + 1, 0, none⟩) 0 0]) (n, [])) := Lib.hid (OwnGraph.form ⟨_, ⟨some ⟨W.heap.size + 1, 0, none⟩, 0, rfl, rfl⟩, OB.out⟩)
 replace HZ := Lib.hid ((HZ.out.below bs0).below bs1)
 replace B := (B.step bs0).step bs1
 have hz3 : W.heap.size + 3 ≤ (((W.alloc (.cells #[.int .i64 0, .slice none 0 0] 26)).alloc (.cells #[] 70)).alloc (.cells #[.int .i64 n, .slice (some ⟨W.heap.size + 1, 0, none⟩) 0 0] 26)).heap.size := by simp
 clear bs0 bs1 hob hf0 hf1
 obtain ⟨zB, fB0, fB1⟩ := BX.out
 go_enter Tryz.func37, Tryz.ntmps37
 go_wp2_with fail
 generalize (((W.alloc (.cells #[.int .i64 0, .slice none 0 0] 26)).alloc (.cells #[] 70)).alloc (.cells #[.int .i64 n, .slice (some ⟨W.heap.size + 1, 0, none⟩) 0 0] 26)) = u at *
 clear zB fB0 fB1
 refine (specIsGraph_at u n (some ⟨W.heap.size + 1, 0, none⟩) 0 [] (by obtain ⟨a9, c9, e9, i9⟩ := HI.out; simp at e9; obtain ⟨rfl, rfl⟩ := e9; exact i9) (by simp)).mono ?_
 rintro e w1 ⟨rfl, b⟩
 have BS : Hid (BldS W w1 (W.heap.size + 1 + 1) (W.heap.size + 1) n (some ⟨W.heap.size + 1, 0, none⟩) 0 []) := Lib.hid (BldS.below ⟨BX.out, HF.out.1, HF.out.2, OB.out, by omega, HZ.out, B, by omega⟩ b)
 have hz4 := b.size
 clear OB BX HF HI HZ B b
 cases hb : inB n 1 8
 ·have HE : Hid (bldF n s = ((0, []), false)) := Lib.hid (by unfold bldF; rw [hb]; rfl)
  rw [hgi, hb]
  clear hb hgi
  obtain ⟨⟨r0, r1, r2, c0, c1x⟩, ⟨y0, y1⟩, zg⟩ := BS.out.rz
  go_wp2_with fail
  refine bodyPost_ret (v := .tuple #[.agg #[.int .i64 0, .slice none 0 0], .bool false]) (by simp [results, Tryz.results37, go_sem, zg, c0, c1x]) rfl ?_
  rw [HE.out]
  exact ⟨_, rfl, ⟨.slice none 0 0, ⟨none, 0, rfl, rfl⟩, OwnBars.nil _ _⟩, (BS.out.b.setCell (p := ⟨W.heap.size, 0, none⟩) (by simp) _).setCell (p := ⟨W.heap.size, 1, none⟩) (by simp) _⟩
 have HS : Hid (bldF n s = match bldTo n s s.length with | some g => (g, true) | none => ((0, []), false)) := Lib.hid (by unfold bldF; rw [hb]; rfl)
 rw [hgi, hb]
 clear hb hgi
 go_wp2_with fail
 obtain ⟨w0, hw0⟩ : ∃ w0, w0 = w1 := ⟨_, rfl⟩
 subst hw0
 go_loopw [7] (fun i w9 => ∃ (k : Nat) (p : Int) (a : Option Addr) (c : Nat) (l : List BarT), k ≤ m ∧ i = .int .i64 k ∧ bldTo n s k = some (p, l) ∧ BldS W w9 (W.heap.size + 1 + 1) (W.heap.size + 1) p a c l) (fun i _ => m - (intOf i).toNat)
 case atStart => exact ⟨0, n, _, 0, [], Nat.zero_le _, rfl, rfl, BS.out⟩
 case round =>
  have hz5 : W.heap.size + 3 ≤ w0.heap.size := by omega
  clear BS
  obtain ⟨k, p, a, c, l, hk, rfl, hto, hbs⟩ := hrel
  have HT := Lib.hid hto
  have BS := Lib.hid hbs
  have h24 : l.length ≤ 24 := bldTo_24 hto
  clear hto hbs
  by_cases hlt : k < m
  ·obtain ⟨b, off, ⟨kd, pt, x, y, z⟩, rfl, hbl, hx, d0, d1, d2, d3, d4⟩ := (HV.out.below BS.out.b).2 k hlt
   dsimp only at d0 d1 d2 d3 d4
   have HX := Lib.hid hx
   clear hx
   have hki : (k : Int) < (m : Int) := by omega
   have hk0 : (0 : Int) ≤ (k : Int) := by omega
   have HD := Lib.hid (And.intro d0 (And.intro d1 (And.intro d2 (And.intro d3 d4))))
   have HO : Hid (HGraph wr (W.heap.size + 1) wr.heap.size (.agg #[.int .i64 p, .slice a l.length c]) (p, l)) := Lib.hid (OwnGraph.h ⟨_, ⟨a, c, rfl, rfl⟩, BS.out.ob⟩)
   have HC : Hid (∀ w9, Below wr.heap.size wr w9 → Calls Tryz.prog 41 #[.agg #[.int .i64 p, .slice a l.length c], .agg #[.int .i64 kd, .int .i64 pt, .int .i64 x, .int .i64 y, .int .i64 z]] w9 (RetGB w9 (stepF (p, l) (kd, pt, x, y, z)).1 (stepF (p, l) (kd, pt, x, y, z)).2)) := Lib.hid fun w9 hb => spec_ApplyStep w9 _ (p, l) ⟨_, _, HO.out.below hb⟩ (kd, pt, x, y, z) (show l.length ≤ 1048576 by omega)
   have HR24 := stepF_24 (p, l) (kd, pt, x, y, z) h24
   have HNO := Lib.hid (fun h => bldTo_no HT.out HX.out h)
   have HYE := Lib.hid (fun h => bldTo_yes HT.out HX.out h)
   obtain ⟨⟨p', l'⟩, hR⟩ : ∃ R, R = (stepF (p, l) (kd, pt, x, y, z)).1 := ⟨_, rfl⟩
   obtain ⟨ok, hO⟩ : ∃ o, o = (stepF (p, l) (kd, pt, x, y, z)).2 := ⟨_, rfl⟩
   rw [← hR, ← hO] at HC
   rw [← hO] at HNO
   rw [← hR, ← hO] at HYE
   clear hR hO HR24
   have KEEP := Lib.hid (show ∀ w', Below wr.heap.size wr w' → w'.cell? ⟨W.heap.size + 1 + 1, 0, none⟩ = some (.int .i64 p) ∧ w'.cell? ⟨W.heap.size + 1 + 1, 1, none⟩ = some (.slice a l.length c) ∧ w'.cell? ⟨b, off + k * 5, none⟩ = some (.int .i64 kd) ∧ w'.cell? ⟨b, off + k * 5 + 1, none⟩ = some (.int .i64 pt) ∧ w'.cell? ⟨b, off + k * 5 + 2, none⟩ = some (.int .i64 x) ∧ w'.cell? ⟨b, off + k * 5 + 3, none⟩ = some (.int .i64 y) ∧ w'.cell? ⟨b, off + k * 5 + 4, none⟩ = some (.int .i64 z) from fun w' hb => ⟨(BS.out.bx.below hb).c0, (BS.out.bx.below hb).c1, (hb.cell (p := ⟨b, off + k * 5, none⟩) hbl).trans HD.out.1, (hb.cell (p := ⟨b, off + k * 5 + 1, none⟩) hbl).trans HD.out.2.1, (hb.cell (p := ⟨b, off + k * 5 + 2, none⟩) hbl).trans HD.out.2.2.1, (hb.cell (p := ⟨b, off + k * 5 + 3, none⟩) hbl).trans HD.out.2.2.2.1, (hb.cell (p := ⟨b, off + k * 5 + 4, none⟩) hbl).trans HD.out.2.2.2.2⟩)
   have bd0 : Below wr.heap.size wr wr := Below.refl _ _
   clear d0 d1 d2 d3 d4
   have tk1 := True.intro
   go_wp2_with fail
   go_cut [8, 9] from 17 to 35 (fun s8 s9 wx => s9 = .bool ok ∧ CutGr wr p' l' s8 wx)
   case first =>
    go_region_held3 (fun w' => w'.cell? ⟨W.heap.size + 1 + 1, 0, none⟩ = some (.int .i64 p) ∧ w'.cell? ⟨W.heap.size + 1 + 1, 1, none⟩ = some (.slice a l.length c) ∧ w'.cell? ⟨b, off + k * 5, none⟩ = some (.int .i64 kd) ∧ w'.cell? ⟨b, off + k * 5 + 1, none⟩ = some (.int .i64 pt) ∧ w'.cell? ⟨b, off + k * 5 + 2, none⟩ = some (.int .i64 x) ∧ w'.cell? ⟨b, off + k * 5 + 3, none⟩ = some (.int .i64 y) ∧ w'.cell? ⟨b, off + k * 5 + 4, none⟩ = some (.int .i64 z))
     (first | (exact KEEP.out _ (by repeat' (first | (with_reducible assumption) | (with_reducible exact Below.refl _ _) | (with_reducible refine Below.drew ?_) | (with_reducible refine Below.alloc ?_ (by first | omega | (simp; done) | (simp; omega)) _) | (with_reducible refine Below.setCell ?_ (by first | omega | (simp; done) | (simp; omega)) _)))) | (go_keep))
     ((clear tk1; go_at_call 41; refine (HC.out _ (by repeat' (first | (with_reducible assumption) | (with_reducible exact Below.refl _ _) | (with_reducible refine Below.drew ?_) | (with_reducible refine Below.alloc ?_ (by first | omega | (simp; done) | (simp; omega)) _) | (with_reducible refine Below.setCell ?_ (by first | omega | (simp; done) | (simp; omega)) _)))).mono ?_; rintro e wM ⟨v2, rfl, oM, b⟩; obtain ⟨vb2, ⟨a2, c2, rfl, rfl⟩, ob2⟩ := oM; dsimp only at ob2; have HM := Lib.hid (show HGraph wM _ wM.heap.size (.agg #[.int .i64 p', .slice a2 l'.length c2]) (p', l') from OwnGraph.h ⟨_, ⟨a2, c2, rfl, rfl⟩, ob2⟩); have bM : Below wr.heap.size wr wM := Below.step (by repeat' (first | (with_reducible assumption) | (with_reducible exact Below.refl _ _) | (with_reducible refine Below.drew ?_) | (with_reducible refine Below.alloc ?_ (by first | omega | (simp; done) | (simp; omega)) _) | (with_reducible refine Below.setCell ?_ (by first | omega | (simp; done) | (simp; omega)) _))) b; have hzM := b.size; have hnM := bM.size; have hlM := (show Below wr.heap.size wr _ from (by repeat' (first | (with_reducible assumption) | (with_reducible exact Below.refl _ _) | (with_reducible refine Below.drew ?_) | (with_reducible refine Below.alloc ?_ (by first | omega | (simp; done) | (simp; omega)) _) | (with_reducible refine Below.setCell ?_ (by first | omega | (simp; done) | (simp; omega)) _)))).size; (try (first | (replace HZZ := Lib.hid (HZZ.out.below b)) | (have HZZ := Lib.hid ((Zer2.at _ _).below b)) | (have HZZ := Lib.hid ((Zer2.drew (Zer2.at _ _)).below b)))); (try clear zc0 zc1 zf0 zf1 zg zq0 zq1 zq2); (try obtain ⟨⟨zq0, zq1, zq2, zc0, zc1⟩, ⟨zf0, zf1⟩, zg⟩ := HZZ.out); clear b ob2))
    all_goals
     go_wp2_with fail
     go_meet
     refine ⟨rfl, ?_⟩
     first
      | with_reducible exact cutA2 HZZ.out HM.out (by first | omega | (simp; done) | (simp; omega)) (by first | omega | (simp; done) | (simp; omega)) (by first | omega | (simp; done) | (simp; omega)) (by first | omega | (simp; done) | (simp; omega)) (by first | omega | (simp; done) | (simp; omega)) bM
      | with_reducible exact cutB2 _ HM.out (by first | omega | (simp; done) | (simp; omega)) (by first | omega | (simp; done) | (simp; omega)) (by first | omega | (simp; done) | (simp; omega)) bM
      | with_reducible exact cutC2 _ HM.out (by first | omega | (simp; done) | (simp; omega)) (by first | omega | (simp; done) | (simp; omega)) (by first | omega | (simp; done) | (simp; omega)) bM
   case rest =>
    obtain ⟨rfl, g8, a2, c2, lo, hi, rfl, HBX, hob2, hsep, hlo, hlh, hhz, hgg, ⟨hf0, hf1⟩, b⟩ := hcut
    obtain ⟨w5, hwf⟩ : ∃ wf, wf = wc := ⟨_, rfl⟩
    subst hwf
    clear KEEP bd0 HC
    have hgz := BS.out.bx.1
    have BS3 := Lib.hid (BS.out.below b)
    have ob2 : OwnBars w5 lo (.slice a2 l'.length c2) l' := by
     obtain ⟨vb, ⟨a9, c9, e9, e10⟩, ho⟩ := hob2.own
     simp at e10
     obtain ⟨rfl, rfl⟩ := e10
     rw [e9] at ho
     exact ho
    have BX := Lib.hid HBX
    clear HBX hob2 hsep
    cases ok
    ·have HE : Hid (bldF n s = ((0, []), false)) := Lib.hid (by rw [HS.out, HNO.out rfl])
     obtain ⟨⟨r0, r1, r2, c0, c1x⟩, ⟨y0, y1⟩, zg⟩ := BS3.out.rz
     go_wp2_with fail
     refine bodyPost_ret (v := .tuple #[.agg #[.int .i64 0, .slice none 0 0], .bool false]) (by simp [results, Tryz.results37, go_sem, zg, c0, c1x]) rfl ?_
     rw [HE.out]
     exact ⟨_, rfl, ⟨.slice none 0 0, ⟨none, 0, rfl, rfl⟩, OwnBars.nil _ _⟩, (BS3.out.b.setCell (p := ⟨W.heap.size, 0, none⟩) (by simp) _).setCell (p := ⟨W.heap.size, 1, none⟩) (by simp) _⟩
    ·have HY := Lib.hid (HYE.out rfl)
     have BS4 := Lib.hid (BS3.out.set (p' := p') (a' := a2) (c' := c2) (l' := l') (lo := lo) (by omega) ob2 (by omega) (by omega))
     obtain ⟨zB, fB0, fB1⟩ := BS3.out.bx
     obtain ⟨zX, fX0, fX1⟩ := BX.out
     have q0 := BS3.out.f0
     have q1 := BS3.out.f1
     go_wp2_with fail
     go_roundw
     case rel => exact ⟨k + 1, p', a2, c2, l', by omega, by go_num, HY.out, BS4.out⟩
     case measure => simp [intOf]; omega
  ·obtain rfl : k = m := by omega
   have HE : Hid (bldF n s = ((p, l), true)) := Lib.hid (by rw [HS.out, HL.out, HT.out])
   obtain ⟨zB, fB0, fB1⟩ := BS.out.bx
   obtain ⟨⟨r0, r1, r2, c0, c1x⟩, ⟨y0, y1⟩, zg⟩ := BS.out.rz
   go_wp2_with fail
   refine bodyPost_ret (v := .tuple #[.agg #[.int .i64 p, .slice a l.length c], .bool true]) (by simp [results, Tryz.results37, go_sem, zg, c0, c1x]) rfl ?_
   rw [HE.out]
   exact ⟨_, rfl, laid2 BS.out.ob (by omega) (by omega) (by omega) BS.out.b⟩
theorem spec_BuildSteps (W : World) (n : Int) (v : Value) (s : List StepT) (h : IsSteps W v s) (hs : s.length ≤ 1048576) : Calls Tryz.prog 37 #[.int .i64 n, v] W (RetGB W (bldF n s).1 (bldF n s).2) := by
 obtain ⟨a, cap, rfl, hi⟩ := h
 exact specBld_at W n a _ cap s hi hs
theorem impl_BuildSteps (W : World) (n : Int) (v : Value) (s : List StepT) (h : IsSteps W v s) (hs : s.length ≤ 1048576) : Calls Tryz.prog 34 #[.int .i64 n, v] W (RetGB W (bldF n s).1 (bldF n s).2) := by
 obtain ⟨a, cap, rfl, hi⟩ := h
 exact implBld_at W n a _ cap s hi hs
end Go.Proofs.YtfbmpkdjhhcnpaaGreat

