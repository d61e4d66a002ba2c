/- Drawing frameworks: l10Of of the reference. Conditions: the graph's bars lie between its points. -/
import Derived.Test.YtfbmpkdjhhcnpaaMoP14
import Derived.Test.YtfbmpkdjhhcnpaaMoP09
import Derived.Test.YtfbmpkdjhhcnpaaMoP12
import Derived.Deep.QuietTactic
import Derived.BigQuiet
import Derived.Deep.DeepCutAuto
import Derived.Test.YtfbmpkdjhhcnpaaMoP13
import Derived.Lib.MinMax
namespace Go.Proofs.Ytfbmpkdjhhcnpaa
open Go.RowKit
set_option maxRecDepth 100000
set_option linter.unusedVariables false
set_option linter.unusedSimpArgs false
theorem apartT {W W' : World} {b b' : Nat} {e e' : TypeId} {s s' n n' : Nat} {v v' : Value} {xs xs' : List Value} (hne : e ≠ e') (hk : W' = W) (h : W.ownsRow b e s v n xs) (hr : W'.ownsRow b' e' s' v' n' xs') : ∀ g, v.ownBlock = some g → v'.ownBlock ≠ some g := by
  subst hk
  intro g hv hu
  rcases h.2 with ⟨rfl, _⟩ | ⟨g1, cap, cur, rfl, _, hg, _⟩
  · simp [Value.ownBlock] at hv
  · rcases hr.2 with ⟨rfl, _⟩ | ⟨g2, cap2, cur2, rfl, _, hg2, _⟩
    · simp [Value.ownBlock] at hu
    · simp [Value.ownBlock] at hv hu
      subst hv
      subst hu
      rw [hg] at hg2
      simp at hg2
      exact hne hg2.2
def Zer3d (w : World) (g : Nat) : Prop := (∃ a b c, w.cell? ⟨g, 0, none⟩ = some (.int .i64 a) ∧ w.cell? ⟨g, 1, none⟩ = some (.slice none b c) ∧ w.cell? ⟨g, 2, none⟩ = some (.slice none b c)) ∧ (w.frozen? ⟨g, 0, none⟩ = false ∧ w.frozen? ⟨g, 1, none⟩ = false ∧ w.frozen? ⟨g, 2, none⟩ = false) ∧ g < w.heap.size
theorem Zer3d.at (w : World) (ty : TypeId) : Zer3d (w.alloc (.cells #[.int .i64 0, .slice none 0 0, .slice none 0 0] ty)) w.heap.size :=
  ⟨⟨0, 0, 0, by simp, by simp, by simp⟩, ⟨by simp [World.frozen?_alloc_new], by simp [World.frozen?_alloc_new], by simp [World.frozen?_alloc_new]⟩, by simp⟩
theorem Zer3d.kept {S : Nat → Prop} {w w' : World} {g : Nat} (h : Zer3d w g) (hk : Kept S w w') (hs : ¬ S g) : Zer3d w' g := by
  obtain ⟨⟨a, b, c, h0, h1, h2⟩, ⟨f0, f1, f2⟩, hz⟩ := h
  exact ⟨⟨a, b, c, (hk.cell hz hs).trans h0, (hk.cell hz hs).trans h1, (hk.cell hz hs).trans h2⟩, ⟨(hk.frozen hz hs).trans f0, (hk.frozen hz hs).trans f1, (hk.frozen hz hs).trans f2⟩, Nat.lt_of_lt_of_le hz hk.size⟩
/-- a framework that is drawn -/
def RetDf (W0 w : World) (g : Nat) (ca : Option Addr) (n cap : Nat) (l : List Int) (P : Int → List BarT → List PlaceT → Prop) (e : Ending) (w' : World) : Prop :=
  ∃ p a c b d bs ps, e = .returned (.agg #[.int .i64 p, .slice a bs.length c, .slice b ps.length d]) ∧ OwnBars w' w.heap.size (.slice a bs.length c) bs ∧ OwnPlaces w' w.heap.size (.slice b ps.length d) ps ∧ P p bs ps ∧ Drw W0 w' g ca n cap l ∧ Kept (fun b => b = g) w w'
/-- a framework is built: the graph's box at w0's end, then the result's box, the bars' first block, the framework's box -/
structure OfS (W0 w0 w : World) (g : Nat) (ca : Option Addr) (n cap : Nat) (l : List Int) (p : Int) (ga : Option Addr) (gn gcap : Nat) (vb vp : Value) (bs : List BarT) (ps : List PlaceT) : Prop where
  d : Drw W0 w g ca n cap l
  k : Kept (fun b => b = g) w0 w
  gx : BoxGr w w0.heap.size p ga gn gcap
  rz : Zer3d w (w0.heap.size + 1)
  c0 : w.cell? ⟨w0.heap.size + 1 + 1 + 1, 0, none⟩ = some (.int .i64 p)
  c1 : w.cell? ⟨w0.heap.size + 1 + 1 + 1, 1, none⟩ = some vb
  c2 : w.cell? ⟨w0.heap.size + 1 + 1 + 1, 2, none⟩ = some vp
  f1 : w.frozen? ⟨w0.heap.size + 1 + 1 + 1, 1, none⟩ = false
  f2 : w.frozen? ⟨w0.heap.size + 1 + 1 + 1, 2, none⟩ = false
  ob : OwnBars w (w0.heap.size + 1 + 1) vb bs
  op : OwnPlaces w (w0.heap.size + 1 + 1) vp ps
  nb : vb.ownBlock ≠ some (w0.heap.size + 1 + 1 + 1)
  np : vp.ownBlock ≠ some (w0.heap.size + 1 + 1 + 1)
  hi : w0.heap.size + 1 + 1 + 1 < w.heap.size
  gl : g < w0.heap.size
section
variable {W0 w0 w w' : World} {g : Nat} {ca : Option Addr} {n cap : Nat} {l : List Int} {p : Int} {ga : Option Addr} {gn gcap : Nat} {vb vp v' : Value} {bs bs' : List BarT} {ps ps' : List PlaceT}
theorem OfS.keptN {S : Nat → Prop} (h : OfS W0 w0 w g ca n cap l p ga gn gcap vb vp bs ps) (hd : Drw W0 w' g ca n cap l) (hkg : Kept (fun b => b = g) w0 w') (hk : Kept S w w') (hS : ∀ b, w0.heap.size ≤ b → ¬ S b) : OfS W0 w0 w' g ca n cap l p ga gn gcap vb vp bs ps :=
  ⟨hd, hkg, h.gx.kept hk (hS _ (Nat.le_refl _)), h.rz.kept hk (hS _ (by omega)), (hk.cell h.hi (hS _ (by omega))).trans h.c0, (hk.cell h.hi (hS _ (by omega))).trans h.c1, (hk.cell h.hi (hS _ (by omega))).trans h.c2, (hk.frozen h.hi (hS _ (by omega))).trans h.f1, (hk.frozen h.hi (hS _ (by omega))).trans h.f2,
    hk.ownsRow h.ob (fun b h1 h2 => hS b (by have := (h.ob.lt b h1).1; omega) h2), hk.ownsRow h.op (fun b h1 h2 => hS b (by have := (h.op.lt b h1).1; omega) h2), h.nb, h.np, Nat.lt_of_lt_of_le h.hi hk.size, h.gl⟩
theorem OfS.below (h : OfS W0 w0 w g ca n cap l p ga gn gcap vb vp bs ps) (hb : Below w.heap.size w w') : OfS W0 w0 w' g ca n cap l p ga gn gcap vb vp bs ps :=
  h.keptN (S := fun _ => False) (h.d.below hb) (h.k.trans (Kept.of_below hb)) (Kept.of_below hb) fun _ _ => id
theorem OfS.draw (h : OfS W0 w0 w g ca n cap l p ga gn gcap vb vp bs ps) (hd : Drw W0 w' g ca n cap l) (hk : Kept (fun b => b = g) w w') : OfS W0 w0 w' g ca n cap l p ga gn gcap vb vp bs ps := by
  have hg := h.gl
  exact h.keptN hd (h.k.trans hk) hk fun b hb e => by omega
/-- a place was appended -/
theorem OfS.appP (h : OfS W0 w0 w g ca n cap l p ga gn gcap vb vp bs ps) (ho : OwnPlaces w' (w0.heap.size + 1 + 1) v' ps') (hk : Kept (fun k => some k = vp.ownBlock) w w') (ha : v'.ownBlock = vp.ownBlock ∨ ∀ b, v'.ownBlock = some b → w.heap.size ≤ b) :
    OfS W0 w0 (w'.setCell ⟨w0.heap.size + 1 + 1 + 1, 2, none⟩ v') g ca n cap l p ga gn gcap vb v' bs ps' := by
  have hg := h.gl
  have hlow := h.d.low
  have hh := h.hi
  have nlow : ∀ b, b < w0.heap.size + 1 + 1 → ¬ some b = vp.ownBlock := fun b hb e => by have := (h.op.lt b e.symm).1; omega
  have nfb : ¬ some (w0.heap.size + 1 + 1 + 1) = vp.ownBlock := fun e => h.np e.symm
  have hnp : v'.ownBlock ≠ some (w0.heap.size + 1 + 1 + 1) := fun e => by
    rcases ha with h1 | h1
    · exact h.np (h1.symm.trans e)
    · have := h1 _ e; omega
  have hob : OwnBars w' (w0.heap.size + 1 + 1) vb bs := hk.ownsRow h.ob fun b h1 h2 => apartT (by decide) rfl h.ob h.op b h1 h2.symm
  have ks : Kept (fun k => k = w0.heap.size + 1 + 1 + 1) w' (w'.setCell ⟨w0.heap.size + 1 + 1 + 1, 2, none⟩ v') := setKept
  have e1 : (⟨w0.heap.size + 1 + 1 + 1, 0, none⟩ : Addr) ≠ ⟨w0.heap.size + 1 + 1 + 1, 2, none⟩ := by simp
  have e2 : (⟨w0.heap.size + 1 + 1 + 1, 1, none⟩ : Addr) ≠ ⟨w0.heap.size + 1 + 1 + 1, 2, none⟩ := by simp
  exact ⟨(h.d.kept hk (nlow _ (by omega)) fun b hb => nlow _ (by omega)).kept ks (by omega) (fun b hb => by omega), (h.k.on hk fun i hi e => absurd e (nlow i (by omega))).on ks fun i hi e => by omega, (h.gx.kept hk (nlow _ (by omega))).kept ks (by omega), (h.rz.kept hk (nlow _ (by omega))).kept ks (by omega),
    (World.cell?_setCell_other _ _ _ _ e1.symm).trans ((hk.cell hh nfb).trans h.c0), (World.cell?_setCell_other _ _ _ _ e2.symm).trans ((hk.cell hh nfb).trans h.c1), cellSame ((hk.cell hh nfb).trans h.c2),
    (World.frozen?_setCell _ _ _ _).trans ((hk.frozen hh nfb).trans h.f1), (World.frozen?_setCell _ _ _ _).trans ((hk.frozen hh nfb).trans h.f2), ks.ownsRow hob (fun b h1 h2 => h.nb (by rw [h1, h2])), ks.ownsRow ho (fun b h1 h2 => hnp (by rw [h1, h2])), h.nb, hnp, Nat.lt_of_lt_of_le hh (Nat.le_trans hk.size ks.size), hg⟩
/-- a bar was appended -/
theorem OfS.appB (h : OfS W0 w0 w g ca n cap l p ga gn gcap vb vp bs ps) (ho : OwnBars w' (w0.heap.size + 1 + 1) v' bs') (hk : Kept (fun k => some k = vb.ownBlock) w w') (ha : v'.ownBlock = vb.ownBlock ∨ ∀ b, v'.ownBlock = some b → w.heap.size ≤ b) :
    OfS W0 w0 (w'.setCell ⟨w0.heap.size + 1 + 1 + 1, 1, none⟩ v') g ca n cap l p ga gn gcap v' vp bs' ps := by
  have hg := h.gl
  have hlow := h.d.low
  have hh := h.hi
  have nlow : ∀ b, b < w0.heap.size + 1 + 1 → ¬ some b = vb.ownBlock := fun b hb e => by have := (h.ob.lt b e.symm).1; omega
  have nfb : ¬ some (w0.heap.size + 1 + 1 + 1) = vb.ownBlock := fun e => h.nb e.symm
  have hnb : v'.ownBlock ≠ some (w0.heap.size + 1 + 1 + 1) := fun e => by
    rcases ha with h1 | h1
    · exact h.nb (h1.symm.trans e)
    · have := h1 _ e; omega
  have hop : OwnPlaces w' (w0.heap.size + 1 + 1) vp ps := hk.ownsRow h.op fun b h1 h2 => apartT (by decide) rfl h.op h.ob b h1 h2.symm
  have ks : Kept (fun k => k = w0.heap.size + 1 + 1 + 1) w' (w'.setCell ⟨w0.heap.size + 1 + 1 + 1, 1, none⟩ v') := setKept
  have e1 : (⟨w0.heap.size + 1 + 1 + 1, 0, none⟩ : Addr) ≠ ⟨w0.heap.size + 1 + 1 + 1, 1, none⟩ := by simp
  have e2 : (⟨w0.heap.size + 1 + 1 + 1, 2, none⟩ : Addr) ≠ ⟨w0.heap.size + 1 + 1 + 1, 1, none⟩ := by simp
  exact ⟨(h.d.kept hk (nlow _ (by omega)) fun b hb => nlow _ (by omega)).kept ks (by omega) (fun b hb => by omega), (h.k.on hk fun i hi e => absurd e (nlow i (by omega))).on ks fun i hi e => by omega, (h.gx.kept hk (nlow _ (by omega))).kept ks (by omega), (h.rz.kept hk (nlow _ (by omega))).kept ks (by omega),
    (World.cell?_setCell_other _ _ _ _ e1.symm).trans ((hk.cell hh nfb).trans h.c0), cellSame ((hk.cell hh nfb).trans h.c1), (World.cell?_setCell_other _ _ _ _ e2.symm).trans ((hk.cell hh nfb).trans h.c2),
    (World.frozen?_setCell _ _ _ _).trans ((hk.frozen hh nfb).trans h.f1), (World.frozen?_setCell _ _ _ _).trans ((hk.frozen hh nfb).trans h.f2), ks.ownsRow ho (fun b h1 h2 => hnb (by rw [h1, h2])), ks.ownsRow hop (fun b h1 h2 => h.np (by rw [h1, h2])), hnb, h.np, Nat.lt_of_lt_of_le hh (Nat.le_trans hk.size ks.size), hg⟩
end
theorem OfS.start {W0 w : World} {g : Nat} {ca : Option Addr} {n cap : Nat} {l : List Int} (h : Drw W0 w g ca n cap l) (p : Int) (ga : Option Addr) (gn gcap : Nat) :
    OfS W0 w ((((w.alloc (.cells #[.int .i64 p, .slice ga gn gcap] 26)).alloc (.cells #[.int .i64 0, .slice none 0 0, .slice none 0 0] 29)).alloc (.cells #[] 56)).alloc (.cells #[.int .i64 p, .slice (some ⟨w.heap.size + 1 + 1, 0, none⟩) 0 0, .slice none 0 0] 29)) g ca n cap l p ga gn gcap (.slice (some ⟨w.heap.size + 1 + 1, 0, none⟩) 0 0) (.slice none 0 0) [] [] := by
  have e1 : (w.alloc (.cells #[.int .i64 p, .slice ga gn gcap] 26)).heap.size = w.heap.size + 1 := by simp
  have e2 : ((w.alloc (.cells #[.int .i64 p, .slice ga gn gcap] 26)).alloc (.cells #[.int .i64 0, .slice none 0 0, .slice none 0 0] 29)).heap.size = w.heap.size + 1 + 1 := by simp
  have e3 : (((w.alloc (.cells #[.int .i64 p, .slice ga gn gcap] 26)).alloc (.cells #[.int .i64 0, .slice none 0 0, .slice none 0 0] 29)).alloc (.cells #[] 56)).heap.size = w.heap.size + 1 + 1 + 1 := by simp
  have b1 := belAl w (.cells #[.int .i64 p, .slice ga gn gcap] 26)
  have hbx : BoxGr (w.alloc (.cells #[.int .i64 p, .slice ga gn gcap] 26)) w.heap.size p ga gn gcap := BoxGr.at rfl
  generalize (w.alloc (.cells #[.int .i64 p, .slice ga gn gcap] 26)) = u1 at *
  have b2 := belAl u1 (.cells #[.int .i64 0, .slice none 0 0, .slice none 0 0] 29)
  have hz3 := Zer3d.at u1 29
  rw [e1] at hz3
  generalize (u1.alloc (.cells #[.int .i64 0, .slice none 0 0, .slice none 0 0] 29)) = u2 at *
  have b3 := belAl u2 (.cells #[] 56)
  have hob := OwnBars.made u2 (w.heap.size + 1 + 1) (by omega)
  rw [e2] at hob
  generalize (u2.alloc (.cells #[] 56)) = u3 at *
  have b4 := belAl u3 (.cells #[.int .i64 p, .slice (some ⟨w.heap.size + 1 + 1, 0, none⟩) 0 0, .slice none 0 0] 29)
  have n0 := World.cell?_alloc_new u3 #[.int .i64 p, .slice (some ⟨w.heap.size + 1 + 1, 0, none⟩) 0 0, .slice none 0 0] 29 0
  have n1 := World.cell?_alloc_new u3 #[.int .i64 p, .slice (some ⟨w.heap.size + 1 + 1, 0, none⟩) 0 0, .slice none 0 0] 29 1
  have n2 := World.cell?_alloc_new u3 #[.int .i64 p, .slice (some ⟨w.heap.size + 1 + 1, 0, none⟩) 0 0, .slice none 0 0] 29 2
  have m1 := World.frozen?_alloc_new u3 #[.int .i64 p, .slice (some ⟨w.heap.size + 1 + 1, 0, none⟩) 0 0, .slice none 0 0] 29 1
  have m2 := World.frozen?_alloc_new u3 #[.int .i64 p, .slice (some ⟨w.heap.size + 1 + 1, 0, none⟩) 0 0, .slice none 0 0] 29 2
  rw [e3] at n0 n1 n2 m1 m2
  have b34 := b3.step b4
  have b234 := b2.step b34
  have ball := b1.step b234
  exact ⟨h.below ball, Kept.of_below ball, hbx.below b234, hz3.kept (Kept.of_below (S := fun _ => False) b34) id, by simpa using n0, by simpa using n1, by simpa using n2, by simpa using m1, by simpa using m2, hob.below b4, OwnPlaces.nil _ _, (fun e => by have : w.heap.size + 1 + 1 = w.heap.size + 1 + 1 + 1 := Option.some.inj e; omega), (fun e => by cases e), (by simp; omega), h.hi⟩
end Go.Proofs.Ytfbmpkdjhhcnpaa

namespace Go.Proofs.Ytfbmpkdjhhcnpaa
open Go.RowKit
set_option maxRecDepth 100000
set_option linter.unusedVariables false
set_option linter.unusedSimpArgs false
theorem litPl (w : World) (a b : Int) : PlacesAt (w.alloc (.cells #[.int .i64 a, .int .i64 b] 54)) (some ⟨w.heap.size, 0, none⟩) 1 [(a, b)] :=
  ⟨rfl, fun k hk => by
    obtain rfl : k = 0 := by omega
    exact ⟨w.heap.size, 0, (a, b), rfl, by simp, rfl, by simp [World.cell?_alloc_new], by simp [World.cell?_alloc_new]⟩⟩
theorem ownPlaces_at {w : World} {base : Nat} {a : Option Addr} {c : Nat} {ps : List PlaceT} (h : OwnPlaces w base (.slice a ps.length c) ps) : PlacesAt w a ps.length ps := by
  obtain ⟨a9, c9, e9, i9⟩ := h.form
  simp at e9
  obtain ⟨rfl, rfl⟩ := e9
  exact i9
set_option maxHeartbeats 16000000 in
theorem l10Of_at (W0 w : World) (g : Nat) (ca : Option Addr) (n cap : Nat) (l : List Int) (hB : BytesAt W0 ca n l) (hn : n ≤ 1099511627776) (h : Drw W0 w g ca n cap l) (P : Nat) (hP : P ≤ 8) (ga : Option Addr) (gcap : Nat) (lb : List BarT) (base : Nat) (hgb : g < base) (hob : OwnBars w base (.slice ga lb.length gcap) lb) (hin : BIn P 24 lb) :
    Calls Try.prog 61 #[.pointer (some ⟨g, 0, none⟩), .agg #[.int .i64 P, .slice ga lb.length gcap]] w (RetDf W0 w g ca n cap l fun p bs ps => p = (P : Int) ∧ bs.length ≤ 24 ∧ ps.length = P) := by
  have HD : Hid (∀ (m : Int) w9, 1 ≤ m ∧ m ≤ 256 → Drw W0 w9 g ca n cap l → Calls Try.prog 45 #[.pointer (some ⟨g, 0, none⟩), .int .i64 m] w9 (RetDi W0 w9 g ca n cap l 0 (m - 1))) := Lib.hid fun m w9 hm h9 => l1Below_at W0 w9 g ca n cap l hB hn h9 m hm
  have FS := Lib.hid (OfS.start h (P : Int) ga lb.length gcap)
  have HGB := Lib.hid hob
  have HIN := Lib.hid hin
  have hlb := hin.1
  clear hB h hob hin
  go_enter Try.func61, Try.ntmps61
  go_wp2_with fail
  generalize ((((w.alloc (.cells #[.int .i64 (P : Int), .slice ga lb.length gcap] 26)).alloc (.cells #[.int .i64 0, .slice none 0 0, .slice none 0 0] 29)).alloc (.cells #[] 56)).alloc (.cells #[.int .i64 (P : Int), .slice (some ⟨w.heap.size + 1 + 1, 0, none⟩) 0 0, .slice none 0 0] 29)) = u at *
  go_loopw [6] (fun i w9 => ∃ (k : Nat) (vp : Value) (ps : List PlaceT), k ≤ P ∧ i = .int .i64 k ∧ ps.length = k ∧ OfS W0 w w9 g ca n cap l P ga lb.length gcap (.slice (some ⟨w.heap.size + 1 + 1, 0, none⟩) 0 0) vp [] ps) (fun i _ => P - (intOf i).toNat)
  case atStart => exact ⟨0, _, [], Nat.zero_le _, rfl, rfl, FS.out⟩
  case round =>
    clear FS
    obtain ⟨k, vp, ps, hk, rfl, hpl, hfs⟩ := hrel
    have FS := Lib.hid hfs
    have HPL := Lib.hid hpl
    clear hfs hpl
    obtain ⟨zB, fB0, fB1⟩ := FS.out.gx
    by_cases hlt : k < P
    · have hki : (k : Int) < (P : Int) := by omega
      go_wp2_with fail
      clear zB fB0 fB1
      refine (HD.out 5 wr (by decide) FS.out.d).mono ?_
      rintro e w2 ⟨x, hx, rfl, d1, k1⟩
      replace FS := Lib.hid (FS.out.draw d1 k1)
      clear d1 k1
      go_wp2_with fail
      have FD := Lib.hid (FS.out.below (w' := w2.drew) (Below.refl _ _).drew)
      have s0 : w2.drew.cell? ⟨w.heap.size + 1 + 1 + 1, 2, none⟩ = some vp ∧ True := ⟨FD.out.c2, trivial⟩
      refine wp_regionZ (fun w' => w'.cell? ⟨w.heap.size + 1 + 1 + 1, 2, none⟩ = some vp ∧ True) 9 (by kernel_rfl) ?_
      clear FS
      generalize w2.drew = wd at *
      obtain ⟨ap, cp, rfl, -⟩ := FD.out.op.form
      refine wpAnyZ_takeC (i := 0) (v := ?_) [9] rfl (by kernel_rfl) (by kernel_rfl) (by kernel_rfl) (by kernel_rfl) (by kernel_rfl) (by kernel_rfl) (fun _ _ _ h => h) (s0) (by rfl) ?_ ?_
      rotate_left
      · intro x hx; obtain ⟨u1, u2⟩ := hx; go_simp; try (with_reducible rfl)
      try simp only [Act.put, List.setIfInBounds_toArray, List.set_cons_zero, List.set_cons_succ, List.getElem_toArray, List.getElem_cons_zero, List.getElem_cons_succ]
      refine wpAnyZ_takeC (i := 1) (v := ?_) [9] rfl (by kernel_rfl) (by kernel_rfl) (by kernel_rfl) (by kernel_rfl) (by kernel_rfl) (by kernel_rfl) (fun _ _ _ h => h) (s0) (by rfl) ?_ ?_
      rotate_left
      · intro x hx; obtain ⟨u1, u2⟩ := hx; go_simp; try (with_reducible rfl)
      try simp only [Act.put, List.setIfInBounds_toArray, List.set_cons_zero, List.set_cons_succ, List.getElem_toArray, List.getElem_cons_zero, List.getElem_cons_succ]
      refine wpAnyZ_takeC (i := 2) (v := ?_) [9] rfl (by kernel_rfl) (by kernel_rfl) (by kernel_rfl) (by kernel_rfl) (by kernel_rfl) (by kernel_rfl) (fun _ _ _ h => h) (s0) (by rfl) ?_ ?_
      rotate_left
      · intro x hx; obtain ⟨u1, u2⟩ := hx; go_simp; try (with_reducible rfl)
      try simp only [Act.put, List.setIfInBounds_toArray, List.set_cons_zero, List.set_cons_succ, List.getElem_toArray, List.getElem_cons_zero, List.getElem_cons_succ]
      refine wpAnyZ_takeC (i := 3) (v := ?_) [9] rfl (by kernel_rfl) (by kernel_rfl) (by kernel_rfl) (by kernel_rfl) (by kernel_rfl) (by kernel_rfl) (fun _ _ _ h => h) (s0) (by rfl) ?_ ?_
      rotate_left
      · intro x hx; obtain ⟨u1, u2⟩ := hx; go_simp; try (with_reducible rfl)
      try simp only [Act.put, List.setIfInBounds_toArray, List.set_cons_zero, List.set_cons_succ, List.getElem_toArray, List.getElem_cons_zero, List.getElem_cons_succ]
      refine wpAnyZ_step (i := 4) (by kernel_rfl) rfl (by rfl) ?_
      intro KK hKK
      go_simp
      go_at_call 45
      refine (HD.out 5 wd (by decide) FD.out.d).mono ?_
      rintro e w3 ⟨y, hy, rfl, d1, k1⟩
      have F3 := Lib.hid (FD.out.draw d1 k1)
      clear d1 k1 FD s0
      have s3 : w3.cell? ⟨w.heap.size + 1 + 1 + 1, 2, none⟩ = some (.slice ap ps.length cp) ∧ True := ⟨F3.out.c2, trivial⟩
      go_wp2_with fail
      refine hKK.out _ _ (.inr s3) ?_
      clear hKK KK
      try simp only [Act.put, List.setIfInBounds_toArray, List.set_cons_zero, List.set_cons_succ, List.getElem_toArray, List.getElem_cons_zero, List.getElem_cons_succ]
      refine wpAnyZ_step (i := 5) (by kernel_rfl) rfl (by rfl) ?_
      intro KK hKK
      go_simp
      refine hKK.out _ _ (.inr s3) ?_
      clear hKK KK
      try simp only [Act.put, List.setIfInBounds_toArray, List.set_cons_zero, List.set_cons_succ, List.getElem_toArray, List.getElem_cons_zero, List.getElem_cons_succ]
      have bl := belAl w3 (.cells #[.int .i64 x, .int .i64 y] 54)
      have F4 := Lib.hid (F3.out.below bl)
      have HLI := Lib.hid (litPl w3 x y)
      have s4 : (w3.alloc (.cells #[.int .i64 x, .int .i64 y] 54)).cell? ⟨w.heap.size + 1 + 1 + 1, 2, none⟩ = some (.slice ap ps.length cp) ∧ True := ⟨F4.out.c2, trivial⟩
      clear bl F3
      refine wpAnyZ_step (i := 6) (by kernel_rfl) rfl (by rfl) ?_
      intro KK hKK
      go_simp
      refine hKK.out _ _ (.inr s4) ?_
      clear hKK KK
      try simp only [Act.put, List.setIfInBounds_toArray, List.set_cons_zero, List.set_cons_succ, List.getElem_toArray, List.getElem_cons_zero, List.getElem_cons_succ]
      have hh4 := F4.out.hi
      have hl4 : ps.length ≤ 8 := by have := HPL.out; omega
      refine wpAnyZ_step (i := 7) (by kernel_rfl) rfl (by rfl) ?_
      intro KK hKK
      refine stepAppPlaces (by rfl) _ _ (by rfl) (by rfl) F4.out.op (by rfl) HLI.out (by omega) (by omega) ?_
      intro v5 w5 h5 k5 a5
      obtain ⟨av, cv, rfl, -⟩ := h5.form
      have a5' : (Value.slice av (ps ++ [(x, y)]).length cv).ownBlock = (Value.slice ap ps.length cp).ownBlock ∨ ∀ b, (Value.slice av (ps ++ [(x, y)]).length cv).ownBlock = some b → (w3.alloc (.cells #[.int .i64 x, .int .i64 y] 54)).heap.size ≤ b := a5.imp id fun e b hb => by rw [e] at hb; exact Nat.le_of_eq (Option.some.inj hb)
      have F5 := Lib.hid (F4.out.appP h5 k5 a5')
      have nfb : ¬ some (w.heap.size + 1 + 1 + 1) = (Value.slice ap ps.length cp).ownBlock := fun e => F4.out.np e.symm
      have s5 : w5.cell? ⟨w.heap.size + 1 + 1 + 1, 2, none⟩ = some (.slice ap ps.length cp) ∧ True := ⟨(k5.cell hh4 nfb).trans F4.out.c2, trivial⟩
      have f5 : w5.frozen? ⟨w.heap.size + 1 + 1 + 1, 2, none⟩ = false := (k5.frozen hh4 nfb).trans F4.out.f2
      clear h5 k5 a5 a5' F4 HLI nfb s4 s3 hh4
      refine hKK.out _ _ (.inr s5) ?_
      clear hKK KK
      try simp only [Act.put, List.setIfInBounds_toArray, List.set_cons_zero, List.set_cons_succ, List.getElem_toArray, List.getElem_cons_zero, List.getElem_cons_succ]
      refine wpAnyZ_step (i := 8) (by kernel_rfl) rfl (by rfl) ?_
      intro KK hKK
      go_simp
      refine hKK.out _ _ (.inr s5) ?_
      clear hKK KK
      try simp only [Act.put, List.setIfInBounds_toArray, List.set_cons_zero, List.set_cons_succ, List.getElem_toArray, List.getElem_cons_zero, List.getElem_cons_succ]
      obtain ⟨c5, -⟩ := s5
      refine wpAnyZ_step (i := 9) (by kernel_rfl) rfl (by rfl) ?_
      intro KK hKK
      go_simp
      refine hKK.out _ _ (.inl (by kernel_rfl)) ?_
      clear hKK KK
      try simp only [Act.put, List.setIfInBounds_toArray, List.set_cons_zero, List.set_cons_succ, List.getElem_toArray, List.getElem_cons_zero, List.getElem_cons_succ]
      refine wpAnyZ_done (by kernel_rfl) ?_ _
      clear c5 f5
      have F6 := F5.out
      rw [show (ps ++ [(x, y)]).length = ps.length + 1 by simp] at F6
      go_wp2_with fail
      go_roundw
      case rel => exact ⟨k + 1, _, ps ++ [(x, y)], by omega, by go_num, by simp; exact HPL.out, F6⟩
      case measure => simp [intOf]; omega
    · have hki : ¬ (k : Int) < (P : Int) := by omega
      have hpl : ps.length = P := by have := HPL.out; omega
      obtain ⟨ap, cp, rfl, -⟩ := FS.out.op.form
      have hwd := @Wd.cells
      go_wp2_with fail
      clear zB fB0 fB1
      obtain ⟨wA, hwA⟩ : ∃ w9, w9 = wr := ⟨_, rfl⟩
      subst hwA
      rw [hpl] at FS
      go_loopw [8] (fun i w9 => ∃ (j : Nat) (vb : Value) (bs : List BarT), j ≤ lb.length ∧ i = .int .i64 j ∧ bs.length ≤ j ∧ OfS W0 w w9 g ca n cap l P ga lb.length gcap vb (.slice ap P cp) bs ps) (fun i _ => lb.length - (intOf i).toNat)
      case atStart => exact ⟨0, _, [], Nat.zero_le _, rfl, Nat.le_refl _, FS.out⟩
      case round =>
        clear FS
        obtain ⟨j, vb, bs, hj, rfl, hbl, hfs⟩ := hrel
        have FS := Lib.hid hfs
        clear hfs
        obtain ⟨zB, fB0, fB1⟩ := FS.out.gx
        by_cases hjl : j < lb.length
        · have hbat := ownBars_at (HGB.out.on FS.out.k hgb)
          obtain ⟨bb, off, ⟨x1, x2⟩, rfl, hbb, hbx, hc0, hc1⟩ := hbat.2 j hjl
          have hxr := HIN.out.2 _ (List.mem_of_getElem? hbx)
          dsimp only at hc0 hc1 hxr
          have hji : (j : Int) < (lb.length : Int) := by omega
          have hj0 : (0 : Int) ≤ (j : Int) := by omega
          obtain ⟨i1, rfl⟩ : ∃ q : Nat, x1 = q := ⟨x1.toNat, by omega⟩
          obtain ⟨i2, rfl⟩ : ∃ q : Nat, x2 = q := ⟨x2.toNat, by omega⟩
          have HPA : Hid (PlacesAt wr ap P ps) := Lib.hid (by have h9 := FS.out.op; rw [← hpl] at h9 ⊢; exact ownPlaces_at h9)
          obtain ⟨bq, oq, ⟨p1, p2⟩, rfl, hbq, -, hp0, hp1⟩ := HPA.out.2 i1 (by omega)
          obtain ⟨bq', oq', ⟨q1, q2⟩, hbe, -, -, hq0, hq1⟩ := HPA.out.2 i2 (by omega)
          simp only [Option.some.injEq, Addr.mk.injEq, and_true] at hbe
          obtain ⟨rfl, rfl⟩ := hbe
          dsimp only at hp0 hp1 hq0 hq1
          have ba := belAl wr (.cells #[.int .i64 (i1 : Int), .int .i64 (i2 : Int)] 56)
          have FA := Lib.hid (FS.out.below ba)
          have g0 := (ba.cell (p := ⟨bq, oq + i1 * 2, none⟩) hbq).trans hp0
          have g1 := (ba.cell (p := ⟨bq, oq + i1 * 2 + 1, none⟩) hbq).trans hp1
          have g2 := (ba.cell (p := ⟨bq, oq + i2 * 2, none⟩) hbq).trans hq0
          have g3 := (ba.cell (p := ⟨bq, oq + i2 * 2 + 1, none⟩) hbq).trans hq1
          have t0 : (wr.alloc (.cells #[.int .i64 (i1 : Int), .int .i64 (i2 : Int)] 56)).cell? ⟨wr.heap.size, 0, none⟩ = some (.int .i64 (i1 : Int)) := by simp
          have t1 : (wr.alloc (.cells #[.int .i64 (i1 : Int), .int .i64 (i2 : Int)] 56)).cell? ⟨wr.heap.size, 1, none⟩ = some (.int .i64 (i2 : Int)) := by simp
          have tz : wr.heap.size < (wr.alloc (.cells #[.int .i64 (i1 : Int), .int .i64 (i2 : Int)] 56)).heap.size := by simp
          have gz : bq < (wr.alloc (.cells #[.int .i64 (i1 : Int), .int .i64 (i2 : Int)] 56)).heap.size := by simp; omega
          have HB0 := Lib.hid (hbat.below ba)
          clear HPA hp0 hp1 hq0 hq1 hbq hbx FS hbat ba
          go_upto_region 11 with (fail)
          clear zB fB0 fB1 hc0 hc1
          obtain ⟨gt, hgt⟩ : ∃ q, q = wr.heap.size := ⟨_, rfl⟩
          rw [← hgt] at t0 t1 tz
          try rw [← hgt]
          generalize (wr.alloc (.cells #[.int .i64 (i1 : Int), .int .i64 (i2 : Int)] 56)) = wx at *
          clear hgt
          have k2 := FA.out.c2
          have kh := FA.out.hi
          obtain ⟨zX, fX0, fX1⟩ := FA.out.gx
          have a1 : (i1 : Int) < (P : Int) := by omega
          have a2 : (i2 : Int) < (P : Int) := by omega
          have a3 : (0 : Int) ≤ (i1 : Int) := by omega
          have a4 : (0 : Int) ≤ (i2 : Int) := by omega
          have a5 : i1 < P := by omega
          have a6 : i2 < P := by omega
          go_cut [70] (fun s wy => ∃ q : Bool, s = .bool q ∧ Below wx.heap.size wx wy)
          case first =>
            by_cases hpp : ((p1, p2) : PlaceT) = (q1, q2)
            · have hn := neqPlace_t hpp
              clear hpp
              refine wp_region_wd (by kernel_rfl) (by kernel_rfl) ?_
              repeat (go_big_quiet_step (fail))
              refine wpQuiet_nil ?_
              intro n1
              have bn := n1.h
              go_wp2
              go_meet
              exact ⟨_, rfl, bn⟩
            · have hn := neqPlace_f hpp
              clear hpp
              by_cases hj00 : j = 0
              · have hjb : ((j : Int) == 0) = true := by rw [hj00]; rfl
                clear hj00
                refine wp_region_wd (by kernel_rfl) (by kernel_rfl) ?_
                repeat (go_big_quiet_step (fail))
                refine wpQuiet_nil ?_
                intro n1
                have bn := n1.h
                go_wp2
                go_meet
                exact ⟨_, rfl, bn⟩
              · have hjb : ((j : Int) == 0) = false := by rw [beq_eq_false_iff_ne]; omega
                obtain ⟨j', hj'⟩ : ∃ q, j = q + 1 := ⟨j - 1, by omega⟩
                obtain ⟨bb2, off2, ⟨y1, y2⟩, hbe, hbb2, -, hd0, hd1⟩ := HB0.out.2 j' (by omega)
                simp only [Option.some.injEq, Addr.mk.injEq, and_true] at hbe
                obtain ⟨rfl, rfl⟩ := hbe
                dsimp only at hd0 hd1
                have hsub : (j : Int) - 1 = (j' : Int) := by omega
                have hwj := IntWalk.i64_in (j' : Int) (by omega)
                have c1' : (j' : Int) < (lb.length : Int) := by omega
                have c2' : (0 : Int) ≤ (j' : Int) := by omega
                have c3' : j' < lb.length := by omega
                have hnb : ∃ q : Bool, ∀ w : World, (binOp .neq 56 (.agg #[.int .i64 y1, .int .i64 y2]) (.agg #[.int .i64 (i1 : Int), .int .i64 (i2 : Int)])).run Try.prog w = .ok (.bool q) w := ⟨_, fun w => neqBar_run w y1 y2 i1 i2⟩
                obtain ⟨q, hnb⟩ := hnb
                clear hj00 hj'
                refine wp_region_wd (by kernel_rfl) (by kernel_rfl) ?_
                repeat (go_big_quiet_step (fail))
                refine wpQuiet_nil ?_
                intro n1
                have bn := n1.h
                go_wp2
                go_meet
                exact ⟨_, rfl, bn⟩
          case rest =>
            clear k2 kh zX fX0 fX1 g0 g1 g2 g3
            obtain ⟨q, rfl, bq9⟩ := hcut
            have e0 := (bq9.cell (p := ⟨gt, 0, none⟩) tz).trans t0
            have e1 := (bq9.cell (p := ⟨gt, 1, none⟩) tz).trans t1
            have ez := Nat.lt_of_lt_of_le tz bq9.size
            have FC := Lib.hid (FA.out.below bq9)
            clear t0 t1 tz FA HB0 bq9
            cases q
            · go_wp2_with fail
              go_roundw
              case rel => exact ⟨j + 1, vb, bs, by omega, by go_num, by omega, FC.out⟩
              case measure => simp [intOf]; omega
            · obtain ⟨ab, cb, rfl, -⟩ := FC.out.ob.form
              have m1 := FC.out.c1
              have m2 := FC.out.f1
              have m3 := FC.out.hi
              have hl5 : bs.length ≤ 24 := by omega
              go_wp2_with (at_builtin; go_loud (refine appBar1At rfl (.tmp 73) (.tmp 75) rfl rfl FC.out.ob (i1 : Int) (i2 : Int) rfl (by omega) (by omega) ?_); intro v6 w6 h6 k6 a6; obtain ⟨aq, cq, rfl, -⟩ := h6.form; go_loud (have G6 := Lib.hid (FC.out.appB h6 k6 a6); have c6 : w6.cell? ⟨w.heap.size + 1 + 1 + 1, 1, none⟩ = some (.slice ab bs.length cb) := (k6.cell m3 (fun e => FC.out.nb e.symm)).trans m1; have f6 : w6.frozen? ⟨w.heap.size + 1 + 1 + 1, 1, none⟩ = false := (k6.frozen m3 (fun e => FC.out.nb e.symm)).trans m2))
              have G7 := G6.out
              rw [show (bs ++ [((i1 : Int), (i2 : Int))]).length = bs.length + 1 by simp] at G7
              go_roundw
              case rel => exact ⟨j + 1, _, bs ++ [((i1 : Int), (i2 : Int))], by omega, by go_num, by simp; omega, G7⟩
              case measure => simp [intOf]; omega
        · have hji : ¬ (j : Int) < (lb.length : Int) := by omega
          obtain ⟨ab, cb, rfl, -⟩ := FS.out.ob.form
          have m0 := FS.out.c0
          have m1 := FS.out.c1
          have m2 := FS.out.c2
          have m3 := FS.out.hi
          have hgl := FS.out.gl
          have hlo := FS.out.d.low
          obtain ⟨⟨z1, z2, z3, c0, c1, c2⟩, ⟨f0, f1, f2⟩, gz⟩ := FS.out.rz
          have k3 : Kept (fun b => b = w.heap.size + 1) wr (((wr.setCell ⟨w.heap.size + 1, 0, none⟩ (.int .i64 (P : Int))).setCell ⟨w.heap.size + 1, 1, none⟩ (.slice ab bs.length cb)).setCell ⟨w.heap.size + 1, 2, none⟩ (.slice ap P cp)) := ((keptSet' (S := fun b => b = w.heap.size + 1) rfl).trans (keptSet' (S := fun b => b = w.heap.size + 1) rfl)).trans (keptSet' (S := fun b => b = w.heap.size + 1) rfl)
          have HF : Hid (OwnBars (((wr.setCell ⟨w.heap.size + 1, 0, none⟩ (.int .i64 (P : Int))).setCell ⟨w.heap.size + 1, 1, none⟩ (.slice ab bs.length cb)).setCell ⟨w.heap.size + 1, 2, none⟩ (.slice ap P cp)) w.heap.size (.slice ab bs.length cb) bs ∧ OwnPlaces (((wr.setCell ⟨w.heap.size + 1, 0, none⟩ (.int .i64 (P : Int))).setCell ⟨w.heap.size + 1, 1, none⟩ (.slice ab bs.length cb)).setCell ⟨w.heap.size + 1, 2, none⟩ (.slice ap P cp)) w.heap.size (.slice ap P cp) ps ∧ Drw W0 (((wr.setCell ⟨w.heap.size + 1, 0, none⟩ (.int .i64 (P : Int))).setCell ⟨w.heap.size + 1, 1, none⟩ (.slice ab bs.length cb)).setCell ⟨w.heap.size + 1, 2, none⟩ (.slice ap P cp)) g ca n cap l ∧ Kept (fun b => b = g) w (((wr.setCell ⟨w.heap.size + 1, 0, none⟩ (.int .i64 (P : Int))).setCell ⟨w.heap.size + 1, 1, none⟩ (.slice ab bs.length cb)).setCell ⟨w.heap.size + 1, 2, none⟩ (.slice ap P cp))) := Lib.hid ⟨ownsRow_base (k3.ownsRow FS.out.ob fun b h1 h2 => by have := (FS.out.ob.lt b h1).1; omega) (by omega), ownsRow_base (k3.ownsRow FS.out.op fun b h1 h2 => by have := (FS.out.op.lt b h1).1; omega) (by omega), FS.out.d.kept k3 (by omega) (fun b hb => by omega), FS.out.k.on k3 fun i h1 h2 => by omega⟩
          clear k3
          go_wp2_with fail
          refine bodyPost_ret (v := .agg #[.int .i64 (P : Int), .slice ab bs.length cb, .slice ap P cp]) (by simp [results, Try.results61, go_sem, gz, c0, c1, c2]) rfl ?_
          refine ⟨(P : Int), ab, cb, ap, cp, bs, ps, by rw [hpl], HF.out.1, by rw [hpl]; exact HF.out.2.1, ⟨rfl, by omega, hpl⟩, HF.out.2.2.1, HF.out.2.2.2⟩
end Go.Proofs.Ytfbmpkdjhhcnpaa

namespace Go.Proofs.Ytfbmpkdjhhcnpaa
open Go.RowKit
set_option maxRecDepth 100000
set_option linter.unusedVariables false
set_option linter.unusedSimpArgs false
/-- the bars behind AddBar -/
def addL (l : List BarT) (a b : Int) : List BarT := if ¬ a = b ∧ l.length < 24 then putL l (min a b, max a b) else l
def RetAdd (W : World) (p : Int) (bs : List BarT) (e : Ending) (w' : World) : Prop := ∃ v b, e = .returned (.tuple #[v, .bool b]) ∧ OwnGraph w' W.heap.size v (p, bs) ∧ Below W.heap.size W w'
set_option maxHeartbeats 8000000 in
theorem specAdd_at (W : World) (p : Int) (a : Option Addr) (cap : Nat) (l : List BarT) (h : BarsAt W a l.length l) (hs : l.length ≤ 1048576) (hg : isGraphB (p, l) = true) (x y : Int) (hx : 0 ≤ x ∧ x < p) (hy : 0 ≤ y ∧ y < p) : Calls Try.prog 63 #[.agg #[.int .i64 p, .slice a l.length cap], .int .i64 x, .int .i64 y] W (RetAdd W p (addL l x y)) := by
  have hwd := @Wd.cells
  have HGr : Hid (IsGraph W (.agg #[.int .i64 p, .slice a l.length cap]) (p, l)) := Lib.hid ⟨a, cap, rfl, h⟩
  have H1 := Lib.hid h
  clear h
  have hsz : szGraph (p, l) ≤ 1048576 := hs
  have hsz2 : szGraph (p, l) ≤ 1099511627776 := Nat.le_trans hsz (by decide)
  have B : Below W.heap.size W (W.alloc (.cells #[.int .i64 p, .slice a l.length cap] 26)) := (Below.refl _ _).alloc (Nat.le_refl _) _
  have BG : Hid (BoxGr (W.alloc (.cells #[.int .i64 p, .slice a l.length cap] 26)) W.heap.size p a l.length cap) := Lib.hid (BoxGr.at rfl)
  have HG := Lib.hid hg
  clear hg
  have HZ : Hid (Zer2 ((W.alloc (.cells #[.int .i64 p, .slice a l.length cap] 26)).alloc (.cells #[.int .i64 0, .slice none 0 0] 26)) (W.heap.size + 1)) := Lib.hid (by have := Zer2.at (W.alloc (.cells #[.int .i64 p, .slice a l.length cap] 26)) 26; rwa [World.size_alloc] at this)
  have ba := belAl (W.alloc (.cells #[.int .i64 p, .slice a l.length cap] 26)) (.cells #[.int .i64 0, .slice none 0 0] 26)
  have hz : W.heap.size + 2 ≤ ((W.alloc (.cells #[.int .i64 p, .slice a l.length cap] 26)).alloc (.cells #[.int .i64 0, .slice none 0 0] 26)).heap.size := by simp
  replace B := B.step ba
  replace BG := Lib.hid (BG.out.below ba)
  clear ba
  have d1 : ¬ x < 0 := by omega
  have d2 : ¬ y < 0 := by omega
  have d3 : ¬ p ≤ x := by omega
  have d4 : ¬ p ≤ y := by omega
  obtain ⟨bs, hbs⟩ : ∃ bs, bs = addL l x y := ⟨_, rfl⟩
  rw [← hbs]
  have HBS := Lib.hid hbs
  clear hbs
  go_enter Try.func63, Try.ntmps63
  go_upto_region 1 with (fail)
  generalize ((W.alloc (.cells #[.int .i64 p, .slice a l.length cap] 26)).alloc (.cells #[.int .i64 0, .slice none 0 0] 26)) = u at *
  obtain ⟨zBG, fBG0, fBG1⟩ := BG.out
  go_wp2_with fail
  clear zBG fBG0 fBG1
  refine (specIsGraph_at u p a cap l (H1.out.below B) (by omega)).mono ?_
  rintro e w1 ⟨rfl, b1⟩
  rw [HG.out]
  have hz1 := b1.size
  have B1 := B.step b1
  have BG1 := Lib.hid (BG.out.below b1)
  have Z1 := Lib.hid (HZ.out.below b1)
  have HI1 := Lib.hid (H1.out.below B1)
  clear b1 B BG HZ
  obtain ⟨zBG, fBG0, fBG1⟩ := BG1.out
  have HCOPY : Hid (∀ bs, bs = l → Calls Try.prog 73 #[.agg #[.int .i64 p, .slice a l.length cap]] w1 (RetGraph w1 (p, bs))) := Lib.hid fun bs e => by rw [e]; exact specCpG_at w1 p a cap l.length l HI1.out (by omega)
  have HPUT : Hid (∀ bs, bs = putL l (min x y, max x y) → Calls Try.prog 69 #[.agg #[.int .i64 p, .slice a l.length cap], .agg #[.int .i64 (min x y), .int .i64 (max x y)]] w1 (RetGraph w1 (p, bs))) := Lib.hid fun bs e => by rw [e]; exact l2Put_at w1 p a cap l HI1.out (by omega) _ _
  by_cases hxy : x = y
  · have hbe : (x == y) = true := by rw [hxy]; exact beq_self_eq_true y
    have hcp := HCOPY.out bs (by rw [HBS.out]; unfold addL; rw [if_neg fun h => h.1 hxy])
    have HCP := Lib.hid hcp
    clear hcp HCOPY HPUT hxy
    go_wp2_with fail
    clear zBG fBG0 fBG1
    refine HCP.out.mono ?_
    rintro e w2 ⟨v2, rfl, o2, b⟩
    obtain ⟨vb, ⟨a2, c2, rfl, rfl⟩, ob⟩ := o2
    dsimp only at ob
    have hzb := b.size
    replace B1 := B1.step b
    replace Z1 := Lib.hid (Z1.out.below b)
    have HLD := Lib.hid (laid2 (p := p) (g := W.heap.size + 1) ob (by omega) (by omega) (by omega) B1)
    clear b ob HCP
    obtain ⟨⟨r0, r1, r2, q0, q1⟩, ⟨y0, y1⟩, zg⟩ := Z1.out
    go_wp2_with fail
    refine bodyPost_ret (v := .tuple #[.agg #[.int .i64 p, .slice a2 bs.length c2], .bool false]) (by simp [results, Try.results63, go_sem, zg, q0, q1]) rfl ?_
    exact ⟨_, _, rfl, HLD.out.1, HLD.out.2⟩
  have hbe : (x == y) = false := by simpa using hxy
  by_cases h24 : l.length < 24
  · have h24i : ¬ (24 : Int) ≤ (l.length : Int) := by omega
    have hcp := HPUT.out bs (by rw [HBS.out]; unfold addL; rw [if_pos ⟨hxy, h24⟩])
    have HCP := Lib.hid hcp
    clear hcp HCOPY HPUT
    go_wp2_with fail
    clear zBG fBG0 fBG1
    refine HCP.out.mono ?_
    rintro e w2 ⟨v2, rfl, o2, b⟩
    obtain ⟨vb, ⟨a2, c2, rfl, rfl⟩, ob⟩ := o2
    dsimp only at ob
    have hzb := b.size
    replace B1 := B1.step b
    replace Z1 := Lib.hid (Z1.out.below b)
    have HLD := Lib.hid (laid2 (p := p) (g := W.heap.size + 1) ob (by omega) (by omega) (by omega) B1)
    clear b ob HCP
    obtain ⟨⟨r0, r1, r2, q0, q1⟩, ⟨y0, y1⟩, zg⟩ := Z1.out
    go_wp2_with fail
    refine bodyPost_ret (v := .tuple #[.agg #[.int .i64 p, .slice a2 bs.length c2], .bool true]) (by simp [results, Try.results63, go_sem, zg, q0, q1]) rfl ?_
    exact ⟨_, _, rfl, HLD.out.1, HLD.out.2⟩
  · have h24i : (24 : Int) ≤ (l.length : Int) := by omega
    have hcp := HCOPY.out bs (by rw [HBS.out]; unfold addL; rw [if_neg fun h => h24 h.2])
    have HCP := Lib.hid hcp
    clear hcp HCOPY HPUT
    go_wp2_with fail
    clear zBG fBG0 fBG1
    refine HCP.out.mono ?_
    rintro e w2 ⟨v2, rfl, o2, b⟩
    obtain ⟨vb, ⟨a2, c2, rfl, rfl⟩, ob⟩ := o2
    dsimp only at ob
    have hzb := b.size
    replace B1 := B1.step b
    replace Z1 := Lib.hid (Z1.out.below b)
    have HLD := Lib.hid (laid2 (p := p) (g := W.heap.size + 1) ob (by omega) (by omega) (by omega) B1)
    clear b ob HCP
    obtain ⟨⟨r0, r1, r2, q0, q1⟩, ⟨y0, y1⟩, zg⟩ := Z1.out
    go_wp2_with fail
    refine bodyPost_ret (v := .tuple #[.agg #[.int .i64 p, .slice a2 bs.length c2], .bool false]) (by simp [results, Try.results63, go_sem, zg, q0, q1]) rfl ?_
    exact ⟨_, _, rfl, HLD.out.1, HLD.out.2⟩
end Go.Proofs.Ytfbmpkdjhhcnpaa

