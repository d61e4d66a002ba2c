/- MoveJoint of the reference and of the program. No condition but sizes. -/
import Derived.Test.YtkjoeogoebpkjaaMir2
import Derived.Test.YtkjoeogoebpkjaaChg2
import Derived.BigRegion
namespace Go.Proofs.Ytkjoeogoebpkjaa
open Go.RowKit Gr
set_option maxRecDepth 100000
set_option linter.unusedVariables false
set_option linter.unusedSimpArgs false

def mvjSet (f : FwT) (v : Int) (x : PlaceT) : FwT := (f.1, f.2.1, f.2.2.set v.toNat x)
def mvjIn (f : FwT) (v : Int) : Bool := isFwB f && (decide (0 ≤ v) && decide (v < f.2.2.length))
def mvjOk (f : FwT) (v : Int) (x : PlaceT) : Bool := mvjIn f v && isFwB (mvjSet f v x)
def mvjF (f : FwT) (v : Int) (x : PlaceT) : FwT := if mvjOk f v x = true then mvjSet f v x else f
theorem mvj_no {f : FwT} {v : Int} {x : PlaceT} (h : mvjIn f v = false) : mvjOk f v x = false := by simp only [mvjOk, h, Bool.false_and]
theorem mvjF_no {f : FwT} {v : Int} {x : PlaceT} (h : mvjOk f v x = false) : mvjF f v x = f := by unfold mvjF; rw [h]; rfl
theorem mvjF_yes {f : FwT} {v : Int} {x : PlaceT} (h : mvjOk f v x = true) : mvjF f v x = mvjSet f v x := by unfold mvjF; rw [h]; rfl
theorem mvjF_sz (f : FwT) (v : Int) (x : PlaceT) : szFw (mvjF f v x) = szFw f := by
  unfold mvjF mvjSet
  split
  · simp [szFw]
  · rfl
def RetMvj (W : World) (f : FwT) (v : Int) (x : PlaceT) (e : Ending) (w' : World) : Prop := ∃ vf, e = .returned (.tuple #[vf, .bool (mvjOk f v x)]) ∧ OwnFw w' W.heap.size vf (mvjF f v x) ∧ Below W.heap.size W w'

set_option maxHeartbeats 4000000 in
theorem specMvj_at (W : World) (p : Int) (a : Option Addr) (cap : Nat) (l : List BarT) (c : Option Addr) (capc : Nat) (q : List PlaceT) (h : BarsAt W a l.length l) (hq : PlacesAt W c q.length q) (hs : l.length + q.length ≤ 1048576) (v x y : Int) :
    Calls Try.prog 41 #[.agg #[.int .i64 p, .slice a l.length cap, .slice c q.length capc], .int .i64 v, .agg #[.int .i64 x, .int .i64 y]] W (RetMvj W (p, l, q) v (x, y)) := by
  have hwd := @Wd.cells
  have HFw : Hid (IsFw W (.agg #[.int .i64 p, .slice a l.length cap, .slice c q.length capc]) (p, l, q)) := Lib.hid ⟨a, cap, c, capc, rfl, h, hq⟩
  have H1 := Lib.hid h
  have H2 := Lib.hid hq
  clear h hq
  have hsz : szFw (p, l, q) ≤ 1048576 := hs
  have hs1 : l.length ≤ 1048576 := by omega
  have hs2 : q.length ≤ 1048576 := by omega
  have B : Below W.heap.size W (W.alloc (.cells #[.int .i64 p, .slice a l.length cap, .slice c q.length capc] 42)) := (Below.refl _ _).alloc (Nat.le_refl _) _
  have BX : Hid (BoxFw (W.alloc (.cells #[.int .i64 p, .slice a l.length cap, .slice c q.length capc] 42)) W.heap.size p a l.length cap c q.length capc) := Lib.hid (BoxFw.at rfl)
  have hz0 : (W.alloc (.cells #[.int .i64 p, .slice a l.length cap, .slice c q.length capc] 42)).heap.size = W.heap.size + 1 := by simp
  have hz1 : ((W.alloc (.cells #[.int .i64 p, .slice a l.length cap, .slice c q.length capc] 42)).alloc (.cells #[.int .i64 x, .int .i64 y] 57)).heap.size = W.heap.size + 2 := by simp
  have hz2 : (((W.alloc (.cells #[.int .i64 p, .slice a l.length cap, .slice c q.length capc] 42)).alloc (.cells #[.int .i64 x, .int .i64 y] 57)).alloc (.cells #[.int .i64 0, .slice none 0 0, .slice none 0 0] 42)).heap.size = W.heap.size + 3 := by simp
  have hb1 : Below (W.alloc (.cells #[.int .i64 p, .slice a l.length cap, .slice c q.length capc] 42)).heap.size (W.alloc (.cells #[.int .i64 p, .slice a l.length cap, .slice c q.length capc] 42)) ((W.alloc (.cells #[.int .i64 p, .slice a l.length cap, .slice c q.length capc] 42)).alloc (.cells #[.int .i64 x, .int .i64 y] 57)) := (Below.refl _ _).alloc (Nat.le_refl _) _
  have hb2 : Below ((W.alloc (.cells #[.int .i64 p, .slice a l.length cap, .slice c q.length capc] 42)).alloc (.cells #[.int .i64 x, .int .i64 y] 57)).heap.size ((W.alloc (.cells #[.int .i64 p, .slice a l.length cap, .slice c q.length capc] 42)).alloc (.cells #[.int .i64 x, .int .i64 y] 57)) (((W.alloc (.cells #[.int .i64 p, .slice a l.length cap, .slice c q.length capc] 42)).alloc (.cells #[.int .i64 x, .int .i64 y] 57)).alloc (.cells #[.int .i64 0, .slice none 0 0, .slice none 0 0] 42)) := (Below.refl _ _).alloc (Nat.le_refl _) _
  have BP : Hid (BoxPl ((W.alloc (.cells #[.int .i64 p, .slice a l.length cap, .slice c q.length capc] 42)).alloc (.cells #[.int .i64 x, .int .i64 y] 57)) (W.heap.size + 1) x y) := Lib.hid (BoxPl.at hz0.symm)
  have HZ : Hid (Zer3 (((W.alloc (.cells #[.int .i64 p, .slice a l.length cap, .slice c q.length capc] 42)).alloc (.cells #[.int .i64 x, .int .i64 y] 57)).alloc (.cells #[.int .i64 0, .slice none 0 0, .slice none 0 0] 42)) (W.heap.size + 2)) := Lib.hid (by have := Zer3.at ((W.alloc (.cells #[.int .i64 p, .slice a l.length cap, .slice c q.length capc] 42)).alloc (.cells #[.int .i64 x, .int .i64 y] 57)) 42; rwa [hz1] at this)
  replace B := (B.step hb1).step hb2
  replace BX := Lib.hid ((BX.out.below hb1).below hb2)
  replace BP := Lib.hid (BP.out.below hb2)
  have hu1 : W.heap.size + 3 ≤ (((W.alloc (.cells #[.int .i64 p, .slice a l.length cap, .slice c q.length capc] 42)).alloc (.cells #[.int .i64 x, .int .i64 y] 57)).alloc (.cells #[.int .i64 0, .slice none 0 0, .slice none 0 0] 42)).heap.size := by omega
  have hu2 : (((W.alloc (.cells #[.int .i64 p, .slice a l.length cap, .slice c q.length capc] 42)).alloc (.cells #[.int .i64 x, .int .i64 y] 57)).alloc (.cells #[.int .i64 0, .slice none 0 0, .slice none 0 0] 42)).heap.size ≤ W.heap.size + 3 := by omega
  clear hz0 hz1 hz2 hb1 hb2
  have cI := fun (w1 : World) (b : Below W.heap.size W w1) => spec_IsFramework w1 _ (p, l, q) (HFw.out.below b) hsz
  go_enter Try.func41, Try.ntmps41
  go_wp2_with fail
  generalize (((W.alloc (.cells #[.int .i64 p, .slice a l.length cap, .slice c q.length capc] 42)).alloc (.cells #[.int .i64 x, .int .i64 y] 57)).alloc (.cells #[.int .i64 0, .slice none 0 0, .slice none 0 0] 42)) = u at *
  obtain ⟨zBX, fBX0, fBX1, fBX2⟩ := BX.out
  refine (specCpF_at u p a cap l.length l c capc q.length q (H1.out.below B) (H2.out.below B) hs1 hs2).mono ?_
  rintro e w1 ⟨vf, rfl, ⟨vb, vp, ⟨ab, cb, ap, cp, rfl, rfl, rfl⟩, ob, op⟩, b⟩
  dsimp only at ob op
  have hz1 := b.size
  have HBP := Lib.hid (bars_places ob op)
  replace B := B.step b
  replace HZ := Lib.hid (HZ.out.below b)
  clear zBX fBX0 fBX1 fBX2
  replace BX := Lib.hid (BX.out.below b)
  replace BP := Lib.hid (BP.out.below b)
  clear b
  have b2 : Below w1.heap.size w1 (w1.alloc (.cells #[.int .i64 p, .slice ab l.length cb, .slice ap q.length cp] 42)) := (Below.refl _ _).alloc (Nat.le_refl _) _
  have BY : Hid (BoxFw (w1.alloc (.cells #[.int .i64 p, .slice ab l.length cb, .slice ap q.length cp] 42)) w1.heap.size p ab l.length cb ap q.length cp) := Lib.hid (BoxFw.at rfl)
  have HLT : Hid (∀ g, (Value.slice ap q.length cp).ownBlock = some g → u.heap.size ≤ g ∧ g < w1.heap.size) := Lib.hid op.lt
  have OB := Lib.hid (ob.below b2)
  have OP := Lib.hid (op.below b2)
  clear ob op
  replace B := B.step b2
  replace HZ := Lib.hid (HZ.out.below b2)
  replace BX := Lib.hid (BX.out.below b2)
  replace BP := Lib.hid (BP.out.below b2)
  have hz2 := b2.size
  clear b2
  obtain ⟨zBX, fBX0, fBX1, fBX2⟩ := BX.out
  go_wp2_with fail
  generalize (w1.alloc (.cells #[.int .i64 p, .slice ab l.length cb, .slice ap q.length cp] 42)) = w2 at *
  refine (cI _ B).mono ?_
  rintro e w3 ⟨rfl, b⟩
  have hz3 := b.size
  clear zBX fBX0 fBX1 fBX2
  replace B := B.step b
  replace HZ := Lib.hid (HZ.out.below b)
  replace BX := Lib.hid (BX.out.below b)
  replace BY := Lib.hid (BY.out.below b)
  replace BP := Lib.hid (BP.out.below b)
  replace OB := Lib.hid (OB.out.below b)
  replace OP := Lib.hid (OP.out.below b)
  clear b cI
  cases hf : isFwB (p, l, q)
  · have HE := Lib.hid (mvj_no (x := (x, y)) (show mvjIn (p, l, q) v = false by simp only [mvjIn, hf, Bool.false_and]))
    obtain ⟨zBY, fBY0, fBY1, fBY2⟩ := BY.out
    obtain ⟨⟨z1, z2, z3, c0, c1, c2⟩, ⟨f0, f1, f2⟩, gz⟩ := HZ.out
    have HLD := Lib.hid (laid3 (p := p) (g := W.heap.size + 2) OB.out OP.out (by omega) (by omega) (by omega) B)
    go_wp2_with fail
    refine bodyPost_ret (v := .tuple #[.agg #[.int .i64 p, .slice ab l.length cb, .slice ap q.length cp], .bool false]) (by simp [results, Try.results41, go_sem, gz, c0, c1, c2]) rfl ⟨_, by rw [HE.out], ?_, HLD.out.2⟩
    rw [mvjF_no HE.out]
    exact HLD.out.1
  obtain ⟨⟨hg1, hg2⟩, hg3, hg4, _, hg6⟩ := isFw_facts hf
  have HQP := Lib.hid hg3
  clear hg3 hg6 hg4
  by_cases hv0 : v < 0
  · have HE := Lib.hid (mvj_no (x := (x, y)) (show mvjIn (p, l, q) v = false by simp only [mvjIn, hf, Bool.true_and]; simp; omega))
    clear hf
    obtain ⟨zBY, fBY0, fBY1, fBY2⟩ := BY.out
    obtain ⟨⟨z1, z2, z3, c0, c1, c2⟩, ⟨f0, f1, f2⟩, gz⟩ := HZ.out
    have HLD := Lib.hid (laid3 (p := p) (g := W.heap.size + 2) OB.out OP.out (by omega) (by omega) (by omega) B)
    go_wp2_with fail
    refine bodyPost_ret (v := .tuple #[.agg #[.int .i64 p, .slice ab l.length cb, .slice ap q.length cp], .bool false]) (by simp [results, Try.results41, go_sem, gz, c0, c1, c2]) rfl ⟨_, by rw [HE.out], ?_, HLD.out.2⟩
    rw [mvjF_no HE.out]
    exact HLD.out.1
  by_cases hv1 : (q.length : Int) ≤ v
  · have HE := Lib.hid (mvj_no (x := (x, y)) (show mvjIn (p, l, q) v = false by simp only [mvjIn, hf, Bool.true_and]; simp; omega))
    clear hf
    obtain ⟨zBX, fBX0, fBX1, fBX2⟩ := BX.out
    obtain ⟨zBY, fBY0, fBY1, fBY2⟩ := BY.out
    obtain ⟨⟨z1, z2, z3, c0, c1, c2⟩, ⟨f0, f1, f2⟩, gz⟩ := HZ.out
    have HLD := Lib.hid (laid3 (p := p) (g := W.heap.size + 2) OB.out OP.out (by omega) (by omega) (by omega) B)
    go_wp2_with fail
    refine bodyPost_ret (v := .tuple #[.agg #[.int .i64 p, .slice ab l.length cb, .slice ap q.length cp], .bool false]) (by simp [results, Try.results41, go_sem, gz, c0, c1, c2]) rfl ⟨_, by rw [HE.out], ?_, HLD.out.2⟩
    rw [mvjF_no HE.out]
    exact HLD.out.1
  obtain ⟨k, rfl⟩ := Int.eq_ofNat_of_zero_le (show 0 ≤ v by omega)
  have hk : k < q.length := by omega
  have hin : mvjIn (p, l, q) (k : Int) = true := by simp only [mvjIn, hf, Bool.true_and]; simp; omega
  have hset : mvjSet (p, l, q) (k : Int) (x, y) = (p, l, q.set k (x, y)) := rfl
  have hok : mvjOk (p, l, q) (k : Int) (x, y) = isFwB (p, l, q.set k (x, y)) := by unfold mvjOk; rw [hin, Bool.true_and, hset]
  have HOK := Lib.hid hok
  have HST := Lib.hid hset
  clear hf hin hok hset
  have hkl : (q.set k (x, y)).length = q.length := List.length_set
  have HKL := Lib.hid hkl
  clear hkl
  have hkx : q[k]? = some q[k] := List.getElem?_eq_getElem hk
  obtain ⟨gp, rfl⟩ : ∃ gp, ap = some ⟨gp, 0, none⟩ := by
    rcases OP.out.2 with ⟨_, h0⟩ | ⟨gp, cap, cur, h1, _⟩
    · omega
    · exact ⟨gp, by simpa using (Value.slice.inj h1).1⟩
  obtain ⟨hgp, hgp2⟩ := HLT.out gp rfl
  have hkey := setPlace_seg OP.out (x, y) hk
  have hB2 : Below W.heap.size W ((w3.setCell ⟨gp, k * 2, none⟩ (.int .i64 x)).setCell ⟨gp, k * 2 + 1, none⟩ (.int .i64 y)) := (B.setCell (by simp; omega) _).setCell (by simp; omega) _
  have hKP : Kept (fun b => b = gp) w3 ((w3.setCell ⟨gp, k * 2, none⟩ (.int .i64 x)).setCell ⟨gp, k * 2 + 1, none⟩ (.int .i64 y)) := (keptSet (S := fun b => b = gp) rfl).trans (keptSet (S := fun b => b = gp) rfl)
  have hw2 : w1.heap.size ≤ w2.heap.size := by omega
  have BX2 := Lib.hid (BX.out.kept hKP (by omega))
  have BY2 := Lib.hid (BY.out.kept hKP (by omega))
  have HZ2 := Lib.hid (HZ.out.kept hKP (by omega))
  have OB2 : Hid (OwnBars ((w3.setCell ⟨gp, k * 2, none⟩ (.int .i64 x)).setCell ⟨gp, k * 2 + 1, none⟩ (.int .i64 y)) u.heap.size (.slice ab l.length cb) l) := Lib.hid (hKP.ownsRow OB.out fun j h1 h2 => HBP.out j h1 (by rw [h2]; rfl))
  have OP2 : Hid (OwnPlaces ((w3.setCell ⟨gp, k * 2, none⟩ (.int .i64 x)).setCell ⟨gp, k * 2 + 1, none⟩ (.int .i64 y)) u.heap.size (.slice (some ⟨gp, 0, none⟩) q.length cp) (q.set k (x, y))) := Lib.hid (by unfold OwnPlaces; rw [HKL.out]; exact hkey.1)
  have t0 := ownPlaces_cell OP.out hkx hk 0 (by omega)
  have t1 := ownPlaces_cell OP.out hkx hk 1 (by omega)
  simp only [cellsPlace, List.getElem?_cons_zero, List.getElem?_cons_succ, Nat.add_zero] at t0 t1
  have r0 := World.ownsRow.frozenAt OP.out (k * 2)
  have r1 := World.ownsRow.frozenAt OP.out (k * 2 + 1)
  have hgz : gp < w3.heap.size := (World.ownsRow.lt OP.out gp rfl).2
  have hsw := hKP.size
  clear hkx hkey
  obtain ⟨zBX, fBX0, fBX1, fBX2⟩ := BX.out
  obtain ⟨zBY, fBY0, fBY1, fBY2⟩ := BY.out
  obtain ⟨zBP, fBP0, fBP1⟩ := BP.out
  obtain ⟨zBYb, fBYb0, fBYb1, fBYb2⟩ := BY2.out
  have p1 : (0 : Int) ≤ (k : Int) := by omega
  have p2 : (k : Int) < (q.length : Int) := by omega
  have hIs : IsFw ((w3.setCell ⟨gp, k * 2, none⟩ (.int .i64 x)).setCell ⟨gp, k * 2 + 1, none⟩ (.int .i64 y)) (.agg #[.int .i64 p, .slice ab l.length cb, .slice (some ⟨gp, 0, none⟩) q.length cp]) (p, l, q.set k (x, y)) := by
    obtain ⟨a1, c1, e1, i1⟩ := OB2.out.form
    obtain ⟨a2, c2, e2, i2⟩ := OP2.out.form
    rw [HKL.out] at e2 i2
    simp only [Value.slice.injEq, true_and] at e1 e2
    obtain ⟨rfl, rfl⟩ := e1
    obtain ⟨rfl, rfl⟩ := e2
    exact ⟨_, _, _, _, by rw [HKL.out], i1, by rw [HKL.out]; exact i2⟩
  have cJ := Lib.hid (spec_IsFramework _ _ (p, l, q.set k (x, y)) hIs (by show l.length + (q.set k (x, y)).length ≤ _; rw [HKL.out]; exact hs))
  clear hIs
  go_wp2_with fail
  generalize ((w3.setCell ⟨gp, k * 2, none⟩ (.int .i64 x)).setCell ⟨gp, k * 2 + 1, none⟩ (.int .i64 y)) = w4 at *
  clear zBX fBX0 fBX1 fBX2 zBY fBY0 fBY1 fBY2 zBP fBP0 fBP1 zBYb fBYb0 fBYb1 fBYb2 t0 t1 r0 r1 B BX BY HZ OB OP BP
  refine cJ.out.mono ?_
  rintro e w5 ⟨rfl, b⟩
  have hz5 := b.size
  have B := hB2.step b
  have HZ := Lib.hid (HZ2.out.below b)
  have BX := Lib.hid (BX2.out.below b)
  have BY := Lib.hid (BY2.out.below b)
  have OB := Lib.hid (OB2.out.below b)
  have OP := Lib.hid (OP2.out.below b)
  clear b hB2 HZ2 BX2 BY2 OB2 OP2 cJ hKP
  cases hf2 : isFwB (p, l, q.set k (x, y))
  · have HE := Lib.hid (HOK.out.trans hf2)
    clear hf2 HOK BY OB OP
    obtain ⟨zBX, fBX0, fBX1, fBX2⟩ := BX.out
    go_wp2_with fail
    refine (specCpF_at w5 p a cap l.length l c capc q.length q (H1.out.below B) (H2.out.below B) hs1 hs2).mono ?_
    rintro e w6 ⟨vf, rfl, ⟨vb, vp, ⟨ab2, cb2, ap2, cp2, rfl, rfl, rfl⟩, ob, op⟩, b⟩
    dsimp only at ob op
    replace B := B.step b
    replace HZ := Lib.hid (HZ.out.below b)
    clear b zBX fBX0 fBX1 fBX2
    obtain ⟨⟨z1, z2, z3, c0, c1, c2⟩, ⟨f0, f1, f2⟩, gz⟩ := HZ.out
    have HLD := Lib.hid (laid3 (p := p) (g := W.heap.size + 2) ob op (by omega) (by omega) (by omega) B)
    go_wp2_with fail
    refine bodyPost_ret (v := .tuple #[.agg #[.int .i64 p, .slice ab2 l.length cb2, .slice ap2 q.length cp2], .bool false]) (by simp [results, Try.results41, go_sem, gz, c0, c1, c2]) rfl ⟨_, by rw [HE.out], ?_, HLD.out.2⟩
    rw [mvjF_no HE.out]
    exact HLD.out.1
  have HE := Lib.hid (HOK.out.trans hf2)
  clear hf2 HOK
  obtain ⟨zBY, fBY0, fBY1, fBY2⟩ := BY.out
  obtain ⟨⟨z1, z2, z3, c0, c1, c2⟩, ⟨f0, f1, f2⟩, gz⟩ := HZ.out
  have HLD := laid3 (W := W) (p := p) (g := W.heap.size + 2) (q := q.set k (x, y)) (ap := some ⟨gp, 0, none⟩) (cp := cp) OB.out (by rw [HKL.out]; exact OP.out) (by omega) (by omega) (by omega) B
  rw [HKL.out] at HLD
  replace HLD := Lib.hid HLD
  go_wp2_with fail
  refine bodyPost_ret (v := .tuple #[.agg #[.int .i64 p, .slice ab l.length cb, .slice (some ⟨gp, 0, none⟩) q.length cp], .bool true]) (by simp [results, Try.results41, go_sem, gz, c0, c1, c2]) rfl ⟨_, by rw [HE.out], ?_, HLD.out.2⟩
  rw [mvjF_yes HE.out, HST.out]
  exact HLD.out.1

set_option maxHeartbeats 4000000 in
theorem implMvj_at (W : World) (p : Int) (a : Option Addr) (cap : Nat) (l : List BarT) (c : Option Addr) (capc : Nat) (q : List PlaceT) (h : BarsAt W a l.length l) (hq : PlacesAt W c q.length q) (hs : l.length + q.length ≤ 1048576) (v x y : Int) :
    Calls Try.prog 43 #[.agg #[.int .i64 p, .slice a l.length cap, .slice c q.length capc], .int .i64 v, .agg #[.int .i64 x, .int .i64 y]] W (RetMvj W (p, l, q) v (x, y)) := by
  have hwd := @Wd.cells
  have HFw : Hid (IsFw W (.agg #[.int .i64 p, .slice a l.length cap, .slice c q.length capc]) (p, l, q)) := Lib.hid ⟨a, cap, c, capc, rfl, h, hq⟩
  have H1 := Lib.hid h
  have H2 := Lib.hid hq
  clear h hq
  have hsz : szFw (p, l, q) ≤ 1048576 := hs
  have hs1 : l.length ≤ 1048576 := by omega
  have hs2 : q.length ≤ 1048576 := by omega
  have B : Below W.heap.size W (W.alloc (.cells #[.int .i64 p, .slice a l.length cap, .slice c q.length capc] 42)) := (Below.refl _ _).alloc (Nat.le_refl _) _
  have BX : Hid (BoxFw (W.alloc (.cells #[.int .i64 p, .slice a l.length cap, .slice c q.length capc] 42)) W.heap.size p a l.length cap c q.length capc) := Lib.hid (BoxFw.at rfl)
  have hz0 : (W.alloc (.cells #[.int .i64 p, .slice a l.length cap, .slice c q.length capc] 42)).heap.size = W.heap.size + 1 := by simp
  have hz1 : ((W.alloc (.cells #[.int .i64 p, .slice a l.length cap, .slice c q.length capc] 42)).alloc (.cells #[.int .i64 x, .int .i64 y] 57)).heap.size = W.heap.size + 2 := by simp
  have hz2 : (((W.alloc (.cells #[.int .i64 p, .slice a l.length cap, .slice c q.length capc] 42)).alloc (.cells #[.int .i64 x, .int .i64 y] 57)).alloc (.cells #[.int .i64 0, .slice none 0 0, .slice none 0 0] 42)).heap.size = W.heap.size + 3 := by simp
  have hb1 : Below (W.alloc (.cells #[.int .i64 p, .slice a l.length cap, .slice c q.length capc] 42)).heap.size (W.alloc (.cells #[.int .i64 p, .slice a l.length cap, .slice c q.length capc] 42)) ((W.alloc (.cells #[.int .i64 p, .slice a l.length cap, .slice c q.length capc] 42)).alloc (.cells #[.int .i64 x, .int .i64 y] 57)) := (Below.refl _ _).alloc (Nat.le_refl _) _
  have hb2 : Below ((W.alloc (.cells #[.int .i64 p, .slice a l.length cap, .slice c q.length capc] 42)).alloc (.cells #[.int .i64 x, .int .i64 y] 57)).heap.size ((W.alloc (.cells #[.int .i64 p, .slice a l.length cap, .slice c q.length capc] 42)).alloc (.cells #[.int .i64 x, .int .i64 y] 57)) (((W.alloc (.cells #[.int .i64 p, .slice a l.length cap, .slice c q.length capc] 42)).alloc (.cells #[.int .i64 x, .int .i64 y] 57)).alloc (.cells #[.int .i64 0, .slice none 0 0, .slice none 0 0] 42)) := (Below.refl _ _).alloc (Nat.le_refl _) _
  have BP : Hid (BoxPl ((W.alloc (.cells #[.int .i64 p, .slice a l.length cap, .slice c q.length capc] 42)).alloc (.cells #[.int .i64 x, .int .i64 y] 57)) (W.heap.size + 1) x y) := Lib.hid (BoxPl.at hz0.symm)
  have HZ : Hid (Zer3 (((W.alloc (.cells #[.int .i64 p, .slice a l.length cap, .slice c q.length capc] 42)).alloc (.cells #[.int .i64 x, .int .i64 y] 57)).alloc (.cells #[.int .i64 0, .slice none 0 0, .slice none 0 0] 42)) (W.heap.size + 2)) := Lib.hid (by have := Zer3.at ((W.alloc (.cells #[.int .i64 p, .slice a l.length cap, .slice c q.length capc] 42)).alloc (.cells #[.int .i64 x, .int .i64 y] 57)) 42; rwa [hz1] at this)
  replace B := (B.step hb1).step hb2
  replace BX := Lib.hid ((BX.out.below hb1).below hb2)
  replace BP := Lib.hid (BP.out.below hb2)
  have hu1 : W.heap.size + 3 ≤ (((W.alloc (.cells #[.int .i64 p, .slice a l.length cap, .slice c q.length capc] 42)).alloc (.cells #[.int .i64 x, .int .i64 y] 57)).alloc (.cells #[.int .i64 0, .slice none 0 0, .slice none 0 0] 42)).heap.size := by omega
  have hu2 : (((W.alloc (.cells #[.int .i64 p, .slice a l.length cap, .slice c q.length capc] 42)).alloc (.cells #[.int .i64 x, .int .i64 y] 57)).alloc (.cells #[.int .i64 0, .slice none 0 0, .slice none 0 0] 42)).heap.size ≤ W.heap.size + 3 := by omega
  clear hz0 hz1 hz2 hb1 hb2
  have cI := fun (w1 : World) (b : Below W.heap.size W w1) => impl_IsFramework w1 _ (p, l, q) (HFw.out.below b) hsz
  go_enter Try.func43, Try.ntmps43
  go_wp2_with fail
  generalize (((W.alloc (.cells #[.int .i64 p, .slice a l.length cap, .slice c q.length capc] 42)).alloc (.cells #[.int .i64 x, .int .i64 y] 57)).alloc (.cells #[.int .i64 0, .slice none 0 0, .slice none 0 0] 42)) = u at *
  obtain ⟨zBX, fBX0, fBX1, fBX2⟩ := BX.out
  refine (implCpF_at u p a cap l.length l c capc q.length q (H1.out.below B) (H2.out.below B) hs1 hs2).mono ?_
  rintro e w1 ⟨vf, rfl, ⟨vb, vp, ⟨ab, cb, ap, cp, rfl, rfl, rfl⟩, ob, op⟩, b⟩
  dsimp only at ob op
  have hz1 := b.size
  have HBP := Lib.hid (bars_places ob op)
  replace B := B.step b
  replace HZ := Lib.hid (HZ.out.below b)
  clear zBX fBX0 fBX1 fBX2
  replace BX := Lib.hid (BX.out.below b)
  replace BP := Lib.hid (BP.out.below b)
  clear b
  have b2 : Below w1.heap.size w1 (w1.alloc (.cells #[.int .i64 p, .slice ab l.length cb, .slice ap q.length cp] 42)) := (Below.refl _ _).alloc (Nat.le_refl _) _
  have BY : Hid (BoxFw (w1.alloc (.cells #[.int .i64 p, .slice ab l.length cb, .slice ap q.length cp] 42)) w1.heap.size p ab l.length cb ap q.length cp) := Lib.hid (BoxFw.at rfl)
  have HLT : Hid (∀ g, (Value.slice ap q.length cp).ownBlock = some g → u.heap.size ≤ g ∧ g < w1.heap.size) := Lib.hid op.lt
  have OB := Lib.hid (ob.below b2)
  have OP := Lib.hid (op.below b2)
  clear ob op
  replace B := B.step b2
  replace HZ := Lib.hid (HZ.out.below b2)
  replace BX := Lib.hid (BX.out.below b2)
  replace BP := Lib.hid (BP.out.below b2)
  have hz2 := b2.size
  clear b2
  obtain ⟨zBX, fBX0, fBX1, fBX2⟩ := BX.out
  go_wp2_with fail
  generalize (w1.alloc (.cells #[.int .i64 p, .slice ab l.length cb, .slice ap q.length cp] 42)) = w2 at *
  refine (cI _ B).mono ?_
  rintro e w3 ⟨rfl, b⟩
  have hz3 := b.size
  clear zBX fBX0 fBX1 fBX2
  replace B := B.step b
  replace HZ := Lib.hid (HZ.out.below b)
  replace BX := Lib.hid (BX.out.below b)
  replace BY := Lib.hid (BY.out.below b)
  replace BP := Lib.hid (BP.out.below b)
  replace OB := Lib.hid (OB.out.below b)
  replace OP := Lib.hid (OP.out.below b)
  clear b cI
  cases hf : isFwB (p, l, q)
  · have HE := Lib.hid (mvj_no (x := (x, y)) (show mvjIn (p, l, q) v = false by simp only [mvjIn, hf, Bool.false_and]))
    obtain ⟨zBY, fBY0, fBY1, fBY2⟩ := BY.out
    obtain ⟨⟨z1, z2, z3, c0, c1, c2⟩, ⟨f0, f1, f2⟩, gz⟩ := HZ.out
    have HLD := Lib.hid (laid3 (p := p) (g := W.heap.size + 2) OB.out OP.out (by omega) (by omega) (by omega) B)
    go_wp2_with fail
    refine bodyPost_ret (v := .tuple #[.agg #[.int .i64 p, .slice ab l.length cb, .slice ap q.length cp], .bool false]) (by simp [results, Try.results43, go_sem, gz, c0, c1, c2]) rfl ⟨_, by rw [HE.out], ?_, HLD.out.2⟩
    rw [mvjF_no HE.out]
    exact HLD.out.1
  obtain ⟨⟨hg1, hg2⟩, hg3, hg4, _, hg6⟩ := isFw_facts hf
  have HQP := Lib.hid hg3
  clear hg3 hg6 hg4
  obtain ⟨zBX, fBX0, fBX1, fBX2⟩ := BX.out
  go_wp2_with fail
  refine (has_any _ _ _ ⟨_, _, _, rfl⟩ _ hg1 (by omega)).mono ?_
  rintro e w4 ⟨rfl, b⟩
  have hz4 := b.size
  clear zBX fBX0 fBX1 fBX2
  replace B := B.step b
  replace HZ := Lib.hid (HZ.out.below b)
  replace BX := Lib.hid (BX.out.below b)
  replace BY := Lib.hid (BY.out.below b)
  replace BP := Lib.hid (BP.out.below b)
  replace OB := Lib.hid (OB.out.below b)
  replace OP := Lib.hid (OP.out.below b)
  clear b
  cases hh : inB v 0 (p - 1)
  · have HE := Lib.hid (mvj_no (x := (x, y)) (show mvjIn (p, l, q) v = false by have := HQP.out; simp only [mvjIn, hf, Bool.true_and]; simp [inB] at hh ⊢; omega))
    clear hf hh
    obtain ⟨zBY, fBY0, fBY1, fBY2⟩ := BY.out
    obtain ⟨⟨z1, z2, z3, c0, c1, c2⟩, ⟨f0, f1, f2⟩, gz⟩ := HZ.out
    have HLD := Lib.hid (laid3 (p := p) (g := W.heap.size + 2) OB.out OP.out (by omega) (by omega) (by omega) B)
    go_wp2_with fail
    refine bodyPost_ret (v := .tuple #[.agg #[.int .i64 p, .slice ab l.length cb, .slice ap q.length cp], .bool false]) (by simp [results, Try.results43, go_sem, gz, c0, c1, c2]) rfl ⟨_, by rw [HE.out], ?_, HLD.out.2⟩
    rw [mvjF_no HE.out]
    exact HLD.out.1
  have hh2 : 0 ≤ v ∧ v < q.length := by have := HQP.out; simp [inB] at hh; omega
  obtain ⟨k, rfl⟩ := Int.eq_ofNat_of_zero_le hh2.1
  have hk : k < q.length := by omega
  clear hh hh2
  generalize w3 = w3' at *
  generalize w4 = w3 at *
  have hin : mvjIn (p, l, q) (k : Int) = true := by simp only [mvjIn, hf, Bool.true_and]; simp; omega
  have hset : mvjSet (p, l, q) (k : Int) (x, y) = (p, l, q.set k (x, y)) := rfl
  have hok : mvjOk (p, l, q) (k : Int) (x, y) = isFwB (p, l, q.set k (x, y)) := by unfold mvjOk; rw [hin, Bool.true_and, hset]
  have HOK := Lib.hid hok
  have HST := Lib.hid hset
  clear hf hin hok hset
  have hkl : (q.set k (x, y)).length = q.length := List.length_set
  have HKL := Lib.hid hkl
  clear hkl
  have hkx : q[k]? = some q[k] := List.getElem?_eq_getElem hk
  obtain ⟨gp, rfl⟩ : ∃ gp, ap = some ⟨gp, 0, none⟩ := by
    rcases OP.out.2 with ⟨_, h0⟩ | ⟨gp, cap, cur, h1, _⟩
    · omega
    · exact ⟨gp, by simpa using (Value.slice.inj h1).1⟩
  obtain ⟨hgp, hgp2⟩ := HLT.out gp rfl
  have hkey := setPlace_seg OP.out (x, y) hk
  have hB2 : Below W.heap.size W ((w3.setCell ⟨gp, k * 2, none⟩ (.int .i64 x)).setCell ⟨gp, k * 2 + 1, none⟩ (.int .i64 y)) := (B.setCell (by simp; omega) _).setCell (by simp; omega) _
  have hKP : Kept (fun b => b = gp) w3 ((w3.setCell ⟨gp, k * 2, none⟩ (.int .i64 x)).setCell ⟨gp, k * 2 + 1, none⟩ (.int .i64 y)) := (keptSet (S := fun b => b = gp) rfl).trans (keptSet (S := fun b => b = gp) rfl)
  have hw2 : w1.heap.size ≤ w2.heap.size := by omega
  have BX2 := Lib.hid (BX.out.kept hKP (by omega))
  have BY2 := Lib.hid (BY.out.kept hKP (by omega))
  have HZ2 := Lib.hid (HZ.out.kept hKP (by omega))
  have OB2 : Hid (OwnBars ((w3.setCell ⟨gp, k * 2, none⟩ (.int .i64 x)).setCell ⟨gp, k * 2 + 1, none⟩ (.int .i64 y)) u.heap.size (.slice ab l.length cb) l) := Lib.hid (hKP.ownsRow OB.out fun j h1 h2 => HBP.out j h1 (by rw [h2]; rfl))
  have OP2 : Hid (OwnPlaces ((w3.setCell ⟨gp, k * 2, none⟩ (.int .i64 x)).setCell ⟨gp, k * 2 + 1, none⟩ (.int .i64 y)) u.heap.size (.slice (some ⟨gp, 0, none⟩) q.length cp) (q.set k (x, y))) := Lib.hid (by unfold OwnPlaces; rw [HKL.out]; exact hkey.1)
  have t0 := ownPlaces_cell OP.out hkx hk 0 (by omega)
  have t1 := ownPlaces_cell OP.out hkx hk 1 (by omega)
  simp only [cellsPlace, List.getElem?_cons_zero, List.getElem?_cons_succ, Nat.add_zero] at t0 t1
  have r0 := World.ownsRow.frozenAt OP.out (k * 2)
  have r1 := World.ownsRow.frozenAt OP.out (k * 2 + 1)
  have hgz : gp < w3.heap.size := (World.ownsRow.lt OP.out gp rfl).2
  have hsw := hKP.size
  clear hkx hkey
  obtain ⟨zBX, fBX0, fBX1, fBX2⟩ := BX.out
  obtain ⟨zBY, fBY0, fBY1, fBY2⟩ := BY.out
  obtain ⟨zBP, fBP0, fBP1⟩ := BP.out
  obtain ⟨zBYb, fBYb0, fBYb1, fBYb2⟩ := BY2.out
  have p1 : (0 : Int) ≤ (k : Int) := by omega
  have p2 : (k : Int) < (q.length : Int) := by omega
  have hIs : IsFw ((w3.setCell ⟨gp, k * 2, none⟩ (.int .i64 x)).setCell ⟨gp, k * 2 + 1, none⟩ (.int .i64 y)) (.agg #[.int .i64 p, .slice ab l.length cb, .slice (some ⟨gp, 0, none⟩) q.length cp]) (p, l, q.set k (x, y)) := by
    obtain ⟨a1, c1, e1, i1⟩ := OB2.out.form
    obtain ⟨a2, c2, e2, i2⟩ := OP2.out.form
    rw [HKL.out] at e2 i2
    simp only [Value.slice.injEq, true_and] at e1 e2
    obtain ⟨rfl, rfl⟩ := e1
    obtain ⟨rfl, rfl⟩ := e2
    exact ⟨_, _, _, _, by rw [HKL.out], i1, by rw [HKL.out]; exact i2⟩
  have cJ := Lib.hid (impl_IsFramework _ _ (p, l, q.set k (x, y)) hIs (by show l.length + (q.set k (x, y)).length ≤ _; rw [HKL.out]; exact hs))
  clear hIs
  go_wp2_with fail
  generalize ((w3.setCell ⟨gp, k * 2, none⟩ (.int .i64 x)).setCell ⟨gp, k * 2 + 1, none⟩ (.int .i64 y)) = w4 at *
  clear zBX fBX0 fBX1 fBX2 zBY fBY0 fBY1 fBY2 zBP fBP0 fBP1 zBYb fBYb0 fBYb1 fBYb2 t0 t1 r0 r1 B BX BY HZ OB OP BP
  refine cJ.out.mono ?_
  rintro e w5 ⟨rfl, b⟩
  have hz5 := b.size
  have B := hB2.step b
  have HZ := Lib.hid (HZ2.out.below b)
  have BX := Lib.hid (BX2.out.below b)
  have BY := Lib.hid (BY2.out.below b)
  have OB := Lib.hid (OB2.out.below b)
  have OP := Lib.hid (OP2.out.below b)
  clear b hB2 HZ2 BX2 BY2 OB2 OP2 cJ hKP
  cases hf2 : isFwB (p, l, q.set k (x, y))
  · have HE := Lib.hid (HOK.out.trans hf2)
    clear hf2 HOK BY OB OP
    obtain ⟨zBX, fBX0, fBX1, fBX2⟩ := BX.out
    go_wp2_with fail
    refine (implCpF_at w5 p a cap l.length l c capc q.length q (H1.out.below B) (H2.out.below B) hs1 hs2).mono ?_
    rintro e w6 ⟨vf, rfl, ⟨vb, vp, ⟨ab2, cb2, ap2, cp2, rfl, rfl, rfl⟩, ob, op⟩, b⟩
    dsimp only at ob op
    replace B := B.step b
    replace HZ := Lib.hid (HZ.out.below b)
    clear b zBX fBX0 fBX1 fBX2
    obtain ⟨⟨z1, z2, z3, c0, c1, c2⟩, ⟨f0, f1, f2⟩, gz⟩ := HZ.out
    have HLD := Lib.hid (laid3 (p := p) (g := W.heap.size + 2) ob op (by omega) (by omega) (by omega) B)
    go_wp2_with fail
    refine bodyPost_ret (v := .tuple #[.agg #[.int .i64 p, .slice ab2 l.length cb2, .slice ap2 q.length cp2], .bool false]) (by simp [results, Try.results43, go_sem, gz, c0, c1, c2]) rfl ⟨_, by rw [HE.out], ?_, HLD.out.2⟩
    rw [mvjF_no HE.out]
    exact HLD.out.1
  have HE := Lib.hid (HOK.out.trans hf2)
  clear hf2 HOK
  obtain ⟨zBY, fBY0, fBY1, fBY2⟩ := BY.out
  obtain ⟨⟨z1, z2, z3, c0, c1, c2⟩, ⟨f0, f1, f2⟩, gz⟩ := HZ.out
  have HLD := laid3 (W := W) (p := p) (g := W.heap.size + 2) (q := q.set k (x, y)) (ap := some ⟨gp, 0, none⟩) (cp := cp) OB.out (by rw [HKL.out]; exact OP.out) (by omega) (by omega) (by omega) B
  rw [HKL.out] at HLD
  replace HLD := Lib.hid HLD
  go_wp2_with fail
  refine bodyPost_ret (v := .tuple #[.agg #[.int .i64 p, .slice ab l.length cb, .slice (some ⟨gp, 0, none⟩) q.length cp], .bool true]) (by simp [results, Try.results43, go_sem, gz, c0, c1, c2]) rfl ⟨_, by rw [HE.out], ?_, HLD.out.2⟩
  rw [mvjF_yes HE.out, HST.out]
  exact HLD.out.1

theorem spec_MoveJoint (W : World) (v0 : Value) (f : FwT) (h : IsFw W v0 f) (v : Int) (x : PlaceT) (hn : szFw f ≤ 1048576) :
    Calls Try.prog 41 #[v0, .int .i64 v, .agg #[.int .i64 x.1, .int .i64 x.2]] W (RetMvj W f v x) := by
  obtain ⟨p, l, q⟩ := f
  obtain ⟨a, cap, c, capc, rfl, hi, hj⟩ := h
  exact specMvj_at _ _ _ _ _ _ _ _ hi hj hn _ _ _

theorem impl_MoveJoint (W : World) (v0 : Value) (f : FwT) (h : IsFw W v0 f) (v : Int) (x : PlaceT) (hn : szFw f ≤ 1048576) :
    Calls Try.prog 43 #[v0, .int .i64 v, .agg #[.int .i64 x.1, .int .i64 x.2]] W (RetMvj W f v x) := by
  obtain ⟨p, l, q⟩ := f
  obtain ⟨a, cap, c, capc, rfl, hi, hj⟩ := h
  exact implMvj_at _ _ _ _ _ _ _ _ hi hj hn _ _ _

end Go.Proofs.Ytkjoeogoebpkjaa
