/- MirrorFramework and TurnFramework of the reference. No condition but sizes. -/
import Derived.Test.YtkjoeogoebpkjaaCpF
import Derived.Test.YtkjoeogoebpkjaaRig2
import Derived.BigRegion
namespace Go.Proofs.Ytkjoeogoebpkjaa
open Go.RowKit Gr
set_option maxRecDepth 100000
set_option linter.unusedVariables false
set_option linter.unusedSimpArgs false

def mirP (x : PlaceT) : PlaceT := (4 - x.1, x.2)
def turP (x : PlaceT) : PlaceT := (4 - x.2, x.1)
def mvTo (g : PlaceT → PlaceT) (q : List PlaceT) (k : Nat) : List PlaceT := (q.take k).map g ++ q.drop k
theorem mvTo_zero (g : PlaceT → PlaceT) (q : List PlaceT) : mvTo g q 0 = q := by simp [mvTo]
theorem mvTo_all (g : PlaceT → PlaceT) (q : List PlaceT) : mvTo g q q.length = q.map g := by simp [mvTo]
theorem mvTo_length {g : PlaceT → PlaceT} {q : List PlaceT} {k : Nat} (h : k ≤ q.length) : (mvTo g q k).length = q.length := by simp [mvTo]; omega
theorem mvTo_get {g : PlaceT → PlaceT} {q : List PlaceT} {k : Nat} (h : k ≤ q.length) : (mvTo g q k)[k]? = q[k]? := by
  unfold mvTo
  rw [List.getElem?_append_right (by simp; omega)]
  simp [Nat.min_eq_left h]
theorem mvTo_succ {g : PlaceT → PlaceT} {q : List PlaceT} {k : Nat} {x : PlaceT} (h : q[k]? = some x) : (mvTo g q k).set k (g x) = mvTo g q (k + 1) := by
  have hk := lt_of_getElem? h
  unfold mvTo
  rw [List.set_append_right _ _ (by simp; omega), take_succ_of h, List.map_append, List.append_assoc]
  congr 1
  have e : k - ((q.take k).map g).length = 0 := by simp; omega
  have e2 : q.drop k = x :: q.drop (k + 1) := by rw [List.drop_eq_getElem_cons hk, (List.getElem?_eq_some_iff.1 h).2]
  rw [e, e2]
  rfl
theorem Kept.drew {S : Nat → Prop} {w w' : World} (h : Kept S w w') : Kept S w w'.drew := ⟨h.os, h.tape, h.output, h.size, h.block⟩
def movF (g : PlaceT → PlaceT) (f : FwT) : FwT := if isFwB f = true then (f.1, f.2.1, f.2.2.map g) else f
theorem flat_setX : ∀ {l : List PlaceT} {j : Nat} {a : PlaceT} (x : Int), l[j]? = some a → (l.flatMap cellsPlace).set (j * 2) (.int .i64 x) = (l.set j (x, a.2)).flatMap cellsPlace
  | [], j, a, x, h => by simp at h
  | p :: t, 0, a, x, h => by simp at h; subst h; simp [cellsPlace]
  | p :: t, j + 1, a, x, h => by
    have ih := flat_setX (l := t) (j := j) x (by simpa using h)
    simp only [List.flatMap_cons, List.set_cons_succ, cellsPlace, List.cons_append, List.nil_append, Nat.succ_mul, List.set_cons_succ]
    rw [← ih]
theorem setPlaceX {W : World} {base g n cap : Nat} {l : List PlaceT} {j : Nat} {a : PlaceT} (h : W.ownsRow base 57 2 (.slice (some ⟨g, 0, none⟩) n cap) n (l.flatMap cellsPlace)) (x : Int) (ha : l[j]? = some a) :
    ((W.setCell ⟨g, j * 2, none⟩ (.int .i64 x))).ownsRow base 57 2 (.slice (some ⟨g, 0, none⟩) n cap) n ((l.set j (x, a.2)).flatMap cellsPlace) := by
  have s0 := World.ownsRow.stored h (j * 2) (.int .i64 x)
  rw [flat_setX x ha] at s0
  exact s0.1
/-- the cells of a framework that stands for a result -/
def Zer3 (w : World) (g : Nat) : Prop := (∃ a b c, w.cell? ⟨g, 0, none⟩ = some (.int .i64 a) ∧ w.cell? ⟨g, 1, none⟩ = some (.slice none b c) ∧ w.cell? ⟨g, 2, none⟩ = some (.slice none b c)) ∧ (w.frozen? ⟨g, 0, none⟩ = false ∧ w.frozen? ⟨g, 1, none⟩ = false ∧ w.frozen? ⟨g, 2, none⟩ = false) ∧ g < w.heap.size
theorem Zer3.at (w : World) (ty : TypeId) : Zer3 (w.alloc (.cells #[.int .i64 0, .slice none 0 0, .slice none 0 0] ty)) w.heap.size :=
  ⟨⟨0, 0, 0, by simp [World.cell?_alloc_new], by simp [World.cell?_alloc_new], by simp [World.cell?_alloc_new]⟩, ⟨by simp [World.frozen?_alloc_new], by simp [World.frozen?_alloc_new], by simp [World.frozen?_alloc_new]⟩, by simp⟩
theorem Zer3.kept {S : Nat → Prop} {w w' : World} {g : Nat} (h : Zer3 w g) (hk : Kept S w w') (hs : ¬ S g) : Zer3 w' g := by
  obtain ⟨⟨a, b, c, c0, c1, c2⟩, ⟨f0, f1, f2⟩, hz⟩ := h
  exact ⟨⟨a, b, c, (hk.cell hz hs).trans c0, (hk.cell hz hs).trans c1, (hk.cell hz hs).trans c2⟩, ⟨(hk.frozen hz hs).trans f0, (hk.frozen hz hs).trans f1, (hk.frozen hz hs).trans f2⟩, Nat.lt_of_lt_of_le hz hk.size⟩
theorem Zer3.below {w w' : World} {g : Nat} (h : Zer3 w g) (hb : Below w.heap.size w w') : Zer3 w' g := h.kept (Kept.of_below (S := fun _ => False) hb) id
/-- a framework laid into the place of the result -/
theorem laid3 {W w : World} {p : Int} {ab ap : Option Addr} {cb cp lo g : Nat} {l : List BarT} {q : List PlaceT} (hb : OwnBars w lo (.slice ab l.length cb) l) (hp : OwnPlaces w lo (.slice ap q.length cp) q) (hg : W.heap.size ≤ g) (hgl : g < lo) (hlo : W.heap.size ≤ lo) (hbe : Below W.heap.size W w) :
    OwnFw (((w.setCell ⟨g, 0, none⟩ (.int .i64 p)).setCell ⟨g, 1, none⟩ (.slice ab l.length cb)).setCell ⟨g, 2, none⟩ (.slice ap q.length cp)) W.heap.size (.agg #[.int .i64 p, .slice ab l.length cb, .slice ap q.length cp]) (p, l, q)
    ∧ Below W.heap.size W (((w.setCell ⟨g, 0, none⟩ (.int .i64 p)).setCell ⟨g, 1, none⟩ (.slice ab l.length cb)).setCell ⟨g, 2, none⟩ (.slice ap q.length cp)) :=
  ⟨⟨.slice ab l.length cb, .slice ap q.length cp, ⟨ab, cb, ap, cp, rfl, rfl, rfl⟩, ownsRow_base (((hb.set (by simp; omega) _).set (by simp; omega) _).set (by simp; omega) _) hlo, ownsRow_base (((hp.set (by simp; omega) _).set (by simp; omega) _).set (by simp; omega) _) hlo⟩, ((hbe.setCell (by simp; omega) _).setCell (by simp; omega) _).setCell (by simp; omega) _⟩

set_option maxHeartbeats 4000000 in
theorem specMir_at (W : World) (p : Int) (a : Option Addr) (cap : Nat) (l : List BarT) (c : Option Addr) (capc : Nat) (q : List PlaceT) (h : BarsAt W a l.length l) (hq : PlacesAt W c q.length q) (hs : l.length + q.length ≤ 1048576) :
    Calls Try.prog 35 #[.agg #[.int .i64 p, .slice a l.length cap, .slice c q.length capc]] W (RetFw W (movF mirP (p, l, q))) := by
  have hwd := @Wd.cells
  have HFw : Hid (IsFw W (.agg #[.int .i64 p, .slice a l.length cap, .slice c q.length capc]) (p, l, q)) := Lib.hid ⟨a, cap, c, capc, rfl, h, hq⟩
  have H1 := Lib.hid h
  have H2 := Lib.hid hq
  clear h hq
  have hsz : szFw (p, l, q) ≤ 1048576 := hs
  have hs1 : l.length ≤ 1048576 := by omega
  have hs2 : q.length ≤ 1048576 := by omega
  have B : Below W.heap.size W (W.alloc (.cells #[.int .i64 p, .slice a l.length cap, .slice c q.length capc] 42)) := (Below.refl _ _).alloc (Nat.le_refl _) _
  have BX : Hid (BoxFw (W.alloc (.cells #[.int .i64 p, .slice a l.length cap, .slice c q.length capc] 42)) W.heap.size p a l.length cap c q.length capc) := Lib.hid (BoxFw.at rfl)
  have HZ : Hid (Zer3 ((W.alloc (.cells #[.int .i64 p, .slice a l.length cap, .slice c q.length capc] 42)).alloc (.cells #[.int .i64 0, .slice none 0 0, .slice none 0 0] 42)) (W.heap.size + 1)) := Lib.hid (by have := Zer3.at (W.alloc (.cells #[.int .i64 p, .slice a l.length cap, .slice c q.length capc] 42)) 42; rwa [World.size_alloc] at this)
  have hba : Below (W.alloc (.cells #[.int .i64 p, .slice a l.length cap, .slice c q.length capc] 42)).heap.size (W.alloc (.cells #[.int .i64 p, .slice a l.length cap, .slice c q.length capc] 42)) ((W.alloc (.cells #[.int .i64 p, .slice a l.length cap, .slice c q.length capc] 42)).alloc (.cells #[.int .i64 0, .slice none 0 0, .slice none 0 0] 42)) := (Below.refl _ _).alloc (Nat.le_refl _) _
  have hzu : W.heap.size + 2 ≤ ((W.alloc (.cells #[.int .i64 p, .slice a l.length cap, .slice c q.length capc] 42)).alloc (.cells #[.int .i64 0, .slice none 0 0, .slice none 0 0] 42)).heap.size := by simp
  have hzu2 : ((W.alloc (.cells #[.int .i64 p, .slice a l.length cap, .slice c q.length capc] 42)).alloc (.cells #[.int .i64 0, .slice none 0 0, .slice none 0 0] 42)).heap.size ≤ W.heap.size + 2 := by simp
  replace B := B.step hba
  replace BX := Lib.hid (BX.out.below hba)
  clear hba
  have cI := fun (w1 : World) (b : Below W.heap.size W w1) => spec_IsFramework w1 _ (p, l, q) (HFw.out.below b) hsz
  cases hf : isFwB (p, l, q)
  · have HE := Lib.hid (show movF mirP (p, l, q) = (p, l, q) by unfold movF; rw [hf]; rfl)
    rw [hf] at cI
    have HC := Lib.hid cI
    clear cI
    go_enter Try.func35, Try.ntmps35
    go_wp2_with fail
    generalize ((W.alloc (.cells #[.int .i64 p, .slice a l.length cap, .slice c q.length capc] 42)).alloc (.cells #[.int .i64 0, .slice none 0 0, .slice none 0 0] 42)) = u at *
    obtain ⟨zBX, fBX0, fBX1, fBX2⟩ := BX.out
    refine (specCpF_at u p a cap l.length l c capc q.length q (H1.out.below B) (H2.out.below B) hs1 hs2).mono ?_
    rintro e w1 ⟨vf, rfl, ⟨vb, vp, ⟨ab, cb, ap, cp, rfl, rfl, rfl⟩, ob, op⟩, b⟩
    dsimp only at ob op
    have hz1 := b.size
    replace B := B.step b
    replace HZ := Lib.hid (HZ.out.below b)
    clear zBX fBX0 fBX1 fBX2
    replace BX := Lib.hid (BX.out.below b)
    clear b
    have b2 : Below w1.heap.size w1 (w1.alloc (.cells #[.int .i64 p, .slice ab l.length cb, .slice ap q.length cp] 42)) := (Below.refl _ _).alloc (Nat.le_refl _) _
    have BY : Hid (BoxFw (w1.alloc (.cells #[.int .i64 p, .slice ab l.length cb, .slice ap q.length cp] 42)) w1.heap.size p ab l.length cb ap q.length cp) := Lib.hid (BoxFw.at rfl)
    have OB := Lib.hid (ob.below b2)
    have OP := Lib.hid (op.below b2)
    clear ob op
    go_wp2_with fail
    replace B := B.step b2
    replace HZ := Lib.hid (HZ.out.below b2)
    replace BX := Lib.hid (BX.out.below b2)
    clear b2
    generalize (w1.alloc (.cells #[.int .i64 p, .slice ab l.length cb, .slice ap q.length cp] 42)) = w2 at *
    go_loopw [4] (fun i w9 => i = .int .i64 0 ∧ w2 = w9) (fun _ _ => 0)
    case atStart => exact ⟨rfl, rfl⟩
    case round =>
      obtain ⟨rfl, rfl⟩ := hrel
      by_cases h0 : 0 < q.length
      · have h0i : (0 : Int) < (q.length : Int) := by omega
        obtain ⟨zBX, fBX0, fBX1, fBX2⟩ := BX.out
        obtain ⟨zBY, fBY0, fBY1, fBY2⟩ := BY.out
        go_wp2_with fail
        refine (HC.out _ B).mono ?_
        rintro e w3 ⟨rfl, b⟩
        clear zBX fBX0 fBX1 fBX2 zBY fBY0 fBY1 fBY2
        replace B := B.step b
        replace HZ := Lib.hid (HZ.out.below b)
        replace BY := Lib.hid (BY.out.below b)
        replace OB := Lib.hid (OB.out.below b)
        replace OP := Lib.hid (OP.out.below b)
        clear b
        obtain ⟨zBY, fBY0, fBY1, fBY2⟩ := BY.out
        obtain ⟨⟨z1, z2, z3, c0, c1, c2⟩, ⟨f0, f1, f2⟩, gz⟩ := HZ.out
        have HLD := Lib.hid (laid3 (p := p) (g := W.heap.size + 1) OB.out OP.out (by omega) (by omega) (by omega) B)
        go_wp2_with fail
        refine bodyPost_ret (v := .agg #[.int .i64 p, .slice ab l.length cb, .slice ap q.length cp]) (by simp [results, Try.results35, go_sem, gz, c0, c1, c2]) rfl ⟨_, rfl, ?_, HLD.out.2⟩
        rw [HE.out]
        exact HLD.out.1
      · have h0i : ¬ (0 : Int) < (q.length : Int) := by omega
        obtain ⟨zBY, fBY0, fBY1, fBY2⟩ := BY.out
        obtain ⟨⟨z1, z2, z3, c0, c1, c2⟩, ⟨f0, f1, f2⟩, gz⟩ := HZ.out
        have HLD := Lib.hid (laid3 (p := p) (g := W.heap.size + 1) OB.out OP.out (by omega) (by omega) (by omega) B)
        go_wp2_with fail
        refine bodyPost_ret (v := .agg #[.int .i64 p, .slice ab l.length cb, .slice ap q.length cp]) (by simp [results, Try.results35, go_sem, gz, c0, c1, c2]) rfl ⟨_, rfl, ?_, HLD.out.2⟩
        rw [HE.out]
        exact HLD.out.1
  have HE := Lib.hid (show movF mirP (p, l, q) = (p, l, q.map mirP) by unfold movF; rw [hf]; rfl)
  obtain ⟨⟨hg1, hg2⟩, hg3, hg4, _, hg6⟩ := isFw_facts hf
  have HG6 := Lib.hid hg6
  have hqp : 0 < q.length := by omega
  rw [hf] at cI
  have HC := Lib.hid cI
  clear cI hg6 hg3
  go_enter Try.func35, Try.ntmps35
  go_wp2_with fail
  generalize ((W.alloc (.cells #[.int .i64 p, .slice a l.length cap, .slice c q.length capc] 42)).alloc (.cells #[.int .i64 0, .slice none 0 0, .slice none 0 0] 42)) = u at *
  obtain ⟨zBX, fBX0, fBX1, fBX2⟩ := BX.out
  refine (specCpF_at u p a cap l.length l c capc q.length q (H1.out.below B) (H2.out.below B) hs1 hs2).mono ?_
  rintro e w1 ⟨vf, rfl, ⟨vb, vp, ⟨ab, cb, ap, cp, rfl, rfl, rfl⟩, ob, op⟩, b⟩
  dsimp only at ob op
  obtain ⟨gp, rfl⟩ : ∃ gp, ap = some ⟨gp, 0, none⟩ := by
    rcases op.2 with ⟨_, h0⟩ | ⟨gp, cap, cur, h1, _⟩
    · omega
    · exact ⟨gp, by simpa using (Value.slice.inj h1).1⟩
  have hgp := op.lt gp rfl
  have hbp := bars_places ob op
  have hz1 := b.size
  replace B := B.step b
  replace HZ := Lib.hid (HZ.out.below b)
  clear zBX fBX0 fBX1 fBX2
  replace BX := Lib.hid (BX.out.below b)
  clear b
  have b2 : Below w1.heap.size w1 (w1.alloc (.cells #[.int .i64 p, .slice ab l.length cb, .slice (some ⟨gp, 0, none⟩) q.length cp] 42)) := (Below.refl _ _).alloc (Nat.le_refl _) _
  have BY : Hid (BoxFw (w1.alloc (.cells #[.int .i64 p, .slice ab l.length cb, .slice (some ⟨gp, 0, none⟩) q.length cp] 42)) w1.heap.size p ab l.length cb (some ⟨gp, 0, none⟩) q.length cp) := Lib.hid (BoxFw.at rfl)
  have OB := Lib.hid (ob.below b2)
  have OP := Lib.hid (op.below b2)
  have HBP := Lib.hid hbp
  clear ob op hbp
  go_wp2_with fail
  replace B := B.step b2
  replace HZ := Lib.hid (HZ.out.below b2)
  replace BX := Lib.hid (BX.out.below b2)
  have hz2 := b2.size
  clear b2
  generalize (w1.alloc (.cells #[.int .i64 p, .slice ab l.length cb, .slice (some ⟨gp, 0, none⟩) q.length cp] 42)) = w2 at *
  go_loopw [4] (fun i w9 => ∃ k : Nat, k ≤ q.length ∧ i = .int .i64 k ∧ w9.ownsRow u.heap.size 57 2 (.slice (some ⟨gp, 0, none⟩) q.length cp) q.length ((mvTo mirP q k).flatMap cellsPlace) ∧ Kept (fun b => b = gp) w2 w9) (fun i _ => q.length - (intOf i).toNat)
  case atStart => exact ⟨0, Nat.zero_le _, rfl, by rw [mvTo_zero]; exact OP.out, Kept.refl _ _⟩
  case round =>
    clear OP
    obtain ⟨k, hk, rfl, ho, hkp⟩ := hrel
    have HO := Lib.hid ho
    clear ho
    have B1 : Below W.heap.size W wr := B.trans (hkp.below B.size fun j h1 h2 => by omega)
    have BX1 := Lib.hid (BX.out.kept hkp (by omega))
    have BY1 := Lib.hid (BY.out.kept hkp (by omega))
    have HZ1 := Lib.hid (HZ.out.kept hkp (by omega))
    have OB1 := Lib.hid (hkp.ownsRow OB.out fun j h1 h2 => HBP.out j h1 (by rw [h2]; rfl))
    obtain ⟨zBX, fBX0, fBX1, fBX2⟩ := BX1.out
    obtain ⟨zBY, fBY0, fBY1, fBY2⟩ := BY1.out
    by_cases hlt : k < q.length
    · have hki : (k : Int) < (q.length : Int) := by omega
      go_wp2_with fail
      refine (HC.out _ B1).mono ?_
      rintro e w3 ⟨rfl, b⟩
      clear zBX fBX0 fBX1 fBX2 zBY fBY0 fBY1 fBY2
      have B3 := B1.step b
      have BX3 := Lib.hid (BX1.out.below b)
      have BY3 := Lib.hid (BY1.out.below b)
      have HO3 := Lib.hid (Below.ownsRow b HO.out)
      have hk3 : Kept (fun b => b = gp) w2 w3 := hkp.trans (Kept.of_below b)
      clear b
      obtain ⟨zBX, fBX0, fBX1, fBX2⟩ := BX3.out
      obtain ⟨zBY, fBY0, fBY1, fBY2⟩ := BY3.out
      obtain ⟨bq, oq, ⟨x, y⟩, rfl, hbq, hx, hxa, hya⟩ := (H2.out.below B3).2 k hlt
      dsimp only at hxa hya
      obtain ⟨⟨n1, n2⟩, n3, n4⟩ := HG6.out k x y hx
      have HX := Lib.hid hx
      clear hx
      have hget : (mvTo mirP q k)[k]? = some (x, y) := (mvTo_get hk).trans HX.out
      have t0 := ownPlaces_cell HO3.out hget hlt 0 (by omega)
      have t1 := ownPlaces_cell HO3.out hget hlt 1 (by omega)
      simp only [cellsPlace, List.getElem?_cons_zero, List.getElem?_cons_succ, Nat.add_zero] at t0 t1
      have r0 := World.ownsRow.frozenAt HO3.out (k * 2)
      have r1 := World.ownsRow.frozenAt HO3.out (k * 2 + 1)
      have HGT := Lib.hid hget
      clear hget
      have hgz : gp < w3.heap.size := (World.ownsRow.lt HO3.out gp rfl).2
      have hw1 := IntWalk.i64_in (4 - x) (by omega)
      have hw2 := IntWalk.i64_in (4 - y) (by omega)
      have p1 : (0 : Int) ≤ (k : Int) := by omega
      go_wp2_with fail
      go_region
      all_goals
        go_wp2_with fail
        go_roundw
        case rel =>
          refine ⟨k + 1, by omega, by go_num, ?_, ?_⟩
          · have h9 := setPlaceX HO3.out (4 - x) HGT.out
            rw [show ((4 - x, ((x, y) : PlaceT).2) : PlaceT) = mirP (x, y) from rfl, mvTo_succ HX.out] at h9
            exact h9
          · exact hk3.trans (Kept.drew (keptSet (S := fun b => b = gp) rfl))
        case measure => simp [intOf]; omega
    · obtain rfl : k = q.length := by omega
      have h0i : ¬ (q.length : Int) < (q.length : Int) := by omega
      obtain ⟨⟨z1, z2, z3, c0, c1, c2⟩, ⟨f0, f1, f2⟩, gz⟩ := HZ1.out
      have ho := HO.out
      rw [mvTo_all] at ho
      have HLD := Lib.hid (laid3 (W := W) (p := p) (g := W.heap.size + 1) (q := q.map mirP) (ap := some ⟨gp, 0, none⟩) (cp := cp) OB1.out (by rw [List.length_map]; unfold OwnPlaces; rw [List.length_map]; exact ho) (by omega) (by omega) (by omega) B1)
      rw [List.length_map] at HLD
      clear ho
      go_wp2_with fail
      refine bodyPost_ret (v := .agg #[.int .i64 p, .slice ab l.length cb, .slice (some ⟨gp, 0, none⟩) q.length cp]) (by simp [results, Try.results35, go_sem, gz, c0, c1, c2]) rfl ⟨_, rfl, ?_, HLD.out.2⟩
      rw [HE.out]
      exact HLD.out.1

set_option maxHeartbeats 4000000 in
theorem specTur_at (W : World) (p : Int) (a : Option Addr) (cap : Nat) (l : List BarT) (c : Option Addr) (capc : Nat) (q : List PlaceT) (h : BarsAt W a l.length l) (hq : PlacesAt W c q.length q) (hs : l.length + q.length ≤ 1048576) :
    Calls Try.prog 39 #[.agg #[.int .i64 p, .slice a l.length cap, .slice c q.length capc]] W (RetFw W (movF turP (p, l, q))) := by
  have hwd := @Wd.cells
  have HFw : Hid (IsFw W (.agg #[.int .i64 p, .slice a l.length cap, .slice c q.length capc]) (p, l, q)) := Lib.hid ⟨a, cap, c, capc, rfl, h, hq⟩
  have H1 := Lib.hid h
  have H2 := Lib.hid hq
  clear h hq
  have hsz : szFw (p, l, q) ≤ 1048576 := hs
  have hs1 : l.length ≤ 1048576 := by omega
  have hs2 : q.length ≤ 1048576 := by omega
  have B : Below W.heap.size W (W.alloc (.cells #[.int .i64 p, .slice a l.length cap, .slice c q.length capc] 42)) := (Below.refl _ _).alloc (Nat.le_refl _) _
  have BX : Hid (BoxFw (W.alloc (.cells #[.int .i64 p, .slice a l.length cap, .slice c q.length capc] 42)) W.heap.size p a l.length cap c q.length capc) := Lib.hid (BoxFw.at rfl)
  have HZ : Hid (Zer3 ((W.alloc (.cells #[.int .i64 p, .slice a l.length cap, .slice c q.length capc] 42)).alloc (.cells #[.int .i64 0, .slice none 0 0, .slice none 0 0] 42)) (W.heap.size + 1)) := Lib.hid (by have := Zer3.at (W.alloc (.cells #[.int .i64 p, .slice a l.length cap, .slice c q.length capc] 42)) 42; rwa [World.size_alloc] at this)
  have hba : Below (W.alloc (.cells #[.int .i64 p, .slice a l.length cap, .slice c q.length capc] 42)).heap.size (W.alloc (.cells #[.int .i64 p, .slice a l.length cap, .slice c q.length capc] 42)) ((W.alloc (.cells #[.int .i64 p, .slice a l.length cap, .slice c q.length capc] 42)).alloc (.cells #[.int .i64 0, .slice none 0 0, .slice none 0 0] 42)) := (Below.refl _ _).alloc (Nat.le_refl _) _
  have hzu : W.heap.size + 2 ≤ ((W.alloc (.cells #[.int .i64 p, .slice a l.length cap, .slice c q.length capc] 42)).alloc (.cells #[.int .i64 0, .slice none 0 0, .slice none 0 0] 42)).heap.size := by simp
  have hzu2 : ((W.alloc (.cells #[.int .i64 p, .slice a l.length cap, .slice c q.length capc] 42)).alloc (.cells #[.int .i64 0, .slice none 0 0, .slice none 0 0] 42)).heap.size ≤ W.heap.size + 2 := by simp
  replace B := B.step hba
  replace BX := Lib.hid (BX.out.below hba)
  clear hba
  have cI := fun (w1 : World) (b : Below W.heap.size W w1) => spec_IsFramework w1 _ (p, l, q) (HFw.out.below b) hsz
  cases hf : isFwB (p, l, q)
  · have HE := Lib.hid (show movF turP (p, l, q) = (p, l, q) by unfold movF; rw [hf]; rfl)
    rw [hf] at cI
    have HC := Lib.hid cI
    clear cI
    go_enter Try.func39, Try.ntmps39
    go_wp2_with fail
    generalize ((W.alloc (.cells #[.int .i64 p, .slice a l.length cap, .slice c q.length capc] 42)).alloc (.cells #[.int .i64 0, .slice none 0 0, .slice none 0 0] 42)) = u at *
    obtain ⟨zBX, fBX0, fBX1, fBX2⟩ := BX.out
    refine (specCpF_at u p a cap l.length l c capc q.length q (H1.out.below B) (H2.out.below B) hs1 hs2).mono ?_
    rintro e w1 ⟨vf, rfl, ⟨vb, vp, ⟨ab, cb, ap, cp, rfl, rfl, rfl⟩, ob, op⟩, b⟩
    dsimp only at ob op
    have hz1 := b.size
    replace B := B.step b
    replace HZ := Lib.hid (HZ.out.below b)
    clear zBX fBX0 fBX1 fBX2
    replace BX := Lib.hid (BX.out.below b)
    clear b
    have b2 : Below w1.heap.size w1 (w1.alloc (.cells #[.int .i64 p, .slice ab l.length cb, .slice ap q.length cp] 42)) := (Below.refl _ _).alloc (Nat.le_refl _) _
    have BY : Hid (BoxFw (w1.alloc (.cells #[.int .i64 p, .slice ab l.length cb, .slice ap q.length cp] 42)) w1.heap.size p ab l.length cb ap q.length cp) := Lib.hid (BoxFw.at rfl)
    have OB := Lib.hid (ob.below b2)
    have OP := Lib.hid (op.below b2)
    clear ob op
    go_wp2_with fail
    replace B := B.step b2
    replace HZ := Lib.hid (HZ.out.below b2)
    replace BX := Lib.hid (BX.out.below b2)
    clear b2
    generalize (w1.alloc (.cells #[.int .i64 p, .slice ab l.length cb, .slice ap q.length cp] 42)) = w2 at *
    go_loopw [4] (fun i w9 => i = .int .i64 0 ∧ w2 = w9) (fun _ _ => 0)
    case atStart => exact ⟨rfl, rfl⟩
    case round =>
      obtain ⟨rfl, rfl⟩ := hrel
      by_cases h0 : 0 < q.length
      · have h0i : (0 : Int) < (q.length : Int) := by omega
        obtain ⟨zBX, fBX0, fBX1, fBX2⟩ := BX.out
        obtain ⟨zBY, fBY0, fBY1, fBY2⟩ := BY.out
        go_wp2_with fail
        refine (HC.out _ B).mono ?_
        rintro e w3 ⟨rfl, b⟩
        clear zBX fBX0 fBX1 fBX2 zBY fBY0 fBY1 fBY2
        replace B := B.step b
        replace HZ := Lib.hid (HZ.out.below b)
        replace BY := Lib.hid (BY.out.below b)
        replace OB := Lib.hid (OB.out.below b)
        replace OP := Lib.hid (OP.out.below b)
        clear b
        obtain ⟨zBY, fBY0, fBY1, fBY2⟩ := BY.out
        obtain ⟨⟨z1, z2, z3, c0, c1, c2⟩, ⟨f0, f1, f2⟩, gz⟩ := HZ.out
        have HLD := Lib.hid (laid3 (p := p) (g := W.heap.size + 1) OB.out OP.out (by omega) (by omega) (by omega) B)
        go_wp2_with fail
        refine bodyPost_ret (v := .agg #[.int .i64 p, .slice ab l.length cb, .slice ap q.length cp]) (by simp [results, Try.results39, go_sem, gz, c0, c1, c2]) rfl ⟨_, rfl, ?_, HLD.out.2⟩
        rw [HE.out]
        exact HLD.out.1
      · have h0i : ¬ (0 : Int) < (q.length : Int) := by omega
        obtain ⟨zBY, fBY0, fBY1, fBY2⟩ := BY.out
        obtain ⟨⟨z1, z2, z3, c0, c1, c2⟩, ⟨f0, f1, f2⟩, gz⟩ := HZ.out
        have HLD := Lib.hid (laid3 (p := p) (g := W.heap.size + 1) OB.out OP.out (by omega) (by omega) (by omega) B)
        go_wp2_with fail
        refine bodyPost_ret (v := .agg #[.int .i64 p, .slice ab l.length cb, .slice ap q.length cp]) (by simp [results, Try.results39, go_sem, gz, c0, c1, c2]) rfl ⟨_, rfl, ?_, HLD.out.2⟩
        rw [HE.out]
        exact HLD.out.1
  have HE := Lib.hid (show movF turP (p, l, q) = (p, l, q.map turP) by unfold movF; rw [hf]; rfl)
  obtain ⟨⟨hg1, hg2⟩, hg3, hg4, _, hg6⟩ := isFw_facts hf
  have HG6 := Lib.hid hg6
  have hqp : 0 < q.length := by omega
  rw [hf] at cI
  have HC := Lib.hid cI
  clear cI hg6 hg3
  go_enter Try.func39, Try.ntmps39
  go_wp2_with fail
  generalize ((W.alloc (.cells #[.int .i64 p, .slice a l.length cap, .slice c q.length capc] 42)).alloc (.cells #[.int .i64 0, .slice none 0 0, .slice none 0 0] 42)) = u at *
  obtain ⟨zBX, fBX0, fBX1, fBX2⟩ := BX.out
  refine (specCpF_at u p a cap l.length l c capc q.length q (H1.out.below B) (H2.out.below B) hs1 hs2).mono ?_
  rintro e w1 ⟨vf, rfl, ⟨vb, vp, ⟨ab, cb, ap, cp, rfl, rfl, rfl⟩, ob, op⟩, b⟩
  dsimp only at ob op
  obtain ⟨gp, rfl⟩ : ∃ gp, ap = some ⟨gp, 0, none⟩ := by
    rcases op.2 with ⟨_, h0⟩ | ⟨gp, cap, cur, h1, _⟩
    · omega
    · exact ⟨gp, by simpa using (Value.slice.inj h1).1⟩
  have hgp := op.lt gp rfl
  have hbp := bars_places ob op
  have hz1 := b.size
  replace B := B.step b
  replace HZ := Lib.hid (HZ.out.below b)
  clear zBX fBX0 fBX1 fBX2
  replace BX := Lib.hid (BX.out.below b)
  clear b
  have b2 : Below w1.heap.size w1 (w1.alloc (.cells #[.int .i64 p, .slice ab l.length cb, .slice (some ⟨gp, 0, none⟩) q.length cp] 42)) := (Below.refl _ _).alloc (Nat.le_refl _) _
  have BY : Hid (BoxFw (w1.alloc (.cells #[.int .i64 p, .slice ab l.length cb, .slice (some ⟨gp, 0, none⟩) q.length cp] 42)) w1.heap.size p ab l.length cb (some ⟨gp, 0, none⟩) q.length cp) := Lib.hid (BoxFw.at rfl)
  have OB := Lib.hid (ob.below b2)
  have OP := Lib.hid (op.below b2)
  have HBP := Lib.hid hbp
  clear ob op hbp
  go_wp2_with fail
  replace B := B.step b2
  replace HZ := Lib.hid (HZ.out.below b2)
  replace BX := Lib.hid (BX.out.below b2)
  have hz2 := b2.size
  clear b2
  generalize (w1.alloc (.cells #[.int .i64 p, .slice ab l.length cb, .slice (some ⟨gp, 0, none⟩) q.length cp] 42)) = w2 at *
  go_loopw [4] (fun i w9 => ∃ k : Nat, k ≤ q.length ∧ i = .int .i64 k ∧ w9.ownsRow u.heap.size 57 2 (.slice (some ⟨gp, 0, none⟩) q.length cp) q.length ((mvTo turP q k).flatMap cellsPlace) ∧ Kept (fun b => b = gp) w2 w9) (fun i _ => q.length - (intOf i).toNat)
  case atStart => exact ⟨0, Nat.zero_le _, rfl, by rw [mvTo_zero]; exact OP.out, Kept.refl _ _⟩
  case round =>
    clear OP
    obtain ⟨k, hk, rfl, ho, hkp⟩ := hrel
    have HO := Lib.hid ho
    clear ho
    have B1 : Below W.heap.size W wr := B.trans (hkp.below B.size fun j h1 h2 => by omega)
    have BX1 := Lib.hid (BX.out.kept hkp (by omega))
    have BY1 := Lib.hid (BY.out.kept hkp (by omega))
    have HZ1 := Lib.hid (HZ.out.kept hkp (by omega))
    have OB1 := Lib.hid (hkp.ownsRow OB.out fun j h1 h2 => HBP.out j h1 (by rw [h2]; rfl))
    obtain ⟨zBX, fBX0, fBX1, fBX2⟩ := BX1.out
    obtain ⟨zBY, fBY0, fBY1, fBY2⟩ := BY1.out
    by_cases hlt : k < q.length
    · have hki : (k : Int) < (q.length : Int) := by omega
      go_wp2_with fail
      refine (HC.out _ B1).mono ?_
      rintro e w3 ⟨rfl, b⟩
      clear zBX fBX0 fBX1 fBX2 zBY fBY0 fBY1 fBY2
      have B3 := B1.step b
      have BX3 := Lib.hid (BX1.out.below b)
      have BY3 := Lib.hid (BY1.out.below b)
      have HO3 := Lib.hid (Below.ownsRow b HO.out)
      have hk3 : Kept (fun b => b = gp) w2 w3 := hkp.trans (Kept.of_below b)
      clear b
      obtain ⟨zBX, fBX0, fBX1, fBX2⟩ := BX3.out
      obtain ⟨zBY, fBY0, fBY1, fBY2⟩ := BY3.out
      obtain ⟨bq, oq, ⟨x, y⟩, rfl, hbq, hx, hxa, hya⟩ := (H2.out.below B3).2 k hlt
      dsimp only at hxa hya
      obtain ⟨⟨n1, n2⟩, n3, n4⟩ := HG6.out k x y hx
      have HX := Lib.hid hx
      clear hx
      have hget : (mvTo turP q k)[k]? = some (x, y) := (mvTo_get hk).trans HX.out
      have t0 := ownPlaces_cell HO3.out hget hlt 0 (by omega)
      have t1 := ownPlaces_cell HO3.out hget hlt 1 (by omega)
      simp only [cellsPlace, List.getElem?_cons_zero, List.getElem?_cons_succ, Nat.add_zero] at t0 t1
      have r0 := World.ownsRow.frozenAt HO3.out (k * 2)
      have r1 := World.ownsRow.frozenAt HO3.out (k * 2 + 1)
      have HGT := Lib.hid hget
      clear hget
      have hgz : gp < w3.heap.size := (World.ownsRow.lt HO3.out gp rfl).2
      have hw1 := IntWalk.i64_in (4 - x) (by omega)
      have hw2 := IntWalk.i64_in (4 - y) (by omega)
      have p1 : (0 : Int) ≤ (k : Int) := by omega
      go_wp2_with fail
      go_region
      all_goals
        go_wp2_with fail
        go_roundw
        case rel =>
          refine ⟨k + 1, by omega, by go_num, ?_, ?_⟩
          · have h9 := (setPlace_seg HO3.out (4 - y, x) (by rw [mvTo_length hk]; exact hlt)).1
            rw [show ((4 - y, x) : PlaceT) = turP (x, y) from rfl, mvTo_succ HX.out] at h9
            exact h9
          · exact hk3.trans (Kept.drew ((keptSet (S := fun b => b = gp) rfl).trans (keptSet (S := fun b => b = gp) rfl)))
        case measure => simp [intOf]; omega
    · obtain rfl : k = q.length := by omega
      have h0i : ¬ (q.length : Int) < (q.length : Int) := by omega
      obtain ⟨⟨z1, z2, z3, c0, c1, c2⟩, ⟨f0, f1, f2⟩, gz⟩ := HZ1.out
      have ho := HO.out
      rw [mvTo_all] at ho
      have HLD := Lib.hid (laid3 (W := W) (p := p) (g := W.heap.size + 1) (q := q.map turP) (ap := some ⟨gp, 0, none⟩) (cp := cp) OB1.out (by rw [List.length_map]; unfold OwnPlaces; rw [List.length_map]; exact ho) (by omega) (by omega) (by omega) B1)
      rw [List.length_map] at HLD
      clear ho
      go_wp2_with fail
      refine bodyPost_ret (v := .agg #[.int .i64 p, .slice ab l.length cb, .slice (some ⟨gp, 0, none⟩) q.length cp]) (by simp [results, Try.results39, go_sem, gz, c0, c1, c2]) rfl ⟨_, rfl, ?_, HLD.out.2⟩
      rw [HE.out]
      exact HLD.out.1
end Go.Proofs.Ytkjoeogoebpkjaa
