/- MirrorFramework and TurnFramework of the program, and the contracts. No condition but sizes. -/
import Derived.Test.YtkjoeogoebpkjaaMir
import Derived.Deep.RegionHeld3
namespace Go.Proofs.Ytkjoeogoebpkjaa
open Go.RowKit Gr
set_option maxRecDepth 100000
set_option linter.unusedVariables false
set_option linter.unusedSimpArgs false
theorem movF_sz (g : PlaceT → PlaceT) (f : FwT) : szFw (movF g f) = szFw f := by
  unfold movF
  split
  · simp [szFw]
  · rfl

set_option maxHeartbeats 1000000 in
theorem mirFn_at (W : World) (x y : Int) (h : (0 ≤ x ∧ x ≤ 4) ∧ (0 ≤ y ∧ y ≤ 4)) :
    Calls Try.prog 78 #[.agg #[.int .i64 x, .int .i64 y]] W fun e w' => e = .returned (.agg #[.int .i64 (4 - x), .int .i64 y]) ∧ Below W.heap.size W w' := by
  obtain ⟨⟨h1, h2⟩, h3, h4⟩ := h
  have hw1 := IntWalk.i64_in (4 - x) (by omega)
  have hw2 := IntWalk.i64_in (4 - y) (by omega)
  go_enter Try.func78, Try.ntmps78
  go_wp2_with fail
  refine bodyPost_ret (v := .agg #[.int .i64 (4 - x), .int .i64 y]) (by simp [results, Try.results78, go_sem]) rfl ⟨rfl, ?_⟩
  exact ((Below.refl _ _).alloc (Nat.le_refl _) _).alloc (by simp) _

set_option maxHeartbeats 1000000 in
theorem turFn_at (W : World) (x y : Int) (h : (0 ≤ x ∧ x ≤ 4) ∧ (0 ≤ y ∧ y ≤ 4)) :
    Calls Try.prog 83 #[.agg #[.int .i64 x, .int .i64 y]] W fun e w' => e = .returned (.agg #[.int .i64 (4 - y), .int .i64 x]) ∧ Below W.heap.size W w' := by
  obtain ⟨⟨h1, h2⟩, h3, h4⟩ := h
  have hw1 := IntWalk.i64_in (4 - x) (by omega)
  have hw2 := IntWalk.i64_in (4 - y) (by omega)
  go_enter Try.func83, Try.ntmps83
  go_wp2_with fail
  refine bodyPost_ret (v := .agg #[.int .i64 (4 - y), .int .i64 x]) (by simp [results, Try.results83, go_sem]) rfl ⟨rfl, ?_⟩
  exact ((Below.refl _ _).alloc (Nat.le_refl _) _).alloc (by simp) _

set_option maxHeartbeats 4000000 in
theorem mirMv_at (W : World) (p : Int) (a : Option Addr) (cap : Nat) (l : List BarT) (c : Option Addr) (capc : Nat) (q : List PlaceT) (h : BarsAt W a l.length l) (hq : PlacesAt W c q.length q) (hs : l.length + q.length ≤ 1048576) :
    Calls Try.prog 77 #[.agg #[.int .i64 p, .slice a l.length cap, .slice c q.length capc], (.func (.func 78) #[] #[])] W (RetFw W (movF mirP (p, l, q))) := by
  have hwd := @Wd.cells
  have HFw : Hid (IsFw W (.agg #[.int .i64 p, .slice a l.length cap, .slice c q.length capc]) (p, l, q)) := Lib.hid ⟨a, cap, c, capc, rfl, h, hq⟩
  have H1 := Lib.hid h
  have H2 := Lib.hid hq
  clear h hq
  have hsz : szFw (p, l, q) ≤ 1048576 := hs
  have hs1 : l.length ≤ 1048576 := by omega
  have hs2 : q.length ≤ 1048576 := by omega
  have B : Below W.heap.size W (W.alloc (.cells #[.int .i64 p, .slice a l.length cap, .slice c q.length capc] 42)) := (Below.refl _ _).alloc (Nat.le_refl _) _
  have BX : Hid (BoxFw (W.alloc (.cells #[.int .i64 p, .slice a l.length cap, .slice c q.length capc] 42)) W.heap.size p a l.length cap c q.length capc) := Lib.hid (BoxFw.at rfl)
  have HZ : Hid (Zer3 ((W.alloc (.cells #[.int .i64 p, .slice a l.length cap, .slice c q.length capc] 42)).alloc (.cells #[.int .i64 0, .slice none 0 0, .slice none 0 0] 42)) (W.heap.size + 1)) := Lib.hid (by have := Zer3.at (W.alloc (.cells #[.int .i64 p, .slice a l.length cap, .slice c q.length capc] 42)) 42; rwa [World.size_alloc] at this)
  have hba : Below (W.alloc (.cells #[.int .i64 p, .slice a l.length cap, .slice c q.length capc] 42)).heap.size (W.alloc (.cells #[.int .i64 p, .slice a l.length cap, .slice c q.length capc] 42)) ((W.alloc (.cells #[.int .i64 p, .slice a l.length cap, .slice c q.length capc] 42)).alloc (.cells #[.int .i64 0, .slice none 0 0, .slice none 0 0] 42)) := (Below.refl _ _).alloc (Nat.le_refl _) _
  have hzu : W.heap.size + 2 ≤ ((W.alloc (.cells #[.int .i64 p, .slice a l.length cap, .slice c q.length capc] 42)).alloc (.cells #[.int .i64 0, .slice none 0 0, .slice none 0 0] 42)).heap.size := by simp
  have hzu2 : ((W.alloc (.cells #[.int .i64 p, .slice a l.length cap, .slice c q.length capc] 42)).alloc (.cells #[.int .i64 0, .slice none 0 0, .slice none 0 0] 42)).heap.size ≤ W.heap.size + 2 := by simp
  replace B := B.step hba
  replace BX := Lib.hid (BX.out.below hba)
  clear hba
  have cI := fun (w1 : World) (b : Below W.heap.size W w1) => impl_IsFramework w1 _ (p, l, q) (HFw.out.below b) hsz
  cases hf : isFwB (p, l, q)
  · have HE := Lib.hid (show movF mirP (p, l, q) = (p, l, q) by unfold movF; rw [hf]; rfl)
    rw [hf] at cI
    have HC := Lib.hid cI
    clear cI
    go_enter Try.func77, Try.ntmps77
    go_wp2_with fail
    generalize ((W.alloc (.cells #[.int .i64 p, .slice a l.length cap, .slice c q.length capc] 42)).alloc (.cells #[.int .i64 0, .slice none 0 0, .slice none 0 0] 42)) = u at *
    obtain ⟨zBX, fBX0, fBX1, fBX2⟩ := BX.out
    refine (implCpF_at u p a cap l.length l c capc q.length q (H1.out.below B) (H2.out.below B) hs1 hs2).mono ?_
    rintro e w1 ⟨vf, rfl, ⟨vb, vp, ⟨ab, cb, ap, cp, rfl, rfl, rfl⟩, ob, op⟩, b⟩
    dsimp only at ob op
    have hz1 := b.size
    replace B := B.step b
    replace HZ := Lib.hid (HZ.out.below b)
    clear zBX fBX0 fBX1 fBX2
    replace BX := Lib.hid (BX.out.below b)
    clear b
    have b2 : Below w1.heap.size w1 (w1.alloc (.cells #[.int .i64 p, .slice ab l.length cb, .slice ap q.length cp] 42)) := (Below.refl _ _).alloc (Nat.le_refl _) _
    have BY : Hid (BoxFw (w1.alloc (.cells #[.int .i64 p, .slice ab l.length cb, .slice ap q.length cp] 42)) w1.heap.size p ab l.length cb ap q.length cp) := Lib.hid (BoxFw.at rfl)
    have OB := Lib.hid (ob.below b2)
    have OP := Lib.hid (op.below b2)
    clear ob op
    go_upto_region 2 with (fail)
    replace B := B.step b2
    replace HZ := Lib.hid (HZ.out.below b2)
    replace BX := Lib.hid (BX.out.below b2)
    clear b2
    generalize (w1.alloc (.cells #[.int .i64 p, .slice ab l.length cb, .slice ap q.length cp] 42)) = w2 at *
    obtain ⟨zBX, fBX0, fBX1, fBX2⟩ := BX.out
    go_wp2_with fail
    refine (HC.out _ B).mono ?_
    rintro e w3 ⟨rfl, b⟩
    clear zBX fBX0 fBX1 fBX2
    replace B := B.step b
    replace HZ := Lib.hid (HZ.out.below b)
    replace BY := Lib.hid (BY.out.below b)
    replace OB := Lib.hid (OB.out.below b)
    replace OP := Lib.hid (OP.out.below b)
    clear b
    obtain ⟨zBY, fBY0, fBY1, fBY2⟩ := BY.out
    obtain ⟨⟨z1, z2, z3, c0, c1, c2⟩, ⟨f0, f1, f2⟩, gz⟩ := HZ.out
    have HLD := Lib.hid (laid3 (p := p) (g := W.heap.size + 1) OB.out OP.out (by omega) (by omega) (by omega) B)
    go_wp2_with fail
    refine bodyPost_ret (v := .agg #[.int .i64 p, .slice ab l.length cb, .slice ap q.length cp]) (by simp [results, Try.results77, go_sem, gz, c0, c1, c2]) rfl ⟨_, rfl, ?_, HLD.out.2⟩
    rw [HE.out]
    exact HLD.out.1
  have HE := Lib.hid (show movF mirP (p, l, q) = (p, l, q.map mirP) by unfold movF; rw [hf]; rfl)
  obtain ⟨⟨hg1, hg2⟩, hg3, hg4, _, hg6⟩ := isFw_facts hf
  have HG6 := Lib.hid hg6
  have hqp : 0 < q.length := by omega
  rw [hf] at cI
  have HC := Lib.hid cI
  clear cI hg6 hg3
  go_enter Try.func77, Try.ntmps77
  go_wp2_with fail
  generalize ((W.alloc (.cells #[.int .i64 p, .slice a l.length cap, .slice c q.length capc] 42)).alloc (.cells #[.int .i64 0, .slice none 0 0, .slice none 0 0] 42)) = u at *
  obtain ⟨zBX, fBX0, fBX1, fBX2⟩ := BX.out
  refine (implCpF_at u p a cap l.length l c capc q.length q (H1.out.below B) (H2.out.below B) hs1 hs2).mono ?_
  rintro e w1 ⟨vf, rfl, ⟨vb, vp, ⟨ab, cb, ap, cp, rfl, rfl, rfl⟩, ob, op⟩, b⟩
  dsimp only at ob op
  obtain ⟨gp, rfl⟩ : ∃ gp, ap = some ⟨gp, 0, none⟩ := by
    rcases op.2 with ⟨_, h0⟩ | ⟨gp, cap, cur, h1, _⟩
    · omega
    · exact ⟨gp, by simpa using (Value.slice.inj h1).1⟩
  have hgp := op.lt gp rfl
  have hbp := bars_places ob op
  have hz1 := b.size
  replace B := B.step b
  replace HZ := Lib.hid (HZ.out.below b)
  clear zBX fBX0 fBX1 fBX2
  replace BX := Lib.hid (BX.out.below b)
  clear b
  have b2 : Below w1.heap.size w1 (w1.alloc (.cells #[.int .i64 p, .slice ab l.length cb, .slice (some ⟨gp, 0, none⟩) q.length cp] 42)) := (Below.refl _ _).alloc (Nat.le_refl _) _
  have BY : Hid (BoxFw (w1.alloc (.cells #[.int .i64 p, .slice ab l.length cb, .slice (some ⟨gp, 0, none⟩) q.length cp] 42)) w1.heap.size p ab l.length cb (some ⟨gp, 0, none⟩) q.length cp) := Lib.hid (BoxFw.at rfl)
  have OB := Lib.hid (ob.below b2)
  have OP := Lib.hid (op.below b2)
  have HBP := Lib.hid hbp
  clear ob op hbp
  go_upto_region 2 with (fail)
  replace B := B.step b2
  replace HZ := Lib.hid (HZ.out.below b2)
  replace BX := Lib.hid (BX.out.below b2)
  have hz2 := b2.size
  clear b2
  generalize (w1.alloc (.cells #[.int .i64 p, .slice ab l.length cb, .slice (some ⟨gp, 0, none⟩) q.length cp] 42)) = w20 at *
  obtain ⟨zBX, fBX0, fBX1, fBX2⟩ := BX.out
  go_wp2_with fail
  refine (HC.out _ B).mono ?_
  rintro e w2 ⟨rfl, b⟩
  clear zBX fBX0 fBX1 fBX2
  have hz3 := b.size
  replace B := B.step b
  replace HZ := Lib.hid (HZ.out.below b)
  replace BX := Lib.hid (BX.out.below b)
  replace BY := Lib.hid (BY.out.below b)
  replace OB := Lib.hid (OB.out.below b)
  replace OP := Lib.hid (OP.out.below b)
  clear b
  obtain ⟨zBX, fBX0, fBX1, fBX2⟩ := BX.out
  go_wp2_with fail
  clear zBX fBX0 fBX1 fBX2
  go_loopw [15] (fun i w9 => ∃ k : Nat, k ≤ q.length ∧ i = .int .i64 k ∧ w9.ownsRow u.heap.size 57 2 (.slice (some ⟨gp, 0, none⟩) q.length cp) q.length ((mvTo mirP q k).flatMap cellsPlace) ∧ Kept (fun b => b = gp) w2 w9) (fun i _ => q.length - (intOf i).toNat)
  case atStart => exact ⟨0, Nat.zero_le _, rfl, by rw [mvTo_zero]; exact OP.out, Kept.refl _ _⟩
  case round =>
    clear OP
    obtain ⟨k, hk, rfl, ho, hkp⟩ := hrel
    have HO := Lib.hid ho
    clear ho
    have B1 : Below W.heap.size W wr := B.trans (hkp.below B.size fun j h1 h2 => by omega)
    have BX1 := Lib.hid (BX.out.kept hkp (by omega))
    have BY1 := Lib.hid (BY.out.kept hkp (by omega))
    have HZ1 := Lib.hid (HZ.out.kept hkp (by omega))
    have OB1 := Lib.hid (hkp.ownsRow OB.out fun j h1 h2 => HBP.out j h1 (by rw [h2]; rfl))
    by_cases hlt : k < q.length
    · have hki : (k : Int) < (q.length : Int) := by omega
      obtain ⟨bq, oq, ⟨x, y⟩, rfl, hbq, hx, hxa, hya⟩ := (H2.out.below B1).2 k hlt
      dsimp only at hxa hya
      have hxy := HG6.out k x y hx
      have HX := Lib.hid hx
      clear hx
      have bpl : Below wr.heap.size wr (wr.alloc (.cells #[.int .i64 x, .int .i64 y] 57)) := (Below.refl _ _).alloc (Nat.le_refl _) _
      have BP : Hid (BoxPl (wr.alloc (.cells #[.int .i64 x, .int .i64 y] 57)) wr.heap.size x y) := Lib.hid (BoxPl.at rfl)
      go_upto_region 6 with (fail)
      have hgr : gp < wr.heap.size := (World.ownsRow.lt HO.out gp rfl).2
      have BY3 := Lib.hid (BY1.out.below bpl)
      have HO3 := Lib.hid (Below.ownsRow bpl HO.out)
      have hk3 : Kept (fun b => b = gp) w2 (wr.alloc (.cells #[.int .i64 x, .int .i64 y] 57)) := hkp.trans (Kept.of_below bpl)
      clear hxa hya bpl
      generalize (wr.alloc (.cells #[.int .i64 x, .int .i64 y] 57)) = w3 at *
      have hget : (mvTo mirP q k)[k]? = some (x, y) := (mvTo_get hk).trans HX.out
      have HGT := Lib.hid hget
      clear hget
      obtain ⟨zBY, fBY0, fBY1, fBY2⟩ := BY3.out
      obtain ⟨zBP, fBP0, fBP1⟩ := BP.out
      have n1 : gp ≠ w1.heap.size := by omega
      have n2 : gp ≠ wr.heap.size := by omega
      have HN := Lib.hid (And.intro n1 n2)
      clear n1 n2
      have bd : Below w3.heap.size w3 w3.drew := (Below.refl _ _).drew
      have KEEP := Lib.hid (show ∀ w', Below w3.heap.size w3 w' → w'.cell? ⟨w1.heap.size, 2, none⟩ = some (.slice (some ⟨gp, 0, none⟩) q.length cp) ∧ w'.cell? ⟨wr.heap.size, 0, none⟩ = some (.int .i64 x) ∧ w'.cell? ⟨wr.heap.size, 1, none⟩ = some (.int .i64 y) from fun w' hb => ⟨((bcell hb).1 _ _ zBY).trans fBY2, ((bcell hb).1 _ _ zBP).trans fBP0, ((bcell hb).1 _ _ zBP).trans fBP1⟩)
      have p1 : (0 : Int) ≤ (k : Int) := by omega
      have tk1 := True.intro
      go_region_held3 (fun w' => w'.cell? ⟨w1.heap.size, 2, none⟩ = some (.slice (some ⟨gp, 0, none⟩) q.length cp) ∧ w'.cell? ⟨wr.heap.size, 0, none⟩ = some (.int .i64 x) ∧ w'.cell? ⟨wr.heap.size, 1, none⟩ = some (.int .i64 y))
        (first | (with_reducible exact KEEP.out _ bd) | (with_reducible exact KEEP.out _ b7) | (exact ⟨(cell_set_ne HN.out.1).trans ((cell_set_ne HN.out.1).trans (KEEP.out _ b7).1), (cell_set_ne HN.out.2).trans ((cell_set_ne HN.out.2).trans (KEEP.out _ b7).2.1), (cell_set_ne HN.out.2).trans ((cell_set_ne HN.out.2).trans (KEEP.out _ b7).2.2)⟩))
        (first
          | (clear tk1; go_at_call 78; refine (mirFn_at _ _ _ hxy).mono ?_; rintro e w7 ⟨rfl, b⟩; have b7 := bd.step b; have HO7 := Lib.hid (Below.ownsRow b7 HO3.out); have t0 := ownPlaces_cell HO7.out HGT.out hlt 0 (by omega); have t1 := ownPlaces_cell HO7.out HGT.out hlt 1 (by omega); simp only [cellsPlace, List.getElem?_cons_zero, List.getElem?_cons_succ, Nat.add_zero] at t0 t1; have r0 := World.ownsRow.frozenAt HO7.out (k * 2); have r1 := World.ownsRow.frozenAt HO7.out (k * 2 + 1); have hgz : gp < w7.heap.size := (World.ownsRow.lt HO7.out gp rfl).2; clear bd b)
          | fail)
      all_goals
        go_wp2_with fail
        go_roundw
        case rel =>
          refine ⟨k + 1, by omega, by go_num, ?_, ?_⟩
          · have h9 := (setPlace_seg HO7.out ((4 - x), y) (by rw [mvTo_length hk]; exact hlt)).1
            rw [show (((4 - x), y) : PlaceT) = mirP (x, y) from rfl, mvTo_succ HX.out] at h9
            exact h9
          · exact (hk3.trans (Kept.of_below b7)).trans ((keptSet (S := fun b => b = gp) rfl).trans (keptSet (S := fun b => b = gp) rfl))
        case measure => simp [intOf]; omega
    · obtain rfl : k = q.length := by omega
      obtain ⟨zBY, fBY0, fBY1, fBY2⟩ := BY1.out
      obtain ⟨⟨z1, z2, z3, c0, c1, c2⟩, ⟨f0, f1, f2⟩, gz⟩ := HZ1.out
      have ho := HO.out
      rw [mvTo_all] at ho
      have HLD := Lib.hid (laid3 (W := W) (p := p) (g := W.heap.size + 1) (q := q.map mirP) (ap := some ⟨gp, 0, none⟩) (cp := cp) OB1.out (by rw [List.length_map]; unfold OwnPlaces; rw [List.length_map]; exact ho) (by omega) (by omega) (by omega) B1)
      rw [List.length_map] at HLD
      clear ho
      go_wp2_with fail
      refine bodyPost_ret (v := .agg #[.int .i64 p, .slice ab l.length cb, .slice (some ⟨gp, 0, none⟩) q.length cp]) (by simp [results, Try.results77, go_sem, gz, c0, c1, c2]) rfl ⟨_, rfl, ?_, HLD.out.2⟩
      rw [HE.out]
      exact HLD.out.1

set_option maxHeartbeats 4000000 in
theorem mirI_at (W : World) (p : Int) (a : Option Addr) (cap : Nat) (l : List BarT) (c : Option Addr) (capc : Nat) (q : List PlaceT) (h : BarsAt W a l.length l) (hq : PlacesAt W c q.length q) (hs : l.length + q.length ≤ 1048576) :
    Calls Try.prog 36 #[.agg #[.int .i64 p, .slice a l.length cap, .slice c q.length capc]] W (RetFw W (movF mirP (p, l, q))) := by
  have hwd := @Wd.cells
  have HFw : Hid (IsFw W (.agg #[.int .i64 p, .slice a l.length cap, .slice c q.length capc]) (p, l, q)) := Lib.hid ⟨a, cap, c, capc, rfl, h, hq⟩
  have H1 := Lib.hid h
  have H2 := Lib.hid hq
  clear h hq
  have hsz : szFw (p, l, q) ≤ 1048576 := hs
  have hs1 : l.length ≤ 1048576 := by omega
  have hs2 : q.length ≤ 1048576 := by omega
  have B : Below W.heap.size W (W.alloc (.cells #[.int .i64 p, .slice a l.length cap, .slice c q.length capc] 42)) := (Below.refl _ _).alloc (Nat.le_refl _) _
  have BX : Hid (BoxFw (W.alloc (.cells #[.int .i64 p, .slice a l.length cap, .slice c q.length capc] 42)) W.heap.size p a l.length cap c q.length capc) := Lib.hid (BoxFw.at rfl)
  obtain ⟨R, hR⟩ : ∃ R, R = movF mirP (p, l, q) := ⟨_, rfl⟩
  rw [← hR]
  obtain ⟨pr, lr, qr⟩ := R
  have HRR := Lib.hid hR
  clear hR
  have HZ : Hid (Zer3 ((W.alloc (.cells #[.int .i64 p, .slice a l.length cap, .slice c q.length capc] 42)).alloc (.cells #[.int .i64 0, .slice none 0 0, .slice none 0 0] 42)) (W.heap.size + 1)) := Lib.hid (by have := Zer3.at (W.alloc (.cells #[.int .i64 p, .slice a l.length cap, .slice c q.length capc] 42)) 42; rwa [World.size_alloc] at this)
  have hba : Below (W.alloc (.cells #[.int .i64 p, .slice a l.length cap, .slice c q.length capc] 42)).heap.size (W.alloc (.cells #[.int .i64 p, .slice a l.length cap, .slice c q.length capc] 42)) ((W.alloc (.cells #[.int .i64 p, .slice a l.length cap, .slice c q.length capc] 42)).alloc (.cells #[.int .i64 0, .slice none 0 0, .slice none 0 0] 42)) := (Below.refl _ _).alloc (Nat.le_refl _) _
  have hzu : W.heap.size + 2 ≤ ((W.alloc (.cells #[.int .i64 p, .slice a l.length cap, .slice c q.length capc] 42)).alloc (.cells #[.int .i64 0, .slice none 0 0, .slice none 0 0] 42)).heap.size := by simp
  have hzu2 : ((W.alloc (.cells #[.int .i64 p, .slice a l.length cap, .slice c q.length capc] 42)).alloc (.cells #[.int .i64 0, .slice none 0 0, .slice none 0 0] 42)).heap.size ≤ W.heap.size + 2 := by simp
  replace B := B.step hba
  replace BX := Lib.hid (BX.out.below hba)
  clear hba
  go_enter Try.func36, Try.ntmps36
  go_wp2_with fail
  generalize ((W.alloc (.cells #[.int .i64 p, .slice a l.length cap, .slice c q.length capc] 42)).alloc (.cells #[.int .i64 0, .slice none 0 0, .slice none 0 0] 42)) = u at *
  obtain ⟨zBX, fBX0, fBX1, fBX2⟩ := BX.out
  refine (mirMv_at u p a cap l c capc q (H1.out.below B) (H2.out.below B) hs).mono ?_
  rintro e w1 ⟨vf, rfl, ho, b⟩
  rw [← HRR.out] at ho
  obtain ⟨vb, vp, ⟨ab, cb, ap, cp, rfl, rfl, rfl⟩, ob, op⟩ := ho
  dsimp only at ob op
  have hz1 := b.size
  replace B := B.step b
  replace HZ := Lib.hid (HZ.out.below b)
  clear zBX fBX0 fBX1 fBX2 b
  obtain ⟨⟨z1, z2, z3, c0, c1, c2⟩, ⟨f0, f1, f2⟩, gz⟩ := HZ.out
  have HLD := Lib.hid (laid3 (p := pr) (g := W.heap.size + 1) ob op (by omega) (by omega) (by omega) B)
  clear ob op
  go_wp2_with fail
  refine bodyPost_ret (v := .agg #[.int .i64 pr, .slice ab lr.length cb, .slice ap qr.length cp]) (by simp [results, Try.results36, go_sem, gz, c0, c1, c2]) rfl ⟨_, rfl, HLD.out.1, HLD.out.2⟩
theorem spec_MirrorFramework (W : World) (v : Value) (f : FwT) (h : IsFw W v f) (hn : szFw f ≤ 1048576) : Calls Try.prog 35 #[v] W (RetFw W (movF mirP f)) := by
  obtain ⟨p, l, q⟩ := f
  obtain ⟨a, cap, c, capc, rfl, hi, hj⟩ := h
  exact specMir_at _ _ _ _ _ _ _ _ hi hj hn
theorem impl_MirrorFramework (W : World) (v : Value) (f : FwT) (h : IsFw W v f) (hn : szFw f ≤ 1048576) : Calls Try.prog 36 #[v] W (RetFw W (movF mirP f)) := by
  obtain ⟨p, l, q⟩ := f
  obtain ⟨a, cap, c, capc, rfl, hi, hj⟩ := h
  exact mirI_at _ _ _ _ _ _ _ _ hi hj hn

set_option maxHeartbeats 4000000 in
theorem turMv_at (W : World) (p : Int) (a : Option Addr) (cap : Nat) (l : List BarT) (c : Option Addr) (capc : Nat) (q : List PlaceT) (h : BarsAt W a l.length l) (hq : PlacesAt W c q.length q) (hs : l.length + q.length ≤ 1048576) :
    Calls Try.prog 77 #[.agg #[.int .i64 p, .slice a l.length cap, .slice c q.length capc], (.func (.func 83) #[] #[])] W (RetFw W (movF turP (p, l, q))) := by
  have hwd := @Wd.cells
  have HFw : Hid (IsFw W (.agg #[.int .i64 p, .slice a l.length cap, .slice c q.length capc]) (p, l, q)) := Lib.hid ⟨a, cap, c, capc, rfl, h, hq⟩
  have H1 := Lib.hid h
  have H2 := Lib.hid hq
  clear h hq
  have hsz : szFw (p, l, q) ≤ 1048576 := hs
  have hs1 : l.length ≤ 1048576 := by omega
  have hs2 : q.length ≤ 1048576 := by omega
  have B : Below W.heap.size W (W.alloc (.cells #[.int .i64 p, .slice a l.length cap, .slice c q.length capc] 42)) := (Below.refl _ _).alloc (Nat.le_refl _) _
  have BX : Hid (BoxFw (W.alloc (.cells #[.int .i64 p, .slice a l.length cap, .slice c q.length capc] 42)) W.heap.size p a l.length cap c q.length capc) := Lib.hid (BoxFw.at rfl)
  have HZ : Hid (Zer3 ((W.alloc (.cells #[.int .i64 p, .slice a l.length cap, .slice c q.length capc] 42)).alloc (.cells #[.int .i64 0, .slice none 0 0, .slice none 0 0] 42)) (W.heap.size + 1)) := Lib.hid (by have := Zer3.at (W.alloc (.cells #[.int .i64 p, .slice a l.length cap, .slice c q.length capc] 42)) 42; rwa [World.size_alloc] at this)
  have hba : Below (W.alloc (.cells #[.int .i64 p, .slice a l.length cap, .slice c q.length capc] 42)).heap.size (W.alloc (.cells #[.int .i64 p, .slice a l.length cap, .slice c q.length capc] 42)) ((W.alloc (.cells #[.int .i64 p, .slice a l.length cap, .slice c q.length capc] 42)).alloc (.cells #[.int .i64 0, .slice none 0 0, .slice none 0 0] 42)) := (Below.refl _ _).alloc (Nat.le_refl _) _
  have hzu : W.heap.size + 2 ≤ ((W.alloc (.cells #[.int .i64 p, .slice a l.length cap, .slice c q.length capc] 42)).alloc (.cells #[.int .i64 0, .slice none 0 0, .slice none 0 0] 42)).heap.size := by simp
  have hzu2 : ((W.alloc (.cells #[.int .i64 p, .slice a l.length cap, .slice c q.length capc] 42)).alloc (.cells #[.int .i64 0, .slice none 0 0, .slice none 0 0] 42)).heap.size ≤ W.heap.size + 2 := by simp
  replace B := B.step hba
  replace BX := Lib.hid (BX.out.below hba)
  clear hba
  have cI := fun (w1 : World) (b : Below W.heap.size W w1) => impl_IsFramework w1 _ (p, l, q) (HFw.out.below b) hsz
  cases hf : isFwB (p, l, q)
  · have HE := Lib.hid (show movF turP (p, l, q) = (p, l, q) by unfold movF; rw [hf]; rfl)
    rw [hf] at cI
    have HC := Lib.hid cI
    clear cI
    go_enter Try.func77, Try.ntmps77
    go_wp2_with fail
    generalize ((W.alloc (.cells #[.int .i64 p, .slice a l.length cap, .slice c q.length capc] 42)).alloc (.cells #[.int .i64 0, .slice none 0 0, .slice none 0 0] 42)) = u at *
    obtain ⟨zBX, fBX0, fBX1, fBX2⟩ := BX.out
    refine (implCpF_at u p a cap l.length l c capc q.length q (H1.out.below B) (H2.out.below B) hs1 hs2).mono ?_
    rintro e w1 ⟨vf, rfl, ⟨vb, vp, ⟨ab, cb, ap, cp, rfl, rfl, rfl⟩, ob, op⟩, b⟩
    dsimp only at ob op
    have hz1 := b.size
    replace B := B.step b
    replace HZ := Lib.hid (HZ.out.below b)
    clear zBX fBX0 fBX1 fBX2
    replace BX := Lib.hid (BX.out.below b)
    clear b
    have b2 : Below w1.heap.size w1 (w1.alloc (.cells #[.int .i64 p, .slice ab l.length cb, .slice ap q.length cp] 42)) := (Below.refl _ _).alloc (Nat.le_refl _) _
    have BY : Hid (BoxFw (w1.alloc (.cells #[.int .i64 p, .slice ab l.length cb, .slice ap q.length cp] 42)) w1.heap.size p ab l.length cb ap q.length cp) := Lib.hid (BoxFw.at rfl)
    have OB := Lib.hid (ob.below b2)
    have OP := Lib.hid (op.below b2)
    clear ob op
    go_upto_region 2 with (fail)
    replace B := B.step b2
    replace HZ := Lib.hid (HZ.out.below b2)
    replace BX := Lib.hid (BX.out.below b2)
    clear b2
    generalize (w1.alloc (.cells #[.int .i64 p, .slice ab l.length cb, .slice ap q.length cp] 42)) = w2 at *
    obtain ⟨zBX, fBX0, fBX1, fBX2⟩ := BX.out
    go_wp2_with fail
    refine (HC.out _ B).mono ?_
    rintro e w3 ⟨rfl, b⟩
    clear zBX fBX0 fBX1 fBX2
    replace B := B.step b
    replace HZ := Lib.hid (HZ.out.below b)
    replace BY := Lib.hid (BY.out.below b)
    replace OB := Lib.hid (OB.out.below b)
    replace OP := Lib.hid (OP.out.below b)
    clear b
    obtain ⟨zBY, fBY0, fBY1, fBY2⟩ := BY.out
    obtain ⟨⟨z1, z2, z3, c0, c1, c2⟩, ⟨f0, f1, f2⟩, gz⟩ := HZ.out
    have HLD := Lib.hid (laid3 (p := p) (g := W.heap.size + 1) OB.out OP.out (by omega) (by omega) (by omega) B)
    go_wp2_with fail
    refine bodyPost_ret (v := .agg #[.int .i64 p, .slice ab l.length cb, .slice ap q.length cp]) (by simp [results, Try.results77, go_sem, gz, c0, c1, c2]) rfl ⟨_, rfl, ?_, HLD.out.2⟩
    rw [HE.out]
    exact HLD.out.1
  have HE := Lib.hid (show movF turP (p, l, q) = (p, l, q.map turP) by unfold movF; rw [hf]; rfl)
  obtain ⟨⟨hg1, hg2⟩, hg3, hg4, _, hg6⟩ := isFw_facts hf
  have HG6 := Lib.hid hg6
  have hqp : 0 < q.length := by omega
  rw [hf] at cI
  have HC := Lib.hid cI
  clear cI hg6 hg3
  go_enter Try.func77, Try.ntmps77
  go_wp2_with fail
  generalize ((W.alloc (.cells #[.int .i64 p, .slice a l.length cap, .slice c q.length capc] 42)).alloc (.cells #[.int .i64 0, .slice none 0 0, .slice none 0 0] 42)) = u at *
  obtain ⟨zBX, fBX0, fBX1, fBX2⟩ := BX.out
  refine (implCpF_at u p a cap l.length l c capc q.length q (H1.out.below B) (H2.out.below B) hs1 hs2).mono ?_
  rintro e w1 ⟨vf, rfl, ⟨vb, vp, ⟨ab, cb, ap, cp, rfl, rfl, rfl⟩, ob, op⟩, b⟩
  dsimp only at ob op
  obtain ⟨gp, rfl⟩ : ∃ gp, ap = some ⟨gp, 0, none⟩ := by
    rcases op.2 with ⟨_, h0⟩ | ⟨gp, cap, cur, h1, _⟩
    · omega
    · exact ⟨gp, by simpa using (Value.slice.inj h1).1⟩
  have hgp := op.lt gp rfl
  have hbp := bars_places ob op
  have hz1 := b.size
  replace B := B.step b
  replace HZ := Lib.hid (HZ.out.below b)
  clear zBX fBX0 fBX1 fBX2
  replace BX := Lib.hid (BX.out.below b)
  clear b
  have b2 : Below w1.heap.size w1 (w1.alloc (.cells #[.int .i64 p, .slice ab l.length cb, .slice (some ⟨gp, 0, none⟩) q.length cp] 42)) := (Below.refl _ _).alloc (Nat.le_refl _) _
  have BY : Hid (BoxFw (w1.alloc (.cells #[.int .i64 p, .slice ab l.length cb, .slice (some ⟨gp, 0, none⟩) q.length cp] 42)) w1.heap.size p ab l.length cb (some ⟨gp, 0, none⟩) q.length cp) := Lib.hid (BoxFw.at rfl)
  have OB := Lib.hid (ob.below b2)
  have OP := Lib.hid (op.below b2)
  have HBP := Lib.hid hbp
  clear ob op hbp
  go_upto_region 2 with (fail)
  replace B := B.step b2
  replace HZ := Lib.hid (HZ.out.below b2)
  replace BX := Lib.hid (BX.out.below b2)
  have hz2 := b2.size
  clear b2
  generalize (w1.alloc (.cells #[.int .i64 p, .slice ab l.length cb, .slice (some ⟨gp, 0, none⟩) q.length cp] 42)) = w20 at *
  obtain ⟨zBX, fBX0, fBX1, fBX2⟩ := BX.out
  go_wp2_with fail
  refine (HC.out _ B).mono ?_
  rintro e w2 ⟨rfl, b⟩
  clear zBX fBX0 fBX1 fBX2
  have hz3 := b.size
  replace B := B.step b
  replace HZ := Lib.hid (HZ.out.below b)
  replace BX := Lib.hid (BX.out.below b)
  replace BY := Lib.hid (BY.out.below b)
  replace OB := Lib.hid (OB.out.below b)
  replace OP := Lib.hid (OP.out.below b)
  clear b
  obtain ⟨zBX, fBX0, fBX1, fBX2⟩ := BX.out
  go_wp2_with fail
  clear zBX fBX0 fBX1 fBX2
  go_loopw [15] (fun i w9 => ∃ k : Nat, k ≤ q.length ∧ i = .int .i64 k ∧ w9.ownsRow u.heap.size 57 2 (.slice (some ⟨gp, 0, none⟩) q.length cp) q.length ((mvTo turP q k).flatMap cellsPlace) ∧ Kept (fun b => b = gp) w2 w9) (fun i _ => q.length - (intOf i).toNat)
  case atStart => exact ⟨0, Nat.zero_le _, rfl, by rw [mvTo_zero]; exact OP.out, Kept.refl _ _⟩
  case round =>
    clear OP
    obtain ⟨k, hk, rfl, ho, hkp⟩ := hrel
    have HO := Lib.hid ho
    clear ho
    have B1 : Below W.heap.size W wr := B.trans (hkp.below B.size fun j h1 h2 => by omega)
    have BX1 := Lib.hid (BX.out.kept hkp (by omega))
    have BY1 := Lib.hid (BY.out.kept hkp (by omega))
    have HZ1 := Lib.hid (HZ.out.kept hkp (by omega))
    have OB1 := Lib.hid (hkp.ownsRow OB.out fun j h1 h2 => HBP.out j h1 (by rw [h2]; rfl))
    by_cases hlt : k < q.length
    · have hki : (k : Int) < (q.length : Int) := by omega
      obtain ⟨bq, oq, ⟨x, y⟩, rfl, hbq, hx, hxa, hya⟩ := (H2.out.below B1).2 k hlt
      dsimp only at hxa hya
      have hxy := HG6.out k x y hx
      have HX := Lib.hid hx
      clear hx
      have bpl : Below wr.heap.size wr (wr.alloc (.cells #[.int .i64 x, .int .i64 y] 57)) := (Below.refl _ _).alloc (Nat.le_refl _) _
      have BP : Hid (BoxPl (wr.alloc (.cells #[.int .i64 x, .int .i64 y] 57)) wr.heap.size x y) := Lib.hid (BoxPl.at rfl)
      go_upto_region 6 with (fail)
      have hgr : gp < wr.heap.size := (World.ownsRow.lt HO.out gp rfl).2
      have BY3 := Lib.hid (BY1.out.below bpl)
      have HO3 := Lib.hid (Below.ownsRow bpl HO.out)
      have hk3 : Kept (fun b => b = gp) w2 (wr.alloc (.cells #[.int .i64 x, .int .i64 y] 57)) := hkp.trans (Kept.of_below bpl)
      clear hxa hya bpl
      generalize (wr.alloc (.cells #[.int .i64 x, .int .i64 y] 57)) = w3 at *
      have hget : (mvTo turP q k)[k]? = some (x, y) := (mvTo_get hk).trans HX.out
      have HGT := Lib.hid hget
      clear hget
      obtain ⟨zBY, fBY0, fBY1, fBY2⟩ := BY3.out
      obtain ⟨zBP, fBP0, fBP1⟩ := BP.out
      have n1 : gp ≠ w1.heap.size := by omega
      have n2 : gp ≠ wr.heap.size := by omega
      have HN := Lib.hid (And.intro n1 n2)
      clear n1 n2
      have bd : Below w3.heap.size w3 w3.drew := (Below.refl _ _).drew
      have KEEP := Lib.hid (show ∀ w', Below w3.heap.size w3 w' → w'.cell? ⟨w1.heap.size, 2, none⟩ = some (.slice (some ⟨gp, 0, none⟩) q.length cp) ∧ w'.cell? ⟨wr.heap.size, 0, none⟩ = some (.int .i64 x) ∧ w'.cell? ⟨wr.heap.size, 1, none⟩ = some (.int .i64 y) from fun w' hb => ⟨((bcell hb).1 _ _ zBY).trans fBY2, ((bcell hb).1 _ _ zBP).trans fBP0, ((bcell hb).1 _ _ zBP).trans fBP1⟩)
      have p1 : (0 : Int) ≤ (k : Int) := by omega
      have tk1 := True.intro
      go_region_held3 (fun w' => w'.cell? ⟨w1.heap.size, 2, none⟩ = some (.slice (some ⟨gp, 0, none⟩) q.length cp) ∧ w'.cell? ⟨wr.heap.size, 0, none⟩ = some (.int .i64 x) ∧ w'.cell? ⟨wr.heap.size, 1, none⟩ = some (.int .i64 y))
        (first | (with_reducible exact KEEP.out _ bd) | (with_reducible exact KEEP.out _ b7) | (exact ⟨(cell_set_ne HN.out.1).trans ((cell_set_ne HN.out.1).trans (KEEP.out _ b7).1), (cell_set_ne HN.out.2).trans ((cell_set_ne HN.out.2).trans (KEEP.out _ b7).2.1), (cell_set_ne HN.out.2).trans ((cell_set_ne HN.out.2).trans (KEEP.out _ b7).2.2)⟩))
        (first
          | (clear tk1; go_at_call 83; refine (turFn_at _ _ _ hxy).mono ?_; rintro e w7 ⟨rfl, b⟩; have b7 := bd.step b; have HO7 := Lib.hid (Below.ownsRow b7 HO3.out); have t0 := ownPlaces_cell HO7.out HGT.out hlt 0 (by omega); have t1 := ownPlaces_cell HO7.out HGT.out hlt 1 (by omega); simp only [cellsPlace, List.getElem?_cons_zero, List.getElem?_cons_succ, Nat.add_zero] at t0 t1; have r0 := World.ownsRow.frozenAt HO7.out (k * 2); have r1 := World.ownsRow.frozenAt HO7.out (k * 2 + 1); have hgz : gp < w7.heap.size := (World.ownsRow.lt HO7.out gp rfl).2; clear bd b)
          | fail)
      all_goals
        go_wp2_with fail
        go_roundw
        case rel =>
          refine ⟨k + 1, by omega, by go_num, ?_, ?_⟩
          · have h9 := (setPlace_seg HO7.out ((4 - y), x) (by rw [mvTo_length hk]; exact hlt)).1
            rw [show (((4 - y), x) : PlaceT) = turP (x, y) from rfl, mvTo_succ HX.out] at h9
            exact h9
          · exact (hk3.trans (Kept.of_below b7)).trans ((keptSet (S := fun b => b = gp) rfl).trans (keptSet (S := fun b => b = gp) rfl))
        case measure => simp [intOf]; omega
    · obtain rfl : k = q.length := by omega
      obtain ⟨zBY, fBY0, fBY1, fBY2⟩ := BY1.out
      obtain ⟨⟨z1, z2, z3, c0, c1, c2⟩, ⟨f0, f1, f2⟩, gz⟩ := HZ1.out
      have ho := HO.out
      rw [mvTo_all] at ho
      have HLD := Lib.hid (laid3 (W := W) (p := p) (g := W.heap.size + 1) (q := q.map turP) (ap := some ⟨gp, 0, none⟩) (cp := cp) OB1.out (by rw [List.length_map]; unfold OwnPlaces; rw [List.length_map]; exact ho) (by omega) (by omega) (by omega) B1)
      rw [List.length_map] at HLD
      clear ho
      go_wp2_with fail
      refine bodyPost_ret (v := .agg #[.int .i64 p, .slice ab l.length cb, .slice (some ⟨gp, 0, none⟩) q.length cp]) (by simp [results, Try.results77, go_sem, gz, c0, c1, c2]) rfl ⟨_, rfl, ?_, HLD.out.2⟩
      rw [HE.out]
      exact HLD.out.1

set_option maxHeartbeats 4000000 in
theorem turI_at (W : World) (p : Int) (a : Option Addr) (cap : Nat) (l : List BarT) (c : Option Addr) (capc : Nat) (q : List PlaceT) (h : BarsAt W a l.length l) (hq : PlacesAt W c q.length q) (hs : l.length + q.length ≤ 1048576) :
    Calls Try.prog 40 #[.agg #[.int .i64 p, .slice a l.length cap, .slice c q.length capc]] W (RetFw W (movF turP (p, l, q))) := by
  have hwd := @Wd.cells
  have HFw : Hid (IsFw W (.agg #[.int .i64 p, .slice a l.length cap, .slice c q.length capc]) (p, l, q)) := Lib.hid ⟨a, cap, c, capc, rfl, h, hq⟩
  have H1 := Lib.hid h
  have H2 := Lib.hid hq
  clear h hq
  have hsz : szFw (p, l, q) ≤ 1048576 := hs
  have hs1 : l.length ≤ 1048576 := by omega
  have hs2 : q.length ≤ 1048576 := by omega
  have B : Below W.heap.size W (W.alloc (.cells #[.int .i64 p, .slice a l.length cap, .slice c q.length capc] 42)) := (Below.refl _ _).alloc (Nat.le_refl _) _
  have BX : Hid (BoxFw (W.alloc (.cells #[.int .i64 p, .slice a l.length cap, .slice c q.length capc] 42)) W.heap.size p a l.length cap c q.length capc) := Lib.hid (BoxFw.at rfl)
  obtain ⟨R, hR⟩ : ∃ R, R = movF turP (p, l, q) := ⟨_, rfl⟩
  rw [← hR]
  obtain ⟨pr, lr, qr⟩ := R
  have HRR := Lib.hid hR
  clear hR
  have HZ : Hid (Zer3 ((W.alloc (.cells #[.int .i64 p, .slice a l.length cap, .slice c q.length capc] 42)).alloc (.cells #[.int .i64 0, .slice none 0 0, .slice none 0 0] 42)) (W.heap.size + 1)) := Lib.hid (by have := Zer3.at (W.alloc (.cells #[.int .i64 p, .slice a l.length cap, .slice c q.length capc] 42)) 42; rwa [World.size_alloc] at this)
  have hba : Below (W.alloc (.cells #[.int .i64 p, .slice a l.length cap, .slice c q.length capc] 42)).heap.size (W.alloc (.cells #[.int .i64 p, .slice a l.length cap, .slice c q.length capc] 42)) ((W.alloc (.cells #[.int .i64 p, .slice a l.length cap, .slice c q.length capc] 42)).alloc (.cells #[.int .i64 0, .slice none 0 0, .slice none 0 0] 42)) := (Below.refl _ _).alloc (Nat.le_refl _) _
  have hzu : W.heap.size + 2 ≤ ((W.alloc (.cells #[.int .i64 p, .slice a l.length cap, .slice c q.length capc] 42)).alloc (.cells #[.int .i64 0, .slice none 0 0, .slice none 0 0] 42)).heap.size := by simp
  have hzu2 : ((W.alloc (.cells #[.int .i64 p, .slice a l.length cap, .slice c q.length capc] 42)).alloc (.cells #[.int .i64 0, .slice none 0 0, .slice none 0 0] 42)).heap.size ≤ W.heap.size + 2 := by simp
  replace B := B.step hba
  replace BX := Lib.hid (BX.out.below hba)
  clear hba
  go_enter Try.func40, Try.ntmps40
  go_wp2_with fail
  generalize ((W.alloc (.cells #[.int .i64 p, .slice a l.length cap, .slice c q.length capc] 42)).alloc (.cells #[.int .i64 0, .slice none 0 0, .slice none 0 0] 42)) = u at *
  obtain ⟨zBX, fBX0, fBX1, fBX2⟩ := BX.out
  refine (turMv_at u p a cap l c capc q (H1.out.below B) (H2.out.below B) hs).mono ?_
  rintro e w1 ⟨vf, rfl, ho, b⟩
  rw [← HRR.out] at ho
  obtain ⟨vb, vp, ⟨ab, cb, ap, cp, rfl, rfl, rfl⟩, ob, op⟩ := ho
  dsimp only at ob op
  have hz1 := b.size
  replace B := B.step b
  replace HZ := Lib.hid (HZ.out.below b)
  clear zBX fBX0 fBX1 fBX2 b
  obtain ⟨⟨z1, z2, z3, c0, c1, c2⟩, ⟨f0, f1, f2⟩, gz⟩ := HZ.out
  have HLD := Lib.hid (laid3 (p := pr) (g := W.heap.size + 1) ob op (by omega) (by omega) (by omega) B)
  clear ob op
  go_wp2_with fail
  refine bodyPost_ret (v := .agg #[.int .i64 pr, .slice ab lr.length cb, .slice ap qr.length cp]) (by simp [results, Try.results40, go_sem, gz, c0, c1, c2]) rfl ⟨_, rfl, HLD.out.1, HLD.out.2⟩
theorem spec_TurnFramework (W : World) (v : Value) (f : FwT) (h : IsFw W v f) (hn : szFw f ≤ 1048576) : Calls Try.prog 39 #[v] W (RetFw W (movF turP f)) := by
  obtain ⟨p, l, q⟩ := f
  obtain ⟨a, cap, c, capc, rfl, hi, hj⟩ := h
  exact specTur_at _ _ _ _ _ _ _ _ hi hj hn
theorem impl_TurnFramework (W : World) (v : Value) (f : FwT) (h : IsFw W v f) (hn : szFw f ≤ 1048576) : Calls Try.prog 40 #[v] W (RetFw W (movF turP f)) := by
  obtain ⟨p, l, q⟩ := f
  obtain ⟨a, cap, c, capc, rfl, hi, hj⟩ := h
  exact turI_at _ _ _ _ _ _ _ _ hi hj hn
end Go.Proofs.Ytkjoeogoebpkjaa
