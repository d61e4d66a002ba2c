/- ApplyStep of the program, no step made or one of the first kind (written by gen_sta.py). No condition but sizes. -/
import Derived.Test.YtfbmpkdjhhcnpaaGreatSnQ01
import Derived.Lib.MinMax
import Derived.Deep.RegionHeld3
import Derived.Deep.CutRange
import Derived.OwnWalk
namespace Go.Proofs.YtfbmpkdjhhcnpaaGreat
open Go.RowKit
set_option maxRecDepth 100000
set_option linter.unusedVariables false
set_option linter.unusedSimpArgs false

theorem cs3 {w : World} {b g k : Nat} {v v' : Value} {x : Option Value} (h : w.cell? ⟨b, k, none⟩ = x) (hne : b ≠ g) : ((w.setCell ⟨g, 0, none⟩ v).setCell ⟨g, 1, none⟩ v').cell? ⟨b, k, none⟩ = x :=
 (World.cell?_setCell_other _ _ _ _ (by simp [hne])).trans ((World.cell?_setCell_other _ _ _ _ (by simp [hne])).trans h)
theorem litB1 (w : World) (a b : Int) : BarsAt (w.alloc (.cells #[.int .i64 a, .int .i64 b] 70)) (some ⟨w.heap.size, 0, none⟩) 1 [(a, b)] :=
 ⟨rfl, fun k hk => by
  obtain rfl : k = 0 := by omega
  exact ⟨w.heap.size, 0, (a, b), rfl, by simp, rfl, by simp [World.cell?_alloc_new], by simp [World.cell?_alloc_new]⟩⟩
theorem litB2 (w : World) (a b c d : Int) : BarsAt (w.alloc (.cells #[.int .i64 a, .int .i64 b, .int .i64 c, .int .i64 d] 70)) (some ⟨w.heap.size, 0, none⟩) 2 [(a, b), (c, d)] :=
 ⟨rfl, fun k hk => by
  obtain rfl | rfl : k = 0 ∨ k = 1 := by omega
  ·exact ⟨w.heap.size, 0, (a, b), rfl, by simp, rfl, by simp [World.cell?_alloc_new], by simp [World.cell?_alloc_new]⟩
  ·exact ⟨w.heap.size, 0, (c, d), rfl, by simp, rfl, by simp [World.cell?_alloc_new], by simp [World.cell?_alloc_new]⟩⟩
theorem litB3 (w : World) (a b c d e f : Int) : BarsAt (w.alloc (.cells #[.int .i64 a, .int .i64 b, .int .i64 c, .int .i64 d, .int .i64 e, .int .i64 f] 70)) (some ⟨w.heap.size, 0, none⟩) 3 [(a, b), (c, d), (e, f)] :=
 ⟨rfl, fun k hk => by
  obtain rfl | rfl | rfl : k = 0 ∨ k = 1 ∨ k = 2 := by omega
  ·exact ⟨w.heap.size, 0, (a, b), rfl, by simp, rfl, by simp [World.cell?_alloc_new], by simp [World.cell?_alloc_new]⟩
  ·exact ⟨w.heap.size, 0, (c, d), rfl, by simp, rfl, by simp [World.cell?_alloc_new], by simp [World.cell?_alloc_new]⟩
  ·exact ⟨w.heap.size, 0, (e, f), rfl, by simp, rfl, by simp [World.cell?_alloc_new], by simp [World.cell?_alloc_new]⟩⟩
set_option maxHeartbeats 16000000 in
theorem implAppG (W : World) (p : Int) (a : Option Addr) (cap : Nat) (l : List BarT) (h : BarsAt W a l.length l) (hs : l.length ≤ 1048576) (kd pt x y z : Int) (hbad : isGraphB (p, l) = false ∨ 21 < l.length) :
  Calls Tryz.prog 40 #[.agg #[.int .i64 p, .slice a l.length cap], .agg #[.int .i64 kd, .int .i64 pt, .int .i64 x, .int .i64 y, .int .i64 z]] W (RetGB W (stepF (p, l) (kd, pt, x, y, z)).1 (stepF (p, l) (kd, pt, x, y, z)).2) := by
 have hcap := True.intro
 have hcm := True.intro
 have HE := Lib.hid (show stepF (p, l) (kd, pt, x, y, z) = ((p, l), false) by unfold stepF; rcases hbad with h | h; (rw [h]; rfl); (rw [decide_eq_false (show ¬ (p, l).2.length ≤ 21 by dsimp only; omega), Bool.and_false]; rfl))
 have hwd := @Wd.cells
 have HGr : Hid (IsGraph W (.agg #[.int .i64 p, .slice a l.length cap]) (p, l)) := Lib.hid ⟨a, cap, rfl, h⟩
 have H1 := Lib.hid h
 clear h
 have hsz : szGraph (p, l) ≤ 1048576 := hs
 have hsz2 : szGraph (p, l) ≤ 1099511627776 := Nat.le_trans hsz (by decide)
 have B : Below W.heap.size W (W.alloc (.cells #[.int .i64 p, .slice a l.length cap] 26)) := (Below.refl _ _).alloc (Nat.le_refl _) _
 have BG : Hid (BoxGr (W.alloc (.cells #[.int .i64 p, .slice a l.length cap] 26)) W.heap.size p a l.length cap) := Lib.hid (BoxGr.at rfl)
 obtain ⟨hcap, hcm⟩ := And.intro hcap hcm
 have BS : Hid (BoxSt ((W.alloc (.cells #[.int .i64 p, .slice a l.length cap] 26)).alloc (.cells #[.int .i64 kd, .int .i64 pt, .int .i64 x, .int .i64 y, .int .i64 z] 57)) (W.heap.size + 1) kd pt x y z) := Lib.hid (BoxSt.at (by simp))
 have HZ : Hid (Zer2 (((W.alloc (.cells #[.int .i64 p, .slice a l.length cap] 26)).alloc (.cells #[.int .i64 kd, .int .i64 pt, .int .i64 x, .int .i64 y, .int .i64 z] 57)).alloc (.cells #[.int .i64 0, .slice none 0 0] 26)) (W.heap.size + 2)) := Lib.hid (by have := Zer2.at ((W.alloc (.cells #[.int .i64 p, .slice a l.length cap] 26)).alloc (.cells #[.int .i64 kd, .int .i64 pt, .int .i64 x, .int .i64 y, .int .i64 z] 57)) 26; rwa [World.size_alloc, World.size_alloc] at this)
 have ba := belAl (W.alloc (.cells #[.int .i64 p, .slice a l.length cap] 26)) (.cells #[.int .i64 kd, .int .i64 pt, .int .i64 x, .int .i64 y, .int .i64 z] 57)
 have bb := belAl ((W.alloc (.cells #[.int .i64 p, .slice a l.length cap] 26)).alloc (.cells #[.int .i64 kd, .int .i64 pt, .int .i64 x, .int .i64 y, .int .i64 z] 57)) (.cells #[.int .i64 0, .slice none 0 0] 26)
 have hz : W.heap.size + 3 ≤ (((W.alloc (.cells #[.int .i64 p, .slice a l.length cap] 26)).alloc (.cells #[.int .i64 kd, .int .i64 pt, .int .i64 x, .int .i64 y, .int .i64 z] 57)).alloc (.cells #[.int .i64 0, .slice none 0 0] 26)).heap.size := by simp
 replace B := (B.step ba).step bb
 replace BG := Lib.hid ((BG.out.below ba).below bb)
 replace BS := Lib.hid (BS.out.below bb)
 clear ba bb
 go_enter Tryz.func40, Tryz.ntmps40
 go_upto_region 1 with (fail)
 generalize (((W.alloc (.cells #[.int .i64 p, .slice a l.length cap] 26)).alloc (.cells #[.int .i64 kd, .int .i64 pt, .int .i64 x, .int .i64 y, .int .i64 z] 57)).alloc (.cells #[.int .i64 0, .slice none 0 0] 26)) = u at *
 obtain ⟨zBG, fBG0, fBG1⟩ := BG.out
 obtain ⟨zBS, fBS0, fBS1, fBS2, fBS3, fBS4⟩ := BS.out
 go_wp2_with fail
 clear zBG fBG0 fBG1 zBS fBS0 fBS1 fBS2 fBS3 fBS4
 refine (implIsGraph_at u p a cap l (H1.out.below B) (by omega)).mono ?_
 rintro e w1 ⟨rfl, b⟩
 have hz1 := b.size
 have hzu := hz
 replace B := B.step b
 replace BG := Lib.hid (BG.out.below b)
 replace BS := Lib.hid (BS.out.below b)
 replace HZ := Lib.hid (HZ.out.below b)
 clear b
 cases hg : isGraphB (p, l)
 ·skip
  clear hg hbad
  obtain ⟨zBG, fBG0, fBG1⟩ := BG.out
  obtain ⟨zBS, fBS0, fBS1, fBS2, fBS3, fBS4⟩ := BS.out
  go_wp2_with fail
  clear zBG fBG0 fBG1 zBS fBS0 fBS1 fBS2 fBS3 fBS4
  refine (implCpG_at _ p a cap l.length l (H1.out.below B) hs).mono ?_
  rintro e wc1 ⟨v1, rfl, o1, b⟩
  obtain ⟨vb, ⟨a1, c1, rfl, rfl⟩, ob⟩ := o1
  dsimp only at ob
  have hzc := b.size
  replace B := B.step b
  replace BG := Lib.hid (BG.out.below b)
  replace BS := Lib.hid (BS.out.below b)
  replace HZ := Lib.hid (HZ.out.below b)
  obtain ⟨⟨r0, r1, r2, c0, c1x⟩, ⟨y0, y1⟩, zg⟩ := HZ.out
  go_wp2_with fail
  refine bodyPost_ret (v := .tuple #[.agg #[.int .i64 p, .slice a1 l.length c1], .bool false]) (by simp [results, Tryz.results40, go_sem, zg, c0, c1x]) rfl ?_
  rw [HE.out]
  exact ⟨_, rfl, laid2 ob (by omega) (by omega) (by omega) B⟩
 have hl21 : 21 < l.length := by rcases hbad with h | h; (rw [hg] at h; cases h); exact h
 have hli : (l.length : Int) > 21 := by omega
 clear hg hbad
 obtain ⟨zBG, fBG0, fBG1⟩ := BG.out
 obtain ⟨zBS, fBS0, fBS1, fBS2, fBS3, fBS4⟩ := BS.out
 go_wp2_with fail
 clear zBG fBG0 fBG1 zBS fBS0 fBS1 fBS2 fBS3 fBS4
 refine (implCpG_at _ p a cap l.length l (H1.out.below B) hs).mono ?_
 rintro e wc1 ⟨v1, rfl, o1, b⟩
 obtain ⟨vb, ⟨a1, c1, rfl, rfl⟩, ob⟩ := o1
 dsimp only at ob
 have hzc := b.size
 replace B := B.step b
 replace BG := Lib.hid (BG.out.below b)
 replace BS := Lib.hid (BS.out.below b)
 replace HZ := Lib.hid (HZ.out.below b)
 obtain ⟨⟨r0, r1, r2, c0, c1x⟩, ⟨y0, y1⟩, zg⟩ := HZ.out
 go_wp2_with fail
 refine bodyPost_ret (v := .tuple #[.agg #[.int .i64 p, .slice a1 l.length c1], .bool false]) (by simp [results, Tryz.results40, go_sem, zg, c0, c1x]) rfl ?_
 rw [HE.out]
 exact ⟨_, rfl, laid2 ob (by omega) (by omega) (by omega) B⟩
set_option maxHeartbeats 16000000 in
theorem implApp0 (W : World) (p : Int) (a : Option Addr) (cap : Nat) (l : List BarT) (h : BarsAt W a l.length l) (hs : l.length ≤ 1048576) (kd pt x y z : Int) (hg : isGraphB (p, l) = true) (hl21 : l.length ≤ 21) (k0 : (kd == 0) = true) (k1 : (kd == 1) = false) (k2 : (kd == 2) = false) :
  Calls Tryz.prog 40 #[.agg #[.int .i64 p, .slice a l.length cap], .agg #[.int .i64 kd, .int .i64 pt, .int .i64 x, .int .i64 y, .int .i64 z]] W (RetGB W (stepF (p, l) (kd, pt, x, y, z)).1 (stepF (p, l) (kd, pt, x, y, z)).2) := by
 have hcap := True.intro
 have hcm := True.intro
 have hwd := @Wd.cells
 have HGr : Hid (IsGraph W (.agg #[.int .i64 p, .slice a l.length cap]) (p, l)) := Lib.hid ⟨a, cap, rfl, h⟩
 have H1 := Lib.hid h
 clear h
 have hsz : szGraph (p, l) ≤ 1048576 := hs
 have hsz2 : szGraph (p, l) ≤ 1099511627776 := Nat.le_trans hsz (by decide)
 have B : Below W.heap.size W (W.alloc (.cells #[.int .i64 p, .slice a l.length cap] 26)) := (Below.refl _ _).alloc (Nat.le_refl _) _
 have BG : Hid (BoxGr (W.alloc (.cells #[.int .i64 p, .slice a l.length cap] 26)) W.heap.size p a l.length cap) := Lib.hid (BoxGr.at rfl)
 obtain ⟨hcap, hcm⟩ := And.intro hcap hcm
 have BS : Hid (BoxSt ((W.alloc (.cells #[.int .i64 p, .slice a l.length cap] 26)).alloc (.cells #[.int .i64 kd, .int .i64 pt, .int .i64 x, .int .i64 y, .int .i64 z] 57)) (W.heap.size + 1) kd pt x y z) := Lib.hid (BoxSt.at (by simp))
 have HZ : Hid (Zer2 (((W.alloc (.cells #[.int .i64 p, .slice a l.length cap] 26)).alloc (.cells #[.int .i64 kd, .int .i64 pt, .int .i64 x, .int .i64 y, .int .i64 z] 57)).alloc (.cells #[.int .i64 0, .slice none 0 0] 26)) (W.heap.size + 2)) := Lib.hid (by have := Zer2.at ((W.alloc (.cells #[.int .i64 p, .slice a l.length cap] 26)).alloc (.cells #[.int .i64 kd, .int .i64 pt, .int .i64 x, .int .i64 y, .int .i64 z] 57)) 26; rwa [World.size_alloc, World.size_alloc] at this)
 have ba := belAl (W.alloc (.cells #[.int .i64 p, .slice a l.length cap] 26)) (.cells #[.int .i64 kd, .int .i64 pt, .int .i64 x, .int .i64 y, .int .i64 z] 57)
 have bb := belAl ((W.alloc (.cells #[.int .i64 p, .slice a l.length cap] 26)).alloc (.cells #[.int .i64 kd, .int .i64 pt, .int .i64 x, .int .i64 y, .int .i64 z] 57)) (.cells #[.int .i64 0, .slice none 0 0] 26)
 have hz : W.heap.size + 3 ≤ (((W.alloc (.cells #[.int .i64 p, .slice a l.length cap] 26)).alloc (.cells #[.int .i64 kd, .int .i64 pt, .int .i64 x, .int .i64 y, .int .i64 z] 57)).alloc (.cells #[.int .i64 0, .slice none 0 0] 26)).heap.size := by simp
 replace B := (B.step ba).step bb
 replace BG := Lib.hid ((BG.out.below ba).below bb)
 replace BS := Lib.hid (BS.out.below bb)
 clear ba bb
 go_enter Tryz.func40, Tryz.ntmps40
 go_upto_region 1 with (fail)
 generalize (((W.alloc (.cells #[.int .i64 p, .slice a l.length cap] 26)).alloc (.cells #[.int .i64 kd, .int .i64 pt, .int .i64 x, .int .i64 y, .int .i64 z] 57)).alloc (.cells #[.int .i64 0, .slice none 0 0] 26)) = u at *
 obtain ⟨zBG, fBG0, fBG1⟩ := BG.out
 obtain ⟨zBS, fBS0, fBS1, fBS2, fBS3, fBS4⟩ := BS.out
 go_wp2_with fail
 clear zBG fBG0 fBG1 zBS fBS0 fBS1 fBS2 fBS3 fBS4
 refine (implIsGraph_at u p a cap l (H1.out.below B) (by omega)).mono ?_
 rintro e w1 ⟨rfl, b⟩
 have hz1 := b.size
 have hzu := hz
 replace B := B.step b
 replace BG := Lib.hid (BG.out.below b)
 replace BS := Lib.hid (BS.out.below b)
 replace HZ := Lib.hid (HZ.out.below b)
 clear b
 rw [hg]
 have HG := Lib.hid hg
 have hli : ¬ (l.length : Int) > 21 := by omega
 have hpb := (isGraphB_bd hg).1
 have HS : Hid (stepF (p, l) (kd, pt, x, y, z) = if cnd0 p l kd pt x y z then ((p, putsL l [barM x y]), true) else if cnd1 p l kd pt x y z then ((p, putsL l [barM pt x, barM pt y]), true) else if cnd2 p l kd pt x y z then ((p, putsL (cutG l (idxB l (barM x y)).toNat) [barM pt x, barM pt y, barM pt z]), true) else ((p, l), false)) := Lib.hid (by unfold stepF; rw [hg, decide_eq_true (show (p, l).2.length ≤ 21 from hl21)]; rfl)
 have hor := Lib.hid (isGraphB_ord hg)
 clear hg
 have e1 : cnd1 p l kd pt x y z = false := by unfold cnd1; rw [k1]; simp
 have e2 : cnd2 p l kd pt x y z = false := by unfold cnd2; rw [k2]; simp
 obtain ⟨wo, hwo⟩ : ∃ wo, wo = w1 := ⟨_, rfl⟩
 subst hwo
 have hgr := Lib.hid HG.out
 cases h4 : ((l.length : Int) == 0)
 ·skip
  have HE := Lib.hid (show stepF (p, l) (kd, pt, x, y, z) = ((p, l), false) by
   have en : cnd0 p l kd pt x y z = false := by unfold cnd0; rw [k0, h4]; simp
   rw [HS.out, en, e1, e2]; rfl)
  obtain ⟨zBG, fBG0, fBG1⟩ := BG.out
  obtain ⟨zBS, fBS0, fBS1, fBS2, fBS3, fBS4⟩ := BS.out
  go_wp2_with fail
  clear zBG fBG0 fBG1 zBS fBS0 fBS1 fBS2 fBS3 fBS4
  refine (implCpG_at _ p a cap l.length l (H1.out.below B) hs).mono ?_
  rintro e wc1 ⟨v1, rfl, o1, b⟩
  obtain ⟨vb, ⟨a1, c1, rfl, rfl⟩, ob⟩ := o1
  dsimp only at ob
  have hzc := b.size
  replace B := B.step b
  replace BG := Lib.hid (BG.out.below b)
  replace BS := Lib.hid (BS.out.below b)
  replace HZ := Lib.hid (HZ.out.below b)
  obtain ⟨⟨r0, r1, r2, c0, c1x⟩, ⟨y0, y1⟩, zg⟩ := HZ.out
  go_wp2_with fail
  refine bodyPost_ret (v := .tuple #[.agg #[.int .i64 p, .slice a1 l.length c1], .bool false]) (by simp [results, Tryz.results40, go_sem, zg, c0, c1x]) rfl ?_
  rw [HE.out]
  exact ⟨_, rfl, laid2 ob (by omega) (by omega) (by omega) B⟩
 cases h2 : (pt == 0)
 ·skip
  have HE := Lib.hid (show stepF (p, l) (kd, pt, x, y, z) = ((p, l), false) by
   have en : cnd0 p l kd pt x y z = false := by unfold cnd0; rw [k0, h4, h2]; simp
   rw [HS.out, en, e1, e2]; rfl)
  obtain ⟨zBG, fBG0, fBG1⟩ := BG.out
  obtain ⟨zBS, fBS0, fBS1, fBS2, fBS3, fBS4⟩ := BS.out
  go_wp2_with fail
  clear zBG fBG0 fBG1 zBS fBS0 fBS1 fBS2 fBS3 fBS4
  refine (implCpG_at _ p a cap l.length l (H1.out.below B) hs).mono ?_
  rintro e wc1 ⟨v1, rfl, o1, b⟩
  obtain ⟨vb, ⟨a1, c1, rfl, rfl⟩, ob⟩ := o1
  dsimp only at ob
  have hzc := b.size
  replace B := B.step b
  replace BG := Lib.hid (BG.out.below b)
  replace BS := Lib.hid (BS.out.below b)
  replace HZ := Lib.hid (HZ.out.below b)
  obtain ⟨⟨r0, r1, r2, c0, c1x⟩, ⟨y0, y1⟩, zg⟩ := HZ.out
  go_wp2_with fail
  refine bodyPost_ret (v := .tuple #[.agg #[.int .i64 p, .slice a1 l.length c1], .bool false]) (by simp [results, Tryz.results40, go_sem, zg, c0, c1x]) rfl ?_
  rw [HE.out]
  exact ⟨_, rfl, laid2 ob (by omega) (by omega) (by omega) B⟩
 cases h3 : (z == 0)
 ·skip
  have HE := Lib.hid (show stepF (p, l) (kd, pt, x, y, z) = ((p, l), false) by
   have en : cnd0 p l kd pt x y z = false := by unfold cnd0; rw [k0, h4, h2, h3]; simp
   rw [HS.out, en, e1, e2]; rfl)
  obtain ⟨zBG, fBG0, fBG1⟩ := BG.out
  obtain ⟨zBS, fBS0, fBS1, fBS2, fBS3, fBS4⟩ := BS.out
  go_wp2_with fail
  clear zBG fBG0 fBG1 zBS fBS0 fBS1 fBS2 fBS3 fBS4
  refine (implCpG_at _ p a cap l.length l (H1.out.below B) hs).mono ?_
  rintro e wc1 ⟨v1, rfl, o1, b⟩
  obtain ⟨vb, ⟨a1, c1, rfl, rfl⟩, ob⟩ := o1
  dsimp only at ob
  have hzc := b.size
  replace B := B.step b
  replace BG := Lib.hid (BG.out.below b)
  replace BS := Lib.hid (BS.out.below b)
  replace HZ := Lib.hid (HZ.out.below b)
  obtain ⟨⟨r0, r1, r2, c0, c1x⟩, ⟨y0, y1⟩, zg⟩ := HZ.out
  go_wp2_with fail
  refine bodyPost_ret (v := .tuple #[.agg #[.int .i64 p, .slice a1 l.length c1], .bool false]) (by simp [results, Tryz.results40, go_sem, zg, c0, c1x]) rfl ?_
  rw [HE.out]
  exact ⟨_, rfl, laid2 ob (by omega) (by omega) (by omega) B⟩
 have bl := belAl wo (.cells #[.int .i64 x, .int .i64 y] 3)
 have HI : Hid (IntsAt (wo.alloc (.cells #[.int .i64 x, .int .i64 y] 3)) (some ⟨wo.heap.size, 0, none⟩) 2 [x, y]) := Lib.hid (litInts [x, y] rfl (by decide))
 obtain ⟨zBG, fBG0, fBG1⟩ := BG.out
 obtain ⟨zBS, fBS0, fBS1, fBS2, fBS3, fBS4⟩ := BS.out
 go_wp2_with fail
 clear zBG fBG0 fBG1 zBS fBS0 fBS1 fBS2 fBS3 fBS4
 refine (areDif_at _ p a cap l (H1.out.below (B.step bl)) hs (some ⟨wo.heap.size, 0, none⟩) 2 [x, y] HI.out (by decide) hpb).mono ?_
 rintro e w5 ⟨rfl, b⟩
 have b5 := bl.step b
 have hz5 := b5.size
 clear b bl HI
 replace B := B.step b5
 replace BG := Lib.hid (BG.out.below b5)
 replace BS := Lib.hid (BS.out.below b5)
 replace HZ := Lib.hid (HZ.out.below b5)
 cases hd : difB p [x, y]
 ·skip
  have HE := Lib.hid (show stepF (p, l) (kd, pt, x, y, z) = ((p, l), false) by
   have en : cnd0 p l kd pt x y z = false := by unfold cnd0; rw [k0, h4, h2, h3, hd]; simp
   rw [HS.out, en, e1, e2]; rfl)
  obtain ⟨zBG, fBG0, fBG1⟩ := BG.out
  obtain ⟨zBS, fBS0, fBS1, fBS2, fBS3, fBS4⟩ := BS.out
  go_wp2_with fail
  clear zBG fBG0 fBG1 zBS fBS0 fBS1 fBS2 fBS3 fBS4
  refine (implCpG_at _ p a cap l.length l (H1.out.below B) hs).mono ?_
  rintro e wc1 ⟨v1, rfl, o1, b⟩
  obtain ⟨vb, ⟨a1, c1, rfl, rfl⟩, ob⟩ := o1
  dsimp only at ob
  have hzc := b.size
  replace B := B.step b
  replace BG := Lib.hid (BG.out.below b)
  replace BS := Lib.hid (BS.out.below b)
  replace HZ := Lib.hid (HZ.out.below b)
  obtain ⟨⟨r0, r1, r2, c0, c1x⟩, ⟨y0, y1⟩, zg⟩ := HZ.out
  go_wp2_with fail
  refine bodyPost_ret (v := .tuple #[.agg #[.int .i64 p, .slice a1 l.length c1], .bool false]) (by simp [results, Tryz.results40, go_sem, zg, c0, c1x]) rfl ?_
  rw [HE.out]
  exact ⟨_, rfl, laid2 ob (by omega) (by omega) (by omega) B⟩
 have HE := Lib.hid (show stepF (p, l) (kd, pt, x, y, z) = ((p, putsL l [barM x y]), true) by
  have en : cnd0 p l kd pt x y z = true := by unfold cnd0; rw [k0, h2, h3, h4, hd]; rfl
  rw [HS.out, en]; rfl)
 have HOR := hor
 obtain ⟨zBG, fBG0, fBG1⟩ := BG.out
 obtain ⟨zBS, fBS0, fBS1, fBS2, fBS3, fBS4⟩ := BS.out
 go_wp2_with fail
 clear zBG fBG0 fBG1 zBS fBS0 fBS1 fBS2 fBS3 fBS4
 obtain ⟨w9, hw9⟩ : ∃ w9, w9 = w5 := ⟨_, rfl⟩
 subst hw9
 have KEEP := Lib.hid (show ∀ w', Below w9.heap.size w9 w' → w'.cell? ⟨W.heap.size, 0, none⟩ = some (.int .i64 p) ∧ w'.cell? ⟨W.heap.size, 1, none⟩ = some (.slice a l.length cap) ∧ w'.cell? ⟨W.heap.size + 1, 2, none⟩ = some (.int .i64 x) ∧ w'.cell? ⟨W.heap.size + 1, 3, none⟩ = some (.int .i64 y) from fun w' hb => ⟨(BG.out.below hb).c0, (BG.out.below hb).c1, (BS.out.below hb).2.2.2.1, (BS.out.below hb).2.2.2.2.1⟩)
 have BB : Below w9.heap.size w9 w9.drew := (Below.refl _ _).drew
 have hbz : W.heap.size + 3 ≤ w9.heap.size := by omega
 have hgz : W.heap.size < w9.heap.size := BG.out.1
 have tk1 := True.intro
 have tk2 := True.intro
 go_region_held3 (fun w' => w'.cell? ⟨W.heap.size, 0, none⟩ = some (.int .i64 p) ∧ w'.cell? ⟨W.heap.size, 1, none⟩ = some (.slice a l.length cap) ∧ w'.cell? ⟨W.heap.size + 1, 2, none⟩ = some (.int .i64 x) ∧ w'.cell? ⟨W.heap.size + 1, 3, none⟩ = some (.int .i64 y))
  (first | (with_reducible exact ⟨cs3 sM.1 (by omega), cs3 sM.2.1 (by omega), cs3 sM.2.2.1 (by omega), cs3 sM.2.2.2 (by omega)⟩) | (exact KEEP.out _ (by repeat' (first | (with_reducible assumption) | (with_reducible exact Below.refl _ _) | (with_reducible refine Below.drew ?_) | (with_reducible refine Below.alloc ?_ (by first | omega | (simp; done) | (simp; omega)) _) | (with_reducible refine Below.setCell ?_ (by first | omega | (simp; done) | (simp; omega)) _)))))
  (first
    | (go_at_call 93; clear tk1; refine (bar_any _ _ _).mono ?_; rintro e wb ⟨rfl, b⟩; replace BB := BB.step b; have hzb := BB.size; clear b)
    | (go_at_call 92; clear tk2; have hlit := litB1 wb (min x y) (max x y); have bl := belAl wb (.cells #[.int .i64 (min x y), .int .i64 (max x y)] 70); refine (withBars_at _ p a cap l (H1.out.below (B.step (BB.step bl))) hs (some ⟨wb.heap.size, 0, none⟩) 1 1 [barM x y] hlit (by decide)).mono ?_; rintro e wM ⟨v1, rfl, o1, b⟩; rw [sortB_puts _ HOR.out] at o1; obtain ⟨vb, ⟨a1, c1, rfl, rfl⟩, ob⟩ := o1; dsimp only at ob; have hzl := bl.size; have hzM := b.size; have bM : Below w9.heap.size w9 wM := (BB.step bl).step b; have BM := Lib.hid bM; have sM := KEEP.out _ bM; have ZM := Lib.hid (HZ.out.below BM.out); obtain ⟨⟨r0, r1, r2, c0, c1x⟩, ⟨y0, y1⟩, zg⟩ := ZM.out; have BWM := Lib.hid (B.step BM.out); clear b bl hlit))
 all_goals
  go_wp2_with fail
  refine bodyPost_ret (v := .tuple #[.agg #[.int .i64 p, .slice a1 (putsL l [barM x y]).length c1], .bool true]) (by simp [results, Tryz.results40, go_sem, zg, c0, c1x]) rfl ?_
  rw [HE.out]
  exact ⟨_, rfl, laid2 ob (by omega) (by omega) (by omega) BWM.out⟩
set_option maxHeartbeats 16000000 in
theorem implApp3 (W : World) (p : Int) (a : Option Addr) (cap : Nat) (l : List BarT) (h : BarsAt W a l.length l) (hs : l.length ≤ 1048576) (kd pt x y z : Int) (hg : isGraphB (p, l) = true) (hl21 : l.length ≤ 21) (k0 : (kd == 0) = false) (k1 : (kd == 1) = false) (k2 : (kd == 2) = false) :
  Calls Tryz.prog 40 #[.agg #[.int .i64 p, .slice a l.length cap], .agg #[.int .i64 kd, .int .i64 pt, .int .i64 x, .int .i64 y, .int .i64 z]] W (RetGB W (stepF (p, l) (kd, pt, x, y, z)).1 (stepF (p, l) (kd, pt, x, y, z)).2) := by
 have hcap := True.intro
 have hcm := True.intro
 have hwd := @Wd.cells
 have HGr : Hid (IsGraph W (.agg #[.int .i64 p, .slice a l.length cap]) (p, l)) := Lib.hid ⟨a, cap, rfl, h⟩
 have H1 := Lib.hid h
 clear h
 have hsz : szGraph (p, l) ≤ 1048576 := hs
 have hsz2 : szGraph (p, l) ≤ 1099511627776 := Nat.le_trans hsz (by decide)
 have B : Below W.heap.size W (W.alloc (.cells #[.int .i64 p, .slice a l.length cap] 26)) := (Below.refl _ _).alloc (Nat.le_refl _) _
 have BG : Hid (BoxGr (W.alloc (.cells #[.int .i64 p, .slice a l.length cap] 26)) W.heap.size p a l.length cap) := Lib.hid (BoxGr.at rfl)
 obtain ⟨hcap, hcm⟩ := And.intro hcap hcm
 have BS : Hid (BoxSt ((W.alloc (.cells #[.int .i64 p, .slice a l.length cap] 26)).alloc (.cells #[.int .i64 kd, .int .i64 pt, .int .i64 x, .int .i64 y, .int .i64 z] 57)) (W.heap.size + 1) kd pt x y z) := Lib.hid (BoxSt.at (by simp))
 have HZ : Hid (Zer2 (((W.alloc (.cells #[.int .i64 p, .slice a l.length cap] 26)).alloc (.cells #[.int .i64 kd, .int .i64 pt, .int .i64 x, .int .i64 y, .int .i64 z] 57)).alloc (.cells #[.int .i64 0, .slice none 0 0] 26)) (W.heap.size + 2)) := Lib.hid (by have := Zer2.at ((W.alloc (.cells #[.int .i64 p, .slice a l.length cap] 26)).alloc (.cells #[.int .i64 kd, .int .i64 pt, .int .i64 x, .int .i64 y, .int .i64 z] 57)) 26; rwa [World.size_alloc, World.size_alloc] at this)
 have ba := belAl (W.alloc (.cells #[.int .i64 p, .slice a l.length cap] 26)) (.cells #[.int .i64 kd, .int .i64 pt, .int .i64 x, .int .i64 y, .int .i64 z] 57)
 have bb := belAl ((W.alloc (.cells #[.int .i64 p, .slice a l.length cap] 26)).alloc (.cells #[.int .i64 kd, .int .i64 pt, .int .i64 x, .int .i64 y, .int .i64 z] 57)) (.cells #[.int .i64 0, .slice none 0 0] 26)
 have hz : W.heap.size + 3 ≤ (((W.alloc (.cells #[.int .i64 p, .slice a l.length cap] 26)).alloc (.cells #[.int .i64 kd, .int .i64 pt, .int .i64 x, .int .i64 y, .int .i64 z] 57)).alloc (.cells #[.int .i64 0, .slice none 0 0] 26)).heap.size := by simp
 replace B := (B.step ba).step bb
 replace BG := Lib.hid ((BG.out.below ba).below bb)
 replace BS := Lib.hid (BS.out.below bb)
 clear ba bb
 go_enter Tryz.func40, Tryz.ntmps40
 go_upto_region 1 with (fail)
 generalize (((W.alloc (.cells #[.int .i64 p, .slice a l.length cap] 26)).alloc (.cells #[.int .i64 kd, .int .i64 pt, .int .i64 x, .int .i64 y, .int .i64 z] 57)).alloc (.cells #[.int .i64 0, .slice none 0 0] 26)) = u at *
 obtain ⟨zBG, fBG0, fBG1⟩ := BG.out
 obtain ⟨zBS, fBS0, fBS1, fBS2, fBS3, fBS4⟩ := BS.out
 go_wp2_with fail
 clear zBG fBG0 fBG1 zBS fBS0 fBS1 fBS2 fBS3 fBS4
 refine (implIsGraph_at u p a cap l (H1.out.below B) (by omega)).mono ?_
 rintro e w1 ⟨rfl, b⟩
 have hz1 := b.size
 have hzu := hz
 replace B := B.step b
 replace BG := Lib.hid (BG.out.below b)
 replace BS := Lib.hid (BS.out.below b)
 replace HZ := Lib.hid (HZ.out.below b)
 clear b
 rw [hg]
 have HG := Lib.hid hg
 have hli : ¬ (l.length : Int) > 21 := by omega
 have hpb := (isGraphB_bd hg).1
 have HS : Hid (stepF (p, l) (kd, pt, x, y, z) = if cnd0 p l kd pt x y z then ((p, putsL l [barM x y]), true) else if cnd1 p l kd pt x y z then ((p, putsL l [barM pt x, barM pt y]), true) else if cnd2 p l kd pt x y z then ((p, putsL (cutG l (idxB l (barM x y)).toNat) [barM pt x, barM pt y, barM pt z]), true) else ((p, l), false)) := Lib.hid (by unfold stepF; rw [hg, decide_eq_true (show (p, l).2.length ≤ 21 from hl21)]; rfl)
 have hor := Lib.hid (isGraphB_ord hg)
 clear hg
 have e0 : cnd0 p l kd pt x y z = false := by unfold cnd0; rw [k0]; simp
 have e1 : cnd1 p l kd pt x y z = false := by unfold cnd1; rw [k1]; simp
 have e2 : cnd2 p l kd pt x y z = false := by unfold cnd2; rw [k2]; simp
 obtain ⟨wo, hwo⟩ : ∃ wo, wo = w1 := ⟨_, rfl⟩
 subst hwo
 have hgr := Lib.hid HG.out
 have HE := Lib.hid (show stepF (p, l) (kd, pt, x, y, z) = ((p, l), false) by rw [HS.out, e0, e1, e2]; rfl)
 obtain ⟨zBG, fBG0, fBG1⟩ := BG.out
 obtain ⟨zBS, fBS0, fBS1, fBS2, fBS3, fBS4⟩ := BS.out
 go_wp2_with fail
 clear zBG fBG0 fBG1 zBS fBS0 fBS1 fBS2 fBS3 fBS4
 refine (implCpG_at _ p a cap l.length l (H1.out.below B) hs).mono ?_
 rintro e wc1 ⟨v1, rfl, o1, b⟩
 obtain ⟨vb, ⟨a1, c1, rfl, rfl⟩, ob⟩ := o1
 dsimp only at ob
 have hzc := b.size
 replace B := B.step b
 replace BG := Lib.hid (BG.out.below b)
 replace BS := Lib.hid (BS.out.below b)
 replace HZ := Lib.hid (HZ.out.below b)
 obtain ⟨⟨r0, r1, r2, c0, c1x⟩, ⟨y0, y1⟩, zg⟩ := HZ.out
 go_wp2_with fail
 refine bodyPost_ret (v := .tuple #[.agg #[.int .i64 p, .slice a1 l.length c1], .bool false]) (by simp [results, Tryz.results40, go_sem, zg, c0, c1x]) rfl ?_
 rw [HE.out]
 exact ⟨_, rfl, laid2 ob (by omega) (by omega) (by omega) B⟩

set_option maxHeartbeats 16000000 in
theorem implApp1 (W : World) (p : Int) (a : Option Addr) (cap : Nat) (l : List BarT) (h : BarsAt W a l.length l) (hs : l.length ≤ 1048576) (kd pt x y z : Int) (hg : isGraphB (p, l) = true) (hl21 : l.length ≤ 21) (k0 : (kd == 0) = false) (k1 : (kd == 1) = true) (k2 : (kd == 2) = false) :
  Calls Tryz.prog 40 #[.agg #[.int .i64 p, .slice a l.length cap], .agg #[.int .i64 kd, .int .i64 pt, .int .i64 x, .int .i64 y, .int .i64 z]] W (RetGB W (stepF (p, l) (kd, pt, x, y, z)).1 (stepF (p, l) (kd, pt, x, y, z)).2) := by
 have hcap := True.intro
 have hcm := True.intro
 have hwd := @Wd.cells
 have HGr : Hid (IsGraph W (.agg #[.int .i64 p, .slice a l.length cap]) (p, l)) := Lib.hid ⟨a, cap, rfl, h⟩
 have H1 := Lib.hid h
 clear h
 have hsz : szGraph (p, l) ≤ 1048576 := hs
 have hsz2 : szGraph (p, l) ≤ 1099511627776 := Nat.le_trans hsz (by decide)
 have B : Below W.heap.size W (W.alloc (.cells #[.int .i64 p, .slice a l.length cap] 26)) := (Below.refl _ _).alloc (Nat.le_refl _) _
 have BG : Hid (BoxGr (W.alloc (.cells #[.int .i64 p, .slice a l.length cap] 26)) W.heap.size p a l.length cap) := Lib.hid (BoxGr.at rfl)
 obtain ⟨hcap, hcm⟩ := And.intro hcap hcm
 have BS : Hid (BoxSt ((W.alloc (.cells #[.int .i64 p, .slice a l.length cap] 26)).alloc (.cells #[.int .i64 kd, .int .i64 pt, .int .i64 x, .int .i64 y, .int .i64 z] 57)) (W.heap.size + 1) kd pt x y z) := Lib.hid (BoxSt.at (by simp))
 have HZ : Hid (Zer2 (((W.alloc (.cells #[.int .i64 p, .slice a l.length cap] 26)).alloc (.cells #[.int .i64 kd, .int .i64 pt, .int .i64 x, .int .i64 y, .int .i64 z] 57)).alloc (.cells #[.int .i64 0, .slice none 0 0] 26)) (W.heap.size + 2)) := Lib.hid (by have := Zer2.at ((W.alloc (.cells #[.int .i64 p, .slice a l.length cap] 26)).alloc (.cells #[.int .i64 kd, .int .i64 pt, .int .i64 x, .int .i64 y, .int .i64 z] 57)) 26; rwa [World.size_alloc, World.size_alloc] at this)
 have ba := belAl (W.alloc (.cells #[.int .i64 p, .slice a l.length cap] 26)) (.cells #[.int .i64 kd, .int .i64 pt, .int .i64 x, .int .i64 y, .int .i64 z] 57)
 have bb := belAl ((W.alloc (.cells #[.int .i64 p, .slice a l.length cap] 26)).alloc (.cells #[.int .i64 kd, .int .i64 pt, .int .i64 x, .int .i64 y, .int .i64 z] 57)) (.cells #[.int .i64 0, .slice none 0 0] 26)
 have hz : W.heap.size + 3 ≤ (((W.alloc (.cells #[.int .i64 p, .slice a l.length cap] 26)).alloc (.cells #[.int .i64 kd, .int .i64 pt, .int .i64 x, .int .i64 y, .int .i64 z] 57)).alloc (.cells #[.int .i64 0, .slice none 0 0] 26)).heap.size := by simp
 replace B := (B.step ba).step bb
 replace BG := Lib.hid ((BG.out.below ba).below bb)
 replace BS := Lib.hid (BS.out.below bb)
 clear ba bb
 go_enter Tryz.func40, Tryz.ntmps40
 go_upto_region 1 with (fail)
 generalize (((W.alloc (.cells #[.int .i64 p, .slice a l.length cap] 26)).alloc (.cells #[.int .i64 kd, .int .i64 pt, .int .i64 x, .int .i64 y, .int .i64 z] 57)).alloc (.cells #[.int .i64 0, .slice none 0 0] 26)) = u at *
 obtain ⟨zBG, fBG0, fBG1⟩ := BG.out
 obtain ⟨zBS, fBS0, fBS1, fBS2, fBS3, fBS4⟩ := BS.out
 go_wp2_with fail
 clear zBG fBG0 fBG1 zBS fBS0 fBS1 fBS2 fBS3 fBS4
 refine (implIsGraph_at u p a cap l (H1.out.below B) (by omega)).mono ?_
 rintro e w1 ⟨rfl, b⟩
 have hz1 := b.size
 have hzu := hz
 replace B := B.step b
 replace BG := Lib.hid (BG.out.below b)
 replace BS := Lib.hid (BS.out.below b)
 replace HZ := Lib.hid (HZ.out.below b)
 clear b
 rw [hg]
 have HG := Lib.hid hg
 have hli : ¬ (l.length : Int) > 21 := by omega
 have hpb := (isGraphB_bd hg).1
 have HS : Hid (stepF (p, l) (kd, pt, x, y, z) = if cnd0 p l kd pt x y z then ((p, putsL l [barM x y]), true) else if cnd1 p l kd pt x y z then ((p, putsL l [barM pt x, barM pt y]), true) else if cnd2 p l kd pt x y z then ((p, putsL (cutG l (idxB l (barM x y)).toNat) [barM pt x, barM pt y, barM pt z]), true) else ((p, l), false)) := Lib.hid (by unfold stepF; rw [hg, decide_eq_true (show (p, l).2.length ≤ 21 from hl21)]; rfl)
 have hor := Lib.hid (isGraphB_ord hg)
 clear hg
 have e0 : cnd0 p l kd pt x y z = false := by unfold cnd0; rw [k0]; simp
 have e2 : cnd2 p l kd pt x y z = false := by unfold cnd2; rw [k2]; simp
 obtain ⟨wo, hwo⟩ : ∃ wo, wo = w1 := ⟨_, rfl⟩
 subst hwo
 have hgr := Lib.hid HG.out
 cases h2 : (z == 0)
 ·skip
  have HE := Lib.hid (show stepF (p, l) (kd, pt, x, y, z) = ((p, l), false) by
   have en : cnd1 p l kd pt x y z = false := by unfold cnd1; rw [k1, h2]; simp
   rw [HS.out, e0, en, e2]; rfl)
  obtain ⟨zBG, fBG0, fBG1⟩ := BG.out
  obtain ⟨zBS, fBS0, fBS1, fBS2, fBS3, fBS4⟩ := BS.out
  go_wp2_with fail
  clear zBG fBG0 fBG1 zBS fBS0 fBS1 fBS2 fBS3 fBS4
  refine (implCpG_at _ p a cap l.length l (H1.out.below B) hs).mono ?_
  rintro e wc1 ⟨v1, rfl, o1, b⟩
  obtain ⟨vb, ⟨a1, c1, rfl, rfl⟩, ob⟩ := o1
  dsimp only at ob
  have hzc := b.size
  replace B := B.step b
  replace BG := Lib.hid (BG.out.below b)
  replace BS := Lib.hid (BS.out.below b)
  replace HZ := Lib.hid (HZ.out.below b)
  obtain ⟨⟨r0, r1, r2, c0, c1x⟩, ⟨y0, y1⟩, zg⟩ := HZ.out
  go_wp2_with fail
  refine bodyPost_ret (v := .tuple #[.agg #[.int .i64 p, .slice a1 l.length c1], .bool false]) (by simp [results, Tryz.results40, go_sem, zg, c0, c1x]) rfl ?_
  rw [HE.out]
  exact ⟨_, rfl, laid2 ob (by omega) (by omega) (by omega) B⟩
 have bl := belAl wo (.cells #[.int .i64 pt, .int .i64 x, .int .i64 y] 3)
 have HI : Hid (IntsAt (wo.alloc (.cells #[.int .i64 pt, .int .i64 x, .int .i64 y] 3)) (some ⟨wo.heap.size, 0, none⟩) 3 [pt, x, y]) := Lib.hid (litInts [pt, x, y] rfl (by decide))
 obtain ⟨zBG, fBG0, fBG1⟩ := BG.out
 obtain ⟨zBS, fBS0, fBS1, fBS2, fBS3, fBS4⟩ := BS.out
 go_wp2_with fail
 clear zBG fBG0 fBG1 zBS fBS0 fBS1 fBS2 fBS3 fBS4
 refine (areDif_at _ p a cap l (H1.out.below (B.step bl)) hs (some ⟨wo.heap.size, 0, none⟩) 3 [pt, x, y] HI.out (by decide) hpb).mono ?_
 rintro e w5 ⟨rfl, b⟩
 have b5 := bl.step b
 have hz5 := b5.size
 clear b bl HI
 replace B := B.step b5
 replace BG := Lib.hid (BG.out.below b5)
 replace BS := Lib.hid (BS.out.below b5)
 replace HZ := Lib.hid (HZ.out.below b5)
 cases hd : difB p [pt, x, y]
 ·skip
  have HE := Lib.hid (show stepF (p, l) (kd, pt, x, y, z) = ((p, l), false) by
   have en : cnd1 p l kd pt x y z = false := by unfold cnd1; rw [k1, h2, hd]; simp
   rw [HS.out, e0, en, e2]; rfl)
  obtain ⟨zBG, fBG0, fBG1⟩ := BG.out
  obtain ⟨zBS, fBS0, fBS1, fBS2, fBS3, fBS4⟩ := BS.out
  go_wp2_with fail
  clear zBG fBG0 fBG1 zBS fBS0 fBS1 fBS2 fBS3 fBS4
  refine (implCpG_at _ p a cap l.length l (H1.out.below B) hs).mono ?_
  rintro e wc1 ⟨v1, rfl, o1, b⟩
  obtain ⟨vb, ⟨a1, c1, rfl, rfl⟩, ob⟩ := o1
  dsimp only at ob
  have hzc := b.size
  replace B := B.step b
  replace BG := Lib.hid (BG.out.below b)
  replace BS := Lib.hid (BS.out.below b)
  replace HZ := Lib.hid (HZ.out.below b)
  obtain ⟨⟨r0, r1, r2, c0, c1x⟩, ⟨y0, y1⟩, zg⟩ := HZ.out
  go_wp2_with fail
  refine bodyPost_ret (v := .tuple #[.agg #[.int .i64 p, .slice a1 l.length c1], .bool false]) (by simp [results, Tryz.results40, go_sem, zg, c0, c1x]) rfl ?_
  rw [HE.out]
  exact ⟨_, rfl, laid2 ob (by omega) (by omega) (by omega) B⟩
 obtain ⟨zBG, fBG0, fBG1⟩ := BG.out
 obtain ⟨zBS, fBS0, fBS1, fBS2, fBS3, fBS4⟩ := BS.out
 go_wp2_with fail
 clear zBG fBG0 fBG1 zBS fBS0 fBS1 fBS2 fBS3 fBS4
 refine (implDeg_at _ p a cap l (H1.out.below B) hs pt).mono ?_
 rintro e w6 ⟨rfl, b⟩
 have hz6 := b.size
 replace B := B.step b
 replace BG := Lib.hid (BG.out.below b)
 replace BS := Lib.hid (BS.out.below b)
 replace HZ := Lib.hid (HZ.out.below b)
 clear b
 have hq6 : 0 ≤ degB l pt := (degTo_bd l pt l.length).1
 cases h5 : decide (0 < degB l pt)
 rotate_left
 ·skip
  have h11 := of_decide_eq_true h5
  have h12 : (degB l pt == 0) = false := by rw [beq_eq_false_iff_ne]; omega
  have HE := Lib.hid (show stepF (p, l) (kd, pt, x, y, z) = ((p, l), false) by
   have en : cnd1 p l kd pt x y z = false := by unfold cnd1; rw [k1, h2, hd, h5]; simp
   rw [HS.out, e0, en, e2]; rfl)
  generalize degB l pt = D at *
  obtain ⟨zBG, fBG0, fBG1⟩ := BG.out
  obtain ⟨zBS, fBS0, fBS1, fBS2, fBS3, fBS4⟩ := BS.out
  go_wp2_with fail
  clear zBG fBG0 fBG1 zBS fBS0 fBS1 fBS2 fBS3 fBS4
  refine (implCpG_at _ p a cap l.length l (H1.out.below B) hs).mono ?_
  rintro e wc1 ⟨v1, rfl, o1, b⟩
  obtain ⟨vb, ⟨a1, c1, rfl, rfl⟩, ob⟩ := o1
  dsimp only at ob
  have hzc := b.size
  replace B := B.step b
  replace BG := Lib.hid (BG.out.below b)
  replace BS := Lib.hid (BS.out.below b)
  replace HZ := Lib.hid (HZ.out.below b)
  obtain ⟨⟨r0, r1, r2, c0, c1x⟩, ⟨y0, y1⟩, zg⟩ := HZ.out
  go_wp2_with fail
  refine bodyPost_ret (v := .tuple #[.agg #[.int .i64 p, .slice a1 l.length c1], .bool false]) (by simp [results, Tryz.results40, go_sem, zg, c0, c1x]) rfl ?_
  rw [HE.out]
  exact ⟨_, rfl, laid2 ob (by omega) (by omega) (by omega) B⟩
 have gh5 := of_decide_eq_false h5
 have qh5 : (degB l pt == 0) = true := by rw [beq_iff_eq]; omega
 obtain ⟨zBG, fBG0, fBG1⟩ := BG.out
 obtain ⟨zBS, fBS0, fBS1, fBS2, fBS3, fBS4⟩ := BS.out
 go_wp2_with fail
 clear zBG fBG0 fBG1 zBS fBS0 fBS1 fBS2 fBS3 fBS4
 refine (implDeg_at _ p a cap l (H1.out.below B) hs x).mono ?_
 rintro e w7 ⟨rfl, b⟩
 have hz7 := b.size
 replace B := B.step b
 replace BG := Lib.hid (BG.out.below b)
 replace BS := Lib.hid (BS.out.below b)
 replace HZ := Lib.hid (HZ.out.below b)
 clear b
 have hq7 : 0 ≤ degB l x := (degTo_bd l x l.length).1
 cases h6 : decide (0 < degB l x)
 ·skip
  have h11 := of_decide_eq_false h6
  have h12 : ¬ (degB l x > 0) := h11
  have HE := Lib.hid (show stepF (p, l) (kd, pt, x, y, z) = ((p, l), false) by
   have en : cnd1 p l kd pt x y z = false := by unfold cnd1; rw [k1, h2, hd, h5, h6]; simp
   rw [HS.out, e0, en, e2]; rfl)
  generalize degB l x = D at *
  obtain ⟨zBG, fBG0, fBG1⟩ := BG.out
  obtain ⟨zBS, fBS0, fBS1, fBS2, fBS3, fBS4⟩ := BS.out
  go_wp2_with fail
  clear zBG fBG0 fBG1 zBS fBS0 fBS1 fBS2 fBS3 fBS4
  refine (implCpG_at _ p a cap l.length l (H1.out.below B) hs).mono ?_
  rintro e wc1 ⟨v1, rfl, o1, b⟩
  obtain ⟨vb, ⟨a1, c1, rfl, rfl⟩, ob⟩ := o1
  dsimp only at ob
  have hzc := b.size
  replace B := B.step b
  replace BG := Lib.hid (BG.out.below b)
  replace BS := Lib.hid (BS.out.below b)
  replace HZ := Lib.hid (HZ.out.below b)
  obtain ⟨⟨r0, r1, r2, c0, c1x⟩, ⟨y0, y1⟩, zg⟩ := HZ.out
  go_wp2_with fail
  refine bodyPost_ret (v := .tuple #[.agg #[.int .i64 p, .slice a1 l.length c1], .bool false]) (by simp [results, Tryz.results40, go_sem, zg, c0, c1x]) rfl ?_
  rw [HE.out]
  exact ⟨_, rfl, laid2 ob (by omega) (by omega) (by omega) B⟩
 have gh6 := of_decide_eq_true h6
 have qh6 : degB l x > 0 := gh6
 obtain ⟨zBG, fBG0, fBG1⟩ := BG.out
 obtain ⟨zBS, fBS0, fBS1, fBS2, fBS3, fBS4⟩ := BS.out
 go_wp2_with fail
 clear zBG fBG0 fBG1 zBS fBS0 fBS1 fBS2 fBS3 fBS4
 refine (implDeg_at _ p a cap l (H1.out.below B) hs y).mono ?_
 rintro e w8 ⟨rfl, b⟩
 have hz8 := b.size
 replace B := B.step b
 replace BG := Lib.hid (BG.out.below b)
 replace BS := Lib.hid (BS.out.below b)
 replace HZ := Lib.hid (HZ.out.below b)
 clear b
 have hq8 : 0 ≤ degB l y := (degTo_bd l y l.length).1
 cases h7 : decide (0 < degB l y)
 ·skip
  have h11 := of_decide_eq_false h7
  have h12 : ¬ (degB l y > 0) := h11
  have HE := Lib.hid (show stepF (p, l) (kd, pt, x, y, z) = ((p, l), false) by
   have en : cnd1 p l kd pt x y z = false := by unfold cnd1; rw [k1, h2, hd, h5, h6, h7]; simp
   rw [HS.out, e0, en, e2]; rfl)
  generalize degB l y = D at *
  obtain ⟨zBG, fBG0, fBG1⟩ := BG.out
  obtain ⟨zBS, fBS0, fBS1, fBS2, fBS3, fBS4⟩ := BS.out
  go_wp2_with fail
  clear zBG fBG0 fBG1 zBS fBS0 fBS1 fBS2 fBS3 fBS4
  refine (implCpG_at _ p a cap l.length l (H1.out.below B) hs).mono ?_
  rintro e wc1 ⟨v1, rfl, o1, b⟩
  obtain ⟨vb, ⟨a1, c1, rfl, rfl⟩, ob⟩ := o1
  dsimp only at ob
  have hzc := b.size
  replace B := B.step b
  replace BG := Lib.hid (BG.out.below b)
  replace BS := Lib.hid (BS.out.below b)
  replace HZ := Lib.hid (HZ.out.below b)
  obtain ⟨⟨r0, r1, r2, c0, c1x⟩, ⟨y0, y1⟩, zg⟩ := HZ.out
  go_wp2_with fail
  refine bodyPost_ret (v := .tuple #[.agg #[.int .i64 p, .slice a1 l.length c1], .bool false]) (by simp [results, Tryz.results40, go_sem, zg, c0, c1x]) rfl ?_
  rw [HE.out]
  exact ⟨_, rfl, laid2 ob (by omega) (by omega) (by omega) B⟩
 have gh7 := of_decide_eq_true h7
 have qh7 : degB l y > 0 := gh7
 have HE := Lib.hid (show stepF (p, l) (kd, pt, x, y, z) = ((p, putsL l [barM pt x, barM pt y]), true) by
  have en : cnd1 p l kd pt x y z = true := by unfold cnd1; rw [k1, h2, hd, h5, h6, h7]; rfl
  rw [HS.out, e0, en]; rfl)
 have HOR := hor
 obtain ⟨zBG, fBG0, fBG1⟩ := BG.out
 obtain ⟨zBS, fBS0, fBS1, fBS2, fBS3, fBS4⟩ := BS.out
 go_wp2_with fail
 clear zBG fBG0 fBG1 zBS fBS0 fBS1 fBS2 fBS3 fBS4
 obtain ⟨w9, hw9⟩ : ∃ w9, w9 = w8 := ⟨_, rfl⟩
 subst hw9
 have KEEP := Lib.hid (show ∀ w', Below w9.heap.size w9 w' → w'.cell? ⟨W.heap.size, 0, none⟩ = some (.int .i64 p) ∧ w'.cell? ⟨W.heap.size, 1, none⟩ = some (.slice a l.length cap) ∧ w'.cell? ⟨W.heap.size + 1, 1, none⟩ = some (.int .i64 pt) ∧ w'.cell? ⟨W.heap.size + 1, 2, none⟩ = some (.int .i64 x) ∧ w'.cell? ⟨W.heap.size + 1, 3, none⟩ = some (.int .i64 y) from fun w' hb => ⟨(BG.out.below hb).c0, (BG.out.below hb).c1, (BS.out.below hb).2.2.1, (BS.out.below hb).2.2.2.1, (BS.out.below hb).2.2.2.2.1⟩)
 have BB : Below w9.heap.size w9 w9.drew := (Below.refl _ _).drew
 have hbz : W.heap.size + 3 ≤ w9.heap.size := by omega
 have hgz : W.heap.size < w9.heap.size := BG.out.1
 have tk1 := True.intro
 have tk2 := True.intro
 have tk3 := True.intro
 go_region_held3 (fun w' => w'.cell? ⟨W.heap.size, 0, none⟩ = some (.int .i64 p) ∧ w'.cell? ⟨W.heap.size, 1, none⟩ = some (.slice a l.length cap) ∧ w'.cell? ⟨W.heap.size + 1, 1, none⟩ = some (.int .i64 pt) ∧ w'.cell? ⟨W.heap.size + 1, 2, none⟩ = some (.int .i64 x) ∧ w'.cell? ⟨W.heap.size + 1, 3, none⟩ = some (.int .i64 y))
  (first | (with_reducible exact ⟨cs3 sM.1 (by omega), cs3 sM.2.1 (by omega), cs3 sM.2.2.1 (by omega), cs3 sM.2.2.2.1 (by omega), cs3 sM.2.2.2.2 (by omega)⟩) | (exact KEEP.out _ (by repeat' (first | (with_reducible assumption) | (with_reducible exact Below.refl _ _) | (with_reducible refine Below.drew ?_) | (with_reducible refine Below.alloc ?_ (by first | omega | (simp; done) | (simp; omega)) _) | (with_reducible refine Below.setCell ?_ (by first | omega | (simp; done) | (simp; omega)) _)))))
  (first
    | (go_at_call 93; clear tk1; refine (bar_any _ _ _).mono ?_; rintro e wb ⟨rfl, b⟩; replace BB := BB.step b; have hzb := BB.size; clear b)
    | (go_at_call 93; clear tk2; refine (bar_any _ _ _).mono ?_; rintro e wb ⟨rfl, b⟩; replace BB := BB.step b; have hzb := BB.size; clear b)
    | (go_at_call 92; clear tk3; have hlit := litB2 wb (min pt x) (max pt x) (min pt y) (max pt y); have bl := belAl wb (.cells #[.int .i64 (min pt x), .int .i64 (max pt x), .int .i64 (min pt y), .int .i64 (max pt y)] 70); refine (withBars_at _ p a cap l (H1.out.below (B.step (BB.step bl))) hs (some ⟨wb.heap.size, 0, none⟩) 2 2 [barM pt x, barM pt y] hlit (by decide)).mono ?_; rintro e wM ⟨v1, rfl, o1, b⟩; rw [sortB_puts _ HOR.out] at o1; obtain ⟨vb, ⟨a1, c1, rfl, rfl⟩, ob⟩ := o1; dsimp only at ob; have hzl := bl.size; have hzM := b.size; have bM : Below w9.heap.size w9 wM := (BB.step bl).step b; have BM := Lib.hid bM; have sM := KEEP.out _ bM; have ZM := Lib.hid (HZ.out.below BM.out); obtain ⟨⟨r0, r1, r2, c0, c1x⟩, ⟨y0, y1⟩, zg⟩ := ZM.out; have BWM := Lib.hid (B.step BM.out); clear b bl hlit))
 all_goals
  go_wp2_with fail
  refine bodyPost_ret (v := .tuple #[.agg #[.int .i64 p, .slice a1 (putsL l [barM pt x, barM pt y]).length c1], .bool true]) (by simp [results, Tryz.results40, go_sem, zg, c0, c1x]) rfl ?_
  rw [HE.out]
  exact ⟨_, rfl, laid2 ob (by omega) (by omega) (by omega) BWM.out⟩

set_option maxHeartbeats 16000000 in
theorem implApp2 (W : World) (p : Int) (a : Option Addr) (cap : Nat) (l : List BarT) (h : BarsAt W a l.length l) (hs : l.length ≤ 1048576) (kd pt x y z : Int) (hg : isGraphB (p, l) = true) (hl21 : l.length ≤ 21) (k0 : (kd == 0) = false) (k1 : (kd == 1) = false) (k2 : (kd == 2) = true) :
  Calls Tryz.prog 40 #[.agg #[.int .i64 p, .slice a l.length cap], .agg #[.int .i64 kd, .int .i64 pt, .int .i64 x, .int .i64 y, .int .i64 z]] W (RetGB W (stepF (p, l) (kd, pt, x, y, z)).1 (stepF (p, l) (kd, pt, x, y, z)).2) := by
 have hcap := True.intro
 have hcm := True.intro
 have hwd := @Wd.cells
 have HGr : Hid (IsGraph W (.agg #[.int .i64 p, .slice a l.length cap]) (p, l)) := Lib.hid ⟨a, cap, rfl, h⟩
 have H1 := Lib.hid h
 clear h
 have hsz : szGraph (p, l) ≤ 1048576 := hs
 have hsz2 : szGraph (p, l) ≤ 1099511627776 := Nat.le_trans hsz (by decide)
 have B : Below W.heap.size W (W.alloc (.cells #[.int .i64 p, .slice a l.length cap] 26)) := (Below.refl _ _).alloc (Nat.le_refl _) _
 have BG : Hid (BoxGr (W.alloc (.cells #[.int .i64 p, .slice a l.length cap] 26)) W.heap.size p a l.length cap) := Lib.hid (BoxGr.at rfl)
 obtain ⟨hcap, hcm⟩ := And.intro hcap hcm
 have BS : Hid (BoxSt ((W.alloc (.cells #[.int .i64 p, .slice a l.length cap] 26)).alloc (.cells #[.int .i64 kd, .int .i64 pt, .int .i64 x, .int .i64 y, .int .i64 z] 57)) (W.heap.size + 1) kd pt x y z) := Lib.hid (BoxSt.at (by simp))
 have HZ : Hid (Zer2 (((W.alloc (.cells #[.int .i64 p, .slice a l.length cap] 26)).alloc (.cells #[.int .i64 kd, .int .i64 pt, .int .i64 x, .int .i64 y, .int .i64 z] 57)).alloc (.cells #[.int .i64 0, .slice none 0 0] 26)) (W.heap.size + 2)) := Lib.hid (by have := Zer2.at ((W.alloc (.cells #[.int .i64 p, .slice a l.length cap] 26)).alloc (.cells #[.int .i64 kd, .int .i64 pt, .int .i64 x, .int .i64 y, .int .i64 z] 57)) 26; rwa [World.size_alloc, World.size_alloc] at this)
 have ba := belAl (W.alloc (.cells #[.int .i64 p, .slice a l.length cap] 26)) (.cells #[.int .i64 kd, .int .i64 pt, .int .i64 x, .int .i64 y, .int .i64 z] 57)
 have bb := belAl ((W.alloc (.cells #[.int .i64 p, .slice a l.length cap] 26)).alloc (.cells #[.int .i64 kd, .int .i64 pt, .int .i64 x, .int .i64 y, .int .i64 z] 57)) (.cells #[.int .i64 0, .slice none 0 0] 26)
 have hz : W.heap.size + 3 ≤ (((W.alloc (.cells #[.int .i64 p, .slice a l.length cap] 26)).alloc (.cells #[.int .i64 kd, .int .i64 pt, .int .i64 x, .int .i64 y, .int .i64 z] 57)).alloc (.cells #[.int .i64 0, .slice none 0 0] 26)).heap.size := by simp
 replace B := (B.step ba).step bb
 replace BG := Lib.hid ((BG.out.below ba).below bb)
 replace BS := Lib.hid (BS.out.below bb)
 clear ba bb
 go_enter Tryz.func40, Tryz.ntmps40
 go_upto_region 1 with (fail)
 generalize (((W.alloc (.cells #[.int .i64 p, .slice a l.length cap] 26)).alloc (.cells #[.int .i64 kd, .int .i64 pt, .int .i64 x, .int .i64 y, .int .i64 z] 57)).alloc (.cells #[.int .i64 0, .slice none 0 0] 26)) = u at *
 obtain ⟨zBG, fBG0, fBG1⟩ := BG.out
 obtain ⟨zBS, fBS0, fBS1, fBS2, fBS3, fBS4⟩ := BS.out
 go_wp2_with fail
 clear zBG fBG0 fBG1 zBS fBS0 fBS1 fBS2 fBS3 fBS4
 refine (implIsGraph_at u p a cap l (H1.out.below B) (by omega)).mono ?_
 rintro e w1 ⟨rfl, b⟩
 have hz1 := b.size
 have hzu := hz
 replace B := B.step b
 replace BG := Lib.hid (BG.out.below b)
 replace BS := Lib.hid (BS.out.below b)
 replace HZ := Lib.hid (HZ.out.below b)
 clear b
 rw [hg]
 have HG := Lib.hid hg
 have hli : ¬ (l.length : Int) > 21 := by omega
 have hpb := (isGraphB_bd hg).1
 have HS : Hid (stepF (p, l) (kd, pt, x, y, z) = if cnd0 p l kd pt x y z then ((p, putsL l [barM x y]), true) else if cnd1 p l kd pt x y z then ((p, putsL l [barM pt x, barM pt y]), true) else if cnd2 p l kd pt x y z then ((p, putsL (cutG l (idxB l (barM x y)).toNat) [barM pt x, barM pt y, barM pt z]), true) else ((p, l), false)) := Lib.hid (by unfold stepF; rw [hg, decide_eq_true (show (p, l).2.length ≤ 21 from hl21)]; rfl)
 have hor := Lib.hid (isGraphB_ord hg)
 clear hg
 have e0 : cnd0 p l kd pt x y z = false := by unfold cnd0; rw [k0]; simp
 have e1 : cnd1 p l kd pt x y z = false := by unfold cnd1; rw [k1]; simp
 obtain ⟨wo, hwo⟩ : ∃ wo, wo = w1 := ⟨_, rfl⟩
 subst hwo
 have hgr := Lib.hid HG.out
 obtain ⟨zBG, fBG0, fBG1⟩ := BG.out
 obtain ⟨zBS, fBS0, fBS1, fBS2, fBS3, fBS4⟩ := BS.out
 go_wp2_with fail
 have HIX : Hid (∀ n1 : Wd wo, Calls Tryz.prog 95 #[.slice a l.length cap, .agg #[.int .i64 (min x y), .int .i64 (max x y)]] n1.w fun e w' => e = .returned (.int .i64 (idxB l (min x y, max x y))) ∧ Below n1.w.heap.size n1.w w') := Lib.hid fun n1 => indexB_at n1.w a l.length cap l (H1.out.below (B.step n1.h)) hs _ _
 refine wp_region_wd (by kernel_rfl) (by kernel_rfl) ?_
 repeat (go_big_quiet_step ((first | (go_at_call 93; exact Calls.wd_of (bar_any _ _ _)) | (go_at_call 95; exact Calls.wd_of (HIX.out _)))))
 refine wpQuiet_nil ?_
 intro n1
 clear zBG fBG0 fBG1 zBS fBS0 fBS1 fBS2 fBS3 fBS4
 have b := n1.h
 have hz1n := b.size
 clear HIX
 obtain ⟨w4, hw4⟩ : ∃ w4, w4 = n1.w := ⟨_, rfl⟩
 rw [← hw4] at b hz1n ⊢
 clear hw4
 replace B := B.step b
 replace BG := Lib.hid (BG.out.below b)
 replace BS := Lib.hid (BS.out.below b)
 replace HZ := Lib.hid (HZ.out.below b)
 clear b
 cases h8 : decide (0 ≤ idxB l (barM x y))
 ·skip
  have HE := Lib.hid (show stepF (p, l) (kd, pt, x, y, z) = ((p, l), false) by
   have en : cnd2 p l kd pt x y z = false := by unfold cnd2; rw [k2, h8]; simp
   rw [HS.out, e0, e1, en]; rfl)
  have h9 : ¬ (0 ≤ idxB l (min x y, max x y)) := of_decide_eq_false h8
  have h10 : decide (idxB l (min x y, max x y) ≥ 0) = false := h8
  clear h8
  generalize idxB l (min x y, max x y) = J at *
  obtain ⟨zBG, fBG0, fBG1⟩ := BG.out
  obtain ⟨zBS, fBS0, fBS1, fBS2, fBS3, fBS4⟩ := BS.out
  go_wp2_with fail
  clear zBG fBG0 fBG1 zBS fBS0 fBS1 fBS2 fBS3 fBS4
  refine (implCpG_at _ p a cap l.length l (H1.out.below B) hs).mono ?_
  rintro e wc1 ⟨v1, rfl, o1, b⟩
  obtain ⟨vb, ⟨a1, c1, rfl, rfl⟩, ob⟩ := o1
  dsimp only at ob
  have hzc := b.size
  replace B := B.step b
  replace BG := Lib.hid (BG.out.below b)
  replace BS := Lib.hid (BS.out.below b)
  replace HZ := Lib.hid (HZ.out.below b)
  obtain ⟨⟨r0, r1, r2, c0, c1x⟩, ⟨y0, y1⟩, zg⟩ := HZ.out
  go_wp2_with fail
  refine bodyPost_ret (v := .tuple #[.agg #[.int .i64 p, .slice a1 l.length c1], .bool false]) (by simp [results, Tryz.results40, go_sem, zg, c0, c1x]) rfl ?_
  rw [HE.out]
  exact ⟨_, rfl, laid2 ob (by omega) (by omega) (by omega) B⟩
 have hix : 0 ≤ idxB l (barM x y) := of_decide_eq_true h8
 obtain ⟨J, hJ⟩ := Int.eq_ofNat_of_zero_le hix
 have hJl : J < l.length := by have := (idxB_lt l (barM x y)).2; omega
 have hJ2 : idxB l (min x y, max x y) = (J : Int) := hJ
 have HJ : Hid ((idxB l (barM x y)).toNat = J) := Lib.hid (by rw [hJ]; rfl)
 have hJ0 : (J : Int) ≥ 0 := by omega
 have H8 := Lib.hid h8
 have HJ9 := Lib.hid hJ
 generalize hidx : idxB l (min x y, max x y) = JJ at *
 subst hJ2
 clear hix h8 hJ
 obtain ⟨wo, hwo⟩ : ∃ wo, wo = w4 := ⟨_, rfl⟩
 subst hwo
 have bl := belAl wo (.cells #[.int .i64 pt, .int .i64 x, .int .i64 y, .int .i64 z] 3)
 have HI : Hid (IntsAt (wo.alloc (.cells #[.int .i64 pt, .int .i64 x, .int .i64 y, .int .i64 z] 3)) (some ⟨wo.heap.size, 0, none⟩) 4 [pt, x, y, z]) := Lib.hid (litInts [pt, x, y, z] rfl (by decide))
 obtain ⟨zBG, fBG0, fBG1⟩ := BG.out
 obtain ⟨zBS, fBS0, fBS1, fBS2, fBS3, fBS4⟩ := BS.out
 go_wp2_with fail
 clear zBG fBG0 fBG1 zBS fBS0 fBS1 fBS2 fBS3 fBS4
 refine (areDif_at _ p a cap l (H1.out.below (B.step bl)) hs (some ⟨wo.heap.size, 0, none⟩) 4 [pt, x, y, z] HI.out (by decide) hpb).mono ?_
 rintro e w5 ⟨rfl, b⟩
 have b5 := bl.step b
 have hz5 := b5.size
 clear b bl HI
 replace B := B.step b5
 replace BG := Lib.hid (BG.out.below b5)
 replace BS := Lib.hid (BS.out.below b5)
 replace HZ := Lib.hid (HZ.out.below b5)
 cases hd : difB p [pt, x, y, z]
 ·skip
  have HE := Lib.hid (show stepF (p, l) (kd, pt, x, y, z) = ((p, l), false) by
   have en : cnd2 p l kd pt x y z = false := by unfold cnd2; rw [k2, hd]; simp
   rw [HS.out, e0, e1, en]; rfl)
  obtain ⟨zBG, fBG0, fBG1⟩ := BG.out
  obtain ⟨zBS, fBS0, fBS1, fBS2, fBS3, fBS4⟩ := BS.out
  go_wp2_with fail
  clear zBG fBG0 fBG1 zBS fBS0 fBS1 fBS2 fBS3 fBS4
  refine (implCpG_at _ p a cap l.length l (H1.out.below B) hs).mono ?_
  rintro e wc1 ⟨v1, rfl, o1, b⟩
  obtain ⟨vb, ⟨a1, c1, rfl, rfl⟩, ob⟩ := o1
  dsimp only at ob
  have hzc := b.size
  replace B := B.step b
  replace BG := Lib.hid (BG.out.below b)
  replace BS := Lib.hid (BS.out.below b)
  replace HZ := Lib.hid (HZ.out.below b)
  obtain ⟨⟨r0, r1, r2, c0, c1x⟩, ⟨y0, y1⟩, zg⟩ := HZ.out
  go_wp2_with fail
  refine bodyPost_ret (v := .tuple #[.agg #[.int .i64 p, .slice a1 l.length c1], .bool false]) (by simp [results, Tryz.results40, go_sem, zg, c0, c1x]) rfl ?_
  rw [HE.out]
  exact ⟨_, rfl, laid2 ob (by omega) (by omega) (by omega) B⟩
 obtain ⟨zBG, fBG0, fBG1⟩ := BG.out
 obtain ⟨zBS, fBS0, fBS1, fBS2, fBS3, fBS4⟩ := BS.out
 go_wp2_with fail
 clear zBG fBG0 fBG1 zBS fBS0 fBS1 fBS2 fBS3 fBS4
 refine (implDeg_at _ p a cap l (H1.out.below B) hs pt).mono ?_
 rintro e w6 ⟨rfl, b⟩
 have hz6 := b.size
 replace B := B.step b
 replace BG := Lib.hid (BG.out.below b)
 replace BS := Lib.hid (BS.out.below b)
 replace HZ := Lib.hid (HZ.out.below b)
 clear b
 have hq6 : 0 ≤ degB l pt := (degTo_bd l pt l.length).1
 cases h5 : decide (0 < degB l pt)
 rotate_left
 ·skip
  have h11 := of_decide_eq_true h5
  have h12 : (degB l pt == 0) = false := by rw [beq_eq_false_iff_ne]; omega
  have HE := Lib.hid (show stepF (p, l) (kd, pt, x, y, z) = ((p, l), false) by
   have en : cnd2 p l kd pt x y z = false := by unfold cnd2; rw [k2, hd, h5]; simp
   rw [HS.out, e0, e1, en]; rfl)
  generalize degB l pt = D at *
  obtain ⟨zBG, fBG0, fBG1⟩ := BG.out
  obtain ⟨zBS, fBS0, fBS1, fBS2, fBS3, fBS4⟩ := BS.out
  go_wp2_with fail
  clear zBG fBG0 fBG1 zBS fBS0 fBS1 fBS2 fBS3 fBS4
  refine (implCpG_at _ p a cap l.length l (H1.out.below B) hs).mono ?_
  rintro e wc1 ⟨v1, rfl, o1, b⟩
  obtain ⟨vb, ⟨a1, c1, rfl, rfl⟩, ob⟩ := o1
  dsimp only at ob
  have hzc := b.size
  replace B := B.step b
  replace BG := Lib.hid (BG.out.below b)
  replace BS := Lib.hid (BS.out.below b)
  replace HZ := Lib.hid (HZ.out.below b)
  obtain ⟨⟨r0, r1, r2, c0, c1x⟩, ⟨y0, y1⟩, zg⟩ := HZ.out
  go_wp2_with fail
  refine bodyPost_ret (v := .tuple #[.agg #[.int .i64 p, .slice a1 l.length c1], .bool false]) (by simp [results, Tryz.results40, go_sem, zg, c0, c1x]) rfl ?_
  rw [HE.out]
  exact ⟨_, rfl, laid2 ob (by omega) (by omega) (by omega) B⟩
 have gh5 := of_decide_eq_false h5
 have qh5 : (degB l pt == 0) = true := by rw [beq_iff_eq]; omega
 obtain ⟨zBG, fBG0, fBG1⟩ := BG.out
 obtain ⟨zBS, fBS0, fBS1, fBS2, fBS3, fBS4⟩ := BS.out
 go_wp2_with fail
 clear zBG fBG0 fBG1 zBS fBS0 fBS1 fBS2 fBS3 fBS4
 refine (implDeg_at _ p a cap l (H1.out.below B) hs z).mono ?_
 rintro e w7 ⟨rfl, b⟩
 have hz7 := b.size
 replace B := B.step b
 replace BG := Lib.hid (BG.out.below b)
 replace BS := Lib.hid (BS.out.below b)
 replace HZ := Lib.hid (HZ.out.below b)
 clear b
 have hq7 : 0 ≤ degB l z := (degTo_bd l z l.length).1
 cases h6 : decide (0 < degB l z)
 ·skip
  have h11 := of_decide_eq_false h6
  have h12 : ¬ (degB l z > 0) := h11
  have HE := Lib.hid (show stepF (p, l) (kd, pt, x, y, z) = ((p, l), false) by
   have en : cnd2 p l kd pt x y z = false := by unfold cnd2; rw [k2, hd, h5, h6]; simp
   rw [HS.out, e0, e1, en]; rfl)
  generalize degB l z = D at *
  obtain ⟨zBG, fBG0, fBG1⟩ := BG.out
  obtain ⟨zBS, fBS0, fBS1, fBS2, fBS3, fBS4⟩ := BS.out
  go_wp2_with fail
  clear zBG fBG0 fBG1 zBS fBS0 fBS1 fBS2 fBS3 fBS4
  refine (implCpG_at _ p a cap l.length l (H1.out.below B) hs).mono ?_
  rintro e wc1 ⟨v1, rfl, o1, b⟩
  obtain ⟨vb, ⟨a1, c1, rfl, rfl⟩, ob⟩ := o1
  dsimp only at ob
  have hzc := b.size
  replace B := B.step b
  replace BG := Lib.hid (BG.out.below b)
  replace BS := Lib.hid (BS.out.below b)
  replace HZ := Lib.hid (HZ.out.below b)
  obtain ⟨⟨r0, r1, r2, c0, c1x⟩, ⟨y0, y1⟩, zg⟩ := HZ.out
  go_wp2_with fail
  refine bodyPost_ret (v := .tuple #[.agg #[.int .i64 p, .slice a1 l.length c1], .bool false]) (by simp [results, Tryz.results40, go_sem, zg, c0, c1x]) rfl ?_
  rw [HE.out]
  exact ⟨_, rfl, laid2 ob (by omega) (by omega) (by omega) B⟩
 have gh6 := of_decide_eq_true h6
 have qh6 : degB l z > 0 := gh6
 have HE := Lib.hid (show stepF (p, l) (kd, pt, x, y, z) = ((p, putsL (cutG l J) [barM pt x, barM pt y, barM pt z]), true) by
  have en : cnd2 p l kd pt x y z = true := by unfold cnd2; rw [k2, hd, h5, h6, H8.out]; rfl
  rw [HS.out, e0, e1, en, HJ.out]; rfl)
 obtain ⟨zBG, fBG0, fBG1⟩ := BG.out
 obtain ⟨zBS, fBS0, fBS1, fBS2, fBS3, fBS4⟩ := BS.out
 go_wp2_with fail
 clear zBG fBG0 fBG1 zBS fBS0 fBS1 fBS2 fBS3 fBS4
 refine (implRem_at _ p a cap l (H1.out.below B) hs HG.out J hJl).mono ?_
 rintro e wr ⟨v2, rfl, o2, b⟩
 obtain ⟨vb2, ⟨a2, c2, rfl, rfl⟩, ob2⟩ := o2
 dsimp only at ob2
 have hzr := b.size
 replace B := B.step b
 replace BG := Lib.hid (BG.out.below b)
 replace BS := Lib.hid (BS.out.below b)
 replace HZ := Lib.hid (HZ.out.below b)
 clear b
 have hn2 : (cutG l J).length ≤ 1048576 := by rw [cutG_length hJl]; omega
 have HOR := Lib.hid (cutG_ord J hor.out)
 have bx := belAl wr (.cells #[.int .i64 p, .slice a2 (cutG l J).length c2] 26)
 have BX : Hid (BoxGr (wr.alloc (.cells #[.int .i64 p, .slice a2 (cutG l J).length c2] 26)) wr.heap.size p a2 (cutG l J).length c2) := Lib.hid (BoxGr.at rfl)
 have H2 : Hid (BarsAt (wr.alloc (.cells #[.int .i64 p, .slice a2 (cutG l J).length c2] 26)) a2 (cutG l J).length (cutG l J)) := Lib.hid (by obtain ⟨a9, c9, e9, i9⟩ := ob2.form; simp at e9; obtain ⟨rfl, rfl⟩ := e9; exact i9.below bx)
 replace B := B.step bx
 replace BG := Lib.hid (BG.out.below bx)
 replace BS := Lib.hid (BS.out.below bx)
 replace HZ := Lib.hid (HZ.out.below bx)
 have hzx := bx.size
 clear bx ob2
 obtain ⟨zBG, fBG0, fBG1⟩ := BG.out
 obtain ⟨zBS, fBS0, fBS1, fBS2, fBS3, fBS4⟩ := BS.out
 obtain ⟨zBX, fBX0, fBX1⟩ := BX.out
 go_wp2_with fail
 clear zBG fBG0 fBG1 zBS fBS0 fBS1 fBS2 fBS3 fBS4
 clear zBX fBX0 fBX1
 generalize (wr.alloc (.cells #[.int .i64 p, .slice a2 (cutG l J).length c2] 26)) = wx at *
 have hgw : W.heap.size + 3 ≤ wr.heap.size := by omega
 obtain ⟨w9, hw9⟩ : ∃ w9, w9 = wx := ⟨_, rfl⟩
 subst hw9
 have KEEP := Lib.hid (show ∀ w', Below w9.heap.size w9 w' → w'.cell? ⟨wr.heap.size, 0, none⟩ = some (.int .i64 p) ∧ w'.cell? ⟨wr.heap.size, 1, none⟩ = some (.slice a2 (cutG l J).length c2) ∧ w'.cell? ⟨W.heap.size + 1, 1, none⟩ = some (.int .i64 pt) ∧ w'.cell? ⟨W.heap.size + 1, 2, none⟩ = some (.int .i64 x) ∧ w'.cell? ⟨W.heap.size + 1, 3, none⟩ = some (.int .i64 y) ∧ w'.cell? ⟨W.heap.size + 1, 4, none⟩ = some (.int .i64 z) from fun w' hb => ⟨(BX.out.below hb).c0, (BX.out.below hb).c1, (BS.out.below hb).2.2.1, (BS.out.below hb).2.2.2.1, (BS.out.below hb).2.2.2.2.1, (BS.out.below hb).2.2.2.2.2⟩)
 have BB : Below w9.heap.size w9 w9.drew := (Below.refl _ _).drew
 have hbz : W.heap.size + 3 ≤ w9.heap.size := by omega
 have hgz : wr.heap.size < w9.heap.size := BX.out.1
 have tk1 := True.intro
 have tk2 := True.intro
 have tk3 := True.intro
 have tk4 := True.intro
 go_region_held3 (fun w' => w'.cell? ⟨wr.heap.size, 0, none⟩ = some (.int .i64 p) ∧ w'.cell? ⟨wr.heap.size, 1, none⟩ = some (.slice a2 (cutG l J).length c2) ∧ w'.cell? ⟨W.heap.size + 1, 1, none⟩ = some (.int .i64 pt) ∧ w'.cell? ⟨W.heap.size + 1, 2, none⟩ = some (.int .i64 x) ∧ w'.cell? ⟨W.heap.size + 1, 3, none⟩ = some (.int .i64 y) ∧ w'.cell? ⟨W.heap.size + 1, 4, none⟩ = some (.int .i64 z))
  (first | (with_reducible exact ⟨cs3 sM.1 (by omega), cs3 sM.2.1 (by omega), cs3 sM.2.2.1 (by omega), cs3 sM.2.2.2.1 (by omega), cs3 sM.2.2.2.2.1 (by omega), cs3 sM.2.2.2.2.2 (by omega)⟩) | (exact KEEP.out _ (by repeat' (first | (with_reducible assumption) | (with_reducible exact Below.refl _ _) | (with_reducible refine Below.drew ?_) | (with_reducible refine Below.alloc ?_ (by first | omega | (simp; done) | (simp; omega)) _) | (with_reducible refine Below.setCell ?_ (by first | omega | (simp; done) | (simp; omega)) _)))))
  (first
    | (go_at_call 93; clear tk1; refine (bar_any _ _ _).mono ?_; rintro e wb ⟨rfl, b⟩; replace BB := BB.step b; have hzb := BB.size; clear b)
    | (go_at_call 93; clear tk2; refine (bar_any _ _ _).mono ?_; rintro e wb ⟨rfl, b⟩; replace BB := BB.step b; have hzb := BB.size; clear b)
    | (go_at_call 93; clear tk3; refine (bar_any _ _ _).mono ?_; rintro e wb ⟨rfl, b⟩; replace BB := BB.step b; have hzb := BB.size; clear b)
    | (go_at_call 92; clear tk4; have hlit := litB3 wb (min pt x) (max pt x) (min pt y) (max pt y) (min pt z) (max pt z); have bl := belAl wb (.cells #[.int .i64 (min pt x), .int .i64 (max pt x), .int .i64 (min pt y), .int .i64 (max pt y), .int .i64 (min pt z), .int .i64 (max pt z)] 70); refine (withBars_at _ p a2 c2 (cutG l J) (H2.out.below (BB.step bl)) hn2 (some ⟨wb.heap.size, 0, none⟩) 3 3 [barM pt x, barM pt y, barM pt z] hlit (by decide)).mono ?_; rintro e wM ⟨v1, rfl, o1, b⟩; rw [sortB_puts _ HOR.out] at o1; obtain ⟨vb, ⟨a1, c1, rfl, rfl⟩, ob⟩ := o1; dsimp only at ob; have hzl := bl.size; have hzM := b.size; have bM : Below w9.heap.size w9 wM := (BB.step bl).step b; have BM := Lib.hid bM; have sM := KEEP.out _ bM; have ZM := Lib.hid (HZ.out.below BM.out); obtain ⟨⟨r0, r1, r2, c0, c1x⟩, ⟨y0, y1⟩, zg⟩ := ZM.out; have BWM := Lib.hid (B.step BM.out); clear b bl hlit))
 all_goals
  go_wp2_with fail
  refine bodyPost_ret (v := .tuple #[.agg #[.int .i64 p, .slice a1 (putsL (cutG l J) [barM pt x, barM pt y, barM pt z]).length c1], .bool true]) (by simp [results, Tryz.results40, go_sem, zg, c0, c1x]) rfl ?_
  rw [HE.out]
  exact ⟨_, rfl, laid2 ob (by omega) (by omega) (by omega) BWM.out⟩
end Go.Proofs.YtfbmpkdjhhcnpaaGreat

