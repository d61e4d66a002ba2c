/- ApplyStep of the reference, a step of the third kind (written by gen_sta.py). No condition but sizes. -/
import Derived.Test.YtfbmpkdjhhcnpaaGreatSnQ01
import Derived.Lib.MinMax
import Derived.Deep.RegionHeld3
import Derived.Deep.CutRange
import Derived.OwnWalk
namespace Go.Proofs.YtfbmpkdjhhcnpaaGreat
open Go.RowKit
set_option maxRecDepth 100000
set_option linter.unusedVariables false
set_option linter.unusedSimpArgs false

set_option maxHeartbeats 16000000 in
theorem specApp2 (W : World) (p : Int) (a : Option Addr) (cap : Nat) (l : List BarT) (h : BarsAt W a l.length l) (hs : l.length ≤ 1048576) (hcap : l.length ≤ cap) (hcm : cap ≤ 9223372036854775807) (kd pt x y z : Int) (hg : isGraphB (p, l) = true) (hl21 : l.length ≤ 21) (k0 : (kd == 0) = false) (k1 : (kd == 1) = false) (k2 : (kd == 2) = true) :
  Calls Tryz.prog 41 #[.agg #[.int .i64 p, .slice a l.length cap], .agg #[.int .i64 kd, .int .i64 pt, .int .i64 x, .int .i64 y, .int .i64 z]] W (RetGB W (stepF (p, l) (kd, pt, x, y, z)).1 (stepF (p, l) (kd, pt, x, y, z)).2) := by
 have hwd := @Wd.cells
 have HGr : Hid (IsGraph W (.agg #[.int .i64 p, .slice a l.length cap]) (p, l)) := Lib.hid ⟨a, cap, rfl, h⟩
 have H1 := Lib.hid h
 clear h
 have hsz : szGraph (p, l) ≤ 1048576 := hs
 have hsz2 : szGraph (p, l) ≤ 1099511627776 := Nat.le_trans hsz (by decide)
 have B : Below W.heap.size W (W.alloc (.cells #[.int .i64 p, .slice a l.length cap] 26)) := (Below.refl _ _).alloc (Nat.le_refl _) _
 have BG : Hid (BoxGr (W.alloc (.cells #[.int .i64 p, .slice a l.length cap] 26)) W.heap.size p a l.length cap) := Lib.hid (BoxGr.at rfl)
 obtain ⟨hcap, hcm⟩ := And.intro hcap hcm
 have BS : Hid (BoxSt ((W.alloc (.cells #[.int .i64 p, .slice a l.length cap] 26)).alloc (.cells #[.int .i64 kd, .int .i64 pt, .int .i64 x, .int .i64 y, .int .i64 z] 57)) (W.heap.size + 1) kd pt x y z) := Lib.hid (BoxSt.at (by simp))
 have HZ : Hid (Zer2 (((W.alloc (.cells #[.int .i64 p, .slice a l.length cap] 26)).alloc (.cells #[.int .i64 kd, .int .i64 pt, .int .i64 x, .int .i64 y, .int .i64 z] 57)).alloc (.cells #[.int .i64 0, .slice none 0 0] 26)) (W.heap.size + 2)) := Lib.hid (by have := Zer2.at ((W.alloc (.cells #[.int .i64 p, .slice a l.length cap] 26)).alloc (.cells #[.int .i64 kd, .int .i64 pt, .int .i64 x, .int .i64 y, .int .i64 z] 57)) 26; rwa [World.size_alloc, World.size_alloc] at this)
 have ba := belAl (W.alloc (.cells #[.int .i64 p, .slice a l.length cap] 26)) (.cells #[.int .i64 kd, .int .i64 pt, .int .i64 x, .int .i64 y, .int .i64 z] 57)
 have bb := belAl ((W.alloc (.cells #[.int .i64 p, .slice a l.length cap] 26)).alloc (.cells #[.int .i64 kd, .int .i64 pt, .int .i64 x, .int .i64 y, .int .i64 z] 57)) (.cells #[.int .i64 0, .slice none 0 0] 26)
 have hz : W.heap.size + 3 ≤ (((W.alloc (.cells #[.int .i64 p, .slice a l.length cap] 26)).alloc (.cells #[.int .i64 kd, .int .i64 pt, .int .i64 x, .int .i64 y, .int .i64 z] 57)).alloc (.cells #[.int .i64 0, .slice none 0 0] 26)).heap.size := by simp
 replace B := (B.step ba).step bb
 replace BG := Lib.hid ((BG.out.below ba).below bb)
 replace BS := Lib.hid (BS.out.below bb)
 clear ba bb
 go_enter Tryz.func41, Tryz.ntmps41
 go_upto_region 1 with (fail)
 generalize (((W.alloc (.cells #[.int .i64 p, .slice a l.length cap] 26)).alloc (.cells #[.int .i64 kd, .int .i64 pt, .int .i64 x, .int .i64 y, .int .i64 z] 57)).alloc (.cells #[.int .i64 0, .slice none 0 0] 26)) = u at *
 obtain ⟨zBG, fBG0, fBG1⟩ := BG.out
 obtain ⟨zBS, fBS0, fBS1, fBS2, fBS3, fBS4⟩ := BS.out
 go_wp2_with fail
 clear zBG fBG0 fBG1 zBS fBS0 fBS1 fBS2 fBS3 fBS4
 refine (specIsGraph_at u p a cap l (H1.out.below B) (by omega)).mono ?_
 rintro e w1 ⟨rfl, b⟩
 have hz1 := b.size
 have hzu := hz
 replace B := B.step b
 replace BG := Lib.hid (BG.out.below b)
 replace BS := Lib.hid (BS.out.below b)
 replace HZ := Lib.hid (HZ.out.below b)
 clear b
 rw [hg]
 have HG := Lib.hid hg
 have hli : ¬ (l.length : Int) > 21 := by omega
 have hpb := (isGraphB_bd hg).1
 have HS : Hid (stepF (p, l) (kd, pt, x, y, z) = if cnd0 p l kd pt x y z then ((p, putsL l [barM x y]), true) else if cnd1 p l kd pt x y z then ((p, putsL l [barM pt x, barM pt y]), true) else if cnd2 p l kd pt x y z then ((p, putsL (cutG l (idxB l (barM x y)).toNat) [barM pt x, barM pt y, barM pt z]), true) else ((p, l), false)) := Lib.hid (by unfold stepF; rw [hg, decide_eq_true (show (p, l).2.length ≤ 21 from hl21)]; rfl)
 have hor := Lib.hid (isGraphB_ord hg)
 clear hg
 have e0 : cnd0 p l kd pt x y z = false := by unfold cnd0; rw [k0]; simp
 have e1 : cnd1 p l kd pt x y z = false := by unfold cnd1; rw [k1]; simp
 obtain ⟨wo, hwo⟩ : ∃ wo, wo = w1 := ⟨_, rfl⟩
 subst hwo
 have bl := belAl wo (.cells #[.int .i64 pt, .int .i64 x, .int .i64 y, .int .i64 z] 3)
 have HI : Hid (IntsAt (wo.alloc (.cells #[.int .i64 pt, .int .i64 x, .int .i64 y, .int .i64 z] 3)) (some ⟨wo.heap.size, 0, none⟩) 4 [pt, x, y, z]) := Lib.hid (litInts [pt, x, y, z] rfl (by decide))
 obtain ⟨zBG, fBG0, fBG1⟩ := BG.out
 obtain ⟨zBS, fBS0, fBS1, fBS2, fBS3, fBS4⟩ := BS.out
 go_wp2_with fail
 clear zBG fBG0 fBG1 zBS fBS0 fBS1 fBS2 fBS3 fBS4
 refine (l7Points_at _ p a cap l (H1.out.below (B.step bl)) hs (some ⟨wo.heap.size, 0, none⟩) 4 [pt, x, y, z] HI.out (by decide) hpb).mono ?_
 rintro e w5 ⟨rfl, b⟩
 have b5 := bl.step b
 have hz5 := b5.size
 clear b bl HI
 replace B := B.step b5
 replace BG := Lib.hid (BG.out.below b5)
 replace BS := Lib.hid (BS.out.below b5)
 replace HZ := Lib.hid (HZ.out.below b5)
 cases hd : difB p [pt, x, y, z]
 ·skip
  have HE := Lib.hid (show stepF (p, l) (kd, pt, x, y, z) = ((p, l), false) by rw [HS.out, e0, e1, show cnd2 p l kd pt x y z = false by unfold cnd2; rw [k2, hd]; simp]; rfl)
  obtain ⟨zBG, fBG0, fBG1⟩ := BG.out
  obtain ⟨zBS, fBS0, fBS1, fBS2, fBS3, fBS4⟩ := BS.out
  go_wp2_with fail
  clear zBG fBG0 fBG1 zBS fBS0 fBS1 fBS2 fBS3 fBS4
  refine (specCpG_at _ p a cap l.length l (H1.out.below B) hs).mono ?_
  rintro e wc1 ⟨v1, rfl, o1, b⟩
  obtain ⟨vb, ⟨a1, c1, rfl, rfl⟩, ob⟩ := o1
  dsimp only at ob
  have hzc := b.size
  replace B := B.step b
  replace BG := Lib.hid (BG.out.below b)
  replace BS := Lib.hid (BS.out.below b)
  replace HZ := Lib.hid (HZ.out.below b)
  obtain ⟨⟨r0, r1, r2, c0, c1x⟩, ⟨y0, y1⟩, zg⟩ := HZ.out
  go_wp2_with fail
  refine bodyPost_ret (v := .tuple #[.agg #[.int .i64 p, .slice a1 l.length c1], .bool false]) (by simp [results, Tryz.results41, go_sem, zg, c0, c1x]) rfl ?_
  rw [HE.out]
  exact ⟨_, rfl, laid2 ob (by omega) (by omega) (by omega) B⟩
 obtain ⟨zBG, fBG0, fBG1⟩ := BG.out
 obtain ⟨zBS, fBS0, fBS1, fBS2, fBS3, fBS4⟩ := BS.out
 go_wp2_with fail
 clear zBG fBG0 fBG1 zBS fBS0 fBS1 fBS2 fBS3 fBS4
 refine (used_any _ p a cap l (H1.out.below B) hs pt).mono ?_
 rintro e w6 ⟨rfl, b⟩
 have hz6 := b.size
 replace B := B.step b
 replace BG := Lib.hid (BG.out.below b)
 replace BS := Lib.hid (BS.out.below b)
 replace HZ := Lib.hid (HZ.out.below b)
 clear b
 cases h5 : decide (0 < degB l pt)
 rotate_left
 ·skip
  have HE := Lib.hid (show stepF (p, l) (kd, pt, x, y, z) = ((p, l), false) by rw [HS.out, e0, e1, show cnd2 p l kd pt x y z = false by unfold cnd2; rw [k2, hd, h5]; simp]; rfl)
  obtain ⟨zBG, fBG0, fBG1⟩ := BG.out
  obtain ⟨zBS, fBS0, fBS1, fBS2, fBS3, fBS4⟩ := BS.out
  go_wp2_with fail
  clear zBG fBG0 fBG1 zBS fBS0 fBS1 fBS2 fBS3 fBS4
  refine (specCpG_at _ p a cap l.length l (H1.out.below B) hs).mono ?_
  rintro e wc1 ⟨v1, rfl, o1, b⟩
  obtain ⟨vb, ⟨a1, c1, rfl, rfl⟩, ob⟩ := o1
  dsimp only at ob
  have hzc := b.size
  replace B := B.step b
  replace BG := Lib.hid (BG.out.below b)
  replace BS := Lib.hid (BS.out.below b)
  replace HZ := Lib.hid (HZ.out.below b)
  obtain ⟨⟨r0, r1, r2, c0, c1x⟩, ⟨y0, y1⟩, zg⟩ := HZ.out
  go_wp2_with fail
  refine bodyPost_ret (v := .tuple #[.agg #[.int .i64 p, .slice a1 l.length c1], .bool false]) (by simp [results, Tryz.results41, go_sem, zg, c0, c1x]) rfl ?_
  rw [HE.out]
  exact ⟨_, rfl, laid2 ob (by omega) (by omega) (by omega) B⟩
 obtain ⟨zBG, fBG0, fBG1⟩ := BG.out
 obtain ⟨zBS, fBS0, fBS1, fBS2, fBS3, fBS4⟩ := BS.out
 go_wp2_with fail
 clear zBG fBG0 fBG1 zBS fBS0 fBS1 fBS2 fBS3 fBS4
 refine (used_any _ p a cap l (H1.out.below B) hs z).mono ?_
 rintro e w7 ⟨rfl, b⟩
 have hz7 := b.size
 replace B := B.step b
 replace BG := Lib.hid (BG.out.below b)
 replace BS := Lib.hid (BS.out.below b)
 replace HZ := Lib.hid (HZ.out.below b)
 clear b
 cases h6 : decide (0 < degB l z)
 ·skip
  have HE := Lib.hid (show stepF (p, l) (kd, pt, x, y, z) = ((p, l), false) by rw [HS.out, e0, e1, show cnd2 p l kd pt x y z = false by unfold cnd2; rw [k2, hd, h5, h6]; simp]; rfl)
  obtain ⟨zBG, fBG0, fBG1⟩ := BG.out
  obtain ⟨zBS, fBS0, fBS1, fBS2, fBS3, fBS4⟩ := BS.out
  go_wp2_with fail
  clear zBG fBG0 fBG1 zBS fBS0 fBS1 fBS2 fBS3 fBS4
  refine (specCpG_at _ p a cap l.length l (H1.out.below B) hs).mono ?_
  rintro e wc1 ⟨v1, rfl, o1, b⟩
  obtain ⟨vb, ⟨a1, c1, rfl, rfl⟩, ob⟩ := o1
  dsimp only at ob
  have hzc := b.size
  replace B := B.step b
  replace BG := Lib.hid (BG.out.below b)
  replace BS := Lib.hid (BS.out.below b)
  replace HZ := Lib.hid (HZ.out.below b)
  obtain ⟨⟨r0, r1, r2, c0, c1x⟩, ⟨y0, y1⟩, zg⟩ := HZ.out
  go_wp2_with fail
  refine bodyPost_ret (v := .tuple #[.agg #[.int .i64 p, .slice a1 l.length c1], .bool false]) (by simp [results, Tryz.results41, go_sem, zg, c0, c1x]) rfl ?_
  rw [HE.out]
  exact ⟨_, rfl, laid2 ob (by omega) (by omega) (by omega) B⟩
 obtain ⟨zBG, fBG0, fBG1⟩ := BG.out
 obtain ⟨zBS, fBS0, fBS1, fBS2, fBS3, fBS4⟩ := BS.out
 go_wp2_with fail
 clear zBG fBG0 fBG1 zBS fBS0 fBS1 fBS2 fBS3 fBS4
 refine (l7At_at _ p a cap l (H1.out.below B) hs x y).mono ?_
 rintro e w4 ⟨rfl, b⟩
 have hz4 := b.size
 replace B := B.step b
 replace BG := Lib.hid (BG.out.below b)
 replace BS := Lib.hid (BS.out.below b)
 replace HZ := Lib.hid (HZ.out.below b)
 clear b
 cases h8 : decide (0 ≤ idxB l (barM x y))
 ·skip
  have HE := Lib.hid (show stepF (p, l) (kd, pt, x, y, z) = ((p, l), false) by rw [HS.out, e0, e1, show cnd2 p l kd pt x y z = false by unfold cnd2; rw [k2, hd, h5, h6, h8]; simp]; rfl)
  have h9 : ¬ (0 ≤ idxB l (min x y, max x y)) := of_decide_eq_false h8
  have h10 : decide (idxB l (min x y, max x y) ≥ 0) = false := h8
  clear h8
  generalize idxB l (min x y, max x y) = J at *
  obtain ⟨zBG, fBG0, fBG1⟩ := BG.out
  obtain ⟨zBS, fBS0, fBS1, fBS2, fBS3, fBS4⟩ := BS.out
  go_wp2_with fail
  clear zBG fBG0 fBG1 zBS fBS0 fBS1 fBS2 fBS3 fBS4
  refine (specCpG_at _ p a cap l.length l (H1.out.below B) hs).mono ?_
  rintro e wc1 ⟨v1, rfl, o1, b⟩
  obtain ⟨vb, ⟨a1, c1, rfl, rfl⟩, ob⟩ := o1
  dsimp only at ob
  have hzc := b.size
  replace B := B.step b
  replace BG := Lib.hid (BG.out.below b)
  replace BS := Lib.hid (BS.out.below b)
  replace HZ := Lib.hid (HZ.out.below b)
  obtain ⟨⟨r0, r1, r2, c0, c1x⟩, ⟨y0, y1⟩, zg⟩ := HZ.out
  go_wp2_with fail
  refine bodyPost_ret (v := .tuple #[.agg #[.int .i64 p, .slice a1 l.length c1], .bool false]) (by simp [results, Tryz.results41, go_sem, zg, c0, c1x]) rfl ?_
  rw [HE.out]
  exact ⟨_, rfl, laid2 ob (by omega) (by omega) (by omega) B⟩
 have HE := Lib.hid (show stepF (p, l) (kd, pt, x, y, z) = ((p, putsL (cutG l (idxB l (barM x y)).toNat) [barM pt x, barM pt y, barM pt z]), true) by rw [HS.out, e0, e1, show cnd2 p l kd pt x y z = true by unfold cnd2; rw [k2, hd, h5, h6, h8]; rfl]; rfl)
 have hix : 0 ≤ idxB l (barM x y) := of_decide_eq_true h8
 obtain ⟨J, hJ⟩ := Int.eq_ofNat_of_zero_le hix
 have hJl : J < l.length := by have := (idxB_lt l (barM x y)).2; omega
 have hJ2 : idxB l (min x y, max x y) = (J : Int) := hJ
 have HJ : Hid ((idxB l (barM x y)).toNat = J) := Lib.hid (by rw [hJ]; rfl)
 rw [HJ.out] at HE
 have KEEP := Lib.hid (show ∀ w', Below w4.heap.size w4 w' → w'.cell? ⟨W.heap.size, 0, none⟩ = some (.int .i64 p) ∧ w'.cell? ⟨W.heap.size, 1, none⟩ = some (.slice a l.length cap) ∧ w'.cell? ⟨W.heap.size + 1, 2, none⟩ = some (.int .i64 x) ∧ w'.cell? ⟨W.heap.size + 1, 3, none⟩ = some (.int .i64 y) from fun w' hb => ⟨(BG.out.below hb).c0, (BG.out.below hb).c1, (BS.out.below hb).2.2.2.1, (BS.out.below hb).2.2.2.2.1⟩)
 have BB : Below w4.heap.size w4 w4.drew := (Below.refl _ _).drew
 have hbz : W.heap.size + 3 ≤ w4.heap.size := by omega
 have HAT : Hid (∀ w9, Below w4.heap.size w4 w9 → Calls Tryz.prog 100 #[.agg #[.int .i64 p, .slice a l.length cap], .int .i64 x, .int .i64 y] w9 fun e w' => e = .returned (.int .i64 (J : Int)) ∧ Below w9.heap.size w9 w') := Lib.hid fun w9 hb => by have h9 := l7At_at w9 p a cap l (H1.out.below (B.step hb)) hs x y; rwa [hJ2] at h9
 have HRM : Hid (∀ w9, Below w4.heap.size w4 w9 → Calls Tryz.prog 101 #[.agg #[.int .i64 p, .slice a l.length cap], .int .i64 (J : Int)] w9 (RetGB w9 (p, cutG l J) true)) := Lib.hid fun w9 hb => specRem_at w9 p a cap l (H1.out.below (B.step hb)) hs HG.out J hJl hcap hcm
 have hJ0 : (J : Int) ≥ 0 := by omega
 generalize hidx : idxB l (min x y, max x y) = JJ at *
 subst hJ2
 clear hix h8
 have tk1 := True.intro
 have tk2 := True.intro
 obtain ⟨zBG, fBG0, fBG1⟩ := BG.out
 obtain ⟨zBS, fBS0, fBS1, fBS2, fBS3, fBS4⟩ := BS.out
 go_wp2_with fail
 clear zBG fBG0 fBG1 zBS fBS0 fBS1 fBS2 fBS3 fBS4
 go_cut [7, 8] (fun s7 s8 wx => s8 = .bool true ∧ CutGr w4 p (cutG l J) s7 wx)
 case first =>
  go_region_held3 (fun w' => w'.cell? ⟨W.heap.size, 0, none⟩ = some (.int .i64 p) ∧ w'.cell? ⟨W.heap.size, 1, none⟩ = some (.slice a l.length cap) ∧ w'.cell? ⟨W.heap.size + 1, 2, none⟩ = some (.int .i64 x) ∧ w'.cell? ⟨W.heap.size + 1, 3, none⟩ = some (.int .i64 y))
   (first | (exact KEEP.out _ (by repeat' (first | (with_reducible assumption) | (with_reducible exact Below.refl _ _) | (with_reducible refine Below.drew ?_) | (with_reducible refine Below.alloc ?_ (by first | omega | (simp; done) | (simp; omega)) _) | (with_reducible refine Below.setCell ?_ (by first | omega | (simp; done) | (simp; omega)) _)))) | (go_keep))
   (first
    | (clear tk1; go_at_call 100; refine (HAT.out _ (by repeat' (first | (with_reducible assumption) | (with_reducible exact Below.refl _ _) | (with_reducible refine Below.drew ?_) | (with_reducible refine Below.alloc ?_ (by first | omega | (simp; done) | (simp; omega)) _) | (with_reducible refine Below.setCell ?_ (by first | omega | (simp; done) | (simp; omega)) _)))).mono ?_; rintro e wA ⟨rfl, b⟩; have BA : Below w4.heap.size w4 wA := Below.step (by repeat' (first | (with_reducible assumption) | (with_reducible exact Below.refl _ _) | (with_reducible refine Below.drew ?_) | (with_reducible refine Below.alloc ?_ (by first | omega | (simp; done) | (simp; omega)) _) | (with_reducible refine Below.setCell ?_ (by first | omega | (simp; done) | (simp; omega)) _))) b; have hzA := b.size; have hnA := BA.size; have bsA : Below wA.heap.size wA wA := Below.refl _ _; (try (first | (replace HZZ := Lib.hid (HZZ.out.below b)) | (have HZZ := Lib.hid ((Zer2.at _ _).below b)) | (have HZZ := Lib.hid ((Zer2.drew (Zer2.at _ _)).below b)))); (try clear zc0 zc1 zf0 zf1 zg zq0 zq1 zq2); (try obtain ⟨⟨zq0, zq1, zq2, zc0, zc1⟩, ⟨zf0, zf1⟩, zg⟩ := HZZ.out); (try have hzgA := zg); clear b)
    | (clear tk2; go_at_call 101; refine (HRM.out _ (by repeat' (first | (with_reducible assumption) | (with_reducible exact Below.refl _ _) | (with_reducible refine Below.drew ?_) | (with_reducible refine Below.alloc ?_ (by first | omega | (simp; done) | (simp; omega)) _) | (with_reducible refine Below.setCell ?_ (by first | omega | (simp; done) | (simp; omega)) _)))).mono ?_; rintro e wM ⟨v2, rfl, oM, b⟩; obtain ⟨vb2, ⟨a2, c2, rfl, rfl⟩, ob2⟩ := oM; dsimp only at ob2; have HM := Lib.hid (show HGraph wM _ wM.heap.size (.agg #[.int .i64 p, .slice a2 (cutG l J).length c2]) (p, cutG l J) from OwnGraph.h ⟨_, ⟨a2, c2, rfl, rfl⟩, ob2⟩); have bM : Below w4.heap.size w4 wM := Below.step (by repeat' (first | (with_reducible assumption) | (with_reducible exact Below.refl _ _) | (with_reducible refine Below.drew ?_) | (with_reducible refine Below.alloc ?_ (by first | omega | (simp; done) | (simp; omega)) _) | (with_reducible refine Below.setCell ?_ (by first | omega | (simp; done) | (simp; omega)) _))) b; have hzM := b.size; have hnM := bM.size; have hlM := (show Below w4.heap.size w4 _ from (by repeat' (first | (with_reducible assumption) | (with_reducible exact Below.refl _ _) | (with_reducible refine Below.drew ?_) | (with_reducible refine Below.alloc ?_ (by first | omega | (simp; done) | (simp; omega)) _) | (with_reducible refine Below.setCell ?_ (by first | omega | (simp; done) | (simp; omega)) _)))).size; (try (first | (replace HZZ := Lib.hid (HZZ.out.below b)) | (have HZZ := Lib.hid ((Zer2.at _ _).below b)) | (have HZZ := Lib.hid ((Zer2.drew (Zer2.at _ _)).below b)))); (try clear zc0 zc1 zf0 zf1 zg zq0 zq1 zq2); (try obtain ⟨⟨zq0, zq1, zq2, zc0, zc1⟩, ⟨zf0, zf1⟩, zg⟩ := HZZ.out); clear b ob2))
  all_goals
   go_wp2_with fail
   go_meet
   refine ⟨rfl, ?_⟩
   first
    | with_reducible exact cutA2 HZZ.out HM.out (by first | omega | (simp; done) | (simp; omega)) (by first | omega | (simp; done) | (simp; omega)) (by first | omega | (simp; done) | (simp; omega)) (by first | omega | (simp; done) | (simp; omega)) (by first | omega | (simp; done) | (simp; omega)) bM
    | with_reducible exact cutB2 _ HM.out (by first | omega | (simp; done) | (simp; omega)) (by first | omega | (simp; done) | (simp; omega)) (by first | omega | (simp; done) | (simp; omega)) bM
    | with_reducible exact cutC2 _ HM.out (by first | omega | (simp; done) | (simp; omega)) (by first | omega | (simp; done) | (simp; omega)) (by first | omega | (simp; done) | (simp; omega)) bM
 case rest =>
  obtain ⟨rfl, g, a2, c2, lo, hi, rfl, HBX, hob2, hsep, hlo, hlh, hhz, hgg, ⟨hf0, hf1⟩, b⟩ := hcut
  obtain ⟨w5, hwf⟩ : ∃ wf, wf = wc := ⟨_, rfl⟩
  subst hwf
  have hz_w5 := b.size
  have H2 : Hid (BarsAt w5 a2 (cutG l J).length (cutG l J)) := Lib.hid (by obtain ⟨a9, c9, e9, i9⟩ := hob2.is; simp at e9; obtain ⟨rfl, rfl⟩ := e9; exact i9)
  have BX := Lib.hid HBX
  clear HBX hob2 hsep KEEP BB HAT HRM
  replace B := B.step b
  replace BG := Lib.hid (BG.out.below b)
  replace BS := Lib.hid (BS.out.below b)
  replace HZ := Lib.hid (HZ.out.below b)
  clear b
  have hn2 : (cutG l J).length ≤ 1048576 := by rw [cutG_length hJl]; omega
  obtain ⟨l2, hl2⟩ : ∃ l2, l2 = cutG l J := ⟨_, rfl⟩
  rw [← hl2] at H2 BX hn2
  have HL2 := Lib.hid hl2
  clear hl2
  obtain ⟨l3, hl3⟩ : ∃ lN, lN = putL l2 (min pt x, max pt x) := ⟨_, rfl⟩
  have hcon := l2Put_at w5 p a2 c2 l2 H2.out hn2 (min pt x) (max pt x)
  rw [← hl3] at hcon
  have HC3 := Lib.hid hcon
  clear hcon
  have hn3 : l3.length ≤ 1048576 := by rw [hl3, putL_length]; have := HL2.out; first | (rw [this, cutG_length hJl]; omega) | (rw [this, putL_length]; have := HL2.out; rw [this, cutG_length hJl]; omega)
  have HL3 := Lib.hid hl3
  clear hl3
  obtain ⟨zBG, fBG0, fBG1⟩ := BG.out
  obtain ⟨zBS, fBS0, fBS1, fBS2, fBS3, fBS4⟩ := BS.out
  obtain ⟨zBX, fBX0, fBX1⟩ := BX.out
  go_wp2_with fail
  clear zBG fBG0 fBG1 zBS fBS0 fBS1 fBS2 fBS3 fBS4
  clear zBX fBX0 fBX1
  refine HC3.out.mono ?_
  rintro e w6 ⟨v3, rfl, o3, b⟩
  obtain ⟨vb3, ⟨a3, c3, rfl, rfl⟩, ob3⟩ := o3
  dsimp only at ob3
  have hz_w6 := b.size
  have hf0n := ((bcell b).2 _ _ BX.out.1).trans hf0
  have hf1n := ((bcell b).2 _ _ BX.out.1).trans hf1
  have hgz0 := BX.out.1
  replace BX := Lib.hid (BX.out.below b)
  replace B := B.step b
  replace BG := Lib.hid (BG.out.below b)
  replace BS := Lib.hid (BS.out.below b)
  replace HZ := Lib.hid (HZ.out.below b)
  clear b
  obtain ⟨rb, rf0, rf1, rk⟩ := reBox (q := p) (a' := a3) (n' := l3.length) (c' := c3) BX.out hf0n hf1n
  have H3 : Hid (BarsAt ((w6.setCell ⟨g, 0, none⟩ (.int .i64 p)).setCell ⟨g, 1, none⟩ (.slice a3 l3.length c3)) a3 l3.length l3) := Lib.hid (by obtain ⟨a9, c9, e9, i9⟩ := ((ob3.set (p := ⟨g, 0, none⟩) (by simp; omega) (.int .i64 p)).set (p := ⟨g, 1, none⟩) (by simp; omega) (.slice a3 l3.length c3)).form; simp at e9; obtain ⟨rfl, rfl⟩ := e9; exact i9)
  replace B := (B.setCell (p := ⟨g, 0, none⟩) (by simp; omega) (.int .i64 p)).setCell (p := ⟨g, 1, none⟩) (by simp; omega) (.slice a3 l3.length c3)
  replace BG := Lib.hid (BG.out.kept rk (by omega))
  replace BS := Lib.hid (BS.out.kept rk (by omega))
  replace HZ := Lib.hid (HZ.out.kept rk (by omega))
  have hz_w7 := rk.size
  obtain ⟨zQ, fQ0, fQ1⟩ := BX.out
  replace BX := Lib.hid rb
  clear hf0 hf1 rb ob3 rk
  have hf0 := rf0
  have hf1 := rf1
  clear rf0 rf1
  obtain ⟨l4, hl4⟩ : ∃ lN, lN = putL l3 (min pt y, max pt y) := ⟨_, rfl⟩
  have hcon := l2Put_at (((w6.setCell ⟨g, 0, none⟩ (.int .i64 p)).setCell ⟨g, 1, none⟩ (.slice a3 l3.length c3))) p a3 c3 l3 H3.out hn3 (min pt y) (max pt y)
  rw [← hl4] at hcon
  have HC4 := Lib.hid hcon
  clear hcon
  have hn4 : l4.length ≤ 1048576 := by rw [hl4, putL_length]; have := HL3.out; first | (rw [this, cutG_length hJl]; omega) | (rw [this, putL_length]; have := HL2.out; rw [this, cutG_length hJl]; omega)
  have HL4 := Lib.hid hl4
  clear hl4
  obtain ⟨zBG, fBG0, fBG1⟩ := BG.out
  obtain ⟨zBS, fBS0, fBS1, fBS2, fBS3, fBS4⟩ := BS.out
  obtain ⟨zBX, fBX0, fBX1⟩ := BX.out
  go_wp2_with fail
  clear zBG fBG0 fBG1 zBS fBS0 fBS1 fBS2 fBS3 fBS4
  clear zBX fBX0 fBX1
  clear zQ fQ0 fQ1 hf0n hf1n
  generalize ((w6.setCell ⟨g, 0, none⟩ (.int .i64 p)).setCell ⟨g, 1, none⟩ (.slice a3 l3.length c3)) = w7 at *
  refine HC4.out.mono ?_
  rintro e w8 ⟨v3, rfl, o3, b⟩
  obtain ⟨vb3, ⟨a4, c4, rfl, rfl⟩, ob3⟩ := o3
  dsimp only at ob3
  have hz_w8 := b.size
  have hf0n := ((bcell b).2 _ _ BX.out.1).trans hf0
  have hf1n := ((bcell b).2 _ _ BX.out.1).trans hf1
  have hgz1 := BX.out.1
  replace BX := Lib.hid (BX.out.below b)
  replace B := B.step b
  replace BG := Lib.hid (BG.out.below b)
  replace BS := Lib.hid (BS.out.below b)
  replace HZ := Lib.hid (HZ.out.below b)
  clear b
  obtain ⟨rb, rf0, rf1, rk⟩ := reBox (q := p) (a' := a4) (n' := l4.length) (c' := c4) BX.out hf0n hf1n
  have H4 : Hid (BarsAt ((w8.setCell ⟨g, 0, none⟩ (.int .i64 p)).setCell ⟨g, 1, none⟩ (.slice a4 l4.length c4)) a4 l4.length l4) := Lib.hid (by obtain ⟨a9, c9, e9, i9⟩ := ((ob3.set (p := ⟨g, 0, none⟩) (by simp; omega) (.int .i64 p)).set (p := ⟨g, 1, none⟩) (by simp; omega) (.slice a4 l4.length c4)).form; simp at e9; obtain ⟨rfl, rfl⟩ := e9; exact i9)
  replace B := (B.setCell (p := ⟨g, 0, none⟩) (by simp; omega) (.int .i64 p)).setCell (p := ⟨g, 1, none⟩) (by simp; omega) (.slice a4 l4.length c4)
  replace BG := Lib.hid (BG.out.kept rk (by omega))
  replace BS := Lib.hid (BS.out.kept rk (by omega))
  replace HZ := Lib.hid (HZ.out.kept rk (by omega))
  have hz_w9 := rk.size
  obtain ⟨zQ, fQ0, fQ1⟩ := BX.out
  replace BX := Lib.hid rb
  clear hf0 hf1 rb ob3 rk
  have hf0 := rf0
  have hf1 := rf1
  clear rf0 rf1
  have hcon := l2Put_at (((w8.setCell ⟨g, 0, none⟩ (.int .i64 p)).setCell ⟨g, 1, none⟩ (.slice a4 l4.length c4))) p a4 c4 l4 H4.out hn4 (min pt z) (max pt z)
  rw [show putL l4 (min pt z, max pt z) = putsL (cutG l J) [barM pt x, barM pt y, barM pt z] by rw [HL4.out, HL3.out, HL2.out]; rfl] at hcon
  have HC5 := Lib.hid hcon
  clear hcon
  obtain ⟨zBG, fBG0, fBG1⟩ := BG.out
  obtain ⟨zBS, fBS0, fBS1, fBS2, fBS3, fBS4⟩ := BS.out
  obtain ⟨zBX, fBX0, fBX1⟩ := BX.out
  go_wp2_with fail
  clear zBG fBG0 fBG1 zBS fBS0 fBS1 fBS2 fBS3 fBS4
  clear zBX fBX0 fBX1 zQ fQ0 fQ1 hf0n hf1n
  generalize ((w8.setCell ⟨g, 0, none⟩ (.int .i64 p)).setCell ⟨g, 1, none⟩ (.slice a4 l4.length c4)) = w9 at *
  refine HC5.out.mono ?_
  rintro e wf ⟨v1, rfl, o1, b⟩
  obtain ⟨vb, ⟨a1, c1, rfl, rfl⟩, ob⟩ := o1
  dsimp only at ob
  have hzf := b.size
  replace B := B.step b
  replace BG := Lib.hid (BG.out.below b)
  replace BS := Lib.hid (BS.out.below b)
  replace HZ := Lib.hid (HZ.out.below b)
  obtain ⟨⟨r0, r1, r2, c0, c1x⟩, ⟨y0, y1⟩, zg⟩ := HZ.out
  go_wp2_with fail
  refine bodyPost_ret (v := .tuple #[.agg #[.int .i64 p, .slice a1 (putsL (cutG l J) [barM pt x, barM pt y, barM pt z]).length c1], .bool true]) (by simp [results, Tryz.results41, go_sem, zg, c0, c1x]) rfl ?_
  rw [HE.out]
  exact ⟨_, rfl, laid2 ob (by omega) (by omega) (by omega) B⟩
end Go.Proofs.YtfbmpkdjhhcnpaaGreat

