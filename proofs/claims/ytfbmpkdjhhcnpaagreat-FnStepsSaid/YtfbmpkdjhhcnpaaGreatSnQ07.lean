/- ApplyStep of the reference, a step of the second kind (written by gen_sta.py). No condition but sizes. -/
import Derived.Test.YtfbmpkdjhhcnpaaGreatSnP23
import Derived.Lib.MinMax
import Derived.Deep.RegionHeld3
import Derived.Deep.CutRange
import Derived.OwnWalk
namespace Go.Proofs.YtfbmpkdjhhcnpaaGreat
open Go.RowKit
set_option maxRecDepth 100000
set_option linter.unusedVariables false
set_option linter.unusedSimpArgs false

set_option maxHeartbeats 16000000 in
theorem specApp1 (W : World) (p : Int) (a : Option Addr) (cap : Nat) (l : List BarT) (h : BarsAt W a l.length l) (hs : l.length ≤ 1048576) (hcap : l.length ≤ cap) (hcm : cap ≤ 9223372036854775807) (kd pt x y z : Int) (hg : isGraphB (p, l) = true) (hl21 : l.length ≤ 21) (k0 : (kd == 0) = false) (k1 : (kd == 1) = true) (k2 : (kd == 2) = false) :
  Calls Tryz.prog 41 #[.agg #[.int .i64 p, .slice a l.length cap], .agg #[.int .i64 kd, .int .i64 pt, .int .i64 x, .int .i64 y, .int .i64 z]] W (RetGB W (stepF (p, l) (kd, pt, x, y, z)).1 (stepF (p, l) (kd, pt, x, y, z)).2) := by
 have hwd := @Wd.cells
 have HGr : Hid (IsGraph W (.agg #[.int .i64 p, .slice a l.length cap]) (p, l)) := Lib.hid ⟨a, cap, rfl, h⟩
 have H1 := Lib.hid h
 clear h
 have hsz : szGraph (p, l) ≤ 1048576 := hs
 have hsz2 : szGraph (p, l) ≤ 1099511627776 := Nat.le_trans hsz (by decide)
 have B : Below W.heap.size W (W.alloc (.cells #[.int .i64 p, .slice a l.length cap] 26)) := (Below.refl _ _).alloc (Nat.le_refl _) _
 have BG : Hid (BoxGr (W.alloc (.cells #[.int .i64 p, .slice a l.length cap] 26)) W.heap.size p a l.length cap) := Lib.hid (BoxGr.at rfl)
 obtain ⟨hcap, hcm⟩ := And.intro hcap hcm
 have BS : Hid (BoxSt ((W.alloc (.cells #[.int .i64 p, .slice a l.length cap] 26)).alloc (.cells #[.int .i64 kd, .int .i64 pt, .int .i64 x, .int .i64 y, .int .i64 z] 57)) (W.heap.size + 1) kd pt x y z) := Lib.hid (BoxSt.at (by simp))
 have HZ : Hid (Zer2 (((W.alloc (.cells #[.int .i64 p, .slice a l.length cap] 26)).alloc (.cells #[.int .i64 kd, .int .i64 pt, .int .i64 x, .int .i64 y, .int .i64 z] 57)).alloc (.cells #[.int .i64 0, .slice none 0 0] 26)) (W.heap.size + 2)) := Lib.hid (by have := Zer2.at ((W.alloc (.cells #[.int .i64 p, .slice a l.length cap] 26)).alloc (.cells #[.int .i64 kd, .int .i64 pt, .int .i64 x, .int .i64 y, .int .i64 z] 57)) 26; rwa [World.size_alloc, World.size_alloc] at this)
 have ba := belAl (W.alloc (.cells #[.int .i64 p, .slice a l.length cap] 26)) (.cells #[.int .i64 kd, .int .i64 pt, .int .i64 x, .int .i64 y, .int .i64 z] 57)
 have bb := belAl ((W.alloc (.cells #[.int .i64 p, .slice a l.length cap] 26)).alloc (.cells #[.int .i64 kd, .int .i64 pt, .int .i64 x, .int .i64 y, .int .i64 z] 57)) (.cells #[.int .i64 0, .slice none 0 0] 26)
 have hz : W.heap.size + 3 ≤ (((W.alloc (.cells #[.int .i64 p, .slice a l.length cap] 26)).alloc (.cells #[.int .i64 kd, .int .i64 pt, .int .i64 x, .int .i64 y, .int .i64 z] 57)).alloc (.cells #[.int .i64 0, .slice none 0 0] 26)).heap.size := by simp
 replace B := (B.step ba).step bb
 replace BG := Lib.hid ((BG.out.below ba).below bb)
 replace BS := Lib.hid (BS.out.below bb)
 clear ba bb
 go_enter Tryz.func41, Tryz.ntmps41
 go_upto_region 1 with (fail)
 generalize (((W.alloc (.cells #[.int .i64 p, .slice a l.length cap] 26)).alloc (.cells #[.int .i64 kd, .int .i64 pt, .int .i64 x, .int .i64 y, .int .i64 z] 57)).alloc (.cells #[.int .i64 0, .slice none 0 0] 26)) = u at *
 obtain ⟨zBG, fBG0, fBG1⟩ := BG.out
 obtain ⟨zBS, fBS0, fBS1, fBS2, fBS3, fBS4⟩ := BS.out
 go_wp2_with fail
 clear zBG fBG0 fBG1 zBS fBS0 fBS1 fBS2 fBS3 fBS4
 refine (specIsGraph_at u p a cap l (H1.out.below B) (by omega)).mono ?_
 rintro e w1 ⟨rfl, b⟩
 have hz1 := b.size
 have hzu := hz
 replace B := B.step b
 replace BG := Lib.hid (BG.out.below b)
 replace BS := Lib.hid (BS.out.below b)
 replace HZ := Lib.hid (HZ.out.below b)
 clear b
 rw [hg]
 have HG := Lib.hid hg
 have hli : ¬ (l.length : Int) > 21 := by omega
 have hpb := (isGraphB_bd hg).1
 have HS : Hid (stepF (p, l) (kd, pt, x, y, z) = if cnd0 p l kd pt x y z then ((p, putsL l [barM x y]), true) else if cnd1 p l kd pt x y z then ((p, putsL l [barM pt x, barM pt y]), true) else if cnd2 p l kd pt x y z then ((p, putsL (cutG l (idxB l (barM x y)).toNat) [barM pt x, barM pt y, barM pt z]), true) else ((p, l), false)) := Lib.hid (by unfold stepF; rw [hg, decide_eq_true (show (p, l).2.length ≤ 21 from hl21)]; rfl)
 have hor := Lib.hid (isGraphB_ord hg)
 clear hg
 have e0 : cnd0 p l kd pt x y z = false := by unfold cnd0; rw [k0]; simp
 have e2 : cnd2 p l kd pt x y z = false := by unfold cnd2; rw [k2]; simp
 obtain ⟨zBG, fBG0, fBG1⟩ := BG.out
 obtain ⟨zBS, fBS0, fBS1, fBS2, fBS3, fBS4⟩ := BS.out
 go_upto_region 3 with (fail)
 clear zBG fBG0 fBG1 zBS fBS0 fBS1 fBS2 fBS3 fBS4
 obtain ⟨wo, hwo⟩ : ∃ wo, wo = w1 := ⟨_, rfl⟩
 subst hwo
 go_cut [20] (fun s wx => s = .bool (cnd0 p l kd pt x y z) ∧ Below wo.heap.size wo wx)
 case first =>
  obtain ⟨zBG, fBG0, fBG1⟩ := BG.out
  obtain ⟨zBS, fBS0, fBS1, fBS2, fBS3, fBS4⟩ := BS.out
  have HC := Lib.hid (show cnd0 p l kd pt x y z = false by unfold cnd0; rw [k0]; simp)
  go_wp2_with fail
  go_meet
  exact ⟨by rw [HC.out], Below.refl _ _⟩
 case rest =>
  obtain ⟨rfl, b⟩ := hcut
  have hz_w2 := b.size
  replace B := B.step b
  replace BG := Lib.hid (BG.out.below b)
  replace BS := Lib.hid (BS.out.below b)
  replace HZ := Lib.hid (HZ.out.below b)
  clear b
  obtain ⟨w2, hwe⟩ : ∃ we, we = wc := ⟨_, rfl⟩
  subst hwe
  rw [e0]
  go_upto_region 5 with (fail)
  obtain ⟨wo, hwo⟩ : ∃ wo, wo = w2 := ⟨_, rfl⟩
  subst hwo
  go_cut [62] (fun s wx => s = .bool (cnd1 p l kd pt x y z) ∧ Below wo.heap.size wo wx)
  case first =>
   obtain ⟨zBG, fBG0, fBG1⟩ := BG.out
   obtain ⟨zBS, fBS0, fBS1, fBS2, fBS3, fBS4⟩ := BS.out
   cases h2 : (z == 0)
   ·skip
    have HC := Lib.hid (show cnd1 p l kd pt x y z = false by unfold cnd1; rw [k1, h2]; simp)
    go_wp2_with fail
    go_meet
    exact ⟨by rw [HC.out], Below.refl _ _⟩
   have bl := belAl wo (.cells #[.int .i64 pt, .int .i64 x, .int .i64 y] 3)
   have HI : Hid (IntsAt (wo.alloc (.cells #[.int .i64 pt, .int .i64 x, .int .i64 y] 3)) (some ⟨wo.heap.size, 0, none⟩) 3 [pt, x, y]) := Lib.hid (litInts [pt, x, y] rfl (by decide))
   go_wp2_with fail
   clear zBG fBG0 fBG1 zBS fBS0 fBS1 fBS2 fBS3 fBS4
   refine (l7Points_at _ p a cap l (H1.out.below (B.step bl)) hs (some ⟨wo.heap.size, 0, none⟩) 3 [pt, x, y] HI.out (by decide) hpb).mono ?_
   rintro e w5 ⟨rfl, b⟩
   have b5 := bl.step b
   clear b bl HI
   replace B := B.step b5
   replace BG := Lib.hid (BG.out.below b5)
   replace BS := Lib.hid (BS.out.below b5)
   obtain ⟨zBG, fBG0, fBG1⟩ := BG.out
   obtain ⟨zBS, fBS0, fBS1, fBS2, fBS3, fBS4⟩ := BS.out
   cases hd : difB p [pt, x, y]
   ·skip
    have HC := Lib.hid (show cnd1 p l kd pt x y z = false by unfold cnd1; rw [k1, h2, hd]; simp)
    go_wp2_with fail
    go_meet
    exact ⟨by rw [HC.out], b5⟩
   go_wp2_with fail
   clear zBG fBG0 fBG1 zBS fBS0 fBS1 fBS2 fBS3 fBS4
   refine (used_any _ p a cap l (H1.out.below B) hs pt).mono ?_
   rintro e w6 ⟨rfl, b⟩
   replace b5 := b5.step b
   replace B := B.step b
   replace BG := Lib.hid (BG.out.below b)
   replace BS := Lib.hid (BS.out.below b)
   clear b
   obtain ⟨zBG, fBG0, fBG1⟩ := BG.out
   obtain ⟨zBS, fBS0, fBS1, fBS2, fBS3, fBS4⟩ := BS.out
   cases h5 : decide (0 < degB l pt)
   rotate_left
   ·skip
    have HC := Lib.hid (show cnd1 p l kd pt x y z = false by unfold cnd1; rw [k1, h2, hd, h5]; simp)
    go_wp2_with fail
    go_meet
    exact ⟨by rw [HC.out], b5⟩
   go_wp2_with fail
   clear zBG fBG0 fBG1 zBS fBS0 fBS1 fBS2 fBS3 fBS4
   refine (used_any _ p a cap l (H1.out.below B) hs x).mono ?_
   rintro e w6 ⟨rfl, b⟩
   replace b5 := b5.step b
   replace B := B.step b
   replace BG := Lib.hid (BG.out.below b)
   replace BS := Lib.hid (BS.out.below b)
   clear b
   obtain ⟨zBG, fBG0, fBG1⟩ := BG.out
   obtain ⟨zBS, fBS0, fBS1, fBS2, fBS3, fBS4⟩ := BS.out
   cases h6 : decide (0 < degB l x)
   ·skip
    have HC := Lib.hid (show cnd1 p l kd pt x y z = false by unfold cnd1; rw [k1, h2, hd, h5, h6]; simp)
    go_wp2_with fail
    go_meet
    exact ⟨by rw [HC.out], b5⟩
   go_wp2_with fail
   clear zBG fBG0 fBG1 zBS fBS0 fBS1 fBS2 fBS3 fBS4
   refine (used_any _ p a cap l (H1.out.below B) hs y).mono ?_
   rintro e w6 ⟨rfl, b⟩
   replace b5 := b5.step b
   replace B := B.step b
   replace BG := Lib.hid (BG.out.below b)
   replace BS := Lib.hid (BS.out.below b)
   clear b
   obtain ⟨zBG, fBG0, fBG1⟩ := BG.out
   obtain ⟨zBS, fBS0, fBS1, fBS2, fBS3, fBS4⟩ := BS.out
   cases h7 : decide (0 < degB l y)
   ·skip
    have HC := Lib.hid (show cnd1 p l kd pt x y z = false by unfold cnd1; rw [k1, h2, hd, h5, h6, h7]; simp)
    go_wp2_with fail
    go_meet
    exact ⟨by rw [HC.out], b5⟩
   have HC := Lib.hid (show cnd1 p l kd pt x y z = true by unfold cnd1; rw [k1, h2, hd, h5, h6, h7]; rfl)
   go_wp2_with fail
   go_meet
   exact ⟨by rw [HC.out], b5⟩
  case rest =>
   obtain ⟨rfl, b⟩ := hcut
   have hz_w3 := b.size
   replace B := B.step b
   replace BG := Lib.hid (BG.out.below b)
   replace BS := Lib.hid (BS.out.below b)
   replace HZ := Lib.hid (HZ.out.below b)
   clear b
   obtain ⟨w3, hwe⟩ : ∃ we, we = wc := ⟨_, rfl⟩
   subst hwe
   cases hc1 : cnd1 p l kd pt x y z
   rotate_left
   ·skip
    have HE := Lib.hid (show stepF (p, l) (kd, pt, x, y, z) = ((p, putsL l [barM pt x, barM pt y]), true) by rw [HS.out, e0, hc1]; rfl)
    obtain ⟨zBG, fBG0, fBG1⟩ := BG.out
    obtain ⟨zBS, fBS0, fBS1, fBS2, fBS3, fBS4⟩ := BS.out
    go_wp2_with fail
    clear zBG fBG0 fBG1 zBS fBS0 fBS1 fBS2 fBS3 fBS4
    refine (l2Put_at _ p a cap l (H1.out.below B) hs (min pt x) (max pt x)).mono ?_
    rintro e wm ⟨v2, rfl, o2, b⟩
    obtain ⟨vb2, ⟨a2, c2, rfl, rfl⟩, ob2⟩ := o2
    dsimp only at ob2
    have hzm := b.size
    replace B := B.step b
    replace BG := Lib.hid (BG.out.below b)
    replace BS := Lib.hid (BS.out.below b)
    replace HZ := Lib.hid (HZ.out.below b)
    clear b
    obtain ⟨l2, hl2⟩ : ∃ l2, l2 = putL l (min pt x, max pt x) := ⟨_, rfl⟩
    have hn2 : l2.length ≤ 1048576 := by rw [hl2]; rw [putL_length]; omega
    rw [← hl2] at ob2 ⊢
    have HL2 := Lib.hid hl2
    clear hl2
    have HF2 : Hid (IsGraph wm (.agg #[.int .i64 p, .slice a2 l2.length c2]) (p, l2)) := Lib.hid (OwnGraph.form ⟨_, ⟨a2, c2, rfl, rfl⟩, ob2⟩)
    have bx := belAl wm (.cells #[.int .i64 p, .slice a2 l2.length c2] 26)
    have BX : Hid (BoxGr (wm.alloc (.cells #[.int .i64 p, .slice a2 l2.length c2] 26)) wm.heap.size p a2 l2.length c2) := Lib.hid (BoxGr.at rfl)
    have H2 : Hid (BarsAt (wm.alloc (.cells #[.int .i64 p, .slice a2 l2.length c2] 26)) a2 l2.length l2) := Lib.hid (by obtain ⟨a9, c9, e9, i9⟩ := HF2.out; simp at e9; obtain ⟨rfl, rfl⟩ := e9; exact BarsAt.below i9 bx)
    replace B := B.step bx
    replace BG := Lib.hid (BG.out.below bx)
    replace BS := Lib.hid (BS.out.below bx)
    replace HZ := Lib.hid (HZ.out.below bx)
    go_upto_region 7 with (fail)
    have hzx := bx.size
    clear bx
    generalize (wm.alloc (.cells #[.int .i64 p, .slice a2 l2.length c2] 26)) = wx at *
    obtain ⟨zBG, fBG0, fBG1⟩ := BG.out
    obtain ⟨zBS, fBS0, fBS1, fBS2, fBS3, fBS4⟩ := BS.out
    obtain ⟨zBX, fBX0, fBX1⟩ := BX.out
    go_wp2_with fail
    clear zBG fBG0 fBG1 zBS fBS0 fBS1 fBS2 fBS3 fBS4
    clear zBX fBX0 fBX1
    refine (l2Put_at _ p a2 c2 l2 H2.out hn2 (min pt y) (max pt y)).mono ?_
    have HP2 := Lib.hid (show putL l2 (min pt y, max pt y) = putsL l [barM pt x, barM pt y] by rw [HL2.out]; rfl)
    rw [HP2.out]
    rintro e wf ⟨v1, rfl, o1, b⟩
    obtain ⟨vb, ⟨a1, c1, rfl, rfl⟩, ob⟩ := o1
    dsimp only at ob
    have hzf := b.size
    replace B := B.step b
    replace BG := Lib.hid (BG.out.below b)
    replace BS := Lib.hid (BS.out.below b)
    replace HZ := Lib.hid (HZ.out.below b)
    obtain ⟨⟨r0, r1, r2, c0, c1x⟩, ⟨y0, y1⟩, zg⟩ := HZ.out
    go_wp2_with fail
    refine bodyPost_ret (v := .tuple #[.agg #[.int .i64 p, .slice a1 (putsL l [barM pt x, barM pt y]).length c1], .bool true]) (by simp [results, Tryz.results41, go_sem, zg, c0, c1x]) rfl ?_
    rw [HE.out]
    exact ⟨_, rfl, laid2 ob (by omega) (by omega) (by omega) B⟩
   have HE := Lib.hid (show stepF (p, l) (kd, pt, x, y, z) = ((p, l), false) by rw [HS.out, e0, hc1, e2]; rfl)
   clear hc1
   go_upto_region 8 with (fail)
   obtain ⟨wo, hwo⟩ : ∃ wo, wo = w3 := ⟨_, rfl⟩
   subst hwo
   go_cut [127] (fun s wx => s = .bool (cnd2 p l kd pt x y z) ∧ Below wo.heap.size wo wx)
   case first =>
    obtain ⟨zBG, fBG0, fBG1⟩ := BG.out
    obtain ⟨zBS, fBS0, fBS1, fBS2, fBS3, fBS4⟩ := BS.out
    have HC := Lib.hid (show cnd2 p l kd pt x y z = false by unfold cnd2; rw [k2]; simp)
    go_wp2_with fail
    go_meet
    exact ⟨by rw [HC.out], Below.refl _ _⟩
   case rest =>
    obtain ⟨rfl, b⟩ := hcut
    have hz_w4 := b.size
    replace B := B.step b
    replace BG := Lib.hid (BG.out.below b)
    replace BS := Lib.hid (BS.out.below b)
    replace HZ := Lib.hid (HZ.out.below b)
    clear b
    obtain ⟨w4, hwe⟩ : ∃ we, we = wc := ⟨_, rfl⟩
    subst hwe
    rw [e2]
    obtain ⟨zBG, fBG0, fBG1⟩ := BG.out
    obtain ⟨zBS, fBS0, fBS1, fBS2, fBS3, fBS4⟩ := BS.out
    go_wp2_with fail
    clear zBG fBG0 fBG1 zBS fBS0 fBS1 fBS2 fBS3 fBS4
    refine (specCpG_at _ p a cap l.length l (H1.out.below B) hs).mono ?_
    rintro e wc1 ⟨v1, rfl, o1, b⟩
    obtain ⟨vb, ⟨a1, c1, rfl, rfl⟩, ob⟩ := o1
    dsimp only at ob
    have hzc := b.size
    replace B := B.step b
    replace BG := Lib.hid (BG.out.below b)
    replace BS := Lib.hid (BS.out.below b)
    replace HZ := Lib.hid (HZ.out.below b)
    obtain ⟨⟨r0, r1, r2, c0, c1x⟩, ⟨y0, y1⟩, zg⟩ := HZ.out
    go_wp2_with fail
    refine bodyPost_ret (v := .tuple #[.agg #[.int .i64 p, .slice a1 l.length c1], .bool false]) (by simp [results, Tryz.results41, go_sem, zg, c0, c1x]) rfl ?_
    rw [HE.out]
    exact ⟨_, rfl, laid2 ob (by omega) (by omega) (by omega) B⟩
end Go.Proofs.YtfbmpkdjhhcnpaaGreat

