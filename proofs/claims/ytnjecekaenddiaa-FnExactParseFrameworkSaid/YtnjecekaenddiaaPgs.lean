/- ParseGraph of the reference. Condition: texts up to 2^20 bytes. -/
import Derived.Test.YtnjecekaenddiaaPrs1
import Derived.Deep.RegionHeld3
import Derived.OwnWalk
namespace Go.Proofs.Ytnjecekaenddiaa
open Go.RowKit
set_option maxRecDepth 100000
set_option linter.unusedVariables false
set_option linter.unusedSimpArgs false

set_option maxHeartbeats 16000000 in
theorem spec_ParseGraph (W : World) (S : ByteArray) (l : List UInt8) (hS : S = bs l) (hn : l.length ≤ 1048576) :
    Calls Try.prog 39 #[.string S] W (RetPG W l) := by
  have HS := Lib.hid hS
  clear hS
  obtain ⟨ws, hws⟩ : ∃ ws, ws = cutL 32 l := ⟨_, rfl⟩
  have HWL : Hid (∀ (k : Nat) t, ws[k]? = some t → t.length ≤ 1048576) := Lib.hid fun k t h => Nat.le_trans (cutL_mem (b := 32) (l := l) (by rw [← hws]; exact List.mem_of_getElem? h)).1 hn
  have hwn : 1 ≤ ws.length ∧ ws.length ≤ 1048577 := by
    rw [hws]; have := cutL_le 32 l; have := cutL_length 32 l; omega
  have HCT : Hid (ws.length = l.count 32 + 1) := Lib.hid (by rw [hws, cutL_length])
  have HCUT : Hid (∀ w, Calls Try.prog 38 #[.string S, .int .u8 32] w fun e w' => ∃ v, e = .returned v ∧ OwnStrs w' w.heap.size v ws ∧ Below w.heap.size w w') := Lib.hid fun w => by rw [hws]; exact spec_l2Cut w S l HS.out hn 32 32 rfl
  have HWS := Lib.hid hws
  clear hws
  have HZ : Hid (Zer2 (W.alloc (.cells #[.int .i64 0, .slice none 0 0] 39)) W.heap.size) := Lib.hid (Zer2.at W _)
  have B0 : Below W.heap.size W (W.alloc (.cells #[.int .i64 0, .slice none 0 0] 39)) := (Below.refl _ _).alloc (Nat.le_refl _) _
  have hz0 : W.heap.size < (W.alloc (.cells #[.int .i64 0, .slice none 0 0] 39)).heap.size := by simp
  go_enter Try.func39, Try.ntmps39
  go_wp2_with fail
  generalize (W.alloc (.cells #[.int .i64 0, .slice none 0 0] 39)) = u at *
  refine (HCUT.out _).mono ?_
  rintro e w1 ⟨v, rfl, ho, b⟩
  obtain ⟨gw, cw, rfl, hgw, hgl, hcw⟩ := ho.form (by omega)
  have HCW := Lib.hid hcw
  replace HZ := Lib.hid (HZ.out.below b)
  have B := B0.step b
  have hz1 := b.size
  clear ho hcw b B0
  have b2 : Below w1.heap.size w1 ((w1.alloc (.cells #[] 87)).alloc (.cells #[.int .i64 0, .slice (some ⟨w1.heap.size, 0, none⟩) 0 0] 39)) := ((Below.refl _ _).alloc (Nat.le_refl _) _).alloc (by simp) _
  have BG : Hid (BoxG ((w1.alloc (.cells #[] 87)).alloc (.cells #[.int .i64 0, .slice (some ⟨w1.heap.size, 0, none⟩) 0 0] 39)) (w1.heap.size + 1) 0 (.slice (some ⟨w1.heap.size, 0, none⟩) 0 0)) := Lib.hid (BoxG.at (by simp))
  have OB : Hid (OwnBars ((w1.alloc (.cells #[] 87)).alloc (.cells #[.int .i64 0, .slice (some ⟨w1.heap.size, 0, none⟩) 0 0] 39)) w1.heap.size (.slice (some ⟨w1.heap.size, 0, none⟩) 0 0) []) := Lib.hid ((OwnBars.made w1 _ (Nat.le_refl _)).below ((Below.refl _ _).alloc (Nat.le_refl _) _))
  obtain ⟨t0, ht0⟩ : ∃ t0, ws[0]? = some t0 := ⟨_, List.getElem?_eq_getElem (by omega)⟩
  have hl0 := HWL.out 0 t0 ht0
  have hcell0 := HCW.out 0 t0 ht0
  have HT0 := Lib.hid ht0
  clear ht0
  obtain ⟨T0, hT0⟩ : ∃ T0, T0 = bs t0 := ⟨_, rfl⟩
  have hs0 : T0.size = t0.length := by rw [hT0, bs_size]
  rw [← hT0] at hcell0
  have HTT := Lib.hid hT0
  clear hT0
  go_upto_region 3 with (fail)
  generalize hw2 : ((w1.alloc (.cells #[] 87)).alloc (.cells #[.int .i64 0, .slice (some ⟨w1.heap.size, 0, none⟩) 0 0] 39)) = w2 at *
  clear hw2
  have hz2 : w1.heap.size + 1 < w2.heap.size := BG.out.1
  replace HZ := Lib.hid (HZ.out.below b2)
  replace B := B.step b2
  replace hcell0 := ((bcell b2).1 _ _ hgw).trans hcell0
  by_cases hlt2 : t0.length < 2
  · have hlt2i : (t0.length : Int) < 2 := by omega
    have HNO : Hid (OkPG l (0, []) false) := Lib.hid (OkPG.no fun g0 h1 h2 => by have := (pg_head (by rw [← HWS.out]; exact HT0.out) h1 h2).1; omega)
    obtain ⟨⟨z1, z2, z3, c0, c1⟩, ⟨f0, f1⟩, gz⟩ := HZ.out
    have HLD := Lib.hid (laid2 (p := 0) (g := W.heap.size) (OwnBars.nil w2 u.heap.size) (Nat.le_refl _) (by omega) (by omega) B)
    go_wp2_with fail
    refine bodyPost_ret (v := .tuple #[.agg #[.int .i64 0, .slice none 0 0], .bool false]) (by simp [results, Try.results39, go_sem, gz, c0, c1]) rfl (RetPG.mk rfl HLD.out.1 HNO.out HLD.out.2)
  have hlt2i : ¬ (t0.length : Int) < 2 := by omega
  have hw3 := IntWalk.i64_in ((t0.length : Int) - 1) (by omega)
  obtain ⟨t1, ht1, HT1⟩ := cutS_to HTT.out (j := t0.length - 1) (by omega)
  rw [show ((t0.length - 1 : Nat) : Int) = (t0.length : Int) - 1 by omega] at ht1
  have HCN : Hid (∀ w, Calls Try.prog 40 #[.string t1] w fun e w' => ∃ n, e = .returned (.int .i64 n) ∧ Nm (t0.take (t0.length - 1)) n ∧ Below w.heap.size w w') := Lib.hid fun w => spec_l2Number w t1 _ HT1.out (by have := List.length_take_le (t0.length - 1) t0; omega)
  go_upto_region 5 with (fail)
  have b3 : Below w2.heap.size w2 w2.drew := (Below.refl _ _).drew
  have hz3 := b3.size
  replace b2 := b2.step b3
  replace HZ := Lib.hid (HZ.out.below b3)
  replace B := B.step b3
  replace BG := Lib.hid (BG.out.below b3)
  replace OB := Lib.hid (OB.out.below b3)
  replace hcell0 := ((bcell b3).1 _ _ (by omega)).trans hcell0
  have HC0 := Lib.hid hcell0
  have hws0 : 0 < ws.length := by omega
  have hws0i : (0 : Int) < (ws.length : Int) := by omega
  clear b3
  go_region_held3 (fun w' => w'.cell? ⟨gw, 0, none⟩ = some (.string T0))
    (first | (with_reducible exact HC0.out) | (with_reducible exact HC5.out) | (exact (World.cell?_setCell_other _ _ _ _ (by simp <;> omega)).trans HC5.out))
    (first
      | (go_at_call 40; refine (HCN.out _).mono ?_; rintro e w5 ⟨n5, rfl, hn5, b5⟩; have hz5 := b5.size; replace b2 := b2.step b5; have HC5 := Lib.hid (((bcell b5).1 _ _ (by omega)).trans HC0.out); replace HZ := Lib.hid (HZ.out.below b5); replace B := B.step b5; replace BG := Lib.hid (BG.out.below b5); replace OB := Lib.hid (OB.out.below b5); clear b5; obtain ⟨zBG, ⟨gc0, gc1⟩, gf0, gf1⟩ := BG.out)
      | fail)
  rename_i hHeld
  clear zBG gc0 gc1 gf0 gf1 hHeld
  have HP : Hid (∀ g0, isGraphB g0 = true → l = fmtG g0 → n5 = g0.1) := Lib.hid fun g0 h1 h2 => (pg_head (by rw [← HWS.out]; exact HT0.out) h1 h2).2.2 _ hn5
  have kS : Kept (fun b => b = w1.heap.size + 1) w5 (w5.setCell ⟨w1.heap.size + 1, 0, none⟩ (.int .i64 n5)) := keptSet' rfl
  replace HZ := Lib.hid (HZ.out.kept kS (by omega))
  replace B := B.setCell (p := ⟨w1.heap.size + 1, 0, none⟩) (by simp; omega) (.int .i64 n5)
  replace b2 := b2.setCell (p := ⟨w1.heap.size + 1, 0, none⟩) (by simp) (.int .i64 n5)
  replace OB : Hid (OwnBars (w5.setCell ⟨w1.heap.size + 1, 0, none⟩ (.int .i64 n5)) w1.heap.size (.slice (some ⟨w1.heap.size, 0, none⟩) 0 0) []) := Lib.hid (OB.out.setAt (fun b hb => by simp [Value.ownBlock] at hb; omega) _)
  replace BG := Lib.hid (BG.out.set0 (n := n5))
  clear kS hcell0 HC0 HC5 hz3 hz5 hn5
  generalize (w5.setCell ⟨w1.heap.size + 1, 0, none⟩ (.int .i64 n5)) = w6 at *
  clear ht1 hw3 hws0 hws0i hlt2 hlt2i HCN HT1 HTT hs0 hl0
  go_wp2_with fail
  go_loopw [6] (fun i w9 => ∃ (k : Nat) (bars : List BarT) (vb : Value), k + 1 ≤ ws.length ∧ i = .int .i64 ((k : Int) + 1) ∧ BoxG w9 (w1.heap.size + 1) n5 vb ∧ OwnBars w9 w1.heap.size vb bars ∧ (∀ b, vb.ownBlock = some b → b ≠ w1.heap.size + 1) ∧ bars.length = k ∧ (∀ g0, isGraphB g0 = true → l = fmtG g0 → bars = g0.2.take k) ∧ Below w1.heap.size w1 w9 ∧ Zer2 w9 W.heap.size ∧ Below W.heap.size W w9) (fun i _ => ws.length - (intOf i).toNat)
  case atStart => exact ⟨0, [], _, by omega, rfl, BG.out, OB.out, fun b hb => by simp [Value.ownBlock] at hb; omega, rfl, fun _ _ _ => by simp, b2, HZ.out, B⟩
  case round =>
    clear BG OB HZ B b2
    obtain ⟨k, bars, vb, hk, rfl, hBG, hOB, hne, hbl, hpre, b2, hZ, B⟩ := hrel
    have BG := Lib.hid hBG
    have OB := Lib.hid hOB
    have HNE := Lib.hid hne
    have hbl1 : bars.length ≤ k := by omega
    have hbl2 : k ≤ bars.length := by omega
    clear hbl
    have HPRE := Lib.hid hpre
    have HZ := Lib.hid hZ
    have hzr : w1.heap.size + 1 < wr.heap.size := hBG.1
    clear hBG hOB hne hpre hZ
    have hki0 : (0 : Int) ≤ (k : Int) := by omega
    by_cases hlt : k + 1 < ws.length
    · have hlti : (k : Int) + 1 < (ws.length : Int) := by omega
      have htn : ((k : Int) + 1).toNat = k + 1 := by omega
      obtain ⟨t, ht⟩ : ∃ t, ws[k + 1]? = some t := ⟨_, List.getElem?_eq_getElem hlt⟩
      have htl := HWL.out _ t ht
      have hct := ((bcell b2).1 _ _ hgw).trans (HCW.out _ t ht)
      have HT := Lib.hid ht
      clear ht
      obtain ⟨TT, hTT⟩ : ∃ TT, TT = bs t := ⟨_, rfl⟩
      rw [← hTT] at hct
      have HTT := Lib.hid hTT
      clear hTT
      obtain ⟨ps, hps⟩ : ∃ ps, ps = cutL 45 t := ⟨_, rfl⟩
      have HCUT2 : Hid (∀ w, Calls Try.prog 38 #[.string TT, .int .u8 45] w fun e w' => ∃ v, e = .returned v ∧ OwnStrs w' w.heap.size v ps ∧ Below w.heap.size w w') := Lib.hid fun w => by rw [hps]; exact spec_l2Cut w TT t HTT.out htl 45 45 rfl
      have hpl : 1 ≤ ps.length := by rw [hps, cutL_length]; omega
      have HPW : Hid (∀ (k : Nat) u, ps[k]? = some u → u.length ≤ 1048576) := Lib.hid fun k u h => Nat.le_trans (cutL_mem (b := 45) (l := t) (by rw [← hps]; exact List.mem_of_getElem? h)).1 htl
      have HPS := Lib.hid hps
      clear hps
      go_upto_region 10 with (go_at_call 38; refine (HCUT2.out _).mono ?_; rintro e w4 ⟨v4, rfl, ho4, b4⟩; obtain ⟨gp, cp, rfl, hgp, hgpl, hcp⟩ := ho4.form (by omega))
      clear ho4
      have HCP := Lib.hid hcp
      clear hcp hct
      replace b2 := b2.step b4
      replace B := B.step b4
      replace HZ := Lib.hid (HZ.out.below b4)
      replace BG := Lib.hid (BG.out.below b4)
      replace OB := Lib.hid (OB.out.below b4)
      have hz4 := b4.size
      clear b4
      have HT2 : Hid (∀ g0, isGraphB g0 = true → l = fmtG g0 → ps.length = 2) := Lib.hid fun g0 h1 h2 => by rw [HPS.out]; exact pg_two (k := k) (by rw [← HWS.out]; exact HT.out) h1 h2
      by_cases hp2 : ps.length = 2
      · have hp2a : ((ps.length : Int) != 2) = false := by rw [hp2]; rfl
        obtain ⟨su, hsu⟩ : ∃ u, ps[0]? = some u := ⟨_, List.getElem?_eq_getElem (by omega)⟩
        obtain ⟨sv, hsv⟩ : ∃ u, ps[1]? = some u := ⟨_, List.getElem?_eq_getElem (by omega)⟩
        have q0 := HCP.out 0 su hsu
        have q1 := HCP.out 1 sv hsv
        obtain ⟨U, hU⟩ : ∃ U, U = bs su := ⟨_, rfl⟩
        obtain ⟨V, hV⟩ : ∃ V, V = bs sv := ⟨_, rfl⟩
        rw [← hU] at q0
        rw [← hV] at q1
        have HN1 : Hid (∀ w, Calls Try.prog 40 #[.string U] w fun e w' => ∃ n, e = .returned (.int .i64 n) ∧ Nm su n ∧ Below w.heap.size w w') := Lib.hid fun w => spec_l2Number w U _ hU (HPW.out _ _ hsu)
        have HN2 : Hid (∀ w, Calls Try.prog 40 #[.string V] w fun e w' => ∃ n, e = .returned (.int .i64 n) ∧ Nm sv n ∧ Below w.heap.size w w') := Lib.hid fun w => spec_l2Number w V _ hV (HPW.out _ _ hsv)
        have HSU := Lib.hid hsu
        have HSV := Lib.hid hsv
        have hpp0 : 0 < ps.length := by omega
        have hpp1 : 1 < ps.length := by omega
        have hpp0i : (0 : Int) < (ps.length : Int) := by omega
        have hpp1i : (1 : Int) < (ps.length : Int) := by omega
        have HP2 := Lib.hid hp2
        clear hsu hsv hU hV hp2
        go_upto_region 12 with (fail)
        clear hp2a
        obtain ⟨ab, cb, rfl, hib⟩ := OB.out.form
        clear hib
        have b5 : Below w4.heap.size w4 w4.drew := (Below.refl _ _).drew
        replace b2 := b2.step b5
        replace B := B.step b5
        replace HZ := Lib.hid (HZ.out.below b5)
        replace BG := Lib.hid (BG.out.below b5)
        replace OB := Lib.hid (OB.out.below b5)
        replace q0 := ((bcell b5).1 _ _ hgp).trans q0
        replace q1 := ((bcell b5).1 _ _ hgp).trans q1
        have hz5 := b5.size
        clear b5
        obtain ⟨zBG, ⟨gc0, gc1⟩, gf0, gf1⟩ := BG.out
        have tk1 := True.intro
        have tk2 := True.intro
        have tk3 := True.intro
        go_region_law
          (first
            | (clear tk1; go_simp; go_at_call 40; refine (HN1.out _).mono ?_; rintro e w5 ⟨n6, rfl, hn6, b5⟩; have hz6 := b5.size; replace b2 := b2.step b5; replace B := B.step b5; replace HZ := Lib.hid (HZ.out.below b5); replace OB := Lib.hid (OB.out.below b5); have BG5 := Lib.hid (BG.out.below b5); obtain ⟨yBG, ⟨yc0, yc1⟩, yf0, yf1⟩ := BG5.out; have y1 := ((bcell b5).1 _ _ (by omega)).trans q1; clear b5)
            | (clear tk2; go_simp; go_at_call 40; refine (HN2.out _).mono ?_; rintro e w6 ⟨n7, rfl, hn7, b6⟩; have hz7 := b6.size; replace b2 := b2.step b6; replace B := B.step b6; replace HZ := Lib.hid (HZ.out.below b6); replace OB := Lib.hid (OB.out.below b6); have BG6 := Lib.hid (BG5.out.below b6); obtain ⟨xBG, ⟨xc0, xc1⟩, xf0, xf1⟩ := BG6.out; clear b6; have b7 : Below w6.heap.size w6 (w6.alloc (.cells #[.int .i64 n6, .int .i64 n7] 87)) := (Below.refl _ _).alloc (Nat.le_refl _) _; have BG7 := Lib.hid (BG6.out.below b7); obtain ⟨vBG, ⟨vc0, vc1⟩, vf0, vf1⟩ := BG7.out; have e0 : (w6.alloc (.cells #[.int .i64 n6, .int .i64 n7] 87)).cell? ⟨w6.heap.size, 0, none⟩ = some (.int .i64 n6) := (by simp [World.cell?_alloc_new]); have e1 : (w6.alloc (.cells #[.int .i64 n6, .int .i64 n7] 87)).cell? ⟨w6.heap.size, 1, none⟩ = some (.int .i64 n7) := (by simp [World.cell?_alloc_new]))
            | (clear tk3; refine stepBar1 (by rfl) (.tmp 45) (.tmp 55) (by rfl) (by rfl) (OB.out.below b7) n6 n7 w6.heap.size (by rfl) e0 e1 (by omega) (by simp; omega) ?_; intro v8 w8 h8 k8 a8; obtain ⟨a9, c9, rfl, hi9⟩ := h8.form; clear hi9; have H8 := Lib.hid h8; have K8 := Lib.hid k8; have A8 := Lib.hid a8; clear h8 k8 a8; have BG8 := Lib.hid (BG7.out.kept K8.out (fun e => HNE.out _ e.symm rfl)); obtain ⟨tBG, ⟨tc0, tc1⟩, tf0, tf1⟩ := BG8.out)
            | fail)
        all_goals
          clear tBG tc0 tc1 tf0 tf1 vBG vc0 vc1 vf0 vf1 xBG xc0 xc1 xf0 xf1 yBG yc0 yc1 yf0 yf1 zBG gc0 gc1 gf0 gf1 e0 e1 q0 q1 y1 BG5 BG6
          have hsz7 := b7.size
          have hv7 := BG7.out.1
          have KO : Below w1.heap.size (w6.alloc (.cells #[.int .i64 n6, .int .i64 n7] 87)) w8 := K8.out.setOwn (OB.out.below b7) (Nat.le_refl _) (by omega)
          have KO2 : Below W.heap.size (w6.alloc (.cells #[.int .i64 n6, .int .i64 n7] 87)) w8 := K8.out.setOwn (OB.out.below b7) (by omega) (by omega)
          have HZ8 := (HZ.out.below b7).kept K8.out (fun e => by have := (OB.out.lt _ e.symm).1; omega)
          have e9 : (bars ++ [(n6, n7)]).length = bars.length + 1 := by simp
          have h8 := H8.out
          rw [e9] at h8
          have a8 := A8.out
          rw [e9] at a8
          have hne9 := neAt a8 HNE.out hv7
          have B9 : Below W.heap.size W (w8.setCell ⟨w1.heap.size + 1, 1, none⟩ (.slice a9 (bars.length + 1) c9)) := ((B.step b7).trans KO2).setCell (by simp; omega) _
          have b9 : Below w1.heap.size w1 (w8.setCell ⟨w1.heap.size + 1, 1, none⟩ (.slice a9 (bars.length + 1) c9)) := ((b2.step b7).trans KO).setCell (by simp) _
          have HZ9 := Lib.hid (HZ8.kept (keptSet' (S := fun b => b = w1.heap.size + 1) (j := 1) (x := .slice a9 (bars.length + 1) c9) rfl) (by omega))
          have BG9 := Lib.hid (BG8.out.set1 (vn := .slice a9 (bars.length + 1) c9))
          have OB9 := Lib.hid (h8.setAt (j := 1) hne9 (.slice a9 (bars.length + 1) c9))
          have HNE9 := Lib.hid hne9
          have HPR9 : Hid (∀ g0, isGraphB g0 = true → l = fmtG g0 → bars ++ [(n6, n7)] = g0.2.take (k + 1)) := Lib.hid fun g0 h1 h2 => pg_step (by rw [← HWS.out]; exact HT.out) (by rw [← HPS.out]; exact HSU.out) (by rw [← HPS.out]; exact HSV.out) hn6 hn7 h1 h2 (HPRE.out g0 h1 h2)
          clear K8 A8 a8 h8 KO KO2 HZ8 BG7 BG8 H8 e9 hne9
          go_wp2_with fail
          go_roundw
          case rel => exact ⟨k + 1, bars ++ [(n6, n7)], _, by omega, by go_num, BG9.out, OB9.out, HNE9.out, by simp; omega, HPR9.out, b9, HZ9.out, B9⟩
          case measure => simp [intOf]; omega
      · have hp2a : ((ps.length : Int) != 2) = true := by rw [bne_iff_ne]; omega
        have HNO : Hid (OkPG l (0, []) false) := Lib.hid (OkPG.no fun g0 h1 h2 => hp2 (HT2.out g0 h1 h2))
        obtain ⟨⟨z1, z2, z3, c0, c1⟩, ⟨f0, f1⟩, gz⟩ := HZ.out
        have HLD := Lib.hid (laid2 (p := 0) (g := W.heap.size) (OwnBars.nil w4 u.heap.size) (Nat.le_refl _) (by omega) (by omega) B)
        go_wp2_with fail
        refine bodyPost_ret (v := .tuple #[.agg #[.int .i64 0, .slice none 0 0], .bool false]) (by simp [results, Try.results39, go_sem, gz, c0, c1]) rfl (RetPG.mk rfl HLD.out.1 HNO.out HLD.out.2)
    · have hkn : ws.length ≤ k + 1 := by omega
      have hlti : ¬ ((k : Int) + 1 < (ws.length : Int)) := by omega
      obtain ⟨ab, cb, rfl, hib⟩ := OB.out.form
      clear hib
      obtain ⟨zBG, ⟨gc0, gc1⟩, gf0, gf1⟩ := BG.out
      have hbn : bars.length ≤ 1048576 := by omega
      have hGR : IsGraph wr (.agg #[.int .i64 n5, .slice ab bars.length cb]) (n5, bars) := by
        obtain ⟨a', c', he, hi⟩ := OB.out.form
        simp only [Value.slice.injEq, true_and] at he
        obtain ⟨rfl, rfl⟩ := he
        exact ⟨_, _, rfl, hi⟩
      obtain ⟨fs, hfs⟩ : ∃ fs, fs = bs (fmtG (n5, bars)) := ⟨_, rfl⟩
      have HFG : Hid (Calls Try.prog 33 #[.agg #[.int .i64 n5, .slice ab bars.length cb]] wr fun e w' => e = .returned (.string fs) ∧ Below wr.heap.size wr w') := Lib.hid (by rw [hfs]; exact spec_FormatGraph wr _ (n5, bars) hGR hbn)
      have hq := eqS hfs HS.out
      have HOK : Hid (∀ g0, isGraphB g0 = true → l = fmtG g0 → (n5, bars) = g0) := Lib.hid fun g0 h1 h2 => by
        have e1 := HP.out g0 h1 h2
        have e2 := HPRE.out g0 h1 h2
        have e3 := pg_len h1 h2
        rw [← HWS.out] at e3
        rw [List.take_of_length_le (by omega)] at e2
        rw [e1, e2]
      clear hGR hfs
      by_cases hqq : fmtG (n5, bars) = l
      · rw [decide_eq_true hqq] at hq
        clear hqq
        go_wp2_with (go_at_call 33; refine HFG.out.mono ?_; rintro e w8 ⟨rfl, b8⟩; replace B := B.step b8; replace HZ := Lib.hid (HZ.out.below b8); have BG8 := Lib.hid (BG.out.below b8); have OB8 := Lib.hid (OB.out.below b8); obtain ⟨yBG, ⟨yc0, yc1⟩, yf0, yf1⟩ := BG8.out; obtain ⟨⟨z1, z2, z3, c0, c1⟩, ⟨f0, f1⟩, gz⟩ := HZ.out)
        have HLD := laid2 (p := n5) (g := W.heap.size) OB8.out (Nat.le_refl _) (by omega) (by omega) B
        refine bodyPost_ret (v := .tuple #[.agg #[.int .i64 n5, .slice ab bars.length cb], .bool true]) (by simp [results, Try.results39, go_sem, gz, c0, c1]) rfl (RetPG.mk rfl HLD.1 ⟨by have := HCT.out; show bars.length ≤ _; omega, fun g0 h1 h2 => ⟨rfl, HOK.out g0 h1 h2⟩⟩ HLD.2)
      · rw [decide_eq_false hqq] at hq
        have HNO : Hid (OkPG l (0, []) false) := Lib.hid (OkPG.no fun g0 h1 h2 => hqq (by rw [HOK.out g0 h1 h2, h2]))
        clear hqq
        go_wp2_with (go_at_call 33; refine HFG.out.mono ?_; rintro e w8 ⟨rfl, b8⟩; replace B := B.step b8; replace HZ := Lib.hid (HZ.out.below b8); obtain ⟨⟨z1, z2, z3, c0, c1⟩, ⟨f0, f1⟩, gz⟩ := HZ.out)
        have HLD := laid2 (p := 0) (g := W.heap.size) (OwnBars.nil w8 u.heap.size) (Nat.le_refl _) (by omega) (by omega) B
        refine bodyPost_ret (v := .tuple #[.agg #[.int .i64 0, .slice none 0 0], .bool false]) (by simp [results, Try.results39, go_sem, gz, c0, c1]) rfl (RetPG.mk rfl HLD.1 HNO.out HLD.2)
end Go.Proofs.Ytnjecekaenddiaa
