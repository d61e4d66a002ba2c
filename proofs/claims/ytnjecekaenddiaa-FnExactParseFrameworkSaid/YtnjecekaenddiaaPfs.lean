/- ParseFramework of the reference. Condition: texts up to 2^20 bytes. -/
import Derived.Test.YtnjecekaenddiaaPrf1
import Derived.Test.YtnjecekaenddiaaOrdZ
import Derived.Test.YtnjecekaenddiaaPgi
import Derived.Test.YtnjecekaenddiaaPgs
import Derived.Deep.RegionHeld3
import Derived.OwnWalk
import Derived.BigRegion
namespace Go.Proofs.Ytnjecekaenddiaa
open Go.RowKit
set_option maxRecDepth 100000
set_option linter.unusedVariables false
set_option linter.unusedSimpArgs false

/-- what follows a statement that is the last of its block, as a variable -/
theorem wp_asThen {P : Program} {s : Code} {Q : Exit → Act → World → Prop} {a : Act} {w : World} (h : ∀ K : Act → World → Prop, (∀ a w, Q .normal a w → K a w) → s.wp P (Exit.then K Q) a w) : s.wp P Q a w := by
  refine Code.wp_mono ?_ (h (fun a w => Q .normal a w) (fun _ _ h => h))
  intro e a w hq
  cases e <;> exact hq
theorem eqK {s : ByteArray} {l : List UInt8} (m : List UInt8) (hs : s = bs l) : (s.toList == m) = decide (l = m) := by
  rw [ByteArray.toList_eq, hs, bs_data]
  exact Bool.eq_iff_iff.2 (by simp)
set_option maxHeartbeats 16000000 in
theorem spec_ParseFramework (W : World) (S : ByteArray) (l : List UInt8) (hS : S = bs l) (hn : l.length ≤ 1048576) :
    Calls Try.prog 17 #[.string S] W (RetPF W l) := by
  have HS := Lib.hid hS
  clear hS
  obtain ⟨ws, hws⟩ : ∃ ws, ws = cutL 32 l := ⟨_, rfl⟩
  have HWL : Hid (∀ (k : Nat) t, ws[k]? = some t → t.length + ws.length ≤ 1048577) := Lib.hid fun k t h => by
    have h1 := cutL_room (b := 32) (l := l) (by rw [← hws]; exact List.mem_of_getElem? h)
    have h2 := cutL_length 32 l
    rw [← hws] at h2
    omega
  have hwn : 1 ≤ ws.length ∧ ws.length ≤ 1048577 := by
    rw [hws]; have := cutL_le 32 l; have := cutL_length 32 l; omega
  have HCUT : Hid (∀ w, Calls Try.prog 38 #[.string S, .int .u8 32] w fun e w' => ∃ v, e = .returned v ∧ OwnStrs w' w.heap.size v ws ∧ Below w.heap.size w w') := Lib.hid fun w => by rw [hws]; exact spec_l2Cut w S l HS.out hn 32 32 rfl
  have HWS := Lib.hid hws
  clear hws
  have HZ : Hid (Zer3' (W.alloc (.cells #[.int .i64 0, .slice none 0 0, .slice none 0 0] 42)) W.heap.size) := Lib.hid (Zer3'.at W _)
  have B0 : Below W.heap.size W (W.alloc (.cells #[.int .i64 0, .slice none 0 0, .slice none 0 0] 42)) := (Below.refl _ _).alloc (Nat.le_refl _) _
  have hz0 : W.heap.size < (W.alloc (.cells #[.int .i64 0, .slice none 0 0, .slice none 0 0] 42)).heap.size := by simp
  go_enter Try.func17, Try.ntmps17
  go_wp2_with fail
  generalize (W.alloc (.cells #[.int .i64 0, .slice none 0 0, .slice none 0 0] 42)) = u at *
  refine (HCUT.out _).mono ?_
  rintro e w1 ⟨v, rfl, ho, b⟩
  obtain ⟨gw, cw, rfl, hgw, hgl, hcw⟩ := ho.form (by omega)
  have HCW := Lib.hid hcw
  replace HZ := Lib.hid (HZ.out.below b)
  have B := B0.step b
  have hz1 := b.size
  clear ho hcw b B0
  go_wp2_with fail
  go_loop [5] (fun i => ∃ k : Nat, k ≤ ws.length ∧ i = .int .i64 (k : Int) ∧ ∀ j, j < k → ws[j]? ≠ some [97, 116]) (fun i => ws.length - (intOf i).toNat)
  case atStart => exact ⟨0, by omega, rfl, fun j hj => by omega⟩
  case round =>
    obtain ⟨k, hk, rfl, hno⟩ := hrel
    have HNO := Lib.hid hno
    clear hno
    have hki0 : (0 : Int) ≤ (k : Int) := by omega
    by_cases hlt : k < ws.length
    · have hlti : (k : Int) < (ws.length : Int) := by omega
      obtain ⟨t, ht⟩ : ∃ t, ws[k]? = some t := ⟨_, List.getElem?_eq_getElem hlt⟩
      have hct := HCW.out _ t ht
      have htl := HWL.out _ t ht
      have HT := Lib.hid ht
      clear ht
      obtain ⟨TT, hTT⟩ : ∃ TT, TT = bs t := ⟨_, rfl⟩
      rw [← hTT] at hct
      have hq := eqK [97, 116] hTT
      have HTT := Lib.hid hTT
      clear hTT
      by_cases hat : t = [97, 116]
      · rw [decide_eq_true hat] at hq
        rw [hat] at HT
        have hnl : ((k : Int) == (ws.length : Int)) = false := by rw [beq_eq_false_iff_ne]; omega
        by_cases hk0 : k = 0
        · have hkz : ((k : Int) == 0) = true := by rw [hk0]; rfl
          have HNOF : Hid (OkPF l (0, [], []) false) := Lib.hid (OkPF.no fun f0 h1 h2 => by
            have := (pf_at (l := l) (k := k) (.inl (by rw [← HWS.out]; exact HT.out)) (by rw [← HWS.out]; exact HNO.out) h1 h2).1
            omega)
          obtain ⟨⟨z1, z2, z3, c0, c1, c2⟩, ⟨f0, f1, f2⟩, gz⟩ := HZ.out
          have HLD := Lib.hid (laid3' (p := 0) (g := W.heap.size) (OwnBars.nil w1 u.heap.size) (OwnPlaces.nil w1 u.heap.size) (Nat.le_refl _) (by omega) (by omega) B)
          clear hk0 hat
          go_wp2_with fail
          refine bodyPost_ret (v := .tuple #[.agg #[.int .i64 0, .slice none 0 0, .slice none 0 0], .bool false]) (by simp [results, Try.results17, go_sem, gz, c0, c1, c2]) rfl (RetPF.mk rfl HLD.out.1 HNOF.out HLD.out.2)
        have hkz : ((k : Int) == 0) = false := by rw [beq_eq_false_iff_ne]; omega
        have HK0 := Lib.hid hk0
        clear hk0 hat
        go_upto_region 7 with (fail)
        clear hkz hnl hq hct HTT htl hlti
        obtain ⟨t0, ht0⟩ : ∃ t0, ws[0]? = some t0 := ⟨_, List.getElem?_eq_getElem (by omega)⟩
        have hct := HCW.out _ t0 ht0
        have HT0 := Lib.hid ht0
        clear ht0
        obtain ⟨T0, hT0⟩ : ∃ T0, T0 = bs t0 := ⟨_, rfl⟩
        rw [← hT0] at hct
        have HTT := Lib.hid hT0
        clear hT0
        have hws0 : 0 < ws.length := by omega
        have hws0i : (0 : Int) < (ws.length : Int) := by omega
        have HJL : Hid (∀ i, i ≤ ws.length → (jnTo [32] ws i).length ≤ 1048576) := Lib.hid fun i hi => by
          rw [HWS.out] at hi ⊢
          exact Nat.le_trans (jn_cut 32 l i hi) hn
        go_wp2_with fail
        clear hct
        go_loop [6, 7] (fun o iv => ∃ (i : Nat) (s : ByteArray), 1 ≤ i ∧ i ≤ k ∧ iv = .int .i64 (i : Int) ∧ o = .string s ∧ s = bs (jnTo [32] ws i)) (fun _ iv => k - (intOf iv).toNat)
        case atStart => exact ⟨1, T0, by omega, by have := HK0.out; omega, rfl, rfl, by rw [HTT.out]; simp [jnTo, HT0.out]⟩
        case round =>
          clear HTT HT0
          obtain ⟨i, s, hi1, hik, rfl, rfl, hs⟩ := hrel
          have HSS := Lib.hid hs
          clear hs
          have hii0 : (0 : Int) ≤ (i : Int) := by omega
          by_cases hltk : i < k
          · have hltki : (i : Int) < (k : Int) := by omega
            obtain ⟨t, ht⟩ : ∃ t, ws[i]? = some t := ⟨_, List.getElem?_eq_getElem (by omega)⟩
            have hct := HCW.out _ t ht
            have htl := HWL.out _ t ht
            have HJ := jnTo_pos (sep := [32]) (show 0 < i by omega) ht
            obtain ⟨TT, hTT⟩ : ∃ TT, TT = bs t := ⟨_, rfl⟩
            rw [← hTT] at hct
            have hj1 := HJL.out i (by omega)
            obtain ⟨s1, hs1, S1⟩ := addY (a := s) (b := { data := #[32] }) HSS.out (show _ = bs [32] from rfl) (by simp only [List.length_cons, List.length_nil]; omega)
            obtain ⟨s2, hs2, S2⟩ := addY (a := s1) (b := TT) S1.out hTT (by simp only [List.length_append, List.length_cons, List.length_nil]; omega)
            have HS2 : Hid (s2 = bs (jnTo [32] ws (i + 1))) := Lib.hid (by rw [S2.out, HJ])
            have hitn : i < ws.length := by omega
            have hitni : (i : Int) < (ws.length : Int) := by omega
            clear ht htl HJ hTT hj1
            go_wp2_with fail
            go_round
            case rel => exact ⟨i + 1, s2, by omega, by omega, by go_num, rfl, HS2.out⟩
            case measure => simp [intOf]; omega
          · have hik2 : i = k := by omega
            have hltki : ¬ (i : Int) < (k : Int) := by omega
            rw [hik2] at HSS
            clear hik2
            obtain ⟨tx, htx⟩ : ∃ tx, tx = jnTo [32] ws k := ⟨_, rfl⟩
            have htxl : tx.length ≤ 1048576 := by rw [htx]; exact HJL.out k (by omega)
            have HPG : Hid (∀ w, Calls Try.prog 39 #[.string s] w (RetPG w tx)) := Lib.hid fun w => spec_ParseGraph w s tx (by rw [htx]; exact HSS.out) htxl
            have HTXC : Hid (tx.count 32 = k - 1) := Lib.hid (by rw [htx, HWS.out]; exact pf_count (by rw [← HWS.out]; omega))
            have HTX := Lib.hid htx
            have HPAT : Hid (∀ f0, isFwB f0 = true → l = fmtF f0 → k = f0.2.1.length + 1 ∧ ws.length = f0.2.1.length + 1 + f0.2.2.length + 1 ∧ tx = fmtG (f0.1, f0.2.1)) := Lib.hid fun f0 h1 h2 => by
              have := pf_at (l := l) (k := k) (.inl (by rw [← HWS.out]; exact HT.out)) (by rw [← HWS.out]; exact HNO.out) h1 h2
              rw [← HWS.out, ← HTX.out] at this
              exact this
            clear htx htxl hltki
            go_upto_region 14 with (go_at_call 39; refine (HPG.out _).mono ?_; rintro e w2 ⟨v2, ⟨pg, bars⟩, bg, rfl, ⟨vb, ⟨ab, cb, rfl, rfl⟩, hob⟩, hog, b2⟩)
            have hbl : bars.length ≤ k - 1 := by rw [← HTXC.out]; exact hog.1
            have HOG : Hid (∀ f0, isFwB f0 = true → l = fmtF f0 → bg = true ∧ (pg, bars) = (f0.1, f0.2.1)) := Lib.hid fun f0 h1 h2 => hog.2 (f0.1, f0.2.1) (okF h1).1 (HPAT.out f0 h1 h2).2.2
            have hz2 := b2.size
            have hbU : Below w2.heap.size w2 (((w2.alloc (.cells #[.int .i64 pg, .slice ab bars.length cb] 39)).alloc (.cells #[] 67)).alloc (.cells #[.int .i64 pg, .slice ab bars.length cb, .slice (some ⟨w2.heap.size + 1, 0, none⟩) 0 0] 42)) := (((Below.refl _ _).alloc (Nat.le_refl _) _).alloc (by simp) _).alloc (by simp; omega) _
            have BX : Hid (BoxT (((w2.alloc (.cells #[.int .i64 pg, .slice ab bars.length cb] 39)).alloc (.cells #[] 67)).alloc (.cells #[.int .i64 pg, .slice ab bars.length cb, .slice (some ⟨w2.heap.size + 1, 0, none⟩) 0 0] 42)) (w2.heap.size + 1 + 1) pg (.slice ab bars.length cb) (.slice (some ⟨w2.heap.size + 1, 0, none⟩) 0 0)) := Lib.hid (BoxT.at (by simp))
            have OP : Hid (OwnPlaces (((w2.alloc (.cells #[.int .i64 pg, .slice ab bars.length cb] 39)).alloc (.cells #[] 67)).alloc (.cells #[.int .i64 pg, .slice ab bars.length cb, .slice (some ⟨w2.heap.size + 1, 0, none⟩) 0 0] 42)) w2.heap.size (.slice (some ⟨w2.heap.size + 1, 0, none⟩) 0 0) []) := Lib.hid (by
              have h1 := OwnPlaces.made (w2.alloc (.cells #[.int .i64 pg, .slice ab bars.length cb] 39)) w2.heap.size (by simp)
              rw [show (w2.alloc (.cells #[.int .i64 pg, .slice ab bars.length cb] 39)).heap.size = w2.heap.size + 1 by simp] at h1
              exact h1.below ((Below.refl _ _).alloc (Nat.le_refl _) _))
            have HB : Hid (HBars (((w2.alloc (.cells #[.int .i64 pg, .slice ab bars.length cb] 39)).alloc (.cells #[] 67)).alloc (.cells #[.int .i64 pg, .slice ab bars.length cb, .slice (some ⟨w2.heap.size + 1, 0, none⟩) 0 0] 42)) w1.heap.size w2.heap.size (.slice ab bars.length cb) bars) := Lib.hid (hob.h.below hbU)
            have HNV : Hid (∀ b, (Value.slice (some ⟨w2.heap.size + 1, 0, none⟩) 0 0).ownBlock = some b → b ≠ w2.heap.size + 1 + 1) := Lib.hid fun b hb => by simp [Value.ownBlock] at hb; omega
            replace b2 := b2.step hbU
            replace B := B.step b2
            replace HZ := Lib.hid (HZ.out.below b2)
            have ST : Hid (StF W w1 W.heap.size w1.heap.size w2.heap.size (w2.heap.size + 1 + 1) pg (.slice ab bars.length cb) (.slice (some ⟨w2.heap.size + 1, 0, none⟩) 0 0) bars [] (((w2.alloc (.cells #[.int .i64 pg, .slice ab bars.length cb] 39)).alloc (.cells #[] 67)).alloc (.cells #[.int .i64 pg, .slice ab bars.length cb, .slice (some ⟨w2.heap.size + 1, 0, none⟩) 0 0] 42))) := Lib.hid ⟨BX.out, OP.out, HNV.out, HB.out, HZ.out, b2, B, by omega⟩
            clear hob hog hbU BX OP HNV HB HZ b2 B
            generalize (((w2.alloc (.cells #[.int .i64 pg, .slice ab bars.length cb] 39)).alloc (.cells #[] 67)).alloc (.cells #[.int .i64 pg, .slice ab bars.length cb, .slice (some ⟨w2.heap.size + 1, 0, none⟩) 0 0] 42)) = w3 at *
            generalize (Value.slice (some ⟨w2.heap.size + 1, 0, none⟩) 0 0) = vp0 at *
            generalize w2.heap.size + 1 + 1 = g2 at *
            generalize w2.heap.size = x2 at *
            obtain ⟨m, hm⟩ : ∃ m, ws.length = k + 1 + m := ⟨ws.length - (k + 1), by omega⟩
            have HM := Lib.hid hm
            clear hm
            have hwk := IntWalk.i64_in ((k : Int) + 1) (by omega)

            go_wp2_with fail
            go_loopw [11] (fun iv w9 => ∃ (i : Nat) (ps : List PlaceT) (vp : Value), i ≤ m ∧ iv = .int .i64 ((k : Int) + 1 + (i : Int)) ∧ StF W w1 W.heap.size w1.heap.size x2 g2 pg (.slice ab bars.length cb) vp bars ps w9 ∧ ps.length = i ∧ (∀ f0, isFwB f0 = true → l = fmtF f0 → ps = f0.2.2.take i)) (fun iv _ => ws.length - (intOf iv).toNat)
            case atStart => exact ⟨0, [], _, by omega, by go_num, ST.out, rfl, fun _ _ _ => by simp⟩
            case round =>
              clear ST
              obtain ⟨i, ps, vp, hi, rfl, hST, hpl0, hpre⟩ := hrel
              have ST := Lib.hid hST
              have HOWN : Hid (∀ b, vp.ownBlock = some b → b < wr.heap.size) := Lib.hid fun b hb => (hST.op.lt b hb).2
              have hpl1 : ps.length ≤ i := by omega
              have hpl2 : i ≤ ps.length := by omega
              clear hpl0
              have HPRE := Lib.hid hpre
              clear hpre hST
              have hki1 : (0 : Int) ≤ (k : Int) + 1 + (i : Int) := by omega
              by_cases hlt3 : k + 1 + i < ws.length
              · have hlti3 : (k : Int) + 1 + (i : Int) < (ws.length : Int) := by omega
                have htn : ((k : Int) + 1 + (i : Int)).toNat = k + 1 + i := by omega
                obtain ⟨t, ht⟩ : ∃ t, ws[k + 1 + i]? = some t := ⟨_, List.getElem?_eq_getElem hlt3⟩
                have htl : t.length ≤ 1048576 := by have := HWL.out _ t ht; omega
                have hct := ((bcell ST.out.b2).1 _ _ hgw).trans (HCW.out _ t ht)
                have HTI := Lib.hid ht
                clear ht
                obtain ⟨TT, hTT⟩ : ∃ TT, TT = bs t := ⟨_, rfl⟩
                rw [← hTT] at hct
                have HTT := Lib.hid hTT
                clear hTT
                obtain ⟨qs, hqs⟩ : ∃ qs, qs = cutL 44 t := ⟨_, rfl⟩
                have HCUT2 : Hid (∀ w, Calls Try.prog 38 #[.string TT, .int .u8 44] w fun e w' => ∃ v, e = .returned v ∧ OwnStrs w' w.heap.size v qs ∧ Below w.heap.size w w') := Lib.hid fun w => by rw [hqs]; exact spec_l2Cut w TT t HTT.out htl 44 44 rfl
                have hql : 1 ≤ qs.length := by rw [hqs, cutL_length]; omega
                have HPW : Hid (∀ (k : Nat) u, qs[k]? = some u → u.length ≤ 1048576) := Lib.hid fun k u h => Nat.le_trans (cutL_mem (b := 44) (l := t) (by rw [← hqs]; exact List.mem_of_getElem? h)).1 htl
                have HQS := Lib.hid hqs
                clear hqs
                go_upto_region 18 with (go_at_call 38; refine (HCUT2.out _).mono ?_; rintro e w4 ⟨v4, rfl, ho4, b4⟩; obtain ⟨gp, cp, rfl, hgp, hgpl, hcp⟩ := ho4.form (by omega))
                clear ho4
                have HCP := Lib.hid hcp
                clear hcp hct
                replace ST := Lib.hid (ST.out.below b4)
                clear b4
                have HT2 : Hid (∀ f0, isFwB f0 = true → l = fmtF f0 → qs.length = 2) := Lib.hid fun f0 h1 h2 => by rw [HQS.out]; exact pf_two (k := k) (i := i) (by rw [← HWS.out]; exact HTI.out) h1 h2 (HPAT.out f0 h1 h2).1
                by_cases hp2 : qs.length = 2
                · have hp2a : ((qs.length : Int) != 2) = false := by rw [hp2]; rfl
                  obtain ⟨su, hsu⟩ : ∃ u, qs[0]? = some u := ⟨_, List.getElem?_eq_getElem (by omega)⟩
                  obtain ⟨sv, hsv⟩ : ∃ u, qs[1]? = some u := ⟨_, List.getElem?_eq_getElem (by omega)⟩
                  have q0 := HCP.out 0 su hsu
                  have q1 := HCP.out 1 sv hsv
                  obtain ⟨U, hU⟩ : ∃ U, U = bs su := ⟨_, rfl⟩
                  obtain ⟨V, hV⟩ : ∃ V, V = bs sv := ⟨_, rfl⟩
                  rw [← hU] at q0
                  rw [← hV] at q1
                  have HN1 : Hid (∀ w, Calls Try.prog 40 #[.string U] w fun e w' => ∃ n, e = .returned (.int .i64 n) ∧ Nm su n ∧ Below w.heap.size w w') := Lib.hid fun w => spec_l2Number w U _ hU (HPW.out _ _ hsu)
                  have HN2 : Hid (∀ w, Calls Try.prog 40 #[.string V] w fun e w' => ∃ n, e = .returned (.int .i64 n) ∧ Nm sv n ∧ Below w.heap.size w w') := Lib.hid fun w => spec_l2Number w V _ hV (HPW.out _ _ hsv)
                  have HPR : Hid (∀ n6 n7, Nm su n6 → Nm sv n7 → ∀ f0, isFwB f0 = true → l = fmtF f0 → ps ++ [(n6, n7)] = f0.2.2.take (i + 1)) := Lib.hid fun n6 n7 hn6 hn7 f0 h1 h2 => pf_step (k := k) (by rw [← HWS.out]; exact HTI.out) (by rw [← HQS.out]; exact hsu) (by rw [← HQS.out]; exact hsv) hn6 hn7 h1 h2 (HPAT.out f0 h1 h2).1 (HPRE.out f0 h1 h2)
                  have hpp0 : 0 < qs.length := by omega
                  have hpp1 : 1 < qs.length := by omega
                  have hpp0i : (0 : Int) < (qs.length : Int) := by omega
                  have hpp1i : (1 : Int) < (qs.length : Int) := by omega
                  clear hsu hsv hU hV hp2
                  go_upto_region 20 with (fail)
                  clear hp2a
                  obtain ⟨ap, capp, rfl, hib⟩ := ST.out.op.form
                  clear hib
                  have b5 : Below w4.heap.size w4 w4.drew := (Below.refl _ _).drew
                  replace ST := Lib.hid (ST.out.below b5)
                  replace q0 := ((bcell b5).1 _ _ hgp).trans q0
                  replace q1 := ((bcell b5).1 _ _ hgp).trans q1
                  replace hgp : gp < w4.drew.heap.size := hgp
                  have gc2 := ST.out.bx.2.1.2.2
                  have hpl9 : ps.length < 1099511627776 := by omega
                  clear b5
                  have SK : Hid (∀ w', Below w4.drew.heap.size w4.drew w' → w'.cell? ⟨gp, 0, none⟩ = some (.string U) ∧ w'.cell? ⟨gp, 1, none⟩ = some (.string V) ∧ w'.cell? ⟨g2, 2, none⟩ = some (.slice ap ps.length capp)) := Lib.hid fun w' hb => ⟨((bcell hb).1 _ _ hgp).trans q0, ((bcell hb).1 _ _ hgp).trans q1, ((bcell hb).1 _ _ ST.out.bx.1).trans gc2⟩
                  have bd : Below w4.drew.heap.size w4.drew w4.drew := Below.refl _ _
                  have HOG2 : Hid (∀ b, (Value.slice ap ps.length capp).ownBlock = some b → b ≠ gp) := Lib.hid fun b hb => by have := HOWN.out b hb; omega
                  refine wp_regionZ (fun w' => w'.cell? ⟨gp, 0, none⟩ = some (.string U) ∧ w'.cell? ⟨gp, 1, none⟩ = some (.string V) ∧ w'.cell? ⟨g2, 2, none⟩ = some (.slice ap ps.length capp)) 14 (by kernel_rfl) ?_
                  refine wpAnyZ_take (i := 0) (v := ?_) rfl (by kernel_rfl) (by kernel_rfl) (by kernel_rfl) (by kernel_rfl) (by kernel_rfl) (fun _ _ _ h => h) (SK.out _ bd) (by rfl) ?_ ?_
                  rotate_left
                  · intro x hx; obtain ⟨x1, x2, x3⟩ := hx; go_simp; try (with_reducible rfl)
                  try simp only [Act.put, List.setIfInBounds_toArray, List.set_cons_zero, List.set_cons_succ]
                  refine wpAnyZ_take (i := 1) (v := ?_) rfl (by kernel_rfl) (by kernel_rfl) (by kernel_rfl) (by kernel_rfl) (by kernel_rfl) (fun _ _ _ h => h) (SK.out _ bd) (by rfl) ?_ ?_
                  rotate_left
                  · intro x hx; obtain ⟨x1, x2, x3⟩ := hx; go_simp; try (with_reducible rfl)
                  try simp only [Act.put, List.setIfInBounds_toArray, List.set_cons_zero, List.set_cons_succ]
                  refine wpAnyZ_take (i := 2) (v := ?_) rfl (by kernel_rfl) (by kernel_rfl) (by kernel_rfl) (by kernel_rfl) (by kernel_rfl) (fun _ _ _ h => h) (SK.out _ bd) (by rfl) ?_ ?_
                  rotate_left
                  · intro x hx; obtain ⟨x1, x2, x3⟩ := hx; go_simp; try (with_reducible rfl)
                  try simp only [Act.put, List.setIfInBounds_toArray, List.set_cons_zero, List.set_cons_succ]
                  refine wpAnyZ_take (i := 3) (v := ?_) rfl (by kernel_rfl) (by kernel_rfl) (by kernel_rfl) (by kernel_rfl) (by kernel_rfl) (fun _ _ _ h => h) (SK.out _ bd) (by rfl) ?_ ?_
                  rotate_left
                  · intro x hx; obtain ⟨x1, x2, x3⟩ := hx; go_simp; try (with_reducible rfl)
                  try simp only [Act.put, List.setIfInBounds_toArray, List.set_cons_zero, List.set_cons_succ]
                  refine wpAnyZ_take (i := 4) (v := ?_) rfl (by kernel_rfl) (by kernel_rfl) (by kernel_rfl) (by kernel_rfl) (by kernel_rfl) (fun _ _ _ h => h) (SK.out _ bd) (by rfl) ?_ ?_
                  rotate_left
                  · intro x hx; obtain ⟨x1, x2, x3⟩ := hx; go_simp; try (with_reducible rfl)
                  try simp only [Act.put, List.setIfInBounds_toArray, List.set_cons_zero, List.set_cons_succ]
                  refine wpAnyZ_take (i := 6) (v := ?_) rfl (by kernel_rfl) (by kernel_rfl) (by kernel_rfl) (by kernel_rfl) (by kernel_rfl) (fun _ _ _ h => h) (SK.out _ bd) (by rfl) ?_ ?_
                  rotate_left
                  · intro x hx; obtain ⟨x1, x2, x3⟩ := hx; go_simp; try (with_reducible rfl)
                  try simp only [Act.put, List.setIfInBounds_toArray, List.set_cons_zero, List.set_cons_succ]
                  refine wpAnyZ_take (i := 7) (v := ?_) rfl (by kernel_rfl) (by kernel_rfl) (by kernel_rfl) (by kernel_rfl) (by kernel_rfl) (fun _ _ _ h => h) (SK.out _ bd) (by rfl) ?_ ?_
                  rotate_left
                  · intro x hx; obtain ⟨x1, x2, x3⟩ := hx; go_simp; try (with_reducible rfl)
                  try simp only [Act.put, List.setIfInBounds_toArray, List.set_cons_zero, List.set_cons_succ]
                  refine wpAnyZ_take (i := 8) (v := ?_) rfl (by kernel_rfl) (by kernel_rfl) (by kernel_rfl) (by kernel_rfl) (by kernel_rfl) (fun _ _ _ h => h) (SK.out _ bd) (by rfl) ?_ ?_
                  rotate_left
                  · intro x hx; obtain ⟨x1, x2, x3⟩ := hx; go_simp; try (with_reducible rfl)
                  try simp only [Act.put, List.setIfInBounds_toArray, List.set_cons_zero, List.set_cons_succ]
                  refine wpAnyZ_step (i := 5) (by kernel_rfl) rfl (by rfl) ?_
                  intro KK hKK
                  go_simp
                  go_at_call 40
                  refine (HN1.out _).mono ?_
                  rintro e w5 ⟨n6, rfl, hn6, b5⟩
                  have ST5 := Lib.hid (ST.out.below b5)
                  have bd5 := bd.step b5
                  clear b5
                  go_wp2_with fail
                  refine hKK.out _ _ (.inr (SK.out _ bd5)) ?_
                  clear hKK KK
                  try simp only [Act.put, List.setIfInBounds_toArray, List.set_cons_zero, List.set_cons_succ]
                  refine wpAnyZ_step (i := 9) (by kernel_rfl) rfl (by rfl) ?_
                  intro KK hKK
                  go_simp
                  go_at_call 40
                  refine (HN2.out _).mono ?_
                  rintro e w6 ⟨n7, rfl, hn7, b6⟩
                  have ST6 := Lib.hid (ST5.out.below b6)
                  have bd6 := bd5.step b6
                  clear b6
                  go_wp2_with fail
                  refine hKK.out _ _ (.inr (SK.out _ bd6)) ?_
                  clear hKK KK
                  try simp only [Act.put, List.setIfInBounds_toArray, List.set_cons_zero, List.set_cons_succ]
                  refine wpAnyZ_take (i := 10) (v := ?_) rfl (by kernel_rfl) (by kernel_rfl) (by kernel_rfl) (by kernel_rfl) (by kernel_rfl) (fun _ _ _ h => h) (SK.out _ bd6) (by rfl) ?_ ?_
                  rotate_left
                  · intro x hx; obtain ⟨x1, x2, x3⟩ := hx; go_simp; try (with_reducible rfl)
                  try simp only [Act.put, List.setIfInBounds_toArray, List.set_cons_zero, List.set_cons_succ]
                  have bA := belAlloc w6 (.cells #[.int .i64 n6, .int .i64 n7] 67)
                  have bd7 := bd6.step bA
                  have ST7 := Lib.hid (ST6.out.below bA)
                  clear bA
                  refine wpAnyZ_step (i := 11) (by kernel_rfl) rfl (by rfl) ?_
                  intro KK hKK
                  go_simp
                  refine hKK.out _ _ (.inr (SK.out _ bd7)) ?_
                  clear hKK KK
                  try simp only [Act.put, List.setIfInBounds_toArray, List.set_cons_zero, List.set_cons_succ]
                  refine wpAnyZ_step (i := 12) (by kernel_rfl) rfl (by rfl) ?_
                  intro KK hKK
                  refine stepPl2 (by rfl) (.tmp 78) (.tmp 88) (by rfl) (by rfl) ST7.out.op n6 n7 w6.heap.size (by rfl) (newCells2 w6 _ _ _).1 (newCells2 w6 _ _ _).2 hpl9 ST7.out.szx ?_
                  intro a9 c9 w8 h8 k8 a8
                  have FIN := ST7.out.app k8 h8 a8
                  obtain ⟨tBG, ⟨tc0, tc1, tc2⟩, tf0, tf1, tf2⟩ := FIN.1
                  have ST9 := Lib.hid FIN.2
                  have s7 := SK.out _ bd7
                  have hg7 : gp < (w6.alloc (.cells #[.int .i64 n6, .int .i64 n7] 67)).heap.size := Nat.lt_of_lt_of_le hgp bd7.size
                  have s8 : w8.cell? ⟨gp, 0, none⟩ = some (.string U) ∧ w8.cell? ⟨gp, 1, none⟩ = some (.string V) ∧ w8.cell? ⟨g2, 2, none⟩ = some (.slice ap ps.length capp) := ⟨(k8.cell hg7 (fun e => HOG2.out _ e.symm rfl)).trans s7.1, (k8.cell hg7 (fun e => HOG2.out _ e.symm rfl)).trans s7.2.1, tc2⟩
                  clear FIN h8 k8 a8 s7
                  refine hKK.out _ _ (.inr s8) ?_
                  clear hKK KK
                  try simp only [Act.put, List.setIfInBounds_toArray, List.set_cons_zero, List.set_cons_succ]
                  refine wpAnyZ_take (i := 13) (v := ?_) rfl (by kernel_rfl) (by kernel_rfl) (by kernel_rfl) (by kernel_rfl) (by kernel_rfl) (fun _ _ _ h => h) s8 (by rfl) ?_ ?_
                  rotate_left
                  · intro x hx; obtain ⟨x1, x2, x3⟩ := hx; go_simp; try (with_reducible rfl)
                  try simp only [Act.put, List.setIfInBounds_toArray, List.set_cons_zero, List.set_cons_succ]
                  refine wpAnyZ_step (i := 14) (by kernel_rfl) rfl (by rfl) ?_
                  intro KK hKK
                  go_simp
                  refine hKK.out _ _ (.inl (by kernel_rfl)) ?_
                  clear hKK KK
                  try simp only [Act.put, List.setIfInBounds_toArray, List.set_cons_zero, List.set_cons_succ]
                  refine wpAnyZ_done (by kernel_rfl) ?_ _
                  have HPR9 := Lib.hid (HPR.out n6 n7 hn6 hn7)
                  clear HPR hn6 hn7 ST ST5 ST6 ST7 q0 q1 HN1 HN2 gc2 s8 tc0 tc1 tc2 tf0 tf1 tf2 tBG SK
                  have HMM := HM.out
                  go_wp2_with fail
                  go_roundw
                  case rel => exact ⟨i + 1, ps ++ [(n6, n7)], _, by omega, by go_num, ST9.out, by simp; omega, HPR9.out⟩
                  case measure => simp [intOf]; omega
                · have hp2a : ((qs.length : Int) != 2) = true := by rw [bne_iff_ne]; omega
                  have HNOF : Hid (OkPF l (0, [], []) false) := Lib.hid (OkPF.no fun f0 h1 h2 => hp2 (HT2.out f0 h1 h2))
                  obtain ⟨⟨z1, z2, z3, c0, c1, c2⟩, ⟨f0, f1, f2⟩, gz⟩ := ST.out.hz
                  have hx1 := ST.out.o1
                  have HLD := Lib.hid (laid3' (p := 0) (g := W.heap.size) (OwnBars.nil w4 u.heap.size) (OwnPlaces.nil w4 u.heap.size) (Nat.le_refl _) (by omega) (by omega) ST.out.B)
                  go_wp2_with fail
                  refine bodyPost_ret (v := .tuple #[.agg #[.int .i64 0, .slice none 0 0, .slice none 0 0], .bool false]) (by simp [results, Try.results17, go_sem, gz, c0, c1, c2]) rfl (RetPF.mk rfl HLD.out.1 HNOF.out HLD.out.2)
              · have him : i = m := by have := HM.out; omega
                have hlti3 : ¬ ((k : Int) + 1 + (i : Int) < (ws.length : Int)) := by omega
                obtain ⟨ap, capp, rfl, hib⟩ := ST.out.op.form
                clear hib
                obtain ⟨BX, OP, hnv, HB, HZ, b2, B, ho1⟩ := ST.out
                replace BX := Lib.hid BX
                replace OP := Lib.hid OP
                replace HB := Lib.hid HB
                replace HZ := Lib.hid HZ
                clear hnv ST
                obtain ⟨zBX, ⟨gc0, gc1, gc2⟩, gf0, gf1, gf2⟩ := BX.out
                have hbn : szFw (pg, bars, ps) ≤ 1048576 := by unfold szFw; dsimp only; have := HM.out; omega
                have hGR : IsFw wr (.agg #[.int .i64 pg, .slice ab bars.length cb, .slice ap ps.length capp]) (pg, bars, ps) := by
                  obtain ⟨a', c', he, hi⟩ := HB.out.is
                  simp only [Value.slice.injEq, true_and] at he
                  obtain ⟨rfl, rfl⟩ := he
                  obtain ⟨a', c', he, hj⟩ := OP.out.form
                  simp only [Value.slice.injEq, true_and] at he
                  obtain ⟨rfl, rfl⟩ := he
                  exact ⟨_, _, _, _, rfl, hi, hj⟩
                obtain ⟨fs, hfs⟩ : ∃ fs, fs = bs (fmtF (pg, bars, ps)) := ⟨_, rfl⟩
                have HFG : Hid (Calls Try.prog 13 #[.agg #[.int .i64 pg, .slice ab bars.length cb, .slice ap ps.length capp]] wr fun e w' => e = .returned (.string fs) ∧ Below wr.heap.size wr w') := Lib.hid (by rw [hfs]; exact spec_FormatFramework wr _ (pg, bars, ps) hGR hbn)
                have hq2 := eqS hfs HS.out
                have HOK : Hid (∀ f0, isFwB f0 = true → l = fmtF f0 → bg = true ∧ (pg, bars, ps) = f0) := Lib.hid fun f0 h1 h2 => by
                  obtain ⟨e1, e2⟩ := HOG.out f0 h1 h2
                  have e3 := HPRE.out f0 h1 h2
                  have e4 := HPAT.out f0 h1 h2
                  have e5 := HM.out
                  rw [List.take_of_length_le (by omega)] at e3
                  refine ⟨e1, ?_⟩
                  rw [e3]
                  exact Prod.ext (show pg = f0.1 from congrArg (fun z : GraphT => z.1) e2) (Prod.ext (show bars = f0.2.1 from congrArg (fun z : GraphT => z.2) e2) rfl)
                have HVAL : Hid (fmtF (pg, bars, ps) = l → isFwB (pg, bars, ps) = true) := Lib.hid fun e => pf_valid (k := k) (by rw [← HWS.out]; exact HT.out) e
                clear hGR hfs him
                by_cases hok : bg = true ∧ fmtF (pg, bars, ps) = l
                · obtain ⟨rfl, hqq⟩ := hok
                  rw [decide_eq_true hqq] at hq2
                  have HYES : Hid (OkPF l (pg, bars, ps) true) := Lib.hid (OkPF.yes (HVAL.out hqq) hqq fun f0 h1 h2 => (HOK.out f0 h1 h2).2)
                  clear hqq
                  go_wp2_with (go_at_call 13; refine HFG.out.mono ?_; rintro e w8 ⟨rfl, b8⟩; replace B := B.step b8; replace HZ := Lib.hid (HZ.out.below b8); have BX8 := Lib.hid (BX.out.below b8); have OP8 := Lib.hid (OP.out.below b8); have HB8 := Lib.hid (HB.out.below b8); obtain ⟨yBG, ⟨yc0, yc1, yc2⟩, yf0, yf1, yf2⟩ := BX8.out; obtain ⟨⟨z1, z2, z3, c0, c1, c2⟩, ⟨f0, f1, f2⟩, gz⟩ := HZ.out)
                  have HLD := laid3' (p := pg) (g := W.heap.size) HB8.out.1 (OP8.out.low (by omega)) (Nat.le_refl _) (by omega) (by omega) B
                  refine bodyPost_ret (v := .tuple #[.agg #[.int .i64 pg, .slice ab bars.length cb, .slice ap ps.length capp], .bool true]) (by simp [results, Try.results17, go_sem, gz, c0, c1, c2]) rfl (RetPF.mk rfl HLD.1 HYES.out HLD.2)
                · have HNOF : Hid (OkPF l (0, [], []) false) := Lib.hid (OkPF.no fun f0 h1 h2 => hok (by obtain ⟨e1, e2⟩ := HOK.out f0 h1 h2; exact ⟨e1, by rw [e2, h2]⟩))
                  cases bg with
                  | false =>
                    clear hok hq2
                    obtain ⟨⟨z1, z2, z3, c0, c1, c2⟩, ⟨f0, f1, f2⟩, gz⟩ := HZ.out
                    have HLD := Lib.hid (laid3' (p := 0) (g := W.heap.size) (OwnBars.nil wr u.heap.size) (OwnPlaces.nil wr u.heap.size) (Nat.le_refl _) (by omega) (by omega) B)
                    go_wp2_with fail
                    refine bodyPost_ret (v := .tuple #[.agg #[.int .i64 0, .slice none 0 0, .slice none 0 0], .bool false]) (by simp [results, Try.results17, go_sem, gz, c0, c1, c2]) rfl (RetPF.mk rfl HLD.out.1 HNOF.out HLD.out.2)
                  | true =>
                    rw [decide_eq_false (fun e => hok ⟨rfl, e⟩)] at hq2
                    clear hok
                    go_wp2_with (go_at_call 13; refine HFG.out.mono ?_; rintro e w8 ⟨rfl, b8⟩; replace B := B.step b8; replace HZ := Lib.hid (HZ.out.below b8); obtain ⟨⟨z1, z2, z3, c0, c1, c2⟩, ⟨f0, f1, f2⟩, gz⟩ := HZ.out)
                    have HLD := laid3' (p := 0) (g := W.heap.size) (OwnBars.nil w8 u.heap.size) (OwnPlaces.nil w8 u.heap.size) (Nat.le_refl _) (by omega) (by omega) B
                    refine bodyPost_ret (v := .tuple #[.agg #[.int .i64 0, .slice none 0 0, .slice none 0 0], .bool false]) (by simp [results, Try.results17, go_sem, gz, c0, c1, c2]) rfl (RetPF.mk rfl HLD.1 HNOF.out HLD.2)
      · rw [decide_eq_false hat] at hq
        have HNO2 : Hid (∀ j, j < k + 1 → ws[j]? ≠ some [97, 116]) := Lib.hid fun j hj => by
          by_cases h : j = k
          · rw [h, HT.out]; simpa using hat
          · exact HNO.out j (by omega)
        clear hat
        go_wp2_with fail
        go_round
        case rel => exact ⟨k + 1, by omega, by go_num, HNO2.out⟩
        case measure => simp [intOf]; omega
    · have hkn : k = ws.length := by omega
      have hlti : ¬ ((k : Int) < (ws.length : Int)) := by omega
      have hkz : ((k : Int) == 0) = false := by rw [beq_eq_false_iff_ne]; omega
      have hnl : ((k : Int) == (ws.length : Int)) = true := by rw [beq_iff_eq]; omega
      have HNOF : Hid (OkPF l (0, [], []) false) := Lib.hid (OkPF.no fun f0 h1 h2 => by
        have h3 := pf_at (l := l) (k := k) (.inr (by rw [← HWS.out]; exact hkn)) (by rw [← HWS.out]; exact HNO.out) h1 h2
        have h4 := h3.2.1
        rw [← HWS.out] at h4
        omega)
      obtain ⟨⟨z1, z2, z3, c0, c1, c2⟩, ⟨f0, f1, f2⟩, gz⟩ := HZ.out
      have HLD := Lib.hid (laid3' (p := 0) (g := W.heap.size) (OwnBars.nil w1 u.heap.size) (OwnPlaces.nil w1 u.heap.size) (Nat.le_refl _) (by omega) (by omega) B)
      clear hkn
      go_wp2_with fail
      refine bodyPost_ret (v := .tuple #[.agg #[.int .i64 0, .slice none 0 0, .slice none 0 0], .bool false]) (by simp [results, Try.results17, go_sem, gz, c0, c1, c2]) rfl (RetPF.mk rfl HLD.out.1 HNOF.out HLD.out.2)
end Go.Proofs.Ytnjecekaenddiaa
