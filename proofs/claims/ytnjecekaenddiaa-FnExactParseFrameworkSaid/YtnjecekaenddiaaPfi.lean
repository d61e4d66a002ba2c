/- ParseFramework of the program. Condition: texts up to 2^20 bytes. -/
import Derived.Test.YtnjecekaenddiaaPrf0
import Derived.Test.YtnjecekaenddiaaIxs
import Derived.Test.YtnjecekaenddiaaPgi
import Derived.Deep.RegionHeld3
import Derived.OwnWalk
import Derived.BigRegion
namespace Go.Proofs.Ytnjecekaenddiaa
open Go.RowKit
set_option maxRecDepth 100000
set_option linter.unusedVariables false
set_option linter.unusedSimpArgs false

theorem room_mul {n k : Nat} (hn : n ≤ 1048577) (hk : k ≤ n) : (1 + (1048577 - n)) * k ≤ 1000000000000 := by
  by_cases h : n ≤ 524289
  · exact Nat.le_trans (Nat.mul_le_mul (show 1 + (1048577 - n) ≤ 1048578 by omega) (show k ≤ 524289 by omega)) (by decide)
  · exact Nat.le_trans (Nat.mul_le_mul (show 1 + (1048577 - n) ≤ 524289 by omega) (show k ≤ 1048577 by omega)) (by decide)

set_option maxHeartbeats 16000000 in
theorem impl_ParseFramework (W : World) (S : ByteArray) (l : List UInt8) (hS : S = bs l) (hn : l.length ≤ 1048576) :
    Calls Try.prog 18 #[.string S] W (RetPF W l) := by
  have HS := Lib.hid hS
  clear hS
  obtain ⟨ws, hws⟩ : ∃ ws, ws = cutL 32 l := ⟨_, rfl⟩
  have HWL : Hid (∀ (k : Nat) t, ws[k]? = some t → t.length + ws.length ≤ 1048577) := Lib.hid fun k t h => by
    have h1 := cutL_room (b := 32) (l := l) (by rw [← hws]; exact List.mem_of_getElem? h)
    have h2 := cutL_length 32 l
    rw [← hws] at h2
    omega
  have hwn2 : ws.length ≤ 1048577 := by rw [hws]; have := cutL_le 32 l; omega
  have hwn : 1 ≤ ws.length ∧ ws.length ≤ 1048577 := by
    rw [hws]; have := cutL_le 32 l; have := cutL_length 32 l; omega
  have HCUT : Hid (∀ w, Calls Try.prog 41 #[.string S, .int .u8 32] w fun e w' => ∃ v, e = .returned v ∧ OwnStrs w' w.heap.size v ws ∧ Below w.heap.size w w') := Lib.hid fun w => by rw [hws]; exact impl_cut w S l HS.out hn 32 32 rfl
  have HWS := Lib.hid hws
  clear hws
  have HZ : Hid (Zer3' (W.alloc (.cells #[.int .i64 0, .slice none 0 0, .slice none 0 0] 42)) W.heap.size) := Lib.hid (Zer3'.at W _)
  have B0 : Below W.heap.size W (W.alloc (.cells #[.int .i64 0, .slice none 0 0, .slice none 0 0] 42)) := (Below.refl _ _).alloc (Nat.le_refl _) _
  have hz0 : W.heap.size < (W.alloc (.cells #[.int .i64 0, .slice none 0 0, .slice none 0 0] 42)).heap.size := by simp
  go_enter Try.func18, Try.ntmps18
  go_wp2_with fail
  generalize (W.alloc (.cells #[.int .i64 0, .slice none 0 0, .slice none 0 0] 42)) = u at *
  refine (HCUT.out _).mono ?_
  rintro e w1 ⟨v, rfl, ho, b⟩
  obtain ⟨gw, cw, rfl, hgw, hgl, hcw⟩ := ho.form (by omega)
  have hcap := ho.cap
  have HCW := Lib.hid hcw
  replace HZ := Lib.hid (HZ.out.below b)
  have B := B0.step b
  have hz1 := b.size
  clear ho hcw b B0
  obtain ⟨K, hK⟩ : ∃ K : ByteArray, K = { data := #[97, 116] } := ⟨_, rfl⟩
  have HIX : Hid (Calls Try.prog 42 #[.slice (some ⟨gw, 0, none⟩) ws.length cw, .string { data := #[97, 116] }] w1 fun e w' => (∃ r : Int, e = .returned (.int .i64 r) ∧ ((r = -1 ∧ ∀ j : Nat, ws[j]? ≠ some [97, 116]) ∨ ∃ k : Nat, r = k ∧ k < ws.length ∧ ws[k]? = some [97, 116] ∧ ∀ j : Nat, j < k → ws[j]? ≠ some [97, 116])) ∧ w1 = w') := Lib.hid (index_at w1 gw cw ws HCW.out { data := #[97, 116] } [97, 116] rfl hwn2)
  go_upto_region 3 with (go_at_call 42; refine HIX.out.mono ?_; rintro e w2 ⟨⟨r, rfl, hr⟩, rfl⟩)
  have HR := Lib.hid hr
  clear hr
  rcases HR.out with ⟨hr, hno⟩ | ⟨k, hr, hkn, hat, hno⟩
  · subst hr
    have HNOF : Hid (OkPF l (0, [], []) false) := Lib.hid (OkPF.no fun f0 h1 h2 => by
      have h3 := pf_at (l := l) (k := ws.length) (.inr (by rw [← HWS.out])) (by rw [← HWS.out]; exact fun j _ => hno j) h1 h2
      have h4 := h3.2.1
      have h5 := h3.1
      rw [← HWS.out] at h4
      omega)
    obtain ⟨⟨z1, z2, z3, c0, c1, c2⟩, ⟨f0, f1, f2⟩, gz⟩ := HZ.out
    have HLD := Lib.hid (laid3' (p := 0) (g := W.heap.size) (OwnBars.nil w1 u.heap.size) (OwnPlaces.nil w1 u.heap.size) (Nat.le_refl _) (by omega) (by omega) B)
    clear hno HR
    go_wp2_with fail
    refine bodyPost_ret (v := .tuple #[.agg #[.int .i64 0, .slice none 0 0, .slice none 0 0], .bool false]) (by simp [results, Try.results18, go_sem, gz, c0, c1, c2]) rfl (RetPF.mk rfl HLD.out.1 HNOF.out HLD.out.2)
  subst hr
  have HNO := Lib.hid hno
  have HT := Lib.hid hat
  clear hno hat HR
  have hki0 : (0 : Int) ≤ (k : Int) := by omega
  have hki1 : ¬ (k : Int) < 0 := by omega
  have hkni : (k : Int) < (ws.length : Int) := by omega
  have hkl : k ≤ ws.length := by omega
  have hkli : (k : Int) ≤ (ws.length : Int) := by omega
  obtain ⟨tx, htx⟩ : ∃ tx, tx = jnTo [32] ws k := ⟨_, rfl⟩
  have htxl : tx.length ≤ 1048576 := by
    rw [htx, HWS.out]
    exact Nat.le_trans (jn_cut 32 l k (by rw [← HWS.out]; omega)) hn
  have HTXC : Hid (tx.count 32 = k - 1) := Lib.hid (by rw [htx, HWS.out]; exact pf_count (by rw [← HWS.out]; omega))
  have HTX := Lib.hid htx
  have HPAT : Hid (∀ f0, isFwB f0 = true → l = fmtF f0 → k = f0.2.1.length + 1 ∧ ws.length = f0.2.1.length + 1 + f0.2.2.length + 1 ∧ tx = fmtG (f0.1, f0.2.1)) := Lib.hid fun f0 h1 h2 => by
    have := pf_at (l := l) (k := k) (.inl (by rw [← HWS.out]; exact HT.out)) (by rw [← HWS.out]; exact HNO.out) h1 h2
    rw [← HWS.out, ← HTX.out] at this
    exact this
  obtain ⟨s, hs⟩ : ∃ s, s = bs tx := ⟨_, rfl⟩
  have HPG : Hid (∀ w, Calls Try.prog 43 #[.string s] w (RetPG w tx)) := Lib.hid fun w => impl_ParseGraph w s tx hs htxl
  have hb2 : Below w1.heap.size w1 (w1.alloc (.cells #[.int .i64 0, .slice none 0 0, .slice none 0 0] 42)) := (Below.refl _ _).alloc (Nat.le_refl _) _
  have BX : Hid (BoxT (w1.alloc (.cells #[.int .i64 0, .slice none 0 0, .slice none 0 0] 42)) w1.heap.size 0 (.slice none 0 0) (.slice none 0 0)) := Lib.hid (BoxT.at rfl)
  have HGL : Hid (Calls Try.prog 29 #[.slice (some ⟨gw, 0, none⟩) k cw, .string { data := #[32] }] (w1.alloc (.cells #[.int .i64 0, .slice none 0 0, .slice none 0 0] 42)) fun e w' => e = .returned (.string s) ∧ (w1.alloc (.cells #[.int .i64 0, .slice none 0 0, .slice none 0 0] 42)) = w') := Lib.hid (by
    have hlk : (ws.take k).length = k := by rw [List.length_take]; omega
    have := glued_at (w1.alloc (.cells #[.int .i64 0, .slice none 0 0, .slice none 0 0] 42)) gw cw (1048577 - ws.length) (ws.take k) (fun j t hj => by
      have hj2 : ws[j]? = some t := by
        rw [List.getElem?_take] at hj
        split at hj
        · exact hj
        · cases hj
      exact ⟨((bcell hb2).1 _ _ hgw).trans (HCW.out j t hj2), by have := HWL.out j t hj2; omega⟩) { data := #[32] } [32] rfl (by rw [hlk]; exact room_mul hwn.2 hkl) (by rw [hlk]; omega)
    rw [hlk] at this
    have e : jnTo [32] (ws.take k) k = tx := by
      rw [htx]
      exact jnTo_congr fun i hi => by rw [List.getElem?_take, if_pos hi]
    rw [e, ← hs] at this
    exact this)
  clear htx htxl hs
  have hsl0 := fun w => cutWto (g := gw) (j := k) (ji := (k : Int)) rfl hkl hcap.1 hcap.2 w
  go_upto_region 6 with (fail)
  replace B := B.step hb2
  replace HZ := Lib.hid (HZ.out.below hb2)
  have b2 := hb2
  have hg2a := BX.out.1
  clear hb2
  generalize (w1.alloc (.cells #[.int .i64 0, .slice none 0 0, .slice none 0 0] 42)) = w2 at *
  go_upto_region 7 with (first | (go_at_call 29; refine HGL.out.mono ?_; rintro e w3 ⟨rfl, rfl⟩) | (go_at_call 43; refine (HPG.out _).mono ?_; rintro e w3 ⟨v2, ⟨pg, bars⟩, bg, rfl, ⟨vb, ⟨ab, cb, rfl, rfl⟩, hob⟩, hog, b3⟩; have BX3 := Lib.hid (BX.out.below b3); obtain ⟨xz, ⟨xc0, xc1, xc2⟩, xf0, xf1, xf2⟩ := BX3.out))
  clear xz xc0 xc1 xc2 xf0 xf1 xf2 hsl0
  have hbl : bars.length ≤ k - 1 := by rw [← HTXC.out]; exact hog.1
  have HOG : Hid (∀ f0, isFwB f0 = true → l = fmtF f0 → (pg, bars) = (f0.1, f0.2.1)) := Lib.hid fun f0 h1 h2 => (hog.2 (f0.1, f0.2.1) (okF h1).1 (HPAT.out f0 h1 h2).2.2).2
  have hz3 := b3.size
  have kS : Kept (fun b => b = w1.heap.size) w3 ((w3.setCell ⟨w1.heap.size, 0, none⟩ (.int .i64 pg)).setCell ⟨w1.heap.size, 1, none⟩ (.slice ab bars.length cb)) := (keptSet' (S := fun b => b = w1.heap.size) rfl).trans (keptSet' (S := fun b => b = w1.heap.size) rfl)
  have HB : Hid (HBars ((w3.setCell ⟨w1.heap.size, 0, none⟩ (.int .i64 pg)).setCell ⟨w1.heap.size, 1, none⟩ (.slice ab bars.length cb)) w2.heap.size w3.heap.size (.slice ab bars.length cb) bars) := Lib.hid (hob.h.kept kS (fun k h1 h2 h3 => by omega))
  have BX4 : Hid (BoxT ((w3.setCell ⟨w1.heap.size, 0, none⟩ (.int .i64 pg)).setCell ⟨w1.heap.size, 1, none⟩ (.slice ab bars.length cb)) w1.heap.size pg (.slice ab bars.length cb) (.slice none 0 0)) := Lib.hid BX3.out.set01
  replace b2 := ((b2.trans (b3.mono (by omega))).setCell (p := ⟨w1.heap.size, 0, none⟩) (by simp) (.int .i64 pg)).setCell (p := ⟨w1.heap.size, 1, none⟩) (by simp) (.slice ab bars.length cb)
  replace B := ((B.step b3).setCell (p := ⟨w1.heap.size, 0, none⟩) (by simp; omega) (.int .i64 pg)).setCell (p := ⟨w1.heap.size, 1, none⟩) (by simp; omega) (.slice ab bars.length cb)
  replace HZ := Lib.hid ((HZ.out.below b3).kept kS (by omega))
  have OP : Hid (OwnPlaces ((w3.setCell ⟨w1.heap.size, 0, none⟩ (.int .i64 pg)).setCell ⟨w1.heap.size, 1, none⟩ (.slice ab bars.length cb)) w3.heap.size (.slice none 0 0) []) := Lib.hid (OwnPlaces.nil _ _)
  have hx4 : w3.heap.size ≤ ((w3.setCell ⟨w1.heap.size, 0, none⟩ (.int .i64 pg)).setCell ⟨w1.heap.size, 1, none⟩ (.slice ab bars.length cb)).heap.size := by simp
  have BX := BX4
  clear BX4 BX3 kS hob hog b3 HGL HPG HTXC
  generalize ((w3.setCell ⟨w1.heap.size, 0, none⟩ (.int .i64 pg)).setCell ⟨w1.heap.size, 1, none⟩ (.slice ab bars.length cb)) = w4 at *
  generalize hlo : w2.heap.size = lo at *
  generalize hx2 : w3.heap.size = x2 at *
  clear hlo hx2
  obtain ⟨m, hm⟩ : ∃ m, ws.length = m + (k + 1) := ⟨ws.length - (k + 1), by omega⟩
  have hwk := IntWalk.i64_in ((k : Int) + 1) (by omega)
  obtain ⟨o1, c1, hsl, ho1⟩ := cutW (g := gw) (j := k + 1) (ji := (k : Int) + 1) (by omega) hm (by omega) hcap.1 hcap.2
  have HM := Lib.hid hm
  have HO1 := Lib.hid ho1
  clear ho1 hm
  go_wp2_with fail
  clear hsl
  go_loopw [33] (fun iv w9 => ∃ (i : Nat) (ps : List PlaceT) (vp : Value), i ≤ m ∧ iv = .int .i64 (i : Int) ∧ BoxT w9 w1.heap.size pg (.slice ab bars.length cb) vp ∧ OwnPlaces w9 x2 vp ps ∧ HBars w9 lo x2 (.slice ab bars.length cb) bars ∧ ps.length = i ∧ (∀ f0, isFwB f0 = true → l = fmtF f0 → ps = f0.2.2.take i) ∧ Below w1.heap.size w1 w9 ∧ Zer3' w9 W.heap.size ∧ Below W.heap.size W w9 ∧ x2 ≤ w9.heap.size) (fun iv _ => m - (intOf iv).toNat)
  case atStart => exact ⟨0, [], _, by omega, rfl, BX.out, OP.out, HB.out, rfl, fun _ _ _ => by simp, b2, HZ.out, B, hx4⟩
  case round =>
    clear BX OP HB HZ B b2 hx4
    obtain ⟨i, ps, vp, hi, rfl, hBX, hOP, hHB, hpl0, hpre, b2, hZ, B, hx4⟩ := hrel
    have BX := Lib.hid hBX
    have OP := Lib.hid hOP
    have HB := Lib.hid hHB
    have hpl1 : ps.length ≤ i := by omega
    have hpl2 : i ≤ ps.length := by omega
    clear hpl0
    have HPRE := Lib.hid hpre
    have HZ := Lib.hid hZ
    have hzr : w1.heap.size < wr.heap.size := hBX.1
    clear hBX hOP hpre hZ hHB
    have hii0 : (0 : Int) ≤ (i : Int) := by omega
    by_cases hlt : i < m
    · have hlti : (i : Int) < (m : Int) := by omega
      have htn : ((i : Int)).toNat = i := by omega
      obtain rfl := HO1.out (by omega)
      obtain ⟨t, ht⟩ : ∃ t, ws[k + 1 + i]? = some t := ⟨_, List.getElem?_eq_getElem (by have := HM.out; omega)⟩
      have htl : t.length ≤ 1048576 := by have := HWL.out _ t ht; omega
      have hct := ((bcell b2).1 _ _ hgw).trans (HCW.out _ t ht)
      have HTI := Lib.hid ht
      clear ht
      obtain ⟨TT, hTT⟩ : ∃ TT, TT = bs t := ⟨_, rfl⟩
      rw [← hTT] at hct
      have HTT := Lib.hid hTT
      clear hTT
      obtain ⟨qs, hqs⟩ : ∃ qs, qs = cutL 44 t := ⟨_, rfl⟩
      have HCUT2 : Hid (∀ w, Calls Try.prog 41 #[.string TT, .int .u8 44] w fun e w' => ∃ v, e = .returned v ∧ OwnStrs w' w.heap.size v qs ∧ Below w.heap.size w w') := Lib.hid fun w => by rw [hqs]; exact impl_cut w TT t HTT.out htl 44 44 rfl
      have hql : 1 ≤ qs.length := by rw [hqs, cutL_length]; omega
      have HPW : Hid (∀ (k : Nat) u, qs[k]? = some u → u.length ≤ 1048576) := Lib.hid fun k u h => Nat.le_trans (cutL_mem (b := 44) (l := t) (by rw [← hqs]; exact List.mem_of_getElem? h)).1 htl
      have HQS := Lib.hid hqs
      clear hqs
      go_upto_region 11 with (go_at_call 41; refine (HCUT2.out _).mono ?_; rintro e w4 ⟨v4, rfl, ho4, b4⟩; obtain ⟨gp, cp, rfl, hgp, hgpl, hcp⟩ := ho4.form (by omega))
      clear ho4
      have HCP := Lib.hid hcp
      clear hcp hct
      replace b2 := b2.step b4
      replace B := B.step b4
      replace HZ := Lib.hid (HZ.out.below b4)
      replace BX := Lib.hid (BX.out.below b4)
      replace OP := Lib.hid (OP.out.below b4)
      replace HB := Lib.hid (HB.out.below b4)
      have hz4 := b4.size
      clear b4
      have HT2 : Hid (∀ f0, isFwB f0 = true → l = fmtF f0 → qs.length = 2) := Lib.hid fun f0 h1 h2 => by rw [HQS.out]; exact pf_two (k := k) (i := i) (by rw [← HWS.out]; exact HTI.out) h1 h2 (HPAT.out f0 h1 h2).1
      by_cases hp2 : qs.length = 2
      · have hp2a : ((qs.length : Int) != 2) = false := by rw [hp2]; rfl
        obtain ⟨ap, capp, rfl, hib⟩ := OP.out.form
        clear hib
        obtain ⟨su, hsu⟩ : ∃ u, qs[0]? = some u := ⟨_, List.getElem?_eq_getElem (by omega)⟩
        obtain ⟨sv, hsv⟩ : ∃ u, qs[1]? = some u := ⟨_, List.getElem?_eq_getElem (by omega)⟩
        have q0 := HCP.out 0 su hsu
        have q1 := HCP.out 1 sv hsv
        obtain ⟨U, hU⟩ : ∃ U, U = bs su := ⟨_, rfl⟩
        obtain ⟨V, hV⟩ : ∃ V, V = bs sv := ⟨_, rfl⟩
        rw [← hU] at q0
        rw [← hV] at q1
        have HN1 : Hid (∀ w, Calls Try.prog 44 #[.string U] w (RetNb w su)) := Lib.hid fun w => impl_ParseInt w U _ hU (HPW.out _ _ hsu)
        have HN2 : Hid (∀ w, Calls Try.prog 44 #[.string V] w (RetNb w sv)) := Lib.hid fun w => impl_ParseInt w V _ hV (HPW.out _ _ hsv)
        have HPR : Hid (∀ n6 n7, Nm su n6 → Nm sv n7 → ∀ f0, isFwB f0 = true → l = fmtF f0 → ps ++ [(n6, n7)] = f0.2.2.take (i + 1)) := Lib.hid fun n6 n7 hn6 hn7 f0 h1 h2 => pf_step (k := k) (by rw [← HWS.out]; exact HTI.out) (by rw [← HQS.out]; exact hsu) (by rw [← HQS.out]; exact hsv) hn6 hn7 h1 h2 (HPAT.out f0 h1 h2).1 (HPRE.out f0 h1 h2)
        have hpp0 : 0 < qs.length := by omega
        have hpp1 : 1 < qs.length := by omega
        have hpp0i : (0 : Int) < (qs.length : Int) := by omega
        have hpp1i : (1 : Int) < (qs.length : Int) := by omega
        have HP2 := Lib.hid hp2
        clear hsu hsv hU hV hp2
        go_upto_region 14 with (fail)
        clear hp2a
        have BP : Hid (BoxG (w4.alloc (.cells #[.int .i64 0, .int .i64 0] 67)) w4.heap.size 0 (.int .i64 0)) := Lib.hid (BoxG.at rfl)
        have b5 : Below w4.heap.size w4 (w4.alloc (.cells #[.int .i64 0, .int .i64 0] 67)) := (Below.refl _ _).alloc (Nat.le_refl _) _
        have hx1 : w1.heap.size < w4.heap.size := by have := BX.out.1; omega
        have hxu : W.heap.size < w4.heap.size := by omega
        have hxx : x2 ≤ w4.heap.size := by omega
        have HBN : Hid (∀ b, (Value.slice ap ps.length capp).ownBlock = some b → x2 ≤ b ∧ b < w4.heap.size) := Lib.hid fun b hb => OP.out.lt b hb
        replace b2 := b2.step b5
        replace B := B.step b5
        replace HZ := Lib.hid (HZ.out.below b5)
        replace BX := Lib.hid (BX.out.below b5)
        replace OP := Lib.hid (OP.out.below b5)
        replace HB := Lib.hid (HB.out.below b5)
        replace q0 := ((bcell b5).1 gp 0 hgp).trans q0
        replace q1 := ((bcell b5).1 gp 1 hgp).trans q1
        clear b5 HCP hz4
        generalize (w4.alloc (.cells #[.int .i64 0, .int .i64 0] 67)) = w5 at *
        generalize w4.heap.size = x4 at *
        have hz5 : x4 < w5.heap.size := BP.out.1
        go_upto_region 15 with (go_at_call 44; refine (HN1.out _).mono ?_; rintro e w7 ⟨n6, b6b, rfl, hn6, b7⟩; have BP7 := Lib.hid (BP.out.below b7); obtain ⟨xz, ⟨xc0, xc1⟩, xf0, xf1⟩ := BP7.out)
        clear xz xc0 xc1 xf0 xf1
        have hz7 := b7.size
        have kX : Kept (fun b => b = x4) w7 (w7.setCell ⟨x4, 0, none⟩ (.int .i64 n6)) := keptSet' rfl
        replace BP := Lib.hid (BP7.out.set0 (n := n6))
        replace b2 := (b2.step b7).setCell (p := ⟨x4, 0, none⟩) (by simp; omega) (.int .i64 n6)
        replace B := (B.step b7).setCell (p := ⟨x4, 0, none⟩) (by simp; omega) (.int .i64 n6)
        replace HZ := Lib.hid ((HZ.out.below b7).kept kX (by omega))
        replace BX := Lib.hid ((BX.out.below b7).kept kX (by omega))
        replace HB := Lib.hid ((HB.out.below b7).kept kX (fun k h1 h2 h3 => by omega))
        replace OP := Lib.hid ((OP.out.below b7).setAt (g := x4) (j := 0) (fun b hb => by have := HBN.out b hb; omega) (.int .i64 n6))
        replace q1 := (kX.cell (b := gp) (o := 1) (by omega) (by show ¬ gp = x4; omega)).trans (((bcell b7).1 gp 1 (by omega)).trans q1)
        clear kX BP7 b7 q0
        generalize (w7.setCell ⟨x4, 0, none⟩ (.int .i64 n6)) = w8 at *
        have hz8 : x4 < w8.heap.size := BP.out.1
        go_upto_region 16 with (go_at_call 44; refine (HN2.out _).mono ?_; rintro e w9 ⟨n7, b7b, rfl, hn7, b9⟩; have BP9 := Lib.hid (BP.out.below b9); obtain ⟨xz, ⟨xc0, xc1⟩, xf0, xf1⟩ := BP9.out)
        clear xz xc0 xc1 xf0 xf1
        have hz9 := b9.size
        have kX : Kept (fun b => b = x4) w9 (w9.setCell ⟨x4, 1, none⟩ (.int .i64 n7)) := keptSet' rfl
        replace BP := Lib.hid (BP9.out.set1 (vn := .int .i64 n7))
        replace b2 := (b2.step b9).setCell (p := ⟨x4, 1, none⟩) (by simp; omega) (.int .i64 n7)
        replace B := (B.step b9).setCell (p := ⟨x4, 1, none⟩) (by simp; omega) (.int .i64 n7)
        replace HZ := Lib.hid ((HZ.out.below b9).kept kX (by omega))
        replace BX := Lib.hid ((BX.out.below b9).kept kX (by omega))
        replace HB := Lib.hid ((HB.out.below b9).kept kX (fun k h1 h2 h3 => by omega))
        replace OP := Lib.hid ((OP.out.below b9).setAt (g := x4) (j := 1) (fun b hb => by have := HBN.out b hb; omega) (.int .i64 n7))
        clear kX BP9 b9 q1
        generalize (w9.setCell ⟨x4, 1, none⟩ (.int .i64 n7)) = w10 at *
        have hz10 : x4 < w10.heap.size := BP.out.1
        obtain ⟨xz, ⟨xc0, xc1⟩, xf0, xf1⟩ := BP.out
        obtain ⟨zBX, ⟨gc0, gc1, gc2⟩, gf0, gf1, gf2⟩ := BX.out
        have hbl9 : ps.length < 1099511627776 := by have := HM.out; omega
        go_upto_region 17 with (refine appPl1At (by rfl) (.tmp 61) (.tmp 63) (by rfl) (by rfl) OP.out n6 n7 (by rfl) hbl9 (by omega) ?_; intro v8 w11 h8 k8 a8; have e9 : (ps ++ [(n6, n7)]).length = ps.length + 1 := (by simp); obtain ⟨a9, c9, rfl, hi9⟩ := h8.form; clear hi9; have H8 := Lib.hid h8; have K8 := Lib.hid k8; have A8 := Lib.hid a8; clear h8 k8 a8; have E9 := Lib.hid e9; clear e9; have BX8 := Lib.hid (BX.out.kept K8.out (fun e => by have := HBN.out _ e.symm; omega)); obtain ⟨tBG, ⟨tc0, tc1, tc2⟩, tf0, tf1, tf2⟩ := BX8.out)
        clear tBG tc0 tc1 tc2 tf0 tf1 tf2 xz xc0 xc1 xf0 xf1 zBX gc0 gc1 gc2 gf0 gf1 gf2 BP
        have KO : Below w1.heap.size w10 w11 := K8.out.setOwn OP.out (by omega) (by omega)
        have KO2 : Below W.heap.size w10 w11 := K8.out.setOwn OP.out (by omega) (by omega)
        have HZ8 := HZ.out.kept K8.out (fun e => by have := (OP.out.lt _ e.symm).1; omega)
        have HB8 := HB.out.kept K8.out (fun k h1 h2 e => by have := (OP.out.lt _ e.symm).1; omega)
        have hz11 := K8.out.size
        have e9 := E9.out
        have h8 := H8.out
        rw [e9] at h8
        have B9 : Below W.heap.size W (w11.setCell ⟨w1.heap.size, 2, none⟩ (.slice a9 (ps.length + 1) c9)) := (B.trans KO2).setCell (by simp; omega) _
        have b9 : Below w1.heap.size w1 (w11.setCell ⟨w1.heap.size, 2, none⟩ (.slice a9 (ps.length + 1) c9)) := (b2.trans KO).setCell (by simp) _
        have HZ9 := Lib.hid (HZ8.kept (keptSet' (S := fun b => b = w1.heap.size) (j := 2) (x := .slice a9 (ps.length + 1) c9) rfl) (by omega))
        have HB9 := Lib.hid (HB8.kept (keptSet' (S := fun b => b = w1.heap.size) (j := 2) (x := .slice a9 (ps.length + 1) c9) rfl) (fun k h1 h2 h3 => by omega))
        have BX9 := Lib.hid (BX8.out.set2 (vn := .slice a9 (ps.length + 1) c9))
        have OP9 := Lib.hid (h8.setAt (g := w1.heap.size) (j := 2) (fun b hb => by have := (h8.lt b hb).1; omega) (.slice a9 (ps.length + 1) c9))
        have HPR9 := Lib.hid (HPR.out n6 n7 hn6.nm hn7.nm)
        have hx9 : x2 ≤ (w11.setCell ⟨w1.heap.size, 2, none⟩ (.slice a9 (ps.length + 1) c9)).heap.size := by simp; omega
        clear K8 A8 h8 KO KO2 HZ8 HB8 BX8 H8 e9 E9
        go_wp2_with fail
        go_roundw
        case rel => exact ⟨i + 1, ps ++ [(n6, n7)], _, by omega, by go_num, BX9.out, OP9.out, HB9.out, by simp; omega, HPR9.out, b9, HZ9.out, B9, hx9⟩
        case measure => simp [intOf]; omega
      · have hp2a : ((qs.length : Int) != 2) = true := by rw [bne_iff_ne]; omega
        have HNOF : Hid (OkPF l (0, [], []) false) := Lib.hid (OkPF.no fun f0 h1 h2 => hp2 (HT2.out f0 h1 h2))
        obtain ⟨⟨z1, z2, z3, c0, c1, c2⟩, ⟨f0, f1, f2⟩, gz⟩ := HZ.out
        have HLD := Lib.hid (laid3' (p := 0) (g := W.heap.size) (OwnBars.nil w4 u.heap.size) (OwnPlaces.nil w4 u.heap.size) (Nat.le_refl _) (by omega) (by omega) B)
        go_wp2_with fail
        refine bodyPost_ret (v := .tuple #[.agg #[.int .i64 0, .slice none 0 0, .slice none 0 0], .bool false]) (by simp [results, Try.results18, go_sem, gz, c0, c1, c2]) rfl (RetPF.mk rfl HLD.out.1 HNOF.out HLD.out.2)
    · have him : i = m := by omega
      have hlti : ¬ ((i : Int) < (m : Int)) := by omega
      obtain ⟨ap, capp, rfl, hib⟩ := OP.out.form
      clear hib
      obtain ⟨zBX, ⟨gc0, gc1, gc2⟩, gf0, gf1, gf2⟩ := BX.out
      have hbn : szFw (pg, bars, ps) ≤ 1048576 := by unfold szFw; dsimp only; have := HM.out; omega
      have hGR : IsFw wr (.agg #[.int .i64 pg, .slice ab bars.length cb, .slice ap ps.length capp]) (pg, bars, ps) := by
        obtain ⟨a', c', he, hi⟩ := HB.out.is
        simp only [Value.slice.injEq, true_and] at he
        obtain ⟨rfl, rfl⟩ := he
        obtain ⟨a', c', he, hj⟩ := OP.out.form
        simp only [Value.slice.injEq, true_and] at he
        obtain ⟨rfl, rfl⟩ := he
        exact ⟨_, _, _, _, rfl, hi, hj⟩
      obtain ⟨fs, hfs⟩ : ∃ fs, fs = bs (fmtF (pg, bars, ps)) := ⟨_, rfl⟩
      have HFG : Hid (Calls Try.prog 15 #[.agg #[.int .i64 pg, .slice ab bars.length cb, .slice ap ps.length capp]] wr fun e w' => e = .returned (.string fs) ∧ Below wr.heap.size wr w') := Lib.hid (by rw [hfs]; exact impl_FormatFramework wr _ (pg, bars, ps) hGR hbn)
      have hq2 := eqS hfs HS.out
      have HOK : Hid (∀ f0, isFwB f0 = true → l = fmtF f0 → (pg, bars, ps) = f0) := Lib.hid fun f0 h1 h2 => by
        have e2 := HOG.out f0 h1 h2
        have e3 := HPRE.out f0 h1 h2
        have e4 := HPAT.out f0 h1 h2
        have e5 := HM.out
        rw [List.take_of_length_le (by omega)] at e3
        rw [e3]
        exact Prod.ext (show pg = f0.1 from congrArg (fun z : GraphT => z.1) e2) (Prod.ext (show bars = f0.2.1 from congrArg (fun z : GraphT => z.2) e2) rfl)
      have HVAL : Hid (fmtF (pg, bars, ps) = l → isFwB (pg, bars, ps) = true) := Lib.hid fun e => pf_valid (k := k) (by rw [← HWS.out]; exact HT.out) e
      clear hGR hfs him
      by_cases hqq : fmtF (pg, bars, ps) = l
      · rw [decide_eq_true hqq] at hq2
        have HYES : Hid (OkPF l (pg, bars, ps) true) := Lib.hid (OkPF.yes (HVAL.out hqq) hqq fun f0 h1 h2 => HOK.out f0 h1 h2)
        clear hqq
        go_wp2_with (go_at_call 15; refine HFG.out.mono ?_; rintro e w8 ⟨rfl, b8⟩; replace B := B.step b8; replace HZ := Lib.hid (HZ.out.below b8); have BX8 := Lib.hid (BX.out.below b8); have OP8 := Lib.hid (OP.out.below b8); have HB8 := Lib.hid (HB.out.below b8); obtain ⟨yBG, ⟨yc0, yc1, yc2⟩, yf0, yf1, yf2⟩ := BX8.out; obtain ⟨⟨z1, z2, z3, c0, c1, c2⟩, ⟨f0, f1, f2⟩, gz⟩ := HZ.out)
        have HLD := laid3' (p := pg) (g := W.heap.size) HB8.out.1 (OP8.out.low (by omega)) (Nat.le_refl _) (by omega) (by omega) B
        refine bodyPost_ret (v := .tuple #[.agg #[.int .i64 pg, .slice ab bars.length cb, .slice ap ps.length capp], .bool true]) (by simp [results, Try.results18, go_sem, gz, c0, c1, c2]) rfl (RetPF.mk rfl HLD.1 HYES.out HLD.2)
      · have HNOF : Hid (OkPF l (0, [], []) false) := Lib.hid (OkPF.no fun f0 h1 h2 => hqq (by rw [HOK.out f0 h1 h2, h2]))
        rw [decide_eq_false hqq] at hq2
        clear hqq
        go_wp2_with (go_at_call 15; refine HFG.out.mono ?_; rintro e w8 ⟨rfl, b8⟩; replace B := B.step b8; replace HZ := Lib.hid (HZ.out.below b8); obtain ⟨⟨z1, z2, z3, c0, c1, c2⟩, ⟨f0, f1, f2⟩, gz⟩ := HZ.out)
        have HLD := laid3' (p := 0) (g := W.heap.size) (OwnBars.nil w8 u.heap.size) (OwnPlaces.nil w8 u.heap.size) (Nat.le_refl _) (by omega) (by omega) B
        refine bodyPost_ret (v := .tuple #[.agg #[.int .i64 0, .slice none 0 0, .slice none 0 0], .bool false]) (by simp [results, Try.results18, go_sem, gz, c0, c1, c2]) rfl (RetPF.mk rfl HLD.1 HNOF.out HLD.2)
end Go.Proofs.Ytnjecekaenddiaa
