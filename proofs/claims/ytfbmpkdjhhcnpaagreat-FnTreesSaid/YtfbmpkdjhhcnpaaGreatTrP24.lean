/- AcceptedBars of the reference: a list of numbers. No condition but sizes. -/
import Derived.Test.YtfbmpkdjhhcnpaaGreatTrP15
import Derived.Test.YtfbmpkdjhhcnpaaGreatTrP07
import Derived.Test.YtfbmpkdjhhcnpaaGreatTrP23
namespace Go.Proofs.YtfbmpkdjhhcnpaaGreat
open Go.RowKit
set_option maxRecDepth 100000
set_option linter.unusedVariables false
set_option linter.unusedSimpArgs false
theorem IntsAt.setS {w : World} {a : Option Addr} {n : Nat} {l : List Int} {p : Addr} (h : IntsAt w a n l) (v : Value) (hp : ∃ b m c, w.cell? p = some (.slice b m c)) : IntsAt (w.setCell p v) a n l :=
  ⟨h.1, fun k hk => by
    obtain ⟨b, off, x, ha, hb, hx, hc⟩ := h.2 k hk
    obtain ⟨b2, m2, c2, h2⟩ := hp
    have hne : p ≠ ⟨b, off + k, none⟩ := fun e => by rw [e, hc] at h2; simp at h2
    exact ⟨b, off, x, ha, by simpa using hb, hx, (World.cell?_setCell_other _ _ _ _ hne).trans hc⟩⟩
theorem Inv.len24 {n : Nat} {k : Int} {bars : List BarT} {E : Nat} {S : PebT} (h : Inv n k bars E S) (hE : E ≤ 1000) : S.2.2.length ≤ 1000 := by
  have key : ∀ j : Nat, j < S.2.2.length → (j : Int) ≤ gI S.2.2 j := by
    intro j
    induction j with
    | zero => intro hj; obtain ⟨e, he, _⟩ := h.pl 0 hj; rw [he]; omega
    | succ j ih =>
      intro hj
      have := ih (by omega)
      have := h.inc j hj
      omega
  rcases Nat.eq_zero_or_pos S.2.2.length with h0 | h0
  · omega
  · have h1 := key (S.2.2.length - 1) (by omega)
    obtain ⟨e, he, he2, _⟩ := h.pl (S.2.2.length - 1) (by omega)
    omega
/-- RunPebbles: the bars placed can be read -/
def RetRr (W : World) (ok : Bool) (e : Ending) (w' : World) : Prop := ∃ aF nF cF aT nT cT aP cP, ∃ l' : List Int, e = .returned (.tuple #[.agg #[.slice aF nF cF, .slice aT nT cT, .slice aP l'.length cP], .bool ok]) ∧ l'.length ≤ 1000 ∧ IntsAt w' aP l'.length l' ∧ Below W.heap.size W w'
set_option maxHeartbeats 8000000 in
theorem specRunR_yes (W : World) (p : Int) (a : Option Addr) (cap : Nat) (l : List BarT) (h : BarsAt W a l.length l) (hs : l.length ≤ 1048576) (k l0 : Int) (hr : runOk (p, l) k l0 = true) : Calls Tryz.prog 109 #[.agg #[.int .i64 p, .slice a l.length cap], .int .i64 k, .int .i64 l0] W (RetRr W true) := by
  have hwd := @Wd.cells
  have HGr : Hid (IsGraph W (.agg #[.int .i64 p, .slice a l.length cap]) (p, l)) := Lib.hid ⟨a, cap, rfl, h⟩
  have H1 := Lib.hid h
  clear h
  have hsz : szGraph (p, l) ≤ 1048576 := hs
  have hsz2 : szGraph (p, l) ≤ 1099511627776 := Nat.le_trans hsz (by decide)
  have B : Below W.heap.size W (W.alloc (.cells #[.int .i64 p, .slice a l.length cap] 26)) := (Below.refl _ _).alloc (Nat.le_refl _) _
  have BG : Hid (BoxGr (W.alloc (.cells #[.int .i64 p, .slice a l.length cap] 26)) W.heap.size p a l.length cap) := Lib.hid (BoxGr.at rfl)
  have HZ : Hid (ZerP (((W.alloc (.cells #[.int .i64 p, .slice a l.length cap] 26))).alloc (.cells #[.slice none 0 0, .slice none 0 0, .slice none 0 0] 117)) (W.heap.size + 1)) := Lib.hid (by have := ZerP.at ((W.alloc (.cells #[.int .i64 p, .slice a l.length cap] 26))) 117; rwa [World.size_alloc] at this)
  have hba : Below ((W.alloc (.cells #[.int .i64 p, .slice a l.length cap] 26))).heap.size ((W.alloc (.cells #[.int .i64 p, .slice a l.length cap] 26))) (((W.alloc (.cells #[.int .i64 p, .slice a l.length cap] 26))).alloc (.cells #[.slice none 0 0, .slice none 0 0, .slice none 0 0] 117)) := belAl _ _
  have hzu : W.heap.size + 2 ≤ (((W.alloc (.cells #[.int .i64 p, .slice a l.length cap] 26))).alloc (.cells #[.slice none 0 0, .slice none 0 0, .slice none 0 0] 117)).heap.size := by simp
  replace B := B.step hba
  replace BG := Lib.hid (BG.out.below hba)
  clear hba
  unfold runOk at hr
  rw [Bool.and_eq_true] at hr
  obtain ⟨hg, hrr⟩ := hr
  obtain ⟨⟨hk1, hk3⟩, hl1, hl2⟩ := rangeB_bd hrr
  obtain ⟨⟨hg1, hg2⟩, hg3⟩ := isGraphB_bd hg
  obtain ⟨P, rfl⟩ := Int.eq_ofNat_of_zero_le (show 0 ≤ p by omega)
  try rw [Int.toNat_natCast]
  have HN := Lib.hid fun (w : World) (b : Below W.heap.size W w) => newPeb_yes w P k ⟨hk1, hk3⟩ a cap l (H1.out.below b) hg
  have HR : Hid (∀ w, Calls Tryz.prog 71 #[.int .i64 k, .int .i64 l0] w fun e w' => e = .returned (.bool true) ∧ Below w.heap.size w w') := Lib.hid fun w => by have := specRange_any k l0 w; rwa [hrr] at this
  have HPB := Lib.hid fun (w : World) (b : Below W.heap.size W w) (e : Nat) (he : e < l.length) (S : PebT) (hI : Inv P k l e S) (vF vT vP : Value) (hS : PebIs w vF vT vP S) => placeBar_at w P k l0 hrr a cap l (H1.out.below b) hg e he S hI vF vT vP hS
  have HPT := Lib.hid fun (e : Nat) (he : e ≤ l.length) => playTo_ok (l := l0) (show 0 ≤ k by omega) (bokG_of hg) (show P ≤ 8 by omega) ⟨hl1, by omega⟩ e he
  clear hg hrr
  go_enter Tryz.func109, Tryz.ntmps109
  go_wp2_with fail
  generalize ((W.alloc (.cells #[.int .i64 (P : Int), .slice a l.length cap] 26)).alloc (.cells #[.slice none 0 0, .slice none 0 0, .slice none 0 0] 117)) = u at *
  obtain ⟨zBG, fBG0, fBG1⟩ := BG.out
  go_wp2_with fail
  refine (HN.out _ B).mono ?_
  rintro e w1 ⟨v, rfl, ⟨uF, uT, uP, rfl, P3⟩, b⟩
  obtain ⟨aF, cF, rfl, -⟩ := P3.oF.form
  obtain ⟨aT, cT, rfl, -⟩ := P3.oT.form
  obtain ⟨aP, cP, rfl, -⟩ := P3.oP.form
  have hw1 : W.heap.size + 2 ≤ w1.heap.size := by have := b.size; have := B.size; omega
  have bal := belAl w1 (.cells #[.slice aF (List.replicate P k).length cF, .slice aT ([] : List Int).length cT, .slice aP ([] : List Int).length cP] 117)
  have B2 := (B.step b).step bal
  have HZ2 := Lib.hid ((HZ.out.below b).below bal)
  have BG2 := Lib.hid ((BG.out.below b).below bal)
  have ZP2 : Hid (ZerP (w1.alloc (.cells #[.slice aF (List.replicate P k).length cF, .slice aT ([] : List Int).length cT, .slice aP ([] : List Int).length cP] 117)) w1.heap.size) := Lib.hid (ZerP.at3 w1 _ _ _ _)
  have BP2 : Hid (BoxPb (w1.alloc (.cells #[.slice aF (List.replicate P k).length cF, .slice aT ([] : List Int).length cT, .slice aP ([] : List Int).length cP] 117)) w1.heap.size (.slice aF (List.replicate P k).length cF) (.slice aT ([] : List Int).length cT) (.slice aP ([] : List Int).length cP)) := Lib.hid (BoxPb.at w1 _ _ _ _)
  have IS2 : Hid (PebIs (w1.alloc (.cells #[.slice aF (List.replicate P k).length cF, .slice aT ([] : List Int).length cT, .slice aP ([] : List Int).length cP] 117)) (.slice aF (List.replicate P k).length cF) (.slice aT ([] : List Int).length cT) (.slice aP ([] : List Int).length cP) (List.replicate P k, [], [])) := Lib.hid (P3.is.below bal)
  rw [List.length_replicate] at bal B2 HZ2 BG2 ZP2 BP2 IS2
  simp only [List.length_nil] at bal B2 HZ2 BG2 ZP2 BP2 IS2
  clear zBG fBG0 fBG1
  have HBK0 : Hid (∀ k, (Value.slice aP 0 cP).ownBlock = some k → W.heap.size + 1 < k) := Lib.hid fun k hk => by have := (P3.oP.lt k hk).1; have := B.size; omega
  clear b P3
  go_upto_region 2 with (fail)
  generalize w1.alloc (.cells #[.slice aF P cF, .slice aT 0 cT, .slice aP 0 cP] 117) = w2 at *
  go_wp2_with fail
  refine (HR.out _).mono ?_
  rintro e w3 ⟨rfl, b⟩
  have B3 := B2.step b
  have HZ3 := Lib.hid (HZ2.out.below b)
  have BG3 := Lib.hid (BG2.out.below b)
  have ZP3 := Lib.hid (ZP2.out.below b)
  have BP3 := Lib.hid (BP2.out.below b)
  have IS3 := Lib.hid (IS2.out.below b)
  clear b B2 HZ2 BG2 ZP2 BP2 IS2 bal
  go_wp2_with fail
  go_loopw [10] (fun i wr => ∃ e : Nat, e ≤ l.length ∧ i = .int .i64 e ∧ (∃ vF vT vP, BoxPb wr w1.heap.size vF vT vP ∧ PebIs wr vF vT vP (playTo l l0 (List.replicate P k, [], []) e) ∧ ∀ k, vP.ownBlock = some k → W.heap.size + 1 < k) ∧ ZerP wr w1.heap.size ∧ ZerP wr (W.heap.size + 1) ∧ BoxGr wr W.heap.size P a l.length cap ∧ Below W.heap.size W wr) (fun i _ => l.length - (intOf i).toNat)
  case atStart => exact ⟨0, Nat.zero_le _, rfl, ⟨_, _, _, BP3.out, IS3.out, HBK0.out⟩, ZP3.out, HZ3.out, BG3.out, B3⟩
  case round =>
    clear B3 HZ3 BG3 ZP3 BP3 IS3 HBK0
    obtain ⟨e, he, rfl, ⟨vF, vT, vP, hbp, his, hbk⟩, hzp, hz, hbg, hbw⟩ := hrel
    have HBK := Lib.hid hbk
    clear hbk
    have hI := HPT.out e he
    have HS := Lib.hid (@playTo_succ l l0 (List.replicate P k, [], []) e)
    have HEQ : Hid (e = l.length → playTo l l0 (List.replicate P k, [], []) e = playP P l k l0) := Lib.hid fun h => by unfold playP; rw [h]
    generalize playTo l l0 (List.replicate P k, [], []) e = S at *
    obtain ⟨aF, cF, rfl, -⟩ := his.iF
    obtain ⟨aT, cT, rfl, -⟩ := his.iT
    obtain ⟨aP, cP, rfl, -⟩ := his.iP
    have HI := Lib.hid hI
    have HIS := Lib.hid his
    have HZP := Lib.hid hzp
    have HZ := Lib.hid hz
    have BG := Lib.hid hbg
    obtain ⟨zp, bp0, bp1, bp2⟩ := hbp
    obtain ⟨zBG, fBG0, fBG1⟩ := hbg
    clear hI his hzp hz
    by_cases hlt : e < l.length
    · have HC := Lib.hid (HPB.out wr hbw e hlt S HI.out _ _ _ HIS.out)
      rw [← HS.out] at HC
      go_wp2_with fail
      refine HC.out.mono ?_
      rintro r w4 ⟨v, ok, rfl, ⟨xF, xT, xP, rfl, P4⟩, b4⟩
      obtain ⟨S', hS'⟩ : ∃ S', S' = playTo l l0 (List.replicate P k, [], []) (e + 1) := ⟨_, rfl⟩
      rw [← hS'] at P4
      have HS' := Lib.hid hS'
      clear hS'
      obtain ⟨bF, dF, rfl, -⟩ := P4.oF.form
      obtain ⟨bT, dT, rfl, -⟩ := P4.oT.form
      obtain ⟨bP, dP, rfl, -⟩ := P4.oP.form
      have hZ4 := HZP.out.below b4
      have hL := PebC.lay (base := 0) P4 hZ4 (Nat.zero_le _) zp
      have BP5 : Hid (BoxPb _ w1.heap.size _ _ _) := Lib.hid ⟨hL.hi, hL.c0, hL.c1, hL.c2⟩
      have IS5 := Lib.hid hL.own.is
      have ZP5 := Lib.hid (ZerP.of hL)
      have hne : W.heap.size + 1 ≠ w1.heap.size := by omega
      have HZ5 := Lib.hid ((((HZ.out.below b4).kept (setKept (b := w1.heap.size) (j := 0) (x := .slice bF S'.1.length dF)) hne).kept (setKept (b := w1.heap.size) (j := 1) (x := .slice bT S'.2.1.length dT)) hne).kept (setKept (b := w1.heap.size) (j := 2) (x := .slice bP S'.2.2.length dP)) hne)
      have BG5 := Lib.hid ((((BG.out.below b4).kept (setKept (b := w1.heap.size) (j := 0) (x := .slice bF S'.1.length dF)) (by omega)).kept (setKept (b := w1.heap.size) (j := 1) (x := .slice bT S'.2.1.length dT)) (by omega)).kept (setKept (b := w1.heap.size) (j := 2) (x := .slice bP S'.2.2.length dP)) (by omega))
      have B5 := Lib.hid ((((hbw.step b4).setCell (p := ⟨w1.heap.size, 0, none⟩) (by simp <;> omega) (.slice bF S'.1.length dF)).setCell (p := ⟨w1.heap.size, 1, none⟩) (by simp <;> omega) (.slice bT S'.2.1.length dT)).setCell (p := ⟨w1.heap.size, 2, none⟩) (by simp <;> omega) (.slice bP S'.2.2.length dP))
      obtain ⟨⟨z0, z1, z2, y0, y1, y2⟩, ⟨g0, g1, g2⟩, gz⟩ := hZ4
      have HBK5 : Hid (∀ k, (Value.slice bP S'.2.2.length dP).ownBlock = some k → W.heap.size + 1 < k) := Lib.hid fun k hk => by have := (P4.oP.lt k hk).1; omega
      clear zp bp0 bp1 bp2 zBG fBG0 fBG1 hL P4 HC HIS HZP HZ BG HBK
      go_wp2_with fail
      go_roundw
      case rel => exact ⟨e + 1, by omega, by go_num, ⟨_, _, _, BP5.out, by rw [← HS'.out]; exact IS5.out, HBK5.out⟩, ZP5.out, HZ5.out, BG5.out, B5.out⟩
      case measure => simp [intOf]; omega
    · obtain ⟨⟨z0, z1, z2, y0, y1, y2⟩, ⟨g0, g1, g2⟩, gz⟩ := HZ.out
      have B5 := Lib.hid (((hbw.setCell (p := ⟨W.heap.size + 1, 0, none⟩) (by simp) (.slice aF S.1.length cF)).setCell (p := ⟨W.heap.size + 1, 1, none⟩) (by simp) (.slice aT S.2.1.length cT)).setCell (p := ⟨W.heap.size + 1, 2, none⟩) (by simp) (.slice aP S.2.2.length cP))
      obtain ⟨a9, c9, e9, hat⟩ := HIS.out.iP
      simp at e9
      obtain ⟨rfl, rfl⟩ := e9
      have HLN := Lib.hid (HI.out.len24 (show e ≤ 1000 by have := hg2; omega))
      have kk : Kept (fun q => q = W.heap.size + 1) wr (((wr.setCell ⟨W.heap.size + 1, 0, none⟩ (.slice aF S.1.length cF)).setCell ⟨W.heap.size + 1, 1, none⟩ (.slice aT S.2.1.length cT)).setCell ⟨W.heap.size + 1, 2, none⟩ (.slice aP S.2.2.length cP)) := (setKept.trans setKept).trans setKept
      have HAT := Lib.hid (hat.kept kk fun b off e h9 => by have := HBK.out b (by rw [e]; rfl); omega)
      clear kk
      clear hat
      go_wp2_with fail
      exact bodyPost_ret (v := .tuple #[.agg #[.slice aF S.1.length cF, .slice aT S.2.1.length cT, .slice aP S.2.2.length cP], .bool true]) (by simp [results, Tryz.results109, go_sem, gz, y0, y1, y2]) rfl ⟨aF, S.1.length, cF, aT, S.2.1.length, cT, aP, cP, S.2.2, rfl, HLN.out, HAT.out, B5.out⟩
set_option maxHeartbeats 4000000 in
theorem specAcc_at (W : World) (p : Int) (a : Option Addr) (cap : Nat) (l : List BarT) (h : BarsAt W a l.length l) (hs : l.length ≤ 1048576) (k l0 : Int) : Calls Tryz.prog 59 #[.agg #[.int .i64 p, .slice a l.length cap], .int .i64 k, .int .i64 l0] W fun e w' => ∃ v xs, e = .returned v ∧ OwnInts w' W.heap.size v xs ∧ xs.length ≤ 1000 ∧ Below W.heap.size W w' := by
  have hwd := @Wd.cells
  have HGr : Hid (IsGraph W (.agg #[.int .i64 p, .slice a l.length cap]) (p, l)) := Lib.hid ⟨a, cap, rfl, h⟩
  have H1 := Lib.hid h
  clear h
  have hsz : szGraph (p, l) ≤ 1048576 := hs
  have hsz2 : szGraph (p, l) ≤ 1099511627776 := Nat.le_trans hsz (by decide)
  have B : Below W.heap.size W (W.alloc (.cells #[.int .i64 p, .slice a l.length cap] 26)) := (Below.refl _ _).alloc (Nat.le_refl _) _
  have BG : Hid (BoxGr (W.alloc (.cells #[.int .i64 p, .slice a l.length cap] 26)) W.heap.size p a l.length cap) := Lib.hid (BoxGr.at rfl)
  have key : ∃ (ok : Bool), ∀ w, Below W.heap.size W w → Calls Tryz.prog 109 #[.agg #[.int .i64 p, .slice a l.length cap], .int .i64 k, .int .i64 l0] w (RetRr w ok) := by
    cases hr : runOk (p, l) k l0
    · exact ⟨false, fun w b => (specRun_no w p a cap l (H1.out.below b) hs k l0 hr).mono fun e w' ⟨v, h1, ⟨aF, nF, cF, aT, nT, cT, aP, cP, h2⟩, h3⟩ => ⟨aF, nF, cF, aT, nT, cT, aP, cP, [], by rw [h1, h2]; rfl, by simp, ⟨rfl, fun k hk => by simp at hk⟩, h3⟩⟩
    · exact ⟨true, fun w b => specRunR_yes w p a cap l (H1.out.below b) hs k l0 hr⟩
  obtain ⟨ok, hC⟩ := key
  have HC := Lib.hid hC
  clear hC
  go_enter Tryz.func59, Tryz.ntmps59
  go_wp2_with fail
  generalize (W.alloc (.cells #[.int .i64 p, .slice a l.length cap] 26)) = u at *
  obtain ⟨zBG, fBG0, fBG1⟩ := BG.out
  go_wp2_with fail
  clear zBG fBG0 fBG1
  refine (HC.out _ B).mono ?_
  rintro e w1 ⟨aF, nF, cF, aT, nT, cT, aP, cP, xs, rfl, hxl, hat, b⟩
  have ba := belAl w1 (.cells #[.slice aF nF cF, .slice aT nT cT, .slice aP xs.length cP] 117)
  have B2 := (B.step b).step ba
  have hc2 : (w1.alloc (.cells #[.slice aF nF cF, .slice aT nT cT, .slice aP xs.length cP] 117)).cell? ⟨w1.heap.size, 2, none⟩ = some (.slice aP xs.length cP) := by simp
  have HAT := Lib.hid (hat.below ba)
  have hz1 := b.size
  have hzW := B.size
  clear b hat ba HC BG
  go_upto_region 2 with (fail)
  have hw1 : w1.heap.size < (w1.alloc (.cells #[.slice aF nF cF, .slice aT nT cT, .slice aP xs.length cP] 117)).heap.size := by simp
  obtain ⟨g7, hg7⟩ : ∃ q, q = w1.heap.size := ⟨_, rfl⟩
  rw [← hg7] at hc2 hw1
  try rw [← hg7]
  generalize (w1.alloc (.cells #[.slice aF nF cF, .slice aT nT cT, .slice aP xs.length cP] 117)) = w2 at *
  have ba := belAl w2 (.cells #[] 3)
  have HM := Lib.hid (OwnInts.made w2 W.heap.size (by omega))
  have HAT2 := Lib.hid (HAT.out.below ba)
  have hz2 : W.heap.size ≤ (w2.alloc (.cells #[] 3)).heap.size := by simp; omega
  have B3 := B2.step ba
  clear ba HAT B2 hg7
  go_wp2_with (at_builtin; refine appAll rfl (.tmp 16) (.tmp 18) rfl rfl HM.out rfl HAT2.out (by simp; omega) hz2 ?_; intro v5 w5 h5 k5)
  have B5 := Lib.hid (B3.trans (k5.below B3.size fun k h1 h2 => by have := (HM.out.lt k h2.symm).1; omega))
  clear k5 HM HAT2
  go_ret
  exact ⟨_, xs, rfl, by simpa using h5, hxl, B5.out⟩
end Go.Proofs.YtfbmpkdjhhcnpaaGreat

