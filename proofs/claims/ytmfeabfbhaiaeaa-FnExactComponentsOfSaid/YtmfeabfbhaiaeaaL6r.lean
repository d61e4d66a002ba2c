/- l6Rank of the reference. Conditions: bars in range, at most 8 points. -/
import Derived.Test.YtmfeabfbhaiaeaaSpB
import Derived.Test.YtmfeabfbhaiaeaaPut
import Derived.Test.YtmfeabfbhaiaeaaApp2
import Derived.BigRegion
import Derived.Deep.RegionHeld3
import Derived.Deep.DeepCutAuto
namespace Go.Proofs.Ytmfeabfbhaiaeaa
open Go.RowKit
set_option maxRecDepth 100000
set_option linter.unusedVariables false
set_option linter.unusedSimpArgs false

theorem ncell1 (w : World) (a : Value) (ty : TypeId) : (w.alloc (.cells #[a] ty)).cell? ⟨w.heap.size, 0, none⟩ = some a := by simp [World.cell?_alloc_new]
theorem Peb3.setNe {base g i : Nat} {w : World} {vF vT vP x : Value} {S : PebT} (h : Peb3 base w vF vT vP S) (h1 : vF.ownBlock ≠ some g) (h2 : vT.ownBlock ≠ some g) (h3 : vP.ownBlock ≠ some g) : Peb3 base (w.setCell ⟨g, i, none⟩ x) vF vT vP S :=
  h.kept (setKept (b := g)) (fun k hk e => h1 (by rw [hk, e])) (fun k hk e => h2 (by rw [hk, e])) fun k hk e => h3 (by rw [hk, e])
theorem PebC.layNe {base pb : Nat} {w : World} {vF vT vP : Value} {S : PebT} (h : Peb3 base w vF vT vP S) (hz : ZerP w pb) (h1 : base ≤ pb) (nF : vF.ownBlock ≠ some pb) (nT : vT.ownBlock ≠ some pb) (nP : vP.ownBlock ≠ some pb) : PebC base (((w.setCell ⟨pb, 0, none⟩ vF).setCell ⟨pb, 1, none⟩ vT).setCell ⟨pb, 2, none⟩ vP) pb vF vT vP S := by
  obtain ⟨⟨a, b, c, c0, c1, c2⟩, ⟨f0, f1, f2⟩, hzz⟩ := hz
  have h3 := (((h.setNe (i := 0) (x := vF) nF nT nP).setNe (i := 1) (x := vT) nF nT nP).setNe (i := 2) (x := vP) nF nT nP)
  refine ⟨?_, ?_, ?_, ?_, ?_, ?_, h3.oF, h3.oT, h3.oP, h.dFT, h.dFP, h.dTP, nF, nT, nP, h1, by simpa using hzz⟩
  · rw [World.cell?_setCell_other _ _ _ _ (by simp), World.cell?_setCell_other _ _ _ _ (by simp)]; exact cellSame c0
  · rw [World.cell?_setCell_other _ _ _ _ (by simp)]; exact cellSame (by rw [World.cell?_setCell_other _ _ _ _ (by simp)]; exact c1)
  · exact cellSame (by rw [World.cell?_setCell_other _ _ _ _ (by simp), World.cell?_setCell_other _ _ _ _ (by simp)]; exact c2)
  · rw [World.frozen?_setCell, World.frozen?_setCell, World.frozen?_setCell]; exact f0
  · rw [World.frozen?_setCell, World.frozen?_setCell, World.frozen?_setCell]; exact f1
  · rw [World.frozen?_setCell, World.frozen?_setCell, World.frozen?_setCell]; exact f2

set_option maxHeartbeats 16000000 in
theorem l6Rank_at (W : World) (n : Nat) (hn : 1 ≤ n ∧ n ≤ 8) (a : Option Addr) (cap : Nat) (l : List BarT) (h : BarsAt W a l.length l) (hs : l.length ≤ 1048576) (hb : Bok n l) :
    Calls Try.prog 110 #[.agg #[.int .i64 (n : Int), .slice a l.length cap]] W fun e w' => e = .returned (.int .i64 ((playP n l 2 3).2.2.length : Int)) ∧ Below W.heap.size W w' := by
  have BG : Hid (BoxGr (W.alloc (.cells #[.int .i64 (n : Int), .slice a l.length cap] 32)) W.heap.size n a l.length cap) := Lib.hid (BoxGr.at rfl)
  have B0 := belAl W (.cells #[.int .i64 (n : Int), .slice a l.length cap] 32)
  have H1 := Lib.hid h
  have HB := Lib.hid hb
  have HN := Lib.hid fun (w : World) => newPeb_yes w n 2 ⟨by omega, by omega⟩ none 0 [] ⟨rfl, fun k hk => absurd hk (Nat.not_lt_zero _)⟩ (by simp [isGraphB, inB, barsOk]; omega)
  have HGA := Lib.hid fun (w : World) (b : Below W.heap.size W w) (E : Nat) (hE : E ≤ l.length) (S : PebT) (hI : Inv n 2 l E S) (vF vT vP : Value) (hS : PebIs w vF vT vP S) (x y : Int) (hx : 0 ≤ x ∧ x < n) (hy : 0 ≤ y ∧ y < n) (hxy : x ≠ y) => l4Gather_at w n E 2 hn.2 (by omega) a cap l (h.below b) hs hb hE S hI vF vT vP hS x y hx hy hxy 4 (by omega)
  have HPT := Lib.hid fun (e : Nat) (he : e ≤ l.length) => playTo_ok (k := 2) (l := 3) (by omega) hb hn.2 ⟨by omega, by omega⟩ e he
  clear h hb
  go_enter Try.func110, Try.ntmps110
  go_wp2_with fail
  generalize W.alloc (.cells #[.int .i64 (n : Int), .slice a l.length cap] 32) = u at *
  obtain ⟨zBG, fBG0, fBG1⟩ := BG.out
  go_wp2_with fail
  refine (HN.out u).mono ?_
  rintro e w1 ⟨v, rfl, ⟨uF, uT, uP, rfl, P3⟩, b⟩
  obtain ⟨aF, cF, rfl, -⟩ := P3.oF.form
  obtain ⟨aT, cT, rfl, -⟩ := P3.oT.form
  obtain ⟨aP, cP, rfl, -⟩ := P3.oP.form
  have hw1 : W.heap.size + 1 ≤ w1.heap.size := by have := b.size; omega
  have bal := belAl w1 (.cells #[.slice aF (List.replicate n (2 : Int)).length cF, .slice aT ([] : List Int).length cT, .slice aP ([] : List Int).length cP] 104)
  have B2 := (B0.step b).step bal
  have BG2 := Lib.hid ((BG.out.below b).below bal)
  have ZP2 : Hid (ZerP (w1.alloc (.cells #[.slice aF (List.replicate n (2 : Int)).length cF, .slice aT ([] : List Int).length cT, .slice aP ([] : List Int).length cP] 104)) w1.heap.size) := Lib.hid (ZerP.at3 w1 _ _ _ _)
  have BP2 : Hid (BoxPb (w1.alloc (.cells #[.slice aF (List.replicate n (2 : Int)).length cF, .slice aT ([] : List Int).length cT, .slice aP ([] : List Int).length cP] 104)) w1.heap.size (.slice aF (List.replicate n (2 : Int)).length cF) (.slice aT ([] : List Int).length cT) (.slice aP ([] : List Int).length cP)) := Lib.hid (BoxPb.at w1 _ _ _ _)
  have IS2 : Hid (PebIs (w1.alloc (.cells #[.slice aF (List.replicate n (2 : Int)).length cF, .slice aT ([] : List Int).length cT, .slice aP ([] : List Int).length cP] 104)) (.slice aF (List.replicate n (2 : Int)).length cF) (.slice aT ([] : List Int).length cT) (.slice aP ([] : List Int).length cP) (List.replicate n 2, [], [])) := Lib.hid (P3.is.below bal)
  rw [List.length_replicate] at bal B2 BG2 ZP2 BP2 IS2
  simp only [List.length_nil] at bal B2 BG2 ZP2 BP2 IS2
  clear b P3 zBG fBG0 fBG1
  go_upto_region 2 with (fail)
  generalize w1.alloc (.cells #[.slice aF n cF, .slice aT 0 cT, .slice aP 0 cP] 104) = w2 at *
  go_wp2_with fail
  go_loopw [5, 6] (fun c i wr => ∃ e : Nat, e ≤ l.length ∧ i = .int .i64 e ∧ c = .int .i64 ((playTo l 3 (List.replicate n 2, [], []) e).2.2.length : Int) ∧ (∃ vF vT vP, BoxPb wr w1.heap.size vF vT vP ∧ PebIs wr vF vT vP (playTo l 3 (List.replicate n 2, [], []) e)) ∧ ZerP wr w1.heap.size ∧ BoxGr wr W.heap.size n a l.length cap ∧ Below W.heap.size W wr) (fun _ i _ => l.length - (intOf i).toNat)
  case atStart => exact ⟨0, Nat.zero_le _, rfl, rfl, ⟨_, _, _, BP2.out, IS2.out⟩, ZP2.out, BG2.out, B2⟩
  case round =>
    clear B2 BG2 ZP2 BP2 IS2 bal
    obtain ⟨e, he, rfl, rfl, ⟨vF, vT, vP, hbp, his⟩, hzp, hbg, hbw⟩ := hrel
    have hI := HPT.out e he
    have HS := Lib.hid (@playTo_succ l 3 (List.replicate n 2, [], []) e)
    have HEQ : Hid (e = l.length → playTo l 3 (List.replicate n 2, [], []) e = playP n l 2 3) := Lib.hid fun h => by unfold playP; rw [h]
    generalize playTo l 3 (List.replicate n 2, [], []) e = S at *
    obtain ⟨aF, cF, rfl, -⟩ := his.iF
    obtain ⟨aT, cT, rfl, -⟩ := his.iT
    obtain ⟨aP, cP, rfl, -⟩ := his.iP
    have HI := Lib.hid hI
    have HIS := Lib.hid his
    have HZP := Lib.hid hzp
    have BG := Lib.hid hbg
    obtain ⟨zp, bp0, bp1, bp2⟩ := hbp
    obtain ⟨zBG, fBG0, fBG1⟩ := hbg
    clear hI his hzp
    by_cases hlt : e < l.length
    · obtain ⟨bb, off, ⟨c1, c2⟩, rfl, hbl, hxb, d0, d1⟩ := (H1.out.below hbw).2 e hlt
      dsimp only at d0 d1
      have hgb : gB l e = (c1, c2) := by unfold gB; rw [hxb]; rfl
      have hbe := HB.out e hlt
      rw [hgb] at hbe
      dsimp only at hbe
      obtain ⟨xN, rfl⟩ := Int.eq_ofNat_of_zero_le hbe.1
      obtain ⟨yN, rfl⟩ := Int.eq_ofNat_of_zero_le (show 0 ≤ c2 by omega)
      have HGB := Lib.hid hgb
      have s3 : (e : Int) < (l.length : Int) := by omega
      have s6 : (0 : Int) ≤ (e : Int) := by omega
      clear hxb hgb
      have SK : Hid (∀ w', Below wr.drew.heap.size wr.drew w' → w'.cell? ⟨W.heap.size, 0, none⟩ = some (.int .i64 (n : Int)) ∧ w'.cell? ⟨W.heap.size, 1, none⟩ = some (.slice (some ⟨bb, off, none⟩) l.length cap) ∧ w'.cell? ⟨w1.heap.size, 0, none⟩ = some (.slice aF S.1.length cF) ∧ w'.cell? ⟨w1.heap.size, 1, none⟩ = some (.slice aT S.2.1.length cT) ∧ w'.cell? ⟨w1.heap.size, 2, none⟩ = some (.slice aP S.2.2.length cP) ∧ w'.cell? ⟨bb, off + e * 2, none⟩ = some (.int .i64 (xN : Int)) ∧ w'.cell? ⟨bb, off + e * 2 + 1, none⟩ = some (.int .i64 (yN : Int))) := Lib.hid fun w' hb => ⟨((bcell hb).1 _ _ zBG).trans fBG0, ((bcell hb).1 _ _ zBG).trans fBG1, ((bcell hb).1 _ _ zp).trans bp0, ((bcell hb).1 _ _ zp).trans bp1, ((bcell hb).1 _ _ zp).trans bp2, ((bcell hb).1 _ _ hbl).trans d0, ((bcell hb).1 _ _ hbl).trans d1⟩
      have bd : Below wr.drew.heap.size wr.drew wr.drew := Below.refl _ _
      have bdw : Below wr.heap.size wr wr.drew := (Below.refl _ wr).drew
      cases hG : gatherP l (xN : Int) (yN : Int) 4 7 S with
      | mk S' ok =>
      have HGC := Lib.hid (show ∀ w9, Below wr.drew.heap.size wr.drew w9 → Calls Try.prog 125 #[.agg #[.int .i64 (n : Int), .slice (some ⟨bb, off, none⟩) l.length cap], .agg #[.slice aF S.1.length cF, .slice aT S.2.1.length cT, .slice aP S.2.2.length cP], .int .i64 (xN : Int), .int .i64 (yN : Int), .int .i64 4] w9 (RetGa w9 S' ok) from fun w9 b9 => by
        have b10 : Below wr.heap.size wr w9 := bdw.trans b9
        have := HGA.out w9 (hbw.trans (b10.mono hbw.size)) e (Nat.le_of_lt hlt) S HI.out _ _ _ (HIS.out.below b10) (xN : Int) (yN : Int) ⟨by omega, by omega⟩ ⟨by omega, by omega⟩ (by omega)
        rw [hG] at this
        exact this)
      have HGG := Lib.hid hG
      clear hG
      go_wp2_with fail
      go_cut [7, 8] (fun s7 s8 wx => ∃ g : Nat, s7 = .pointer (some ⟨g, 0, none⟩) ∧ s8 = .bool ok ∧ (∃ vF' vT' vP', PebC wr.heap.size wx g vF' vT' vP' S') ∧ Below wr.heap.size wr wx)
      case first =>
        refine wp_regionZ (fun w' => w'.cell? ⟨W.heap.size, 0, none⟩ = some (.int .i64 (n : Int)) ∧ w'.cell? ⟨W.heap.size, 1, none⟩ = some (.slice (some ⟨bb, off, none⟩) l.length cap) ∧ w'.cell? ⟨w1.heap.size, 0, none⟩ = some (.slice aF S.1.length cF) ∧ w'.cell? ⟨w1.heap.size, 1, none⟩ = some (.slice aT S.2.1.length cT) ∧ w'.cell? ⟨w1.heap.size, 2, none⟩ = some (.slice aP S.2.2.length cP) ∧ w'.cell? ⟨bb, off + e * 2, none⟩ = some (.int .i64 (xN : Int)) ∧ w'.cell? ⟨bb, off + e * 2 + 1, none⟩ = some (.int .i64 (yN : Int))) 20 (by kernel_rfl) ?_
        refine wpAnyZ_take (i := 0) (v := ?_) rfl (by kernel_rfl) (by kernel_rfl) (by kernel_rfl) (by kernel_rfl) (by kernel_rfl) (fun _ _ _ h => h) (SK.out _ bd) (by rfl) ?_ ?_
        rotate_left
        · intro x hx; obtain ⟨u1, u2, u3, u4, u5, u6, u7⟩ := hx; go_simp; try (with_reducible rfl)
        try simp only [Act.put, List.setIfInBounds_toArray, List.set_cons_zero, List.set_cons_succ]
        refine wpAnyZ_take (i := 1) (v := ?_) rfl (by kernel_rfl) (by kernel_rfl) (by kernel_rfl) (by kernel_rfl) (by kernel_rfl) (fun _ _ _ h => h) (SK.out _ bd) (by rfl) ?_ ?_
        rotate_left
        · intro x hx; obtain ⟨u1, u2, u3, u4, u5, u6, u7⟩ := hx; go_simp; try (with_reducible rfl)
        try simp only [Act.put, List.setIfInBounds_toArray, List.set_cons_zero, List.set_cons_succ]
        refine wpAnyZ_take (i := 2) (v := ?_) rfl (by kernel_rfl) (by kernel_rfl) (by kernel_rfl) (by kernel_rfl) (by kernel_rfl) (fun _ _ _ h => h) (SK.out _ bd) (by rfl) ?_ ?_
        rotate_left
        · intro x hx; obtain ⟨u1, u2, u3, u4, u5, u6, u7⟩ := hx; go_simp; try (with_reducible rfl)
        try simp only [Act.put, List.setIfInBounds_toArray, List.set_cons_zero, List.set_cons_succ]
        refine wpAnyZ_take (i := 3) (v := ?_) rfl (by kernel_rfl) (by kernel_rfl) (by kernel_rfl) (by kernel_rfl) (by kernel_rfl) (fun _ _ _ h => h) (SK.out _ bd) (by rfl) ?_ ?_
        rotate_left
        · intro x hx; obtain ⟨u1, u2, u3, u4, u5, u6, u7⟩ := hx; go_simp; try (with_reducible rfl)
        try simp only [Act.put, List.setIfInBounds_toArray, List.set_cons_zero, List.set_cons_succ]
        refine wpAnyZ_take (i := 4) (v := ?_) rfl (by kernel_rfl) (by kernel_rfl) (by kernel_rfl) (by kernel_rfl) (by kernel_rfl) (fun _ _ _ h => h) (SK.out _ bd) (by rfl) ?_ ?_
        rotate_left
        · intro x hx; obtain ⟨u1, u2, u3, u4, u5, u6, u7⟩ := hx; go_simp; try (with_reducible rfl)
        try simp only [Act.put, List.setIfInBounds_toArray, List.set_cons_zero, List.set_cons_succ]
        refine wpAnyZ_take (i := 5) (v := ?_) rfl (by kernel_rfl) (by kernel_rfl) (by kernel_rfl) (by kernel_rfl) (by kernel_rfl) (fun _ _ _ h => h) (SK.out _ bd) (by rfl) ?_ ?_
        rotate_left
        · intro x hx; obtain ⟨u1, u2, u3, u4, u5, u6, u7⟩ := hx; go_simp; try (with_reducible rfl)
        try simp only [Act.put, List.setIfInBounds_toArray, List.set_cons_zero, List.set_cons_succ]
        refine wpAnyZ_take (i := 6) (v := ?_) rfl (by kernel_rfl) (by kernel_rfl) (by kernel_rfl) (by kernel_rfl) (by kernel_rfl) (fun _ _ _ h => h) (SK.out _ bd) (by rfl) ?_ ?_
        rotate_left
        · intro x hx; obtain ⟨u1, u2, u3, u4, u5, u6, u7⟩ := hx; go_simp; try (with_reducible rfl)
        try simp only [Act.put, List.setIfInBounds_toArray, List.set_cons_zero, List.set_cons_succ]
        refine wpAnyZ_take (i := 7) (v := ?_) rfl (by kernel_rfl) (by kernel_rfl) (by kernel_rfl) (by kernel_rfl) (by kernel_rfl) (fun _ _ _ h => h) (SK.out _ bd) (by rfl) ?_ ?_
        rotate_left
        · intro x hx; obtain ⟨u1, u2, u3, u4, u5, u6, u7⟩ := hx; go_simp; try (with_reducible rfl)
        try simp only [Act.put, List.setIfInBounds_toArray, List.set_cons_zero, List.set_cons_succ]
        refine wpAnyZ_take (i := 8) (v := ?_) rfl (by kernel_rfl) (by kernel_rfl) (by kernel_rfl) (by kernel_rfl) (by kernel_rfl) (fun _ _ _ h => h) (SK.out _ bd) (by rfl) ?_ ?_
        rotate_left
        · intro x hx; obtain ⟨u1, u2, u3, u4, u5, u6, u7⟩ := hx; go_simp; try (with_reducible rfl)
        try simp only [Act.put, List.setIfInBounds_toArray, List.set_cons_zero, List.set_cons_succ]
        refine wpAnyZ_take (i := 9) (v := ?_) rfl (by kernel_rfl) (by kernel_rfl) (by kernel_rfl) (by kernel_rfl) (by kernel_rfl) (fun _ _ _ h => h) (SK.out _ bd) (by rfl) ?_ ?_
        rotate_left
        · intro x hx; obtain ⟨u1, u2, u3, u4, u5, u6, u7⟩ := hx; go_simp; try (with_reducible rfl)
        try simp only [Act.put, List.setIfInBounds_toArray, List.set_cons_zero, List.set_cons_succ]
        refine wpAnyZ_take (i := 10) (v := ?_) rfl (by kernel_rfl) (by kernel_rfl) (by kernel_rfl) (by kernel_rfl) (by kernel_rfl) (fun _ _ _ h => h) (SK.out _ bd) (by rfl) ?_ ?_
        rotate_left
        · intro x hx; obtain ⟨u1, u2, u3, u4, u5, u6, u7⟩ := hx; go_simp; try (with_reducible rfl)
        try simp only [Act.put, List.setIfInBounds_toArray, List.set_cons_zero, List.set_cons_succ]
        refine wpAnyZ_take (i := 11) (v := ?_) rfl (by kernel_rfl) (by kernel_rfl) (by kernel_rfl) (by kernel_rfl) (by kernel_rfl) (fun _ _ _ h => h) (SK.out _ bd) (by rfl) ?_ ?_
        rotate_left
        · intro x hx; obtain ⟨u1, u2, u3, u4, u5, u6, u7⟩ := hx; go_simp; try (with_reducible rfl)
        try simp only [Act.put, List.setIfInBounds_toArray, List.set_cons_zero, List.set_cons_succ]
        refine wpAnyZ_take (i := 12) (v := ?_) rfl (by kernel_rfl) (by kernel_rfl) (by kernel_rfl) (by kernel_rfl) (by kernel_rfl) (fun _ _ _ h => h) (SK.out _ bd) (by rfl) ?_ ?_
        rotate_left
        · intro x hx; obtain ⟨u1, u2, u3, u4, u5, u6, u7⟩ := hx; go_simp; try (with_reducible rfl)
        try simp only [Act.put, List.setIfInBounds_toArray, List.set_cons_zero, List.set_cons_succ]
        refine wpAnyZ_take (i := 13) (v := ?_) rfl (by kernel_rfl) (by kernel_rfl) (by kernel_rfl) (by kernel_rfl) (by kernel_rfl) (fun _ _ _ h => h) (SK.out _ bd) (by rfl) ?_ ?_
        rotate_left
        · intro x hx; obtain ⟨u1, u2, u3, u4, u5, u6, u7⟩ := hx; go_simp; try (with_reducible rfl)
        try simp only [Act.put, List.setIfInBounds_toArray, List.set_cons_zero, List.set_cons_succ]
        have nz0 := ZerP.at wr.drew 104
        refine wpAnyZ_node [14, 18] (by kernel_rfl) (by decide) ?_
        intro i hi
        simp only [List.mem_cons, List.not_mem_nil, or_false] at hi
        rcases hi with rfl | rfl
        · refine ⟨_, rfl, by rfl, ?_⟩
          intro KK hKK
          go_simp
          go_at_call 125
          refine (HGC.out _ bd).mono ?_
          rintro r w5 ⟨v, rfl, ⟨uF, uT, uP, rfl, P5⟩, b5⟩
          obtain ⟨aF5, cF5, rfl, -⟩ := P5.oF.form
          obtain ⟨aT5, cT5, rfl, -⟩ := P5.oT.form
          obtain ⟨aP5, cP5, rfl, -⟩ := P5.oP.form
          have s5 := SK.out _ b5
          go_wp2_with fail
          refine hKK.out _ _ (.inr s5) ?_
          clear hKK KK
          try simp only [Act.put, List.setIfInBounds_toArray, List.set_cons_zero, List.set_cons_succ]
          refine wpAnyZ_take (i := 15) (v := ?_) rfl (by kernel_rfl) (by kernel_rfl) (by kernel_rfl) (by kernel_rfl) (by kernel_rfl) (fun _ _ _ h => h) (s5) (by rfl) ?_ ?_
          rotate_left
          · intro x hx; obtain ⟨u1, u2, u3, u4, u5, u6, u7⟩ := hx; go_simp; try (with_reducible rfl)
          try simp only [Act.put, List.setIfInBounds_toArray, List.set_cons_zero, List.set_cons_succ]
          refine wpAnyZ_take (i := 16) (v := ?_) rfl (by kernel_rfl) (by kernel_rfl) (by kernel_rfl) (by kernel_rfl) (by kernel_rfl) (fun _ _ _ h => h) (s5) (by rfl) ?_ ?_
          rotate_left
          · intro x hx; obtain ⟨u1, u2, u3, u4, u5, u6, u7⟩ := hx; go_simp; try (with_reducible rfl)
          try simp only [Act.put, List.setIfInBounds_toArray, List.set_cons_zero, List.set_cons_succ]
          refine wpAnyZ_take (i := 17) (v := ?_) rfl (by kernel_rfl) (by kernel_rfl) (by kernel_rfl) (by kernel_rfl) (by kernel_rfl) (fun _ _ _ h => h) (s5) (by rfl) ?_ ?_
          rotate_left
          · intro x hx; obtain ⟨u1, u2, u3, u4, u5, u6, u7⟩ := hx; go_simp; try (with_reducible rfl)
          try simp only [Act.put, List.setIfInBounds_toArray, List.set_cons_zero, List.set_cons_succ]
          have bal := belAl w5 (.cells #[.slice none 0 0, .slice none 0 0, .slice none 0 0] 104)
          have s6 := SK.out _ (b5.step bal)
          have hZ := ZerP.at w5 104
          have hwz := b5.size
          have hwd0 : wr.heap.size ≤ wr.drew.heap.size := Nat.le_refl _
          have HLY : Hid (PebC wr.heap.size (w5.alloc (.cells #[.slice aF5 S'.1.length cF5, .slice aT5 S'.2.1.length cT5, .slice aP5 S'.2.2.length cP5] 104)) w5.heap.size _ _ _ S') := Lib.hid (PebC.new (base := wr.heap.size) P5 (Nat.le_refl _) (by omega))
          have s9 := SK.out _ (b5.step (belAl w5 (.cells #[.slice aF5 S'.1.length cF5, .slice aT5 S'.2.1.length cT5, .slice aP5 S'.2.2.length cP5] 104)))
          have HBW := Lib.hid ((bdw.trans b5).trans ((belAl w5 (.cells #[.slice aF5 S'.1.length cF5, .slice aT5 S'.2.1.length cT5, .slice aP5 S'.2.2.length cP5] 104)).mono (by omega)))
          clear bal P5 b5
          refine wpAnyZ_step (i := 18) (by kernel_rfl) rfl (by rfl) ?_
          intro KK hKK
          go_simp
          refine hKK.out _ _ (.inr s6) ?_
          clear hKK KK
          try simp only [Act.put, List.setIfInBounds_toArray, List.set_cons_zero, List.set_cons_succ]
          obtain ⟨⟨z0, z1, z2, y0, y1, y2⟩, ⟨g0, g1, g2⟩, gz⟩ := hZ
          clear s5 s6
          refine wpAnyZ_step (i := 19) (by kernel_rfl) rfl (by rfl) ?_
          intro KK hKK
          go_simp
          refine hKK.out _ _ (.inr s9) ?_
          clear hKK KK
          try simp only [Act.put, List.setIfInBounds_toArray, List.set_cons_zero, List.set_cons_succ]
          refine wpAnyZ_step (i := 20) (by kernel_rfl) rfl (by rfl) ?_
          intro KK hKK
          go_simp
          refine hKK.out _ _ (.inl (by kernel_rfl)) ?_
          clear hKK KK
          try simp only [Act.put, List.setIfInBounds_toArray, List.set_cons_zero, List.set_cons_succ]
          refine wpAnyZ_done (by kernel_rfl) ?_ _
          clear SK HGC
          go_wp2_with fail
          go_meet
          exact ⟨_, rfl, rfl, ⟨_, _, _, HLY.out⟩, HBW.out⟩
        · refine ⟨_, rfl, by rfl, ?_⟩
          intro KK hKK
          have bz : Below wr.drew.heap.size wr.drew (wr.alloc (.cells #[.slice none 0 0, .slice none 0 0, .slice none 0 0] 104)).drew := (by have h0 := (belAl wr (.cells #[.slice none 0 0, .slice none 0 0, .slice none 0 0] 104)).drew; exact ⟨h0.os, h0.tape, h0.output, h0.size, h0.block⟩)
          have s4 := SK.out _ bz
          have hZ4 : ZerP (wr.alloc (.cells #[.slice none 0 0, .slice none 0 0, .slice none 0 0] 104)).drew wr.heap.size := (ZerP.at wr 104).below (Below.refl _ _).drew
          go_simp
          refine hKK.out _ _ (.inr s4) ?_
          clear hKK KK
          try simp only [Act.put, List.setIfInBounds_toArray, List.set_cons_zero, List.set_cons_succ]
          generalize (wr.alloc (.cells #[.slice none 0 0, .slice none 0 0, .slice none 0 0] 104)).drew = wz at *
          refine wpAnyZ_step (i := 14) (by kernel_rfl) rfl (by rfl) ?_
          intro KK hKK
          go_simp
          go_at_call 125
          refine (HGC.out _ bz).mono ?_
          rintro r w5 ⟨v, rfl, ⟨uF, uT, uP, rfl, P5⟩, b5⟩
          obtain ⟨aF5, cF5, rfl, -⟩ := P5.oF.form
          obtain ⟨aT5, cT5, rfl, -⟩ := P5.oT.form
          obtain ⟨aP5, cP5, rfl, -⟩ := P5.oP.form
          have s5 := SK.out _ (bz.step b5)
          go_wp2_with fail
          refine hKK.out _ _ (.inr s5) ?_
          clear hKK KK
          try simp only [Act.put, List.setIfInBounds_toArray, List.set_cons_zero, List.set_cons_succ]
          refine wpAnyZ_take (i := 15) (v := ?_) rfl (by kernel_rfl) (by kernel_rfl) (by kernel_rfl) (by kernel_rfl) (by kernel_rfl) (fun _ _ _ h => h) (s5) (by rfl) ?_ ?_
          rotate_left
          · intro x hx; obtain ⟨u1, u2, u3, u4, u5, u6, u7⟩ := hx; go_simp; try (with_reducible rfl)
          try simp only [Act.put, List.setIfInBounds_toArray, List.set_cons_zero, List.set_cons_succ]
          refine wpAnyZ_take (i := 16) (v := ?_) rfl (by kernel_rfl) (by kernel_rfl) (by kernel_rfl) (by kernel_rfl) (by kernel_rfl) (fun _ _ _ h => h) (s5) (by rfl) ?_ ?_
          rotate_left
          · intro x hx; obtain ⟨u1, u2, u3, u4, u5, u6, u7⟩ := hx; go_simp; try (with_reducible rfl)
          try simp only [Act.put, List.setIfInBounds_toArray, List.set_cons_zero, List.set_cons_succ]
          refine wpAnyZ_take (i := 17) (v := ?_) rfl (by kernel_rfl) (by kernel_rfl) (by kernel_rfl) (by kernel_rfl) (by kernel_rfl) (fun _ _ _ h => h) (s5) (by rfl) ?_ ?_
          rotate_left
          · intro x hx; obtain ⟨u1, u2, u3, u4, u5, u6, u7⟩ := hx; go_simp; try (with_reducible rfl)
          try simp only [Act.put, List.setIfInBounds_toArray, List.set_cons_zero, List.set_cons_succ]
          have hZ := hZ4.below b5
          have hzl := hZ4.2.2
          have hwz := b5.size
          have HLY := Lib.hid (PebC.layNe (base := wr.heap.size) (P5.low (by omega)) hZ (Nat.le_refl _) (fun e => by have := (P5.oF.lt _ e).1; omega) (fun e => by have := (P5.oT.lt _ e).1; omega) (fun e => by have := (P5.oP.lt _ e).1; omega))
          have s9 := SK.out _ ((((bz.step b5).setCell (p := ⟨wr.heap.size, 0, none⟩) (Nat.le_refl _) (.slice aF5 S'.1.length cF5)).setCell (p := ⟨wr.heap.size, 1, none⟩) (Nat.le_refl _) (.slice aT5 S'.2.1.length cT5)).setCell (p := ⟨wr.heap.size, 2, none⟩) (Nat.le_refl _) (.slice aP5 S'.2.2.length cP5))
          have HBW := Lib.hid ((((bdw.trans (bz.step b5)).setCell (p := ⟨wr.heap.size, 0, none⟩) (by simp) (.slice aF5 S'.1.length cF5)).setCell (p := ⟨wr.heap.size, 1, none⟩) (by simp) (.slice aT5 S'.2.1.length cT5)).setCell (p := ⟨wr.heap.size, 2, none⟩) (by simp) (.slice aP5 S'.2.2.length cP5))
          clear P5 b5 bz s4 hZ4 hzl
          obtain ⟨⟨z0, z1, z2, y0, y1, y2⟩, ⟨g0, g1, g2⟩, gz⟩ := hZ
          clear s5
          refine wpAnyZ_step (i := 19) (by kernel_rfl) rfl (by rfl) ?_
          intro KK hKK
          go_simp
          refine hKK.out _ _ (.inr s9) ?_
          clear hKK KK
          try simp only [Act.put, List.setIfInBounds_toArray, List.set_cons_zero, List.set_cons_succ]
          refine wpAnyZ_step (i := 20) (by kernel_rfl) rfl (by rfl) ?_
          intro KK hKK
          go_simp
          refine hKK.out _ _ (.inl (by kernel_rfl)) ?_
          clear hKK KK
          try simp only [Act.put, List.setIfInBounds_toArray, List.set_cons_zero, List.set_cons_succ]
          refine wpAnyZ_done (by kernel_rfl) ?_ _
          clear SK HGC
          go_wp2_with fail
          go_meet
          exact ⟨_, rfl, rfl, ⟨_, _, _, HLY.out⟩, HBW.out⟩
      case rest =>
        obtain ⟨g, rfl, rfl, ⟨vF, vT, vP, hpc⟩, hbc⟩ := hcut
        obtain ⟨w5, hw5⟩ : ∃ w5, w5 = wc := ⟨_, rfl⟩
        subst hw5
        have hIS5 := HIS.out.below hbc
        have HZP5 := Lib.hid (HZP.out.below hbc)
        have BG5 := Lib.hid (BG.out.below hbc)
        have B5 := hbw.step hbc
        have hgw : wr.heap.size ≤ g := hpc.lo
        have hpl : placeP l 3 S e = (match gatherP l (xN : Int) (yN : Int) 4 7 S with | (S', true) => some (layP S' (if gI S'.1 (xN : Int).toNat = 0 then (yN : Int) else (xN : Int)) e) | (_, false) => none) := by
          unfold placeP
          rw [HGB.out]
          rfl
        rw [HGG.out] at hpl
        cases ok
        · have HSS := Lib.hid (show playTo l 3 (List.replicate n 2, [], []) (e + 1) = S by rw [HS.out, hpl]; rfl)
          have BP5 : Hid (BoxPb w5 w1.heap.size (.slice aF S.1.length cF) (.slice aT S.2.1.length cT) (.slice aP S.2.2.length cP)) := Lib.hid ((BoxPb.mk zp bp0 bp1 bp2).below hbc)
          have IS5 := Lib.hid hIS5
          clear hpl SK bd bdw HGC HGG hpc hIS5 zp bp0 bp1 bp2 zBG fBG0 fBG1 d0 d1 hbl hbc
          go_wp2_with fail
          go_roundw
          case rel => exact ⟨e + 1, by omega, by go_num, by rw [HSS.out], ⟨_, _, _, BP5.out, by rw [HSS.out]; exact IS5.out⟩, HZP5.out, BG5.out, B5⟩
          case measure => simp [intOf]; omega
        · have hgo := gatherP_ok (want := 4) HB.out (show e ≤ l.length by omega) hn.2 (a := (xN : Int)) (b := (yN : Int)) ⟨by omega, by omega⟩ ⟨by omega, by omega⟩ (by omega) 7 S HI.out
          rw [HGG.out] at hgo
          obtain ⟨o1, o2, o3⟩ := hgo
          have f0 := HI.out.fr xN (by omega)
          have f1 := HI.out.fr yN (by omega)
          have h4 := o3 rfl (by rw [Int.toNat_natCast, Int.toNat_natCast]; push_cast; omega)
          dsimp only at o1 o2 h4
          rw [Int.toNat_natCast, Int.toNat_natCast] at h4
          have p0 := o1.fr xN (by omega)
          have p1 := o1.fr yN (by omega)
          have hx2 : gI S'.1 xN = 2 := by omega
          have HSS := Lib.hid (show playTo l 3 (List.replicate n 2, [], []) (e + 1) = (S'.1.set xN (gI S'.1 xN - 1), S'.2.1 ++ [(xN : Int)], S'.2.2 ++ [(e : Int)]) by
            rw [HS.out, hpl]
            show layP S' (if gI S'.1 (xN : Int).toNat = 0 then (yN : Int) else (xN : Int)) e = _
            rw [Int.toNat_natCast, if_neg (by omega)]
            rfl)
          have hlen : S.2.2.length = S'.2.2.length := by rw [o2]
          have HLN := Lib.hid hlen
          have hm1 : S'.2.2.length ≤ l.length := by have := o1.plen; omega
          have hm2 : S'.2.1.length ≤ l.length := by have := o1.tl; have := o1.plen; omega
          have hlF := o1.len
          obtain ⟨gF, cG, hvF, hgF, -⟩ := ownForm hpc.oF (by omega)
          rw [hlF] at hvF
          subst hvF
          obtain ⟨aT', cT', rfl, -⟩ := hpc.oT.form
          obtain ⟨aP', cP', rfl, -⟩ := hpc.oP.form
          have HC5 := Lib.hid hpc
          obtain ⟨fx, hfx⟩ : ∃ fx, fx = gI S'.1 xN := ⟨_, rfl⟩
          have HFX := Lib.hid hfx
          have hfx2 : 1 ≤ fx ∧ fx ≤ 2 := by rw [hfx, hx2]; omega
          have HFL := Lib.hid hlF
          clear hpl SK bd bdw HGC HGG hpc hIS5 zp bp0 bp1 bp2 zBG fBG0 fBG1 o1 o2 o3 f0 f1 h4 p0 p1 hlen hlF hx2 hfx
          have c0 := HC5.out.c0
          have hsb := HC5.out.hi
          have t0 := HC5.out.oF.gcell (k := xN) (by have := HFL.out; omega)
          rw [← HFX.out] at t0
          have tz := HC5.out.oF.gfroz xN
          have hsF : gF < w5.heap.size := (HC5.out.oF.lt _ rfl).2
          obtain ⟨zBG, fBG0, fBG1⟩ := BG5.out
          have hbW : bb < W.heap.size := by
            obtain ⟨_, _, _, hab2, q2, _⟩ := H1.out.2 e hlt
            simp only [Option.some.injEq, Addr.mk.injEq, and_true] at hab2
            obtain ⟨rfl, -⟩ := hab2
            exact q2
          have hWw := hbw.size
          have dw0 := Lib.hid d0
          have dw1 := Lib.hid d1
          replace d0 := ((bcell hbc).1 _ _ hbl).trans d0
          replace d1 := ((bcell hbc).1 _ _ hbl).trans d1
          have hbl5 := Nat.lt_of_lt_of_le hbl hbc.size
          have e4 : (xN : Int) < (n : Int) := by omega
          have hwr := IntWalk.i64_in (fx - 1) (by omega)
          have HC6 := Lib.hid ((HC5.out.setF xN (fx - 1)).below (Below.refl _ _).drew)
          have bk6 : Below wr.heap.size wr (w5.setCell ⟨gF, xN, none⟩ (.int .i64 (fx - 1))).drew := (hbc.setCell (p := ⟨gF, xN, none⟩) hgF _).drew
          go_wp2_with fail
          go_region
          clear c0 hsb t0 tz hsF hwr HC5 BG5 HZP5 B5 zBG fBG0 fBG1 hbl5
          generalize (w5.setCell ⟨gF, xN, none⟩ (.int .i64 (fx - 1))).drew = w6 at *
          have hgz := HC6.out.hi
          have o1 := HC6.out.c1
          have o2 := HC6.out.f1
          have BG6 := BG.out.below bk6
          have SK : Hid (∀ w', Below w6.drew.heap.size w6.drew w' → w'.cell? ⟨g, 1, none⟩ = some (.slice aT' S'.2.1.length cT') ∧ w'.cell? ⟨W.heap.size, 1, none⟩ = some (.slice (some ⟨bb, off, none⟩) l.length cap) ∧ w'.cell? ⟨bb, off + e * 2, none⟩ = some (.int .i64 (xN : Int)) ∧ w'.cell? ⟨bb, off + e * 2 + 1, none⟩ = some (.int .i64 (yN : Int))) := Lib.hid fun w' hb => ⟨((bcell hb).1 _ _ hgz).trans o1, ((bcell hb).1 _ _ BG6.1).trans BG6.2.2, ((bcell hb).1 _ _ (Nat.lt_of_lt_of_le hbl bk6.size)).trans (((bcell bk6).1 _ _ hbl).trans dw0.out), ((bcell hb).1 _ _ (Nat.lt_of_lt_of_le hbl bk6.size)).trans (((bcell bk6).1 _ _ hbl).trans dw1.out)⟩
          have bd : Below w6.drew.heap.size w6.drew w6.drew := Below.refl _ _
          have HC7 := Lib.hid (HC6.out.below (Below.refl _ w6).drew)
          have hw6 := bk6.size
          go_wp2_with fail
          refine wp_regionZ (fun w' => w'.cell? ⟨g, 1, none⟩ = some (.slice aT' S'.2.1.length cT') ∧ w'.cell? ⟨W.heap.size, 1, none⟩ = some (.slice (some ⟨bb, off, none⟩) l.length cap) ∧ w'.cell? ⟨bb, off + e * 2, none⟩ = some (.int .i64 (xN : Int)) ∧ w'.cell? ⟨bb, off + e * 2 + 1, none⟩ = some (.int .i64 (yN : Int))) 11 (by kernel_rfl) ?_
          refine wpAnyZ_take (i := 0) (v := ?_) rfl (by kernel_rfl) (by kernel_rfl) (by kernel_rfl) (by kernel_rfl) (by kernel_rfl) (fun _ _ _ h => h) (SK.out _ bd) (by rfl) ?_ ?_
          rotate_left
          · intro x hx; obtain ⟨u1, u2, u3, u4⟩ := hx; go_simp; try (with_reducible rfl)
          try simp only [Act.put, List.setIfInBounds_toArray, List.set_cons_zero, List.set_cons_succ]
          refine wpAnyZ_take (i := 1) (v := ?_) rfl (by kernel_rfl) (by kernel_rfl) (by kernel_rfl) (by kernel_rfl) (by kernel_rfl) (fun _ _ _ h => h) (SK.out _ bd) (by rfl) ?_ ?_
          rotate_left
          · intro x hx; obtain ⟨u1, u2, u3, u4⟩ := hx; go_simp; try (with_reducible rfl)
          try simp only [Act.put, List.setIfInBounds_toArray, List.set_cons_zero, List.set_cons_succ]
          refine wpAnyZ_take (i := 2) (v := ?_) rfl (by kernel_rfl) (by kernel_rfl) (by kernel_rfl) (by kernel_rfl) (by kernel_rfl) (fun _ _ _ h => h) (SK.out _ bd) (by rfl) ?_ ?_
          rotate_left
          · intro x hx; obtain ⟨u1, u2, u3, u4⟩ := hx; go_simp; try (with_reducible rfl)
          try simp only [Act.put, List.setIfInBounds_toArray, List.set_cons_zero, List.set_cons_succ]
          refine wpAnyZ_take (i := 3) (v := ?_) rfl (by kernel_rfl) (by kernel_rfl) (by kernel_rfl) (by kernel_rfl) (by kernel_rfl) (fun _ _ _ h => h) (SK.out _ bd) (by rfl) ?_ ?_
          rotate_left
          · intro x hx; obtain ⟨u1, u2, u3, u4⟩ := hx; go_simp; try (with_reducible rfl)
          try simp only [Act.put, List.setIfInBounds_toArray, List.set_cons_zero, List.set_cons_succ]
          refine wpAnyZ_take (i := 4) (v := ?_) rfl (by kernel_rfl) (by kernel_rfl) (by kernel_rfl) (by kernel_rfl) (by kernel_rfl) (fun _ _ _ h => h) (SK.out _ bd) (by rfl) ?_ ?_
          rotate_left
          · intro x hx; obtain ⟨u1, u2, u3, u4⟩ := hx; go_simp; try (with_reducible rfl)
          try simp only [Act.put, List.setIfInBounds_toArray, List.set_cons_zero, List.set_cons_succ]
          refine wpAnyZ_take (i := 5) (v := ?_) rfl (by kernel_rfl) (by kernel_rfl) (by kernel_rfl) (by kernel_rfl) (by kernel_rfl) (fun _ _ _ h => h) (SK.out _ bd) (by rfl) ?_ ?_
          rotate_left
          · intro x hx; obtain ⟨u1, u2, u3, u4⟩ := hx; go_simp; try (with_reducible rfl)
          try simp only [Act.put, List.setIfInBounds_toArray, List.set_cons_zero, List.set_cons_succ]
          refine wpAnyZ_take (i := 6) (v := ?_) rfl (by kernel_rfl) (by kernel_rfl) (by kernel_rfl) (by kernel_rfl) (by kernel_rfl) (fun _ _ _ h => h) (SK.out _ bd) (by rfl) ?_ ?_
          rotate_left
          · intro x hx; obtain ⟨u1, u2, u3, u4⟩ := hx; go_simp; try (with_reducible rfl)
          try simp only [Act.put, List.setIfInBounds_toArray, List.set_cons_zero, List.set_cons_succ]
          refine wpAnyZ_take (i := 7) (v := ?_) rfl (by kernel_rfl) (by kernel_rfl) (by kernel_rfl) (by kernel_rfl) (by kernel_rfl) (fun _ _ _ h => h) (SK.out _ bd) (by rfl) ?_ ?_
          rotate_left
          · intro x hx; obtain ⟨u1, u2, u3, u4⟩ := hx; go_simp; try (with_reducible rfl)
          try simp only [Act.put, List.setIfInBounds_toArray, List.set_cons_zero, List.set_cons_succ]
          have bA : Below w6.drew.heap.size w6.drew (w6.alloc (.cells #[.int .i64 (xN : Int)] 3)).drew := (by have h0 := (belAl w6 (.cells #[.int .i64 (xN : Int)] 3)).drew; exact ⟨h0.os, h0.tape, h0.output, h0.size, h0.block⟩)
          have bd7 := bd.step bA
          have HC8 := Lib.hid (HC7.out.below bA)
          have nA0 : (w6.alloc (.cells #[.int .i64 (xN : Int)] 3)).drew.cell? ⟨w6.heap.size, 0, none⟩ = some (.int .i64 (xN : Int)) := ncell1 w6 _ _
          have bkA : Below wr.heap.size wr (w6.alloc (.cells #[.int .i64 (xN : Int)] 3)).drew := (bk6.trans ((belAl w6 _).mono hw6)).drew
          clear bA
          refine wpAnyZ_step (i := 8) (by kernel_rfl) rfl (by rfl) ?_
          intro KK hKK
          go_simp
          refine hKK.out _ _ (.inr (SK.out _ bd7)) ?_
          clear hKK KK
          try simp only [Act.put, List.setIfInBounds_toArray, List.set_cons_zero, List.set_cons_succ]
          generalize (w6.alloc (.cells #[.int .i64 (xN : Int)] 3)).drew = wA at *
          have hzA : wr.heap.size ≤ wA.heap.size := bkA.size
          have lt1 : S'.2.1.length < 1099511627776 := by omega
          have oA1 := HC8.out.c1
          have oA2 := HC8.out.f1
          have oAz := HC8.out.hi
          refine wpAnyZ_step (i := 9) (by kernel_rfl) rfl (by rfl) ?_
          intro KK hKK
          refine stepInts1 (by rfl) _ _ (by rfl) (by rfl) HC8.out.oT (xN : Int) w6.heap.size (by rfl) nA0 lt1 hzA ?_
          intro v8 w8 h8 k8 a8
          have a8' : v8.ownBlock = Value.ownBlock (.slice aT' S'.2.1.length cT') ∨ ∀ b, v8.ownBlock = some b → wA.heap.size ≤ b := a8.imp id fun e9 b hb => by rw [e9] at hb; exact Nat.le_of_eq (Option.some.inj hb)
          obtain ⟨av, cv, rfl, -⟩ := h8.form
          rw [show (S'.2.1 ++ [(xN : Int)]).length = S'.2.1.length + 1 from by simp] at h8 a8' ⊢
          have PT := HC8.out.appT hzA h8 k8 a8'
          have n0 : ¬ some g = Value.ownBlock (.slice aT' S'.2.1.length cT') := fun e9 => HC8.out.dT e9.symm
          have nlo : ∀ q, q < wr.heap.size → ¬ some q = Value.ownBlock (.slice aT' S'.2.1.length cT') := fun q hq e9 => by have := (HC8.out.oT.lt q e9.symm).1; omega
          have q1 := (k8.cell (o := 1) oAz n0).trans oA1
          have q2 := (k8.frozen (o := 1) oAz n0).trans oA2
          have q3 := Nat.lt_of_lt_of_le oAz k8.size
          have s7 := SK.out _ bd7
          have hpw0 : w1.heap.size < wr.heap.size := HZP.out.2.2
          have s8 := And.intro q1 (And.intro ((k8.cell (b := W.heap.size) (o := 1) (by omega) (nlo _ (by omega))).trans s7.2.1) (And.intro ((k8.cell (b := bb) (o := off + e * 2) (by omega) (nlo _ (by omega))).trans s7.2.2.1) ((k8.cell (b := bb) (o := off + e * 2 + 1) (by omega) (nlo _ (by omega))).trans s7.2.2.2)))
          have bk8 : Below wr.heap.size wr w8 := bkA.trans (k8.below hzA fun q h1 h2 => nlo q h1 h2)
          refine hKK.out _ _ (.inr s8) ?_
          clear hKK KK
          try simp only [Act.put, List.setIfInBounds_toArray, List.set_cons_zero, List.set_cons_succ]
          refine wpAnyZ_take (i := 10) (v := ?_) rfl (by kernel_rfl) (by kernel_rfl) (by kernel_rfl) (by kernel_rfl) (by kernel_rfl) (fun _ _ _ h => h) (s8) (by rfl) ?_ ?_
          rotate_left
          · intro x hx; obtain ⟨u1, u2, u3, u4⟩ := hx; go_simp; try (with_reducible rfl)
          try simp only [Act.put, List.setIfInBounds_toArray, List.set_cons_zero, List.set_cons_succ]
          have bk9 := bk8.setCell (p := ⟨g, 1, none⟩) hgw (.slice av (S'.2.1.length + 1) cv)
          refine wpAnyZ_step (i := 11) (by kernel_rfl) rfl (by rfl) ?_
          intro KK hKK
          go_simp
          refine hKK.out _ _ (.inl (by kernel_rfl)) ?_
          clear hKK KK
          try simp only [Act.put, List.setIfInBounds_toArray, List.set_cons_zero, List.set_cons_succ]
          refine wpAnyZ_done (by kernel_rfl) ?_ _
          try dsimp only at PT
          have HC9 := Lib.hid PT
          clear s7 s8 q1 q2 q3 n0 nlo k8 a8 a8' h8 HC6 HC7 HC8 SK nA0 bd bd7 o1 o2 hgz BG6 oA1 oA2 oAz bk8 bkA bk6 PT
          generalize w8.setCell ⟨g, 1, none⟩ (.slice av (S'.2.1.length + 1) cv) = w9 at *
          have c2 := HC9.out.c2
          have f2 := HC9.out.f2
          have hsb := HC9.out.hi
          have lt2 : S'.2.2.length < 1099511627776 := by omega
          have hz9 : wr.heap.size ≤ w9.heap.size := bk9.size
          go_upto_region 11 with (at_builtin; refine app1At rfl (.tmp 75) (.tmp 77) rfl rfl HC9.out.oP (e : Int) rfl lt2 hz9 ?_; intro v7 w7 h7 k7 a7; obtain ⟨av7, cv7, rfl, hiv⟩ := h7.form; clear hiv; rw [show (S'.2.2 ++ [(e : Int)]).length = S'.2.2.length + 1 from by simp] at h7 a7 ⊢; have PT := HC9.out.appP hz9 h7 k7 a7; have bk7 := (bk9.trans (k7.below hz9 fun q h1 h2 => by have := (HC9.out.oP.lt q h2.symm).1; omega)).setCell (p := ⟨g, 2, none⟩) hgw (.slice av7 (S'.2.2.length + 1) cv7); have q1 := (k7.cell HC9.out.hi (o := 2) (fun e9 => HC9.out.dP e9.symm)).trans c2; have q2 := (k7.frozen HC9.out.hi (o := 2) (fun e9 => HC9.out.dP e9.symm)).trans f2; have q3 := Nat.lt_of_lt_of_le hsb k7.size; clear c2 f2 hsb)
          try dsimp only at PT
          have HCX := Lib.hid PT
          clear PT h7 k7 a7 q1 q2 q3 HC9 bk9
          generalize w7.setCell ⟨g, 2, none⟩ (.slice av7 (S'.2.2.length + 1) cv7) = wx at *
          have c0 := HCX.out.c0
          have c1 := HCX.out.c1
          have c2 := HCX.out.c2
          have hsb := HCX.out.hi
          have hZP7 := HZP.out.below bk7
          have hpw : w1.heap.size < wr.heap.size := HZP.out.2.2
          have HL := PebC.lay (base := 0) (lo := wr.heap.size) HCX.out.own hZP7 (Nat.zero_le _) hpw
          have BPX : Hid (BoxPb _ w1.heap.size _ _ _) := Lib.hid ⟨HL.hi, HL.c0, HL.c1, HL.c2⟩
          have ISX := Lib.hid HL.own.is
          have ZPX := Lib.hid (ZerP.of HL)
          have BGX := Lib.hid (((((BG.out.below bk7).kept (setKept (b := w1.heap.size) (j := 0) (x := .slice (some ⟨gF, 0, none⟩) n cG)) (by omega)).kept (setKept (b := w1.heap.size) (j := 1) (x := .slice av (S'.2.1.length + 1) cv)) (by omega)).kept (setKept (b := w1.heap.size) (j := 2) (x := .slice av7 (S'.2.2.length + 1) cv7)) (by omega)))
          have BX := Lib.hid ((((hbw.step bk7).setCell (p := ⟨w1.heap.size, 0, none⟩) (by simp; omega) (.slice (some ⟨gF, 0, none⟩) n cG)).setCell (p := ⟨w1.heap.size, 1, none⟩) (by simp; omega) (.slice av (S'.2.1.length + 1) cv)).setCell (p := ⟨w1.heap.size, 2, none⟩) (by simp; omega) (.slice av7 (S'.2.2.length + 1) cv7))
          obtain ⟨⟨z0, z1, z2, y0, y1, y2⟩, ⟨g0, g1, g2⟩, gz⟩ := hZP7
          have hcnt := IntWalk.i64_in ((S.2.2.length : Int) + 1) (by have := HLN.out; omega)
          clear HL
          go_wp2_with fail
          go_roundw
          case rel => exact ⟨e + 1, by omega, by go_num, by rw [HSS.out, HLN.out]; simp, ⟨_, _, _, BPX.out, by rw [HSS.out, ← HFX.out]; exact ISX.out⟩, ZPX.out, BGX.out, BX.out⟩
          case measure => simp [intOf]; omega
    · have HSF := Lib.hid (HEQ.out (by omega))
      go_wp2_with fail
      go_ret
      exact ⟨by rw [← HSF.out]; try rfl, hbw⟩
end Go.Proofs.Ytmfeabfbhaiaeaa
