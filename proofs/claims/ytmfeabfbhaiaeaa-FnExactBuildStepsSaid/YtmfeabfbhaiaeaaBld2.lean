/- BuildSteps of the reference. No condition but sizes. -/
import Derived.Test.YtmfeabfbhaiaeaaBld1
import Derived.Deep.RegionHeld3
import Derived.Deep.CutRange
import Derived.OwnWalk
namespace Go.Proofs.Ytmfeabfbhaiaeaa
open Go.RowKit
set_option maxRecDepth 100000
set_option linter.unusedVariables false
set_option linter.unusedSimpArgs false

set_option maxHeartbeats 16000000 in
theorem specBld_at (W : World) (n : Int) (va : Option Addr) (m vcap : Nat) (s : List StepT) (hv : StepsAt W va m s) (hm : m ≤ 1048576) :
    Calls Try.prog 27 #[.int .i64 n, .slice va m vcap] W (RetGB W (bldF n s).1 (bldF n s).2) := by
  have HV := Lib.hid hv
  have HL := Lib.hid hv.1
  clear hv
  have HZ : Hid (Zer2 (W.alloc (.cells #[.int .i64 0, .slice none 0 0] 32)) W.heap.size) := Lib.hid (Zer2.at W _)
  have B := belAl W (.cells #[.int .i64 0, .slice none 0 0] 32)
  have hz : W.heap.size + 1 ≤ (W.alloc (.cells #[.int .i64 0, .slice none 0 0] 32)).heap.size := by simp
  have hz' : (W.alloc (.cells #[.int .i64 0, .slice none 0 0] 32)).heap.size ≤ W.heap.size + 1 := by simp
  have hgi : isGraphB (n, []) = inB n 1 8 := by unfold isGraphB; cases inB n 1 8 <;> rfl
  have bs0 := belAl (W.alloc (.cells #[.int .i64 0, .slice none 0 0] 32)) (.cells #[] 84)
  have bs1 := belAl ((W.alloc (.cells #[.int .i64 0, .slice none 0 0] 32)).alloc (.cells #[] 84)) (.cells #[.int .i64 n, .slice (some ⟨W.heap.size + 1, 0, none⟩) 0 0] 32)
  have hob : OwnBars ((W.alloc (.cells #[.int .i64 0, .slice none 0 0] 32)).alloc (.cells #[] 84)) (W.heap.size + 1) (.slice (some ⟨W.heap.size + 1, 0, none⟩) 0 0) [] := by have := OwnBars.made (W.alloc (.cells #[.int .i64 0, .slice none 0 0] 32)) (W.heap.size + 1) (by simp); simpa using this
  have OB : Hid (OwnBars (((W.alloc (.cells #[.int .i64 0, .slice none 0 0] 32)).alloc (.cells #[] 84)).alloc (.cells #[.int .i64 n, .slice (some ⟨W.heap.size + 1, 0, none⟩) 0 0] 32)) (W.heap.size + 1) (.slice (some ⟨W.heap.size + 1, 0, none⟩) 0 0) []) := Lib.hid (hob.below bs1)
  have BX : Hid (BoxGr (((W.alloc (.cells #[.int .i64 0, .slice none 0 0] 32)).alloc (.cells #[] 84)).alloc (.cells #[.int .i64 n, .slice (some ⟨W.heap.size + 1, 0, none⟩) 0 0] 32)) (W.heap.size + 1 + 1) n (some ⟨W.heap.size + 1, 0, none⟩) 0 0) := Lib.hid (BoxGr.at (by simp))
  have hf0 : (((W.alloc (.cells #[.int .i64 0, .slice none 0 0] 32)).alloc (.cells #[] 84)).alloc (.cells #[.int .i64 n, .slice (some ⟨W.heap.size + 1, 0, none⟩) 0 0] 32)).frozen? ⟨W.heap.size + 1 + 1, 0, none⟩ = false := by have := World.frozen?_alloc_new ((W.alloc (.cells #[.int .i64 0, .slice none 0 0] 32)).alloc (.cells #[] 84)) #[.int .i64 n, .slice (some ⟨W.heap.size + 1, 0, none⟩) 0 0] 32 0; simpa using this
  have hf1 : (((W.alloc (.cells #[.int .i64 0, .slice none 0 0] 32)).alloc (.cells #[] 84)).alloc (.cells #[.int .i64 n, .slice (some ⟨W.heap.size + 1, 0, none⟩) 0 0] 32)).frozen? ⟨W.heap.size + 1 + 1, 1, none⟩ = false := by have := World.frozen?_alloc_new ((W.alloc (.cells #[.int .i64 0, .slice none 0 0] 32)).alloc (.cells #[] 84)) #[.int .i64 n, .slice (some ⟨W.heap.size + 1, 0, none⟩) 0 0] 32 1; simpa using this
  have HF := Lib.hid (And.intro hf0 hf1)
  have HI : Hid (IsGraph (((W.alloc (.cells #[.int .i64 0, .slice none 0 0] 32)).alloc (.cells #[] 84)).alloc (.cells #[.int .i64 n, .slice (some ⟨W.heap.size + 1, 0, none⟩) 0 0] 32)) (.agg #[.int .i64 n, .slice (some ⟨W.heap.size + 1, 0, none⟩) 0 0]) (n, [])) := Lib.hid (OwnGraph.form ⟨_, ⟨some ⟨W.heap.size + 1, 0, none⟩, 0, rfl, rfl⟩, OB.out⟩)
  replace HZ := Lib.hid ((HZ.out.below bs0).below bs1)
  replace B := (B.step bs0).step bs1
  have hz3 : W.heap.size + 3 ≤ (((W.alloc (.cells #[.int .i64 0, .slice none 0 0] 32)).alloc (.cells #[] 84)).alloc (.cells #[.int .i64 n, .slice (some ⟨W.heap.size + 1, 0, none⟩) 0 0] 32)).heap.size := by simp
  clear bs0 bs1 hob hf0 hf1
  obtain ⟨zB, fB0, fB1⟩ := BX.out
  go_enter Try.func27, Try.ntmps27
  go_wp2_with fail
  generalize (((W.alloc (.cells #[.int .i64 0, .slice none 0 0] 32)).alloc (.cells #[] 84)).alloc (.cells #[.int .i64 n, .slice (some ⟨W.heap.size + 1, 0, none⟩) 0 0] 32)) = u at *
  clear zB fB0 fB1
  refine (specIsGraph_at u n (some ⟨W.heap.size + 1, 0, none⟩) 0 [] (by obtain ⟨a9, c9, e9, i9⟩ := HI.out; simp at e9; obtain ⟨rfl, rfl⟩ := e9; exact i9) (by simp)).mono ?_
  rintro e w1 ⟨rfl, b⟩
  have BS : Hid (BldS W w1 (W.heap.size + 1 + 1) (W.heap.size + 1) n (some ⟨W.heap.size + 1, 0, none⟩) 0 []) := Lib.hid (BldS.below ⟨BX.out, HF.out.1, HF.out.2, OB.out, by omega, HZ.out, B, by omega⟩ b)
  have hz4 := b.size
  clear OB BX HF HI HZ B b
  cases hb : inB n 1 8
  · have HE : Hid (bldF n s = ((0, []), false)) := Lib.hid (by unfold bldF; rw [hb]; rfl)
    rw [hgi, hb]
    clear hb hgi
    obtain ⟨⟨r0, r1, r2, c0, c1x⟩, ⟨y0, y1⟩, zg⟩ := BS.out.rz
    go_wp2_with fail
    refine bodyPost_ret (v := .tuple #[.agg #[.int .i64 0, .slice none 0 0], .bool false]) (by simp [results, Try.results27, go_sem, zg, c0, c1x]) rfl ?_
    rw [HE.out]
    exact ⟨_, rfl, ⟨.slice none 0 0, ⟨none, 0, rfl, rfl⟩, OwnBars.nil _ _⟩, (BS.out.b.setCell (p := ⟨W.heap.size, 0, none⟩) (by simp) _).setCell (p := ⟨W.heap.size, 1, none⟩) (by simp) _⟩
  have HS : Hid (bldF n s = match bldTo n s s.length with | some g => (g, true) | none => ((0, []), false)) := Lib.hid (by unfold bldF; rw [hb]; rfl)
  rw [hgi, hb]
  clear hb hgi
  go_wp2_with fail
  obtain ⟨w0, hw0⟩ : ∃ w0, w0 = w1 := ⟨_, rfl⟩
  subst hw0
  go_loopw [7] (fun i w9 => ∃ (k : Nat) (p : Int) (a : Option Addr) (c : Nat) (l : List BarT), k ≤ m ∧ i = .int .i64 k ∧ bldTo n s k = some (p, l) ∧ BldS W w9 (W.heap.size + 1 + 1) (W.heap.size + 1) p a c l) (fun i _ => m - (intOf i).toNat)
  case atStart => exact ⟨0, n, _, 0, [], Nat.zero_le _, rfl, rfl, BS.out⟩
  case round =>
    have hz5 : W.heap.size + 3 ≤ w0.heap.size := by omega
    clear BS
    obtain ⟨k, p, a, c, l, hk, rfl, hto, hbs⟩ := hrel
    have HT := Lib.hid hto
    have BS := Lib.hid hbs
    have h24 : l.length ≤ 24 := bldTo_24 hto
    clear hto hbs
    by_cases hlt : k < m
    · obtain ⟨b, off, ⟨kd, pt, x, y, z⟩, rfl, hbl, hx, d0, d1, d2, d3, d4⟩ := (HV.out.below BS.out.b).2 k hlt
      dsimp only at d0 d1 d2 d3 d4
      have HX := Lib.hid hx
      clear hx
      have hki : (k : Int) < (m : Int) := by omega
      have hk0 : (0 : Int) ≤ (k : Int) := by omega
      have HD := Lib.hid (And.intro d0 (And.intro d1 (And.intro d2 (And.intro d3 d4))))
      have HO : Hid (HGraph wr (W.heap.size + 1) wr.heap.size (.agg #[.int .i64 p, .slice a l.length c]) (p, l)) := Lib.hid (OwnGraph.h ⟨_, ⟨a, c, rfl, rfl⟩, BS.out.ob⟩)
      have HC : Hid (∀ w9, Below wr.heap.size wr w9 → Calls Try.prog 22 #[.agg #[.int .i64 p, .slice a l.length c], .agg #[.int .i64 kd, .int .i64 pt, .int .i64 x, .int .i64 y, .int .i64 z]] w9 (RetGB w9 (stepF (p, l) (kd, pt, x, y, z)).1 (stepF (p, l) (kd, pt, x, y, z)).2)) := Lib.hid fun w9 hb => spec_ApplyStep w9 _ (p, l) ⟨_, _, HO.out.below hb⟩ (kd, pt, x, y, z) (show l.length ≤ 1048576 by omega)
      have HR24 := stepF_24 (p, l) (kd, pt, x, y, z) h24
      have HNO := Lib.hid (fun h => bldTo_no HT.out HX.out h)
      have HYE := Lib.hid (fun h => bldTo_yes HT.out HX.out h)
      obtain ⟨⟨p', l'⟩, hR⟩ : ∃ R, R = (stepF (p, l) (kd, pt, x, y, z)).1 := ⟨_, rfl⟩
      obtain ⟨ok, hO⟩ : ∃ o, o = (stepF (p, l) (kd, pt, x, y, z)).2 := ⟨_, rfl⟩
      rw [← hR, ← hO] at HC
      rw [← hO] at HNO
      rw [← hR, ← hO] at HYE
      clear hR hO HR24
      have KEEP := Lib.hid (show ∀ w', Below wr.heap.size wr w' → w'.cell? ⟨W.heap.size + 1 + 1, 0, none⟩ = some (.int .i64 p) ∧ w'.cell? ⟨W.heap.size + 1 + 1, 1, none⟩ = some (.slice a l.length c) ∧ w'.cell? ⟨b, off + k * 5, none⟩ = some (.int .i64 kd) ∧ w'.cell? ⟨b, off + k * 5 + 1, none⟩ = some (.int .i64 pt) ∧ w'.cell? ⟨b, off + k * 5 + 2, none⟩ = some (.int .i64 x) ∧ w'.cell? ⟨b, off + k * 5 + 3, none⟩ = some (.int .i64 y) ∧ w'.cell? ⟨b, off + k * 5 + 4, none⟩ = some (.int .i64 z) from fun w' hb => ⟨(BS.out.bx.below hb).c0, (BS.out.bx.below hb).c1, (hb.cell (p := ⟨b, off + k * 5, none⟩) hbl).trans HD.out.1, (hb.cell (p := ⟨b, off + k * 5 + 1, none⟩) hbl).trans HD.out.2.1, (hb.cell (p := ⟨b, off + k * 5 + 2, none⟩) hbl).trans HD.out.2.2.1, (hb.cell (p := ⟨b, off + k * 5 + 3, none⟩) hbl).trans HD.out.2.2.2.1, (hb.cell (p := ⟨b, off + k * 5 + 4, none⟩) hbl).trans HD.out.2.2.2.2⟩)
      have bd0 : Below wr.heap.size wr wr := Below.refl _ _
      clear d0 d1 d2 d3 d4
      have tk1 := True.intro
      go_wp2_with fail
      go_cut [8, 9] from 17 to 35 (fun s8 s9 wx => s9 = .bool ok ∧ CutGr wr p' l' s8 wx)
      case first =>
        go_region_held3 (fun w' => w'.cell? ⟨W.heap.size + 1 + 1, 0, none⟩ = some (.int .i64 p) ∧ w'.cell? ⟨W.heap.size + 1 + 1, 1, none⟩ = some (.slice a l.length c) ∧ w'.cell? ⟨b, off + k * 5, none⟩ = some (.int .i64 kd) ∧ w'.cell? ⟨b, off + k * 5 + 1, none⟩ = some (.int .i64 pt) ∧ w'.cell? ⟨b, off + k * 5 + 2, none⟩ = some (.int .i64 x) ∧ w'.cell? ⟨b, off + k * 5 + 3, none⟩ = some (.int .i64 y) ∧ w'.cell? ⟨b, off + k * 5 + 4, none⟩ = some (.int .i64 z))
          (first | (exact KEEP.out _ (by repeat' (first | (with_reducible assumption) | (with_reducible exact Below.refl _ _) | (with_reducible refine Below.drew ?_) | (with_reducible refine Below.alloc ?_ (by first | omega | (simp; done) | (simp; omega)) _) | (with_reducible refine Below.setCell ?_ (by first | omega | (simp; done) | (simp; omega)) _)))) | (go_keep))
          ((clear tk1; go_at_call 22; refine (HC.out _ (by repeat' (first | (with_reducible assumption) | (with_reducible exact Below.refl _ _) | (with_reducible refine Below.drew ?_) | (with_reducible refine Below.alloc ?_ (by first | omega | (simp; done) | (simp; omega)) _) | (with_reducible refine Below.setCell ?_ (by first | omega | (simp; done) | (simp; omega)) _)))).mono ?_; rintro e wM ⟨v2, rfl, oM, b⟩; obtain ⟨vb2, ⟨a2, c2, rfl, rfl⟩, ob2⟩ := oM; dsimp only at ob2; have HM := Lib.hid (show HGraph wM _ wM.heap.size (.agg #[.int .i64 p', .slice a2 l'.length c2]) (p', l') from OwnGraph.h ⟨_, ⟨a2, c2, rfl, rfl⟩, ob2⟩); have bM : Below wr.heap.size wr wM := Below.step (by repeat' (first | (with_reducible assumption) | (with_reducible exact Below.refl _ _) | (with_reducible refine Below.drew ?_) | (with_reducible refine Below.alloc ?_ (by first | omega | (simp; done) | (simp; omega)) _) | (with_reducible refine Below.setCell ?_ (by first | omega | (simp; done) | (simp; omega)) _))) b; have hzM := b.size; have hnM := bM.size; have hlM := (show Below wr.heap.size wr _ from (by repeat' (first | (with_reducible assumption) | (with_reducible exact Below.refl _ _) | (with_reducible refine Below.drew ?_) | (with_reducible refine Below.alloc ?_ (by first | omega | (simp; done) | (simp; omega)) _) | (with_reducible refine Below.setCell ?_ (by first | omega | (simp; done) | (simp; omega)) _)))).size; (try (first | (replace HZZ := Lib.hid (HZZ.out.below b)) | (have HZZ := Lib.hid ((Zer2.at _ _).below b)) | (have HZZ := Lib.hid ((Zer2.drew (Zer2.at _ _)).below b)))); (try clear zc0 zc1 zf0 zf1 zg zq0 zq1 zq2); (try obtain ⟨⟨zq0, zq1, zq2, zc0, zc1⟩, ⟨zf0, zf1⟩, zg⟩ := HZZ.out); clear b ob2))
        all_goals
          go_wp2_with fail
          go_meet
          refine ⟨rfl, ?_⟩
          first
            | with_reducible exact cutA2 HZZ.out HM.out (by first | omega | (simp; done) | (simp; omega)) (by first | omega | (simp; done) | (simp; omega)) (by first | omega | (simp; done) | (simp; omega)) (by first | omega | (simp; done) | (simp; omega)) (by first | omega | (simp; done) | (simp; omega)) bM
            | with_reducible exact cutB2 _ HM.out (by first | omega | (simp; done) | (simp; omega)) (by first | omega | (simp; done) | (simp; omega)) (by first | omega | (simp; done) | (simp; omega)) bM
            | with_reducible exact cutC2 _ HM.out (by first | omega | (simp; done) | (simp; omega)) (by first | omega | (simp; done) | (simp; omega)) (by first | omega | (simp; done) | (simp; omega)) bM
      case rest =>
        obtain ⟨rfl, g8, a2, c2, lo, hi, rfl, HBX, hob2, hsep, hlo, hlh, hhz, hgg, ⟨hf0, hf1⟩, b⟩ := hcut
        obtain ⟨w5, hwf⟩ : ∃ wf, wf = wc := ⟨_, rfl⟩
        subst hwf
        clear KEEP bd0 HC
        have hgz := BS.out.bx.1
        have BS3 := Lib.hid (BS.out.below b)
        have ob2 : OwnBars w5 lo (.slice a2 l'.length c2) l' := by
          obtain ⟨vb, ⟨a9, c9, e9, e10⟩, ho⟩ := hob2.own
          simp at e10
          obtain ⟨rfl, rfl⟩ := e10
          rw [e9] at ho
          exact ho
        have BX := Lib.hid HBX
        clear HBX hob2 hsep
        cases ok
        · have HE : Hid (bldF n s = ((0, []), false)) := Lib.hid (by rw [HS.out, HNO.out rfl])
          obtain ⟨⟨r0, r1, r2, c0, c1x⟩, ⟨y0, y1⟩, zg⟩ := BS3.out.rz
          go_wp2_with fail
          refine bodyPost_ret (v := .tuple #[.agg #[.int .i64 0, .slice none 0 0], .bool false]) (by simp [results, Try.results27, go_sem, zg, c0, c1x]) rfl ?_
          rw [HE.out]
          exact ⟨_, rfl, ⟨.slice none 0 0, ⟨none, 0, rfl, rfl⟩, OwnBars.nil _ _⟩, (BS3.out.b.setCell (p := ⟨W.heap.size, 0, none⟩) (by simp) _).setCell (p := ⟨W.heap.size, 1, none⟩) (by simp) _⟩
        · have HY := Lib.hid (HYE.out rfl)
          have BS4 := Lib.hid (BS3.out.set (p' := p') (a' := a2) (c' := c2) (l' := l') (lo := lo) (by omega) ob2 (by omega) (by omega))
          obtain ⟨zB, fB0, fB1⟩ := BS3.out.bx
          obtain ⟨zX, fX0, fX1⟩ := BX.out
          have q0 := BS3.out.f0
          have q1 := BS3.out.f1
          go_wp2_with fail
          go_roundw
          case rel => exact ⟨k + 1, p', a2, c2, l', by omega, by go_num, HY.out, BS4.out⟩
          case measure => simp [intOf]; omega
    · obtain rfl : k = m := by omega
      have HE : Hid (bldF n s = ((p, l), true)) := Lib.hid (by rw [HS.out, HL.out, HT.out])
      obtain ⟨zB, fB0, fB1⟩ := BS.out.bx
      obtain ⟨⟨r0, r1, r2, c0, c1x⟩, ⟨y0, y1⟩, zg⟩ := BS.out.rz
      go_wp2_with fail
      refine bodyPost_ret (v := .tuple #[.agg #[.int .i64 p, .slice a l.length c], .bool true]) (by simp [results, Try.results27, go_sem, zg, c0, c1x]) rfl ?_
      rw [HE.out]
      exact ⟨_, rfl, laid2 BS.out.ob (by omega) (by omega) (by omega) BS.out.b⟩
end Go.Proofs.Ytmfeabfbhaiaeaa
