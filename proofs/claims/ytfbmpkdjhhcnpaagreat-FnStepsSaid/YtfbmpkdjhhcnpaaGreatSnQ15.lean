/- CountThrees of the program and of the reference: how many steps are of kind 2. -/
import Derived.Test.YtfbmpkdjhhcnpaaGreatSnP23
import Derived.Test.YtfbmpkdjhhcnpaaGreatSnQ12
import Derived.Test.YtfbmpkdjhhcnpaaGreatSnQ13
import Derived.Test.YtfbmpkdjhhcnpaaGreatSnQ14
namespace Go.Proofs.YtfbmpkdjhhcnpaaGreat
open Go.RowKit
set_option maxRecDepth 100000
set_option linter.unusedVariables false
set_option linter.unusedSimpArgs false

def threes (l : List StepT) : Nat → Int
 | 0 => 0
 | k + 1 => match l[k]? with
  | some x => if x.1 = 2 then threes l k + 1 else threes l k
  | none => threes l k
theorem threes_bd (l : List StepT) (k : Nat) : 0 ≤ threes l k ∧ threes l k ≤ k := by
 induction k with
 | zero => simp [threes]
 | succ k ih =>
  simp only [threes]
  split
  ·split <;> omega
  ·omega

set_option maxHeartbeats 1000000 in
theorem specCt_any (a : Option Addr) (n cap : Nat) (l : List StepT) (W : World) (h : StepsAt W a n l) (hn : n ≤ 1099511627776) :
  Calls Tryz.prog 33 #[.slice a n cap] W fun e w' => e = .returned (.int .i64 (threes l n)) ∧ Below W.heap.size W w' := by
 obtain ⟨hl, hc⟩ := h
 have HC := Lib.hid hc
 clear hl hc
 go_enter Tryz.func33, Tryz.ntmps33
 go_wp2
 go_loop [3, 4] (fun c i => ∃ k : Nat, k ≤ n ∧ i = .int .i64 k ∧ c = .int .i64 (threes l k)) (fun _ i => n - (intOf i).toNat)
 case atStart => exact ⟨0, Nat.zero_le _, rfl, rfl⟩
 case round =>
  obtain ⟨k, hk, rfl, rfl⟩ := hrel
  have hb := threes_bd l k
  by_cases hlt : k < n
  ·obtain ⟨b, off, ⟨x1, x2, x3, x4, x5⟩, rfl, hbl, hx, hc0, hc1, hc2, hc3, hc4⟩ := HC.out k hlt
   have HX := Lib.hid hx
   clear hx
   dsimp only at hc0 hc1 hc2 hc3 hc4
   by_cases h2 : x1 = 2
   ·subst h2
    go_wp2
    go_round
    case rel => exact ⟨k + 1, by omega, by go_num, by simp only [threes, HX.out]; simp⟩
    case measure => simp [intOf]; omega
   ·have hne : (x1 == 2) = false := by simpa using h2
    go_wp2
    go_round
    case rel => exact ⟨k + 1, by omega, by go_num, by simp only [threes, HX.out]; simp [h2]⟩
    case measure => simp [intOf]; omega
  ·obtain rfl : k = n := by omega
   go_wp2
   go_ret
   exact ⟨rfl, Below.refl _ _⟩

set_option maxHeartbeats 1000000 in
theorem implCt_any (a : Option Addr) (n cap : Nat) (l : List StepT) (W : World) (h : StepsAt W a n l) (hn : n ≤ 1099511627776) :
  Calls Tryz.prog 32 #[.slice a n cap] W fun e w' => e = .returned (.int .i64 (threes l n)) ∧ Below W.heap.size W w' := by
 obtain ⟨hl, hc⟩ := h
 have HC := Lib.hid hc
 clear hl hc
 go_enter Tryz.func32, Tryz.ntmps32
 go_wp2
 go_loopw [3, 8] (fun c i wr => ∃ k : Nat, k ≤ n ∧ i = .int .i64 k ∧ c = .int .i64 (threes l k) ∧ Below W.heap.size W wr) (fun _ i _ => n - (intOf i).toNat)
 case atStart => exact ⟨0, Nat.zero_le _, rfl, rfl, Below.refl _ _⟩
 case round =>
  obtain ⟨k, hk, rfl, rfl, hb⟩ := hrel
  have hbd := threes_bd l k
  by_cases hlt : k < n
  ·obtain ⟨b, off, ⟨x1, x2, x3, x4, x5⟩, rfl, hbl, hx, hc0, hc1, hc2, hc3, hc4⟩ := HC.out k hlt
   have HX := Lib.hid hx
   clear hx
   dsimp only at hc0 hc1 hc2 hc3 hc4
   have d0 := (hb.cell (p := ⟨b, off + k * 5, none⟩) hbl).trans hc0
   have d1 := (hb.cell (p := ⟨b, off + k * 5 + 1, none⟩) hbl).trans hc1
   have d2 := (hb.cell (p := ⟨b, off + k * 5 + 2, none⟩) hbl).trans hc2
   have d3 := (hb.cell (p := ⟨b, off + k * 5 + 3, none⟩) hbl).trans hc3
   have d4 := (hb.cell (p := ⟨b, off + k * 5 + 4, none⟩) hbl).trans hc4
   clear hc0 hc1 hc2 hc3 hc4
   by_cases h2 : x1 = 2
   ·subst h2
    go_wp2
    go_roundw
    case rel => exact ⟨k + 1, by omega, by go_num, by simp only [threes, HX.out]; simp, hb.alloc hb.size _⟩
    case measure => simp [intOf]; omega
   ·have hne : (x1 == 2) = false := by simpa using h2
    go_wp2
    go_roundw
    case rel => exact ⟨k + 1, by omega, by go_num, by simp only [threes, HX.out]; simp [h2], hb.alloc hb.size _⟩
    case measure => simp [intOf]; omega
  ·obtain rfl : k = n := by omega
   go_wp2
   go_ret
   exact ⟨rfl, hb⟩

theorem spec_CountThrees (W : World) (v : Value) (l : List StepT) (h : IsSteps W v l) (hn : l.length ≤ 1048576) : Calls Tryz.prog 33 #[v] W fun e w' => e = .returned (.int .i64 (threes l l.length)) ∧ Below W.heap.size W w' := by
 obtain ⟨a, cap, rfl, hi⟩ := h
 exact specCt_any _ _ _ _ _ hi (by omega)
theorem impl_CountThrees (W : World) (v : Value) (l : List StepT) (h : IsSteps W v l) (hn : l.length ≤ 1048576) : Calls Tryz.prog 32 #[v] W fun e w' => e = .returned (.int .i64 (threes l l.length)) ∧ Below W.heap.size W w' := by
 obtain ⟨a, cap, rfl, hi⟩ := h
 exact implCt_any _ _ _ _ _ hi (by omega)
set_option maxHeartbeats 1000000 in
theorem big_at (W : World) (a : Option Addr) (n cap : Nat) : Calls Tryz.prog 5 #[.slice a n cap] W fun e w' => e = .returned (.bool (decide ((1048576 : Int) < n))) ∧ w' = W := by
 go_enter Tryz.func5, Tryz.ntmps5
 go_wp2
 go_ret
 exact ⟨rfl, rfl⟩
structure GrS (w : World) (g : Nat) (p : Int) (a : Option Addr) (c : Nat) (bs : List BarT) : Prop where
 bx : BoxGr w g p a bs.length c
 ob : OwnBars w 0 (.slice a bs.length c) bs
theorem GrS.below {w w' : World} {g : Nat} {p : Int} {a : Option Addr} {c : Nat} {bs : List BarT} (h : GrS w g p a c bs) (hb : Below w.heap.size w w') : GrS w' g p a c bs :=
 ⟨h.bx.below hb, OwnBars.below h.ob hb⟩
theorem GrS.at' {w : World} {g : Nat} {p : Int} {a : Option Addr} {c : Nat} {bs : List BarT} (h : GrS w g p a c bs) : BarsAt w a bs.length bs := ownBars_at h.ob
theorem GrS.is {w : World} {g : Nat} {p : Int} {a : Option Addr} {c : Nat} {bs : List BarT} (h : GrS w g p a c bs) : IsGraph w (.agg #[.int .i64 p, .slice a bs.length c]) (p, bs) := ⟨a, c, rfl, h.at'⟩
theorem GrS.h {w : World} {g : Nat} {p : Int} {a : Option Addr} {c : Nat} {bs : List BarT} (h : GrS w g p a c bs) : ∃ lo hi, HGraph w lo hi (.agg #[.int .i64 p, .slice a bs.length c]) (p, bs) := ⟨0, w.heap.size, OwnGraph.h ⟨.slice a bs.length c, ⟨a, c, rfl, rfl⟩, h.ob⟩⟩
def TrU (W w : World) (a0 : Option Addr) (x0 : List Int) : Prop := Below W.heap.size W w ∧ BytesAt w a0 x0.length x0
theorem TrU.below {W w w' : World} {a0 : Option Addr} {x0 : List Int} (h : TrU W w a0 x0) (hb : Below w.heap.size w w') : TrU W w' a0 x0 := ⟨h.1.step hb, h.2.below hb⟩
theorem eqG_same (w : World) (p : Int) (a a' : Option Addr) (c c' : Nat) (bs : List BarT) (h : BarsAt w a bs.length bs) (h' : BarsAt w a' bs.length bs) (hn : bs.length ≤ 1048576) :
  Calls Tryz.prog 35 #[.agg #[.int .i64 p, .slice a bs.length c], .agg #[.int .i64 p, .slice a' bs.length c']] w fun e w' => e = .returned (.bool true) ∧ Below w.heap.size w w' := by
 have := specEqG_any w p p a a' c c' bs bs h h' (by omega)
 rw [show (p == p && decide (bs = bs)) = true by simp] at this
 exact this
def startsAt (n : Nat) : Code → Bool
 | .region k _ _ => k == n
 | .seq a _ => startsAt n a
 | .block _ c => startsAt n c
 | .scope c => startsAt n c
 | _ => false
def tailFrom (n : Nat) : Code → Option Code
 | .seq a b => if startsAt n a then some (.seq a b) else match tailFrom n a with
  | some c => some c
  | none => tailFrom n b
 | .block _ c => tailFrom n c
 | .scope c => tailFrom n c
 | .cond _ a b => match tailFrom n a with
  | some c => some c
  | none => tailFrom n b
 | _ => none
noncomputable def stp12 : Code := ((Tryz.f4.body.bind (tailFrom 12)).getD .skip)
noncomputable def stp17 : Code := ((Tryz.f4.body.bind (tailFrom 17)).getD .skip)
set_option maxRecDepth 1000000 in
set_option maxHeartbeats 16000000 in
theorem walkStp17 (W wc : World) (Q : Exit → Act → World → Prop) (a0 : Option Addr) (cap0 : Nat) (x0 : List Int) (hx20 : x0.length ≤ 1048576) {u1 u2 u3 u4 u5 u6 u7 u8 u9 u10 u11 u12 u13 u14 u15 u16 u17 u18 u19 u20 u21 u22 u23 u24 u25 u26 u27 u28 u29 u30 u31 u32 u33 u34 u35 u36 u37 u38 u39 u40 u41 u42 u43 u44 u45 u46 u47 u48 u49 u50 u51 u52 u53 u54 u55 u56 u57 u58 u59 u60 u61 u62 u63 u64 u65 u66 u67 u68 u69 u70 u71 u72 u73 u74 u75 u76 u77 u78 u79 u80 u81 u82 u83 u84 u85 u86 u87 u88 u89 u90 u91 u92 u93 u94 u95 u96 u97 u98 u99 u100 u101 u102 u103 u104 u105 u106 u107 u108 u109 u110 u111 u112 u113 u114 u115 u116 u117 u118 u119 u120 u121 u122 u123 u124 u125 u126 u127 u128 u129 u130 u131 u132 u133 u134 u135 u136 u137 u138 u139 u140 u141 u142 u143 u144 u145 u146 u147 u148 u149 u150 u151 u152 u153 u154 u155 u156 u157 u158 u159 u160 u161 u162 u163 u164 u165 u166 u167 u168 u169 u170 u171 u172 u173 u174 u175 u176 u177 u178 u179 u180 u181 u182 u183 u184 u185 u186 u187 u188 u189 u190 u191 u192 u193 u194 u195 u196 u197 : Value} (hmu : TrU W wc a0 x0)
  (hexit : ∀ a' w', ((a'.tmps[2]? = some (.bool true) ∧ a'.defers = []) ∧ Below W.heap.size W w') → Q .ret a' w') : stp17.wp Tryz.prog Q ⟨List.toArray (.slice a0 x0.length cap0 :: u1 :: u2 :: u3 :: u4 :: u5 :: u6 :: u7 :: u8 :: u9 :: u10 :: u11 :: u12 :: u13 :: u14 :: u15 :: u16 :: u17 :: u18 :: u19 :: u20 :: u21 :: u22 :: u23 :: u24 :: u25 :: u26 :: u27 :: u28 :: u29 :: u30 :: u31 :: u32 :: u33 :: u34 :: u35 :: u36 :: u37 :: u38 :: u39 :: u40 :: u41 :: u42 :: u43 :: u44 :: u45 :: u46 :: u47 :: u48 :: u49 :: u50 :: u51 :: u52 :: u53 :: u54 :: u55 :: u56 :: u57 :: u58 :: u59 :: u60 :: u61 :: u62 :: u63 :: u64 :: u65 :: u66 :: u67 :: u68 :: u69 :: u70 :: u71 :: u72 :: u73 :: u74 :: u75 :: u76 :: u77 :: u78 :: u79 :: u80 :: u81 :: u82 :: u83 :: u84 :: u85 :: u86 :: u87 :: u88 :: u89 :: u90 :: u91 :: u92 :: u93 :: u94 :: u95 :: u96 :: u97 :: u98 :: u99 :: u100 :: u101 :: u102 :: u103 :: u104 :: u105 :: u106 :: u107 :: u108 :: u109 :: u110 :: u111 :: u112 :: u113 :: u114 :: u115 :: u116 :: u117 :: u118 :: u119 :: u120 :: u121 :: u122 :: u123 :: u124 :: u125 :: u126 :: u127 :: u128 :: u129 :: u130 :: u131 :: u132 :: u133 :: u134 :: u135 :: u136 :: u137 :: u138 :: u139 :: u140 :: u141 :: u142 :: u143 :: u144 :: u145 :: u146 :: u147 :: u148 :: u149 :: u150 :: u151 :: u152 :: u153 :: u154 :: u155 :: u156 :: u157 :: u158 :: u159 :: u160 :: u161 :: u162 :: u163 :: u164 :: u165 :: u166 :: u167 :: u168 :: u169 :: u170 :: u171 :: u172 :: u173 :: u174 :: u175 :: u176 :: u177 :: u178 :: u179 :: u180 :: u181 :: u182 :: u183 :: u184 :: u185 :: u186 :: u187 :: u188 :: u189 :: u190 :: u191 :: u192 :: u193 :: u194 :: u195 :: u196 :: u197 :: []), []⟩ wc := by
 have hwd := @Wd.cells
 have MU := Lib.hid hmu
 clear hmu
 conv => arg 2; whnf
 go_wp2_with fail
 refine (drawApp_at wc a0 x0.length cap0 x0 MU.out.2 hx20).mono ?_
 rintro e w1 ⟨p, a, c, bs, kd, pt, y1, y2, y3, rfl, ob, hbl, b1⟩
 have ba := belAl w1 (.cells #[.int .i64 p, .slice a bs.length c] 26)
 have bb := belAl (w1.alloc (.cells #[.int .i64 p, .slice a bs.length c] 26)) (.cells #[.int .i64 kd, .int .i64 pt, .int .i64 y1, .int .i64 y2, .int .i64 y3] 57)
 obtain ⟨g16, hg16⟩ : ∃ q, q = w1.heap.size := ⟨_, rfl⟩
 have hs1 : (w1.alloc (.cells #[.int .i64 p, .slice a bs.length c] 26)).heap.size = w1.heap.size + 1 := by simp
 have G16 : Hid (GrS ((w1.alloc (.cells #[.int .i64 p, .slice a bs.length c] 26)).alloc (.cells #[.int .i64 kd, .int .i64 pt, .int .i64 y1, .int .i64 y2, .int .i64 y3] 57)) g16 p a c bs) := Lib.hid (GrS.below ⟨by rw [hg16]; exact BoxGr.at rfl, OwnBars.low (OwnBars.below ob ba) (Nat.zero_le _)⟩ bb)
 have S17 : Hid (BoxSt ((w1.alloc (.cells #[.int .i64 p, .slice a bs.length c] 26)).alloc (.cells #[.int .i64 kd, .int .i64 pt, .int .i64 y1, .int .i64 y2, .int .i64 y3] 57)) (g16 + 1) kd pt y1 y2 y3) := Lib.hid (BoxSt.at (by rw [hs1, hg16]))
 replace MU := Lib.hid (((MU.out.below b1).below ba).below bb)
 have hsz : szGraph (p, bs) ≤ 1048576 := by show bs.length ≤ 1048576; omega
 clear ob b1 ba bb hs1
 go_upto_region 18 with (fail)
 rw [← hg16]
 generalize ((w1.alloc (.cells #[.int .i64 p, .slice a bs.length c] 26)).alloc (.cells #[.int .i64 kd, .int .i64 pt, .int .i64 y1, .int .i64 y2, .int .i64 y3] 57)) = w2 at *
 clear hg16
 obtain ⟨zB, cB0, cB1⟩ := G16.out.bx
 obtain ⟨zS, e0, e1, e2, e3, e4⟩ := S17.out
 go_wp2_with fail
 clear zB cB0 cB1 zS e0 e1 e2 e3 e4
 refine (show Calls Tryz.prog 40 #[.agg #[.int .i64 p, .slice a bs.length c], .agg #[.int .i64 kd, .int .i64 pt, .int .i64 y1, .int .i64 y2, .int .i64 y3]] w2 _ from impl_ApplyStep w2 _ (p, bs) G16.out.is (kd, pt, y1, y2, y3) hsz).mono ?_
 rintro e w3 ⟨vg, rfl, ⟨vb, ⟨a3, c3, rfl, rfl⟩, ob3⟩, b3⟩
 have hsl : (stepF (p, bs) (kd, pt, y1, y2, y3)).1.2.length ≤ 1048576 := by have := stepF_len (p, bs) (kd, pt, y1, y2, y3); dsimp only at this ⊢; omega
 have HKP : Hid ((stepF (p, bs) (kd, pt, y1, y2, y3)).2 = true → sparseB (p, bs) 2 3 = true → sparseB (stepF (p, bs) (kd, pt, y1, y2, y3)).1 2 3 = true) := Lib.hid stepF_sparse
 have HSA := Lib.hid (fun w9 (hb : Below w2.heap.size w2 w9) => show Calls Tryz.prog 41 #[.agg #[.int .i64 p, .slice a bs.length c], .agg #[.int .i64 kd, .int .i64 pt, .int .i64 y1, .int .i64 y2, .int .i64 y3]] w9 (RetGB w9 (stepF (p, bs) (kd, pt, y1, y2, y3)).1 (stepF (p, bs) (kd, pt, y1, y2, y3)).2) from spec_ApplyStep w9 _ (p, bs) (G16.out.below hb).h (kd, pt, y1, y2, y3) hsz)
 generalize stepF (p, bs) (kd, pt, y1, y2, y3) = SF at *
 obtain ⟨⟨q, ms⟩, ok⟩ := SF
 dsimp only at ob3 hsl HKP HSA ⊢
 have ba := belAl w3 (.cells #[.int .i64 q, .slice a3 ms.length c3] 26)
 obtain ⟨g18, hg18⟩ : ∃ q, q = w3.heap.size := ⟨_, rfl⟩
 have G18 : Hid (GrS (w3.alloc (.cells #[.int .i64 q, .slice a3 ms.length c3] 26)) g18 q a3 c3 ms) := Lib.hid ⟨by rw [hg18]; exact BoxGr.at rfl, OwnBars.low (OwnBars.below ob3 ba) (Nat.zero_le _)⟩
 have hsa := HSA.out _ (b3.step ba)
 have HSA1 := Lib.hid hsa
 replace G16 := Lib.hid ((G16.out.below b3).below ba)
 replace S17 := Lib.hid ((S17.out.below b3).below ba)
 replace MU := Lib.hid ((MU.out.below b3).below ba)
 clear ob3 b3 ba HSA hsa
 go_upto_region 19 with (fail)
 rw [← hg18]
 generalize (w3.alloc (.cells #[.int .i64 q, .slice a3 ms.length c3] 26)) = w4 at *
 clear hg18
 obtain ⟨zB, cB0, cB1⟩ := G16.out.bx
 obtain ⟨zS, e0, e1, e2, e3, e4⟩ := S17.out
 go_wp2_with fail
 clear zB cB0 cB1 zS e0 e1 e2 e3 e4
 refine HSA1.out.mono ?_
 rintro e w5 ⟨vg, rfl, ⟨vb, ⟨a5, c5, rfl, rfl⟩, ob5⟩, b5⟩
 dsimp only at ob5 ⊢
 have ba := belAl w5 (.cells #[.int .i64 q, .slice a5 ms.length c5] 26)
 obtain ⟨g20, hg20⟩ : ∃ q, q = w5.heap.size := ⟨_, rfl⟩
 have G20 : Hid (GrS (w5.alloc (.cells #[.int .i64 q, .slice a5 ms.length c5] 26)) g20 q a5 c5 ms) := Lib.hid ⟨by rw [hg20]; exact BoxGr.at rfl, OwnBars.low (OwnBars.below ob5 ba) (Nat.zero_le _)⟩
 replace G16 := Lib.hid ((G16.out.below b5).below ba)
 replace G18 := Lib.hid ((G18.out.below b5).below ba)
 replace MU := Lib.hid ((MU.out.below b5).below ba)
 clear ob5 b5 ba HSA1 S17
 go_upto_region 20 with (fail)
 rw [← hg20]
 generalize (w5.alloc (.cells #[.int .i64 q, .slice a5 ms.length c5] 26)) = w6 at *
 clear hg20
 go_wp2_with fail
 refine (drawSam_at w6 a0 x0.length cap0 x0 MU.out.2 hx20).mono ?_
 rintro e w7 ⟨va, la, vb, lb, rfl, ⟨isa, isb⟩, ⟨hla, hlb⟩, b7⟩
 obtain ⟨aa, ca, rfl, ia⟩ := isa
 obtain ⟨ab, cb, rfl, ib⟩ := isb
 have IA := Lib.hid ia
 have IB := Lib.hid ib
 replace G16 := Lib.hid (G16.out.below b7)
 replace G18 := Lib.hid (G18.out.below b7)
 replace G20 := Lib.hid (G20.out.below b7)
 have BW := Lib.hid (MU.out.1.step b7)
 clear ia ib b7 MU
 have HEG := Lib.hid (fun w9 (hb : Below w7.heap.size w7 w9) => eqG_same w9 q a3 a5 c3 c5 ms (G18.out.below hb).at' (G20.out.below hb).at' hsl)
 have HSI := Lib.hid (fun w9 (hb : Below w7.heap.size w7 w9) => specSparse_at w9 p a c bs (G16.out.below hb).at' hsz 2 3)
 have HSV := Lib.hid (fun w9 (hb : Below w7.heap.size w7 w9) => implSparse_at w9 q a5 c5 ms (G20.out.below hb).at' hsl 2 3)
 have HAI := Lib.hid (fun w9 (hb : Below w7.heap.size w7 w9) => impl_AreSameSteps w9 (.slice aa la.length ca) la ⟨aa, ca, rfl, IA.out.below hb⟩ (.slice ab lb.length cb) lb ⟨ab, cb, rfl, IB.out.below hb⟩ (by omega) (by omega))
 have HAS := Lib.hid (fun w9 (hb : Below w7.heap.size w7 w9) => spec_AreSameSteps w9 (.slice aa la.length ca) la ⟨aa, ca, rfl, IA.out.below hb⟩ (.slice ab lb.length cb) lb ⟨ab, cb, rfl, IB.out.below hb⟩ (by omega) (by omega))
 obtain ⟨S1, hS1⟩ : ∃ X, X = sparseB (p, bs) 2 3 := ⟨_, rfl⟩
 obtain ⟨S2, hS2⟩ : ∃ X, X = sparseB (q, ms) 2 3 := ⟨_, rfl⟩
 obtain ⟨DD, hDD⟩ : ∃ X, X = decide (la = lb) := ⟨_, rfl⟩
 rw [← hS1] at HSI HKP
 rw [← hS2] at HSV HKP
 rw [← hDD] at HAI HAS
 have hdd : (DD == DD) = true := by simp
 clear hS1 hS2 hDD IA IB hla hlb hsz hsl hbl
 have B0 := Below.refl w7.heap.size w7
 have fin : ∀ (w : World), Below w7.heap.size w7 w → Below W.heap.size W w := fun w hb => BW.out.step hb
 cases ok
 ·obtain ⟨zA, cA0, cA1⟩ := G18.out.bx
  obtain ⟨zB, cB0, cB1⟩ := G20.out.bx
  go_wp2_with fail
  clear zA cA0 cA1 zB cB0 cB1
  refine (HEG.out w7 B0).mono ?_
  rintro e w8 ⟨rfl, b8⟩
  replace B0 := B0.step b8
  clear b8
  go_wp2_with fail
  refine (HAI.out w8 B0).mono ?_
  rintro e w9 ⟨rfl, b9⟩
  replace B0 := B0.step b9
  clear b9
  go_wp2_with fail
  refine (HAS.out w9 B0).mono ?_
  rintro e w10 ⟨rfl, b10⟩
  replace B0 := B0.step b10
  have hfin := fin _ B0
  clear b10 HEG HSI HSV HAI HAS G16 G18 G20
  go_wp2_with fail
  all_goals first | exact hfin | exact ⟨⟨rfl, rfl⟩, hfin⟩
 ·cases S1
  ·obtain ⟨zA, cA0, cA1⟩ := G18.out.bx
   obtain ⟨zB, cB0, cB1⟩ := G20.out.bx
   go_wp2_with fail
   clear zA cA0 cA1 zB cB0 cB1
   refine (HEG.out w7 B0).mono ?_
   rintro e w8 ⟨rfl, b8⟩
   replace B0 := B0.step b8
   replace G16 := Lib.hid (G16.out.below b8)
   clear b8
   obtain ⟨zB, cB0, cB1⟩ := G16.out.bx
   go_wp2_with fail
   clear zB cB0 cB1
   refine (HSI.out w8 B0).mono ?_
   rintro e w9 ⟨rfl, b9⟩
   replace B0 := B0.step b9
   clear b9
   go_wp2_with fail
   refine (HAI.out w9 B0).mono ?_
   rintro e w10 ⟨rfl, b10⟩
   replace B0 := B0.step b10
   clear b10
   go_wp2_with fail
   refine (HAS.out w10 B0).mono ?_
   rintro e w11 ⟨rfl, b11⟩
   replace B0 := B0.step b11
   have hfin := fin _ B0
   clear b11 HEG HSI HSV HAI HAS G16 G18 G20
   go_wp2_with fail
   all_goals first | exact hfin | exact ⟨⟨rfl, rfl⟩, hfin⟩
  ·obtain rfl : S2 = true := HKP.out rfl rfl
   obtain ⟨zA, cA0, cA1⟩ := G18.out.bx
   obtain ⟨zB, cB0, cB1⟩ := G20.out.bx
   go_wp2_with fail
   clear zA cA0 cA1 zB cB0 cB1
   refine (HEG.out w7 B0).mono ?_
   rintro e w8 ⟨rfl, b8⟩
   replace B0 := B0.step b8
   replace G16 := Lib.hid (G16.out.below b8)
   replace G20 := Lib.hid (G20.out.below b8)
   clear b8
   obtain ⟨zB, cB0, cB1⟩ := G16.out.bx
   go_wp2_with fail
   clear zB cB0 cB1
   refine (HSI.out w8 B0).mono ?_
   rintro e w9 ⟨rfl, b9⟩
   replace B0 := B0.step b9
   replace G20 := Lib.hid (G20.out.below b9)
   clear b9
   obtain ⟨zB, cB0, cB1⟩ := G20.out.bx
   go_wp2_with fail
   clear zB cB0 cB1
   refine (HSV.out w9 B0).mono ?_
   rintro e w10 ⟨rfl, b10⟩
   replace B0 := B0.step b10
   clear b10
   go_wp2_with fail
   refine (HAI.out w10 B0).mono ?_
   rintro e w11 ⟨rfl, b11⟩
   replace B0 := B0.step b11
   clear b11
   go_wp2_with fail
   refine (HAS.out w11 B0).mono ?_
   rintro e w12 ⟨rfl, b12⟩
   replace B0 := B0.step b12
   have hfin := fin _ B0
   clear b12 HEG HSI HSV HAI HAS G16 G18 G20
   go_wp2_with fail
   all_goals first | exact hfin | exact ⟨⟨rfl, rfl⟩, hfin⟩
set_option maxRecDepth 1000000 in
set_option maxHeartbeats 16000000 in
theorem walkStp12 (W wc : World) (Q : Exit → Act → World → Prop) (a0 : Option Addr) (cap0 : Nat) (x0 : List Int) (hx20 : x0.length ≤ 1048576) {u1 u2 u3 u4 u5 u6 u7 u8 u9 u10 u11 u12 u13 u14 u15 u16 u17 u18 u19 u20 u21 u22 u23 u24 u25 u26 u27 u28 u29 u30 u31 u32 u33 u34 u35 u36 u37 u38 u39 u40 u41 u42 u43 u44 u45 u46 u47 u48 u49 u50 u51 u52 u53 u54 u55 u56 u57 u58 u59 u60 u61 u62 u63 u64 u65 u66 u67 u68 u69 u70 u71 u72 u73 u74 u75 u76 u77 u78 u79 u80 u81 u82 u83 u84 u85 u86 u87 u88 u89 u90 u91 u92 u93 u94 u95 u96 u97 u98 u99 u100 u101 u102 u103 u104 u105 u106 u107 u108 u109 u110 u111 u112 u113 u114 u115 u116 u117 u118 u119 u120 u121 u122 u123 u124 u125 u126 u127 u128 u129 u130 u131 u132 u133 u134 u135 u136 u137 u138 u139 u140 u141 u142 u143 u144 u145 u146 u147 u148 u149 u150 u151 u152 u153 u154 u155 u156 u157 u158 u159 u160 u161 u162 u163 u164 u165 u166 u167 u168 u169 u170 u171 u172 u173 u174 u175 u176 u177 u178 u179 u180 u181 u182 u183 u184 u185 u186 u187 u188 u189 u190 u191 u192 u193 u194 u195 u196 u197 : Value} (hmu : TrU W wc a0 x0)
  (hexit : ∀ a' w', ((a'.tmps[2]? = some (.bool true) ∧ a'.defers = []) ∧ Below W.heap.size W w') → Q .ret a' w') : stp12.wp Tryz.prog Q ⟨List.toArray (.slice a0 x0.length cap0 :: u1 :: u2 :: u3 :: u4 :: u5 :: u6 :: u7 :: u8 :: u9 :: u10 :: u11 :: u12 :: u13 :: u14 :: u15 :: u16 :: u17 :: u18 :: u19 :: u20 :: u21 :: u22 :: u23 :: u24 :: u25 :: u26 :: u27 :: u28 :: u29 :: u30 :: u31 :: u32 :: u33 :: u34 :: u35 :: u36 :: u37 :: u38 :: u39 :: u40 :: u41 :: u42 :: u43 :: u44 :: u45 :: u46 :: u47 :: u48 :: u49 :: u50 :: u51 :: u52 :: u53 :: u54 :: u55 :: u56 :: u57 :: u58 :: u59 :: u60 :: u61 :: u62 :: u63 :: u64 :: u65 :: u66 :: u67 :: u68 :: u69 :: u70 :: u71 :: u72 :: u73 :: u74 :: u75 :: u76 :: u77 :: u78 :: u79 :: u80 :: u81 :: u82 :: u83 :: u84 :: u85 :: u86 :: u87 :: u88 :: u89 :: u90 :: u91 :: u92 :: u93 :: u94 :: u95 :: u96 :: u97 :: u98 :: u99 :: u100 :: u101 :: u102 :: u103 :: u104 :: u105 :: u106 :: u107 :: u108 :: u109 :: u110 :: u111 :: u112 :: u113 :: u114 :: u115 :: u116 :: u117 :: u118 :: u119 :: u120 :: u121 :: u122 :: u123 :: u124 :: u125 :: u126 :: u127 :: u128 :: u129 :: u130 :: u131 :: u132 :: u133 :: u134 :: u135 :: u136 :: u137 :: u138 :: u139 :: u140 :: u141 :: u142 :: u143 :: u144 :: u145 :: u146 :: u147 :: u148 :: u149 :: u150 :: u151 :: u152 :: u153 :: u154 :: u155 :: u156 :: u157 :: u158 :: u159 :: u160 :: u161 :: u162 :: u163 :: u164 :: u165 :: u166 :: u167 :: u168 :: u169 :: u170 :: u171 :: u172 :: u173 :: u174 :: u175 :: u176 :: u177 :: u178 :: u179 :: u180 :: u181 :: u182 :: u183 :: u184 :: u185 :: u186 :: u187 :: u188 :: u189 :: u190 :: u191 :: u192 :: u193 :: u194 :: u195 :: u196 :: u197 :: []), []⟩ wc := by
 have hwd := @Wd.cells
 have MU := Lib.hid hmu
 have HX := Lib.hid hexit
 clear hmu hexit
 conv => arg 2; whnf
 go_wp2_with fail
 refine (drawBld_at wc a0 x0.length cap0 x0 MU.out.2 hx20).mono ?_
 rintro e w1 ⟨n, v, ls, rfl, os, hl, b1⟩
 obtain ⟨av, cv, rfl, ia⟩ := os.form
 have IA := Lib.hid ia
 replace MU := Lib.hid (MU.out.below b1)
 clear os ia b1
 have HKP : Hid ((bldF n ls).2 = true → sparseB (bldF n ls).1 2 3 = true ∧ (0 < ls.length → (((bldF n ls).1.2.length : Nat) : Int) = 2 * ls.length - 1)) := Lib.hid bldF_keep
 have hsl := bldF_sz n ls
 have HBI := Lib.hid (fun w9 (i9 : StepsAt w9 av ls.length ls) => impl_BuildSteps w9 n (.slice av ls.length cv) ls ⟨av, cv, rfl, i9⟩ (by omega))
 have HBS := Lib.hid (fun w9 (i9 : StepsAt w9 av ls.length ls) => spec_BuildSteps w9 n (.slice av ls.length cv) ls ⟨av, cv, rfl, i9⟩ (by omega))
 generalize bldF n ls = BF at *
 obtain ⟨⟨q, ms⟩, ok⟩ := BF
 dsimp only at HKP HBI HBS hsl
 have hsl2 : ms.length ≤ 24 := hsl
 clear hsl
 go_wp2_with fail
 refine (HBI.out w1 IA.out).mono ?_
 rintro e w3 ⟨vg, rfl, ⟨vb, ⟨a3, c3, rfl, rfl⟩, ob3⟩, b3⟩
 dsimp only at ob3 ⊢
 have ba := belAl w3 (.cells #[.int .i64 q, .slice a3 ms.length c3] 26)
 obtain ⟨g12, hg12⟩ : ∃ q, q = w3.heap.size := ⟨_, rfl⟩
 have G12 : Hid (GrS (w3.alloc (.cells #[.int .i64 q, .slice a3 ms.length c3] 26)) g12 q a3 c3 ms) := Lib.hid ⟨by rw [hg12]; exact BoxGr.at rfl, OwnBars.low (OwnBars.below ob3 ba) (Nat.zero_le _)⟩
 replace IA := Lib.hid ((IA.out.below b3).below ba)
 replace MU := Lib.hid ((MU.out.below b3).below ba)
 clear ob3 b3 ba HBI
 go_upto_region 14 with (fail)
 rw [← hg12]
 generalize (w3.alloc (.cells #[.int .i64 q, .slice a3 ms.length c3] 26)) = w4 at *
 clear hg12
 go_wp2_with fail
 refine (HBS.out w4 IA.out).mono ?_
 rintro e w5 ⟨vg, rfl, ⟨vb, ⟨a5, c5, rfl, rfl⟩, ob5⟩, b5⟩
 dsimp only at ob5 ⊢
 have ba := belAl w5 (.cells #[.int .i64 q, .slice a5 ms.length c5] 26)
 obtain ⟨g14, hg14⟩ : ∃ q, q = w5.heap.size := ⟨_, rfl⟩
 have G14 : Hid (GrS (w5.alloc (.cells #[.int .i64 q, .slice a5 ms.length c5] 26)) g14 q a5 c5 ms) := Lib.hid ⟨by rw [hg14]; exact BoxGr.at rfl, OwnBars.low (OwnBars.below ob5 ba) (Nat.zero_le _)⟩
 replace G12 := Lib.hid ((G12.out.below b5).below ba)
 replace MU := Lib.hid ((MU.out.below b5).below ba)
 clear ob5 b5 ba HBS IA
 go_upto_region 15 with (fail)
 rw [← hg14]
 generalize (w5.alloc (.cells #[.int .i64 q, .slice a5 ms.length c5] 26)) = w6 at *
 clear hg14
 have HEG := Lib.hid (eqG_same w6 q a3 a5 c3 c5 ms G12.out.at' G14.out.at' (by omega))
 go_cut [145] from 114 to 145 (fun s wx => s = .bool false ∧ TrU W wx a0 x0)
 case first =>
  obtain ⟨zA, cA0, cA1⟩ := G12.out.bx
  obtain ⟨zB, cB0, cB1⟩ := G14.out.bx
  cases ok
  ·go_wp2_with fail
   clear zA cA0 cA1 zB cB0 cB1
   refine HEG.out.mono ?_
   rintro e w8 ⟨rfl, b8⟩
   replace MU := Lib.hid (MU.out.below b8)
   go_wp2_with fail
   go_meet
   exact ⟨rfl, MU.out⟩
  ·obtain ⟨hsp, hcn⟩ := HKP.out rfl
   go_wp2_with fail
   clear zA cA0 cA1 zB cB0 cB1
   refine HEG.out.mono ?_
   rintro e w8 ⟨rfl, b8⟩
   replace MU := Lib.hid (MU.out.below b8)
   replace G14 := Lib.hid (G14.out.below b8)
   clear b8 HEG G12
   obtain ⟨zB, cB0, cB1⟩ := G14.out.bx
   go_wp2_with fail
   clear zB cB0 cB1
   refine (implSparse_at w8 q a5 c5 ms G14.out.at' (by omega) 2 3).mono ?_
   rintro e w9 ⟨rfl, b9⟩
   rw [hsp]
   replace MU := Lib.hid (MU.out.below b9)
   replace G14 := Lib.hid (G14.out.below b9)
   clear b9
   by_cases h0 : 0 < ls.length
   ·have hcn2 := hcn h0
    have h0i : (0 : Int) < (ls.length : Int) := by omega
    have hw1 := IntWalk.i64_in (2 * (ls.length : Int)) (by omega)
    have hw2 := IntWalk.i64_in (2 * (ls.length : Int) - 1) (by omega)
    have hne : (((ms.length : Nat) : Int) != 2 * (ls.length : Int) - 1) = false := by rw [hcn2]; simp
    clear hcn hcn2 hsp HKP
    obtain ⟨zB, cB0, cB1⟩ := G14.out.bx
    go_wp2_with fail
    go_meet
    first | exact ⟨rfl, MU.out⟩ | exact ⟨congrArg Value.bool hne, MU.out⟩
   ·have h0i : ¬ (0 : Int) < (ls.length : Int) := by omega
    clear hcn hsp HKP
    obtain ⟨zB, cB0, cB1⟩ := G14.out.bx
    go_wp2_with fail
    go_meet
    exact ⟨rfl, MU.out⟩
 case rest =>
  clear G12 G14 MU HEG HKP hsl2 hl
  obtain ⟨rfl, mu⟩ := hcut
  have MU := Lib.hid mu
  clear mu
  rename_i K1 h1 K0 h0
  refine h0 _ _ ?_
  have H1 := Lib.hid h1
  clear h1 h0
  go_wp2_with fail
  refine H1.out _ _ ?_
  rename_i wq
  exact walkStp17 W _ _ a0 cap0 x0 hx20 MU.out HX.out
set_option maxRecDepth 1000000 in
set_option maxHeartbeats 16000000 in
theorem walkFnSteps (W : World) (v0 : Value) (x0 : List Int) (r0 : IsBytes W v0 x0) (ok0 : OkBytes x0) :
  Calls Tryz.prog 4 #[v0] W fun e w' => e = .returned (.bool true) ∧ Below W.heap.size W w' := by
 obtain ⟨a0, cap0, rfl, hB⟩ := r0
 have hwd := @Wd.cells
 by_cases hbig : (1048576 : Int) < (x0.length : Int)
 ·go_enter Tryz.func4, Tryz.ntmps4
  go_wp2_with fail
  refine (big_at W a0 x0.length cap0).mono ?_
  rintro e w1 ⟨rfl, e1⟩
  obtain rfl : W = w1 := e1.symm
  rw [decide_eq_true hbig]
  go_wp2_with fail
  go_ret
  exact ⟨rfl, Below.refl _ _⟩
 have HB := Lib.hid hB
 clear hB
 have hx20 : x0.length ≤ 1048576 := by omega
 go_enter Tryz.func4, Tryz.ntmps4
 go_wp2_with fail
 refine (big_at W a0 x0.length cap0).mono ?_
 rintro e w1 ⟨rfl, e1⟩
 obtain rfl : W = w1 := e1.symm
 clear e1
 rw [decide_eq_false (show ¬ (1048576 : Int) < (x0.length : Int) by omega)]
 clear hbig
 go_wp2_with fail
 refine (drawFsg_at W a0 x0.length cap0 x0 HB.out hx20).mono ?_
 rintro e w1 ⟨p, a, c, lB, rfl, ob, hbl, b1⟩
 have ba := belAl w1 (.cells #[.int .i64 p, .slice a lB.length c] 26)
 obtain ⟨g3, hg3⟩ : ∃ q, q = w1.heap.size := ⟨_, rfl⟩
 have G : Hid (GrS (w1.alloc (.cells #[.int .i64 p, .slice a lB.length c] 26)) g3 p a c lB) := Lib.hid ⟨by rw [hg3]; exact BoxGr.at rfl, OwnBars.low (OwnBars.below ob ba) (Nat.zero_le _)⟩
 have MU : Hid (TrU W (w1.alloc (.cells #[.int .i64 p, .slice a lB.length c] 26)) a0 x0) := Lib.hid ⟨b1.step ba, (HB.out.below b1).below ba⟩
 have hsz : szGraph (p, lB) ≤ 1048576 := by show lB.length ≤ 1048576; omega
 clear ob b1 ba HB
 go_upto_region 4 with (fail)
 rw [← hg3]
 generalize (w1.alloc (.cells #[.int .i64 p, .slice a lB.length c] 26)) = w2 at *
 clear hg3
 have HNO : Hid ((minB (p, lB) && decide (0 < lB.length)) = false → fsB (p, lB) = false) := Lib.hid fun h => (fs_no (g := (p, lB)) h).2
 have HYE : Hid ((minB (p, lB) && decide (0 < lB.length)) = true → fsB (p, lB) = true ∧ bldF p (fsA (p, lB)) = ((p, lB), true) ∧ ((fsA (p, lB)).length : Int) = p - 1) := Lib.hid fun h => fs_yes (g := (p, lB)) h
 have HFI := Lib.hid (fun w9 (G9 : GrS w9 g3 p a c lB) => impl_FindSteps w9 _ (p, lB) G9.is hsz)
 have HFS := Lib.hid (fun w9 (G9 : GrS w9 g3 p a c lB) => spec_FindSteps w9 _ (p, lB) G9.is hsz)
 have HMN := Lib.hid (fun w9 (G9 : GrS w9 g3 p a c lB) => specMin_at w9 p a c lB G9.at' hsz)
 have HOK := Lib.hid (fsA_ok (p, lB))
 have hll := fsA_len (p, lB)
 obtain ⟨L, hL⟩ : ∃ L, L = fsA (p, lB) := ⟨_, rfl⟩
 obtain ⟨fb, hfb⟩ : ∃ L, L = fsB (p, lB) := ⟨_, rfl⟩
 obtain ⟨M, hM⟩ : ∃ L, L = minB (p, lB) := ⟨_, rfl⟩
 rw [← hL] at HYE HFI HFS HOK hll
 rw [← hfb] at HNO HYE HFI HFS
 rw [← hM] at HNO HYE HMN
 clear hL hfb hM
 obtain ⟨zB, cB0, cB1⟩ := G.out.bx
 go_wp2_with fail
 clear zB cB0 cB1
 refine (HFI.out w2 G.out).mono ?_
 rintro e w3 ⟨v3, rfl, o3, b3⟩
 obtain ⟨al, cl, rfl, i3⟩ := o3.form
 have IL := Lib.hid i3
 replace G := Lib.hid (G.out.below b3)
 replace MU := Lib.hid (MU.out.below b3)
 clear o3 i3 b3 HFI
 obtain ⟨zB, cB0, cB1⟩ := G.out.bx
 go_wp2_with fail
 clear zB cB0 cB1
 refine (HFS.out w3 G.out).mono ?_
 rintro e w4 ⟨v4, rfl, o4, b4⟩
 obtain ⟨am, cm, rfl, i4⟩ := o4.form
 have IM := Lib.hid i4
 replace IL := Lib.hid (IL.out.below b4)
 replace G := Lib.hid (G.out.below b4)
 replace MU := Lib.hid (MU.out.below b4)
 clear o4 i4 b4 HFS
 have HFM : Hid (fb = (M && decide (0 < lB.length))) := Lib.hid (by
  cases h : (M && decide (0 < lB.length))
  ·exact HNO.out h
  ·exact (HYE.out h).1)
 have HYE2 : Hid (fb = true → bldF p L = ((p, lB), true) ∧ ((L.length : Nat) : Int) = p - 1 ∧ (1 ≤ p ∧ p ≤ 100)) := Lib.hid fun h => by
  have h1 := HYE.out (HFM.out.symm.trans h)
  have h2 : isGraphB (p, lB) = true := by
   have h3 := (bldF_keep (n := p) (l := L) (by rw [h1.2.1])).1
   rw [h1.2.1] at h3
   exact sparseB_graph h3
  have := isGraphB_bd h2
  exact ⟨h1.2.1, h1.2.2, by omega⟩
 clear HNO HYE
 go_upto_region 6 with (fail)
 go_cut [72] from 38 to 72 (fun s wx => s = .bool false ∧ TrU W wx a0 x0 ∧ GrS wx g3 p a c lB ∧ StepsAt wx am L.length L)
 case first =>
  have HSM := Lib.hid (fun w9 (hb : Below w4.heap.size w4 w9) => spec_AreSameSteps w9 (.slice al L.length cl) L ⟨al, cl, rfl, IL.out.below hb⟩ (.slice am L.length cm) L ⟨am, cm, rfl, IM.out.below hb⟩ hll hll)
  rw [show decide (L = L) = true by simp] at HSM
  have HTI := Lib.hid (fun w9 (hb : Below w4.heap.size w4 w9) => impl_FormatSteps w9 (.slice al L.length cl) L ⟨al, cl, rfl, IL.out.below hb⟩ hll HOK.out)
  have HTS := Lib.hid (fun w9 (hb : Below w4.heap.size w4 w9) => spec_FormatSteps w9 (.slice am L.length cm) L ⟨am, cm, rfl, IM.out.below hb⟩ hll HOK.out)
  have HCI := Lib.hid (fun w9 (hb : Below w4.heap.size w4 w9) => impl_CountThrees w9 (.slice al L.length cl) L ⟨al, cl, rfl, IL.out.below hb⟩ hll)
  have HCS := Lib.hid (fun w9 (hb : Below w4.heap.size w4 w9) => spec_CountThrees w9 (.slice am L.length cm) L ⟨am, cm, rfl, IM.out.below hb⟩ hll)
  generalize bs (fmtSt L) = TX at *
  generalize threes L L.length = CX at *
  have htt : (TX != TX) = false := by
   have : (TX == TX) = true := by
    cases TX with
    | mk d => show (d == d) = true; simp
   unfold bne
   rw [this]; rfl
  have hcc : (CX != CX) = false := by simp
  have B0 := Below.refl w4.heap.size w4
  cases M
  ·obtain rfl : fb = false := by have := HFM.out; simpa using this
   go_wp2_with fail
   refine (HSM.out w4 B0).mono ?_
   rintro e w5 ⟨rfl, b⟩
   replace B0 := B0.step b
   replace G := Lib.hid (G.out.below b)
   replace MU := Lib.hid (MU.out.below b)
   clear b
   obtain ⟨zB, cB0, cB1⟩ := G.out.bx
   go_wp2_with fail
   clear zB cB0 cB1
   refine (HMN.out w5 G.out).mono ?_
   rintro e w6 ⟨rfl, b⟩
   replace B0 := B0.step b
   replace G := Lib.hid (G.out.below b)
   replace MU := Lib.hid (MU.out.below b)
   clear b
   obtain ⟨zB, cB0, cB1⟩ := G.out.bx
   go_wp2_with fail
   clear zB cB0 cB1
   refine (HTI.out w6 B0).mono ?_
   rintro e w7 ⟨rfl, b⟩
   replace B0 := B0.step b
   replace G := Lib.hid (G.out.below b)
   replace MU := Lib.hid (MU.out.below b)
   clear b
   go_wp2_with fail
   refine (HTS.out w7 B0).mono ?_
   rintro e w8 ⟨rfl, b⟩
   replace B0 := B0.step b
   replace G := Lib.hid (G.out.below b)
   replace MU := Lib.hid (MU.out.below b)
   clear b
   go_wp2_with fail
   refine (HCI.out w8 B0).mono ?_
   rintro e w9 ⟨rfl, b⟩
   replace B0 := B0.step b
   replace G := Lib.hid (G.out.below b)
   replace MU := Lib.hid (MU.out.below b)
   clear b
   go_wp2_with fail
   refine (HCS.out w9 B0).mono ?_
   rintro e w10 ⟨rfl, b⟩
   replace B0 := B0.step b
   replace G := Lib.hid (G.out.below b)
   replace MU := Lib.hid (MU.out.below b)
   clear b
   go_wp2_with fail
   go_meet
   exact ⟨rfl, MU.out, G.out, IM.out.below B0⟩
  ·by_cases h0 : 0 < lB.length
   ·obtain rfl : fb = true := by have := HFM.out; rw [decide_eq_true h0] at this; exact this
    have h0i : (0 : Int) < (lB.length : Int) := by omega
    go_wp2_with fail
    refine (HSM.out w4 B0).mono ?_
    rintro e w5 ⟨rfl, b⟩
    replace B0 := B0.step b
    replace G := Lib.hid (G.out.below b)
    replace MU := Lib.hid (MU.out.below b)
    clear b
    obtain ⟨zB, cB0, cB1⟩ := G.out.bx
    go_wp2_with fail
    clear zB cB0 cB1
    refine (HMN.out w5 G.out).mono ?_
    rintro e w6 ⟨rfl, b⟩
    replace B0 := B0.step b
    replace G := Lib.hid (G.out.below b)
    replace MU := Lib.hid (MU.out.below b)
    clear b
    obtain ⟨zB, cB0, cB1⟩ := G.out.bx
    go_wp2_with fail
    clear zB cB0 cB1
    refine (HTI.out w6 B0).mono ?_
    rintro e w7 ⟨rfl, b⟩
    replace B0 := B0.step b
    replace G := Lib.hid (G.out.below b)
    replace MU := Lib.hid (MU.out.below b)
    clear b
    go_wp2_with fail
    refine (HTS.out w7 B0).mono ?_
    rintro e w8 ⟨rfl, b⟩
    replace B0 := B0.step b
    replace G := Lib.hid (G.out.below b)
    replace MU := Lib.hid (MU.out.below b)
    clear b
    go_wp2_with fail
    refine (HCI.out w8 B0).mono ?_
    rintro e w9 ⟨rfl, b⟩
    replace B0 := B0.step b
    replace G := Lib.hid (G.out.below b)
    replace MU := Lib.hid (MU.out.below b)
    clear b
    go_wp2_with fail
    refine (HCS.out w9 B0).mono ?_
    rintro e w10 ⟨rfl, b⟩
    replace B0 := B0.step b
    replace G := Lib.hid (G.out.below b)
    replace MU := Lib.hid (MU.out.below b)
    clear b
    go_wp2_with fail
    go_meet
    exact ⟨rfl, MU.out, G.out, IM.out.below B0⟩
   ·obtain rfl : fb = false := by have := HFM.out; rw [decide_eq_false h0] at this; exact this
    have h0i : ¬ (0 : Int) < (lB.length : Int) := by omega
    go_wp2_with fail
    refine (HSM.out w4 B0).mono ?_
    rintro e w5 ⟨rfl, b⟩
    replace B0 := B0.step b
    replace G := Lib.hid (G.out.below b)
    replace MU := Lib.hid (MU.out.below b)
    clear b
    obtain ⟨zB, cB0, cB1⟩ := G.out.bx
    go_wp2_with fail
    clear zB cB0 cB1
    refine (HMN.out w5 G.out).mono ?_
    rintro e w6 ⟨rfl, b⟩
    replace B0 := B0.step b
    replace G := Lib.hid (G.out.below b)
    replace MU := Lib.hid (MU.out.below b)
    clear b
    obtain ⟨zB, cB0, cB1⟩ := G.out.bx
    go_wp2_with fail
    clear zB cB0 cB1
    refine (HTI.out w6 B0).mono ?_
    rintro e w7 ⟨rfl, b⟩
    replace B0 := B0.step b
    replace G := Lib.hid (G.out.below b)
    replace MU := Lib.hid (MU.out.below b)
    clear b
    go_wp2_with fail
    refine (HTS.out w7 B0).mono ?_
    rintro e w8 ⟨rfl, b⟩
    replace B0 := B0.step b
    replace G := Lib.hid (G.out.below b)
    replace MU := Lib.hid (MU.out.below b)
    clear b
    go_wp2_with fail
    refine (HCI.out w8 B0).mono ?_
    rintro e w9 ⟨rfl, b⟩
    replace B0 := B0.step b
    replace G := Lib.hid (G.out.below b)
    replace MU := Lib.hid (MU.out.below b)
    clear b
    go_wp2_with fail
    refine (HCS.out w9 B0).mono ?_
    rintro e w10 ⟨rfl, b⟩
    replace B0 := B0.step b
    replace G := Lib.hid (G.out.below b)
    replace MU := Lib.hid (MU.out.below b)
    clear b
    go_wp2_with fail
    go_meet
    exact ⟨rfl, MU.out, G.out, IM.out.below B0⟩
 case rest =>
  clear HMN HOK IL HFM
  obtain ⟨rfl, mu, gr, im⟩ := hcut
  have MU := Lib.hid mu
  have G := Lib.hid gr
  have IM := Lib.hid im
  clear mu gr im
  rename_i K1 h1 K0 h0
  refine h0 _ _ ?_
  have H1 := Lib.hid h1
  clear h1 h0
  go_wp2_with fail
  refine H1.out _ _ ?_
  clear H1
  refine wp_seq_k ?_
  intro K12 hK12
  have HK := Lib.hid hK12
  clear hK12
  have fin : ∀ a9 w9, ((a9.tmps[2]? = some (.bool true) ∧ a9.defers = []) ∧ Below W.heap.size W w9) → bodyPost Tryz.prog Tryz.f4 (fun e w' => e = .returned (.bool true) ∧ Below W.heap.size W w') .ret a9 w9 := by
   rintro a9 w9 ⟨⟨h2, h3⟩, hb⟩
   refine bodyPost_ret (v := .bool true) (by simp [results, Tryz.results4, go_sem, h2]) h3 ?_
   exact ⟨rfl, hb⟩
  have FIN := Lib.hid fin
  clear fin
  cases fb
  ·go_wp2_with fail
   refine HK.out _ _ ?_
   exact walkStp12 W _ _ a0 cap0 x0 hx20 MU.out FIN.out
  ·obtain ⟨hbf, hLl, hp⟩ := HYE2.out rfl
   have HBI := Lib.hid (fun w9 (i9 : StepsAt w9 am L.length L) => impl_BuildSteps w9 p (.slice am L.length cm) L ⟨am, cm, rfl, i9⟩ hll)
   rw [hbf] at HBI
   dsimp only at HBI
   have hlb : lB.length ≤ 1048576 := by omega
   clear hbf HYE2
   obtain ⟨zB, cB0, cB1⟩ := G.out.bx
   go_wp2_with fail
   clear zB cB0 cB1
   refine (HBI.out _ IM.out).mono ?_
   rintro e w5 ⟨vg, rfl, ⟨vb, ⟨a3, c3, rfl, rfl⟩, ob3⟩, b3⟩
   dsimp only at ob3 ⊢
   have ba := belAl w5 (.cells #[.int .i64 p, .slice a3 lB.length c3] 26)
   obtain ⟨g8, hg8⟩ : ∃ q, q = w5.heap.size := ⟨_, rfl⟩
   have G8 : Hid (GrS (w5.alloc (.cells #[.int .i64 p, .slice a3 lB.length c3] 26)) g8 p a3 c3 lB) := Lib.hid ⟨by rw [hg8]; exact BoxGr.at rfl, OwnBars.low (OwnBars.below ob3 ba) (Nat.zero_le _)⟩
   replace G := Lib.hid ((G.out.below b3).below ba)
   replace MU := Lib.hid ((MU.out.below b3).below ba)
   clear ob3 b3 ba HBI
   go_upto_region 10 with (fail)
   rw [← hg8]
   generalize (w5.alloc (.cells #[.int .i64 p, .slice a3 lB.length c3] 26)) = w6 at *
   clear hg8
   obtain ⟨zA, cA0, cA1⟩ := G8.out.bx
   obtain ⟨zB, cB0, cB1⟩ := G.out.bx
   go_wp2_with fail
   clear zA cA0 cA1 zB cB0 cB1
   refine (eqG_same w6 p a3 a c3 c lB G8.out.at' G.out.at' hlb).mono ?_
   rintro e w7 ⟨rfl, b7⟩
   replace G := Lib.hid (G.out.below b7)
   replace MU := Lib.hid (MU.out.below b7)
   clear b7 G8
   have hw1 := IntWalk.i64_in (p - 1) (by omega)
   have hne : (((L.length : Nat) : Int) != p - 1) = false := by rw [hLl]; simp
   obtain ⟨zB, cB0, cB1⟩ := G.out.bx
   go_wp2_with fail
   refine HK.out _ _ ?_
   exact walkStp12 W _ _ a0 cap0 x0 hx20 MU.out FIN.out

end Go.Proofs.YtfbmpkdjhhcnpaaGreat

