/- The law FnMotions returns true: the walk. No condition. -/
import Derived.Test.YtfbmpkdjhhcnpaaMoP39
namespace Go.Proofs.Ytfbmpkdjhhcnpaa
open Go.RowKit
set_option maxRecDepth 100000
set_option linter.unusedVariables false
set_option linter.unusedSimpArgs false
/-- a framework in its box -/
structure FwS (w : World) (g : Nat) (p : Int) (a : Option Addr) (c : Nat) (b : Option Addr) (d : Nat) (bs : List BarT) (ps : List PlaceT) : Prop where
  bx : BxF w g p a bs.length c b ps.length d
  fr : FrFw w 0 a bs b ps
theorem FwS.below {w w' : World} {g : Nat} {p : Int} {a b : Option Addr} {c d : Nat} {bs : List BarT} {ps : List PlaceT} (h : FwS w g p a c b d bs ps) (hb : Below w.heap.size w w') : FwS w' g p a c b d bs ps :=
  ⟨h.bx.kept (Kept.of_below (S := fun _ => False) hb) id, h.fr.below hb⟩
/-- what the law holds of while it runs: the bytes, the first framework, its motions and those of the plane -/
structure MoT (W w : World) (a0 : Option Addr) (x0 : List Int) (g : Nat) (p : Int) (a : Option Addr) (c : Nat) (b : Option Addr) (d : Nat) (bs : List BarT) (ps : List PlaceT) (am : Option Addr) (M : List (List Int)) (ap : Option Addr) (Q : List (List Int)) : Prop where
  bl : Below W.heap.size W w
  hB : BytesAt w a0 x0.length x0
  fw : FwS w g p a c b d bs ps
  hM : IntssAt w am M.length M
  hQ : IntssAt w ap Q.length Q
theorem MoT.below {W w w' : World} {a0 : Option Addr} {x0 : List Int} {g : Nat} {p : Int} {a : Option Addr} {c : Nat} {b : Option Addr} {d : Nat} {bs : List BarT} {ps : List PlaceT} {am : Option Addr} {M : List (List Int)} {ap : Option Addr} {Q : List (List Int)} (h : MoT W w a0 x0 g p a c b d bs ps am M ap Q) (hb : Below w.heap.size w w') : MoT W w' a0 x0 g p a c b d bs ps am M ap Q :=
  ⟨h.bl.step hb, h.hB.below hb, h.fw.below hb, h.hM.below hb, h.hQ.below hb⟩
theorem fmV_len9 (f : FwT) : (fmV f).length ≤ 1048576 := by
  unfold fmV
  cases h : fmL f with
  | none => decide
  | some r =>
    have h1 : r ∈ motL f := List.mem_of_find?_eq_some (p := fun v => !trivB f v) h
    exact (motL_bd h1).1
/-- what is left of it behind the first framework -/
def MoU (W w : World) (a0 : Option Addr) (x0 : List Int) : Prop := Below W.heap.size W w ∧ BytesAt w a0 x0.length x0
theorem MoU.below {W w w' : World} {a0 : Option Addr} {x0 : List Int} (h : MoU W w a0 x0) (hb : Below w.heap.size w w') : MoU W w' a0 x0 := ⟨h.1.step hb, h.2.below hb⟩
theorem plm_mot {f : FwT} {v : List Int} (h : v ∈ plmL f) : motB f v = true ∧ trivB f v = true := ⟨triv_mot (plane_triv h).1, (plane_triv h).1⟩
theorem chg_comm' {f : FwT} {v : List Int} {i j : Int} : changeF f v j i = changeF f v i j := changeF_comm f v j i
/-- the code behind a region -/
def startsAt (n : Nat) : Code → Bool
  | .region k _ _ => k == n
  | .seq a _ => startsAt n a
  | .block _ c => startsAt n c
  | .scope c => startsAt n c
  | _ => false
def tailFrom (n : Nat) : Code → Option Code
  | .seq a b => if startsAt n a then some (.seq a b) else match tailFrom n a with
    | some c => some c
    | none => tailFrom n b
  | .block _ c => tailFrom n c
  | .scope c => tailFrom n c
  | .cond _ a b => match tailFrom n a with
    | some c => some c
    | none => tailFrom n b
  | _ => none
noncomputable def mot20 : Code := ((Try.f3.body.bind (tailFrom 20)).getD .skip)
noncomputable def mot25 : Code := ((Try.f3.body.bind (tailFrom 25)).getD .skip)
set_option maxRecDepth 1000000 in
set_option maxHeartbeats 16000000 in
theorem walkMot25 (W wc : World) (Q : Exit → Act → World → Prop) (a0 : Option Addr) (cap0 : Nat) (x0 : List Int) (hx20 : x0.length ≤ 1048576) {u1 u2 u3 u4 u5 u6 u7 u8 u9 u10 u11 u12 u13 u14 u15 u16 u17 u18 u19 u20 u21 u22 u23 u24 u25 u26 u27 u28 u29 u30 u31 u32 u33 u34 u35 u36 u37 u38 u39 u40 u41 u42 u43 u44 u45 u46 u47 u48 u49 u50 u51 u52 u53 u54 u55 u56 u57 u58 u59 u60 u61 u62 u63 u64 u65 u66 u67 u68 u69 u70 u71 u72 u73 u74 u75 u76 u77 u78 u79 u80 u81 u82 u83 u84 u85 u86 u87 u88 u89 u90 u91 u92 u93 u94 u95 u96 u97 u98 u99 u100 u101 u102 u103 u104 u105 u106 u107 u108 u109 u110 u111 u112 u113 u114 u115 u116 u117 u118 u119 u120 u121 u122 u123 u124 u125 u126 u127 u128 u129 u130 u131 u132 u133 u134 u135 u136 u137 u138 u139 u140 u141 u142 u143 u144 u145 u146 u147 u148 u149 u150 u151 u152 u153 u154 u155 u156 u157 u158 u159 u160 u161 u162 u163 u164 u165 u166 u167 u168 u169 u170 u171 u172 u173 u174 u175 u176 u177 u178 u179 u180 u181 u182 u183 u184 u185 u186 u187 u188 u189 u190 u191 u192 u193 u194 u195 u196 u197 u198 u199 u200 u201 u202 u203 u204 u205 u206 u207 u208 u209 u210 u211 u212 u213 u214 u215 u216 u217 u218 u219 u220 u221 u222 u223 u224 u225 u226 u227 u228 u229 u230 u231 u232 u233 u234 u235 u236 u237 u238 u239 u240 u241 u242 u243 u244 u245 : Value} (hmu : MoU W wc a0 x0)
    (hexit : ∀ a' w', ((a'.tmps[2]? = some (.bool true) ∧ a'.defers = []) ∧ Below W.heap.size W w') → Q .ret a' w') : mot25.wp Try.prog Q ⟨List.toArray (.slice a0 x0.length cap0 :: u1 :: u2 :: u3 :: u4 :: u5 :: u6 :: u7 :: u8 :: u9 :: u10 :: u11 :: u12 :: u13 :: u14 :: u15 :: u16 :: u17 :: u18 :: u19 :: u20 :: u21 :: u22 :: u23 :: u24 :: u25 :: u26 :: u27 :: u28 :: u29 :: u30 :: u31 :: u32 :: u33 :: u34 :: u35 :: u36 :: u37 :: u38 :: u39 :: u40 :: u41 :: u42 :: u43 :: u44 :: u45 :: u46 :: u47 :: u48 :: u49 :: u50 :: u51 :: u52 :: u53 :: u54 :: u55 :: u56 :: u57 :: u58 :: u59 :: u60 :: u61 :: u62 :: u63 :: u64 :: u65 :: u66 :: u67 :: u68 :: u69 :: u70 :: u71 :: u72 :: u73 :: u74 :: u75 :: u76 :: u77 :: u78 :: u79 :: u80 :: u81 :: u82 :: u83 :: u84 :: u85 :: u86 :: u87 :: u88 :: u89 :: u90 :: u91 :: u92 :: u93 :: u94 :: u95 :: u96 :: u97 :: u98 :: u99 :: u100 :: u101 :: u102 :: u103 :: u104 :: u105 :: u106 :: u107 :: u108 :: u109 :: u110 :: u111 :: u112 :: u113 :: u114 :: u115 :: u116 :: u117 :: u118 :: u119 :: u120 :: u121 :: u122 :: u123 :: u124 :: u125 :: u126 :: u127 :: u128 :: u129 :: u130 :: u131 :: u132 :: u133 :: u134 :: u135 :: u136 :: u137 :: u138 :: u139 :: u140 :: u141 :: u142 :: u143 :: u144 :: u145 :: u146 :: u147 :: u148 :: u149 :: u150 :: u151 :: u152 :: u153 :: u154 :: u155 :: u156 :: u157 :: u158 :: u159 :: u160 :: u161 :: u162 :: u163 :: u164 :: u165 :: u166 :: u167 :: u168 :: u169 :: u170 :: u171 :: u172 :: u173 :: u174 :: u175 :: u176 :: u177 :: u178 :: u179 :: u180 :: u181 :: u182 :: u183 :: u184 :: u185 :: u186 :: u187 :: u188 :: u189 :: u190 :: u191 :: u192 :: u193 :: u194 :: u195 :: u196 :: u197 :: u198 :: u199 :: u200 :: u201 :: u202 :: u203 :: u204 :: u205 :: u206 :: u207 :: u208 :: u209 :: u210 :: u211 :: u212 :: u213 :: u214 :: u215 :: u216 :: u217 :: u218 :: u219 :: u220 :: u221 :: u222 :: u223 :: u224 :: u225 :: u226 :: u227 :: u228 :: u229 :: u230 :: u231 :: u232 :: u233 :: u234 :: u235 :: u236 :: u237 :: u238 :: u239 :: u240 :: u241 :: u242 :: u243 :: u244 :: u245 :: []), []⟩ wc := by
  have hwd := @Wd.cells
  have MU := Lib.hid hmu
  clear hmu
  conv => arg 2; whnf
  go_wp2_with fail
  refine (drawChg_at wc a0 x0.length cap0 x0 MU.out.2 hx20).mono ?_
  rintro e w20 ⟨pA, aA, cA, bA, dA, lA, qA, va, vc, v, i, j, rfl, frA, fvA, hsmA, b20⟩
  have ba := belAl w20 (.cells #[.int .i64 pA, .slice aA lA.length cA, .slice bA qA.length dA] 29)
  obtain ⟨gA, hgA⟩ : ∃ q, q = w20.heap.size := ⟨_, rfl⟩
  have FA : Hid (FwS (w20.alloc (.cells #[.int .i64 pA, .slice aA lA.length cA, .slice bA qA.length dA] 29)) gA pA aA cA bA dA lA qA) := Lib.hid ⟨by rw [hgA]; exact BxF.at .., (frA.below ba).low (Nat.zero_le _)⟩
  have VA := Lib.hid ((fvA.below ba).low (Nat.zero_le _))
  replace MU := Lib.hid ((MU.out.below b20).below ba)
  have hszA : szFw (pA, lA, qA) ≤ 1048576 := by show lA.length + qA.length ≤ 1048576; omega
  have hvA := hsmA.2.1
  clear frA fvA b20 ba hsmA
  go_wp2_with fail
  rw [← hgA]
  generalize (w20.alloc (.cells #[.int .i64 pA, .slice aA lA.length cA, .slice bA qA.length dA] 29)) = w21 at *
  clear hgA
  refine (drawTri_at w21 a0 x0.length cap0 x0 MU.out.2 hx20).mono ?_
  rintro e w22 ⟨pB, aB, cB, bB, dB, lB, qB, vb, vd, u, rfl, frB, fvB, hsmB, b22⟩
  have ba := belAl w22 (.cells #[.int .i64 pB, .slice aB lB.length cB, .slice bB qB.length dB] 29)
  obtain ⟨gB, hgB⟩ : ∃ q, q = w22.heap.size := ⟨_, rfl⟩
  have FB : Hid (FwS (w22.alloc (.cells #[.int .i64 pB, .slice aB lB.length cB, .slice bB qB.length dB] 29)) gB pB aB cB bB dB lB qB) := Lib.hid ⟨by rw [hgB]; exact BxF.at .., (frB.below ba).low (Nat.zero_le _)⟩
  have VB := Lib.hid ((fvB.below ba).low (Nat.zero_le _))
  replace MU := Lib.hid ((MU.out.below b22).below ba)
  replace FA := Lib.hid ((FA.out.below b22).below ba)
  replace VA := Lib.hid ((VA.out.below b22).below ba)
  have hszB : szFw (pB, lB, qB) ≤ 1048576 := by show lB.length + qB.length ≤ 1048576; omega
  have hvB := hsmB.2.1
  clear frB fvB b22 ba hsmB
  go_wp2_with fail
  rw [← hgB]
  generalize (w22.alloc (.cells #[.int .i64 pB, .slice aB lB.length cB, .slice bB qB.length dB] 29)) = w23 at *
  clear hgB
  refine (drawFnd_at w23 a0 x0.length cap0 x0 MU.out.2 hx20).mono ?_
  rintro e w24 ⟨pC, aC, cC, bC, dC, lC, qC, rfl, frC, hsmC, b24⟩
  have ba := belAl w24 (.cells #[.int .i64 pC, .slice aC lC.length cC, .slice bC qC.length dC] 29)
  obtain ⟨gC, hgC⟩ : ∃ q, q = w24.heap.size := ⟨_, rfl⟩
  have FC : Hid (FwS (w24.alloc (.cells #[.int .i64 pC, .slice aC lC.length cC, .slice bC qC.length dC] 29)) gC pC aC cC bC dC lC qC) := Lib.hid ⟨by rw [hgC]; exact BxF.at .., (frC.below ba).low (Nat.zero_le _)⟩
  have BW := Lib.hid ((MU.out.1.step b24).step ba)
  replace FA := Lib.hid ((FA.out.below b24).below ba)
  replace VA := Lib.hid ((VA.out.below b24).below ba)
  replace FB := Lib.hid ((FB.out.below b24).below ba)
  replace VB := Lib.hid ((VB.out.below b24).below ba)
  have hszC : szFw (pC, lC, qC) ≤ 1048576 := by show lC.length + qC.length ≤ 1048576; omega
  clear frC b24 ba hsmC MU
  go_wp2_with fail
  rw [← hgC]
  generalize (w24.alloc (.cells #[.int .i64 pC, .slice aC lC.length cC, .slice bC qC.length dC] 29)) = w25 at *
  clear hgC
  obtain ⟨zB, cB0, cB1, cB2, fB2⟩ := FC.out.bx
  go_wp2_with fail
  clear zB cB0 cB1 cB2 fB2
  refine (impl_FindMotion w25 _ (pC, lC, qC) (FC.out.fr.is pC cC dC) hszC).mono ?_
  rintro e w26 ⟨vr, rfl, or, b26⟩
  obtain ⟨ok, hok0⟩ : ∃ q, q = fmOk (pC, lC, qC) := ⟨_, rfl⟩
  obtain ⟨Y, hY⟩ : ∃ q, q = fmV (pC, lC, qC) := ⟨_, rfl⟩
  rw [← hY] at or
  try rw [← hok0]
  have HOK := Lib.hid hok0
  have HY := Lib.hid hY
  have OX := Lib.hid or
  replace BW := Lib.hid (BW.out.step b26)
  replace FA := Lib.hid (FA.out.below b26)
  replace VA := Lib.hid (VA.out.below b26)
  replace FB := Lib.hid (FB.out.below b26)
  replace VB := Lib.hid (VB.out.below b26)
  replace FC := Lib.hid (FC.out.below b26)
  clear hok0 hY or b26
  obtain ⟨zB, cB0, cB1, cB2, fB2⟩ := FC.out.bx
  go_wp2_with fail
  clear zB cB0 cB1 cB2 fB2
  refine (spec_FindMotion w26 _ (pC, lC, qC) (FC.out.fr.is pC cC dC) hszC).mono ?_
  rintro e w27 ⟨vs, rfl, os, b27⟩
  rw [← HY.out] at os
  try rw [← HOK.out]
  replace OX := Lib.hid (OX.out.below b27)
  replace BW := Lib.hid (BW.out.step b27)
  replace FA := Lib.hid (FA.out.below b27)
  replace VA := Lib.hid (VA.out.below b27)
  replace FB := Lib.hid (FB.out.below b27)
  replace VB := Lib.hid (VB.out.below b27)
  have hYl : Y.length ≤ 1048576 := by rw [HY.out]; exact fmV_len9 _
  obtain ⟨ax, cx, rfl, ix⟩ := OX.out.form
  obtain ⟨ay, cy, rfl, iy⟩ := os.form
  have HSI : Hid (∀ w9, Below w27.heap.size w27 w9 → Calls Try.prog 18 #[.slice ax Y.length cx, .slice ay Y.length cy] w9 fun e w' => e = .returned (.bool true) ∧ Below w9.heap.size w9 w') := Lib.hid fun w9 hb => (sameInts_eq ax ay Y.length cx cy Y w9 (ix.below hb) (iy.below hb) (by omega)).mono fun e w' ⟨h1, m, h2⟩ => ⟨h1, by rw [h2]; exact below_drewN (Below.refl _ _) m⟩
  clear ix iy os b27 OX FC HOK HY hYl
  obtain ⟨X, hX⟩ : ∃ X, X = changeF (pA, lA, qA) v i j := ⟨_, rfl⟩
  have HCI : Hid (∀ w9 i1 j1, Below w27.heap.size w27 w9 → ((i1 = i ∧ j1 = j) ∨ (i1 = j ∧ j1 = i)) → Calls Try.prog 24 #[.agg #[.int .i64 pA, .slice aA lA.length cA, .slice bA qA.length dA], .slice va v.length vc, .int .i64 i1, .int .i64 j1] w9 fun e w' => e = .returned (.int .i64 X) ∧ Below w9.heap.size w9 w') := Lib.hid fun w9 i1 j1 hb hij => by
    rcases hij with ⟨rfl, rfl⟩ | ⟨rfl, rfl⟩
    · have := impl_ChangeOf w9 _ (pA, lA, qA) ((FA.out.fr.below hb).is pA cA dA) _ v ((VA.out.below hb).is vc) i1 j1 hszA hvA
      rw [← hX] at this
      exact this
    · have := impl_ChangeOf w9 _ (pA, lA, qA) ((FA.out.fr.below hb).is pA cA dA) _ v ((VA.out.below hb).is vc) i1 j1 hszA hvA
      rw [changeF_comm, ← hX] at this
      exact this
  have HCS : Hid (∀ w9, Below w27.heap.size w27 w9 → Calls Try.prog 25 #[.agg #[.int .i64 pA, .slice aA lA.length cA, .slice bA qA.length dA], .slice va v.length vc, .int .i64 i, .int .i64 j] w9 fun e w' => e = .returned (.int .i64 X) ∧ Below w9.heap.size w9 w') := Lib.hid fun w9 hb => by
    have := spec_ChangeOf w9 _ (pA, lA, qA) ((FA.out.fr.below hb).is pA cA dA) _ v ((VA.out.below hb).is vc) i j hszA hvA
    rw [← hX] at this
    exact this
  obtain ⟨M1, hM1⟩ : ∃ X, X = motB (pB, lB, qB) u := ⟨_, rfl⟩
  obtain ⟨T1, hT1⟩ : ∃ X, X = trivB (pB, lB, qB) u := ⟨_, rfl⟩
  have himp : T1 = true → M1 = true := fun h => by rw [hM1]; exact triv_mot (by rw [← hT1]; exact h)
  have HMI : Hid (∀ w9, Below w27.heap.size w27 w9 → Calls Try.prog 11 #[.agg #[.int .i64 pB, .slice aB lB.length cB, .slice bB qB.length dB], .slice vb u.length vd] w9 fun e w' => e = .returned (.bool M1) ∧ Below w9.heap.size w9 w') := Lib.hid fun w9 hb => by
    have := impl_IsMotion w9 _ (pB, lB, qB) ((FB.out.fr.below hb).is pB cB dB) _ u ((VB.out.below hb).is vd) hszB hvB
    rw [← hM1] at this
    exact this
  have HMS : Hid (∀ w9, Below w27.heap.size w27 w9 → Calls Try.prog 26 #[.agg #[.int .i64 pB, .slice aB lB.length cB, .slice bB qB.length dB], .slice vb u.length vd] w9 fun e w' => e = .returned (.bool M1) ∧ Below w9.heap.size w9 w') := Lib.hid fun w9 hb => by
    have := spec_IsMotion w9 _ (pB, lB, qB) ((FB.out.fr.below hb).is pB cB dB) _ u ((VB.out.below hb).is vd) hszB hvB
    rw [← hM1] at this
    exact this
  have HTI : Hid (∀ w9, Below w27.heap.size w27 w9 → Calls Try.prog 12 #[.agg #[.int .i64 pB, .slice aB lB.length cB, .slice bB qB.length dB], .slice vb u.length vd] w9 fun e w' => e = .returned (.bool T1) ∧ Below w9.heap.size w9 w') := Lib.hid fun w9 hb => by
    have := impl_IsTrivialMotion w9 _ (pB, lB, qB) ((FB.out.fr.below hb).is pB cB dB) _ u ((VB.out.below hb).is vd) hszB hvB
    rw [← hT1] at this
    exact this
  have HTS : Hid (∀ w9, Below w27.heap.size w27 w9 → Calls Try.prog 27 #[.agg #[.int .i64 pB, .slice aB lB.length cB, .slice bB qB.length dB], .slice vb u.length vd] w9 fun e w' => e = .returned (.bool T1) ∧ Below w9.heap.size w9 w') := Lib.hid fun w9 hb => by
    have := spec_IsTrivialMotion w9 _ (pB, lB, qB) ((FB.out.fr.below hb).is pB cB dB) _ u ((VB.out.below hb).is vd) hszB hvB
    rw [← hT1] at this
    exact this
  obtain ⟨zA, cA0, cA1, cA2, fA2⟩ := FA.out.bx
  obtain ⟨zB, cB0, cB1, cB2, fB2⟩ := FB.out.bx
  clear hX hM1 hT1 hszA hszB hszC hvA hvB
  have hXX : (X == X) = true := by simp
  cases T1
  · clear himp
    have hMM : (M1 == M1) = true := by simp
    have hOO : (ok == ok) = true := by simp
    go_wp2_with fail
    refine wp_region_wd (by kernel_rfl) (by kernel_rfl) ?_
    repeat (go_big_quiet_step ((first | (go_at_call 18; exact Calls.wd_of (HSI.out _ (Wd.h _))) | (go_at_call 11; exact Calls.wd_of (HMI.out _ (Wd.h _))) | (go_at_call 26; exact Calls.wd_of (HMS.out _ (Wd.h _))) | (go_at_call 12; exact Calls.wd_of (HTI.out _ (Wd.h _))) | (go_at_call 27; exact Calls.wd_of (HTS.out _ (Wd.h _))) | (go_at_call 25; exact Calls.wd_of (HCS.out _ (Wd.h _))) | (go_at_call 24; first | exact Calls.wd_of (HCI.out _ _ _ (Wd.h _) (.inl ⟨rfl, rfl⟩)) | exact Calls.wd_of (HCI.out _ _ _ (Wd.h _) (.inr ⟨rfl, rfl⟩))))))
    refine wpQuiet_nil ?_
    intro n1
    go_wp2_with fail
    first | exact BW.out.step n1.h | exact ⟨⟨rfl, rfl⟩, BW.out.step n1.h⟩
  · obtain rfl : M1 = true := himp rfl
    clear himp
    have hOO : (ok == ok) = true := by simp
    go_wp2_with fail
    refine wp_region_wd (by kernel_rfl) (by kernel_rfl) ?_
    repeat (go_big_quiet_step ((first | (go_at_call 18; exact Calls.wd_of (HSI.out _ (Wd.h _))) | (go_at_call 11; exact Calls.wd_of (HMI.out _ (Wd.h _))) | (go_at_call 26; exact Calls.wd_of (HMS.out _ (Wd.h _))) | (go_at_call 12; exact Calls.wd_of (HTI.out _ (Wd.h _))) | (go_at_call 27; exact Calls.wd_of (HTS.out _ (Wd.h _))) | (go_at_call 25; exact Calls.wd_of (HCS.out _ (Wd.h _))) | (go_at_call 24; first | exact Calls.wd_of (HCI.out _ _ _ (Wd.h _) (.inl ⟨rfl, rfl⟩)) | exact Calls.wd_of (HCI.out _ _ _ (Wd.h _) (.inr ⟨rfl, rfl⟩))))))
    refine wpQuiet_nil ?_
    intro n1
    go_wp2_with fail
    first | exact BW.out.step n1.h | exact ⟨⟨rfl, rfl⟩, BW.out.step n1.h⟩
set_option maxRecDepth 1000000 in
set_option maxHeartbeats 16000000 in
theorem walkMot20 (W wc : World) (Q : Exit → Act → World → Prop) (a0 : Option Addr) (cap0 : Nat) (x0 : List Int) (hx20 : x0.length ≤ 1048576) {u1 u2 u3 u4 u5 u6 u7 u8 u9 u10 u11 u12 u13 u14 u15 u16 u17 u18 u19 u20 u21 u22 u23 u24 u25 u26 u27 u28 u29 u30 u31 u32 u33 u34 u35 u36 u37 u38 u39 u40 u41 u42 u43 u44 u45 u46 u47 u48 u49 u50 u51 u52 u53 u54 u55 u56 u57 u58 u59 u60 u61 u62 u63 u64 u65 u66 u67 u68 u69 u70 u71 u72 u73 u74 u75 u76 u77 u78 u79 u80 u81 u82 u83 u84 u85 u86 u87 u88 u89 u90 u91 u92 u93 u94 u95 u96 u97 u98 u99 u100 u101 u102 u103 u104 u105 u106 u107 u108 u109 u110 u111 u112 u113 u114 u115 u116 u117 u118 u119 u120 u121 u122 u123 u124 u125 u126 u127 u128 u129 u130 u131 u132 u133 u134 u135 u136 u137 u138 u139 u140 u141 u142 u143 u144 u145 u146 u147 u148 u149 u150 u151 u152 u153 u154 u155 u156 u157 u158 u159 u160 u161 u162 u163 u164 u165 u166 u167 u168 u169 u170 u171 u172 u173 u174 u175 u176 u177 u178 u179 u180 u181 u182 u183 u184 u185 u186 u187 u188 u189 u190 u191 u192 u193 u194 u195 u196 u197 u198 u199 u200 u201 u202 u203 u204 u205 u206 u207 u208 u209 u210 u211 u212 u213 u214 u215 u216 u217 u218 u219 u220 u221 u222 u223 u224 u225 u226 u227 u228 u229 u230 u231 u232 u233 u234 u235 u236 u237 u238 u239 u240 u241 u242 u243 u244 u245 : Value} (hmu : MoU W wc a0 x0)
    (hexit : ∀ a' w', ((a'.tmps[2]? = some (.bool true) ∧ a'.defers = []) ∧ Below W.heap.size W w') → Q .ret a' w') : mot20.wp Try.prog Q ⟨List.toArray (.slice a0 x0.length cap0 :: u1 :: u2 :: u3 :: u4 :: u5 :: u6 :: u7 :: u8 :: u9 :: u10 :: u11 :: u12 :: u13 :: u14 :: u15 :: u16 :: u17 :: u18 :: u19 :: u20 :: u21 :: u22 :: u23 :: u24 :: u25 :: u26 :: u27 :: u28 :: u29 :: u30 :: u31 :: u32 :: u33 :: u34 :: u35 :: u36 :: u37 :: u38 :: u39 :: u40 :: u41 :: u42 :: u43 :: u44 :: u45 :: u46 :: u47 :: u48 :: u49 :: u50 :: u51 :: u52 :: u53 :: u54 :: u55 :: u56 :: u57 :: u58 :: u59 :: u60 :: u61 :: u62 :: u63 :: u64 :: u65 :: u66 :: u67 :: u68 :: u69 :: u70 :: u71 :: u72 :: u73 :: u74 :: u75 :: u76 :: u77 :: u78 :: u79 :: u80 :: u81 :: u82 :: u83 :: u84 :: u85 :: u86 :: u87 :: u88 :: u89 :: u90 :: u91 :: u92 :: u93 :: u94 :: u95 :: u96 :: u97 :: u98 :: u99 :: u100 :: u101 :: u102 :: u103 :: u104 :: u105 :: u106 :: u107 :: u108 :: u109 :: u110 :: u111 :: u112 :: u113 :: u114 :: u115 :: u116 :: u117 :: u118 :: u119 :: u120 :: u121 :: u122 :: u123 :: u124 :: u125 :: u126 :: u127 :: u128 :: u129 :: u130 :: u131 :: u132 :: u133 :: u134 :: u135 :: u136 :: u137 :: u138 :: u139 :: u140 :: u141 :: u142 :: u143 :: u144 :: u145 :: u146 :: u147 :: u148 :: u149 :: u150 :: u151 :: u152 :: u153 :: u154 :: u155 :: u156 :: u157 :: u158 :: u159 :: u160 :: u161 :: u162 :: u163 :: u164 :: u165 :: u166 :: u167 :: u168 :: u169 :: u170 :: u171 :: u172 :: u173 :: u174 :: u175 :: u176 :: u177 :: u178 :: u179 :: u180 :: u181 :: u182 :: u183 :: u184 :: u185 :: u186 :: u187 :: u188 :: u189 :: u190 :: u191 :: u192 :: u193 :: u194 :: u195 :: u196 :: u197 :: u198 :: u199 :: u200 :: u201 :: u202 :: u203 :: u204 :: u205 :: u206 :: u207 :: u208 :: u209 :: u210 :: u211 :: u212 :: u213 :: u214 :: u215 :: u216 :: u217 :: u218 :: u219 :: u220 :: u221 :: u222 :: u223 :: u224 :: u225 :: u226 :: u227 :: u228 :: u229 :: u230 :: u231 :: u232 :: u233 :: u234 :: u235 :: u236 :: u237 :: u238 :: u239 :: u240 :: u241 :: u242 :: u243 :: u244 :: u245 :: []), []⟩ wc := by
  have hwd := @Wd.cells
  have MU := Lib.hid hmu
  clear hmu
  conv => arg 2; whnf
  have HX := Lib.hid hexit
  clear hexit
  go_wp2_with fail
  refine (drawFix_at wc a0 x0.length cap0 x0 MU.out.2 hx20).mono ?_
  rintro e w10 ⟨p8, a8, c8, b8, d8, l8, q8, va, vc, v, i0, rfl, fr8, fv8, hsm8, b10⟩
  have ba := belAl w10 (.cells #[.int .i64 p8, .slice a8 l8.length c8, .slice b8 q8.length d8] 29)
  obtain ⟨g8, hg8⟩ : ∃ q, q = w10.heap.size := ⟨_, rfl⟩
  have FW : Hid (FwS (w10.alloc (.cells #[.int .i64 p8, .slice a8 l8.length c8, .slice b8 q8.length d8] 29)) g8 p8 a8 c8 b8 d8 l8 q8) := Lib.hid ⟨by rw [hg8]; exact BxF.at .., (fr8.below ba).low (Nat.zero_le _)⟩
  have FV := Lib.hid ((fv8.below ba).low (Nat.zero_le _))
  replace MU := Lib.hid ((MU.out.below b10).below ba)
  have hsz : szFw (p8, l8, q8) ≤ 1048576 := by show l8.length + q8.length ≤ 1048576; omega
  have hvl := hsm8.2.1
  have HSV := Lib.hid hsm8.2.2
  clear fr8 fv8 b10 ba hsm8
  go_wp2_with fail
  rw [← hg8]
  generalize (w10.alloc (.cells #[.int .i64 p8, .slice a8 l8.length c8, .slice b8 q8.length d8] 29)) = w11 at *
  clear hg8
  obtain ⟨zB, cB0, cB1, cB2, fB2⟩ := FW.out.bx
  go_wp2_with fail
  clear zB cB0 cB1 cB2 fB2
  refine (impl_FixMotion w11 _ (p8, l8, q8) (FW.out.fr.is p8 c8 d8) (.slice va v.length vc) v (FV.out.is vc) i0 hsz hvl).mono ?_
  rintro e w12 ⟨vx, rfl, ox, b12⟩
  obtain ⟨ok, hok0⟩ : ∃ q, q = fixOk (p8, l8, q8) v i0 := ⟨_, rfl⟩
  obtain ⟨Y, hY⟩ : ∃ q, q = fixF (p8, l8, q8) v i0 := ⟨_, rfl⟩
  rw [← hY] at ox
  try rw [← hok0]
  have HOK := Lib.hid hok0
  have HY := Lib.hid hY
  have OX := Lib.hid ox
  replace FW := Lib.hid (FW.out.below b12)
  replace FV := Lib.hid (FV.out.below b12)
  replace MU := Lib.hid (MU.out.below b12)
  clear hok0 hY ox b12
  obtain ⟨zB, cB0, cB1, cB2, fB2⟩ := FW.out.bx
  go_wp2_with fail
  clear zB cB0 cB1 cB2 fB2
  refine (spec_FixMotion w12 _ (p8, l8, q8) (FW.out.fr.is p8 c8 d8) (.slice va v.length vc) v (FV.out.is vc) i0 hsz hvl).mono ?_
  rintro e w13 ⟨vy, rfl, oy, b13⟩
  rw [← HY.out] at oy
  try rw [← HOK.out]
  have OY := Lib.hid oy
  replace OX := Lib.hid (OX.out.below b13)
  replace FW := Lib.hid (FW.out.below b13)
  replace FV := Lib.hid (FV.out.below b13)
  replace MU := Lib.hid (MU.out.below b13)
  clear oy b13
  have hYl : Y.length ≤ 1048576 := by rw [HY.out]; exact Nat.le_trans (fixF_len _ _ _) (by decide)
  obtain ⟨ax, cx, rfl, ix⟩ := OX.out.form
  obtain ⟨ay, cy, rfl, iy⟩ := OY.out.form
  have HSI : Hid (∀ w9, Below w13.heap.size w13 w9 → Calls Try.prog 18 #[.slice ax Y.length cx, .slice ay Y.length cy] w9 fun e w' => e = .returned (.bool true) ∧ Below w9.heap.size w9 w') := Lib.hid fun w9 hb => (sameInts_eq ax ay Y.length cx cy Y w9 (ix.below hb) (iy.below hb) (by omega)).mono fun e w' ⟨h1, m, h2⟩ => ⟨h1, by rw [h2]; exact below_drewN (Below.refl _ _) m⟩
  clear ix iy
  go_upto_region 23 with (fail)
  go_cut [158] from 115 to 158 (fun s wx => s = .bool false ∧ MoU W wx a0 x0)
  case first =>
    obtain ⟨zB, cB0, cB1, cB2, fB2⟩ := FW.out.bx
    cases ok
    · refine wp_region_wd (by kernel_rfl) (by kernel_rfl) ?_
      repeat (go_big_quiet_step ((first | (go_at_call 18; exact Calls.wd_of (HSI.out _ (Wd.h _))))))
      refine wpQuiet_nil ?_
      intro n1
      go_wp2_with fail
      go_meet
      exact ⟨rfl, MU.out.below n1.h⟩
    · obtain ⟨hm, hz1, hz2, htr, hlen, ha0, hap⟩ := fix_law HOK.out.symm HSV.out
      rw [← HY.out] at hm hz1 hz2 htr hlen
      dsimp only at hlen hap
      obtain ⟨k, rfl⟩ : ∃ k : Nat, i0 = k := ⟨i0.toNat, by omega⟩
      rw [Int.toNat_natCast] at hz1 hz2
      obtain ⟨m1, hm1⟩ : ∃ m : Nat, m = 2 * k := ⟨_, rfl⟩
      obtain ⟨m2, hm2⟩ : ∃ m : Nat, m = 2 * k + 1 := ⟨_, rfl⟩
      have hm1Y : m1 < Y.length := by omega
      have hm2Y : m2 < Y.length := by omega
      obtain ⟨b, d2, e2, hd1, hd2, hbk, hbk2⟩ := rowBlk OY.out (by omega)
      simp at e2
      obtain ⟨rfl, rfl⟩ := e2
      have cY1 : w13.cell? ⟨b, m1, none⟩ = some (.int .i64 0) := OY.out.cellAt (by rw [List.getElem?_eq_getElem hm1Y]; unfold vN at hz1; rw [← hm1, List.getElem?_eq_getElem hm1Y, Option.getD_some] at hz1; rw [hz1])
      have cY2 : w13.cell? ⟨b, m2, none⟩ = some (.int .i64 0) := OY.out.cellAt (by rw [List.getElem?_eq_getElem hm2Y]; unfold vN at hz2; rw [← hm2, List.getElem?_eq_getElem hm2Y, Option.getD_some] at hz2; rw [hz2])
      have HSM : Hid (∀ w9, Below w13.heap.size w13 w9 → Calls Try.prog 11 #[.agg #[.int .i64 p8, .slice a8 l8.length c8, .slice b8 q8.length d8], .slice (some ⟨b, 0, none⟩) Y.length cy] w9 fun e w' => e = .returned (.bool true) ∧ Below w9.heap.size w9 w') := Lib.hid fun w9 hb => by
        have := impl_IsMotion w9 _ (p8, l8, q8) ((FW.out.fr.below hb).is p8 c8 d8) _ Y (OY.out.below hb).form hsz hYl
        rw [hm] at this
        exact this
      obtain ⟨T, hT⟩ : ∃ T, T = trivB (p8, l8, q8) v := ⟨_, rfl⟩
      have HST : Hid (∀ w9 u, Below w13.heap.size w13 w9 → (u = .slice (some ⟨b, 0, none⟩) Y.length cy ∨ u = .slice va v.length vc) → Calls Try.prog 12 #[.agg #[.int .i64 p8, .slice a8 l8.length c8, .slice b8 q8.length d8], u] w9 fun e w' => e = .returned (.bool T) ∧ Below w9.heap.size w9 w') := Lib.hid fun w9 u hb hu => by
        rcases hu with rfl | rfl
        · have := impl_IsTrivialMotion w9 _ (p8, l8, q8) ((FW.out.fr.below hb).is p8 c8 d8) _ Y (OY.out.below hb).form hsz hYl
          rw [htr, ← hT] at this
          exact this
        · have := impl_IsTrivialMotion w9 _ (p8, l8, q8) ((FW.out.fr.below hb).is p8 c8 d8) _ v ((FV.out.below hb).is vc) hsz hvl
          rw [← hT] at this
          exact this
      have hi1 : 2 * (k : Int) = (m1 : Int) := by omega
      have hi2 : (m1 : Int) + 1 = (m2 : Int) := by omega
      have hw1 := IntWalk.i64_in (m1 : Int) (by omega)
      have hw2 := IntWalk.i64_in (m2 : Int) (by omega)
      have hj1 : (m1 : Int) < (Y.length : Int) := by omega
      have hj2 : (m2 : Int) < (Y.length : Int) := by omega
      have hj3 : (0 : Int) ≤ (m1 : Int) := by omega
      have hj4 : (0 : Int) ≤ (m2 : Int) := by omega
      clear hm hz1 hz2 htr hlen ha0 hap hm1 hm2 hT hd1 hd2 hbk
      refine wp_region_wd (by kernel_rfl) (by kernel_rfl) ?_
      repeat (go_big_quiet_step ((first | (go_at_call 18; exact Calls.wd_of (HSI.out _ (Wd.h _))) | (go_at_call 11; exact Calls.wd_of (HSM.out _ (Wd.h _))) | (go_at_call 12; first | exact Calls.wd_of (HST.out _ _ (Wd.h _) (.inl rfl)) | exact Calls.wd_of (HST.out _ _ (Wd.h _) (.inr rfl))))))
      refine wpQuiet_nil ?_
      intro n1
      go_wp2_with fail
      go_meet
      exact ⟨rfl, MU.out.below n1.h⟩
  case rest =>
    clear FW FV OX OY HSI HOK HY HSV hYl hsz hvl MU
    obtain ⟨rfl, mu⟩ := hcut
    have MU := Lib.hid mu
    clear mu
    rename_i K1 h1 K0 h0
    refine h0 _ _ ?_
    have H1 := Lib.hid h1
    clear h1 h0
    go_wp2_with fail
    refine H1.out _ _ ?_
    exact walkMot25 W wc _ a0 cap0 x0 hx20 MU.out HX.out
set_option maxHeartbeats 16000000 in
theorem walkFnMotions (W : World) (v0 : Value) (x0 : List Int) (r0 : IsBytes W v0 x0) (ok0 : OkBytes x0) :
    Calls Try.prog 3 #[v0] W fun e w' => e = .returned (.bool true) ∧ Below W.heap.size W w' := by
  obtain ⟨a0, cap0, rfl, hB⟩ := r0
  have hwd := @Wd.cells
  by_cases hbig : (1048576 : Int) < (x0.length : Int)
  · go_enter Try.func3, Try.ntmps3
    go_wp2_with fail
    refine (big_at W a0 x0.length cap0).mono ?_
    rintro e w1 ⟨rfl, e1⟩
    obtain rfl : W = w1 := e1.symm
    rw [decide_eq_true hbig]
    go_wp2_with fail
    go_ret
    exact ⟨rfl, Below.refl _ _⟩
  have HB := Lib.hid hB
  clear hB
  have hx20 : x0.length ≤ 1048576 := by omega
  go_enter Try.func3, Try.ntmps3
  go_wp2_with fail
  refine (big_at W a0 x0.length cap0).mono ?_
  rintro e w1 ⟨rfl, e1⟩
  obtain rfl : W = w1 := e1.symm
  clear e1
  rw [decide_eq_false (show ¬ (1048576 : Int) < (x0.length : Int) by omega)]
  clear hbig
  go_wp2_with fail
  refine (drawMot_at W a0 x0.length cap0 x0 HB.out hx20).mono ?_
  rintro e w1 ⟨p, a, c, b, d, bs, ps, rfl, fr, hsm, b1⟩
  have ba := belAl w1 (.cells #[.int .i64 p, .slice a bs.length c, .slice b ps.length d] 29)
  obtain ⟨g3, hg3⟩ : ∃ q, q = w1.heap.size := ⟨_, rfl⟩
  have FW : Hid (FwS (w1.alloc (.cells #[.int .i64 p, .slice a bs.length c, .slice b ps.length d] 29)) g3 p a c b d bs ps) := Lib.hid ⟨by rw [hg3]; exact BxF.at .., (fr.below ba).low (Nat.zero_le _)⟩
  have BW := Lib.hid (b1.step ba)
  have HB1 := Lib.hid ((HB.out.below b1).below ba)
  have hsz : szFw (p, bs, ps) ≤ 1048576 := by show bs.length + ps.length ≤ 1048576; omega
  clear fr b1 ba HB
  go_wp2_with fail
  rw [← hg3]
  generalize (w1.alloc (.cells #[.int .i64 p, .slice a bs.length c, .slice b ps.length d] 29)) = w2 at *
  clear hg3
  obtain ⟨zB, cB0, cB1, cB2, fB2⟩ := FW.out.bx
  go_wp2_with fail
  clear zB cB0 cB1 cB2 fB2
  refine (impl_MotionsOf w2 _ (p, bs, ps) (FW.out.fr.is p c d) hsz).mono ?_
  rintro e w3 ⟨v3, rfl, o3, b3⟩
  obtain ⟨am, cm, rfl, i3⟩ := o3.form
  have IM := Lib.hid i3
  replace FW := Lib.hid (FW.out.below b3)
  replace BW := Lib.hid (BW.out.step b3)
  replace HB1 := Lib.hid (HB1.out.below b3)
  clear o3 i3 b3
  obtain ⟨zB, cB0, cB1, cB2, fB2⟩ := FW.out.bx
  go_wp2_with fail
  clear zB cB0 cB1 cB2 fB2
  refine (impl_PlaneMotions w3 _ (p, bs, ps) (FW.out.fr.is p c d) hsz).mono ?_
  rintro e w4 ⟨v4, rfl, o4, b4⟩
  obtain ⟨ap, cp, rfl, i4⟩ := o4.form
  obtain ⟨M, hM⟩ : ∃ M, M = motL (p, bs, ps) := ⟨_, rfl⟩
  obtain ⟨Q, hQ⟩ : ∃ Q, Q = plmL (p, bs, ps) := ⟨_, rfl⟩
  have hml : M.length ≤ 16 := by rw [hM]; exact motL_le _
  have hql : Q.length ≤ 1048576 := by have := plR_sz (p, bs, ps); unfold szIntss at this; rw [hQ]; omega
  have HMs : Hid (∀ r ∈ M, r.length ≤ 17592186044416 ∧ r.length ≤ 1048576 ∧ motB (p, bs, ps) r = true) := Lib.hid fun r hr => by
    rw [hM] at hr
    have := (motL_bd hr).1
    exact ⟨by omega, this, (mot_null hr).1⟩
  have HQs : Hid (∀ r ∈ Q, r.length ≤ 17592186044416 ∧ r.length ≤ 1048576 ∧ motB (p, bs, ps) r = true ∧ trivB (p, bs, ps) r = true) := Lib.hid fun r hr => by
    rw [hQ] at hr
    have := (plmL_bd hr).1
    exact ⟨by omega, this, plm_mot hr⟩
  rw [← hM] at IM
  rw [← hQ] at i4
  have MS : Hid (MoT W w4 a0 x0 g3 p a c b d bs ps am M ap Q) := Lib.hid ⟨BW.out.step b4, HB1.out.below b4, FW.out.below b4, IM.out.below b4, i4⟩
  have HMe := Lib.hid hM
  have HQe := Lib.hid hQ
  try rw [← hM]
  try rw [← hQ]
  clear o4 i4 b4 FW BW HB1 IM hM hQ
  obtain ⟨zB, cB0, cB1, cB2, fB2⟩ := MS.out.fw.bx
  go_wp2_with fail
  clear zB cB0 cB1 cB2 fB2
  refine (spec_MotionsOf w4 _ (p, bs, ps) (MS.out.fw.fr.is p c d) hsz).mono ?_
  rintro e w5 ⟨v5, rfl, o5, b5⟩
  rw [← HMe.out] at o5
  obtain ⟨a5, c5, rfl, i5⟩ := o5.form
  have I5 := Lib.hid i5
  replace MS := Lib.hid (MS.out.below b5)
  clear b5 o5 i5
  try rw [← HMe.out]
  go_wp2_with fail
  refine (sameSets_eq am a5 M.length cm c5 M w5 MS.out.hM I5.out (by omega) fun r hr => (HMs.out r hr).1).mono ?_
  rintro e w6 ⟨rfl, b6⟩
  replace MS := Lib.hid (MS.out.below b6)
  clear I5 b6
  obtain ⟨zB, cB0, cB1, cB2, fB2⟩ := MS.out.fw.bx
  go_wp2_with fail
  clear zB cB0 cB1 cB2 fB2
  refine (spec_PlaneMotions w6 _ (p, bs, ps) (MS.out.fw.fr.is p c d) hsz).mono ?_
  rintro e w7 ⟨v7, rfl, o7, b7⟩
  rw [← HQe.out] at o7
  obtain ⟨a7, c7, rfl, i7⟩ := o7.form
  have I7 := Lib.hid i7
  replace MS := Lib.hid (MS.out.below b7)
  clear b7 o7 i7
  try rw [← HQe.out]
  go_wp2_with fail
  refine (sameSets_eq ap a7 Q.length cp c7 Q w7 MS.out.hQ I7.out (by omega) fun r hr => (HQs.out r hr).1).mono ?_
  rintro e w8 ⟨rfl, b8⟩
  replace MS := Lib.hid (MS.out.below b8)
  clear I7 b8
  go_wp2_with fail
  obtain ⟨wq, hwq⟩ : ∃ w9, w9 = w8 := ⟨_, rfl⟩
  subst hwq
  go_loopw [6] (fun i w9 => ∃ k : Nat, k ≤ M.length ∧ i = .int .i64 k ∧ MoT W w9 a0 x0 g3 p a c b d bs ps am M ap Q) (fun i _ => M.length - (intOf i).toNat)
  case atStart => exact ⟨0, Nat.zero_le _, rfl, MS.out⟩
  case round =>
    clear MS
    obtain ⟨k, hk, rfl, ms⟩ := hrel
    have MS := Lib.hid ms
    clear ms
    by_cases hlt : k < M.length
    · obtain ⟨bN, oN, ar, cr, r, rfl, hbN, hr, hcN, hir⟩ := MS.out.hM.2 k hlt
      have hrr := HMs.out r (List.mem_of_getElem? hr)
      obtain ⟨zB, cB0, cB1, cB2, fB2⟩ := MS.out.fw.bx
      have HS : Hid (∀ w9, Below wr.heap.size wr w9 → Calls Try.prog 11 #[.agg #[.int .i64 p, .slice a bs.length c, .slice b ps.length d], .slice ar r.length cr] w9 fun e w' => e = .returned (.bool true) ∧ Below w9.heap.size w9 w') := Lib.hid fun w9 hb => by
        have := impl_IsMotion w9 _ (p, bs, ps) ((MS.out.fw.fr.below hb).is p c d) (.slice ar r.length cr) r ⟨ar, cr, rfl, hir.below hb⟩ hsz hrr.2.1
        rw [hrr.2.2] at this
        exact this
      have hki : (k : Int) < (M.length : Int) := by omega
      have hk0 : (0 : Int) ≤ (k : Int) := by omega
      clear hr hir hrr
      go_wp2_with fail
      refine wp_region_wd (by kernel_rfl) (by kernel_rfl) ?_
      repeat (go_big_quiet_step ((first | (go_at_call 11; exact Calls.wd_of (HS.out _ (Wd.h _))))))
      refine wpQuiet_nil ?_
      intro n1
      have M1 := MS.out.below n1.h
      clear zB cB0 cB1 cB2 fB2 hcN hbN
      go_wp2_with fail
      go_roundw
      case rel => exact ⟨k + 1, by omega, by go_num, M1⟩
      case measure => simp [intOf]; omega
    · obtain rfl : k = M.length := by omega
      go_wp2_with fail
      obtain ⟨wq, hwq⟩ : ∃ w9, w9 = wr := ⟨_, rfl⟩
      subst hwq
      go_loopw [7] (fun i w9 => ∃ k : Nat, k ≤ Q.length ∧ i = .int .i64 k ∧ MoT W w9 a0 x0 g3 p a c b d bs ps am M ap Q) (fun i _ => Q.length - (intOf i).toNat)
      case atStart => exact ⟨0, Nat.zero_le _, rfl, MS.out⟩
      case round =>
        clear MS hk
        obtain ⟨k, hk, rfl, ms⟩ := hrel
        have MS := Lib.hid ms
        clear ms
        by_cases hlt : k < Q.length
        · obtain ⟨bN, oN, ar, cr, r, rfl, hbN, hr, hcN, hir⟩ := MS.out.hQ.2 k hlt
          have hrr := HQs.out r (List.mem_of_getElem? hr)
          obtain ⟨zB, cB0, cB1, cB2, fB2⟩ := MS.out.fw.bx
          have HS : Hid (∀ w9, Below wr.heap.size wr w9 → Calls Try.prog 11 #[.agg #[.int .i64 p, .slice a bs.length c, .slice b ps.length d], .slice ar r.length cr] w9 fun e w' => e = .returned (.bool true) ∧ Below w9.heap.size w9 w') := Lib.hid fun w9 hb => by
            have := impl_IsMotion w9 _ (p, bs, ps) ((MS.out.fw.fr.below hb).is p c d) (.slice ar r.length cr) r ⟨ar, cr, rfl, hir.below hb⟩ hsz hrr.2.1
            rw [hrr.2.2.1] at this
            exact this
          have HT : Hid (∀ w9, Below wr.heap.size wr w9 → Calls Try.prog 12 #[.agg #[.int .i64 p, .slice a bs.length c, .slice b ps.length d], .slice ar r.length cr] w9 fun e w' => e = .returned (.bool true) ∧ Below w9.heap.size w9 w') := Lib.hid fun w9 hb => by
            have := impl_IsTrivialMotion w9 _ (p, bs, ps) ((MS.out.fw.fr.below hb).is p c d) (.slice ar r.length cr) r ⟨ar, cr, rfl, hir.below hb⟩ hsz hrr.2.1
            rw [hrr.2.2.2] at this
            exact this
          have hki : (k : Int) < (Q.length : Int) := by omega
          have hk0 : (0 : Int) ≤ (k : Int) := by omega
          clear hr hir hrr
          go_wp2_with fail
          refine wp_region_wd (by kernel_rfl) (by kernel_rfl) ?_
          repeat (go_big_quiet_step ((first | (go_at_call 11; exact Calls.wd_of (HS.out _ (Wd.h _))) | (go_at_call 12; exact Calls.wd_of (HT.out _ (Wd.h _))))))
          refine wpQuiet_nil ?_
          intro n1
          have M1 := MS.out.below n1.h
          clear zB cB0 cB1 cB2 fB2 hcN hbN
          go_wp2_with fail
          go_roundw
          case rel => exact ⟨k + 1, by omega, by go_num, M1⟩
          case measure => simp [intOf]; omega
        · obtain rfl : k = Q.length := by omega
          clear hk hlt
          go_upto_region 18 with (fail)
          go_cut [94] (fun s wx => s = .bool false ∧ MoU W wx a0 x0)
          case first =>
            obtain ⟨zB, cB0, cB1, cB2, fB2⟩ := MS.out.fw.bx
            have HF : Hid (∀ w9, Below wr.heap.size wr w9 → Calls Try.prog 13 #[.agg #[.int .i64 p, .slice a bs.length c, .slice b ps.length d]] w9 fun e w' => e = .returned (.bool (isFwB (p, bs, ps))) ∧ Below w9.heap.size w9 w') := Lib.hid fun w9 hb => spec_IsFramework w9 _ (p, bs, ps) ((MS.out.fw.fr.below hb).is p c d) hsz
            have HR : Hid (∀ w9, Below wr.heap.size wr w9 → Calls Try.prog 14 #[.agg #[.int .i64 p, .slice a bs.length c, .slice b ps.length d]] w9 fun e w' => e = .returned (.int .i64 (frkF (p, bs, ps))) ∧ Below w9.heap.size w9 w') := Lib.hid fun w9 hb => spec_FrameworkRank w9 _ (p, bs, ps) ((MS.out.fw.fr.below hb).is p c d) hsz
            cases hf : isFwB (p, bs, ps)
            · rw [hf] at HF
              clear hf HR
              refine wp_region_wd (by kernel_rfl) (by kernel_rfl) ?_
              repeat (go_big_quiet_step ((first | (go_at_call 13; exact Calls.wd_of (HF.out _ (Wd.h _))))))
              refine wpQuiet_nil ?_
              intro n1
              go_wp2_with fail
              go_meet
              exact ⟨rfl, MS.out.bl.step n1.h, MS.out.hB.below n1.h⟩
            · rw [hf] at HF
              have hcnt := mot_cnt hf
              have hp6 := (isFw_facts hf).1
              rw [← HMe.out] at hcnt
              dsimp only at hcnt
              obtain ⟨R, hR⟩ : ∃ R, R = frkF (p, bs, ps) := ⟨_, rfl⟩
              rw [← hR] at HR hcnt
              have hw1 := IntWalk.i64_in ((M.length : Int) + R) (by omega)
              have hw2 := IntWalk.i64_in (2 * p) (by omega)
              have hne : ((M.length : Int) + R != 2 * p) = false := by simpa using hcnt
              clear hf hcnt hR hp6
              refine wp_region_wd (by kernel_rfl) (by kernel_rfl) ?_
              repeat (go_big_quiet_step ((first | (go_at_call 13; exact Calls.wd_of (HF.out _ (Wd.h _))) | (go_at_call 14; exact Calls.wd_of (HR.out _ (Wd.h _))))))
              refine wpQuiet_nil ?_
              intro n1
              go_wp2_with fail
              go_meet
              exact ⟨rfl, MS.out.bl.step n1.h, MS.out.hB.below n1.h⟩
          case rest =>
            clear MS HMs HQs HMe HQe hml hql hsz hsm
            obtain ⟨rfl, mu⟩ := hcut
            have MU := Lib.hid mu
            clear mu
            rename_i K1 h1 K0 h0
            refine h0 _ _ ?_
            have H1 := Lib.hid h1
            clear h1 h0
            go_wp2_with fail
            refine H1.out _ _ ?_
            refine walkMot20 W wc _ a0 cap0 x0 hx20 MU.out ?_
            rintro a9 w9 ⟨⟨h2, h3⟩, hb⟩
            refine bodyPost_ret (v := .bool true) (by simp [results, Try.results3, go_sem, h2]) h3 ?_
            exact ⟨rfl, hb⟩
end Go.Proofs.Ytfbmpkdjhhcnpaa

