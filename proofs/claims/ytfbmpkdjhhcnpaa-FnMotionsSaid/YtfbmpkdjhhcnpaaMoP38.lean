/- What FnMotions draws: DrawMotionsOf, DrawFindMotion, DrawFixMotion, DrawChangeOf, DrawIsTrivialMotion of the reference. No condition but sizes. -/
import Derived.Test.YtfbmpkdjhhcnpaaMoP37
namespace Go.Proofs.Ytfbmpkdjhhcnpaa
open Go.RowKit
set_option maxRecDepth 100000
set_option linter.unusedVariables false
set_option linter.unusedSimpArgs false
/-- a framework that is drawn -/
def RetFo (W : World) (e : Ending) (w' : World) : Prop :=
  ∃ p a c b d bs ps, e = .returned (.agg #[.int .i64 p, .slice a bs.length c, .slice b ps.length d]) ∧ FrFw w' W.heap.size a bs b ps ∧ (bs.length ≤ 24 ∧ ps.length ≤ 6) ∧ Below W.heap.size W w'
theorem layO {W w' : World} {p : Int} {a b : Option Addr} {c d lo : Nat} {bs : List BarT} {ps : List PlaceT} (hb : Below W.heap.size W w') (ho : FrFw w' lo a bs b ps) (hlo : W.heap.size < lo) :
    FrFw (((w'.setCell ⟨W.heap.size, 0, none⟩ (.int .i64 p)).setCell ⟨W.heap.size, 1, none⟩ (.slice a bs.length c)).setCell ⟨W.heap.size, 2, none⟩ (.slice b ps.length d)) W.heap.size a bs b ps ∧ Below W.heap.size W (((w'.setCell ⟨W.heap.size, 0, none⟩ (.int .i64 p)).setCell ⟨W.heap.size, 1, none⟩ (.slice a bs.length c)).setCell ⟨W.heap.size, 2, none⟩ (.slice b ps.length d)) :=
  ⟨(((ho.set hlo).set hlo).set hlo).low (by omega), ((hb.setCell (p := ⟨W.heap.size, 0, none⟩) (Nat.le_refl _) _).setCell (p := ⟨W.heap.size, 1, none⟩) (Nat.le_refl _) _).setCell (p := ⟨W.heap.size, 2, none⟩) (Nat.le_refl _) _⟩
set_option maxHeartbeats 4000000 in
theorem drawMot_at (W : World) (ca : Option Addr) (n cap : Nat) (l : List Int) (hB : BytesAt W ca n l) (hn : n ≤ 1048576) : Calls Try.prog 5 #[.slice ca n cap] W (RetFo W) := by
  have ba := belAl W (.cells #[.int .i64 0, .slice none 0 0, .slice none 0 0] 29)
  have Z := Lib.hid (Zer3d.at W 29)
  have hBu := BytesAt.below hB ba
  have hzu : (W.alloc (.cells #[.int .i64 0, .slice none 0 0, .slice none 0 0] 29)).heap.size = W.heap.size + 1 := by simp
  have BA := Lib.hid ba
  clear hB ba
  go_enter Try.func5, Try.ntmps5
  go_wp2_with fail
  generalize (W.alloc (.cells #[.int .i64 0, .slice none 0 0, .slice none 0 0] 29)) = u at *
  have HN := Lib.hid (l1New_at u ca n cap l hBu hn)
  have HA : Hid (∀ w9 g, Drw u w9 g ca n cap l → Calls Try.prog 28 #[.pointer (some ⟨g, 0, none⟩)] w9 (RetDa u w9 g ca n cap l)) := Lib.hid fun w9 g h9 => l10Any_at u w9 g ca n cap l hBu (by omega) h9
  have hzu1 : W.heap.size < u.heap.size := by omega
  clear hBu hzu
  refine HN.out.mono ?_
  rintro e w1 ⟨g, rfl, d1⟩
  have D := Lib.hid d1
  have hz1 := d1.bel.size
  have hg0 := d1.low
  have B := Lib.hid (BA.out.step d1.bel)
  replace Z := Lib.hid (Z.out.kept (Kept.of_below (S := fun _ => False) d1.bel) id)
  clear d1 HN BA
  go_wp2_with fail
  refine (HA.out w1 g D.out).mono ?_
  rintro e w2 ⟨p, a, c, b, d, bs, ps, rfl, fr, hsm, d2, k2⟩
  have HL := Lib.hid (layO (p := p) (c := c) (d := d) (B.out.trans (k2.below B.out.size fun k h1 h2 => by omega)) (fr.low hz1) hzu1)
  have Z2 := Lib.hid (Z.out.kept k2 (by omega))
  obtain ⟨⟨z1, z2, z3, c0, c1, c2⟩, ⟨f0, f1, f2⟩, gz⟩ := Z2.out
  clear fr d2 k2 D B Z HA
  go_wp2_with fail
  refine bodyPost_ret (v := .agg #[.int .i64 p, .slice a bs.length c, .slice b ps.length d]) (by simp [results, Try.results5, go_sem, gz, c0, c1, c2]) rfl ?_
  exact ⟨p, a, c, b, d, bs, ps, rfl, HL.out.1, hsm, HL.out.2⟩
set_option maxHeartbeats 4000000 in
theorem drawFnd_at (W : World) (ca : Option Addr) (n cap : Nat) (l : List Int) (hB : BytesAt W ca n l) (hn : n ≤ 1048576) : Calls Try.prog 21 #[.slice ca n cap] W (RetFo W) := by
  have ba := belAl W (.cells #[.int .i64 0, .slice none 0 0, .slice none 0 0] 29)
  have Z := Lib.hid (Zer3d.at W 29)
  have hBu := BytesAt.below hB ba
  have hzu : (W.alloc (.cells #[.int .i64 0, .slice none 0 0, .slice none 0 0] 29)).heap.size = W.heap.size + 1 := by simp
  have BA := Lib.hid ba
  clear hB ba
  go_enter Try.func21, Try.ntmps21
  go_wp2_with fail
  generalize (W.alloc (.cells #[.int .i64 0, .slice none 0 0, .slice none 0 0] 29)) = u at *
  have HN := Lib.hid (l1New_at u ca n cap l hBu hn)
  have HA : Hid (∀ w9 g, Drw u w9 g ca n cap l → Calls Try.prog 28 #[.pointer (some ⟨g, 0, none⟩)] w9 (RetDa u w9 g ca n cap l)) := Lib.hid fun w9 g h9 => l10Any_at u w9 g ca n cap l hBu (by omega) h9
  have hzu1 : W.heap.size < u.heap.size := by omega
  clear hBu hzu
  refine HN.out.mono ?_
  rintro e w1 ⟨g, rfl, d1⟩
  have D := Lib.hid d1
  have hz1 := d1.bel.size
  have hg0 := d1.low
  have B := Lib.hid (BA.out.step d1.bel)
  replace Z := Lib.hid (Z.out.kept (Kept.of_below (S := fun _ => False) d1.bel) id)
  clear d1 HN BA
  go_wp2_with fail
  refine (HA.out w1 g D.out).mono ?_
  rintro e w2 ⟨p, a, c, b, d, bs, ps, rfl, fr, hsm, d2, k2⟩
  have HL := Lib.hid (layO (p := p) (c := c) (d := d) (B.out.trans (k2.below B.out.size fun k h1 h2 => by omega)) (fr.low hz1) hzu1)
  have Z2 := Lib.hid (Z.out.kept k2 (by omega))
  obtain ⟨⟨z1, z2, z3, c0, c1, c2⟩, ⟨f0, f1, f2⟩, gz⟩ := Z2.out
  clear fr d2 k2 D B Z HA
  go_wp2_with fail
  refine bodyPost_ret (v := .agg #[.int .i64 p, .slice a bs.length c, .slice b ps.length d]) (by simp [results, Try.results21, go_sem, gz, c0, c1, c2]) rfl ?_
  exact ⟨p, a, c, b, d, bs, ps, rfl, HL.out.1, hsm, HL.out.2⟩
set_option maxHeartbeats 4000000 in
theorem drawTri_at (W : World) (ca : Option Addr) (n cap : Nat) (l : List Int) (hB : BytesAt W ca n l) (hn : n ≤ 1048576) : Calls Try.prog 20 #[.slice ca n cap] W (RetFv W) := by
  have ba := belAl W (.cells #[.int .i64 0, .slice none 0 0, .slice none 0 0] 29)
  have Z := Lib.hid (Zer3d.at W 29)
  have hBu := BytesAt.below hB ba
  have hzu : (W.alloc (.cells #[.int .i64 0, .slice none 0 0, .slice none 0 0] 29)).heap.size = W.heap.size + 1 := by simp
  have BA := Lib.hid ba
  clear hB ba
  go_enter Try.func20, Try.ntmps20
  go_wp2_with fail
  generalize (W.alloc (.cells #[.int .i64 0, .slice none 0 0, .slice none 0 0] 29)) = u at *
  have hzu1 : W.heap.size < u.heap.size := by omega
  clear hzu
  refine (l12Draw_at u ca n cap l hBu hn).mono ?_
  rintro e w2 ⟨p, a, c, b, d, bs, ps, va, vc, v, rfl, fr, fv, hsm, b2⟩
  have ba := belAl w2 (.cells #[.int .i64 p, .slice a bs.length c, .slice b ps.length d] 29)
  have BX := Lib.hid (BxF.at w2 p a bs.length c b ps.length d 29)
  have HL := Lib.hid (layO (p := p) (c := c) (d := d) ((BA.out.step b2).step ba) (fr.below ba) hzu1)
  have HV := Lib.hid ((((fv.below ba).set (i := 0) (x := .int .i64 p) hzu1).set (i := 1) (x := .slice a bs.length c) hzu1).set (i := 2) (x := .slice b ps.length d) hzu1)
  have Z2 := Lib.hid ((Z.out.kept (Kept.of_below (S := fun _ => False) b2) id).kept (Kept.of_below (S := fun _ => False) ba) id)
  have HSM := Lib.hid hsm
  obtain ⟨⟨z1, z2, z3, c0, c1, c2⟩, ⟨f0, f1, f2⟩, gz⟩ := Z2.out
  obtain ⟨zB, cB0, cB1, cB2, fB2⟩ := BX.out
  clear fr fv b2 ba Z BA hBu hsm
  go_wp2_with fail
  refine bodyPost_ret (v := .tuple #[.agg #[.int .i64 p, .slice a bs.length c, .slice b ps.length d], .slice va v.length vc]) (by simp [results, Try.results20, go_sem, gz, c0, c1, c2]) rfl ?_
  exact ⟨p, a, c, b, d, bs, ps, va, vc, v, rfl, HL.out.1, HV.out.low (by omega), HSM.out, HL.out.2⟩
set_option maxHeartbeats 4000000 in
theorem drawFix_at (W : World) (ca : Option Addr) (n cap : Nat) (l : List Int) (hB : BytesAt W ca n l) (hn : n ≤ 1048576) : Calls Try.prog 15 #[.slice ca n cap] W fun e w' => ∃ p a c b d bs ps va vc v i0, e = .returned (.tuple #[.agg #[.int .i64 p, .slice a bs.length c, .slice b ps.length d], .slice va v.length vc, .int .i64 i0]) ∧ FrFw w' W.heap.size a bs b ps ∧ FrInts w' W.heap.size va v ∧ ((bs.length ≤ 24 ∧ ps.length ≤ 6) ∧ v.length ≤ 1048576 ∧ SmV v) ∧ Below W.heap.size W w' := by
  have ba := belAl W (.cells #[.int .i64 0, .slice none 0 0, .slice none 0 0] 29)
  have Z := Lib.hid (Zer3d.at W 29)
  have hBu := BytesAt.below hB ba
  have hzu : (W.alloc (.cells #[.int .i64 0, .slice none 0 0, .slice none 0 0] 29)).heap.size = W.heap.size + 1 := by simp
  have BA := Lib.hid ba
  clear hB ba
  go_enter Try.func15, Try.ntmps15
  go_wp2_with fail
  generalize (W.alloc (.cells #[.int .i64 0, .slice none 0 0, .slice none 0 0] 29)) = u at *
  have hzu1 : W.heap.size < u.heap.size := by omega
  clear hzu
  refine (l12Draw_at u ca n cap l hBu hn).mono ?_
  rintro e w2 ⟨p, a, c, b, d, bs, ps, va, vc, v, rfl, fr, fv, hsm, b2⟩
  have ba := belAl w2 (.cells #[.int .i64 p, .slice a bs.length c, .slice b ps.length d] 29)
  have BX := Lib.hid (BxF.at w2 p a bs.length c b ps.length d 29)
  have HL := Lib.hid (layO (p := p) (c := c) (d := d) ((BA.out.step b2).step ba) (fr.below ba) hzu1)
  have HV := Lib.hid ((((fv.below ba).set (i := 0) (x := .int .i64 p) hzu1).set (i := 1) (x := .slice a bs.length c) hzu1).set (i := 2) (x := .slice b ps.length d) hzu1)
  have Z2 := Lib.hid ((Z.out.kept (Kept.of_below (S := fun _ => False) b2) id).kept (Kept.of_below (S := fun _ => False) ba) id)
  have HSM := Lib.hid hsm
  obtain ⟨⟨z1, z2, z3, c0, c1, c2⟩, ⟨f0, f1, f2⟩, gz⟩ := Z2.out
  obtain ⟨zB, cB0, cB1, cB2, fB2⟩ := BX.out
  have hw1 := IntWalk.i64_in ((n : Int) % 7 - 1) (by omega)
  clear fr fv b2 ba Z BA hBu hsm
  go_wp2_with fail
  refine bodyPost_ret (v := .tuple #[.agg #[.int .i64 p, .slice a bs.length c, .slice b ps.length d], .slice va v.length vc, .int .i64 ((n : Int) % 7 - 1)]) (by simp [results, Try.results15, go_sem, gz, c0, c1, c2]) rfl ?_
  exact ⟨p, a, c, b, d, bs, ps, va, vc, v, (n : Int) % 7 - 1, rfl, HL.out.1, HV.out.low (by omega), HSM.out, HL.out.2⟩
set_option maxHeartbeats 4000000 in
theorem drawChg_at (W : World) (ca : Option Addr) (n cap : Nat) (l : List Int) (hB : BytesAt W ca n l) (hn : n ≤ 1048576) : Calls Try.prog 19 #[.slice ca n cap] W fun e w' => ∃ p a c b d bs ps va vc v i0 i1, e = .returned (.tuple #[.agg #[.int .i64 p, .slice a bs.length c, .slice b ps.length d], .slice va v.length vc, .int .i64 i0, .int .i64 i1]) ∧ FrFw w' W.heap.size a bs b ps ∧ FrInts w' W.heap.size va v ∧ ((bs.length ≤ 24 ∧ ps.length ≤ 6) ∧ v.length ≤ 1048576 ∧ SmV v) ∧ Below W.heap.size W w' := by
  have ba := belAl W (.cells #[.int .i64 0, .slice none 0 0, .slice none 0 0] 29)
  have Z := Lib.hid (Zer3d.at W 29)
  have hBu := BytesAt.below hB ba
  have hzu : (W.alloc (.cells #[.int .i64 0, .slice none 0 0, .slice none 0 0] 29)).heap.size = W.heap.size + 1 := by simp
  have BA := Lib.hid ba
  clear hB ba
  go_enter Try.func19, Try.ntmps19
  go_wp2_with fail
  generalize (W.alloc (.cells #[.int .i64 0, .slice none 0 0, .slice none 0 0] 29)) = u at *
  have hzu1 : W.heap.size < u.heap.size := by omega
  clear hzu
  refine (l12Draw_at u ca n cap l hBu hn).mono ?_
  rintro e w2 ⟨p, a, c, b, d, bs, ps, va, vc, v, rfl, fr, fv, hsm, b2⟩
  have ba := belAl w2 (.cells #[.int .i64 p, .slice a bs.length c, .slice b ps.length d] 29)
  have BX := Lib.hid (BxF.at w2 p a bs.length c b ps.length d 29)
  have HL := Lib.hid (layO (p := p) (c := c) (d := d) ((BA.out.step b2).step ba) (fr.below ba) hzu1)
  have HV := Lib.hid ((((fv.below ba).set (i := 0) (x := .int .i64 p) hzu1).set (i := 1) (x := .slice a bs.length c) hzu1).set (i := 2) (x := .slice b ps.length d) hzu1)
  have Z2 := Lib.hid ((Z.out.kept (Kept.of_below (S := fun _ => False) b2) id).kept (Kept.of_below (S := fun _ => False) ba) id)
  have HSM := Lib.hid hsm
  obtain ⟨⟨z1, z2, z3, c0, c1, c2⟩, ⟨f0, f1, f2⟩, gz⟩ := Z2.out
  obtain ⟨zB, cB0, cB1, cB2, fB2⟩ := BX.out
  have hw1 := IntWalk.i64_in ((n : Int) % 4 - 1) (by omega)
  clear fr fv b2 ba Z BA hBu hsm
  go_wp2_with fail
  refine bodyPost_ret (v := .tuple #[.agg #[.int .i64 p, .slice a bs.length c, .slice b ps.length d], .slice va v.length vc, .int .i64 ((n : Int) % 6), .int .i64 ((n : Int) % 4 - 1)]) (by simp [results, Try.results19, go_sem, gz, c0, c1, c2]) rfl ?_
  exact ⟨p, a, c, b, d, bs, ps, va, vc, v, (n : Int) % 6, (n : Int) % 4 - 1, rfl, HL.out.1, HV.out.low (by omega), HSM.out, HL.out.2⟩
end Go.Proofs.Ytfbmpkdjhhcnpaa

