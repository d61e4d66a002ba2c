/- Drawing graphs for the law on trees: l2Any, l5Some, l8Packed of the reference. No condition but sizes. -/
import Derived.Test.YtfbmpkdjhhcnpaaGreatTrP11
import Derived.Test.YtfbmpkdjhhcnpaaGreatTrP07
import Derived.Deep.QuietTactic
import Derived.BigQuiet
namespace Go.Proofs.YtfbmpkdjhhcnpaaGreat
open Go.RowKit
set_option maxRecDepth 100000
set_option linter.unusedVariables false
set_option linter.unusedSimpArgs false
theorem litBarT (w : World) (a b : Int) : BarsAt (w.alloc (.cells #[.int .i64 a, .int .i64 b] 70)) (some ⟨w.heap.size, 0, none⟩) 1 [(a, b)] :=
  ⟨rfl, fun k hk => by
    obtain rfl : k = 0 := by omega
    exact ⟨w.heap.size, 0, (a, b), rfl, by simp, rfl, by simp [World.cell?_alloc_new], by simp [World.cell?_alloc_new]⟩⟩
set_option maxHeartbeats 16000000 in
theorem l2Any_at (W0 w : World) (g : Nat) (ca : Option Addr) (n cap : Nat) (l : List Int) (hB : BytesAt W0 ca n l) (hn : n ≤ 1099511627776) (h : Drw W0 w g ca n cap l) :
    Calls Tryz.prog 57 #[.pointer (some ⟨g, 0, none⟩)] w (RetDg W0 w g ca n cap l fun p bs => bs.length ≤ 25) := by
  have HD : Hid (∀ (m : Int) w9, 1 ≤ m ∧ m ≤ 256 → Drw W0 w9 g ca n cap l → Calls Tryz.prog 88 #[.pointer (some ⟨g, 0, none⟩), .int .i64 m] w9 (RetDi W0 w9 g ca n cap l 0 (m - 1))) := Lib.hid fun m w9 hm h9 => l1Below_at W0 w9 g ca n cap l hB hn h9 m hm
  have HG : Hid (∀ w9, Drw W0 w9 g ca n cap l → Calls Tryz.prog 107 #[.pointer (some ⟨g, 0, none⟩)] w9 (RetDg W0 w9 g ca n cap l fun p bs => (2 ≤ p ∧ p ≤ 6) ∧ bs.length ≤ 24)) := Lib.hid fun w9 h9 => l2Graph_at W0 w9 g ca n cap l hB hn h9
  have HP : Hid (∀ w9, Drw W0 w9 g ca n cap l → ∀ base, g < base → ∀ v xs, OwnInts w9 base v xs → 1 ≤ xs.length → xs.length ≤ 256 → Calls Tryz.prog 108 #[.pointer (some ⟨g, 0, none⟩), v] w9 fun e w' => ∃ x, x ∈ xs ∧ e = .returned (.int .i64 x) ∧ Drw W0 w' g ca n cap l ∧ Kept (fun b => b = g) w9 w') := Lib.hid fun w9 h9 base hg v xs ho h1 h2 => l1PickInt_at W0 w9 g ca n cap l hB hn h9 hg ho h1 h2
  have ba := belAl w (.cells #[.int .i64 0, .slice none 0 0] 26)
  have Z := Lib.hid (Zer2.at w 26)
  have D := Lib.hid (h.below ba)
  have K := Lib.hid (Kept.of_below (S := fun b => b = g) ba)
  have hgw := h.hi
  have hzu : w.heap.size < (w.alloc (.cells #[.int .i64 0, .slice none 0 0] 26)).heap.size := by simp
  clear hB h ba
  go_enter Tryz.func57, Tryz.ntmps57
  go_wp2_with fail
  generalize (w.alloc (.cells #[.int .i64 0, .slice none 0 0] 26)) = u at *
  refine (HG.out u D.out).mono ?_
  rintro e w3 ⟨p, a, c, bs, rfl, ob, ⟨-, hbl⟩, d1, k1⟩
  have LN := Lib.hid (LnS.box (p := p) d1 (K.out.trans k1) (Z.out.kept k1 (by omega)) (OwnBars.low ob (by omega)) hgw (by have := k1.size; omega))
  clear d1 k1 ob D K Z
  go_wp2_with fail
  obtain ⟨gt, hgt⟩ : ∃ q, q = w3.heap.size := ⟨_, rfl⟩
  rw [← hgt] at LN
  try rw [← hgt]
  generalize (w3.alloc (.cells #[.int .i64 p, .slice a bs.length c] 26)) = w4 at *
  clear hgt
  refine (HD.out 16 w4 (by decide) LN.out.d).mono ?_
  rintro e w5 ⟨x, hx, rfl, d1, k1⟩
  replace LN := Lib.hid (LN.out.draw d1 k1)
  clear d1 k1
  cases h0 : (x == 0)
  · cases h1 : (x == 1)
    · obtain ⟨zB, cB0, cB1⟩ := LN.out.bx
      obtain ⟨⟨z1, z2, z3, c0, c1⟩, ⟨f0, f1⟩, gz⟩ := LN.out.rz
      have HF := Lib.hid LN.out.fin
      go_wp2_with fail
      refine bodyPost_ret (v := .agg #[.int .i64 p, .slice a bs.length c]) (by simp [results, Tryz.results57, go_sem, gz, c0, c1]) rfl ?_
      exact ⟨p, a, c, bs, rfl, HF.out.1, by omega, HF.out.2.1, HF.out.2.2⟩
    · obtain ⟨zB, cB0, cB1⟩ := LN.out.bx
      go_wp2_with fail
      clear zB cB0 cB1
      have FD := Lib.hid (LN.out.below (w' := w5.drew) (Below.refl _ _).drew)
      have s0 : w5.drew.cell? ⟨gt, 1, none⟩ = some (.slice a bs.length c) ∧ True := ⟨FD.out.bx.2.2, trivial⟩
      refine wp_regionZ (fun w' => w'.cell? ⟨gt, 1, none⟩ = some (.slice a bs.length c) ∧ True) 10 (by kernel_rfl) ?_
      clear LN
      generalize w5.drew = wd at *
      refine wpAnyZ_takeC (i := 0) (v := ?_) [10] rfl (by kernel_rfl) (by kernel_rfl) (by kernel_rfl) (by kernel_rfl) (by kernel_rfl) (by kernel_rfl) (fun _ _ _ h => h) (s0) (by rfl) ?_ ?_
      rotate_left
      · intro x hx; obtain ⟨u1, u2⟩ := hx; go_simp; try (with_reducible rfl)
      try simp only [Act.put, List.setIfInBounds_toArray, List.set_cons_zero, List.set_cons_succ, List.getElem_toArray, List.getElem_cons_zero, List.getElem_cons_succ]
      refine wpAnyZ_takeC (i := 1) (v := ?_) [10] rfl (by kernel_rfl) (by kernel_rfl) (by kernel_rfl) (by kernel_rfl) (by kernel_rfl) (by kernel_rfl) (fun _ _ _ h => h) (s0) (by rfl) ?_ ?_
      rotate_left
      · intro x hx; obtain ⟨u1, u2⟩ := hx; go_simp; try (with_reducible rfl)
      try simp only [Act.put, List.setIfInBounds_toArray, List.set_cons_zero, List.set_cons_succ, List.getElem_toArray, List.getElem_cons_zero, List.getElem_cons_succ]
      refine wpAnyZ_takeC (i := 2) (v := ?_) [10] rfl (by kernel_rfl) (by kernel_rfl) (by kernel_rfl) (by kernel_rfl) (by kernel_rfl) (by kernel_rfl) (fun _ _ _ h => h) (s0) (by rfl) ?_ ?_
      rotate_left
      · intro x hx; obtain ⟨u1, u2⟩ := hx; go_simp; try (with_reducible rfl)
      try simp only [Act.put, List.setIfInBounds_toArray, List.set_cons_zero, List.set_cons_succ, List.getElem_toArray, List.getElem_cons_zero, List.getElem_cons_succ]
      refine wpAnyZ_takeC (i := 4) (v := ?_) [10] rfl (by kernel_rfl) (by kernel_rfl) (by kernel_rfl) (by kernel_rfl) (by kernel_rfl) (by kernel_rfl) (fun _ _ _ h => h) (s0) (by rfl) ?_ ?_
      rotate_left
      · intro x hx; obtain ⟨u1, u2⟩ := hx; go_simp; try (with_reducible rfl)
      try simp only [Act.put, List.setIfInBounds_toArray, List.set_cons_zero, List.set_cons_succ, List.getElem_toArray, List.getElem_cons_zero, List.getElem_cons_succ]
      refine wpAnyZ_step (i := 3) (by kernel_rfl) rfl (by rfl) ?_
      intro KK hKK
      go_simp
      go_at_call 88
      refine (HD.out 3 wd (by decide) FD.out.d).mono ?_
      rintro e w6 ⟨x6, hx6, rfl, d1, k1⟩
      have F6 := Lib.hid (FD.out.draw d1 k1)
      clear d1 k1 FD s0
      have s6 : w6.cell? ⟨gt, 1, none⟩ = some (.slice a bs.length c) ∧ True := ⟨F6.out.bx.2.2, trivial⟩
      go_wp2_with fail
      refine hKK.out _ _ (.inr s6) ?_
      clear hKK KK
      try simp only [Act.put, List.setIfInBounds_toArray, List.set_cons_zero, List.set_cons_succ, List.getElem_toArray, List.getElem_cons_zero, List.getElem_cons_succ]
      refine wpAnyZ_step (i := 5) (by kernel_rfl) rfl (by rfl) ?_
      intro KK hKK
      go_simp
      go_at_call 88
      refine (HD.out 9 w6 (by decide) F6.out.d).mono ?_
      rintro e w7 ⟨x7, hx7, rfl, d1, k1⟩
      have F7 := Lib.hid (F6.out.draw d1 k1)
      clear d1 k1 F6 s6
      have s7 : w7.cell? ⟨gt, 1, none⟩ = some (.slice a bs.length c) ∧ True := ⟨F7.out.bx.2.2, trivial⟩
      go_wp2_with fail
      refine hKK.out _ _ (.inr s7) ?_
      clear hKK KK
      try simp only [Act.put, List.setIfInBounds_toArray, List.set_cons_zero, List.set_cons_succ, List.getElem_toArray, List.getElem_cons_zero, List.getElem_cons_succ]
      refine wpAnyZ_step (i := 6) (by kernel_rfl) rfl (by rfl) ?_
      intro KK hKK
      go_simp
      refine hKK.out _ _ (.inr s7) ?_
      clear hKK KK
      try simp only [Act.put, List.setIfInBounds_toArray, List.set_cons_zero, List.set_cons_succ, List.getElem_toArray, List.getElem_cons_zero, List.getElem_cons_succ]
      have bl := belAl w7 (.cells #[.int .i64 x6, .int .i64 x7] 70)
      have F8 := Lib.hid (F7.out.below bl)
      have HLI := Lib.hid (litBarT w7 x6 x7)
      have s8 : (w7.alloc (.cells #[.int .i64 x6, .int .i64 x7] 70)).cell? ⟨gt, 1, none⟩ = some (.slice a bs.length c) ∧ True := ⟨F8.out.bx.2.2, trivial⟩
      clear bl F7
      refine wpAnyZ_step (i := 7) (by kernel_rfl) rfl (by rfl) ?_
      intro KK hKK
      go_simp
      refine hKK.out _ _ (.inr s8) ?_
      clear hKK KK
      try simp only [Act.put, List.setIfInBounds_toArray, List.set_cons_zero, List.set_cons_succ, List.getElem_toArray, List.getElem_cons_zero, List.getElem_cons_succ]
      have hz8 := F8.out.d.bel.size
      have hgg := F8.out.gg
      have hgt8 := F8.out.bx.1
      refine wpAnyZ_step (i := 8) (by kernel_rfl) rfl (by rfl) ?_
      intro KK hKK
      refine stepAppBars (by rfl) _ _ (by rfl) (by rfl) F8.out.ob (by rfl) HLI.out (by omega) (by omega) ?_
      intro v9 w9 h9 k9 a9
      obtain ⟨av, cv, rfl, -⟩ := h9.form
      have F9 := Lib.hid (F8.out.app h9 k9 (a9.imp id fun e b hb => by rw [e] at hb; exact Nat.le_of_eq (Option.some.inj hb)))
      have ngt : ¬ some gt = (Value.slice a bs.length c).ownBlock := fun e => F8.out.ne e.symm
      have s9 : w9.cell? ⟨gt, 1, none⟩ = some (.slice a bs.length c) ∧ True := ⟨(k9.cell hgt8 ngt).trans F8.out.bx.2.2, trivial⟩
      have f9 : w9.frozen? ⟨gt, 1, none⟩ = false := (k9.frozen hgt8 ngt).trans F8.out.f1
      clear h9 k9 a9 F8 HLI ngt s8 s7
      refine hKK.out _ _ (.inr s9) ?_
      clear hKK KK
      try simp only [Act.put, List.setIfInBounds_toArray, List.set_cons_zero, List.set_cons_succ, List.getElem_toArray, List.getElem_cons_zero, List.getElem_cons_succ]
      refine wpAnyZ_step (i := 9) (by kernel_rfl) rfl (by rfl) ?_
      intro KK hKK
      go_simp
      refine hKK.out _ _ (.inr s9) ?_
      clear hKK KK
      try simp only [Act.put, List.setIfInBounds_toArray, List.set_cons_zero, List.set_cons_succ, List.getElem_toArray, List.getElem_cons_zero, List.getElem_cons_succ]
      obtain ⟨c9, -⟩ := s9
      refine wpAnyZ_step (i := 10) (by kernel_rfl) rfl (by rfl) ?_
      intro KK hKK
      go_simp
      refine hKK.out _ _ (.inl (by kernel_rfl)) ?_
      clear hKK KK
      try simp only [Act.put, List.setIfInBounds_toArray, List.set_cons_zero, List.set_cons_succ, List.getElem_toArray, List.getElem_cons_zero, List.getElem_cons_succ]
      refine wpAnyZ_done (by kernel_rfl) ?_ _
      clear c9 f9
      have F10 := F9.out
      rw [show (bs ++ [(x6, x7)]).length = bs.length + 1 by simp] at F10
      obtain ⟨zB, cB0, cB1⟩ := F10.bx
      obtain ⟨⟨z1, z2, z3, c0, c1⟩, ⟨f0, f1⟩, gz⟩ := F10.rz
      have HF := Lib.hid F9.out.fin
      rw [show (bs ++ [(x6, x7)]).length = bs.length + 1 by simp] at HF
      clear F9 F10
      go_wp2_with fail
      refine bodyPost_ret (v := .agg #[.int .i64 p, .slice av (bs.length + 1) cv]) (by simp [results, Tryz.results57, go_sem, gz, c0, c1]) rfl ?_
      exact ⟨p, av, cv, bs ++ [(x6, x7)], by simp, by rw [show (bs ++ [(x6, x7)]).length = bs.length + 1 by simp]; exact HF.out.1, by simp; omega, HF.out.2.1, HF.out.2.2⟩
  · obtain ⟨zB, cB0, cB1⟩ := LN.out.bx
    go_wp2_with fail
    have bl := belAl w5 (.cells #[.int .i64 0, .int .i64 (-1), .int .i64 9, .int .i64 3] 3)
    have HLIT : Hid (OwnInts (w5.alloc (.cells #[.int .i64 0, .int .i64 (-1), .int .i64 9, .int .i64 3] 3)) w5.heap.size (.slice (some ⟨w5.heap.size, 0, none⟩) 4 4) [0, -1, 9, 3]) := Lib.hid ⟨by simp, .inr ⟨w5.heap.size, 4, _, rfl, Nat.le_refl _, heap_alloc_new w5 _, Nat.le_refl _, by decide, rfl, by simp⟩⟩
    have hg5 : g < w5.heap.size := LN.out.d.hi
    replace LN := Lib.hid (LN.out.below bl)
    clear bl zB cB0 cB1
    refine (HP.out _ LN.out.d _ hg5 _ _ HLIT.out (by simp) (by simp)).mono ?_
    rintro e w7 ⟨z, -, rfl, d7, k7⟩
    replace LN := Lib.hid (LN.out.draw d7 k7)
    have LN2 := Lib.hid (LN.out.setP (q := z))
    have q0 := LN.out.f0
    obtain ⟨zB, cB0, cB1⟩ := LN.out.bx
    obtain ⟨zC, cC0, cC1⟩ := LN2.out.bx
    obtain ⟨⟨z1, z2, z3, c0, c1⟩, ⟨f0, f1⟩, gz⟩ := LN2.out.rz
    have HF := Lib.hid LN2.out.fin
    clear d7 k7 HLIT LN LN2
    go_wp2_with fail
    refine bodyPost_ret (v := .agg #[.int .i64 z, .slice a bs.length c]) (by simp [results, Tryz.results57, go_sem, gz, c0, c1]) rfl ?_
    exact ⟨z, a, c, bs, rfl, HF.out.1, by omega, HF.out.2.1, HF.out.2.2⟩
/-- a list of numbers that is drawn -/
def RetDl (W0 w : World) (g : Nat) (ca : Option Addr) (n cap : Nat) (l : List Int) (m : Nat) (e : Ending) (w' : World) : Prop :=
  ∃ v xs, e = .returned v ∧ OwnInts w' w.heap.size v xs ∧ xs.length ≤ m ∧ Drw W0 w' g ca n cap l ∧ Kept (fun b => b = g) w w'
set_option maxHeartbeats 8000000 in
theorem l5Some_at (W0 w : World) (g : Nat) (ca : Option Addr) (n cap : Nat) (l : List Int) (hB : BytesAt W0 ca n l) (hn : n ≤ 1099511627776) (h : Drw W0 w g ca n cap l) (p : Int) (a : Option Addr) (N c : Nat) (hN : N ≤ 1000) :
    Calls Tryz.prog 60 #[.pointer (some ⟨g, 0, none⟩), .agg #[.int .i64 p, .slice a N c]] w (RetDl W0 w g ca n cap l (N + 1)) := by
  have HD : Hid (∀ (m : Int) w9, 1 ≤ m ∧ m ≤ 256 → Drw W0 w9 g ca n cap l → Calls Tryz.prog 88 #[.pointer (some ⟨g, 0, none⟩), .int .i64 m] w9 (RetDi W0 w9 g ca n cap l 0 (m - 1))) := Lib.hid fun m w9 hm h9 => l1Below_at W0 w9 g ca n cap l hB hn h9 m hm
  have HON : Hid (∀ (m : Int) w9, 1 ≤ m ∧ m ≤ 256 → Drw W0 w9 g ca n cap l → Calls Tryz.prog 58 #[.pointer (some ⟨g, 0, none⟩), .int .i64 m] w9 (RetDb W0 w9 g ca n cap l)) := Lib.hid fun m w9 hm h9 => l1Once_at W0 w9 g ca n cap l hB hn h9 m hm
  have hgw := h.hi
  have hg0 := h.low
  have b1 := belAl w (.cells #[.int .i64 p, .slice a N c] 26)
  have b2 := belAl (w.alloc (.cells #[.int .i64 p, .slice a N c] 26)) (.cells #[] 3)
  have HO0 := Lib.hid (OwnInts.made (w.alloc (.cells #[.int .i64 p, .slice a N c] 26)) (w.heap.size + 1) (by simp))
  have hs1 : (w.alloc (.cells #[.int .i64 p, .slice a N c] 26)).heap.size = w.heap.size + 1 := by simp
  rw [hs1] at HO0
  have BX0 := Lib.hid (BoxGr.below (show BoxGr (w.alloc (.cells #[.int .i64 p, .slice a N c] 26)) w.heap.size p a N c from BoxGr.at rfl) b2)
  have D0 := Lib.hid ((h.below b1).below b2)
  have K0 := Lib.hid ((Kept.of_below (S := fun b => b = g) b1).trans (Kept.of_below (S := fun b => b = g) b2))
  clear hB h b1 b2 hs1
  go_enter Tryz.func60, Tryz.ntmps60
  go_wp2_with fail
  generalize ((w.alloc (.cells #[.int .i64 p, .slice a N c] 26)).alloc (.cells #[] 3)) = u at *
  go_loopw [5, 6] (fun o i w9 => ∃ (k : Nat) (xs : List Int), k ≤ N ∧ xs.length ≤ k ∧ i = .int .i64 k ∧ OwnInts w9 (w.heap.size + 1) o xs ∧ BoxGr w9 w.heap.size p a N c ∧ Drw W0 w9 g ca n cap l ∧ Kept (fun b => b = g) w w9) (fun _ i _ => N - (intOf i).toNat)
  case atStart => exact ⟨0, [], Nat.zero_le _, Nat.zero_le _, rfl, HO0.out, BX0.out, D0.out, K0.out⟩
  case round =>
    clear HO0 D0 K0 BX0
    obtain ⟨k, xs, hk, hxk, rfl, ho, hbx, hd, hkp⟩ := hrel
    have HO := Lib.hid ho
    have BX := Lib.hid hbx
    have D := Lib.hid hd
    have K := Lib.hid hkp
    clear ho hbx hd hkp
    obtain ⟨av, cv, rfl, -⟩ := HO.out.form
    by_cases hlt : k < N
    · have hki : (k : Int) < (N : Int) := by omega
      obtain ⟨zB, cB0, cB1⟩ := BX.out
      go_wp2_with fail
      clear zB cB0 cB1
      refine (HON.out 3 wr (by decide) D.out).mono ?_
      rintro e w5 ⟨bq, rfl, d1, k1⟩
      replace D := Lib.hid d1
      replace K := Lib.hid (K.out.trans k1)
      replace HO := Lib.hid (HO.out.on k1 (by omega))
      replace BX := Lib.hid (BX.out.kept k1 (by omega))
      have hz5 := K.out.size
      have hzB := BX.out.1
      clear d1 k1
      cases bq
      · go_wp2_with (at_builtin; refine app1At rfl (.tmp 18) (.tmp 20) rfl rfl HO.out (k : Int) rfl (by omega) (by omega) ?_; intro v5 w6 h5 k5 a5)
        have HB := Lib.hid (HO.out.ge)
        have BX6 := Lib.hid (BX.out.kept k5 fun e => by have := HB.out _ e; omega)
        go_roundw
        case rel => exact ⟨k + 1, xs ++ [(k : Int)], by omega, by simp; omega, by go_num, h5, BX6.out, D.out.kept k5 (fun e => by have := HB.out _ e; omega) (fun b hb e => by have := HB.out _ e; omega), K.out.on k5 fun i hi e => by have := HB.out _ e; omega⟩
        case measure => simp [intOf]; omega
      · go_wp2_with fail
        go_roundw
        case rel => exact ⟨k + 1, xs, by omega, by omega, by go_num, HO.out, BX.out, D.out, K.out⟩
        case measure => simp [intOf]; omega
    · have hki : ¬ (k : Int) < (N : Int) := by omega
      obtain ⟨zB, cB0, cB1⟩ := BX.out
      go_wp2_with fail
      clear zB cB0 cB1
      refine (HON.out 14 wr (by decide) D.out).mono ?_
      rintro e w5 ⟨bq, rfl, d1, k1⟩
      replace D := Lib.hid d1
      replace K := Lib.hid (K.out.trans k1)
      replace HO := Lib.hid (HO.out.on k1 (by omega))
      have hz5 := K.out.size
      have hzB := k1.size
      have hzr := BX.out.1
      clear d1 k1 BX
      cases bq
      · go_wp2_with fail
        go_ret
        exact ⟨_, xs, rfl, ownsRow_base HO.out (by omega), by omega, D.out, K.out⟩
      · go_wp2_with fail
        refine (HD.out 12 w5 (by decide) D.out).mono ?_
        rintro e w6 ⟨x6, hx6, rfl, d1, k1⟩
        replace D := Lib.hid d1
        replace K := Lib.hid (K.out.trans k1)
        replace HO := Lib.hid (HO.out.on k1 (by omega))
        have hz6 := k1.size
        have hw := IntWalk.i64_in (x6 - 1) (by omega)
        clear d1 k1
        go_wp2_with (at_builtin; refine app1At rfl (.tmp 24) (.tmp 28) rfl rfl HO.out (x6 - 1) rfl (by omega) (by omega) ?_; intro v5 w7 h5 k5 a5)
        have HB := Lib.hid (HO.out.ge)
        go_ret
        exact ⟨_, xs ++ [x6 - 1], rfl, ownsRow_base h5 (by omega), by simp; omega, D.out.kept k5 (fun e => by have := HB.out _ e; omega) (fun b hb e => by have := HB.out _ e; omega), K.out.on k5 fun i hi e => by have := HB.out _ e; omega⟩
end Go.Proofs.YtfbmpkdjhhcnpaaGreat

namespace Go.Proofs.YtfbmpkdjhhcnpaaGreat
open Go.RowKit
set_option maxRecDepth 100000
set_option linter.unusedVariables false
set_option linter.unusedSimpArgs false
/-- a graph and a number of trees that are drawn -/
def RetPd (W0 w : World) (g : Nat) (ca : Option Addr) (n cap : Nat) (l : List Int) (e : Ending) (w' : World) : Prop :=
  ∃ p a c bs k, e = .returned (.tuple #[.agg #[.int .i64 p, .slice a bs.length c], .int .i64 k]) ∧ OwnBars w' w.heap.size (.slice a bs.length c) bs ∧ (bs.length ≤ 25 ∧ 1 ≤ k ∧ k ≤ 3) ∧ Drw W0 w' g ca n cap l ∧ Kept (fun b => b = g) w w'
set_option maxHeartbeats 16000000 in
theorem l8Packed_at (W0 w : World) (g : Nat) (ca : Option Addr) (n cap : Nat) (l : List Int) (hB : BytesAt W0 ca n l) (hn : n ≤ 1099511627776) (h : Drw W0 w g ca n cap l) :
    Calls Tryz.prog 45 #[.pointer (some ⟨g, 0, none⟩)] w (RetPd W0 w g ca n cap l) := by
  have HD : Hid (∀ (m : Int) w9, 1 ≤ m ∧ m ≤ 256 → Drw W0 w9 g ca n cap l → Calls Tryz.prog 88 #[.pointer (some ⟨g, 0, none⟩), .int .i64 m] w9 (RetDi W0 w9 g ca n cap l 0 (m - 1))) := Lib.hid fun m w9 hm h9 => l1Below_at W0 w9 g ca n cap l hB hn h9 m hm
  have HON : Hid (∀ (m : Int) w9, 1 ≤ m ∧ m ≤ 256 → Drw W0 w9 g ca n cap l → Calls Tryz.prog 58 #[.pointer (some ⟨g, 0, none⟩), .int .i64 m] w9 (RetDb W0 w9 g ca n cap l)) := Lib.hid fun m w9 hm h9 => l1Once_at W0 w9 g ca n cap l hB hn h9 m hm
  have HA : Hid (∀ w9, Drw W0 w9 g ca n cap l → Calls Tryz.prog 57 #[.pointer (some ⟨g, 0, none⟩)] w9 (RetDg W0 w9 g ca n cap l fun p bs => bs.length ≤ 25)) := Lib.hid fun w9 h9 => l2Any_at W0 w9 g ca n cap l hB hn h9
  have ba := belAl w (.cells #[.int .i64 0, .slice none 0 0] 26)
  have Z := Lib.hid (Zer2.at w 26)
  have D := Lib.hid (h.below ba)
  have K := Lib.hid (Kept.of_below (S := fun b => b = g) ba)
  have hgw := h.hi
  have hlow := h.low
  have hzu : w.heap.size < (w.alloc (.cells #[.int .i64 0, .slice none 0 0] 26)).heap.size := by simp
  clear hB h ba
  go_enter Tryz.func45, Tryz.ntmps45
  go_wp2_with fail
  generalize (w.alloc (.cells #[.int .i64 0, .slice none 0 0] 26)) = u at *
  refine (HD.out 5 u (by decide) D.out).mono ?_
  rintro e w1 ⟨x, hx, rfl, d1, k1⟩
  replace D := Lib.hid d1
  replace K := Lib.hid (K.out.trans k1)
  replace Z := Lib.hid (Z.out.kept k1 (by omega))
  have hz1 := k1.size
  clear d1 k1
  have hwx := IntWalk.i64_in (1 + x) (by omega)
  obtain ⟨P, hP⟩ : ∃ P : Nat, 1 + x = P := ⟨(1 + x).toNat, by omega⟩
  have hP2 : 1 ≤ P ∧ P ≤ 5 := by omega
  rw [hP] at hwx
  go_wp2_with fail
  try rw [hP]
  clear hP hwx hx
  refine (HD.out 3 w1 (by decide) D.out).mono ?_
  rintro e w2 ⟨y, hy, rfl, d1, k1⟩
  replace D := Lib.hid d1
  replace K := Lib.hid (K.out.trans k1)
  replace Z := Lib.hid (Z.out.kept k1 (by omega))
  have hz2 := k1.size
  clear d1 k1
  have hwy := IntWalk.i64_in (1 + y) (by omega)
  obtain ⟨M, hM⟩ : ∃ M : Nat, 1 + y = M := ⟨(1 + y).toNat, by omega⟩
  have hM2 : 1 ≤ M ∧ M ≤ 3 := by omega
  rw [hM] at hwy
  have ba := belAl w2 (.cells #[] 70)
  have hw2 : w.heap.size < w2.heap.size := by omega
  have LN0 := LnS.box (p := (P : Int)) (D.out.below ba) (K.out.trans (Kept.of_below ba)) (Z.out.below ba) (bs := []) (OwnBars.made w2 (w.heap.size + 1) (by omega)) hgw (by simp; omega)
  have hs2 : (w2.alloc (.cells #[] 70)).heap.size = w2.heap.size + 1 := by simp
  rw [hs2] at LN0
  have LN := Lib.hid LN0
  simp only [List.length_nil] at LN
  clear LN0 ba hs2 D K Z
  go_wp2_with fail
  try rw [hM]
  clear hM hwy hy
  obtain ⟨gt, hgt⟩ : ∃ q, q = w2.heap.size + 1 := ⟨_, rfl⟩
  rw [← hgt] at LN
  try rw [← hgt]
  generalize ((w2.alloc (.cells #[] 70)).alloc (.cells #[.int .i64 (P : Int), .slice (some ⟨w2.heap.size, 0, none⟩) 0 0] 26)) = w4 at *
  clear hgt hz1 hz2
  go_loopw [7] (fun i w9 => ∃ (t : Nat) (a : Option Addr) (c : Nat) (bs : List BarT), t ≤ M ∧ i = .int .i64 t ∧ LnS W0 w w9 g gt ca n cap l P a c bs ∧ bs.length ≤ 5 * t) (fun i _ => M - (intOf i).toNat)
  case atStart => exact ⟨0, _, _, [], Nat.zero_le _, rfl, LN.out, Nat.zero_le _⟩
  case round =>
    clear LN
    obtain ⟨t, a, c, bs, ht, rfl, hln, hbl⟩ := hrel
    have LN := Lib.hid hln
    clear hln
    by_cases hlt : t < M
    · have hti : (t : Int) < (M : Int) := by omega
      go_wp2_with fail
      obtain ⟨wA, hwA⟩ : ∃ w9, w9 = wr := ⟨_, rfl⟩
      subst hwA
      go_loopw [8] (fun i w9 => ∃ (v : Nat) (a : Option Addr) (c : Nat) (bs : List BarT), 1 ≤ v ∧ v ≤ 5 ∧ i = .int .i64 v ∧ LnS W0 w w9 g gt ca n cap l P a c bs ∧ bs.length ≤ 5 * t + v - 1) (fun i _ => 6 - (intOf i).toNat)
      case atStart => exact ⟨1, a, c, bs, Nat.le_refl _, by omega, rfl, LN.out, by omega⟩
      case round =>
        clear LN hbl
        obtain ⟨v, a, c, bs, hv1, hv2, rfl, hln, hbl⟩ := hrel
        have LN := Lib.hid hln
        clear hln
        by_cases hvl : v < P
        · have hvi : (v : Int) < (P : Int) := by omega
          go_wp2_with fail
          refine (HD.out v wr (by omega) LN.out.d).mono ?_
          rintro e w7 ⟨x7, hx7, rfl, d1, k1⟩
          replace LN := Lib.hid (LN.out.draw d1 k1)
          clear d1 k1
          obtain ⟨zB, cB0, cB1⟩ := LN.out.bx
          go_wp2_with fail
          clear zB cB0 cB1
          obtain ⟨s9, hs9⟩ : ∃ q, q = putL bs (x7, (v : Int)) := ⟨_, rfl⟩
          refine (put_lm w7 (P : Int) a c bs (ownBars_at LN.out.ob) (by omega) x7 (v : Int) s9 hs9).mono ?_
          rintro e w9 ⟨a9, c9, rfl, ob9, b9⟩
          have h24 : s9.length ≤ 5 * t + (v + 1) - 1 := by rw [hs9, putL_length]; omega
          clear hs9
          have hgt8 := LN.out.bx.1
          replace LN := Lib.hid (LN.out.below b9)
          have LN2 := Lib.hid (LN.out.set ob9 hgt8)
          obtain ⟨zB, cB0, cB1⟩ := LN.out.bx
          have q0 := LN.out.f0
          have q1 := LN.out.f1
          clear b9 ob9 hgt8
          go_wp2_with fail
          go_roundw
          case rel => exact ⟨v + 1, a9, c9, s9, by omega, by omega, by go_num, LN2.out, h24⟩
          case measure => simp [intOf]; omega
        · have hvi : ¬ (v : Int) < (P : Int) := by omega
          go_wp2_with fail
          go_roundw
          case rel => exact ⟨t + 1, a, c, bs, by omega, by go_num, LN.out, by omega⟩
          case measure => simp [intOf]; omega
    · have hti : ¬ (t : Int) < (M : Int) := by omega
      go_wp2_with fail
      refine (HON.out 6 wr (by decide) LN.out.d).mono ?_
      rintro e w5 ⟨bq, rfl, d1, k1⟩
      replace LN := Lib.hid (LN.out.draw d1 k1)
      clear d1 k1
      cases bq
      · obtain ⟨zB, cB0, cB1⟩ := LN.out.bx
        obtain ⟨⟨z1, z2, z3, c0, c1⟩, ⟨f0, f1⟩, gz⟩ := LN.out.rz
        have HF := Lib.hid LN.out.fin
        go_wp2_with fail
        refine bodyPost_ret (v := .tuple #[.agg #[.int .i64 (P : Int), .slice a bs.length c], .int .i64 (M : Int)]) (by simp [results, Tryz.results45, go_sem, gz, c0, c1]) rfl ?_
        exact ⟨(P : Int), a, c, bs, (M : Int), rfl, HF.out.1, ⟨by omega, by omega, by omega⟩, HF.out.2.1, HF.out.2.2⟩
      · go_wp2_with fail
        refine (HA.out w5 LN.out.d).mono ?_
        rintro e w6 ⟨p6, a6, c6, bs6, rfl, ob6, hbl6, d1, k1⟩
        have hgg := LN.out.gg
        have hz5 := LN.out.bx.1
        have Z6 := LN.out.rz.kept k1 (by omega)
        have K6 := LN.out.k.trans k1
        have k2 : Kept (fun b => b = w.heap.size) w6 ((w6.setCell ⟨w.heap.size, 0, none⟩ (.int .i64 p6)).setCell ⟨w.heap.size, 1, none⟩ (.slice a6 bs6.length c6)) := (keptSet' (S := fun b => b = w.heap.size) rfl).trans (keptSet' (S := fun b => b = w.heap.size) rfl)
        have HF := Lib.hid (And.intro (show OwnBars _ w.heap.size (.slice a6 bs6.length c6) bs6 from ownsRow_base (k2.ownsRow ob6 fun b h1 h2 => by have := (ob6.lt b h1).1; omega) (by omega)) (And.intro (d1.kept k2 (by omega) (fun b hb => by omega)) (K6.on k2 fun i h1 h2 => by omega)))
        obtain ⟨⟨z1, z2, z3, c0, c1⟩, ⟨f0, f1⟩, gz⟩ := Z6
        clear d1 k1 ob6 k2 K6 LN
        go_wp2_with fail
        refine bodyPost_ret (v := .tuple #[.agg #[.int .i64 p6, .slice a6 bs6.length c6], .int .i64 (M : Int)]) (by simp [results, Tryz.results45, go_sem, gz, c0, c1]) rfl ?_
        exact ⟨p6, a6, c6, bs6, (M : Int), rfl, HF.out.1, ⟨hbl6, by omega, by omega⟩, HF.out.2.1, HF.out.2.2⟩
end Go.Proofs.YtfbmpkdjhhcnpaaGreat

