/- What FnMatrices draws: DrawPrimitiveVector of the reference. No condition but sizes. -/
import Derived.Test.YtfdhbbhfilkafaaMdt
namespace Go.Proofs.Ytfdhbbhfilkafaa
open Go.RowKit
set_option maxRecDepth 100000
set_option linter.unusedVariables false
set_option linter.unusedSimpArgs false
set_option maxHeartbeats 8000000 in
theorem drawPrim_at (W : World) (ca : Option Addr) (n cap : Nat) (l : List Int) (hB : BytesAt W ca n l) (hn : n ≤ 1048576) : Calls Try.prog 51 #[.slice ca n cap] W fun e w' => ∃ v xs, e = .returned v ∧ OwnInts w' W.heap.size v xs ∧ xs.length ≤ 5 ∧ Below W.heap.size W w' := by
  have HN := Lib.hid (l1New_at W ca n cap l hB hn)
  have HP : Hid (∀ w g, Drw W w g ca n cap l → ∀ base, g < base → ∀ v xs, OwnInts w base v xs → 1 ≤ xs.length → xs.length ≤ 256 → Calls Try.prog 93 #[.pointer (some ⟨g, 0, none⟩), v] w fun e w' => ∃ x, x ∈ xs ∧ e = .returned (.int .i64 x) ∧ Drw W w' g ca n cap l ∧ Kept (fun b => b = g) w w') := Lib.hid fun w g h base hg v xs ho h1 h2 => l1PickInt_at W w g ca n cap l hB (by omega) h hg ho h1 h2
  have HL : Hid (∀ (m : Int) w g, 1 ≤ m ∧ m ≤ 256 → Drw W w g ca n cap l → Calls Try.prog 92 #[.pointer (some ⟨g, 0, none⟩), .int .i64 m] w (RetDi W w g ca n cap l 0 (m - 1))) := Lib.hid fun m w g hm h9 => l1Below_at W w g ca n cap l hB (by omega) h9 m hm
  have HOn : Hid (∀ (m : Int) w g, 1 ≤ m ∧ m ≤ 256 → Drw W w g ca n cap l → Calls Try.prog 94 #[.pointer (some ⟨g, 0, none⟩), .int .i64 m] w (RetDb W w g ca n cap l)) := Lib.hid fun m w g hm h9 => l1Once_at W w g ca n cap l hB (by omega) h9 m hm
  have HV : Hid (∀ w g (m : Nat), Drw W w g ca n cap l → m ≤ 1000 → Calls Try.prog 91 #[.pointer (some ⟨g, 0, none⟩), .int .i64 m] w fun e w' => ∃ v xs, e = .returned v ∧ OwnInts w' w.heap.size v xs ∧ xs.length = m ∧ (∀ x ∈ xs, -6 ≤ x ∧ x ≤ 6) ∧ Drw W w' g ca n cap l ∧ Kept (fun b => b = g) w w') := Lib.hid fun w g m h hm => l9Vector_at W w g ca n cap l hB (by omega) h m hm
  clear hB
  go_enter Try.func51, Try.ntmps51
  go_wp2_with fail
  refine HN.out.mono ?_
  rintro e w1 ⟨g, rfl, d1⟩
  have D := Lib.hid d1
  have hz1 := d1.bel.size
  have hg1 := d1.hi
  have hg0 := d1.low
  clear d1
  go_wp2_with fail
  refine (HL.out 5 w1 g (by decide) D.out).mono ?_
  rintro e w2 ⟨x, hx, rfl, d2, k2⟩
  replace D := Lib.hid d2
  have hz2 := k2.size
  obtain ⟨m0, rfl⟩ : ∃ k : Nat, x = k := ⟨x.toNat, by omega⟩
  clear d2 k2
  go_wp2_with fail
  refine (HV.out w2 g m0 D.out (by omega)).mono ?_
  rintro e w3 ⟨v, xs, rfl, ho, hxl, -, d3, k3⟩
  replace D := Lib.hid d3
  have hz3 := k3.size
  obtain ⟨a, c, rfl, -⟩ := ho.form
  have HO := Lib.hid ho
  have hm5 : xs.length ≤ 4 := by omega
  clear d3 k3 ho hxl hx
  obtain ⟨m, hm⟩ : ∃ m, m = xs.length := ⟨_, rfl⟩
  rw [← hm] at HO hm5
  rw [← hm]
  have HM := Lib.hid hm
  clear hm
  go_wp2_with fail
  obtain ⟨w0, hw0⟩ : ∃ w9, w9 = w3 := ⟨_, rfl⟩
  subst hw0
  go_loopw [5] (fun i w9 => ∃ (k : Nat) (ys : List Int), k ≤ m ∧ i = .int .i64 k ∧ ys.length = m ∧ OwnInts w9 w2.heap.size (.slice a m c) ys ∧ Drw W w9 g ca n cap l) (fun i _ => m - (intOf i).toNat)
  case atStart => exact ⟨0, xs, Nat.zero_le _, rfl, HM.out.symm, HO.out, D.out⟩
  case round =>
    clear HO D HM hz3
    obtain ⟨k, ys, hk, rfl, hy, ho, hd⟩ := hrel
    have HO := Lib.hid ho
    have D := Lib.hid hd
    have HY := Lib.hid hy
    clear ho hd
    by_cases hlt : k < m
    · have hki : (k : Int) < (m : Int) := by omega
      have hk0 : (0 : Int) ≤ (k : Int) := by omega
      obtain ⟨b, rfl⟩ : ∃ b, a = some ⟨b, 0, none⟩ := by
        rcases HO.out.2 with ⟨e, h0⟩ | ⟨b, c2, cur, e, _⟩
        · omega
        · simp at e; exact ⟨b, e.1⟩
      rw [← hy] at HO
      have hbl := HO.out.lt b rfl
      obtain ⟨y, hyk⟩ : ∃ y, ys[k]? = some y := ⟨_, List.getElem?_eq_getElem (by omega)⟩
      have cell0 := HO.out.cellAt hyk
      clear hyk
      rw [hy] at HO
      clear hy
      go_wp2_with fail
      have bd : Below wr.heap.size wr wr.drew := (Below.refl _ _).drew
      have HOD := Lib.hid (HO.out.below bd)
      have DD := Lib.hid (D.out.below bd)
      have s0 : wr.drew.cell? ⟨b, k, none⟩ = some (.int .i64 y) ∧ True := ⟨cell0, trivial⟩
      refine wp_regionZ (fun w' => w'.cell? ⟨b, k, none⟩ = some (.int .i64 y) ∧ True) 11 (by kernel_rfl) ?_
      have hbd : b < wr.drew.heap.size := hbl.2
      have hgd : g < wr.drew.heap.size := DD.out.hi
      have hzd : W.heap.size ≤ wr.drew.heap.size := DD.out.bel.size
      clear HO D bd cell0
      generalize wr.drew = wd at *
      refine wpAnyZ_takeC (i := 0) (v := ?_) [10, 11] rfl (by kernel_rfl) (by kernel_rfl) (by kernel_rfl) (by kernel_rfl) (by kernel_rfl) (by kernel_rfl) (fun _ _ _ h => h) (s0) (by rfl) ?_ ?_
      rotate_left
      · intro x hx; obtain ⟨u1, u2⟩ := hx; go_simp; try (with_reducible rfl)
      try simp only [Act.put, List.setIfInBounds_toArray, List.set_cons_zero, List.set_cons_succ, List.getElem_toArray, List.getElem_cons_zero, List.getElem_cons_succ]
      refine wpAnyZ_takeC (i := 1) (v := ?_) [10, 11] rfl (by kernel_rfl) (by kernel_rfl) (by kernel_rfl) (by kernel_rfl) (by kernel_rfl) (by kernel_rfl) (fun _ _ _ h => h) (s0) (by rfl) ?_ ?_
      rotate_left
      · intro x hx; obtain ⟨u1, u2⟩ := hx; go_simp; try (with_reducible rfl)
      try simp only [Act.put, List.setIfInBounds_toArray, List.set_cons_zero, List.set_cons_succ, List.getElem_toArray, List.getElem_cons_zero, List.getElem_cons_succ]
      refine wpAnyZ_takeC (i := 2) (v := ?_) [10, 11] rfl (by kernel_rfl) (by kernel_rfl) (by kernel_rfl) (by kernel_rfl) (by kernel_rfl) (by kernel_rfl) (fun _ _ _ h => h) (s0) (by rfl) ?_ ?_
      rotate_left
      · intro x hx; obtain ⟨u1, u2⟩ := hx; go_simp; try (with_reducible rfl)
      try simp only [Act.put, List.setIfInBounds_toArray, List.set_cons_zero, List.set_cons_succ, List.getElem_toArray, List.getElem_cons_zero, List.getElem_cons_succ]
      refine wpAnyZ_takeC (i := 3) (v := ?_) [10, 11] rfl (by kernel_rfl) (by kernel_rfl) (by kernel_rfl) (by kernel_rfl) (by kernel_rfl) (by kernel_rfl) (fun _ _ _ h => h) (s0) (by rfl) ?_ ?_
      rotate_left
      · intro x hx; obtain ⟨u1, u2⟩ := hx; go_simp; try (with_reducible rfl)
      try simp only [Act.put, List.setIfInBounds_toArray, List.set_cons_zero, List.set_cons_succ, List.getElem_toArray, List.getElem_cons_zero, List.getElem_cons_succ]
      refine wpAnyZ_takeC (i := 4) (v := ?_) [10, 11] rfl (by kernel_rfl) (by kernel_rfl) (by kernel_rfl) (by kernel_rfl) (by kernel_rfl) (by kernel_rfl) (fun _ _ _ h => h) (s0) (by rfl) ?_ ?_
      rotate_left
      · intro x hx; obtain ⟨u1, u2⟩ := hx; go_simp; try (with_reducible rfl)
      try simp only [Act.put, List.setIfInBounds_toArray, List.set_cons_zero, List.set_cons_succ, List.getElem_toArray, List.getElem_cons_zero, List.getElem_cons_succ]
      refine wpAnyZ_takeC (i := 5) (v := ?_) [10, 11] rfl (by kernel_rfl) (by kernel_rfl) (by kernel_rfl) (by kernel_rfl) (by kernel_rfl) (by kernel_rfl) (fun _ _ _ h => h) (s0) (by rfl) ?_ ?_
      rotate_left
      · intro x hx; obtain ⟨u1, u2⟩ := hx; go_simp; try (with_reducible rfl)
      try simp only [Act.put, List.setIfInBounds_toArray, List.set_cons_zero, List.set_cons_succ, List.getElem_toArray, List.getElem_cons_zero, List.getElem_cons_succ]
      refine wpAnyZ_takeC (i := 6) (v := ?_) [10, 11] rfl (by kernel_rfl) (by kernel_rfl) (by kernel_rfl) (by kernel_rfl) (by kernel_rfl) (by kernel_rfl) (fun _ _ _ h => h) (s0) (by rfl) ?_ ?_
      rotate_left
      · intro x hx; obtain ⟨u1, u2⟩ := hx; go_simp; try (with_reducible rfl)
      try simp only [Act.put, List.setIfInBounds_toArray, List.set_cons_zero, List.set_cons_succ, List.getElem_toArray, List.getElem_cons_zero, List.getElem_cons_succ]
      have bl := belAl wd (.cells #[.int .i64 2, .int .i64 2, .int .i64 6, .int .i64 0] 3)
      have sA : (wd.alloc (.cells #[.int .i64 2, .int .i64 2, .int .i64 6, .int .i64 0] 3)).cell? ⟨b, k, none⟩ = some (.int .i64 y) ∧ True := ⟨(bl.cell (p := ⟨b, k, none⟩) hbd).trans s0.1, trivial⟩
      have HLIT : Hid (OwnInts (wd.alloc (.cells #[.int .i64 2, .int .i64 2, .int .i64 6, .int .i64 0] 3)) wd.heap.size (.slice (some ⟨wd.heap.size, 0, none⟩) 4 4) [2, 2, 6, 0]) := Lib.hid ⟨by simp, .inr ⟨wd.heap.size, 4, _, rfl, Nat.le_refl _, heap_alloc_new wd _, Nat.le_refl _, by decide, rfl, by simp⟩⟩
      have HOA := Lib.hid (HOD.out.below bl)
      have DA := Lib.hid (DD.out.below bl)
      clear bl HOD DD
      refine wpAnyZ_step (i := 7) (by kernel_rfl) rfl (by rfl) ?_
      intro KK hKK
      go_simp
      refine hKK.out _ _ (.inr sA) ?_
      clear hKK KK
      try simp only [Act.put, List.setIfInBounds_toArray, List.set_cons_zero, List.set_cons_succ, List.getElem_toArray, List.getElem_cons_zero, List.getElem_cons_succ]
      refine wpAnyZ_step (i := 8) (by kernel_rfl) rfl (by rfl) ?_
      intro KK hKK
      go_simp
      go_at_call 93
      refine (HP.out _ g DA.out _ (by omega) _ _ HLIT.out (by simp) (by simp)).mono ?_
      rintro e w7 ⟨z, -, rfl, d7, k7⟩
      have D7 := Lib.hid d7
      have HO7 := Lib.hid (HOA.out.on k7 (by omega))
      have s7 : w7.cell? ⟨b, k, none⟩ = some (.int .i64 y) ∧ True := ⟨(k7.cell (by simp; omega) (by omega)).trans sA.1, trivial⟩
      have f7 : w7.frozen? ⟨b, k, none⟩ = false := by have h9 := HO7.out; rw [← HY.out] at h9; exact h9.frozAt k
      clear d7 k7 DA HOA HLIT sA s0
      go_wp2_with fail
      refine hKK.out _ _ (.inr s7) ?_
      clear hKK KK
      try simp only [Act.put, List.setIfInBounds_toArray, List.set_cons_zero, List.set_cons_succ, List.getElem_toArray, List.getElem_cons_zero, List.getElem_cons_succ]
      refine wpAnyZ_step (i := 9) (by kernel_rfl) rfl (by rfl) ?_
      intro KK hKK
      go_simp
      refine hKK.out _ _ (.inr s7) ?_
      clear hKK KK
      try simp only [Act.put, List.setIfInBounds_toArray, List.set_cons_zero, List.set_cons_succ, List.getElem_toArray, List.getElem_cons_zero, List.getElem_cons_succ]
      refine wpAnyZ_step (i := 10) (by kernel_rfl) rfl (by rfl) ?_
      intro KK hKK
      go_simp
      refine hKK.out _ _ (.inr s7) ?_
      clear hKK KK
      try simp only [Act.put, List.setIfInBounds_toArray, List.set_cons_zero, List.set_cons_succ, List.getElem_toArray, List.getElem_cons_zero, List.getElem_cons_succ]
      obtain ⟨cc, -⟩ := s7
      refine wpAnyZ_step (i := 11) (by kernel_rfl) rfl (by rfl) ?_
      intro KK hKK
      go_simp
      refine hKK.out _ _ (.inl (by kernel_rfl)) ?_
      clear hKK KK
      try simp only [Act.put, List.setIfInBounds_toArray, List.set_cons_zero, List.set_cons_succ, List.getElem_toArray, List.getElem_cons_zero, List.getElem_cons_succ]
      refine wpAnyZ_done (by kernel_rfl) ?_ _
      have HF : Hid (OwnInts (w7.setCell ⟨b, k, none⟩ (.int .i64 (wrap64 (y * z)))) w2.heap.size (.slice (some ⟨b, 0, none⟩) m c) (ys.set k (wrap64 (y * z)))) := Lib.hid (by
        have h9 := HO7.out
        rw [← HY.out] at h9 ⊢
        exact h9.setAt _)
      have DF := Lib.hid (D7.out.kept (keptSet (S := fun j => j = b) (b := b) (j := k) (x := .int .i64 (wrap64 (y * z))) rfl) (by omega) (fun j hj => by omega))
      clear HO7 D7 cc f7
      go_wp2_with fail
      go_roundw
      case rel => exact ⟨k + 1, ys.set k (wrap64 (y * z)), by omega, by go_num, by rw [List.length_set]; exact HY.out, HF.out, DF.out⟩
      case measure => simp [intOf]; omega
    · obtain rfl : k = m := by omega
      have hfin : ∀ w9, OwnInts w9 w2.heap.size (.slice a k c) ys → OwnInts w9 W.heap.size (.slice a k c) ys := fun w9 h => ownsRow_base h (by omega)
      by_cases h0 : (0 : Int) < (k : Int)
      · obtain ⟨b, rfl⟩ : ∃ b, a = some ⟨b, 0, none⟩ := by
          rcases HO.out.2 with ⟨e, h0⟩ | ⟨b, c2, cur, e, _⟩
          · omega
          · simp at e; exact ⟨b, e.1⟩
        clear hy
        go_wp2_with fail
        refine (HOn.out 10 wr g (by decide) D.out).mono ?_
        rintro e w4 ⟨bq, rfl, d4, k4⟩
        have D4 := Lib.hid d4
        have HO4 := Lib.hid (HO.out.on k4 (by omega))
        clear d4 k4 HO D
        have f4 : w4.frozen? ⟨b, 0, none⟩ = false := by have h9 := HO4.out; rw [← HY.out] at h9; exact h9.frozAt 0
        obtain ⟨y, hyk⟩ : ∃ y, ys[0]? = some y := ⟨_, List.getElem?_eq_getElem (by have := HY.out; omega)⟩
        have c4 : w4.cell? ⟨b, 0, none⟩ = some (.int .i64 y) := by
          have h9 := HO4.out
          rw [← HY.out] at h9
          exact h9.cellAt hyk
        clear hyk
        have hbl := HO4.out.lt b rfl
        cases bq
        · go_wp2_with fail
          go_ret
          exact ⟨_, ys, rfl, hfin _ HO4.out, by have := HY.out; omega, D4.out.bel⟩
        · have HF : Hid (OwnInts (w4.setCell ⟨b, 0, none⟩ (.int .i64 (-9223372036854775808))) w2.heap.size (.slice (some ⟨b, 0, none⟩) k c) (ys.set 0 (-9223372036854775808))) := Lib.hid (by
            have h9 := HO4.out
            rw [← HY.out] at h9 ⊢
            exact h9.setAt _)
          have BF := Lib.hid (D4.out.bel.trans ((keptSet (S := fun j => j = b) (W := w4) (b := b) (j := 0) (x := .int .i64 (-9223372036854775808)) rfl).below D4.out.bel.size (fun j hj e => by omega)))
          go_wp2_with fail
          go_ret
          exact ⟨_, ys.set 0 (-9223372036854775808), rfl, ownsRow_base HF.out (by omega), by rw [List.length_set]; have := HY.out; omega, BF.out⟩
      · go_wp2_with fail
        go_ret
        exact ⟨_, rfl, ys, hfin _ HO.out, by have := HY.out; omega, D.out.bel⟩
end Go.Proofs.Ytfdhbbhfilkafaa
