/- raises of the program (written by gen_rai.py). Conditions: bars in range, at most 8 points. -/
import Derived.Test.YtmfeabfbhaiaeaaImp
import Derived.Deep.RegionHeld3
namespace Go.Proofs.Ytmfeabfbhaiaeaa
open Go.RowKit
set_option maxRecDepth 100000
set_option linter.unusedVariables false
set_option linter.unusedSimpArgs false

theorem R2.al1 {W WU w : World} {l : List BarT} {s5 : Nat} {v : Value} {g : Nat} {x1 x2 : Int} (h : R2 W WU w l 0 s5 v g x1 x2) : R2 W WU (w.alloc (.cells #[] 84)) l 1 s5 (.slice (some ⟨w.heap.size, 0, none⟩) 0 0) g x1 x2 := by
  have b := belAl w (.cells #[] 84)
  refine ⟨h.b.step b, h.k.step b, OwnBars.made w _ h.k.size, fun h5 => ?_⟩
  obtain ⟨c0, c1, cz, _⟩ := h.c h5
  exact ⟨((bcell b).1 _ _ cz).trans c0, ((bcell b).1 _ _ cz).trans c1, Nat.lt_of_lt_of_le cz b.size, fun _ e => by have : w.heap.size = g := Option.some.inj e; omega⟩
theorem R2.al5 {W WU w : World} {l : List BarT} {s1 : Nat} {v : Value} {g : Nat} {x1 x2 : Int} (h : R2 W WU w l s1 0 v g x1 x2) : R2 W WU (w.alloc (.cells #[.int .i64 x1, .int .i64 x2] 84)) l s1 1 v w.heap.size x1 x2 := by
  have b := belAl w (.cells #[.int .i64 x1, .int .i64 x2] 84)
  exact ⟨h.b.step b, h.k.step b, h.t.below b, fun _ => ⟨(ncells2 w _ _ _).1, (ncells2 w _ _ _).2, by simp, fun hs e => by have := (h.t.lt hs _ e).2; omega⟩⟩
theorem R2.ap1 {W WU w w' : World} {l : List BarT} {s5 : Nat} {v v' : Value} {g : Nat} {x1 x2 : Int} (h : R2 W WU w l 1 s5 v g x1 x2) (hu : W.heap.size ≤ WU.heap.size) (ho : OwnBars w' WU.heap.size v' l) (hk : Kept (fun k => some k = v.ownBlock) w w') (ha : v'.ownBlock = v.ownBlock ∨ v'.ownBlock = some w.heap.size) : R2 W WU w' l 2 s5 v' g x1 x2 := by
  have hq : ∀ k, v.ownBlock = some k → WU.heap.size ≤ k ∧ k < w.heap.size := h.t.lt (by decide)
  refine ⟨h.b.trans (hk.below h.b.size fun k h1 h2 => by have := (hq k h2.symm).1; omega), h.k.trans (hk.below h.k.size fun k h1 h2 => by have := (hq k h2.symm).1; omega), ho, fun h5 => ?_⟩
  obtain ⟨c0, c1, cz, cn⟩ := h.c h5
  have n0 : ¬ some g = v.ownBlock := fun e => cn (by decide) e.symm
  refine ⟨(hk.cell cz n0).trans c0, (hk.cell cz n0).trans c1, Nat.lt_of_lt_of_le cz hk.size, fun _ e => ?_⟩
  rcases ha with ha | ha
  · exact n0 (by rw [← ha]; exact e.symm)
  · have : w.heap.size = g := Option.some.inj (ha.symm.trans e); omega

set_option maxHeartbeats 8000000 in
theorem raises_at (W : World) (n : Nat) (hn : n ≤ 8) (a : Option Addr) (cap : Nat) (l : List BarT) (h : BarsAt W a l.length l) (hs : l.length ≤ 1000) (hb : Bok n l) (x1 x2 : Int) (hx : Bok n (l ++ [(x1, x2)])) :
    Calls Try.prog 112 #[.int .i64 (n : Int), .slice a l.length cap, .agg #[.int .i64 x1, .int .i64 x2]] W fun e w' => e = .returned (.bool (decide (rk n l < rk n (l ++ [(x1, x2)])))) ∧ Below W.heap.size W w' := by
  obtain ⟨r1, hr1⟩ : ∃ r1, r1 = rk n l := ⟨_, rfl⟩
  obtain ⟨r2, hr2⟩ : ∃ r2, r2 = rk n (l ++ [(x1, x2)]) := ⟨_, rfl⟩
  have HP := Lib.hid fun (w : World) (b : Below W.heap.size W w) => plane_at w n hn a cap l (h.below b) (by omega) hb
  have HQ0 := fun (w : World) (a' : Option Addr) (cap' : Nat) (i : BarsAt w a' (l ++ [(x1, x2)]).length (l ++ [(x1, x2)])) => plane_at w n hn a' cap' (l ++ [(x1, x2)]) i (by simp; omega) hx
  simp only [show (l ++ [(x1, x2)]).length = l.length + 1 from by simp] at HQ0
  have HQ := Lib.hid HQ0
  clear HQ0
  rw [← hr1] at HP
  rw [← hr2] at HQ
  rw [← hr1, ← hr2]
  have b0 := belAl W (.cells #[.int .i64 x1, .int .i64 x2] 84)
  have f0 := (ncells2 W (.int .i64 x1) (.int .i64 x2) 84).1
  have f1 := (ncells2 W (.int .i64 x1) (.int .i64 x2) 84).2
  have hzz : (W.alloc (.cells #[.int .i64 x1, .int .i64 x2] 84)).heap.size = W.heap.size + 1 := by simp
  have HI := Lib.hid h
  have HF := Lib.hid (And.intro f0 f1)
  clear h hb hx f0 f1 hr1 hr2
  go_enter Try.func112, Try.ntmps112
  go_wp2_with fail
  generalize W.alloc (.cells #[.int .i64 x1, .int .i64 x2] 84) = u at *
  have SK : Hid (∀ w', Below u.drew.heap.size u.drew w' → w'.cell? ⟨W.heap.size, 0, none⟩ = some (.int .i64 x1) ∧ w'.cell? ⟨W.heap.size, 1, none⟩ = some (.int .i64 x2)) := Lib.hid fun w' hb => ⟨((bcell hb).1 _ _ (by show W.heap.size < u.heap.size; omega)).trans HF.out.1, ((bcell hb).1 _ _ (by show W.heap.size < u.heap.size; omega)).trans HF.out.2⟩
  have bd : Below u.drew.heap.size u.drew u.drew := Below.refl _ _
  have bu : Below W.heap.size W u.drew := b0.drew
  have hwu : W.heap.size ≤ u.drew.heap.size := bu.size
  refine wp_regionZ (fun w' => w'.cell? ⟨W.heap.size, 0, none⟩ = some (.int .i64 x1) ∧ w'.cell? ⟨W.heap.size, 1, none⟩ = some (.int .i64 x2)) 12 (by kernel_rfl) ?_
  refine wpAnyZ_take (i := 0) (v := ?_) rfl (by kernel_rfl) (by kernel_rfl) (by kernel_rfl) (by kernel_rfl) (by kernel_rfl) (fun _ _ _ h => h) (SK.out _ bd) (by rfl) ?_ ?_
  rotate_left
  · intro x hx; obtain ⟨u1, u2⟩ := hx; go_simp; try (with_reducible rfl)
  try simp only [Act.put, List.setIfInBounds_toArray, List.set_cons_zero, List.set_cons_succ]
  refine wpAnyZ_take (i := 2) (v := ?_) rfl (by kernel_rfl) (by kernel_rfl) (by kernel_rfl) (by kernel_rfl) (by kernel_rfl) (fun _ _ _ h => h) (SK.out _ bd) (by rfl) ?_ ?_
  rotate_left
  · intro x hx; obtain ⟨u1, u2⟩ := hx; go_simp; try (with_reducible rfl)
  try simp only [Act.put, List.setIfInBounds_toArray, List.set_cons_zero, List.set_cons_succ]
  refine wpAnyZ_take (i := 4) (v := ?_) rfl (by kernel_rfl) (by kernel_rfl) (by kernel_rfl) (by kernel_rfl) (by kernel_rfl) (fun _ _ _ h => h) (SK.out _ bd) (by rfl) ?_ ?_
  rotate_left
  · intro x hx; obtain ⟨u1, u2⟩ := hx; go_simp; try (with_reducible rfl)
  try simp only [Act.put, List.setIfInBounds_toArray, List.set_cons_zero, List.set_cons_succ]
  refine wpAnyZ_take (i := 8) (v := ?_) rfl (by kernel_rfl) (by kernel_rfl) (by kernel_rfl) (by kernel_rfl) (by kernel_rfl) (fun _ _ _ h => h) (SK.out _ bd) (by rfl) ?_ ?_
  rotate_left
  · intro x hx; obtain ⟨u1, u2⟩ := hx; go_simp; try (with_reducible rfl)
  try simp only [Act.put, List.setIfInBounds_toArray, List.set_cons_zero, List.set_cons_succ]
  refine wpAnyZ_take (i := 9) (v := ?_) rfl (by kernel_rfl) (by kernel_rfl) (by kernel_rfl) (by kernel_rfl) (by kernel_rfl) (fun _ _ _ h => h) (SK.out _ bd) (by rfl) ?_ ?_
  rotate_left
  · intro x hx; obtain ⟨u1, u2⟩ := hx; go_simp; try (with_reducible rfl)
  try simp only [Act.put, List.setIfInBounds_toArray, List.set_cons_zero, List.set_cons_succ]
  refine wpAnyZ_abs fun Z ND DN => ?_
  have Z21 : Hid (∀ (A1 A3 : Value) (g : Nat) (w : World), R2 W u.drew w l 2 1 (A3) g x1 x2 → Z 5 #[true, true, true, true, true, true, false, false, true, true, false, false, false] { tmps := #[.int .i64 (n : Int), .slice a l.length cap, .agg #[.int .i64 x1, .int .i64 x2], undef, undef, .pointer (some ⟨W.heap.size, 0, none⟩), .bool false, .int .i64 (n : Int), A1, .slice a l.length cap, A3, .agg #[.int .i64 x1, .int .i64 x2], .slice (some ⟨g, 0, none⟩) 1 1, undef, undef, .int .i64 (n : Int), .slice a l.length cap, undef, undef], defers := [] } w) := Lib.hid (by
    intro A1 A3 g w hc
    have HC := Lib.hid hc
    clear hc
    obtain ⟨k0, k1, kz, kn⟩ := HC.out.c (by decide)
    have hsz := HC.out.k.size
    refine ND.out _ _ _ _ [6] (by kernel_rfl) (by decide) ?_
    intro i hi
    obtain rfl : i = 6 := by simpa using hi
    refine ⟨_, rfl, by rfl, ?_⟩
    intro KK hKK
    refine stepBarX (by rfl) _ _ (by rfl) (by rfl) HC.out.t x1 x2 g (by rfl) k0 k1 (by omega) hsz ?_
    intro v6 w6 h6 k6 a6
    obtain ⟨a9, c9, rfl, i9⟩ := h6.form
    have hq := HC.out.t.lt (by decide)
    have bW := Lib.hid (HC.out.b.trans (k6.below HC.out.b.size fun k h1 h2 => by have := (hq k h2.symm).1; omega))
    have bK := Lib.hid (HC.out.k.trans (k6.below HC.out.k.size fun k h1 h2 => by have := (hq k h2.symm).1; omega))
    have HI9 := Lib.hid i9
    clear h6 k6 a6 hq i9 k0 k1 kz kn
    refine hKK.out _ _ (.inr (SK.out _ bK.out)) ?_
    clear hKK KK
    try simp only [Act.put, List.setIfInBounds_toArray, List.set_cons_zero, List.set_cons_succ]
    refine ND.out _ _ _ _ [7] (by kernel_rfl) (by decide) ?_
    intro i hi
    obtain rfl : i = 7 := by simpa using hi
    refine ⟨_, rfl, by rfl, ?_⟩
    intro KK hKK
    go_simp
    go_at_call 129
    refine (HQ.out w6 a9 c9 (by have h9 := HI9.out; rwa [show (l ++ [(x1, x2)]).length = l.length + 1 from by simp] at h9)).mono ?_
    rintro r w7 ⟨rfl, b7⟩
    have bW7 := Lib.hid (bW.out.step b7)
    have bK7 := Lib.hid (bK.out.step b7)
    clear b7
    go_wp2_with fail
    refine hKK.out _ _ (.inr (SK.out _ bK7.out)) ?_
    clear hKK KK
    try simp only [Act.put, List.setIfInBounds_toArray, List.set_cons_zero, List.set_cons_succ]
    refine ND.out _ _ _ _ [10] (by kernel_rfl) (by decide) ?_
    intro i hi
    obtain rfl : i = 10 := by simpa using hi
    refine ⟨_, rfl, by rfl, ?_⟩
    intro KK hKK
    go_simp
    go_at_call 129
    refine (HP.out w7 bW7.out).mono ?_
    rintro r w8 ⟨rfl, b8⟩
    have bW8 := Lib.hid (bW7.out.step b8)
    have bK8 := Lib.hid (bK7.out.step b8)
    clear b8
    go_wp2_with fail
    refine hKK.out _ _ (.inr (SK.out _ bK8.out)) ?_
    clear hKK KK
    try simp only [Act.put, List.setIfInBounds_toArray, List.set_cons_zero, List.set_cons_succ]
    refine ND.out _ _ _ _ [11] (by kernel_rfl) (by decide) ?_
    intro i hi
    obtain rfl : i = 11 := by simpa using hi
    refine ⟨_, rfl, by rfl, ?_⟩
    intro KK hKK
    go_simp
    refine hKK.out _ _ (.inr (SK.out _ bK8.out)) ?_
    clear hKK KK
    try simp only [Act.put, List.setIfInBounds_toArray, List.set_cons_zero, List.set_cons_succ]
    refine ND.out _ _ _ _ [12] (by kernel_rfl) (by decide) ?_
    intro i hi
    obtain rfl : i = 12 := by simpa using hi
    refine ⟨_, rfl, by rfl, ?_⟩
    intro KK hKK
    go_simp
    refine hKK.out _ _ (.inl (by kernel_rfl)) ?_
    clear hKK KK
    try simp only [Act.put, List.setIfInBounds_toArray, List.set_cons_zero, List.set_cons_succ]
    refine DN.out _ _ _ _ (by kernel_rfl) ?_
    try simp only [Act.put, List.setIfInBounds_toArray, List.set_cons_zero, List.set_cons_succ]
    clear ND DN
    go_wp2_with fail
    go_ret
    exact ⟨by simp, bW8.out⟩)
  have Z20 : Hid (∀ (A1 A3 : Value) (g : Nat) (w : World), R2 W u.drew w l 2 0 (A3) g x1 x2 → Z 6 #[true, true, true, true, true, false, false, false, true, true, false, false, false] { tmps := #[.int .i64 (n : Int), .slice a l.length cap, .agg #[.int .i64 x1, .int .i64 x2], undef, undef, .pointer (some ⟨W.heap.size, 0, none⟩), .bool false, .int .i64 (n : Int), A1, .slice a l.length cap, A3, .agg #[.int .i64 x1, .int .i64 x2], undef, undef, undef, .int .i64 (n : Int), .slice a l.length cap, undef, undef], defers := [] } w) := Lib.hid (by
    intro A1 A3 g w hc
    have HC := Lib.hid hc
    clear hc
    refine ND.out _ _ _ _ [5] (by kernel_rfl) (by decide) ?_
    intro i hi
    simp only [List.mem_cons, List.not_mem_nil, or_false] at hi
    subst hi
    · refine ⟨_, rfl, by rfl, ?_⟩
      intro KK hKK
      have HN := Lib.hid (R2.al5 HC.out)
      go_simp
      refine hKK.out _ _ (.inr (SK.out _ HN.out.k)) ?_
      clear hKK KK
      simp only [Act.put, List.setIfInBounds_toArray, List.set_cons_zero, List.set_cons_succ]
      exact Z21.out _ _ _ _ HN.out)
  have Z11 : Hid (∀ (A1 : Value) (g : Nat) (w : World), R2 W u.drew w l 1 1 (A1) g x1 x2 → Z 6 #[true, true, true, false, true, true, false, false, true, true, false, false, false] { tmps := #[.int .i64 (n : Int), .slice a l.length cap, .agg #[.int .i64 x1, .int .i64 x2], undef, undef, .pointer (some ⟨W.heap.size, 0, none⟩), .bool false, .int .i64 (n : Int), A1, .slice a l.length cap, undef, .agg #[.int .i64 x1, .int .i64 x2], .slice (some ⟨g, 0, none⟩) 1 1, undef, undef, .int .i64 (n : Int), .slice a l.length cap, undef, undef], defers := [] } w) := Lib.hid (by
    intro A1 g w hc
    have HC := Lib.hid hc
    clear hc
    refine ND.out _ _ _ _ [3] (by kernel_rfl) (by decide) ?_
    intro i hi
    simp only [List.mem_cons, List.not_mem_nil, or_false] at hi
    subst hi
    · refine ⟨_, rfl, by rfl, ?_⟩
      intro KK hKK
      refine stepAppBars (by rfl) _ _ (by rfl) (by rfl) HC.out.t (by rfl) (HI.out.below HC.out.b) (by simp; omega) HC.out.k.size ?_
      intro v1 w1 h1 k1 a1
      rw [List.nil_append] at h1
      have HN := Lib.hid (R2.ap1 HC.out hwu h1 k1 a1)
      refine hKK.out _ _ (.inr (SK.out _ HN.out.k)) ?_
      clear hKK KK
      simp only [Act.put, List.setIfInBounds_toArray, List.set_cons_zero, List.set_cons_succ]
      exact Z21.out _ _ _ _ HN.out)
  have Z01 : Hid (∀ (g : Nat) (w : World), R2 W u.drew w l 0 1 (undef) g x1 x2 → Z 7 #[true, false, true, false, true, true, false, false, true, true, false, false, false] { tmps := #[.int .i64 (n : Int), .slice a l.length cap, .agg #[.int .i64 x1, .int .i64 x2], undef, undef, .pointer (some ⟨W.heap.size, 0, none⟩), .bool false, .int .i64 (n : Int), undef, .slice a l.length cap, undef, .agg #[.int .i64 x1, .int .i64 x2], .slice (some ⟨g, 0, none⟩) 1 1, undef, undef, .int .i64 (n : Int), .slice a l.length cap, undef, undef], defers := [] } w) := Lib.hid (by
    intro g w hc
    have HC := Lib.hid hc
    clear hc
    refine ND.out _ _ _ _ [1] (by kernel_rfl) (by decide) ?_
    intro i hi
    simp only [List.mem_cons, List.not_mem_nil, or_false] at hi
    subst hi
    · refine ⟨_, rfl, by rfl, ?_⟩
      intro KK hKK
      have HN := Lib.hid (R2.al1 HC.out)
      go_simp
      refine hKK.out _ _ (.inr (SK.out _ HN.out.k)) ?_
      clear hKK KK
      simp only [Act.put, List.setIfInBounds_toArray, List.set_cons_zero, List.set_cons_succ]
      exact Z11.out _ _ _ HN.out)
  have Z10 : Hid (∀ (A1 : Value) (g : Nat) (w : World), R2 W u.drew w l 1 0 (A1) g x1 x2 → Z 7 #[true, true, true, false, true, false, false, false, true, true, false, false, false] { tmps := #[.int .i64 (n : Int), .slice a l.length cap, .agg #[.int .i64 x1, .int .i64 x2], undef, undef, .pointer (some ⟨W.heap.size, 0, none⟩), .bool false, .int .i64 (n : Int), A1, .slice a l.length cap, undef, .agg #[.int .i64 x1, .int .i64 x2], undef, undef, undef, .int .i64 (n : Int), .slice a l.length cap, undef, undef], defers := [] } w) := Lib.hid (by
    intro A1 g w hc
    have HC := Lib.hid hc
    clear hc
    refine ND.out _ _ _ _ [3, 5] (by kernel_rfl) (by decide) ?_
    intro i hi
    simp only [List.mem_cons, List.not_mem_nil, or_false] at hi
    rcases hi with rfl | rfl
    · refine ⟨_, rfl, by rfl, ?_⟩
      intro KK hKK
      refine stepAppBars (by rfl) _ _ (by rfl) (by rfl) HC.out.t (by rfl) (HI.out.below HC.out.b) (by simp; omega) HC.out.k.size ?_
      intro v1 w1 h1 k1 a1
      rw [List.nil_append] at h1
      have HN := Lib.hid (R2.ap1 HC.out hwu h1 k1 a1)
      refine hKK.out _ _ (.inr (SK.out _ HN.out.k)) ?_
      clear hKK KK
      simp only [Act.put, List.setIfInBounds_toArray, List.set_cons_zero, List.set_cons_succ]
      exact Z20.out _ _ _ _ HN.out
    · refine ⟨_, rfl, by rfl, ?_⟩
      intro KK hKK
      have HN := Lib.hid (R2.al5 HC.out)
      go_simp
      refine hKK.out _ _ (.inr (SK.out _ HN.out.k)) ?_
      clear hKK KK
      simp only [Act.put, List.setIfInBounds_toArray, List.set_cons_zero, List.set_cons_succ]
      exact Z11.out _ _ _ HN.out)
  have Z00 : Hid (∀ (g : Nat) (w : World), R2 W u.drew w l 0 0 (undef) g x1 x2 → Z 8 #[true, false, true, false, true, false, false, false, true, true, false, false, false] { tmps := #[.int .i64 (n : Int), .slice a l.length cap, .agg #[.int .i64 x1, .int .i64 x2], undef, undef, .pointer (some ⟨W.heap.size, 0, none⟩), .bool false, .int .i64 (n : Int), undef, .slice a l.length cap, undef, .agg #[.int .i64 x1, .int .i64 x2], undef, undef, undef, .int .i64 (n : Int), .slice a l.length cap, undef, undef], defers := [] } w) := Lib.hid (by
    intro g w hc
    have HC := Lib.hid hc
    clear hc
    refine ND.out _ _ _ _ [1, 5] (by kernel_rfl) (by decide) ?_
    intro i hi
    simp only [List.mem_cons, List.not_mem_nil, or_false] at hi
    rcases hi with rfl | rfl
    · refine ⟨_, rfl, by rfl, ?_⟩
      intro KK hKK
      have HN := Lib.hid (R2.al1 HC.out)
      go_simp
      refine hKK.out _ _ (.inr (SK.out _ HN.out.k)) ?_
      clear hKK KK
      simp only [Act.put, List.setIfInBounds_toArray, List.set_cons_zero, List.set_cons_succ]
      exact Z10.out _ _ _ HN.out
    · refine ⟨_, rfl, by rfl, ?_⟩
      intro KK hKK
      have HN := Lib.hid (R2.al5 HC.out)
      go_simp
      refine hKK.out _ _ (.inr (SK.out _ HN.out.k)) ?_
      clear hKK KK
      simp only [Act.put, List.setIfInBounds_toArray, List.set_cons_zero, List.set_cons_succ]
      exact Z01.out _ _ HN.out)
  exact Z00.out 0 _ ⟨bu, bd, trivial, fun h => absurd rfl h⟩
end Go.Proofs.Ytmfeabfbhaiaeaa
