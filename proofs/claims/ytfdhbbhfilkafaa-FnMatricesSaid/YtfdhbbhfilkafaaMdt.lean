/- What FnMatrices draws: DrawNullspaceOf, DrawTimesVector, DrawPrimitiveVector, DrawGcdOf of the reference. No condition but sizes. -/
import Derived.Test.YtfdhbbhfilkafaaMds
import Derived.Test.YtfdhbbhfilkafaaPrim
namespace Go.Proofs.Ytfdhbbhfilkafaa
open Go.RowKit
set_option maxRecDepth 100000
set_option linter.unusedVariables false
set_option linter.unusedSimpArgs false
theorem FrIntss.low {W : World} {lo lo' n : Nat} {a : Option Addr} {ll : List (List Int)} (h : FrIntss W lo a n ll) (hl : lo' ≤ lo) : FrIntss W lo' a n ll :=
  ⟨h.1, fun k hk => by
    obtain ⟨b, off, ar, cr, r, h1, h2, h3, h4, h5, h6, h7⟩ := h.2 k hk
    exact ⟨b, off, ar, cr, r, h1, h2, Nat.le_trans hl h3, h4, h5, h6, fun b' off' e => Nat.le_trans hl (h7 b' off' e)⟩⟩
def SmM (ll : List (List Int)) : Prop := (1 ≤ ll.length ∧ ll.length ≤ 5) ∧ ∀ r ∈ ll, r.length ≤ 5
set_option maxHeartbeats 4000000 in
theorem drawNull_at (W : World) (ca : Option Addr) (n cap : Nat) (l : List Int) (hB : BytesAt W ca n l) (hn : n ≤ 1048576) : Calls Try.prog 39 #[.slice ca n cap] W fun e w' => ∃ a c ll, e = .returned (.slice a ll.length c) ∧ FrIntss w' W.heap.size a ll.length ll ∧ SmM ll ∧ Below W.heap.size W w' := by
  have HN := Lib.hid (l1New_at W ca n cap l hB hn)
  have HM : Hid (∀ w g, Drw W w g ca n cap l → Calls Try.prog 86 #[.pointer (some ⟨g, 0, none⟩)] w (RetDm W w g ca n cap l)) := Lib.hid fun w g h => l9Matrix_at W w g ca n cap l hB (by omega) h
  clear hB
  go_enter Try.func39, Try.ntmps39
  go_wp2_with fail
  refine HN.out.mono ?_
  rintro e w1 ⟨g, rfl, d1⟩
  have D := Lib.hid d1
  have hz1 := d1.bel.size
  clear d1
  go_wp2_with fail
  refine (HM.out w1 g D.out).mono ?_
  rintro e w2 ⟨a, c, ll, rfl, hf, h1, h2, d2, k2⟩
  have HF := Lib.hid (And.intro (hf.low hz1) (And.intro (And.intro h1 h2) d2.bel))
  clear hf h1 h2 d2 k2
  go_wp2_with fail
  go_ret
  exact ⟨a, c, ll, rfl, HF.out.1, HF.out.2.1, HF.out.2.2⟩
set_option maxHeartbeats 4000000 in
theorem drawTimes_at (W : World) (ca : Option Addr) (n cap : Nat) (l : List Int) (hB : BytesAt W ca n l) (hn : n ≤ 1048576) : Calls Try.prog 50 #[.slice ca n cap] W fun e w' => ∃ a c ll v xs, e = .returned (.tuple #[.slice a ll.length c, v]) ∧ FrIntss w' W.heap.size a ll.length ll ∧ SmM ll ∧ OwnInts w' W.heap.size v xs ∧ xs.length ≤ 5 ∧ Below W.heap.size W w' := by
  have HN := Lib.hid (l1New_at W ca n cap l hB hn)
  have HM : Hid (∀ w g, Drw W w g ca n cap l → Calls Try.prog 86 #[.pointer (some ⟨g, 0, none⟩)] w (RetDm W w g ca n cap l)) := Lib.hid fun w g h => l9Matrix_at W w g ca n cap l hB (by omega) h
  have HV : Hid (∀ w g (m : Nat), Drw W w g ca n cap l → m ≤ 1000 → Calls Try.prog 91 #[.pointer (some ⟨g, 0, none⟩), .int .i64 m] w fun e w' => ∃ v xs, e = .returned v ∧ OwnInts w' w.heap.size v xs ∧ xs.length = m ∧ (∀ x ∈ xs, -6 ≤ x ∧ x ≤ 6) ∧ Drw W w' g ca n cap l ∧ Kept (fun b => b = g) w w') := Lib.hid fun w g m h hm => l9Vector_at W w g ca n cap l hB (by omega) h m hm
  clear hB
  go_enter Try.func50, Try.ntmps50
  go_wp2_with fail
  refine HN.out.mono ?_
  rintro e w1 ⟨g, rfl, d1⟩
  have D := Lib.hid d1
  have hz1 := d1.bel.size
  have hg1 := d1.hi
  clear d1
  go_wp2_with fail
  refine (HM.out w1 g D.out).mono ?_
  rintro e w2 ⟨a, c, ll, rfl, hf, h1, h2, d2, k2⟩
  have HF := Lib.hid (And.intro hf (And.intro (And.intro h1 h2) d2))
  have hz2 := k2.size
  obtain ⟨j, hj⟩ : ∃ j, ll.length = j + 1 := ⟨ll.length - 1, by omega⟩
  obtain ⟨b, off, ar, cr, r, rfl, hb, -, hr, hcell, -, -⟩ := hf.2 j (by omega)
  have hr5 := h2 r (List.mem_of_getElem? hr)
  have hjl : (j : Int) < (ll.length : Int) := by omega
  have hj0 : (0 : Int) ≤ (j : Int) := by omega
  have hjn : j < ll.length := by omega
  have hjj : (ll.length : Int) - 1 = (j : Int) := by omega
  have hwj := IntWalk.i64_in (j : Int) (by omega)
  clear hf d2 k2 h1 h2 D hr hj
  go_wp2_with fail
  refine (HV.out w2 g r.length HF.out.2.2 (by omega)).mono ?_
  rintro e w3 ⟨v, xs, rfl, ho, hx, -, d3, k3⟩
  have HG := Lib.hid (And.intro (HF.out.1.kept k3 fun b hb e => by omega) (And.intro ho (And.intro hx d3.bel)))
  clear ho hx d3 k3 hcell
  go_wp2_with fail
  refine bodyPost_ret (v := .tuple #[.slice (some ⟨b, off, none⟩) ll.length c, v]) (by simp [results, Try.results50, go_sem]) rfl ?_
  exact ⟨_, c, ll, v, xs, rfl, HG.out.1.low hz1, HF.out.2.1, ownsRow_base HG.out.2.1 (by omega), by have := HG.out.2.2.1; omega, HG.out.2.2.2⟩
set_option maxHeartbeats 4000000 in
theorem drawGcd_at (W : World) (ca : Option Addr) (n cap : Nat) (l : List Int) (hB : BytesAt W ca n l) (hn : n ≤ 1048576) : Calls Try.prog 52 #[.slice ca n cap] W fun e w' => ∃ x y : Int, e = .returned (.tuple #[.int .i64 x, .int .i64 y]) ∧ Below W.heap.size W w' := by
  have HN := Lib.hid (l1New_at W ca n cap l hB hn)
  have HP : Hid (∀ w g, Drw W w g ca n cap l → ∀ base, g < base → ∀ v xs, OwnInts w base v xs → 1 ≤ xs.length → xs.length ≤ 256 → Calls Try.prog 93 #[.pointer (some ⟨g, 0, none⟩), v] w fun e w' => ∃ x, x ∈ xs ∧ e = .returned (.int .i64 x) ∧ Drw W w' g ca n cap l ∧ Kept (fun b => b = g) w w') := Lib.hid fun w g h base hg v xs ho h1 h2 => l1PickInt_at W w g ca n cap l hB (by omega) h hg ho h1 h2
  clear hB
  go_enter Try.func52, Try.ntmps52
  go_wp2_with fail
  refine HN.out.mono ?_
  rintro e w1 ⟨g, rfl, d1⟩
  have D := Lib.hid d1
  have hg1 := d1.hi
  clear d1
  go_wp2_with fail
  have H7 : Hid (OwnInts (w1.alloc (.cells #[.int .i64 0, .int .i64 12, .int .i64 (-18), .int .i64 7, .int .i64 1000000007, .int .i64 (-9223372036854775808), .int .i64 9223372036854775807] 3)) w1.heap.size (.slice (some ⟨w1.heap.size, 0, none⟩) 7 7) [0, 12, -18, 7, 1000000007, -9223372036854775808, 9223372036854775807]) := Lib.hid ⟨by simp, .inr ⟨w1.heap.size, 7, _, rfl, Nat.le_refl _, heap_alloc_new w1 _, Nat.le_refl _, by decide, rfl, by simp⟩⟩
  refine (HP.out _ g (D.out.below (belAl _ _)) _ hg1 _ _ H7.out (by simp) (by simp)).mono ?_
  rintro e w2 ⟨x, -, rfl, d2, k2⟩
  have D2 := Lib.hid d2
  have hg2 := d2.hi
  clear d2 k2 H7 D
  go_wp2_with fail
  have H5 : Hid (OwnInts (w2.alloc (.cells #[.int .i64 0, .int .i64 8, .int .i64 (-6), .int .i64 7, .int .i64 30] 3)) w2.heap.size (.slice (some ⟨w2.heap.size, 0, none⟩) 5 5) [0, 8, -6, 7, 30]) := Lib.hid ⟨by simp, .inr ⟨w2.heap.size, 5, _, rfl, Nat.le_refl _, heap_alloc_new w2 _, Nat.le_refl _, by decide, rfl, by simp⟩⟩
  refine (HP.out _ g (D2.out.below (belAl _ _)) _ hg2 _ _ H5.out (by simp) (by simp)).mono ?_
  rintro e w3 ⟨y, -, rfl, d3, k3⟩
  have B := Lib.hid d3.bel
  clear d3 k3 H5 D2
  go_wp2_with fail
  refine bodyPost_ret (v := .tuple #[.int .i64 x, .int .i64 y]) (by simp [results, Try.results52, go_sem]) rfl ?_
  exact ⟨x, y, rfl, B.out⟩
end Go.Proofs.Ytfdhbbhfilkafaa
